/- Part of the theory that the claims of this work use: PwFresh, PwBare, PwSim, PwCanon, PwPrim, PwCode, PwDen, PwCk, PwSimp, PwZip. No conditions of its own. -/
import Derived.Test.YtlkfpgggbjlfgaaGreatT3
section
set_option linter.unusedSimpArgs false
set_option linter.unusedVariables false
namespace Go.Pw
open Go Go.Pav
section
variable {ρ ρ2:Nat→Nat} {V A V2 A2:Nat→Prop} {b nid b' mid:Nat}
theorem Ib {R:AV→AV→Prop}:∀ (l l':List AV),l.length=l'.length→(∀ (j:Nat) (x x':AV),l[j]?=some x→l'[j]?=some x'→∀ y,hand b nid x=some y→∃ y',hand b' mid x'=some y'∧R y y') →
 ∀ r,nP b nid l=some r→∃ r',nP b' mid l'=some r'∧bf R r r':=by
 intro l
 induction l with
 | nil =>
  intro l' hl _ r hr
  simp only [nP,Option.some.injEq] at hr
  subst hr
  have:l'=[]:=List.length_eq_zero_iff.1 hl.symm
  subst this
  exact ⟨[],rfl,.nil⟩
 | cons a l ih =>
  intro l' hl hh r hr
  cases l' with
  | nil=>simp at hl
  | cons a' l' =>
   simp only [nP] at hr
   obtain ⟨y,h1,hr⟩:=ak hr
   obtain ⟨ys,h2,rfl⟩:=aC hr
   obtain ⟨y',h3,h4⟩:=hh 0 a a' (by simp) (by simp) y h1
   obtain ⟨ys',h5,h6⟩:=ih l' (by simpa using hl) (fun j x x' p q=>hh (j+1) x x' (by simpa using p) (by simpa using q)) ys h2
   exact ⟨y'::ys',by simp only [nP,h3,h5,ob,om],.cons h4 h6⟩
theorem LU (hb:A b→(¬ V b∧b'=ρ b∧A2 nid∧¬ V2 nid∧ρ2 nid=mid)∨(V b∧A2 nid∧V2 nid)) {v u:AV} (hv:VW ρ V A v u):∀ v',hand b nid v=some v'→∃ u',hand b' mid u=some u'∧VW ρ2 V2 A2 v' u':=by
 have data:∀ {A:Nat→Prop} {x y:AV},isC x=true→VW ρ V A x y→VW ρ2 V2 A2 x y:=fun hx h=>h.isC hx
 induction hv with
 | undef v=>intro v' h;simp [hand] at h
 | bool t=>intro v' h;simp only [hand] at h;cases h;exact ⟨_,rfl,.bool t⟩
 | int k n=>intro v' h;simp only [hand] at h;cases h;exact ⟨_,rfl,.int k n⟩
 | str s=>intro v' h;simp only [hand] at h;cases h;exact ⟨_,rfl,.str s⟩
 | dV=>intro v' h;simp only [hand] at h;cases h;exact ⟨_,rfl,.dV⟩
 | aZ=>intro v' h;simp only [hand] at h;cases h;exact ⟨_,rfl,.aZ⟩
 | dN=>intro v' h;simp only [hand] at h;cases h;exact ⟨_,rfl,.dN⟩
 | bK=>intro v' h;simp only [hand] at h;cases h;exact ⟨_,rfl,.bK⟩
 | je z ex=>intro v' h;simp only [hand] at h;cases h;exact ⟨_,rfl,.je z ex⟩
 | ro z es es' ex ex' hc hl hx he hr _=>intro v' h;simp only [hand] at h;cases h;exact ⟨_,rfl,data rfl (VW.ro (A:=A) z es es' ex ex' hc hl hx he hr)⟩
 | rop cs cs' hl hr _=>intro v' h;simp only [hand] at h;cases h;exact ⟨_,rfl,data rfl (VW.rop (A:=A) cs cs' hl hr)⟩
 | ptr c i o hA hV =>
  intro v' h
  simp only [hand] at h
  split at h
  · rename_i e
    cases h
    subst e
    rcases hb hA with ⟨q1,q2,q3,q4,q5⟩ | ⟨q1,_⟩
    · refine ⟨.ptr mid i o,by simp only [hand,q2,if_true],?_⟩
      rw [← q5];exact .ptr nid i o q3 q4
    · exact absurd q1 hV
  · cases h
 | sl c z i len cap ex ex' hA hV hx =>
  intro v' h
  simp only [hand] at h
  split at h
  · rename_i e
    cases h
    subst e
    rcases hb hA with ⟨q1,q2,q3,q4,q5⟩ | ⟨q1,_⟩
    · refine ⟨.sl mid z i len cap ex',by simp only [hand,q2,if_true],?_⟩
      rw [← q5];exact .sl nid z i len cap ex ex' q3 q4 hx
    · exact absurd q1 hV
  · cases h
 | slv c z ex v hA hV hv =>
  intro v' h
  simp only [hand] at h
  split at h
  · rename_i e
    cases h
    subst e
    rcases hb hA with ⟨q1,_⟩ | ⟨_,q2,q3⟩
    · exact absurd hV q1
    · refine ⟨v,?_,.slv nid z ex v q2 q3 hv⟩
      rcases hv with rfl | rfl <;> rfl
  · cases h
 | map c hA hV=>intro v' h;simp [hand] at h
 | fn f cs cs' hl hr ih =>
  intro v' h
  simp only [hand] at h
  obtain ⟨r,h1,rfl⟩:=aC h
  obtain ⟨r',h2,h3⟩:=Ib cs cs' hl (fun j x x' p q y hy=>ih j x x' p q hb y hy) r h1
  exact ⟨.fn f r',by simp only [hand,h2,om],.jE h3⟩
 | agg cs cs' hl hr ih =>
  intro v' h
  simp only [hand] at h
  obtain ⟨r,h1,rfl⟩:=aC h
  obtain ⟨r',h2,h3⟩:=Ib cs cs' hl (fun j x x' p q y hy=>ih j x x' p q hb y hy) r h1
  exact ⟨.agg r',by simp only [hand,h2,om],.Jt h3⟩
 | tup cs cs' hl hr ih =>
  intro v' h
  simp only [hand] at h
  obtain ⟨r,h1,rfl⟩:=aC h
  obtain ⟨r',h2,h3⟩:=Ib cs cs' hl (fun j x x' p q y hy=>ih j x x' p q hb y hy) r h1
  exact ⟨.tup r',by simp only [hand,h2,om],.lH h3⟩
theorem ajf (hA:A b) (hV:¬ V b) {v u:AV} (hv:VW ρ V A v u):∀ v',hand b nid v=some v'→(qB v=none∧qB u=none)∨(qB v=some b∧qB u=some (ρ b)):=by
 have lst:∀ (l l':List AV),l.length=l'.length→(∀ (j:Nat) (x x':AV),l[j]?=some x→l'[j]?=some x'→∀ y,hand b nid x=some y→(qB x=none∧qB x'=none)∨(qB x=some b∧qB x'=some (ρ b))) →
  ∀ r,nP b nid l=some r→(jK l=none∧jK l'=none)∨(jK l=some b∧jK l'=some (ρ b)):=by
  intro l
  induction l with
  | nil =>
   intro l' hl _ r hr
   have:l'=[]:=List.length_eq_zero_iff.1 hl.symm
   subst this
   exact .inl ⟨rfl,rfl⟩
  | cons a l ih =>
   intro l' hl hh r hr
   cases l' with
   | nil=>simp at hl
   | cons a' l' =>
    simp only [nP] at hr
    obtain ⟨y,h1,hr⟩:=ak hr
    obtain ⟨ys,h2,rfl⟩:=aC hr
    rcases hh 0 a a' (by simp) (by simp) y h1 with ⟨q1,q2⟩ | ⟨q1,q2⟩
    · rcases ih l' (by simpa using hl) (fun j x x' p q=>hh (j+1) x x' (by simpa using p) (by simpa using q)) ys h2 with ⟨q3,q4⟩ | ⟨q3,q4⟩
      · exact .inl ⟨by simp only [jK,q1,q3],by simp only [jK,q2,q4]⟩
      · exact .inr ⟨by simp only [jK,q1,q3],by simp only [jK,q2,q4]⟩
    · exact .inr ⟨by simp only [jK,q1],by simp only [jK,q2]⟩
 induction hv with
 | undef v=>intro v' h;simp [hand] at h
 | bool t=>intro v' h;exact .inl ⟨rfl,rfl⟩
 | int k n=>intro v' h;exact .inl ⟨rfl,rfl⟩
 | str s=>intro v' h;exact .inl ⟨rfl,rfl⟩
 | dV=>intro v' h;exact .inl ⟨rfl,rfl⟩
 | aZ=>intro v' h;exact .inl ⟨rfl,rfl⟩
 | dN=>intro v' h;exact .inl ⟨rfl,rfl⟩
 | bK=>intro v' h;exact .inl ⟨rfl,rfl⟩
 | je z ex=>intro v' h;exact .inl ⟨rfl,rfl⟩
 | ro z es es' ex ex' hc hl hx he hr _=>intro v' h;exact .inl ⟨rfl,rfl⟩
 | rop cs cs' hl hr _=>intro v' h;exact .inl ⟨rfl,rfl⟩
 | ptr c i o hA' hV' =>
  intro v' h
  simp only [hand] at h
  split at h
  · rename_i e;subst e;exact .inr ⟨rfl,rfl⟩
  · cases h
 | sl c z i len cap ex ex' hA' hV' hx =>
  intro v' h
  simp only [hand] at h
  split at h
  · rename_i e;subst e;exact .inr ⟨rfl,rfl⟩
  · cases h
 | slv c z ex v hA' hV' hv =>
  intro v' h
  simp only [hand] at h
  split at h
  · rename_i e;subst e;exact absurd hV' hV
  · cases h
 | map c hA' hV'=>intro v' h;simp [hand] at h
 | fn f cs cs' hl hr ih=>intro v' h;simp only [hand] at h;obtain ⟨r,h1,rfl⟩:=aC h;exact lst cs cs' hl (fun j x x' p q y hy=>ih j x x' p q hA y hy) r h1
 | agg cs cs' hl hr ih=>intro v' h;simp only [hand] at h;obtain ⟨r,h1,rfl⟩:=aC h;exact lst cs cs' hl (fun j x x' p q y hy=>ih j x x' p q hA y hy) r h1
 | tup cs cs' hl hr ih=>intro v' h;simp only [hand] at h;obtain ⟨r,h1,rfl⟩:=aC h;exact lst cs cs' hl (fun j x x' p q y hy=>ih j x x' p q hA y hy) r h1
theorem V3 (hb:A b→V b) {v u:AV} (hv:VW ρ V A v u):∀ v',hand b nid v=some v'→qB u=none:=by
 have lst:∀ (l l':List AV),l.length=l'.length→(∀ (j:Nat) (x x':AV),l[j]?=some x→l'[j]?=some x'→∀ y,hand b nid x=some y→qB x'=none) →
  ∀ r,nP b nid l=some r→jK l'=none:=by
  intro l
  induction l with
  | nil =>
   intro l' hl _ r hr
   have:l'=[]:=List.length_eq_zero_iff.1 hl.symm
   subst this
   rfl
  | cons a l ih =>
   intro l' hl hh r hr
   cases l' with
   | nil=>simp at hl
   | cons a' l' =>
    simp only [nP] at hr
    obtain ⟨y,h1,hr⟩:=ak hr
    obtain ⟨ys,h2,rfl⟩:=aC hr
    have q1:=hh 0 a a' (by simp) (by simp) y h1
    have q2:=ih l' (by simpa using hl) (fun j x x' p q=>hh (j+1) x x' (by simpa using p) (by simpa using q)) ys h2
    simp only [jK,q1,q2]
 induction hv with
 | undef v=>intro v' h;simp [hand] at h
 | bool t=>intro v' h;rfl
 | int k n=>intro v' h;rfl
 | str s=>intro v' h;rfl
 | dV=>intro v' h;rfl
 | aZ=>intro v' h;rfl
 | dN=>intro v' h;rfl
 | bK=>intro v' h;rfl
 | je z ex=>intro v' h;rfl
 | ro z es es' ex ex' hc hl hx he hr _=>intro v' h;rfl
 | rop cs cs' hl hr _=>intro v' h;rfl
 | ptr c i o hA' hV' =>
  intro v' h
  simp only [hand] at h
  split at h
  · rename_i e;subst e;exact absurd (hb hA') hV'
  · cases h
 | sl c z i len cap ex ex' hA' hV' hx =>
  intro v' h
  simp only [hand] at h
  split at h
  · rename_i e;subst e;exact absurd (hb hA') hV'
  · cases h
 | slv c z ex v hA' hV' hv=>intro v' h;rcases hv with rfl | rfl <;> rfl
 | map c hA' hV'=>intro v' h;simp [hand] at h
 | fn f cs cs' hl hr ih=>intro v' h;simp only [hand] at h;obtain ⟨r,h1,rfl⟩:=aC h;exact lst cs cs' hl (fun j x x' p q y hy=>ih j x x' p q hb y hy) r h1
 | agg cs cs' hl hr ih=>intro v' h;simp only [hand] at h;obtain ⟨r,h1,rfl⟩:=aC h;exact lst cs cs' hl (fun j x x' p q y hy=>ih j x x' p q hb y hy) r h1
 | tup cs cs' hl hr ih=>intro v' h;simp only [hand] at h;obtain ⟨r,h1,rfl⟩:=aC h;exact lst cs cs' hl (fun j x x' p q y hy=>ih j x x' p q hb y hy) r h1
theorem O4 {R:AV→AV→Prop}:∀ {l l':List AV},bf R l l'→(∀ x x',R x x'→gY x=true→gY x'=true)→nO l=true→nO l'=true:=by
 intro l
 induction l with
 | nil=>intro l' h _ _;have:=h.eH;subst this;rfl
 | cons a l ih =>
  intro l' h hf hb
  obtain ⟨b,r,rfl,h1,h2⟩:=h.dD
  simp only [nO,Bool.and_eq_true] at hb ⊢
  exact ⟨hf _ _ h1 hb.1,ih h2 hf hb.2⟩
theorem Fe {v u:AV} (hv:VW ρ V A v u):gY v=true→gY u=true:=by
 have lst:∀ (l l':List AV),l.length=l'.length→(∀ (j:Nat) (x x':AV),l[j]?=some x→l'[j]?=some x'→gY x=true→gY x'=true)→nO l=true→nO l'=true:=fun l l' h1 h2 h3 =>
  O4 (R:=fun x x'=>gY x=true→gY x'=true) ⟨h1,h2⟩ (fun x x' h=>h) h3
 induction hv with
 | undef v=>intro h;simp [gY] at h
 | je z ex=>intro h;rfl
 | ro z es es' ex ex' hc hl hx he hr _ =>
  intro h
  simp only [gY,Bool.and_eq_true,List.isEmpty_iff] at h ⊢
  obtain ⟨rfl,rfl⟩:=h
  exact ⟨List.length_eq_zero_iff.1 hl.symm,hx rfl⟩
 | rop=>intro h;simp [gY] at h
 | slv c z ex v hA hV hv=>intro h;rcases hv with rfl | rfl <;> rfl
 | fn f cs cs' hl hr ih=>intro h;simp only [gY] at h ⊢;exact lst cs cs' hl (fun j x x' p q=>ih j x x' p q) h
 | agg cs cs' hl hr ih=>intro h;simp only [gY] at h ⊢;exact lst cs cs' hl (fun j x x' p q=>ih j x x' p q) h
 | tup cs cs' hl hr ih=>intro h;simp only [gY] at h ⊢;exact lst cs cs' hl (fun j x x' p q=>ih j x x' p q) h
 | _=>intro h;rfl
theorem YE {l l':List AV} (h:bf (VW ρ V A) l l'):nO l=true→nO l'=true:=O4 h fun _ _ h=>Fe h
theorem WV {x u:AV} (h:VW ρ V A x u) (hc:isC x=true):lM u=true:=by
 cases h with
 | undef=>simp [Pw.isC] at hc
 | ptr=>simp [Pw.isC] at hc
 | sl=>simp [Pw.isC] at hc
 | slv=>simp [Pw.isC] at hc
 | map=>simp [Pw.isC] at hc
 | agg=>simp [Pw.isC] at hc
 | tup=>simp [Pw.isC] at hc
 | fn f cs cs' hl hr =>
  cases cs with
  | nil =>
   have:cs'=[]:=List.length_eq_zero_iff.1 hl.symm
   subst this
   rfl
  | cons a r=>simp [Pw.isC] at hc
 | _=>rfl
end
end Go.Pw
end
section
set_option linter.unusedSimpArgs false
set_option linter.unusedVariables false
namespace Go.Pw
open Go Go.Pav
section
variable {ρ:Nat→Nat} {V A:Nat→Prop} {h:aJ} {h':Heap}
theorem Vz {L L':List Nat} (hLL:∀ b ∈ L,¬ V b→ρ b ∈ L') {v u:AV} (hv:VW ρ V A v u) (hk:cO L v=true):cO L' u=true:=by
 have lst:∀ {l l':List AV},l.length=l'.length→qo L l=true→(∀ (j:Nat) (x x':AV),l[j]?=some x→l'[j]?=some x'→cO L x=true→cO L' x'=true)→qo L' l'=true:=by
  intro l
  induction l with
  | nil=>intro l' hl _ _;cases l' with
   | nil=>rfl
   | cons _ _=>simp at hl
  | cons a r ih =>
   intro l' hl hk hr
   cases l' with
   | nil=>simp at hl
   | cons a' r' =>
    simp only [qo,Bool.and_eq_true] at hk ⊢
    exact ⟨hr 0 a a' rfl rfl hk.1,ih (by simpa using hl) hk.2 fun j x x' h1 h2=>hr (j+1) x x' (by simpa using h1) (by simpa using h2)⟩
 induction hv with
 | undef v=>simp [cO] at hk
 | je z ex=>rfl
 | ro z es es' ex ex' hc hl hx he hr _ =>
  simp only [cO,Bool.and_eq_true,List.isEmpty_iff] at hk ⊢
  obtain ⟨rfl,rfl⟩:=hk
  exact ⟨List.length_eq_zero_iff.1 (by simpa using hl.symm),hx rfl⟩
 | rop=>simp [cO] at hk
 | ptr b i o hA hV=>simp only [cO,List.contains_iff_mem] at hk ⊢;exact hLL b hk hV
 | sl b z i len cap ex ex' hA hV hx=>simp only [cO,List.contains_iff_mem] at hk ⊢;exact hLL b hk hV
 | slv b z ex v hA hV hv=>rcases hv with rfl | rfl <;> rfl
 | map=>simp [cO] at hk
 | fn f cs cs' hl hr ih=>simp only [cO] at hk ⊢;exact lst hl hk fun j x x' h1 h2 h3=>ih j x x' h1 h2 h3
 | agg cs cs' hl hr ih=>simp only [cO] at hk ⊢;exact lst hl hk fun j x x' h1 h2 h3=>ih j x x' h1 h2 h3
 | tup cs cs' hl hr ih=>simp only [cO] at hk ⊢;exact lst hl hk fun j x x' h1 h2 h3=>ih j x x' h1 h2 h3
 | _=>rfl
theorem Un {L:List Nat} {v u:AV} (hv:VW ρ V A v u) (hk:cO L v=true):VW ρ (fun b=>V b∧b ∈ L) (fun b=>A b∧b ∈ L) v u:=by
 induction hv with
 | undef v=>simp [cO] at hk
 | bool b=>exact .bool b
 | int k n=>exact .int k n
 | str s=>exact .str s
 | dV=>exact .dV
 | aZ=>exact .aZ
 | dN=>exact .dN
 | bK=>exact .bK
 | je z ex=>exact .je z ex
 | ro z es es' ex ex' hc hl hx he hr _ =>
  simp only [cO,Bool.and_eq_true,List.isEmpty_iff] at hk
  obtain ⟨rfl,rfl⟩:=hk
  refine .ro z [] es' true ex' (by simp) hl hx (by simp) (by simp)
 | rop=>simp [cO] at hk
 | ptr b i o hA hV=>simp only [cO,List.contains_iff_mem] at hk;exact .ptr b i o ⟨hA,hk⟩ fun q=>hV q.1
 | sl b z i len cap ex ex' hA hV hx=>simp only [cO,List.contains_iff_mem] at hk;exact .sl b z i len cap ex ex' ⟨hA,hk⟩ (fun q=>hV q.1) hx
 | slv b z ex v hA hV hv=>simp only [cO,List.contains_iff_mem] at hk;exact .slv b z ex v ⟨hA,hk⟩ ⟨hV,hk⟩ hv
 | map=>simp [cO] at hk
 | fn f cs cs' hl hr ih=>exact .fn f cs cs' hl fun j x x' h1 h2=>ih j x x' h1 h2 (fQ (by simpa only [cO] using hk) x (List.mem_of_getElem? h1))
 | agg cs cs' hl hr ih=>exact .agg cs cs' hl fun j x x' h1 h2=>ih j x x' h1 h2 (fQ (by simpa only [cO] using hk) x (List.mem_of_getElem? h1))
 | tup cs cs' hl hr ih=>exact .tup cs cs' hl fun j x x' h1 h2=>ih j x x' h1 h2 (fQ (by simpa only [cO] using hk) x (List.mem_of_getElem? h1))
theorem KR {l l':List AV} {u:AV} (hl:l.length=l'.length) (hu:u ∈ l'):∃ (j:Nat) (v:AV),l[j]?=some v∧l'[j]?=some u:=by
 obtain ⟨j,hj,e⟩:=List.getElem_of_mem hu
 exact ⟨j,l[j]'(by omega),List.getElem?_eq_getElem (by omega),by rw [List.getElem?_eq_getElem hj,e]⟩
theorem FH {l l':List AV} {v:AV} (hl:l.length=l'.length) (hu:v ∈ l):∃ (j:Nat) (u:AV),l[j]?=some v∧l'[j]?=some u:=by
 obtain ⟨j,hj,e⟩:=List.getElem_of_mem hu
 exact ⟨j,l'[j]'(by omega),by rw [List.getElem?_eq_getElem hj,e],List.getElem?_eq_getElem (by omega)⟩
theorem TV (H:HW ρ V A h h') {L:List Nat} (hL:∀ b ∈ L,jF L (Pav.get h b)=true):∀ (n:Nat) (v u:AV),VW ρ V A v u→cO L v=true→∀ b' ∈ reach h' n u,∃ b ∈ L,b'=ρ b∧¬ V b∧A b:=by
 intro n
 induction n with
 | zero=>intro v u _ _ b hb;simp [reach] at hb
 | succ n ih =>
  intro v u hv hk b' hb'
  have obj:∀ b,b ∈ L→¬ V b→∃ z es es' mu',Pav.get h' (ρ b)=some (.cells z es' mu')∧bf (bf (VW ρ V A)) es es'∧∀ e ∈ es,qo L e=true:=by
   intro b hb hV
   have h1:=hL b hb
   cases hg:Pav.get h b with
   | none=>rw [hg] at h1;simp [jF] at h1
   | some o =>
    rw [hg] at h1
    obtain ⟨o',g1,g2⟩:=H.obj b o hg hV
    cases o with
    | cells z es mu dt =>
     obtain ⟨es',mu',rfl,_,g3,_⟩:=g2
     simp only [jF,Bool.and_eq_true,List.all_eq_true] at h1
     exact ⟨z,es,es',mu',g1,g3,h1.2⟩
    | map es=>simp [jF] at h1
    | iter s p=>simp [jF] at h1
  have cell:∀ {e e':List AV},bf (VW ρ V A) e e'→qo L e=true→∀ x' ∈ e',b' ∈ reach h' n x'→∃ b ∈ L,b'=ρ b∧¬ V b∧A b:=by
   intro e e' hr hk x' hx' hb
   obtain ⟨j,hj,q⟩:=List.getElem_of_mem hx'
   obtain ⟨x,q2,q3⟩:=hr.get' (List.getElem?_eq_getElem hj)
   rw [q] at q3
   exact ih x x' q3 (fQ hk x (List.mem_of_getElem? q2)) b' hb
  cases hv with
  | ptr b i o hA hV =>
   simp only [cO,List.contains_iff_mem] at hk
   obtain ⟨z,es,es',mu',g1,g2,g3⟩:=obj b hk hV
   simp only [reach,g1,List.mem_cons] at hb'
   rcases hb' with rfl | hb'
   · exact ⟨b,hk,rfl,hV,hA⟩
   · simp only [List.mem_flatMap] at hb'
     obtain ⟨x',hx',hb'⟩:=hb'
     have hx2:=List.mem_of_mem_drop hx'
     cases he:es'[i]? with
     | none=>rw [he] at hx2;simp at hx2
     | some e' =>
      rw [he] at hx2
      obtain ⟨e,q1,q2⟩:=g2.get' he
      exact cell q2 (g3 e (List.mem_of_getElem? q1)) x' hx2 hb'
  | sl b z i len cap ex ex' hA hV hx =>
   simp only [cO,List.contains_iff_mem] at hk
   obtain ⟨z,es,es',mu',g1,g2,g3⟩:=obj b hk hV
   simp only [reach,g1,List.mem_cons] at hb'
   rcases hb' with rfl | hb'
   · exact ⟨b,hk,rfl,hV,hA⟩
   · simp only [List.mem_flatMap] at hb'
     obtain ⟨e',he',x',hx',hb'⟩:=hb'
     have he2:=List.mem_of_mem_drop (List.mem_of_mem_take he')
     obtain ⟨j,hj,q⟩:=List.getElem_of_mem he2
     obtain ⟨e,q1,q2⟩:=g2.get' (List.getElem?_eq_getElem hj)
     rw [q] at q2
     exact cell q2 (g3 e (List.mem_of_getElem? q1)) x' hx' hb'
  | slv b z ex v hA hV hv=>rcases hv with rfl | rfl <;> simp [reach] at hb'
  | map=>simp [cO] at hk
  | rop=>simp [cO] at hk
  | undef=>simp [cO] at hk
  | fn f cs cs' hl hr =>
   simp only [cO] at hk
   simp only [reach,List.mem_flatMap] at hb'
   obtain ⟨x',hx',hb'⟩:=hb'
   obtain ⟨j,x,q1,q2⟩:=KR hl hx'
   exact ih x x' (hr j x x' q1 q2) (fQ hk x (List.mem_of_getElem? q1)) b' hb'
  | agg cs cs' hl hr =>
   simp only [cO] at hk
   simp only [reach,List.mem_flatMap] at hb'
   obtain ⟨x',hx',hb'⟩:=hb'
   obtain ⟨j,x,q1,q2⟩:=KR hl hx'
   exact ih x x' (hr j x x' q1 q2) (fQ hk x (List.mem_of_getElem? q1)) b' hb'
  | tup cs cs' hl hr =>
   simp only [cO] at hk
   simp only [reach,List.mem_flatMap] at hb'
   obtain ⟨x',hx',hb'⟩:=hb'
   obtain ⟨j,x,q1,q2⟩:=KR hl hx'
   exact ih x x' (hr j x x' q1 q2) (fQ hk x (List.mem_of_getElem? q1)) b' hb'
  | _=>simp [reach] at hb'
theorem Jc (H:HW ρ V A h h'):∀ (n:Nat) (v u:AV),VW ρ V A v u→∀ b ∈ aK h n v,¬ V b→ρ b ∈ reach h' n u:=by
 intro n
 induction n with
 | zero=>intro v u _ b hb;simp [aK] at hb
 | succ n ih =>
  intro v u hv b hb hVb
  cases hv with
  | ptr c i o hA hV =>
   simp only [aK,List.mem_cons] at hb
   simp only [reach,List.mem_cons]
   rcases hb with rfl | hb
   · exact .inl rfl
   · refine .inr ?_
     split at hb
     · rename_i zb es mu dt hg
       obtain ⟨o',g1,es',mu',rfl,_,ge,gd⟩:=H.obj c _ hg hV
       split at hb
       · cases hb
       · simp only [g1]
         simp only [List.mem_flatMap] at hb ⊢
         obtain ⟨x,hx,hb⟩:=hb
         cases he:es[i]? with
         | none=>rw [he] at hx;simp at hx
         | some e =>
          rw [he] at hx
          obtain ⟨e',q1,q2⟩:=ge.get he
          rw [q1]
          simp only [Option.getD_some] at hx ⊢
          obtain ⟨j,hj,q⟩:=List.getElem_of_mem hx
          obtain ⟨x',q3,q4⟩:=(q2.drop o).get (List.getElem?_eq_getElem hj)
          rw [q] at q4
          exact ⟨x',List.mem_of_getElem? q3,ih x x' q4 b hb hVb⟩
     · cases hb
  | sl c z i len cap ex ex' hA hV hx =>
   simp only [aK,List.mem_cons] at hb
   simp only [reach,List.mem_cons]
   rcases hb with rfl | hb
   · exact .inl rfl
   · refine .inr ?_
     split at hb
     · rename_i zb es mu dt hg
       obtain ⟨o',g1,es',mu',rfl,_,ge,gd⟩:=H.obj c _ hg hV
       split at hb
       · cases hb
       · simp only [g1]
         simp only [List.mem_flatMap] at hb ⊢
         obtain ⟨e,he,x,hx,hb⟩:=hb
         obtain ⟨k,hk,qk⟩:=List.getElem_of_mem he
         obtain ⟨e',q1,q2⟩:=((ge.drop i).take len).get (List.getElem?_eq_getElem hk)
         rw [qk] at q2
         obtain ⟨j,hj,q⟩:=List.getElem_of_mem hx
         obtain ⟨x',q3,q4⟩:=q2.get (List.getElem?_eq_getElem hj)
         rw [q] at q4
         exact ⟨e',List.mem_of_getElem? q1,x',List.mem_of_getElem? q3,ih x x' q4 b hb hVb⟩
     · cases hb
  | slv c z ex v hA hV hv =>
   simp only [aK,List.mem_cons] at hb
   rcases hb with rfl | hb
   · exact absurd hV hVb
   · split at hb
     · split at hb
       · cases hb
       · simp at hb
     · cases hb
  | fn f cs cs' hl hr =>
   simp only [aK,reach,List.mem_flatMap] at hb ⊢
   obtain ⟨x,hx,hb⟩:=hb
   obtain ⟨j,x',q1,q2⟩:=FH hl hx
   exact ⟨x',List.mem_of_getElem? q2,ih x x' (hr j x x' q1 q2) b hb hVb⟩
  | agg cs cs' hl hr =>
   simp only [aK,reach,List.mem_flatMap] at hb ⊢
   obtain ⟨x,hx,hb⟩:=hb
   obtain ⟨j,x',q1,q2⟩:=FH hl hx
   exact ⟨x',List.mem_of_getElem? q2,ih x x' (hr j x x' q1 q2) b hb hVb⟩
  | tup cs cs' hl hr =>
   simp only [aK,reach,List.mem_flatMap] at hb ⊢
   obtain ⟨x,hx,hb⟩:=hb
   obtain ⟨j,x',q1,q2⟩:=FH hl hx
   exact ⟨x',List.mem_of_getElem? q2,ih x x' (hr j x x' q1 q2) b hb hVb⟩
  | undef=>simp [aK] at hb
  | _=>simp [aK] at hb
theorem YW (H:HW ρ V A h h') {L L':List Nat} (hLL:∀ b ∈ L,¬ V b→ρ b ∈ L') {b:Nat} (hV:¬ V b) (hk:jF L (Pav.get h b)=true):Dj L' (Pav.get h' (ρ b))=true:=by
 cases hg:Pav.get h b with
 | none=>rw [hg] at hk;simp [jF] at hk
 | some o =>
  rw [hg] at hk
  obtain ⟨o',g1,g2⟩:=H.obj b o hg hV
  rw [g1]
  cases o with
  | cells z es mu dt =>
   obtain ⟨es',mu',rfl,hmu,g3,_⟩:=g2
   simp only [jF,Dj,Bool.and_eq_true,List.all_eq_true] at hk ⊢
   refine ⟨hmu hk.1,fun e' he'=>?_⟩
   obtain ⟨j,hj,q⟩:=List.getElem_of_mem he'
   obtain ⟨e,q1,q2⟩:=g3.get' (List.getElem?_eq_getElem hj)
   rw [q] at q2
   have hke:=hk.2 e (List.mem_of_getElem? q1)
   have h1:=Vz (v:=.tup e) (u:=.tup e') hLL (VW.lH q2) (by simpa only [cO] using hke)
   simpa only [cO] using h1
  | map es=>simp [jF] at hk
  | iter s p=>simp [jF] at hk
theorem ach (H:HW ρ V A h h') (n:Nat) {v u:AV} (hv:VW ρ V A v u) (hk:pI h v (aK h n v)=true):Vt h' u (reach h' n u)=true:=by
 simp only [pI,Vt,Bool.and_eq_true,List.all_eq_true] at hk ⊢
 obtain ⟨k1,k2⟩:=hk
 have hLL:=fun b hb hV=>Jc H n v u hv b hb hV
 refine ⟨Vz hLL hv k1,fun b' hb'=>?_⟩
 obtain ⟨b,q1,rfl,q3,_⟩:=TV H k2 n v u hv k1 b' hb'
 exact YW H hLL q3 (k2 b q1)
theorem HW.keep (H:HW ρ V A h h') {L L':List Nat} (hL:∀ b ∈ L,jF L (Pav.get h b)=true) (hLL:∀ b ∈ L,¬ V b→ρ b ∈ L') :
 HW ρ (fun b=>V b∧b ∈ L) (fun b=>A b∧b ∈ L) (h.filter fun x=>L.contains x.1) (h'.filter fun x=>L'.contains x.1):=by
 have key:∀ b o,Pav.get (h.filter fun x=>L.contains x.1) b=some o→Pav.get h b=some o∧b ∈ L:=by
  intro b o hb
  rw [get_filter] at hb
  by_cases q:b ∈ L
  · rw [if_pos (by simpa using q)] at hb;exact ⟨hb,q⟩
  · rw [if_neg (by simpa using q)] at hb;cases hb
 refine ⟨fun b o hb=>?_,fun b o hb hv=>?_,fun b o hb hv=>?_,fun b hb=>⟨H.sub b hb.1,hb.2⟩,fun b c hb hc hb' hc' he=>?_⟩
 · exact ⟨H.dom b o (key b o hb).1,(key b o hb).2⟩
 · exact H.sD b o (key b o hb).1 hv.1
 · obtain ⟨q1,q2⟩:=key b o hb
   have hV:¬ V b:=fun q=>hv ⟨q,q2⟩
   obtain ⟨o',g1,g2⟩:=H.obj b o q1 hV
   have hk:=hL b q2
   rw [q1] at hk
   refine ⟨o',by rw [get_filter,if_pos (by simpa using hLL b q2 hV)];exact g1,?_⟩
   cases o with
   | cells z es mu dt =>
    obtain ⟨es',mu',rfl,hmu,g3,g4⟩:=g2
    simp only [jF,Bool.and_eq_true,List.all_eq_true] at hk
    exact ⟨es',mu',rfl,hmu,⟨g3.1,fun j e e' h1 h2=>⟨(g3.2 j e e' h1 h2).1,fun k x x' h3 h4=>Un ((g3.2 j e e' h1 h2).2 k x x' h3 h4) (fQ (hk.2 e (List.mem_of_getElem? h1)) x (List.mem_of_getElem? h3))⟩⟩,g4⟩
   | map es=>simp [jF] at hk
   | iter s p=>simp [jF] at hk
 · exact H.inj b c hb.1 hc.1 (fun q=>hb' ⟨q,hb.2⟩) (fun q=>hc' ⟨q,hc.2⟩) he
end
end Go.Pw
end
section
set_option linter.unusedSimpArgs false
set_option linter.unusedVariables false
namespace Go.Pw
open Go Go.Pav
def Keeps (ρ:Nat→Nat) (V A:Nat→Prop) (ρ':Nat→Nat) (V' A':Nat→Prop):Prop:=∀ b,A b→A' b∧ρ' b=ρ b∧(V' b↔V b)
theorem Keeps.refl (ρ:Nat→Nat) (V A:Nat→Prop):Keeps ρ V A ρ V A:=fun _ h=>⟨h,rfl,Iff.rfl⟩
theorem Keeps.trans {ρ ρ1 ρ2:Nat→Nat} {V A V1 A1 V2 A2:Nat→Prop} (h:Keeps ρ V A ρ1 V1 A1) (k:Keeps ρ1 V1 A1 ρ2 V2 A2):Keeps ρ V A ρ2 V2 A2:=fun b hb=>by
 obtain ⟨h1,h2,h3⟩:=h b hb
 obtain ⟨k1,k2,k3⟩:=k b h1
 exact ⟨k1,k2.trans h2,k3.trans h3⟩
structure Lts (ρ:Nat→Nat) (V A:Nat→Prop) (n m:Nat):Prop where
 w:∀ b,A b→b < n
 p:∀ b,A b→¬ V b→ρ b < m
def yG (run:rD) (run':Run):Prop :=
 ∀ (f:Nat) (args:List AV) (h:aJ) (n:Nat) (v:AV) (h1:aJ) (n1:Nat),run f args h n=some (v,h1,n1) →
  ∀ (ρ:Nat→Nat) (V A:Nat→Prop) (args':List AV) (h':Heap) (m:Nat),bf (VW ρ V A) args args'→HW ρ V A h h'→Lts ρ V A n m →
   ∃ v' h1' m1 ρ' V' A',run' f args' h' m=some (v',h1',m1)∧VW ρ' V' A' v v'∧HW ρ' V' A' h1 h1'∧Lts ρ' V' A' n1 m1∧Keeps ρ V A ρ' V' A' ∧
    (∀ b,A' b→A b∨n≤b)∧(∀ b,A' b→¬ V' b→(A b∧ρ' b=ρ b)∨m≤ρ' b)∧n≤n1∧m≤m1
def TJ (d:jy):List Nat:=match d.bar with | true=>d.wr.tail | false=>d.wr
structure Qr (ρ:Nat→Nat) (V A:Nat→Prop) (nid n mid m:Nat) (d:jy) (d':Did) (ρ':Nat→Nat) (V' A':Nat→Prop):Prop where
 v:VW ρ' V' A' d.v d'.v
 h:HW ρ' V' A' d.h d'.h
 keeps:Keeps ρ V A ρ' V' A'
 new:∀ b,A' b→A b∨b=nid∨n≤b
 ad8:∀ b,A' b→¬ V' b→(A b∧ρ' b=ρ b)∨ρ' b=mid∨m≤ρ' b
 lt:Lts ρ' V' A' d.n d'.n
 next:n≤d.n
 UJ:m≤d'.n
 bar:d'.bar=true→d.bar=true∧d.wr=[]
 rd:∀ b ∈ d'.rd,∃ c ∈ d.rd,b=ρ' c∧¬ V' c∧A' c
 wr:∀ b ∈ d'.wr,(∃ c ∈ TJ d,b=ρ' c∧¬ V' c∧A' c)∨∃ k w,d.bar=true∧d.wr=k::w∧m≤b∧b < d'.n∧∀ c,A' c→¬ V' c→ρ' c=b→k≤c
section
variable {ρ:Nat→Nat} {V A:Nat→Prop} {n m:Nat} {h:aJ} {h':Heap} {e e':Env} {C:aI} {run:rD} {run':Run}
theorem WQ:∀ (v:AV),bT v=true→∀ (u:AV),VW ρ V A v u→bT u=true:=by
 intro v
 refine AV.rec (motive_1:=fun v=>bT v=true→∀ (u:AV),VW ρ V A v u→bT u=true) (motive_2:=fun _=>True)
  (motive_3:=fun l=>bP l=true→∀ l',bf (VW ρ V A) l l'→bP l'=true) ?_ ?_ ?_ ?_ ?_ ?_ ?_ ?_ ?_ ?_ ?_ ?_ ?_ ?_ ?_ ?_ ?_ ?_ ?_ ?_ v
 · intro hp;simp [bT] at hp
 · intro b hp;simp [bT] at hp
 · intro b c hp;simp [bT] at hp
 · intro b hp;simp [bT] at hp
 · intro hp;simp [bT] at hp
 · intro hp;simp [bT] at hp
 · intro hp;simp [bT] at hp
 · intro hp;simp [bT] at hp
 · intro z es ex _ hp;simp [bT] at hp
 · intro z _ hp;simp [bT] at hp
 · intro b i o _ u hu
   rw [hu.jf.1];rfl
 · intro b z i len cap ex hp;simp [bT] at hp
 · intro b _ u hu
   rw [hu.xH.1];rfl
 · intro f cs ih hp u hu
   obtain ⟨cs',rfl,hr⟩:=hu.yF
   simp only [bT];exact ih (by simpa only [bT] using hp) cs' hr
 · intro cs ih hp u hu
   obtain ⟨cs',rfl,hr⟩:=hu.mM
   simp only [bT];exact ih (by simpa only [bT] using hp) cs' hr
 · intro cs ih hp u hu
   obtain ⟨cs',rfl,hr⟩:=hu.sN
   simp only [bT];exact ih (by simpa only [bT] using hp) cs' hr
 · trivial
 · intros;trivial
 · intro hp;simp [bP] at hp
 · intro v l ih1 ih2 hp l' hr
   obtain ⟨u,t,rfl,h1,h2⟩:=hr.dD
   simp only [bP,Bool.or_eq_true] at hp ⊢
   rcases hp with hp | hp
   · exact .inl (ih1 hp u h1)
   · exact .inr (ih2 hp t h2)
theorem TA:∀ (l:List AV),bP l=true→∀ l',bf (VW ρ V A) l l'→bP l'=true:=by
 intro l
 induction l with
 | nil=>intro hp;simp [bP] at hp
 | cons v l ih =>
  intro hp l' hr
  obtain ⟨u,t,rfl,h1,h2⟩:=hr.dD
  simp only [bP,Bool.or_eq_true] at hp ⊢
  rcases hp with hp | hp
  · exact .inl (WQ v hp u h1)
  · exact .inr (ih hp t h2)
theorem Z4:∀ (n:Nat) (v u v':AV),VW ρ V A v u→bJ h n v=some v'→bT v=false→bT u=false:=by
 intro n
 induction n with
 | zero=>intro v u v' _ hf;simp [bJ] at hf
 | succ n ih =>
  have lst:∀ (l l' r:List AV),bf (VW ρ V A) l l'→bg (bJ h n) l=some r→bP l=false→bP l'=false:=by
   intro l
   induction l with
   | nil=>intro l' r hr _ _;rw [hr.eH];rfl
   | cons a l ihl =>
    intro l' r hr hm hp
    obtain ⟨b,t,rfl,h1,h2⟩:=hr.dD
    simp only [bg] at hm
    obtain ⟨x,h3,hm⟩:=ak hm
    obtain ⟨xs,h4,rfl⟩:=aC hm
    simp only [bP,Bool.or_eq_false_iff] at hp ⊢
    exact ⟨ih a b x h1 h3 hp.1,ihl t xs h2 h4 hp.2⟩
  intro v u v' hv hf hp
  cases v with
  | undef=>simp [bJ] at hf
  | bool b=>rw [hv.fJ];simp [bT]
  | int k x=>rw [hv.dO];simp [bT]
  | str s=>rw [hv.iO];simp [bT]
  | dV=>cases hv;simp [bT]
  | aZ=>cases hv;simp [bT]
  | dN=>cases hv;simp [bT]
  | bK=>cases hv;simp [bT]
  | ro z es ex=>rcases hv.l7 with ⟨rfl,rfl⟩ | ⟨es',ex',rfl,_,_,_⟩ <;> simp [bT]
  | rop cs=>obtain ⟨cs',rfl,_⟩:=hv.uw;simp [bT]
  | ptr b i o=>simp [bT] at hp
  | map b=>simp [bT] at hp
  | sl b z i len cap ex =>
   rcases hv.jJ with ⟨_,_,ex',rfl,_⟩ | ⟨_,_,rfl,rfl,rfl,hu⟩
   · simp [bT]
   · rcases hu with rfl | rfl <;> simp [bT]
  | fn f cs =>
   obtain ⟨cs',rfl,hr⟩:=hv.yF
   simp only [bJ] at hf
   obtain ⟨r,h1,rfl⟩:=aC hf
   simp only [bT] at hp ⊢
   exact lst cs cs' r hr h1 hp
  | agg cs =>
   obtain ⟨cs',rfl,hr⟩:=hv.mM
   simp only [bJ] at hf
   obtain ⟨r,h1,rfl⟩:=aC hf
   simp only [bT] at hp ⊢
   exact lst cs cs' r hr h1 hp
  | tup cs =>
   obtain ⟨cs',rfl,hr⟩:=hv.sN
   simp only [bJ] at hf
   obtain ⟨r,h1,rfl⟩:=aC hf
   simp only [bT] at hp ⊢
   exact lst cs cs' r hr h1 hp
theorem Yb {n:Nat}:∀ (l l' r:List AV),bf (VW ρ V A) l l'→bg (bJ h n) l=some r→bP l=false→bP l'=false:=by
 intro l
 induction l with
 | nil=>intro l' r hr _ _;rw [hr.eH];rfl
 | cons a l ihl =>
  intro l' r hr hm hp
  obtain ⟨b,t,rfl,h1,h2⟩:=hr.dD
  simp only [bg] at hm
  obtain ⟨x,h3,hm⟩:=ak hm
  obtain ⟨xs,h4,rfl⟩:=aC hm
  simp only [bP,Bool.or_eq_false_iff] at hp ⊢
  exact ⟨Z4 n a b x h1 h3 hp.1,ihl t xs h2 h4 hp.2⟩
theorem Qj (hr:yG run run') {f:Nat} {az az':List AV} {v:AV} (ha:bf (VD ρ V) az az') (hp:fU run f az=some v):∃ v',rH run' f az'=some v'∧VD ρ V v v':=by
 obtain ⟨⟨v0,h0,n0⟩,h1,h2⟩:=ak hp
 obtain ⟨v',h1',m1,ρ',V',A',r1,r2,r3,_⟩:=hr f az [] 0 v0 h0 n0 h1 ρ (fun _=>False) (fun _=>False) az' [] 0 (ha.mono fun x x' _ hx=>hx.data)
  ⟨fun b o hb=>by simp [Pav.get] at hb,fun b o hb=>by simp [Pav.get] at hb,fun b o hb=>by simp [Pav.get] at hb,fun b hb=>hb.elim,fun b c hb=>hb.elim⟩ ⟨fun b hb=>hb.elim,fun b hb=>hb.elim⟩
 obtain ⟨u',r4,r5⟩:=G6 r3 _ _ _ _ r2 h2
 exact ⟨u',by unfold rH;rw [r1];exact r4,r5.data⟩
theorem qV:∀ (u v:dP) (h:aJ),bM h (u++v)=bM (bM h u) v:=by
 intro u
 induction u with
 | nil=>intro v h;rfl
 | cons x u ih=>intro v h;obtain ⟨b,o⟩:=x;simp only [List.cons_append,bM];exact ih v _
theorem adI (H:HW ρ V A h h') {nid:Nat} (hn:¬ A nid) (mid z:Nat) (mu dt:Bool):HW (up ρ nid mid) (addN V nid) (addN A nid) (put h nid (.cells z [] mu dt)) h':=by
 have hold:∀ b,A b→addN A nid b∧up ρ nid mid b=ρ b∧(addN V nid b↔V b):=by
  intro b hb
  have hne:b≠nid:=fun e=>hn (e ▸ hb)
  refine ⟨.inl hb,by simp [up,hne],⟨fun q=>?_,fun q=>.inl q⟩⟩
  rcases q with q | q
  · exact q
  · exact absurd q hne
 constructor
 · intro b o hb
   rw [get_put] at hb
   split at hb
   · rename_i e;exact .inr e.symm
   · exact .inl (H.dom b o hb)
 · intro b o hb hv
   rw [get_put] at hb
   split at hb
   · cases hb;exact ⟨z,mu,dt,rfl⟩
   · rename_i e
     rcases hv with q | q
     · exact H.sD b o hb q
     · exact absurd q.symm e
 · intro b o hb hv
   rw [get_put] at hb
   split at hb
   · rename_i e;exact absurd (.inr e.symm) hv
   · have hA:=H.dom b o hb
     obtain ⟨_,q2,q3⟩:=hold b hA
     obtain ⟨o',r1,r2⟩:=H.obj b o hb fun q=>hv (.inl q)
     refine ⟨o',by rw [q2];exact r1,r2.mono hold⟩
 · rintro b (q | q)
   · exact .inl (H.sub b q)
   · exact .inr q
 · rintro b c (hb | hb) (hc | hc) h1 h2 he
   · obtain ⟨_,p2,_⟩:=hold b hb
     obtain ⟨_,q2,_⟩:=hold c hc
     rw [p2,q2] at he
     exact H.inj b c hb hc (fun q=>h1 (.inl q)) (fun q=>h2 (.inl q)) he
   · exact absurd (.inr hc) h2
   · exact absurd (.inr hb) h1
   · exact hb.trans hc.symm
theorem ZV (n b:Nat):∀ (h1 h:aJ),get (bM h (DV n h1)) b=if n≤b then (match get h1 b with | some o=>some o | none=>get h b) else get h b:=by
 intro h1
 induction h1 with
 | nil=>intro h;simp [DV,bM,Pav.get]
 | cons x r ih =>
  intro h
  obtain ⟨c,o⟩:=x
  by_cases hc:n≤c
  · have e:DV n ((c,o)::r)=DV n r++[(c,some o)]:=by simp [DV,hc]
    rw [e,qV]
    simp only [bM,D9,get_put,Pav.get]
    by_cases q:c=b
    · subst q;simp [hc]
    · simp only [if_neg q];exact ih h
  · have e:DV n ((c,o)::r)=DV n r:=by simp [DV,hc]
    rw [e,ih h]
    simp only [Pav.get]
    by_cases q:c=b
    · subst q;simp [hc]
    · simp only [if_neg q]
theorem HW.union {ρ1:Nat→Nat} {V1 A1:Nat→Prop} {h1:aJ} {h1':Heap} (H:HW ρ V A h h') (H1:HW ρ1 V1 A1 h1 h1') (hA:∀ b,A b→b < n) (hA1:∀ b,A1 b→n≤b) (hp:∀ b,A b→¬ V b→ρ b < m) {m1:Nat} (hp1:∀ b,A1 b→¬ V1 b→m≤ρ1 b∧ρ1 b < m1) :
 Keeps ρ V A (fun b=>if n≤b then ρ1 b else ρ b) (fun b=>V b∨V1 b) (fun b=>A b∨A1 b)∧Keeps ρ1 V1 A1 (fun b=>if n≤b then ρ1 b else ρ b) (fun b=>V b∨V1 b) (fun b=>A b∨A1 b) ∧
 HW (fun b=>if n≤b then ρ1 b else ρ b) (fun b=>V b∨V1 b) (fun b=>A b∨A1 b) (bM h (DV n h1)) (aN h' (ups m m1 h1')):=by
 have k:Keeps ρ V A (fun b=>if n≤b then ρ1 b else ρ b) (fun b=>V b∨V1 b) (fun b=>A b∨A1 b):=fun b hb=>by
  have:=hA b hb
  exact ⟨.inl hb,if_neg (by omega),⟨fun q=>q.elim id fun q=>by have:=hA1 b (H1.sub b q);omega,.inl⟩⟩
 have k1:Keeps ρ1 V1 A1 (fun b=>if n≤b then ρ1 b else ρ b) (fun b=>V b∨V1 b) (fun b=>A b∨A1 b):=fun b hb=>by
  have:=hA1 b hb
  exact ⟨.inr hb,if_pos this,⟨fun q=>q.elim (fun q=>by have:=hA b (H.sub b q);omega) id,.inr⟩⟩
 have key:∀ b o,get (bM h (DV n h1)) b=some o→(get h1 b=some o∧n≤b)∨(get h b=some o∧¬ n≤b):=by
  intro b o hb
  rw [ZV] at hb
  by_cases q:n≤b
  · rw [if_pos q] at hb
    cases hq:get h1 b with
    | some o1=>rw [hq] at hb;cases hb;exact .inl ⟨rfl,q⟩
    | none=>rw [hq] at hb;exact .inr ⟨hb,by have:=hA b (H.dom b _ hb);omega⟩
  · rw [if_neg q] at hb;exact .inr ⟨hb,q⟩
 refine ⟨k,k1,?_,?_,?_,?_,?_⟩
 · intro b o hb
   rcases key b o hb with ⟨q,_⟩ | ⟨q,_⟩
   · exact .inr (H1.dom b o q)
   · exact .inl (H.dom b o q)
 · intro b o hb hv
   rcases key b o hb with ⟨q,q2⟩ | ⟨q,q2⟩
   · exact H1.sD b o q ((k1 b (H1.dom b o q)).2.2.1 hv)
   · exact H.sD b o q ((k b (H.dom b o q)).2.2.1 hv)
 · intro b o hb hv
   rcases key b o hb with ⟨q,q2⟩ | ⟨q,q2⟩
   · have hA':=H1.dom b o q
     have hv':¬ V1 b:=fun p=>hv (.inr p)
     obtain ⟨o',e1,e2⟩:=H1.obj b o q hv'
     refine ⟨o',?_,e2.mono k1⟩
     rw [Ku]
     simp only [if_pos q2]
     rw [if_pos (hp1 b hA' hv'),e1]
   · have hA':=H.dom b o q
     have hv':¬ V b:=fun p=>hv (.inl p)
     obtain ⟨o',e1,e2⟩:=H.obj b o q hv'
     refine ⟨o',?_,e2.mono k⟩
     rw [Ku]
     simp only [if_neg q2]
     rw [if_neg (by have:=hp b hA' hv';omega)]
     exact e1
 · rintro b (q | q)
   · exact .inl (H.sub b q)
   · exact .inr (H1.sub b q)
 · have f0:∀ b,A b→(if n≤b then ρ1 b else ρ b)=ρ b:=fun b hb=>(k b hb).2.1
   have f1:∀ b,A1 b→(if n≤b then ρ1 b else ρ b)=ρ1 b:=fun b hb=>(k1 b hb).2.1
   rintro b c (hb | hb) (hc | hc) g1 g2 he
   · rw [f0 b hb,f0 c hc] at he
     exact H.inj b c hb hc (fun q=>g1 (.inl q)) (fun q=>g2 (.inl q)) he
   · rw [f0 b hb,f1 c hc] at he
     have h1:=hp b hb (fun q=>g1 (.inl q))
     have h2:=(hp1 c hc (fun q=>g2 (.inr q))).1
     omega
   · rw [f1 b hb,f0 c hc] at he
     have h1:=(hp1 b hb (fun q=>g1 (.inr q))).1
     have h2:=hp c hc (fun q=>g2 (.inl q))
     omega
   · rw [f1 b hb,f1 c hc] at he
     exact H1.inj b c hb hc (fun q=>g1 (.inr q)) (fun q=>g2 (.inr q)) he
theorem acT (hr:yG run run') (H:HW ρ V A h h') (lt:Lts ρ V A n m) {nid mid:Nat} (hn:¬ A nid) (hnl:nid < n) (hm:∀ b,A b→¬ V b→ρ b≠mid) (hml:mid < m) {f:Nat} {args args':List AV} (ha:bf (VW ρ V A) args args') {c:wM} (hc:gW C run f args h nid n=some c) :
 ∃ c' ρ' V' A',jr (fG C) run' f args' h' mid m=some c'∧Qr ρ V A nid n mid m (iU h n args c) (bU h' m args' c') ρ' V' A':=by
 have whole:∀ {r:AV × aJ × Nat},run f args h n=some r→∃ r' ρ' V' A',run' f args' h' m=some r'∧Qr ρ V A nid n mid m (iU h n args (.whole r.1 r.2.1 r.2.2)) (bU h' m args' (.whole r'.1 r'.2.1 r'.2.2)) ρ' V' A':=by
  rintro ⟨v,h1,n1⟩ hrun
  obtain ⟨v',h1',m1,ρ',V',A',r1,r2,r3,r4,r5,r6,r7,r8,r9⟩:=hr f args h n v h1 n1 hrun ρ V A args' h' m ha H lt
  refine ⟨(v',h1',m1),ρ',V',A',r1,r2,r3,r5,fun b hb=>?_,fun b hb hv=>?_,r4,r8,r9,fun _=>⟨rfl,rfl⟩,fun b hb=>by simp [bU] at hb,fun b hb=>by simp [bU] at hb⟩
  · rcases r6 b hb with q | q
    · exact .inl q
    · exact .inr (.inr q)
  · rcases r7 b hb hv with q | q
    · exact .inl q
    · exact .inr (.inr q)
 unfold gW at hc
 split at hc
 · rename_i hi
   split at hc
   · rename_i hfr
     obtain ⟨az,h1,h2⟩:=ak hc
     have hreach:∀ b' ∈ args'.flatMap (reach h' au),∃ b ∈ args.flatMap (aK h au),b'=ρ b∧¬ V b∧A b∧∃ z es mu dt,get h b=some (.cells z es mu dt):=by
      intro b' hb'
      simp only [List.mem_flatMap] at hb' ⊢
      obtain ⟨u,hu,hb'⟩:=hb'
      obtain ⟨j,hj,q1⟩:=List.getElem_of_mem hu
      obtain ⟨x,q2,q3⟩:=ha.get' (List.getElem?_eq_getElem hj)
      rw [q1] at q3
      obtain ⟨x',_,q4⟩:=(bY h1).2 j x q2
      obtain ⟨b,q5,q6⟩:=Gs H au x u x' q3 q4 b' hb'
      exact ⟨b,⟨x,List.mem_of_getElem? q2,q5⟩,q6⟩
     by_cases hdp:rW f=true
     · rw [if_pos hdp] at h2
       obtain ⟨⟨v0,h0,n0⟩,hrun,h2⟩:=ak h2
       obtain ⟨hk,h2k,rfl⟩:=aC h2
       clear h2
       obtain ⟨az',h4,h5⟩:=fV (fun x y hxy x' hx'=>G6 H au x y x' hxy hx') ha h1
       obtain ⟨v0',h0',m0,ρ1,V1,A1,r1,r2,r3,r4,r5,r6,r7,r8,r9⟩:=hr f az [] n v0 h0 n0 hrun ρ (fun _=>False) (fun _=>False) az' [] m (h5.mono fun x x' _ hx=>hx.data)
        ⟨fun b o hb=>by simp [Pav.get] at hb,fun b o hb=>by simp [Pav.get] at hb,fun b o hb=>by simp [Pav.get] at hb,fun b hb=>hb.elim,fun b c hb=>hb.elim⟩ ⟨fun b hb=>hb.elim,fun b hb=>hb.elim⟩
       unfold wJ at h2k
       unfold NM
       by_cases hdb:yD f=true
       · rw [if_pos hdb] at h2k ⊢
         split at h2k
         case isFalse=>cases h2k
         rename_i hkW
         obtain rfl:=Option.some.inj h2k
         simp only at hkW ⊢
         have hLL:=fun b hb hV=>Jc r3 au v0 v0' r2 b hb hV
         have hkx:=ach r3 au r2 hkW
         simp only [pI,Bool.and_eq_true,List.all_eq_true] at hkW
         have r3k:=r3.keep (L':=reach h0' au v0') hkW.2 hLL
         have r2k:=Un r2 hkW.1
         have hA1:∀ b,A1 b∧b ∈ aK h0 au v0→n≤b:=fun b hb=>(r6 b hb.1).elim (fun q=>q.elim) id
         have hp1:∀ b,A1 b∧b ∈ aK h0 au v0→¬ (V1 b∧b ∈ aK h0 au v0)→m≤ρ1 b∧ρ1 b < m0:=fun b hb hv=>⟨(r7 b hb.1 fun q=>hv ⟨q,hb.2⟩).elim (fun q=>q.1.elim) id,r4.p b hb.1 fun q=>hv ⟨q,hb.2⟩⟩
         obtain ⟨u1,u2,u3⟩:=H.union r3k lt.w hA1 lt.p hp1
         refine ⟨.deep v0' (ups m m0 (h0'.filter fun x=>(reach h0' au v0').contains x.1)) m0,(fun b=>if n≤b then ρ1 b else ρ b),(fun b=>V b∨(V1 b∧b ∈ aK h0 au v0)),(fun b=>A b∨(A1 b∧b ∈ aK h0 au v0)),?_,?_⟩
         · simp only [jr,fG,hi,Bool.true_or,if_true,hdp,Bool.and_self,h4,ob,qX,r1,om,uV,Qk,if_pos hdb,hkx,List.nil_append]
         · have f0:∀ b,A b→(if n≤b then ρ1 b else ρ b)=ρ b:=fun b hb=>(u1 b hb).2.1
           have f1:∀ b,A1 b∧b ∈ aK h0 au v0→(if n≤b then ρ1 b else ρ b)=ρ1 b:=fun b hb=>(u2 b hb).2.1
           simp only [iU,bU]
           refine ⟨r2k.mono u2,u3,u1,?_,?_,⟨?_,?_⟩,r8,r9,fun q=>(by cases q),?_,?_⟩
           · rintro b (hb | hb)
             · exact .inl hb
             · exact .inr (.inr (hA1 b hb))
           · rintro b (hb | hb) hv
             · exact .inl ⟨hb,(u1 b hb).2.1⟩
             · refine .inr (.inr ?_)
               simp only [f1 b hb]
               exact (hp1 b hb fun q=>hv (.inr q)).1
           · rintro b (hb | hb)
             · exact Nat.lt_of_lt_of_le (lt.w b hb) r8
             · exact r4.w b hb.1
           · rintro b (hb | hb) hv
             · simp only [f0 b hb]
               exact Nat.lt_of_lt_of_le (lt.p b hb fun q=>hv (.inl q)) r9
             · simp only [f1 b hb]
               exact (hp1 b hb fun q=>hv (.inr q)).2
           · intro b' hb'
             obtain ⟨b,q1,q2,q3,q4,_⟩:=hreach b' hb'
             exact ⟨b,q1,by simp only [f0 b q4];exact q2,fun q=>q3 ((u1 b q4).2.2.1 q),.inl q4⟩
           · intro b' hb'
             refine .inr ⟨n,_,rfl,rfl,?_,?_,?_⟩
             · simp only [ups,List.map_reverse,List.mem_reverse,List.mem_map,List.mem_filter,decide_eq_true_eq] at hb'
               obtain ⟨_,⟨x,⟨_,q⟩,rfl⟩,rfl⟩:=hb'
               exact q.1
             · simp only [ups,List.map_reverse,List.mem_reverse,List.mem_map,List.mem_filter,decide_eq_true_eq] at hb'
               obtain ⟨_,⟨x,⟨_,q⟩,rfl⟩,rfl⟩:=hb'
               exact q.2
             · rintro c (hc | hc) hv he
               · simp only [f0 c hc] at he
                 have h1:=lt.p c hc fun q=>hv (.inl q)
                 have h2:m≤b':=by
                  simp only [ups,List.map_reverse,List.mem_reverse,List.mem_map,List.mem_filter,decide_eq_true_eq] at hb'
                  obtain ⟨_,⟨x,⟨_,q⟩,rfl⟩,rfl⟩:=hb'
                  exact q.1
                 omega
               · exact hA1 c hc
       · rw [if_neg hdb] at h2k ⊢
         obtain rfl:=Option.some.inj h2k
         simp only at *
         obtain ⟨k1,k2⟩:=vF H _ _ hreach
         have hA1:∀ b,A1 b→n≤b:=fun b hb=>(r6 b hb).elim (fun q=>q.elim) id
         have hp1:∀ b,A1 b→¬ V1 b→m≤ρ1 b∧ρ1 b < m0:=fun b hb hv=>⟨(r7 b hb hv).elim (fun q=>q.1.elim) id,r4.p b hb hv⟩
         obtain ⟨u1,u2,u3⟩:=k1.union r3 lt.w hA1 lt.p hp1
         refine ⟨.deep v0' (aV h' (args'.flatMap (reach h' au))++ups m m0 h0') m0,(fun b=>if n≤b then ρ1 b else ρ b),(fun b=>V b∨V1 b),(fun b=>A b∨A1 b),?_,?_⟩
         · simp only [jr,fG,hi,Bool.true_or,if_true,hdp,Bool.and_self,h4,ob,qX,r1,om,uV,Qk,if_neg hdb]
         · have f0:∀ b,A b→(if n≤b then ρ1 b else ρ b)=ρ b:=fun b hb=>(u1 b hb).2.1
           have f1:∀ b,A1 b→(if n≤b then ρ1 b else ρ b)=ρ1 b:=fun b hb=>(u2 b hb).2.1
           simp only [iU,bU]
           refine ⟨r2.mono u2,by rw [iT];exact u3,u1,?_,?_,⟨?_,?_⟩,r8,r9,fun q=>(by cases q),?_,?_⟩
           · rintro b (hb | hb)
             · exact .inl hb
             · exact .inr (.inr (hA1 b hb))
           · rintro b (hb | hb) hv
             · exact .inl ⟨hb,(u1 b hb).2.1⟩
             · refine .inr (.inr ?_)
               simp only [f1 b hb]
               exact (hp1 b hb fun q=>hv (.inr q)).1
           · rintro b (hb | hb)
             · exact Nat.lt_of_lt_of_le (lt.w b hb) r8
             · exact r4.w b hb
           · rintro b (hb | hb) hv
             · simp only [f0 b hb]
               exact Nat.lt_of_lt_of_le (lt.p b hb fun q=>hv (.inl q)) r9
             · simp only [f1 b hb]
               exact r4.p b hb fun q=>hv (.inr q)
           · intro b' hb'
             obtain ⟨b,q1,q2,q3,q4,_⟩:=hreach b' hb'
             exact ⟨b,q1,by simp only [f0 b q4];exact q2,fun q=>q3 ((u1 b q4).2.2.1 q),.inl q4⟩
           · intro b' hb'
             rw [List.map_append] at hb'
             rcases List.mem_append.1 hb' with hb' | hb'
             · obtain ⟨c,s1,s2,s3,s4⟩:=k2 b' hb'
               exact .inl ⟨c,s1,by simp only [f0 c s4];exact s2,fun q=>s3 ((u1 c s4).2.2.1 q),.inl s4⟩
             · refine .inr ⟨n,_,rfl,rfl,?_,?_,?_⟩
               · simp only [ups,List.map_reverse,List.mem_reverse,List.mem_map,List.mem_filter,decide_eq_true_eq] at hb'
                 obtain ⟨_,⟨x,⟨_,q⟩,rfl⟩,rfl⟩:=hb'
                 exact q.1
               · simp only [ups,List.map_reverse,List.mem_reverse,List.mem_map,List.mem_filter,decide_eq_true_eq] at hb'
                 obtain ⟨_,⟨x,⟨_,q⟩,rfl⟩,rfl⟩:=hb'
                 exact q.2
               · rintro c (hc | hc) hv he
                 · simp only [f0 c hc] at he
                   have h1:=lt.p c hc fun q=>hv (.inl q)
                   have h2:m≤b':=by
                    simp only [ups,List.map_reverse,List.mem_reverse,List.mem_map,List.mem_filter,decide_eq_true_eq] at hb'
                    obtain ⟨_,⟨x,⟨_,q⟩,rfl⟩,rfl⟩:=hb'
                    exact q.1
                   omega
                 · exact hA1 c hc
     rw [if_neg hdp] at h2
     obtain ⟨x,h3,hend⟩:=ak h2
     unfold wP at hend
     split at hend
     · cases hend
     rename_i hbr0
     cases hend
     have hbr:tZ f=true→nG x=true:=by
      intro hb
      simpa [hb] using hbr0
     obtain ⟨az',h4,h5⟩:=fV (fun x y hxy x' hx'=>G6 H au x y x' hxy hx') ha h1
     obtain ⟨⟨v0,h0,n0⟩,hrun,hx⟩:=ak h3
     obtain ⟨v0',h0',m0,ρ1,V1,A1,r1,r2,r3,r4,_⟩:=hr f az [] 0 v0 h0 n0 hrun ρ (fun _=>False) (fun _=>False) az' [] 0 (h5.mono fun x x' _ hx=>hx.data)
      ⟨fun b o hb=>by simp [Pav.get] at hb,fun b o hb=>by simp [Pav.get] at hb,fun b o hb=>by simp [Pav.get] at hb,fun b hb=>hb.elim,fun b c hb=>hb.elim⟩ ⟨fun b hb=>hb.elim,fun b hb=>hb.elim⟩
     have hmk:HW ρ V A (bM h (xM f (aW h (args.flatMap (aK h au))))) (aN h' (BL f (aV h' (args'.flatMap (reach h' au))))) ∧
      ∀ b' ∈ (BL f (aV h' (args'.flatMap (reach h' au)))).map (·.1),∃ b ∈ (xM f (aW h (args.flatMap (aK h au)))).map (·.1),b'=ρ b∧¬ V b∧A b:=by
      unfold BL xM
      split
      · exact ⟨H,fun b hb=>by simp at hb⟩
      · exact vF H _ _ hreach
     obtain ⟨k1,k2⟩:=hmk
     have hgo:∀ {x':AV × Upd},iV run' f az' mid=some x'→(tZ f=true→uK x'=true)→jr (fG C) run' f args' h' mid m=some (.data x'.1 (BL f (aV h' (args'.flatMap (reach h' au)))++x'.2)):=by
      intro x' hx' hb'
      have hb2:(tZ f&&!uK x')=false:=by
       cases hq:tZ f with
       | false=>rfl
       | true=>simp [hb' hq]
      have hdp':rW f=false:=by simpa using hdp
      simp only [jr,fG,hi,Bool.true_or,if_true,hfr,hdp',Bool.and_self,Bool.and_false,h4,hx',ob,zG,hb2,Bool.false_eq_true,if_false]
     have rdOk:∀ {ρ':Nat→Nat} {V' A':Nat→Prop},(∀ b,A b→A' b∧ρ' b=ρ b∧(V' b↔V b))→∀ b' ∈ args'.flatMap (reach h' au),∃ c ∈ args.flatMap (aK h au),b'=ρ' c∧¬ V' c∧A' c:=by
      intro ρ' V' A' hk b' hb'
      obtain ⟨b,q1,q2,q3,q4,_⟩:=hreach b' hb'
      obtain ⟨s1,s2,s3⟩:=hk b q4
      exact ⟨b,q1,by rw [s2];exact q2,fun q=>q3 (s3.1 q),s1⟩
     have hold2:∀ b,A b→addN A nid b∧up ρ nid mid b=ρ b∧(addN V nid b↔V b):=by
      intro b hb
      have hne:b≠nid:=fun e=>hn (e ▸ hb)
      refine ⟨.inl hb,by simp [up,hne],⟨fun q=>?_,fun q=>.inl q⟩⟩
      rcases q with q | q
      · exact q
      · exact absurd q hne
     have hold1:∀ b,A b→addN A nid b∧up ρ nid mid b=ρ b∧(V b↔V b):=qg hn
     have hVn:¬ V nid:=fun q=>hn (H.sub nid q)
     simp only at hx
     split at hx
     · rename_i hown
       obtain ⟨v,h6,rfl⟩:=aC hx
       have hnA:¬ A1 n0:=fun q=>Nat.lt_irrefl _ (r4.w n0 q)
       obtain ⟨u',q1,q2⟩:=LU (ρ2:=ρ) (V2:=V) (A2:=A) (b':=m0) (mid:=0) (fun q=>absurd q hnA) r2 v h6
       have q3:=V3 (fun q=>absurd q hnA) r2 v h6
       have hfc:iV run' f az' mid=some (u',[]):=by
        unfold iV
        rw [r1]
        simp only [ob,q3,q1,om]
       have hbx:tZ f=true→uK (u',([]:Upd))=true:=by
        intro hb
        have:=hbr hb
        simp only [nG,uK,List.all_nil,Bool.and_true] at this ⊢
        exact Fe q2 this
       refine ⟨_,ρ,V,A,hgo hfc hbx,?_⟩
       simp only [iU,bU,List.append_nil]
       exact ⟨q2,k1,Keeps.refl ρ V A,fun b hb=>.inl hb,fun b hb _=>.inl ⟨hb,rfl⟩,lt,Nat.le_refl _,Nat.le_refl _,fun q=>(by cases q),rdOk fun b hb=>⟨hb,rfl,Iff.rfl⟩,fun b hb=>.inl (k2 b hb)⟩
     · rename_i b hown
       unfold P5 at hx
       split at hx
       · rename_i z es mu dt hg
         split at hx
         · rename_i hmd
           obtain ⟨v,h6,rfl⟩:=aC hx
           simp only [Bool.and_eq_true] at hmd
           obtain ⟨rfl,rfl⟩:=hmd
           have hA1:A1 b:=r3.dom b _ hg
           by_cases hV1:V1 b
           · obtain ⟨z',mu',dt',e⟩:=r3.sD b _ hg hV1
             cases e
             obtain ⟨u',q1,q2⟩:=LU (ρ2:=up ρ nid mid) (V2:=addN V nid) (A2:=addN A nid) (b':=m0) (mid:=0) (fun _=>.inr ⟨hV1,.inr rfl,.inr rfl⟩) r2 v h6
             have q3:=V3 (fun _=>hV1) r2 v h6
             have hfc:iV run' f az' mid=some (u',[]):=by
              unfold iV
              rw [r1]
              simp only [ob,q3,q1,om]
             have hbx:tZ f=true→uK (u',([]:Upd))=true:=by
              intro hb
              have:=hbr hb
              simp only [nG,uK,List.all_nil,Bool.and_true,Bool.and_eq_true] at this ⊢
              exact Fe q2 this.1
             refine ⟨_,up ρ nid mid,addN V nid,addN A nid,hgo hfc hbx,?_⟩
             simp only [iU,bU,List.append_nil]
             refine ⟨q2,?_,hold2,?_,?_,⟨?_,?_⟩,Nat.le_refl _,Nat.le_refl _,fun q=>(by cases q),rdOk hold2,?_⟩
             · rw [qV]
               exact adI k1 hn mid z true true
             · rintro c (hc | hc)
               · exact .inl hc
               · exact .inr (.inl hc)
             · rintro c (hc | hc) hv
               · exact .inl ⟨hc,(hold2 c hc).2.1⟩
               · exact absurd (.inr hc) hv
             · rintro c (hc | hc)
               · exact lt.w c hc
               · subst hc;exact hnl
             · rintro c (hc | hc) hv
               · rw [(hold2 c hc).2.1];exact lt.p c hc fun q=>hv (.inl q)
               · exact absurd (.inr hc) hv
             · intro b' hb'
               obtain ⟨c,s1,s2,s3,s4⟩:=k2 b' hb'
               obtain ⟨t1,t2,t3⟩:=hold2 c s4
               exact .inl ⟨c,by simp only [TJ];rw [List.map_append];exact List.mem_append_left _ s1,by rw [t2];exact s2,fun q=>s3 (t3.1 q),t1⟩
           · obtain ⟨o',g1,g2⟩:=r3.obj b _ hg hV1
             obtain ⟨es',mu',rfl,e1,e2,e3⟩:=g2
             have hmu:=e1 rfl
             subst hmu
             obtain ⟨u',q1,q2⟩:=LU (ρ2:=up ρ nid mid) (V2:=V) (A2:=addN A nid) (b':=ρ1 b) (mid:=mid) (fun _=>.inl ⟨hV1,rfl,.inr rfl,hVn,by simp [up]⟩) r2 v h6
             have q3:qB v0'=some (ρ1 b):=by
              rcases ajf hA1 hV1 r2 v h6 with ⟨s1,_⟩ | ⟨_,s2⟩
              · rw [hown] at s1;cases s1
              · exact s2
             have hcells:bf (bf (VW (up ρ nid mid) V (addN A nid))) es es':=e2.mono fun e e' he hee=>hee.mono fun x x' hx hxx=>hxx.isC (e3 rfl e he x hx)
             have hpl:(es'.all fun e=>e.all lM)=true:=by
              rw [List.all_eq_true]
              intro e' he'
              rw [List.all_eq_true]
              intro x' hx'
              obtain ⟨j,hj,p1⟩:=List.getElem_of_mem he'
              obtain ⟨e,p2,p3⟩:=e2.get' (List.getElem?_eq_getElem hj)
              rw [p1] at p3
              obtain ⟨k,hk,p4⟩:=List.getElem_of_mem hx'
              obtain ⟨x,p5,p6⟩:=p3.get' (List.getElem?_eq_getElem hk)
              rw [p4] at p6
              exact WV p6 (e3 rfl e (List.mem_of_getElem? p2) x (List.mem_of_getElem? p5))
             have hfc:iV run' f az' mid=some (u',[(mid,some (.cells z es' true))]):=by
              unfold iV
              rw [r1]
              simp only [ob,q3,g1,EZ,hpl,Bool.and_self,if_true,q1,om]
             have hbx:tZ f=true→uK (u',[(mid,some (.cells z es' true))])=true:=by
              intro hb
              have:=hbr hb
              simp only [nG,uK,List.all_nil,List.all_cons,TP,aae,Bool.and_true,Bool.and_eq_true] at this ⊢
              refine ⟨Fe q2 this.1,?_⟩
              rw [List.all_eq_true]
              intro e' he'
              obtain ⟨j,hj,p1⟩:=List.getElem_of_mem he'
              obtain ⟨e,p2,p3⟩:=e2.get' (List.getElem?_eq_getElem hj)
              rw [p1] at p3
              exact YE p3 (List.all_eq_true.1 this.2 e (List.mem_of_getElem? p2))
             refine ⟨_,up ρ nid mid,V,addN A nid,hgo hfc hbx,?_⟩
             simp only [iU,bU]
             refine ⟨q2,?_,hold1,?_,?_,⟨?_,?_⟩,Nat.le_refl _,Nat.le_refl _,fun q=>(by cases q),rdOk hold1,?_⟩
             · rw [qV,iT]
               exact pq k1 hn hm ⟨es',true,rfl,fun _=>rfl,hcells,e3⟩
             · rintro c (hc | hc)
               · exact .inl hc
               · exact .inr (.inl hc)
             · rintro c (hc | hc) hv
               · exact .inl ⟨hc,(hold1 c hc).2.1⟩
               · subst hc;exact .inr (.inl (by simp [up]))
             · rintro c (hc | hc)
               · exact lt.w c hc
               · subst hc;exact hnl
             · rintro c (hc | hc) hv
               · rw [(hold1 c hc).2.1];exact lt.p c hc hv
               · subst hc;simp only [up,if_true];exact hml
             · intro b' hb'
               rw [List.map_append] at hb'
               rcases List.mem_append.1 hb' with hb' | hb'
               · obtain ⟨c,s1,s2,s3,s4⟩:=k2 b' hb'
                 obtain ⟨t1,t2,t3⟩:=hold1 c s4
                 exact .inl ⟨c,by simp only [TJ];rw [List.map_append];exact List.mem_append_left _ s1,by rw [t2];exact s2,s3,t1⟩
               · simp only [List.map_cons,List.map_nil,List.mem_singleton] at hb'
                 subst hb'
                 exact .inl ⟨nid,by simp only [TJ];rw [List.map_append];exact List.mem_append_right _ (by simp),by simp [up],hVn,.inr rfl⟩
         · cases hx
       · cases hx
   · rename_i hfr
     obtain ⟨r,h1,rfl⟩:=aC hc
     obtain ⟨r',ρ',V',A',r1,r2⟩:=whole h1
     refine ⟨_,ρ',V',A',?_,r2⟩
     have hfr:JU f=false:=by simpa using hfr
     have hdp':rW f=false:=by
      unfold JU at hfr
      unfold rW
      have:=of_decide_eq_false hfr
      exact decide_eq_false (by omega)
     simp only [jr,fG,hi,Bool.true_or,if_true,hfr,hdp',Bool.and_false,Bool.false_eq_true,if_false,uj,r1,om,tidy]
 · rename_i hi
   have hi:C.inl f=false:=by simpa using hi
   split at hc
   · rename_i hp
     obtain ⟨r,h1,rfl⟩:=aC hc
     obtain ⟨r',ρ',V',A',r1,r2⟩:=whole h1
     refine ⟨_,ρ',V',A',?_,r2⟩
     simp only [Bool.and_eq_true,Bool.not_eq_true'] at hp
     simp only [jr,fG,hi,hp.1,TA args hp.2 args' ha,Bool.false_or,Bool.not_false,Bool.and_self,if_true,Bool.false_and,Bool.false_eq_true,if_false,uj,r1,om,tidy]
   · rename_i hp
     obtain ⟨az,h1,h2⟩:=ak hc
     obtain ⟨v,h3,rfl⟩:=aC h2
     have hp':(!C.pp f&&bP args')=false:=by
      cases hpp:C.pp f with
      | true=>rfl
      | false =>
       rw [hpp] at hp
       have h0:bP args=false:=by simpa using hp
       rw [Yb args args' az ha h1 h0];rfl
     obtain ⟨az',h4,h5⟩:=fV (fun x y hxy x' hx'=>G6 H au x y x' hxy hx') ha h1
     obtain ⟨v',h6,h7⟩:=Qj hr h5 h3
     have hreach:∀ b' ∈ args'.flatMap (reach h' au),∃ b ∈ args.flatMap (aK h au),b'=ρ b∧¬ V b∧A b∧∃ z es mu dt,get h b=some (.cells z es mu dt):=by
      intro b' hb'
      simp only [List.mem_flatMap] at hb' ⊢
      obtain ⟨u,hu,hb'⟩:=hb'
      obtain ⟨j,hj,q1⟩:=List.getElem_of_mem hu
      obtain ⟨x,q2,q3⟩:=ha.get' (List.getElem?_eq_getElem hj)
      rw [q1] at q3
      obtain ⟨x',_,q4⟩:=(bY h1).2 j x q2
      obtain ⟨b,q5,q6⟩:=Gs H au x u x' q3 q4 b' hb'
      exact ⟨b,⟨x,List.mem_of_getElem? q2,q5⟩,q6⟩
     refine ⟨.data v' (marks h' args' v'),ρ,V,A,by simp only [jr,fG,hi,hp',Bool.false_or,Bool.false_eq_true,if_false,h4,h6,om],?_⟩
     have hmarks:HW ρ V A (bM h (oW h args v)) (aN h' (marks h' args' v'))∧∀ b' ∈ (marks h' args' v').map (·.1),∃ b ∈ (oW h args v).map (·.1),b'=ρ b∧¬ V b∧A b:=by
      unfold marks oW
      by_cases hr2:dn au v=true
      · rw [if_pos hr2]
        split
        · exact vF H _ _ hreach
        · have:=vF H (args.flatMap (aK h au)) [] (fun b hb=>by cases hb)
          exact ⟨this.1,fun b hb=>by simp at hb⟩
      · rw [if_neg hr2,if_neg (fun q=>hr2 (Xy _ _ _ h7 q))]
        exact ⟨H,fun b hb=>by simp at hb⟩
     refine ⟨h7.mono fun _ q=>q.elim,hmarks.1,Keeps.refl ρ V A,fun b hb=>.inl hb,fun b hb _=>.inl ⟨hb,rfl⟩,lt,Nat.le_refl _,Nat.le_refl _,fun q=>(by cases q),fun b' hb'=>?_,fun b hb=>.inl (hmarks.2 b hb)⟩
     obtain ⟨b,q1,q2,q3,q4,_⟩:=hreach b' hb'
     exact ⟨b,q1,q2,q3,q4⟩
theorem Zu (he:EW ρ V A e e') {xs:List Opd} (hx:xs.all okO=true):bf (VW ρ V A) (xs.map fun x=>x.ev e) ((xs.map erO).map fun x=>x.ev e'):=by
 rw [List.map_map]
 simp only [List.all_eq_true] at hx
 refine ⟨by simp,fun j x x' h1 h2=>?_⟩
 rw [List.getElem?_map] at h1 h2
 cases h3:xs[j]? with
 | none=>rw [h3] at h1;cases h1
 | some c=>rw [h3] at h1 h2;cases h1;cases h2;exact he.opd (hx c (List.mem_of_getElem? h3))
theorem alG (he:EW ρ V A e e') {op:COp} (ho:iZ op=true) {r:AV × dP} (hs:stepW op e h n=some r):∀ b' ∈ readsOf e' (fP op),∃ b ∈ readsOf e op,b'=ρ b∧¬ V b∧A b:=by
 have one:∀ {x:Opd},okO x=true→x.ev e≠.undef→∀ b' ∈ dW ((erO x).ev e'),∃ b ∈ dW (x.ev e),b'=ρ b∧¬ V b∧A b:=by
  intro x hx hun b' hb'
  have hv:=he.opd hx
  cases hxe:x.ev e with
  | ptr b i o=>rw [hxe] at hv;obtain ⟨q,h1,h2⟩:=hv.jf;rw [q] at hb';simp [dW] at hb' ⊢;exact ⟨hb',h2,h1⟩
  | map b=>rw [hxe] at hv;obtain ⟨q,h1,h2⟩:=hv.xH;rw [q] at hb';simp [dW] at hb' ⊢;exact ⟨hb',h2,h1⟩
  | sl b z i len cap ex =>
   rw [hxe] at hv
   rcases hv.jJ with ⟨h1,h2,ex',q,_⟩ | ⟨_,_,_,_,_,q⟩
   · rw [q] at hb';simp [dW] at hb' ⊢;exact ⟨hb',h2,h1⟩
   · rcases q with q | q <;> rw [q] at hb' <;> simp [dW] at hb'
  | undef=>exact absurd hxe hun
  | ro z es ex =>
   rw [hxe] at hv
   rcases hv.l7 with ⟨_,q⟩ | ⟨_,_,q,_⟩ <;> rw [q] at hb' <;> simp [dW] at hb'
  | _=>rw [hxe] at hv;cases hnm:(erO x).ev e' <;> rw [hnm] at hv hb' <;> first | (cases hv;done) | (simp [dW] at hb';done)
 have two:∀ {x y:Opd},okO x=true→okO y=true→x.ev e≠.undef→y.ev e≠.undef→∀ b' ∈ dW ((erO x).ev e')++dW ((erO y).ev e'),∃ b ∈ dW (x.ev e)++dW (y.ev e),b'=ρ b∧¬ V b∧A b:=by
  intro x y hx hy hux huy b' hb'
  rcases List.mem_append.1 hb' with q | q
  · obtain ⟨b,q1,q2⟩:=one hx hux b' q;exact ⟨b,List.mem_append.2 (.inl q1),q2⟩
  · obtain ⟨b,q1,q2⟩:=one hy huy b' q;exact ⟨b,List.mem_append.2 (.inr q1),q2⟩
 have nil:∀ b' ∈ ([]:List Nat),∃ b ∈ readsOf e op,b'=ρ b∧¬ V b∧A b:=fun b' hb'=>by cases hb'
 cases op with
 | load k ag a=>exact one ho (fun q=>by simp [stepW,abI,ovW,om,AY,q] at hs)
 | gJ k x lo hi =>
  simp only [iZ,Bool.and_eq_true] at ho
  exact one ho.1 (fun q=>by simp [stepW,EO,Ae,q] at hs)
 | store k a x =>
  simp only [iZ,Bool.and_eq_true] at ho
  exact one ho.1 (fun q=>by simp [stepW,MG,vO,q] at hs)
 | next x=>exact one ho (fun q=>by simp [stepW,Ux,q] at hs)
 | len kd x=>exact one ho (fun q=>by simp [stepW,ai0,qP,ovW,om,q] at hs)
 | look kd z ok m k =>
  simp only [iZ,Bool.and_eq_true] at ho
  exact one ho.2.1 (fun q=>by simp [stepW,UA,q] at hs)
 | upd kd m k v =>
  simp only [iZ,Bool.and_eq_true] at ho
  exact one ho.1 (fun q=>by simp [stepW,adD,q] at hs)
 | app z bytes zeros s x =>
  simp only [iZ,Bool.and_eq_true] at ho
  have hux:x.ev e≠.undef:=fun q=>by simp [stepW,PX,q,jY,ob] at hs
  refine two ho.2.1 ho.2.2 (fun q=>?_) hux
  simp only [stepW,PX,q] at hs
  split at hs
  · split at hs
    · obtain ⟨_,_,hs⟩:=ak hs
      split at hs
      · simp [jc] at hs
      · cases hs
    · cases hs
  · obtain ⟨_,_,hs⟩:=ak hs
    simp [jc] at hs
 | cpy z d s =>
  simp only [iZ,Bool.and_eq_true] at ho
  refine two ho.1 ho.2 (fun q=>?_) (fun q=>by simp [stepW,WW,q,jY,ob] at hs)
  simp only [stepW,WW,q] at hs
  obtain ⟨_,_,hs⟩:=ak hs
  simp [qE] at hs
 | clr z d =>
  simp only [iZ,Bool.and_eq_true] at ho
  exact one ho.2 (fun q=>by simp [stepW,adQ,BK,q] at hs)
 | _=>exact nil
theorem Yu (he:EW ρ V A e e') {g:Option (Nat × Bool)} {b:Bool} (hw:wants e g=some b):wants e' g=some b:=by
 cases g with
 | none=>exact hw
 | some p =>
  obtain ⟨s,w⟩:=p
  simp only [wants] at hw ⊢
  cases hg:get e s with
  | none=>rw [hg] at hw;cases hw
  | some v =>
   obtain ⟨v',h1,h2⟩:=he s v hg
   rw [hg] at hw
   rw [h1]
   cases v with
   | bool b=>rw [h2.fJ];exact hw
   | tup vs =>
    cases vs with
    | nil =>
     obtain ⟨vs',rfl,hr⟩:=h2.sN
     rw [hr.eH];exact hw
    | cons a r=>cases hw
   | _=>cases hw
theorem aa8 (hr:yG run run') (he:EW ρ V A e e') (H:HW ρ V A h h') (lt:Lts ρ V A n m) {nid mid:Nat} (hn:¬ A nid) (hnl:nid < n) (hm:∀ b,A b→¬ V b→ρ b≠mid) (hml:mid < m)
 {o:aX} (ho:iZ o.op=true) {d:jy} (hd:fH C run o nid e h n=some d):∃ d' ρ' V' A',jA (fG C) run' (tV o) mid e' h' m=some d'∧Qr ρ V A nid n mid m d d' ρ' V' A':=by
 unfold fH at hd
 cases hw:wants e o.guard with
 | none=>rw [hw] at hd;cases hd
 | some b =>
  rw [hw] at hd
  have hw':=Yu he hw
  cases b with
  | false =>
   simp only [Option.some.injEq] at hd
   subst hd
   refine ⟨⟨.tup [],h',m,false,[],[]⟩,ρ,V,A,by simp only [jA,tV,hw'],VW.lH .nil,H,Keeps.refl ρ V A,fun b hb=>.inl hb,fun b hb _=>.inl ⟨hb,rfl⟩,lt,Nat.le_refl _,Nat.le_refl _,fun q=>(by cases q),fun b hb=>(by cases hb),fun b hb=>(by cases hb)⟩
  | true =>
   simp only at hd
   have goal:∃ d' ρ' V' A',jl (fG C) run' (fP o.op) mid e' h' m=some d'∧Qr ρ V A nid n mid m d d' ρ' V' A':=by
    have callCase:∀ (f:Nat) (args args':List AV),bf (VW ρ V A) args args'→callOf e' (fP o.op)=some (some (f,args'))→callOf e o.op=some (some (f,args)) →
     ∃ d' ρ' V' A',jl (fG C) run' (fP o.op) mid e' h' m=some d'∧Qr ρ V A nid n mid m d d' ρ' V' A':=by
     intro f args args' ha hc' hc
     simp only [iM,hc] at hd
     obtain ⟨c,h1,rfl⟩:=aC hd
     obtain ⟨c',ρ',V',A',h2,h3⟩:=acT hr H lt hn hnl hm hml ha h1
     exact ⟨_,ρ',V',A',by simp only [jl,hc',h2,om],h3⟩
    by_cases hcall:callOf e o.op=some none
    · have hcall':callOf e' (fP o.op)=some none:=by
       cases hop:o.op <;> rw [hop] at hcall <;> simp only [callOf,fP] at hcall ⊢
       · cases hcall
       · split at hcall <;> cases hcall
      simp only [iM,hcall] at hd
      obtain ⟨r,h1,rfl⟩:=aC hd
      obtain ⟨r',h2,h3⟩:=aaB he H hn hm ho h1
      have hu:=qg (ρ:=ρ) (V:=V) (m:=mid) hn
      have hVn:¬ V nid:=fun q=>hn (H.sub nid q)
      refine ⟨_,up ρ nid mid,V,addN A nid,by simp only [jl,hcall',h2,om];rfl,h3.1,h3.2.1,hu,?_,?_,⟨?_,?_⟩,Nat.le_refl _,Nat.le_refl _,fun q=>(by cases q),?_,?_⟩
      · rintro b (hb | rfl)
        · exact .inl hb
        · exact .inr (.inl rfl)
      · rintro b (hb | rfl) hv
        · exact .inl ⟨hb,(hu b hb).2.1⟩
        · exact .inr (.inl (by simp [up]))
      · rintro b (hb | rfl)
        · exact lt.w b hb
        · exact hnl
      · rintro b (hb | rfl) hv
        · rw [(hu b hb).2.1];exact lt.p b hb hv
        · simp only [up,if_true];exact hml
      · intro b' hb'
        obtain ⟨b,q1,q2,q3,q4⟩:=alG he ho h1 b' hb'
        exact ⟨b,q1,by rw [(hu b q4).2.1];exact q2,q3,.inl q4⟩
      · intro b' hb'
        exact .inl (h3.2.2 b' hb')
    · cases hop:o.op with
      | call f args =>
       rw [hop] at ho
       have:=callCase f _ _ (Zu he ho) (by rw [hop];rfl) (by rw [hop];rfl)
       rwa [hop] at this
      | eu g args =>
       rw [hop] at ho
       simp only [iZ,Bool.and_eq_true] at ho
       have hg:=he.opd ho.1
       cases hge:g.ev e with
       | fn f caps =>
        rw [hge] at hg
        obtain ⟨caps',q,hrel⟩:=hg.yF
        have:=callCase f _ _ ((Zu he ho.2).append hrel) (by rw [hop];simp only [fP,callOf,q]) (by rw [hop];simp only [callOf,hge])
        rwa [hop] at this
       | _ =>
        exfalso
        rw [hop] at hd
        simp only [iM,callOf,hge] at hd
        cases hd
      | _=>exact absurd (by rw [hop];rfl) hcall
   obtain ⟨d',ρ',V',A',h1,h2⟩:=goal
   exact ⟨d',ρ',V',A',by simp only [jA,tV,hw'];exact h1,h2⟩
end
end Go.Pw
end
section
set_option linter.unusedSimpArgs false
set_option linter.unusedVariables false
namespace Go.Pw
open Go Go.Pav
def Srt (e:Env):Prop:=e.Pairwise fun a b=>b.1 < a.1
theorem Srt.put {e:Env} (h:Srt e) (k:Nat) (v:AV):Srt (uQ e k v):=by
 have mem:∀ (e:Env) x,x ∈ uQ e k v→x=(k,v)∨x ∈ e:=by
  intro e
  induction e with
  | nil=>intro x hx;simp [uQ] at hx;exact .inl hx
  | cons y e ih =>
   intro x hx
   obtain ⟨j,u⟩:=y
   simp only [uQ] at hx
   split at hx
   · rcases List.mem_cons.1 hx with q | q
     · exact .inl q
     · exact .inr q
   · split at hx
     · rcases List.mem_cons.1 hx with q | q
       · exact .inl q
       · exact .inr (List.mem_cons_of_mem _ q)
     · rcases List.mem_cons.1 hx with q | q
       · exact .inr (q ▸ List.mem_cons_self)
       · rcases ih x q with q | q
         · exact .inl q
         · exact .inr (List.mem_cons_of_mem _ q)
 induction e with
 | nil=>exact List.pairwise_singleton _ _
 | cons y e ih =>
  obtain ⟨j,u⟩:=y
  have h1:∀ x ∈ e,x.1 < j:=fun x hx=>(List.pairwise_cons.1 h).1 x hx
  have h2:Srt e:=(List.pairwise_cons.1 h).2
  simp only [uQ]
  split
  · rename_i hk
    refine List.pairwise_cons.2 ⟨fun x hx=>?_,h⟩
    rcases List.mem_cons.1 hx with rfl | q
    · exact hk
    · have:=h1 x q;simp only;omega
  · rename_i hk
    split
    · rename_i hj;subst hj;exact List.pairwise_cons.2 ⟨h1,h2⟩
    · rename_i hj
      refine List.pairwise_cons.2 ⟨fun x hx=>?_,ih h2⟩
      rcases mem e x hx with rfl | q
      · simp only;omega
      · exact h1 x q
theorem Srt.dL {e:Env} (h:Srt e) (d:Option Nat) (v:AV):Srt (dX e d v):=by
 cases d with
 | none=>exact h
 | some d=>exact h.put d v
theorem Uw:∀ (l:List AV) (k:Nat) (acc:Env),Gt k l acc=(eY k l).reverse++acc:=by
 intro l
 induction l with
 | nil=>intro k acc;rfl
 | cons v l ih=>intro k acc;simp [Gt,eY,ih]
theorem OV:∀ (l:List AV) (k:Nat),(eY k l).Pairwise (fun a b=>a.1 < b.1)∧∀ x ∈ eY k l,k≤x.1:=by
 intro l
 induction l with
 | nil=>intro k;exact ⟨List.Pairwise.nil,fun x hx=>by simp [eY] at hx⟩
 | cons v l ih =>
  intro k
  obtain ⟨h1,h2⟩:=ih (k+1)
  refine ⟨List.pairwise_cons.2 ⟨fun x hx=>by have:=h2 x hx;simp only;omega,h1⟩,fun x hx=>?_⟩
  rcases List.mem_cons.1 hx with rfl | q
  · exact Nat.le_refl _
  · have:=h2 x q;omega
theorem adP (l:List AV) (k:Nat):Srt (Gt k l []):=by
 rw [Uw,List.append_nil]
 exact List.pairwise_reverse.2 (OV l k).1
theorem Srt.get {e:Env} (h:Srt e) {k:Nat} {v:AV} (hm:(k,v) ∈ e):Pav.get e k=some v:=by
 induction e with
 | nil=>cases hm
 | cons y e ih =>
  obtain ⟨j,u⟩:=y
  have h1:∀ x ∈ e,x.1 < j:=fun x hx=>(List.pairwise_cons.1 h).1 x hx
  simp only [Pav.get]
  rcases List.mem_cons.1 hm with q | q
  · cases q;simp
  · have:=h1 _ q
    simp only at this
    rw [if_neg (by omega)]
    exact ih (List.pairwise_cons.1 h).2 q
theorem Ui {k a:Nat}:∀ {l:List Nat},a ∈ rY k l→a ∈ l:=by
 intro l
 induction l with
 | nil=>intro h;exact h
 | cons b l ih =>
  intro h
  simp only [rY] at h
  split at h
  · exact List.mem_cons_of_mem _ (ih h)
  · exact h
theorem Jv:∀ (e:Env) (live:List Nat),(pz live e).Sublist e∧∀ x ∈ pz live e,x.1 ∈ live:=by
 intro e
 induction e with
 | nil=>intro live;simp [IV]
 | cons y e ih =>
  obtain ⟨j,u⟩:=y
  intro live
  simp only [Hf]
  have hsub:∀ a ∈ rY j live,a ∈ live:=fun a ha=>Ui ha
  cases hd:rY j live with
  | nil=>simp [VI]
  | cons a l =>
   rw [hd] at hsub
   simp only [VI]
   split
   · rename_i ha
     obtain ⟨h1,h2⟩:=ih l
     refine ⟨h1.cons_cons _,fun x hx=>?_⟩
     rcases List.mem_cons.1 hx with rfl | q
     · simp only;subst ha;exact hsub _ (by simp)
     · exact hsub _ (List.mem_cons_of_mem _ (h2 x q))
   · obtain ⟨h1,h2⟩:=ih (a::l)
     exact ⟨h1.cons _,fun x hx=>hsub _ (h2 x hx)⟩
structure Sim (ρ:Nat→Nat) (V A:Nat→Prop) (s:WSt) (s':St):Prop where
 srt:Srt s.env
 env:EW ρ V A s.env s'.env
 heap:HW ρ V A s.heap s'.heap
 lt:Lts ρ V A s.next s'.next
def Old (base:Nat) (ρ:Nat→Nat) (V A:Nat→Prop) (ρ':Nat→Nat) (V' A':Nat→Prop):Prop:=∀ b,b < base→(A b→A' b∧ρ' b=ρ b∧(V' b↔V b))∧(A' b→A b)
theorem Old.refl (base:Nat) (ρ:Nat→Nat) (V A:Nat→Prop):Old base ρ V A ρ V A:=fun _ _=>⟨fun h=>⟨h,rfl,Iff.rfl⟩,id⟩
theorem Old.trans {base:Nat} {ρ ρ1 ρ2:Nat→Nat} {V A V1 A1 V2 A2:Nat→Prop} (h:Old base ρ V A ρ1 V1 A1) (k:Old base ρ1 V1 A1 ρ2 V2 A2):Old base ρ V A ρ2 V2 A2:=fun b hb =>
 ⟨fun ha=>by
  obtain ⟨h1,h2,h3⟩:=(h b hb).1 ha
  obtain ⟨k1,k2,k3⟩:=(k b hb).1 h1
  exact ⟨k1,k2.trans h2,k3.trans h3⟩,fun ha=>(h b hb).2 ((k b hb).2 ha)⟩
section
variable {ρ:Nat→Nat} {V A:Nat→Prop} {n m:Nat} {h:aJ} {h':Heap} {e e':Env}
theorem abu {base:Nat} {h:aJ}:∀ (n:Nat) (w acc:List Nat),acc.Nodup→(∀ x ∈ acc,base≤x)→(close base h n w acc).Nodup∧∀ x ∈ close base h n w acc,base≤x:=by
 intro n
 induction n with
 | zero=>intro w acc h1 h2;exact ⟨h1,h2⟩
 | succ n ih =>
  intro w acc h1 h2
  cases w with
  | nil=>exact ⟨h1,h2⟩
  | cons b w =>
   simp only [close]
   split
   · exact ih w acc h1 h2
   · rename_i hb
     split
     · exact ih w acc h1 h2
     · rename_i hc
       refine ih _ _ ?_ ?_
       · have hc:b ∉ acc:=by simpa using hc
         rw [List.nodup_append]
         exact ⟨h1,by simp,fun x hx y hy=>by simp at hy;subst hy;rintro rfl;exact hc hx⟩
       · intro x hx
         rcases List.mem_append.1 hx with q | q
         · exact h2 x q
         · simp at q;subst q;omega
def pre (base:Nat) (L:List Nat) (b:Nat):Nat:=if b < base then b else L.getD (b - base) 0
theorem Rf:∀ {L:List Nat} {n b c:Nat},place n L b=some c→n≤c∧L[c - n]?=some b:=by
 intro L
 induction L with
 | nil=>intro n b c h;simp [place] at h
 | cons a L ih =>
  intro n b c h
  simp only [place] at h
  split at h
  · rename_i hb;cases h;subst hb;simp
  · obtain ⟨h1,h2⟩:=ih h
    refine ⟨by omega,?_⟩
    have:c - n=(c - (n+1))+1:=by omega
    rw [this];simpa using h2
theorem Z9:∀ {L:List Nat} {n i b:Nat},L.Nodup→L[i]?=some b→place n L b=some (n+i):=by
 intro L
 induction L with
 | nil=>intro n i b _ h;simp at h
 | cons a L ih =>
  intro n i b hd h
  cases i with
  | zero=>simp at h;subst h;simp [place]
  | succ i =>
   simp only [List.getElem?_cons_succ] at h
   simp only [List.nodup_cons] at hd
   simp only [place]
   rw [if_neg]
   · rw [ih hd.2 h];congr 1;omega
   · rintro rfl;exact hd.1 (List.mem_of_getElem? h)
theorem sZ {base:Nat} {L:List Nat} {b c:Nat} (h:gZ base L b=some c):pre base L c=b∧(c < base↔b < base)∧(c < base→c=b)∧(c < base∨c < base+L.length):=by
 unfold gZ at h
 split at h
 · rename_i hb;cases h;exact ⟨by simp [pre,hb],Iff.rfl,fun _=>rfl,.inl hb⟩
 · rename_i hb
   obtain ⟨h1,h2⟩:=Rf h
   have hlt:=(List.getElem?_eq_some_iff.1 h2).1
   refine ⟨?_,⟨fun q=>by omega,fun q=>absurd q hb⟩,fun q=>by omega,.inr (by omega)⟩
   unfold pre
   rw [if_neg (by omega),List.getD_eq_getElem?_getD,h2];rfl
theorem YF {ρ':Nat→Nat} {V' A':Nat→Prop} {π:Nat→Option Nat} (hπ:∀ b c,A b→π b=some c→A' c∧ρ' c=ρ b∧(V' c↔V b)) (v:AV) :
 ∀ (u v':AV),VW ρ V A v u→ren π v=some v'→VW ρ' V' A' v' u:=by
 refine AV.rec (motive_1:=fun v=>∀ (u v':AV),VW ρ V A v u→ren π v=some v'→VW ρ' V' A' v' u) (motive_2:=fun _=>True)
  (motive_3:=fun l=>∀ (l' r:List AV),bf (VW ρ V A) l l'→lK π l=some r→bf (VW ρ' V' A') r l') ?_ ?_ ?_ ?_ ?_ ?_ ?_ ?_ ?_ ?_ ?_ ?_ ?_ ?_ ?_ ?_ ?_ ?_ ?_ ?_ v
 · intro u v' _ h;simp only [ren,Option.some.injEq] at h;subst h;exact .undef _
 · intro b u v' hu h;simp only [ren,Option.some.injEq] at h;subst h;rw [hu.fJ];exact .bool _
 · intro b c u v' hu h;simp only [ren,Option.some.injEq] at h;subst h;rw [hu.dO];exact .int _ _
 · intro b u v' hu h;simp only [ren,Option.some.injEq] at h;subst h;rw [hu.iO];exact .str _
 · intro u v' hu h;simp only [ren,Option.some.injEq] at h;subst h;exact hu.isC rfl
 · intro u v' hu h;simp only [ren,Option.some.injEq] at h;subst h;exact hu.isC rfl
 · intro u v' hu h;simp only [ren,Option.some.injEq] at h;subst h;exact hu.isC rfl
 · intro u v' hu h;simp only [ren,Option.some.injEq] at h;subst h;exact hu.isC rfl
 · intro z es ex _ u v' hu h;simp only [ren,Option.some.injEq] at h;subst h;exact hu.isC rfl
 · intro z _ u v' hu h;simp only [ren,Option.some.injEq] at h;subst h;exact hu.isC rfl
 · intro b i o u v' hu h
   obtain ⟨rfl,hA,hV⟩:=hu.jf
   simp only [ren] at h
   obtain ⟨c,h1,rfl⟩:=aC h
   obtain ⟨q1,q2,q3⟩:=hπ b c hA h1
   rw [← q2]
   exact .ptr c i o q1 (fun q=>hV (q3.1 q))
 · intro b z i len cap ex u v' hu h
   simp only [ren] at h
   obtain ⟨c,h1,rfl⟩:=aC h
   rcases hu.jJ with ⟨hA,hV,ex',rfl,hx⟩ | ⟨hA,hV,rfl,rfl,rfl,hv⟩
   · obtain ⟨q1,q2,q3⟩:=hπ b c hA h1
     rw [← q2]
     exact .sl c z i len cap ex ex' q1 (fun q=>hV (q3.1 q)) hx
   · obtain ⟨q1,q2,q3⟩:=hπ b c hA h1
     exact .slv c z ex u q1 (q3.2 hV) hv
 · intro b u v' hu h
   obtain ⟨rfl,hA,hV⟩:=hu.xH
   simp only [ren] at h
   obtain ⟨c,h1,rfl⟩:=aC h
   obtain ⟨q1,q2,q3⟩:=hπ b c hA h1
   rw [← q2]
   exact .map c q1 (fun q=>hV (q3.1 q))
 · intro f cs ih u v' hu h
   obtain ⟨cs',rfl,hr⟩:=hu.yF
   simp only [ren] at h
   obtain ⟨r,h1,rfl⟩:=aC h
   exact VW.jE (ih cs' r hr h1)
 · intro cs ih u v' hu h
   obtain ⟨cs',rfl,hr⟩:=hu.mM
   simp only [ren] at h
   obtain ⟨r,h1,rfl⟩:=aC h
   exact VW.Jt (ih cs' r hr h1)
 · intro cs ih u v' hu h
   obtain ⟨cs',rfl,hr⟩:=hu.sN
   simp only [ren] at h
   obtain ⟨r,h1,rfl⟩:=aC h
   exact VW.lH (ih cs' r hr h1)
 · trivial
 · intros;trivial
 · intro l' r hr h
   simp only [lK,Option.some.injEq] at h;subst h
   rw [hr.eH];exact .nil
 · intro v l ih1 ih2 l' r hr h
   obtain ⟨u,t,rfl,h1,h2⟩:=hr.dD
   simp only [lK] at h
   obtain ⟨v',h3,h⟩:=ak h
   obtain ⟨r',h4,rfl⟩:=aC h
   exact .cons (ih1 u v' h1 h3) (ih2 t r' h2 h4)
theorem aeR {ρ':Nat→Nat} {V' A':Nat→Prop} {π:Nat→Option Nat} (hπ:∀ b c,A b→π b=some c→A' c∧ρ' c=ρ b∧(V' c↔V b)):∀ (l l' r:List AV),bf (VW ρ V A) l l'→lK π l=some r→bf (VW ρ' V' A') r l':=by
 intro l
 induction l with
 | nil=>intro l' r hr h;simp only [lK,Option.some.injEq] at h;subst h;rw [hr.eH];exact .nil
 | cons v l ih =>
  intro l' r hr h
  obtain ⟨u,t,rfl,h1,h2⟩:=hr.dD
  simp only [lK] at h
  obtain ⟨v',h3,h⟩:=ak h
  obtain ⟨r',h4,rfl⟩:=aC h
  exact .cons (YF hπ v u v' h1 h3) (ih t r' h2 h4)
theorem Yn {ρ':Nat→Nat} {V' A':Nat→Prop} {π:Nat→Option Nat} (_hπ:∀ b c,A b→π b=some c→A' c∧ρ' c=ρ b∧(V' c↔V b)):∀ (e:Env) (r:Env),jZ π e=some r→∀ k v',get r k=some v'→∃ v,get e k=some v∧ren π v=some v':=by
 intro e
 induction e with
 | nil=>intro r h k v' hk;simp only [jZ,Option.some.injEq] at h;subst h;simp [Pav.get] at hk
 | cons x e ih =>
  obtain ⟨j,v⟩:=x
  intro r h k v' hk
  simp only [jZ] at h
  obtain ⟨w,h1,h⟩:=ak h
  obtain ⟨r',h2,rfl⟩:=aC h
  simp only [Pav.get] at hk ⊢
  split at hk
  · rename_i hj;rw [if_pos hj];cases hk;exact ⟨v,rfl,h1⟩
  · rename_i hj;rw [if_neg hj];exact ih r' h2 k v' hk
theorem OH {π:Nat→Option Nat}:∀ (e r:Env),jZ π e=some r→r.map (·.1)=e.map (·.1):=by
 intro e
 induction e with
 | nil=>intro r h;simp only [jZ,Option.some.injEq] at h;subst h;rfl
 | cons x e ih =>
  obtain ⟨j,v⟩:=x
  intro r h
  simp only [jZ] at h
  obtain ⟨w,h1,h⟩:=ak h
  obtain ⟨r',h2,rfl⟩:=aC h
  simp only [List.map_cons,ih r' h2]
theorem Srt.keys {e r:Env} (h:Srt e) (hk:r.map (·.1)=e.map (·.1)):Srt r:=by
 have h1:(e.map (·.1)).Pairwise (fun a b=>b < a):=List.pairwise_map.2 h
 rw [← hk] at h1
 exact List.pairwise_map.1 h1
theorem TG {base:Nat} {π:Nat→Option Nat}:∀ (h r:aJ),jG base π h=some r→∀ k o',get r k=some o'→k < base∧∃ o,get h k=some o∧ig π o=some o':=by
 intro h
 induction h with
 | nil=>intro r h k v' hk;simp only [jG,Option.some.injEq] at h;subst h;simp [Pav.get] at hk
 | cons x h ih =>
  obtain ⟨j,v⟩:=x
  intro r h k o' hk
  simp only [jG] at h
  split at h
  · rename_i hj
    obtain ⟨w,h1,h⟩:=ak h
    obtain ⟨r',h2,rfl⟩:=aC h
    simp only [Pav.get] at hk ⊢
    split at hk
    · rename_i hjk;rw [if_pos hjk];cases hk;exact ⟨hjk ▸ hj,v,rfl,h1⟩
    · rename_i hjk;rw [if_neg hjk];exact ih r' h2 k o' hk
  · rename_i hj
    obtain ⟨q1,o,q2,q3⟩:=ih r h k o' hk
    refine ⟨q1,o,?_,q3⟩
    simp only [Pav.get]
    rw [if_neg (by omega)];exact q2
theorem Tq {π:Nat→Option Nat} {h:aJ}:∀ (L:List Nat) (n:Nat) (r:aJ),lN π h n L=some r→∀ k o',get r k=some o'→∃ i b o,k=n+i∧L[i]?=some b∧get h b=some o∧ig π o=some o':=by
 intro L
 induction L with
 | nil=>intro n r h k v' hk;simp only [lN,Option.some.injEq] at h;subst h;simp [Pav.get] at hk
 | cons b L ih =>
  intro n r h k o' hk
  simp only [lN] at h
  split at h
  · rename_i o ho
    obtain ⟨w,h1,h⟩:=ak h
    obtain ⟨r',h2,rfl⟩:=aC h
    simp only [Pav.get] at hk
    split at hk
    · rename_i hjk;cases hk;exact ⟨0,b,o,by omega,by simp,ho,h1⟩
    · obtain ⟨i,b',o2,q1,q2,q3,q4⟩:=ih (n+1) r' h2 k o' hk
      exact ⟨i+1,b',o2,by omega,by simpa using q2,q3,q4⟩
  · obtain ⟨i,b',o2,q1,q2,q3,q4⟩:=ih (n+1) r h k o' hk
    exact ⟨i+1,b',o2,by omega,by simpa using q2,q3,q4⟩
theorem get_append {α:Type}:∀ (l r:List (Nat × α)) (k:Nat),get (l++r) k=match get l k with | some x=>some x | none=>get r k:=by
 intro l
 induction l with
 | nil=>intro r k;rfl
 | cons x l ih =>
  intro r k
  obtain ⟨j,v⟩:=x
  simp only [List.cons_append,Pav.get]
  split
  · rfl
  · exact ih r k
theorem ZW {ρ':Nat→Nat} {V' A':Nat→Prop} {π:Nat→Option Nat} (hπ:∀ b c,A b→π b=some c→A' c∧ρ' c=ρ b∧(V' c↔V b)):∀ (es es' r:List (List AV)),bf (bf (VW ρ V A)) es es'→bg (lK π) es=some r→bf (bf (VW ρ' V' A')) r es':=by
 intro es
 induction es with
 | nil=>intro l' r hr h;simp only [bg,Option.some.injEq] at h;subst h;rw [hr.eH];exact .nil
 | cons v l ih =>
  intro l' r hr h
  obtain ⟨u,t,rfl,h1,h2⟩:=hr.dD
  simp only [bg] at h
  obtain ⟨v',h3,h⟩:=ak h
  obtain ⟨r',h4,rfl⟩:=aC h
  exact .cons (aeR hπ v u v' h1 h3) (ih t r' h2 h4)
theorem X8 {ρ':Nat→Nat} {V' A':Nat→Prop} {π:Nat→Option Nat} (hπ:∀ b c,A b→π b=some c→A' c∧ρ' c=ρ b∧(V' c↔V b)) {o o2:iC} {o':ji} (ho:OW ρ V A o o') (hr:ig π o=some o2):OW ρ' V' A' o2 o':=by
 cases o with
 | cells z es mu dt =>
  obtain ⟨es',mu',rfl,h2,h3,h4⟩:=ho
  simp only [ig] at hr
  split at hr
  · rename_i hd
    cases hr
    exact ⟨es',mu',rfl,h2,h3.mono fun e e' he hee=>hee.mono fun x x' hx hxx=>hxx.isC (h4 hd e he x hx),h4⟩
  · rename_i hd
    obtain ⟨es2,h5,rfl⟩:=aC hr
    exact ⟨es',mu',rfl,h2,ZW hπ es es' es2 h3 h5,fun q=>absurd q hd⟩
 | map es =>
  simp only [ig,Option.some.injEq] at hr;subst hr
  obtain ⟨es',rfl,h2⟩:=ho
  exact ⟨es',rfl,h2.mono fun x y _ hxy=>⟨hxy.1,hxy.2.data⟩⟩
 | iter s p =>
  simp only [ig,Option.some.injEq] at hr;subst hr
  exact ho
theorem Me {base:Nat} {s s2:WSt} {s':St} (S:Sim ρ V A s s') {L:List Nat} (hL:L.Nodup) (hLb:∀ x ∈ L,base≤x) (hr:renumber base s L=some s2) :
 ∃ ρ' V' A',Sim ρ' V' A' s2 s'∧base≤s2.next∧Old base ρ V A ρ' V' A'∧(∀ b,A' b→¬ V' b→∃ c,A c∧¬ V c∧ρ' b=ρ c∧(base≤b→base≤c)):=by
 unfold renumber at hr
 obtain ⟨e,h1,hr⟩:=ak hr
 obtain ⟨h1',h2,hr⟩:=ak hr
 obtain ⟨h2',h3,rfl⟩:=aC hr
 let ρ':=fun c=>ρ (pre base L c)
 let A':=fun c=>∃ b,A b∧gZ base L b=some c
 let V':=fun c=>V (pre base L c)∧A' c
 have hπ:∀ b c,A b→gZ base L b=some c→A' c∧ρ' c=ρ b∧(V' c↔V b):=by
  intro b c hb hc
  have:=(sZ hc).1
  exact ⟨⟨b,hb,hc⟩,by show ρ (pre base L c)=ρ b;rw [this],by show V (pre base L c)∧A' c↔V b;rw [this];exact ⟨fun q=>q.1,fun q=>⟨q,b,hb,hc⟩⟩⟩
 have hgetH:∀ c o2,get (h1'++h2') c=some o2→∃ b o,gZ base L b=some c∧get s.heap b=some o∧ig (gZ base L) o=some o2:=by
  intro c o2 hc
  rw [get_append] at hc
  split at hc
  · rename_i x hx
    cases hc
    obtain ⟨q1,o,q2,q3⟩:=TG _ _ h2 c o2 hx
    exact ⟨c,o,by simp [gZ,q1],q2,q3⟩
  · obtain ⟨i,b,o,rfl,q2,q3,q4⟩:=Tq _ _ _ h3 c o2 hc
    refine ⟨b,o,?_,q3,q4⟩
    unfold gZ
    rw [if_neg (by have:=hLb b (List.mem_of_getElem? q2);omega)]
    exact Z9 hL q2
 refine ⟨ρ',V',A',⟨S.srt.keys (OH _ _ h1),?_,?_,?_⟩,Nat.le_add_right _ _,?_,?_⟩
 · intro k v' hk
   obtain ⟨v,q1,q2⟩:=Yn (ρ':=ρ') (V':=V') (A':=A') hπ _ _ h1 k v' hk
   obtain ⟨u,q3,q4⟩:=S.env k v q1
   exact ⟨u,q3,YF hπ v u v' q4 q2⟩
 · refine ⟨fun c o hc=>?_,fun c o hc hv=>?_,fun c o hc hv=>?_,?_,?_⟩
   · obtain ⟨b,o1,q1,q2,q3⟩:=hgetH c o hc
     exact ⟨b,S.heap.dom b o1 q2,q1⟩
   · obtain ⟨b,o1,q1,q2,q3⟩:=hgetH c o hc
     have hvb:V b:=((hπ b c (S.heap.dom b o1 q2) q1).2.2).1 hv
     obtain ⟨z,mu,dt,rfl⟩:=S.heap.sD b o1 q2 hvb
     simp only [ig,bg,om] at q3
     split at q3 <;> cases q3 <;> exact ⟨_,_,_,rfl⟩
   · obtain ⟨b,o1,q1,q2,q3⟩:=hgetH c o hc
     obtain ⟨p1,p2,p3⟩:=hπ b c (S.heap.dom b o1 q2) q1
     obtain ⟨o',q4,q5⟩:=S.heap.obj b o1 q2 (fun q=>hv (p3.2 q))
     exact ⟨o',by rw [p2];exact q4,X8 hπ q5 q3⟩
   · exact fun c hc=>hc.2
   · rintro c d ⟨b,hb,hbc⟩ ⟨a,ha,had⟩ vc vd hcd
     obtain ⟨_,p2,p3⟩:=hπ b c hb hbc
     obtain ⟨_,r2,r3⟩:=hπ a d ha had
     rw [p2,r2] at hcd
     have:=S.heap.inj b a hb ha (fun q=>vc (p3.2 q)) (fun q=>vd (r3.2 q)) hcd
     subst this
     rw [hbc] at had;cases had;rfl
 · refine ⟨?_,?_⟩
   · rintro c ⟨b,hb,hbc⟩
     rcases (sZ hbc).2.2.2 with q | q
     · exact Nat.lt_of_lt_of_le q (Nat.le_add_right _ _)
     · exact q
   · rintro c ⟨b,hb,hbc⟩ hv
     obtain ⟨_,p2,p3⟩:=hπ b c hb hbc
     rw [p2]
     exact S.lt.p b hb (fun q=>hv (p3.2 q))
 · intro b hb
   have hnb:gZ base L b=some b:=by simp [gZ,hb]
   refine ⟨fun ha=>hπ b b ha hnb,?_⟩
   rintro ⟨c,hc,hcb⟩
   have:=(sZ hcb).2.2.1 hb
   rw [this];exact hc
 · rintro c ⟨b,hb,hbc⟩ hv
   obtain ⟨_,p2,p3⟩:=hπ b c hb hbc
   exact ⟨b,hb,fun q=>hv (p3.2 q),p2,fun q=>by have:=(sZ hbc).2.1;omega⟩
theorem aaV {base:Nat}:∀ (g:List (Nat × Nat)) (s:WSt) (s':St) (ρ:Nat→Nat) (V A:Nat→Prop),Sim ρ V A s s'→base≤s.next →
 ∃ V' A',Sim ρ V' A' (kR g s) s'∧base≤(kR g s).next∧Old base ρ V A ρ V' A'∧∀ b,A' b→¬ V' b→A b∧¬ V b:=by
 intro g
 induction g with
 | nil=>intro s s' ρ V A S hb;exact ⟨V,A,S,hb,Old.refl base ρ V A,fun b h1 h2=>⟨h1,h2⟩⟩
 | cons x g ih =>
  intro s s' ρ V A S hb
  obtain ⟨k,z⟩:=x
  simp only [kR]
  split
  · rename_i v hk
    have key:∃ V' A',Sim ρ V' A' (zJ s k z v) s'∧base≤(zJ s k z v).next∧Old base ρ V A ρ V' A'∧∀ b,A' b→¬ V' b→A b∧¬ V b:=by
     unfold zJ
     split
     · rename_i z'
       split
       · rename_i hz
         subst hz
         obtain ⟨v',h1,h2⟩:=S.env k _ hk
         have hn:¬ A s.next:=fun q=>Nat.lt_irrefl _ (S.lt.w _ q)
         have hu:∀ b,A b→addN A s.next b∧ρ b=ρ b∧((V b∨b=s.next)↔V b):=fun b hb=>⟨.inl hb,rfl,⟨fun q=>q.elim id fun e=>absurd (e ▸ hb) hn,.inl⟩⟩
         have hv':v'=.aZ∨v'=.ro z' [] true:=by
          rcases h2.l7 with ⟨_,rfl⟩ | ⟨es',ex',rfl,hx,hr,_⟩
          · exact .inl rfl
          · rw [hr.eH,hx rfl];exact .inr rfl
         refine ⟨fun b=>V b∨b=s.next,addN A s.next,⟨S.srt.put _ _,?_,?_,?_⟩,by simp only;omega,?_,?_⟩
         · intro j u hj
           simp only at hj
           rw [Oi] at hj
           split at hj
           · rename_i hkj
             cases hj;subst hkj
             exact ⟨v',h1,.slv _ _ _ _ (.inr rfl) (.inr rfl) hv'⟩
           · exact (S.env.mono hu) j u hj
         · have H:=S.heap
           refine ⟨fun b o hb=>?_,fun b o hb hv=>?_,fun b o hb hv=>?_,?_,?_⟩
           · rw [get_put] at hb
             split at hb
             · rename_i q;exact .inr q.symm
             · exact .inl (H.dom b o hb)
           · rw [get_put] at hb
             split at hb
             · cases hb;exact ⟨_,_,_,rfl⟩
             · rename_i q
               rcases hv with hv | hv
               · exact H.sD b o hb hv
               · exact absurd hv.symm q
           · rw [get_put] at hb
             split at hb
             · rename_i q;exact absurd (.inr q.symm) hv
             · obtain ⟨o',q1,q2⟩:=H.obj b o hb (fun q=>hv (.inl q))
               exact ⟨o',q1,q2.mono hu⟩
           · rintro b (hb | hb)
             · exact .inl (H.sub b hb)
             · exact .inr hb
           · rintro b c (hb | hb) (hc | hc) vb vc hbc
             · exact H.inj b c hb hc (fun q=>vb (.inl q)) (fun q=>vc (.inl q)) hbc
             · exact absurd (.inr hc) vc
             · exact absurd (.inr hb) vb
             · exact absurd (.inr hb) vb
         · refine ⟨?_,?_⟩
           · rintro b (hb | rfl)
             · exact Nat.lt_succ_of_lt (S.lt.w b hb)
             · exact Nat.lt_succ_self _
           · rintro b (hb | rfl) hv
             · exact S.lt.p b hb (fun q=>hv (.inl q))
             · exact absurd (.inr rfl) hv
         · intro b hbb
           exact ⟨hu b,fun q=>q.elim id fun e=>by omega⟩
         · rintro b (hb | rfl) hv
           · exact ⟨hb,fun q=>hv (.inl q)⟩
           · exact absurd (.inr rfl) hv
       · exact ⟨V,A,S,hb,Old.refl base ρ V A,fun b h1 h2=>⟨h1,h2⟩⟩
     · exact ⟨V,A,S,hb,Old.refl base ρ V A,fun b h1 h2=>⟨h1,h2⟩⟩
    obtain ⟨V1,A1,S1,b1,o1,n1⟩:=key
    obtain ⟨V2,A2,S2,b2,o2,n2⟩:=ih _ s' ρ V1 A1 S1 b1
    exact ⟨V2,A2,S2,b2,o1.trans o2,fun b q1 q2=>by obtain ⟨q3,q4⟩:=n2 b q1 q2;exact n1 b q3 q4⟩
  · exact ih s s' ρ V A S hb
theorem Gj (k:Nat):∀ l:List Nat,(bitsOf l).testBit k=l.contains k:=by
 intro l
 induction l with
 | nil=>simp [bitsOf]
 | cons a l ih =>
  simp only [bitsOf,Nat.testBit_or,ih,Nat.testBit_two_pow,List.contains_cons]
  congr 1
  by_cases h:a=k
  · subst h;simp
  · have:(k == a)=false:=by simpa using Ne.symm h
    rw [this];simpa using h
theorem Xq {base:Nat} {a:Ann} {s s2:WSt} {s':St} (S:Sim ρ V A s s') (hb:base≤s.next) (hc:canon base a s=some s2) {s1:St} (hs1:s1=s'∨s1=iK (sJ a) s') :
 ∃ ρ' V' A',Sim ρ' V' A' s2 s1∧base≤s2.next∧Old base ρ V A ρ' V' A'∧∀ b,A' b→¬ V' b→∃ c,A c∧¬ V c∧ρ' b=ρ c∧(base≤b→base≤c):=by
 cases hcn:a.cn with
 | false =>
  have e1:sJ a=0:=by simp only [sJ,hcn]
  simp only [canon,hcn,Option.some.injEq] at hc
  subst hc
  have e2:s1=s':=by
   rcases hs1 with h | h
   · exact h
   · rw [h,e1];rfl
  subst e2
  exact ⟨ρ,V,A,S,hb,Old.refl base ρ V A,fun b h1 h2=>⟨b,h1,h2,rfl,id⟩⟩
 | true =>
 have S0:Sim ρ V A ⟨pz a.live s.env,s.heap,s.next⟩ s1:=by
  have ek:∀ k v,get (pz a.live s.env) k=some v→get s.env k=some v∧a.live.contains k=true:=by
   intro k v hk
   obtain ⟨q1,q2⟩:=Jv s.env a.live
   have hm:=get_mem hk
   exact ⟨S.srt.get (q1.subset hm),by simpa using q2 _ hm⟩
  have ks:Srt (pz a.live s.env):=S.srt.sublist (Jv s.env a.live).1
  rcases hs1 with rfl | rfl
  · exact ⟨ks,fun k v hk=>S.env k v (ek k v hk).1,S.heap,S.lt⟩
  · refine ⟨ks,fun k v hk=>?_,S.heap,S.lt⟩
    obtain ⟨h1,h2⟩:=ek k v hk
    obtain ⟨v',h3,h4⟩:=S.env k v h1
    refine ⟨v',?_,h4⟩
    simp only [iK,sJ,hcn]
    split
    · exact h3
    · rw [OI,Gj,h2,if_pos rfl];exact h3
 obtain ⟨V1,A1,S1,b1,o1,n1⟩:=aaV (base:=base) a.grow _ s1 ρ V A S0 hb
 simp only [canon,hcn] at hc
 cases hnr:VH a.grow with
 | true =>
  rw [hnr] at hc
  simp only [Option.some.injEq] at hc
  subst hc
  exact ⟨ρ,V1,A1,S1,b1,o1,fun b h1 h2=>by
   obtain ⟨c4,c5⟩:=n1 b h1 h2
   exact ⟨b,c4,c5,rfl,id⟩⟩
 | false =>
 rw [hnr] at hc
 simp only [RS] at hc
 obtain ⟨q1,q2⟩:=abu (base:=base) (h:=(kR a.grow ⟨pz a.live s.env,s.heap,s.next⟩).heap) 1000 (Fa (kR a.grow ⟨pz a.live s.env,s.heap,s.next⟩).env++uy base (kR a.grow ⟨pz a.live s.env,s.heap,s.next⟩).heap) [] (by simp) (fun x hx=>by cases hx)
 obtain ⟨ρ',V',A',S2,b2,o2,n2⟩:=Me S1 q1 q2 hc
 exact ⟨ρ',V',A',S2,b2,o1.trans o2,fun b h1 h2=>by
  obtain ⟨c,c1,c2,c3⟩:=n2 b h1 h2
  obtain ⟨c4,c5⟩:=n1 c c1 c2
  exact ⟨c,c4,c5,c3⟩⟩
end
end Go.Pw
end
section
set_option linter.unusedSimpArgs false
set_option linter.unusedVariables false
namespace Go.Pw
open Go Go.Pav
variable {ρ:Nat→Nat} {V A:Nat→Prop}
theorem SG {a b:List AV} (hl:a.length=b.length) (hr:∀ (j:Nat) (x x':AV),a[j]?=some x→b[j]?=some x'→VW ρ V A x x') (h:markRow a=true):markRow b=true:=by
 unfold markRow at h
 split at h
 · match b,hl with
   | [y],_ =>
    have:=hr 0 _ y rfl rfl
    cases this;rfl
 · cases h
theorem aas {x u:AV} (h:VW ρ V A x u) (hx:ug x=true):ug u=true:=by
 cases h with
 | aZ=>rfl
 | je=>rfl
 | ro z es es' ex ex' hc hl hxx he hr =>
  simp only [ug,Bool.and_eq_true,decide_eq_true_eq,List.all_eq_true] at hx ⊢
  refine ⟨hx.1,fun e' he'=>?_⟩
  obtain ⟨i,hi,rfl⟩:=List.mem_iff_getElem.1 he'
  have hi2:i < es.length:=by omega
  exact SG (he i _ _ (List.getElem?_eq_getElem hi2) (List.getElem?_eq_getElem hi)) (fun j x x' h1 h2=>hr i _ _ j x x' (List.getElem?_eq_getElem hi2) (List.getElem?_eq_getElem hi) h1 h2) (hx.2 _ (List.getElem_mem hi2))
 | _=>simp [ug] at hx
theorem Xa {a b:List AV} {k:Int} (hl:a.length=b.length) (hr:∀ (j:Nat) (x x':AV),a[j]?=some x→b[j]?=some x'→VW ρ V A x x') (h:nH a=some k):nH b=some k:=by
 unfold nH at h
 split at h
 · match b,hl with
   | [y0,y1,y2,y3,y4,y5],_ =>
    have h0:=hr 0 _ y0 rfl rfl
    have h1:=hr 1 _ y1 rfl rfl
    have h2:=hr 2 _ y2 rfl rfl
    have h3:=hr 3 _ y3 rfl rfl
    have h4:=hr 4 _ y4 rfl rfl
    have h5:=hr 5 _ y5 rfl rfl
    cases h0;cases h1;cases h2;cases h4;cases h5
    split at h
    · rename_i hm
      simp only [nH,aas h3 hm,if_true]
      exact h
    · cases h
 · cases h
theorem VU:∀ {es es':List (List AV)} {l:List Int},es.length=es'.length→(∀ (i:Nat) (e e':List AV),es[i]?=some e→es'[i]?=some e'→e.length=e'.length) →
 (∀ (i:Nat) (e e':List AV) (j:Nat) (x x':AV),es[i]?=some e→es'[i]?=some e'→e[j]?=some x→e'[j]?=some x'→VW ρ V A x x')→bg nH es=some l→bg nH es'=some l
 | [],[],_,_,_,_,h=>h
 | a::es,b::es',l,hl,he,hr,h=>by
  simp only [bg] at h ⊢
  obtain ⟨k,h1,h⟩:=ak h
  obtain ⟨r,h2,h⟩:=aC h
  rw [Xa (he 0 a b rfl rfl) (fun j x x'=>hr 0 a b j x x' rfl rfl) h1,ob,VU (by simpa using hl) (fun i e e' h1 h2=>he (i+1) e e' (by simpa using h1) (by simpa using h2)) (fun i e e' j x x' h1 h2=>hr (i+1) e e' j x x' (by simpa using h1) (by simpa using h2)) h2,om,h]
 | [],_::_,_,hl,_,_,_=>by simp at hl
 | _::_,[],_,hl,_,_,_=>by simp at hl
theorem GY {x u:AV} {l:List Int} (h:VW ρ V A x u) (hx:jV x=some l):jV u=some l:=by
 cases h with
 | agg cs cs' hl hr =>
  unfold jV at hx
  split at hx
  · rename_i e;cases e
    match cs',hl with
    | [y],_ =>
     have:=hr 0 _ y rfl rfl
     cases this;exact hx
  · rename_i z es ex e;cases e
    match cs',hl with
    | [y],_ =>
     have:=hr 0 _ y rfl rfl
     split at hx
     · rename_i hz
       cases this with
       | je=>simpa [jV,bg] using hx
       | ro z es es' ex ex' hc hl2 hxx he2 hr2 =>
        simp only [jV]
        rw [if_pos ⟨hz.1,by omega⟩]
        exact VU hl2 he2 hr2 hx
     · cases hx
  · cases hx
 | _=>simp [jV] at hx
theorem KA {a b:List AV} (hl:a.length=b.length) (hr:∀ (j:Nat) (x x':AV),a[j]?=some x→b[j]?=some x'→VW ρ V A x x') {v:AV} (h:kH a=some v):kH b=some v∧VW ρ V A v v:=by
 unfold kH at h
 split at h
 · match b,hl with
   | [y0,y1,y2],_ =>
    have h0:=hr 0 _ y0 rfl rfl
    have h1:=hr 1 _ y1 rfl rfl
    have h2:=hr 2 _ y2 rfl rfl
    obtain ⟨kb,q1,h⟩:=ak h
    obtain ⟨kn,q2,h⟩:=aC h
    subst h
    cases h2 with
    | agg cs cs' hl2 hr2 =>
     match cs',hl2 with
     | [z0,z1],_ =>
      have g0:=hr2 0 _ z0 rfl rfl
      have g1:=hr2 1 _ z1 rfl rfl
      cases g0;cases g1
      refine ⟨by simp only [kH,GY h0 q1,GY h1 q2,ob,om],.agg _ _ rfl fun j x x' e1 e2=>?_⟩
      match j with
      | 0=>cases e1;cases e2;exact .int _ _
      | 1=>cases e1;cases e2;exact .int _ _
      | j+2=>simp at e1
 · cases h
theorem ou:∀ (n i:Nat) (e:Env),(dF n i e).length=n
 | 0,_,_=>rfl
 | n+1,i,e=>by simp only [dF,List.length_cons,ou n]
theorem Bv:∀ (n i j:Nat) (e:Env),j < n→(dF n i e)[j]?=some ((get e (i+j)).getD .undef)
 | 0,_,_,_,h=>by omega
 | n+1,i,0,e,_=>rfl
 | n+1,i,j+1,e,h=>by
  simp only [dF,List.getElem?_cons_succ]
  rw [Bv n (i+1) j e (by omega)]
  congr 3;omega
theorem aew {e e':Env} (he:EW ρ V A e e') {k:Nat} {v:AV} (h:o7 k (dF (oM k) 0 e)=some v):o7 k (dF (oM k) 0 e')=some v∧VW ρ V A v v:=by
 unfold o7 at h ⊢
 split at h
 · rename_i hk
   rw [if_pos hk]
   refine KA (by rw [ou,ou]) (fun j x x' h1 h2=>?_) h
   have hj:j < oM k:=by have:=(List.getElem?_eq_some_iff.1 h1).1;rwa [ou] at this
   rw [Bv _ _ _ _ hj] at h1 h2
   cases h1;cases h2
   cases hg:get e (0+j) with
   | none=>exact .undef _
   | some y =>
    obtain ⟨u,q1,q2⟩:=he _ _ hg
    rw [q1];exact q2
 · cases h
end Go.Pw
end
section
set_option linter.unusedSimpArgs false
set_option linter.unusedVariables false
namespace Go.Pw
open Go Go.Pav
def Hi (base m0:Nat) (ρ:Nat→Nat) (V A:Nat→Prop):Prop:=∀ b,A b→¬ V b→base≤b→m0≤ρ b
structure Res (base m0:Nat) (ρ:Nat→Nat) (V A:Nat→Prop) (s1:WSt) (s1':St) (ρ':Nat→Nat) (V' A':Nat→Prop):Prop where
 sim:Sim ρ' V' A' s1 s1'
 kW:base≤s1.next
 old:Old base ρ V A ρ' V' A'
 hi:Hi base m0 ρ' V' A'
section
variable {C:aI} {run:rD} {run':Run} {base m0:Nat}
theorem Res.canon {ρ:Nat→Nat} {V A:Nat→Prop} {s1 s2:WSt} {s1' s2':St} {ρ':Nat→Nat} {V' A':Nat→Prop} (R:Res base m0 ρ V A s1 s1' ρ' V' A') {a:Ann} (hc:canon base a s1=some s2)
 (hs:s2'=s1'∨s2'=iK (sJ a) s1'):∃ ρ' V' A',Res base m0 ρ V A s2 s2' ρ' V' A':=by
 obtain ⟨ρ2,V2,A2,S2,b2,o2,n2⟩:=Xq R.sim R.kW hc hs
 refine ⟨ρ2,V2,A2,S2,b2,R.old.trans o2,fun b h1 h2 h3=>?_⟩
 obtain ⟨c,c1,c2,c3,c4⟩:=n2 b h1 h2
 rw [c3]
 exact R.hi c c1 c2 (c4 h3)
theorem Res.frz {ρ:Nat→Nat} {V A:Nat→Prop} {k:Nat} {s1 s2:WSt} {s1':St} {ρ':Nat→Nat} {V' A':Nat→Prop} (R:Res base m0 ρ V A s1 s1' ρ' V' A') (hc:FV k s1=some s2) :
 ∃ s2',ED k s1'=some s2'∧s2'.next=s1'.next∧Res base m0 ρ V A s2 s2' ρ' V' A':=by
 obtain ⟨v,hv,hc⟩:=ak hc
 obtain ⟨x,hx,rfl⟩:=aC hc
 obtain ⟨u,hu,hr⟩:=R.sim.env k v hv
 obtain ⟨y,hy,hd⟩:=G6 R.sim.heap _ _ _ _ hr hx
 have hm:=vF R.sim.heap (aK s1.heap au v) (reach s1'.heap au u) (fun b' hb'=>Gs R.sim.heap _ _ _ _ hr hx b' hb')
 refine ⟨⟨dL s1'.env (some k) y,aN s1'.heap (aV s1'.heap (reach s1'.heap au u)),s1'.next⟩,by simp only [ED,hu,ob,hy,om],rfl,⟨?_,R.kW,R.old,R.hi⟩⟩
 exact ⟨R.sim.srt.dL (some k) x,R.sim.env.dL (d:=some k) (hd.mono fun _ q=>q.elim),hm.1,R.sim.lt⟩
theorem Res.Yw {ρ:Nat→Nat} {V A:Nat→Prop} {ρ':Nat→Nat} {V' A':Nat→Prop}:∀ (l:List Nat) {s1 s2:WSt} {s1':St},Res base m0 ρ V A s1 s1' ρ' V' A'→lX l s1=some s2 →
 ∃ s2',kV l s1'=some s2'∧s2'.next=s1'.next∧Res base m0 ρ V A s2 s2' ρ' V' A'
 | [],s1,s2,s1',R,h=>by simp only [lX,Option.some.injEq] at h;subst h;exact ⟨s1',rfl,rfl,R⟩
 | k::l,s1,s2,s1',R,h=>by
  simp only [lX] at h
  obtain ⟨s3,h1,h2⟩:=ak h
  obtain ⟨s3',h3,e3,R3⟩:=R.frz h1
  obtain ⟨s2',h4,e4,R4⟩:=Res.Yw l R3 h2
  exact ⟨s2',by simp only [kV,h3,ob];exact h4,e4.trans e3,R4⟩
theorem Keeps.old {ρ:Nat→Nat} {V A:Nat→Prop} {ρ':Nat→Nat} {V' A':Nat→Prop} (k:Keeps ρ V A ρ' V' A') (hn:∀ b,b < base→A' b→A b):Old base ρ V A ρ' V' A':=fun b hb=>⟨k b,hn b hb⟩
theorem agi (hr:yG run run'):∀ (l:List aX) (s s1:WSt),(l.all fun o=>iZ o.op)=true→gB C run l s=some s1→∀ (s':St) (ρ:Nat→Nat) (V A:Nat→Prop),Sim ρ V A s s'→base≤s.next→Hi base m0 ρ V A→m0≤s'.next →
 ∃ s1' ρ' V' A',lJ (fG C) run' (l.map tV) s'=some s1'∧Res base m0 ρ V A s1 s1' ρ' V' A'∧m0≤s1'.next:=by
 intro l
 induction l with
 | nil =>
  intro s s1 _ he s' ρ V A S hb hi hm
  simp only [gB,Option.some.injEq] at he;subst he
  exact ⟨s',ρ,V,A,rfl,⟨S,hb,Old.refl base ρ V A,hi⟩,hm⟩
 | cons o l ih =>
  intro s s1 hok he s' ρ V A S hb hi hm
  simp only [List.all_cons,Bool.and_eq_true] at hok
  simp only [gB] at he
  obtain ⟨d,h1,he⟩:=ak he
  have lt':Lts ρ V A (s.next+1) (s'.next+1):=⟨fun b hb=>Nat.lt_succ_of_lt (S.lt.w b hb),fun b hb hv=>Nat.lt_succ_of_lt (S.lt.p b hb hv)⟩
  obtain ⟨d',ρ1,V1,A1,h2,O⟩:=aa8 hr S.env S.heap lt' (nid:=s.next) (mid:=s'.next) (fun q=>Nat.lt_irrefl _ (S.lt.w _ q)) (Nat.lt_succ_self _) (fun b hb hv=>Nat.ne_of_lt (S.lt.p b hb hv)) (Nat.lt_succ_self _) hok.1 h1
  have S1:Sim ρ1 V1 A1 ⟨dX s.env o.dst d.v,d.h,d.n⟩ ⟨dL s'.env o.dst d'.v,d'.h,d'.n⟩:=⟨S.srt.dL _ _,(S.env.mono O.keeps).dL O.v,O.h,O.lt⟩
  have hi1:Hi base m0 ρ1 V1 A1:=by
   intro b q1 q2 q3
   rcases O.ad8 b q1 q2 with ⟨q4,q5⟩ | q4 | q4
   · rw [q5];exact hi b q4 (fun q=>q2 ((O.keeps b q4).2.2.2 q)) q3
   · omega
   · omega
  have hb1:base≤d.n:=by have:=O.next;omega
  have hm1:m0≤d'.n:=by have:=O.UJ;omega
  obtain ⟨s1',ρ2,V2,A2,h3,R,h4⟩:=ih ⟨dX s.env o.dst d.v,d.h,d.n⟩ s1 hok.2 he _ ρ1 V1 A1 S1 hb1 hi1 hm1
  have o1:Old base ρ V A ρ1 V1 A1:=Keeps.old O.keeps fun b hbb hA=>by
   rcases O.new b hA with q | q | q
   · exact q
   · omega
   · omega
  refine ⟨s1',ρ2,V2,A2,?_,⟨R.sim,R.kW,o1.trans R.old,R.hi⟩,h4⟩
  simp only [List.map_cons,lJ]
  have:(tV o).dst=o.dst:=rfl
  rw [h2]
  simp only [ob,this]
  exact h3
def lS (ρ:Nat→Nat) (V A:Nat→Prop) (m1 m2:Nat) (d:jy) (d':Did):Prop :=
 (d'.bar=true→d.bar=true∧d.wr=[])∧(∀ b ∈ d'.rd,∃ c ∈ d.rd,b=ρ c∧¬ V c∧A c)∧(∀ b ∈ d'.wr,(∃ c ∈ TJ d,b=ρ c∧¬ V c∧A c)∨∃ k w,d.bar=true∧d.wr=k::w∧m1≤b∧b < m2∧∀ c,A c→¬ V c→ρ c=b→k≤c)
theorem lS.mono {ρ ρ':Nat→Nat} {V A V' A':Nat→Prop} {m1 m2 m2' mid:Nat} {d:jy} {d':Did} (h:lS ρ V A m1 m2 d d') (k:Keeps ρ V A ρ' V' A') (hm:m2≤m2') (hmid:mid < m1)
 (hnew:∀ b,A' b→¬ V' b→(A b∧ρ' b=ρ b)∨ρ' b=mid∨m2≤ρ' b):lS ρ' V' A' m1 m2' d d':=by
 refine ⟨h.1,fun b hb=>?_,fun b hb=>?_⟩
 · obtain ⟨c,h1,h2,h3,h4⟩:=h.2.1 b hb
   obtain ⟨k1,k2,k3⟩:=k c h4
   exact ⟨c,h1,by rw [k2];exact h2,fun q=>h3 (k3.1 q),k1⟩
 · rcases h.2.2 b hb with ⟨c,h1,h2,h3,h4⟩ | ⟨j,w,h1,h2,h3,h4,h5⟩
   · obtain ⟨k1,k2,k3⟩:=k c h4
     exact .inl ⟨c,h1,by rw [k2];exact h2,fun q=>h3 (k3.1 q),k1⟩
   · refine .inr ⟨j,w,h1,h2,h3,by omega,fun c hA hV hc=>?_⟩
     rcases hnew c hA hV with ⟨q1,q2⟩ | q | q
     · exact h5 c q1 (fun q=>hV ((k c q1).2.2.2 q)) (by rw [← q2];exact hc)
     · omega
     · omega
theorem Ag {ρ:Nat→Nat} {V A:Nat→Prop} (inj:∀ b c,A b→A c→¬ V b→¬ V c→ρ b=ρ c→b=c) {a b:List Nat} {a' b':List Nat}
 (ha:∀ x ∈ a',∃ c ∈ a,x=ρ c∧¬ V c∧A c) (hb:∀ x ∈ b',∃ c ∈ b,x=ρ c∧¬ V c∧A c) (h:meets a' b'=true):meets a b=true:=by
 simp only [meets,List.any_eq_true,decide_eq_true_eq] at h ⊢
 obtain ⟨x,hx,y,hy,rfl⟩:=h
 obtain ⟨c,h1,h2,h3,h4⟩:=ha x hx
 obtain ⟨d,h5,h6,h7,h8⟩:=hb x hy
 have:=inj c d h4 h8 h3 h7 (h2.symm.trans h6)
 subst this
 exact ⟨c,h1,c,h5,rfl⟩
theorem Zq {ρ:Nat→Nat} {V A:Nat→Prop} (inj:∀ b c,A b→A c→¬ V b→¬ V c→ρ b=ρ c→b=c) {m1 m2:Nat} {a b:jy} {a' b':Did} (ha:lS ρ V A m1 m2 a a') (hb:lS ρ V A m1 m2 b b') (h:TI a b=false):clash a' b'=false:=by
 have nt:∀ {x y:Bool},(x=true→y=true)→y=false→x=false:=by
  intro x y q1 q2;cases x <;> simp_all
 have plain:∀ {d:jy} {d':Did},lS ρ V A m1 m2 d d'→d.bar=false→d'.bar=false∧∀ b ∈ d'.wr,∃ c ∈ d.wr,b=ρ c∧¬ V c∧A c:=by
  intro d d' hd hq
  refine ⟨?_,fun b hb=>?_⟩
  · cases q:d'.bar with
    | false=>rfl
    | true=>rw [(hd.1 q).1] at hq;cases hq
  · rcases hd.2.2 b hb with ⟨c,q1,q2⟩ | ⟨_,_,q,_⟩
    · unfold TJ at q1
      rw [hq] at q1
      exact ⟨c,q1,q2⟩
    · rw [hq] at q;cases q
 have deep:∀ {d e:jy} {d' e':Did},lS ρ V A m1 m2 d d'→lS ρ V A m1 m2 e e'→d.bar=true→e.bar=false→RZ d.rd d.wr e.rd e.wr=false →
  d'.bar=false∧e'.bar=false∧meets d'.wr e'.wr=false∧meets d'.wr e'.rd=false∧meets d'.rd e'.wr=false:=by
  intro d e d' e' hd he hdb heb hh
  unfold RZ at hh
  cases hw:d.wr with
  | nil=>rw [hw] at hh;cases hh
  | cons k w =>
   rw [hw] at hh
   simp only [Bool.or_eq_false_iff] at hh
   obtain ⟨g1,g2,g3,g4⟩:=hh
   obtain ⟨p1,p2⟩:=plain he heb
   have g1':∀ c ∈ e.rd++e.wr,¬ k≤c:=by
    intro c hc q
    have:=List.any_eq_false.1 g1 c hc
    simp [q] at this
   have key:∀ (l l':List Nat),(∀ x ∈ l',∃ c ∈ l,x=ρ c∧¬ V c∧A c)→(∀ c ∈ l,¬ k≤c)→meets w l=false→meets d'.wr l'=false:=by
    intro l l' h1 h2 h3
    cases q:meets d'.wr l' with
    | false=>rfl
    | true =>
     exfalso
     simp only [meets,List.any_eq_true,decide_eq_true_eq] at q
     obtain ⟨x,hx,y,hy,rfl⟩:=q
     obtain ⟨c,c1,c2,c3,c4⟩:=h1 x hy
     rcases hd.2.2 x hx with ⟨c',q1,q2,q3,q4⟩ | ⟨k',w',q1,q2,q3,q4,q5⟩
     · unfold TJ at q1
       rw [hdb,hw] at q1
       simp only [List.tail_cons] at q1
       have:=inj c c' c4 q4 c3 q3 (c2.symm.trans q2)
       subst this
       have:meets w l=true:=by
        simp only [meets,List.any_eq_true,decide_eq_true_eq]
        exact ⟨c,q1,c,c1,rfl⟩
       rw [h3] at this;cases this
     · rw [hw] at q2
       cases q2
       exact h2 c c1 (q5 c c4 c3 c2.symm)
   refine ⟨?_,p1,key _ _ p2 (fun c hc=>g1' c (by simp [hc])) g2,key _ _ he.2.1 (fun c hc=>g1' c (by simp [hc])) g3,?_⟩
   · cases q:d'.bar with
     | false=>rfl
     | true=>rw [(hd.1 q).2] at hw;cases hw
   · cases q:meets d'.rd e'.wr with
     | false=>rfl
     | true=>rw [Ag inj hd.2.1 p2 q] at g4;cases g4
 have msym:∀ a b:List Nat,meets a b=meets b a:=by
  intro a b
  cases q:meets a b with
  | true =>
   symm
   simp only [meets,List.any_eq_true,decide_eq_true_eq] at q ⊢
   obtain ⟨x,h1,y,h2,h3⟩:=q
   exact ⟨y,h2,x,h1,h3.symm⟩
  | false =>
   symm
   cases p:meets b a with
   | false=>rfl
   | true =>
    exfalso
    simp only [meets,List.any_eq_true,decide_eq_true_eq] at p
    obtain ⟨x,h1,y,h2,h3⟩:=p
    have:meets a b=true:=by
     simp only [meets,List.any_eq_true,decide_eq_true_eq]
     exact ⟨y,h2,x,h1,h3.symm⟩
    rw [q] at this;cases this
 have qt:∀ {d:jy} {d':Did},lS ρ V A m1 m2 d d'→CV d=true→quiet d'=true:=by
  intro d d' hd hq
  simp only [CV,Bool.and_eq_true,Bool.not_eq_true',List.isEmpty_iff] at hq
  simp only [quiet,Bool.and_eq_true,Bool.not_eq_true',List.isEmpty_iff]
  refine ⟨(plain hd hq.1).1,?_,?_⟩
  · cases hw:d'.wr with
    | nil=>rfl
    | cons b r =>
     obtain ⟨c,h1,_⟩:=(plain hd hq.1).2 b (by rw [hw];exact List.mem_cons_self)
     rw [hq.2.1] at h1;cases h1
  · cases hw:d'.rd with
    | nil=>rfl
    | cons b r =>
     obtain ⟨c,h1,_⟩:=hd.2.1 b (by rw [hw];exact List.mem_cons_self)
     rw [hq.2.2] at h1;cases h1
 unfold TI at h
 unfold clash
 cases qa:CV a with
 | true=>rw [qt ha qa];simp
 | false =>
  cases qb:CV b with
  | true=>rw [qt hb qb];simp
  | false =>
   rw [qa,qb] at h
   simp only [Bool.or_self,Bool.not_false,Bool.true_and] at h
   cases ab:a.bar with
   | true =>
    rw [ab,if_pos rfl,Bool.or_eq_false_iff] at h
    obtain ⟨d1,d2,d3,d4,d5⟩:=deep ha hb ab h.1 h.2
    rw [d1,d2,d3,d4,d5];simp
   | false =>
   cases bb:b.bar with
   | true =>
    rw [ab,bb,if_neg (by simp),if_pos rfl] at h
    obtain ⟨d1,d2,d3,d4,d5⟩:=deep hb ha bb ab h
    rw [d1,d2,msym,d3,msym a'.wr,d5,msym a'.rd,d4];simp
   | false =>
   rw [ab,bb,if_neg (by simp),if_neg (by simp)] at h
   simp only [Bool.or_eq_false_iff] at h
   obtain ⟨h3,h4,h5⟩:=h
   obtain ⟨h1,ha2⟩:=plain ha ab
   obtain ⟨h2,hb2⟩:=plain hb bb
   have e:(a'.bar||(b'.bar||(meets a'.wr b'.wr||(meets a'.wr b'.rd||meets a'.rd b'.wr))))=false:=by
    simp only [Bool.or_eq_false_iff]
    exact ⟨h1,h2,nt (Ag inj ha2 hb2) h3,nt (Ag inj ha2 hb.2.1) h4,nt (Ag inj ha.2.1 hb2) h5⟩
   rw [e,Bool.and_false]
theorem Zv (hr:yG run run'):∀ (l:List aX) (nid:Nat) (s s1:WSt) (ds ds1:List jy),(l.all fun o=>iZ o.op)=true→dZ C run l nid s ds=some (s1,ds1) →
 ∀ (mid:Nat) (s':St) (ds':List Did) (ρ:Nat→Nat) (V A:Nat→Prop),Sim ρ V A s s'→base≤nid→nid+l.length≤s.next→(∀ b,A b→b < nid∨nid+l.length≤b)→Hi base m0 ρ V A→m0≤mid→mid+l.length≤s'.next →
  (∀ b,A b→¬ V b→ρ b < mid∨mid+l.length≤ρ b)→∀ R:Nat,mid+l.length≤R→R≤s'.next→bf (lS ρ V A R s'.next) ds ds' →
 ∃ s1' ds1' ρ' V' A',oU (fG C) run' (l.map tV) mid s' ds'=some (s1',ds1')∧Res base m0 ρ V A s1 s1' ρ' V' A'∧m0≤s1'.next∧bf (lS ρ' V' A' R s1'.next) ds1 ds1':=by
 intro l
 induction l with
 | nil =>
  intro nid s s1 ds ds1 _ he mid s' ds' ρ V A S hb hnl _ hi hm hml _ R hR1 hR2 hds
  simp only [dZ,Option.some.injEq,Prod.mk.injEq] at he
  obtain ⟨rfl,rfl⟩:=he
  simp only [List.length_nil] at hnl hml
  exact ⟨s',ds',ρ,V,A,rfl,⟨S,by omega,Old.refl base ρ V A,hi⟩,by omega,hds⟩
 | cons o l ih =>
  intro nid s s1 ds ds1 hok he mid s' ds' ρ V A S hb hnl hgap hi hm hml hgap' R hR1 hR2 hds
  simp only [List.all_cons,Bool.and_eq_true] at hok
  simp only [List.length_cons] at hnl hml hgap hgap' hR1
  simp only [dZ] at he
  obtain ⟨d,h1,he⟩:=ak he
  have hn:¬ A nid:=fun q=>by rcases hgap nid q with q | q <;> omega
  obtain ⟨d',ρ1,V1,A1,h2,O⟩:=aa8 hr S.env S.heap S.lt (nid:=nid) (mid:=mid) hn (by omega) (fun b hbb hv=>by rcases hgap' b hbb hv with q | q <;> omega) (by omega) hok.1 h1
  have S1:Sim ρ1 V1 A1 ⟨dX s.env o.dst d.v,d.h,d.n⟩ ⟨dL s'.env o.dst d'.v,d'.h,d'.n⟩:=⟨S.srt.dL _ _,(S.env.mono O.keeps).dL O.v,O.h,O.lt⟩
  have hi1:Hi base m0 ρ1 V1 A1:=by
   intro b q1 q2 q3
   rcases O.ad8 b q1 q2 with ⟨q4,q5⟩ | q4 | q4
   · rw [q5];exact hi b q4 (fun q=>q2 ((O.keeps b q4).2.2.2 q)) q3
   · omega
   · omega
  have hds1:bf (lS ρ1 V1 A1 R d'.n) (ds++[d]) (ds'++[d']):=(hds.mono fun x y _ hxy=>hxy.mono O.keeps O.UJ (by omega) O.ad8).append (.cons ⟨O.bar,O.rd,fun b hb=>by
   rcases O.wr b hb with q | ⟨k,w,q1,q2,q3,q4,q5⟩
   · exact .inl q
   · exact .inr ⟨k,w,q1,q2,by omega,q4,q5⟩⟩ .nil)
  obtain ⟨s1',ds1',ρ2,V2,A2,h3,R,h4,h5⟩:=ih (nid+1) ⟨dX s.env o.dst d.v,d.h,d.n⟩ s1 (ds++[d]) ds1 hok.2 he (mid+1) _ (ds'++[d']) ρ1 V1 A1 S1 (by omega) (by have:=O.next;simp only;omega)
   (fun b hbb=>by
    rcases O.new b hbb with q | q | q
    · rcases hgap b q with q | q <;> omega
    · omega
    · omega) hi1 (by omega) (by have:=O.UJ;simp only;omega)
   (fun b hbb hv=>by
    rcases O.ad8 b hbb hv with ⟨q,q5⟩ | q | q
    · rw [q5];rcases hgap' b q (fun q6=>hv ((O.keeps b q).2.2.2 q6)) with q | q <;> omega
    · omega
    · omega) R (by omega) (by have:=O.UJ;simp only;omega) hds1
  have o1:Old base ρ V A ρ1 V1 A1:=Keeps.old O.keeps fun b hbb hA=>by
   rcases O.new b hA with q | q | q
   · exact q
   · omega
   · omega
  refine ⟨s1',ds1',ρ2,V2,A2,?_,⟨R.sim,R.kW,o1.trans R.old,R.hi⟩,h4,h5⟩
  simp only [List.map_cons,oU]
  have:(tV o).dst=o.dst:=rfl
  rw [h2]
  simp only [ob,this]
  exact h3
theorem abS {ρ:Nat→Nat} {V A:Nat→Prop} (inj:∀ b c,A b→A c→¬ V b→¬ V c→ρ b=ρ c→b=c) {m1 m2:Nat} {ds:List jy} {ds':List Did} (h:bf (lS ρ V A m1 m2) ds ds') {p:Nat × Nat} (ha:FX ds p=true):apart ds' p=true:=by
 unfold FX at ha
 split at ha
 · rename_i a b h1 h2
   obtain ⟨a',h3,h4⟩:=h.get h1
   obtain ⟨b',h5,h6⟩:=h.get h2
   unfold apart
   rw [h3,h5]
   simp only [Bool.not_eq_true'] at ha ⊢
   exact Zq inj h4 h6 ha
 · cases ha
def DZ (C:aI) (k:Nat):Prop :=
 ∀ (base:Nat) (c:aB) (s:WSt) (ex:Ex) (s1:WSt),okC c=true→evW C k base c s=some (ex,s1)→∀ (m0:Nat) (s':St) (ρ:Nat→Nat) (V A:Nat→Prop),Sim ρ V A s s'→base≤s.next→Hi base m0 ρ V A→m0≤s'.next →
  ∃ s1' ρ' V' A',evC (fG C) k (erC c) s'=some (ex,s1')∧Res base m0 ρ V A s1 s1' ρ' V' A'∧m0≤s1'.next
theorem Us:∀ l:List AV,(erL l).length=l.length
 | []=>rfl
 | _::r=>by simp only [erL,List.length_cons,Us r]
theorem afy {j:Nat} {s:WSt} {s':St} {ρ:Nat→Nat} {V A:Nat→Prop} (S:Sim ρ V A s s') (hb:base≤s.next) (hi:Hi base m0 ρ V A) (hm:m0≤s'.next) {z b:Nat} {xe:Bool} {zz:List AV} {u:AV} (hu:get s'.env 0=some u) (hr:VW ρ V A (.ro z [] xe) u) (hl:zz.length=z) :
 ∃ s1' ρ' V' A',evC (fG C) (j+8+1) (agO zz b) s'=some (.ret,s1') ∧
  Res base m0 ρ V A ⟨[(2,.sl s.next z 0 0 0 true)],put s.heap s.next (.cells z [] true true),s.next+1⟩ s1' ρ' V' A'∧m0≤s1'.next:=by
 have hn:¬ A s.next:=fun q=>Nat.lt_irrefl _ (S.lt.w _ q)
 obtain ⟨e0,h0,m⟩:=s'
 simp only at hu hm
 have hmo:∀ b,A b→addN A s.next b∧ρ b=ρ b∧((V b∨b=s.next)↔V b):=fun b q=>⟨.inl q,rfl,⟨fun h=>h.elim id fun e=>absurd (e ▸ q) hn,.inl⟩⟩
 cases hr with
 | je =>
  refine ⟨⟨put (put (put (put e0 2 .aZ) 3 .aZ) 4 (.bool true)) 2 .aZ,h0,m+4⟩,ρ,fun b=>V b∨b=s.next,addN A s.next,?_,⟨⟨by simp [Srt],?_,⟨?_,?_,?_,?_,?_⟩,⟨?_,?_⟩⟩,Nat.le_succ_of_le hb,?_,?_⟩,Nat.le_trans hm (Nat.le_add_right _ _)⟩
  · simp [agO,evC,lJ,jA,wants,jl,callOf,aH,sMv,Ic,iJ,QW,Opd.ev,ob,om,get_put,dL,hu,ku,kV,iK,bW,uz,aN]
  · intro k v hk
    simp only [Pav.get] at hk
    split at hk
    · rename_i e;subst e;cases hk
      exact ⟨.aZ,by simp [get_put],.slv _ _ _ _ (.inr rfl) (.inr rfl) (.inl rfl)⟩
    · cases hk
  · intro b o hbo
    rw [get_put] at hbo
    split at hbo
    · rename_i e;exact .inr e.symm
    · exact .inl (S.heap.dom b o hbo)
  · intro b o hbo hv
    rw [get_put] at hbo
    split at hbo
    · cases hbo;exact ⟨z,true,true,rfl⟩
    · rename_i e
      exact S.heap.sD b o hbo (hv.resolve_right fun q=>e q.symm)
  · intro b o hbo hv
    rw [get_put] at hbo
    split at hbo
    · rename_i e;exact absurd (.inr e.symm) hv
    · obtain ⟨o',h1,h2⟩:=S.heap.obj b o hbo (fun q=>hv (.inl q))
      exact ⟨o',h1,h2.mono hmo⟩
  · rintro b (q | q)
    · exact .inl (S.heap.sub b q)
    · exact .inr q
  · rintro b c hb hc vb vc
    exact S.heap.inj b c (hb.resolve_right fun q=>vb (.inr q)) (hc.resolve_right fun q=>vc (.inr q)) (fun q=>vb (.inl q)) (fun q=>vc (.inl q))
  · rintro b (q | q)
    · exact Nat.lt_succ_of_lt (S.lt.w b q)
    · subst q;exact Nat.lt_succ_self _
  · intro b q v
    have:=S.lt.p b (q.resolve_right fun e=>v (.inr e)) (fun e=>v (.inl e))
    simp only at this ⊢;omega
  · intro b hbb
    have hne:b≠s.next:=by omega
    exact ⟨fun q=>hmo b q,fun q=>q.resolve_right hne⟩
  · intro b q v hbb
    exact hi b (q.resolve_right fun e=>v (.inr e)) (fun e=>v (.inl e)) hbb
 | ro _ _ es' _ ex' hc hl2 hx he hr =>
  have:es'=[]:=List.length_eq_zero_iff.1 hl2.symm
  subst this
  have hne:∀ b,A b→¬ V b→ρ b≠m+3:=fun b q v e=>by have:=S.lt.p b q v;simp only at this;omega
  refine ⟨⟨put (put (put (put (put (put (put e0 2 .aZ) 3 (.ro z [] ex')) 4 (.bool false)) 5 (.sl (m+3) z 0 0 0 true)) 6 (.ro z [] ex')) 7 (.sl (m+3) z 0 0 0 true)) 2 (.sl (m+3) z 0 0 0 true),put h0 (m+3) (.cells z [] true),m+7⟩,up ρ s.next (m+3),V,addN A s.next,?_,
   ⟨⟨by simp [Srt],?_,pq S.heap hn hne ⟨[],true,rfl,fun h=>h,.nil,fun _ e he=>by cases he⟩,⟨?_,?_⟩⟩,Nat.le_succ_of_le hb,?_,?_⟩,Nat.le_trans hm (Nat.le_add_right _ _)⟩
  · simp [agO,evC,lJ,jA,wants,jl,callOf,aH,sMv,Ic,iJ,QW,zh,kZ,Ua,elems,kK,uF,Opd.ev,ob,om,get_put,dL,hu,hl,ku,kV,iK,bW,uz,aN]
  · intro k v hk
    simp only [Pav.get] at hk
    split at hk
    · rename_i e;subst e;cases hk
      refine ⟨.sl (m+3) z 0 0 0 true,by simp [get_put],?_⟩
      have:up ρ s.next (m+3) s.next=m+3:=by simp [up]
      have key:=VW.sl (ρ:=up ρ s.next (m+3)) (V:=V) (A:=addN A s.next) s.next z 0 0 0 true true (.inr rfl) (fun q=>hn (S.heap.sub _ q)) (fun h=>h)
      rw [this] at key
      exact key
    · cases hk
  · rintro b (q | q)
    · exact Nat.lt_succ_of_lt (S.lt.w b q)
    · subst q;exact Nat.lt_succ_self _
  · intro b q v
    unfold up
    split
    · simp
    · rename_i e
      have:=S.lt.p b (q.resolve_right e) v
      simp only at this ⊢;omega
  · intro b hbb
    have hne2:b≠s.next:=by omega
    exact ⟨fun q=>qg hn b q,fun q=>q.resolve_right hne2⟩
  · intro b q v hbb
    unfold up
    split
    · omega
    · rename_i e
      exact hi b (q.resolve_right e) v hbb
theorem acW {k:Nat} (ih:DZ C k) (hr:yG (dQ C (evW C k)) (runWith (fG C) (evC (fG C) k))):DZ C (k+1):=by
 intro base c s ex s1 hok he m0 s' ρ V A S hb hi hm
 cases c with
 | skip=>simp only [evW,Option.some.injEq,Prod.mk.injEq] at he;obtain ⟨rfl,rfl⟩:=he;exact ⟨s',ρ,V,A,rfl,⟨S,hb,Old.refl base ρ V A,hi⟩,hm⟩
 | exit id=>simp only [evW,Option.some.injEq,Prod.mk.injEq] at he;obtain ⟨rfl,rfl⟩:=he;exact ⟨s',ρ,V,A,rfl,⟨S,hb,Old.refl base ρ V A,hi⟩,hm⟩
 | ret=>simp only [evW,Option.some.injEq,Prod.mk.injEq] at he;obtain ⟨rfl,rfl⟩:=he;exact ⟨s',ρ,V,A,rfl,⟨S,hb,Old.refl base ρ V A,hi⟩,hm⟩
 | fail=>simp [evW] at he
 | vG k0 =>
  simp only [evW] at he
  obtain ⟨v,h1,he⟩:=aC he
  simp only [Prod.mk.injEq] at he
  obtain ⟨rfl,rfl⟩:=he
  obtain ⟨h2,hv⟩:=aew S.env h1
  exact ⟨⟨put s'.env 9 v,s'.heap,s'.next⟩,ρ,V,A,by simp only [erC,evC,h2,om],⟨⟨S.srt.put _ _,S.env.put hv,S.heap,S.lt⟩,hb,Old.refl base ρ V A,hi⟩,hm⟩
 | cln zz z b =>
  simp only [evW] at he
  split at he
  · rename_i z' hz
    split at he
    · rename_i hc
      obtain ⟨rfl,hzz,hk⟩:=hc
      simp only [Option.some.injEq,Prod.mk.injEq] at he
      obtain ⟨rfl,rfl⟩:=he
      obtain ⟨x,hx,hx2⟩:=Option.bind_eq_some_iff.1 hz
      obtain ⟨j,rfl⟩:∃ j,k=j+8:=⟨k - 8,by omega⟩
      obtain ⟨u,hu,hr⟩:=S.env 0 x hx
      obtain ⟨xe,hxe⟩:∃ e,x=.ro z' [] e:=by
       unfold rE at hx2
       split at hx2
       · cases hx2;exact ⟨_,rfl⟩
       · cases hx2
      subst hxe
      have hl:(erL zz).length=z':=by rw [Us];exact hzz
      exact afy S hb hi hm hu hr hl
    · cases he
  · obtain ⟨s1',ρ1,V1,A1,h3,R,h4⟩:=ih base (abK zz z b) s ex s1 (by simpa [okC,abK,iZ,okO,okV,okL] using hok) he m0 s' ρ V A S hb hi hm
    exact ⟨s1',ρ1,V1,A1,oV k (k+1) (Nat.le_succ k) _ _ _ h3,R,h4⟩
 | ops l a =>
  simp only [evW] at he
  obtain ⟨s2,h1,he⟩:=ak he
  obtain ⟨s3,h2,he⟩:=aC he
  cases he
  obtain ⟨s1',ρ1,V1,A1,h3,R,h4⟩:=agi hr l s s2 hok h1 s' ρ V A S hb hi hm
  obtain ⟨s2b,h2b,h2⟩:=ak h2
  obtain ⟨s2b',h5,e5,R5⟩:=R.Yw _ h2b
  obtain ⟨ρ2,V2,A2,R2⟩:=R5.canon h2 (.inr rfl)
  exact ⟨_,ρ2,V2,A2,by simp only [erC,evC,h3,ob,ku,h5,om],R2,by rw [← e5] at h4;exact h4⟩
 | draw l un a =>
  simp only [evW] at he
  obtain ⟨⟨s2,ds⟩,h1,he⟩:=ak he
  unfold rC at he
  split at he
  · rename_i hap
    obtain ⟨s3,h2,he⟩:=aC he
    cases he
    have S0:Sim ρ V A ⟨s.env,s.heap,s.next+l.length⟩ ⟨s'.env,s'.heap,s'.next+l.length⟩:=⟨S.srt,S.env,S.heap,fun b q=>Nat.lt_of_lt_of_le (S.lt.w b q) (Nat.le_add_right _ _),fun b q v=>Nat.lt_of_lt_of_le (S.lt.p b q v) (Nat.le_add_right _ _)⟩
    obtain ⟨s1',ds1',ρ1,V1,A1,h3,R,h4,h5⟩:=Zv hr l s.next _ s2 [] ds hok h1 s'.next _ [] ρ V A S0 hb (Nat.le_refl _) (fun b q=>.inl (S.lt.w b q)) hi hm (Nat.le_refl _) (fun b q v=>.inl (S.lt.p b q v)) (s'.next+l.length) (Nat.le_refl _) (Nat.le_refl _) .nil
    obtain ⟨s2b,h2b,h2⟩:=ak h2
    obtain ⟨s2b',h6,e6,R6⟩:=R.Yw _ h2b
    obtain ⟨ρ2,V2,A2,R2⟩:=R6.canon h2 (.inr rfl)
    refine ⟨_,ρ2,V2,A2,?_,R2,by rw [← e6] at h4;exact h4⟩
    simp only [erC,evC,List.length_map]
    rw [h3]
    simp only [ob,zU,ku,h6,om]
    rw [if_pos]
    simp only [List.all_eq_true] at hap ⊢
    exact fun p hp=>abS R.sim.heap.inj h5 (hap p hp)
  · cases he
 | seq a b =>
  simp only [okC,Bool.and_eq_true] at hok
  simp only [evW] at he
  obtain ⟨⟨e1,s2⟩,h1,he⟩:=ak he
  obtain ⟨s1',ρ1,V1,A1,h3,R,h4⟩:=ih base a s e1 s2 hok.1 h1 m0 s' ρ V A S hb hi hm
  cases e1 with
  | norm =>
   simp only [dY] at he
   obtain ⟨s2',ρ2,V2,A2,h5,R2,h6⟩:=ih base b s2 ex s1 hok.2 he m0 s1' ρ1 V1 A1 R.sim R.kW R.hi h4
   exact ⟨s2',ρ2,V2,A2,by simp only [erC,evC,h3,ob,bW,h5],⟨R2.sim,R2.kW,R.old.trans R2.old,R2.hi⟩,h6⟩
  | exit id=>simp only [dY,Option.some.injEq,Prod.mk.injEq] at he;obtain ⟨rfl,rfl⟩:=he;exact ⟨s1',ρ1,V1,A1,by simp only [erC,evC,h3,ob,bW],R,h4⟩
  | ret=>simp only [dY,Option.some.injEq,Prod.mk.injEq] at he;obtain ⟨rfl,rfl⟩:=he;exact ⟨s1',ρ1,V1,A1,by simp only [erC,evC,h3,ob,bW],R,h4⟩
 | cond c a b =>
  simp only [okC,Bool.and_eq_true] at hok
  simp only [evW] at he
  have hc:=S.env.opd hok.1
  unfold qj at he
  split at he
  · rename_i t ht
    rw [ht] at hc
    cases t with
    | true =>
     simp only [if_true] at he
     obtain ⟨s1',ρ1,V1,A1,h3,R,h4⟩:=ih base a s ex s1 hok.2.1 he m0 s' ρ V A S hb hi hm
     exact ⟨s1',ρ1,V1,A1,by simp only [erC,evC,hc.fJ,uz,if_true];exact h3,R,h4⟩
    | false =>
     simp only [Bool.false_eq_true,if_false] at he
     obtain ⟨s1',ρ1,V1,A1,h3,R,h4⟩:=ih base b s ex s1 hok.2.2 he m0 s' ρ V A S hb hi hm
     exact ⟨s1',ρ1,V1,A1,by simp only [erC,evC,hc.fJ,uz,Bool.false_eq_true,if_false];exact h3,R,h4⟩
  · cases he
 | block id b a =>
  simp only [okC] at hok
  simp only [evW] at he
  obtain ⟨⟨e1,s2⟩,h1,he⟩:=ak he
  obtain ⟨s1',ρ1,V1,A1,h3,R,h4⟩:=ih base b s e1 s2 hok h1 m0 s' ρ V A S hb hi hm
  cases e1 with
  | norm =>
   simp only [jo] at he
   obtain ⟨s3,h5,he⟩:=aC he
   cases he
   obtain ⟨ρ2,V2,A2,R2⟩:=R.canon h5 (.inl rfl)
   exact ⟨s1',ρ2,V2,A2,by simp only [erC,evC,h3,om,dh],R2,h4⟩
  | exit i =>
   simp only [jo] at he
   split at he
   · rename_i hid
     obtain ⟨s3,h5,he⟩:=aC he
     cases he
     obtain ⟨ρ2,V2,A2,R2⟩:=R.canon h5 (.inl rfl)
     exact ⟨s1',ρ2,V2,A2,by simp only [erC,evC,h3,om,dh,if_pos hid],R2,h4⟩
   · rename_i hid
     simp only [Option.some.injEq,Prod.mk.injEq] at he;obtain ⟨rfl,rfl⟩:=he
     exact ⟨s1',ρ1,V1,A1,by simp only [erC,evC,h3,om,dh,if_neg hid],R,h4⟩
  | ret =>
   simp only [jo,Option.some.injEq,Prod.mk.injEq] at he;obtain ⟨rfl,rfl⟩:=he
   exact ⟨s1',ρ1,V1,A1,by simp only [erC,evC,h3,om,dh],R,h4⟩
 | loop a b =>
  have hok':okC b=true:=hok
  simp only [evW] at he
  obtain ⟨s0,h0,he⟩:=ak he
  obtain ⟨⟨e1,s2⟩,h1,he⟩:=ak he
  obtain ⟨ρ0,V0,A0,R0⟩:=(⟨S,hb,Old.refl base ρ V A,hi⟩:Res base m0 ρ V A s s' ρ V A).canon h0 (s2':=iK (sJ a) s') (.inr rfl)
  obtain ⟨s1',ρ1,V1,A1,h3,R,h4⟩:=ih base b s0 e1 s2 hok' h1 m0 _ ρ0 V0 A0 R0.sim R0.kW R0.hi hm
  have R':Res base m0 ρ V A s2 s1' ρ1 V1 A1:=⟨R.sim,R.kW,R0.old.trans R.old,R.hi⟩
  cases e1 with
  | norm =>
   simp only [dY] at he
   obtain ⟨s2',ρ2,V2,A2,h5,R2,h6⟩:=ih base (.loop a b) s2 ex s1 hok he m0 s1' ρ1 V1 A1 R.sim R.kW R.hi h4
   exact ⟨s2',ρ2,V2,A2,by simp only [erC,evC,h3,ob,bW];exact h5,⟨R2.sim,R2.kW,R'.old.trans R2.old,R2.hi⟩,h6⟩
  | exit id=>simp only [dY,Option.some.injEq,Prod.mk.injEq] at he;obtain ⟨rfl,rfl⟩:=he;exact ⟨s1',ρ1,V1,A1,by simp only [erC,evC,h3,ob,bW],R',h4⟩
  | ret=>simp only [dY,Option.some.injEq,Prod.mk.injEq] at he;obtain ⟨rfl,rfl⟩:=he;exact ⟨s1',ρ1,V1,A1,by simp only [erC,evC,h3,ob,bW],R',h4⟩
theorem F9 {ρ:Nat→Nat} {V A:Nat→Prop} {e:Env} {e':Env} {h:aJ} {h':Heap} (he:EW ρ V A e e') (H:HW ρ V A h h') {rs:List uO} {v:AV} (hv:Gp e h rs=some v):∃ v',Pav.results e' h' rs=some v'∧VW ρ V A v v':=by
 obtain ⟨vs,h1,rfl⟩:=aC hv
 have one:∀ r x,BJ e h r=some x→∃ x',Dh e' h' r=some x'∧VW ρ V A x x':=by
  intro r x hx
  cases r with
  | tmp t=>exact he t x hx
  | cell t k ag =>
   simp only [BJ] at hx
   split at hx
   · rename_i b i o hg
     obtain ⟨p,h2,h3⟩:=he t _ hg
     obtain ⟨rfl,hA,hV⟩:=h3.jf
     unfold wY at hx
     split at hx
     · rename_i z es mu dt hgb
       obtain ⟨cs,h4,h5⟩:=ak hx
       obtain ⟨o',g1,es',mu',rfl,_,ge,_⟩:=H.obj b _ hgb hV
       obtain ⟨cs',h6,h7⟩:=ge.get h4
       obtain ⟨v',h8,h9⟩:=vK (h7.drop o) h5
       exact ⟨v',by simp only [Dh,h2,g1,loadAt,h6,ob];exact h8,h9⟩
     · cases hx
   · cases hx
 have lst:∀ (rs:List uO) (vs:List AV),bg (BJ e h) rs=some vs→∃ vs',bg (Dh e' h') rs=some vs'∧bf (VW ρ V A) vs vs':=by
  intro rs
  induction rs with
  | nil=>intro vs hq;simp only [bg,Option.some.injEq] at hq;subst hq;exact ⟨[],rfl,.nil⟩
  | cons r rs ih =>
   intro vs hq
   simp only [bg] at hq ⊢
   obtain ⟨x,h2,hq⟩:=ak hq
   obtain ⟨xs,h3,rfl⟩:=aC hq
   obtain ⟨x',h4,h5⟩:=one r x h2
   obtain ⟨xs',h6,h7⟩:=ih xs h3
   exact ⟨x'::xs',by rw [h4,h6];rfl,.cons h5 h7⟩
 obtain ⟨vs',h2,h3⟩:=lst rs vs h1
 refine ⟨Cb vs',by simp only [Pav.results,h2,om],?_⟩
 cases vs with
 | nil=>rw [h3.eH];exact VW.lH .nil
 | cons a r =>
  obtain ⟨b,t,rfl,h4,h5⟩:=h3.dD
  cases r with
  | nil=>rw [h5.eH];exact h4
  | cons a2 r2 =>
   obtain ⟨b2,t2,rfl,h6,h7⟩:=h5.dD
   exact VW.lH (.cons h4 (.cons h6 h7))
theorem SS:∀ (l:List AV) (k j:Nat),get (eY k l) j=if j < k then none else l[j - k]?:=by
 intro l
 induction l with
 | nil=>intro k j;simp [eY,Pav.get]
 | cons a l ih =>
  intro k j
  simp only [eY,Pav.get]
  by_cases h1:k=j
  · subst h1;simp
  · rw [if_neg h1,ih]
    by_cases h2:j < k
    · rw [if_pos (by omega),if_pos h2]
    · rw [if_neg (by omega),if_neg h2]
      have:j - k=(j - (k+1))+1:=by omega
      rw [this];simp
theorem Sj:∀ (t:rM) (g:Nat),(Ce t).get g=(t.get g).map aP:=by
 intro t
 induction t with
 | leaf=>intro g;rfl
 | node l k f r ihl ihr =>
  intro g
  simp only [Ce,Tree.get,rM.get]
  split
  · rfl
  · split
    · exact ihl g
    · exact ihr g
theorem SN:∀ (t:rM) (g:Nat) (f:WFn),tq t=true→t.get g=some f→okC f.body=true:=by
 intro t
 induction t with
 | leaf=>intro g f _ h;simp [rM.get] at h
 | node l k f r ihl ihr =>
  intro g f' hok h
  simp only [tq,Bool.and_eq_true] at hok
  simp only [rM.get] at h
  split at h
  · cases h;exact hok.2.1
  · split at h
    · exact ihl g f' hok.1 h
    · exact ihr g f' hok.2.2 h
theorem VB (hok:tq C.fns=true) {k:Nat} (hc:DZ C k):yG (dQ C (evW C k)) (runWith (fG C) (evC (fG C) k)):=by
 intro f args h n v h1 n1 hrun ρ V A args' h' m ha H lt
 unfold dQ at hrun
 obtain ⟨fn,hf,hrun⟩:=ak hrun
 split at hrun
 · rename_i hl
   obtain ⟨⟨ex,s1⟩,h2,h3⟩:=ak hrun
   have S:Sim ρ V A ⟨Gt 0 args [],h,n⟩ ⟨eY 0 args',h',m⟩:=by
    refine ⟨adP args 0,fun j x hj=>?_,H,lt⟩
    have hj2:get (eY 0 args) j=some x:=by
     have hm:=get_mem hj
     rw [Uw,List.append_nil] at hm
     have hm2:=List.mem_reverse.1 hm
     have key:∀ (l:List AV) (k:Nat),(j,x) ∈ eY k l→get (eY k l) j=some x:=by
      intro l
      induction l with
      | nil=>intro k hq;simp [eY] at hq
      | cons v l ih =>
       intro k hq
       simp only [eY,Pav.get]
       rcases List.mem_cons.1 hq with q | q
       · cases q;simp
       · have:=(OV l (k+1)).2 _ q
         simp only at this
         rw [if_neg (by omega)]
         exact ih (k+1) q
     exact key args 0 hm2
    simp only [SS,Nat.not_lt_zero,if_false,Nat.sub_zero] at hj2 ⊢
    exact ha.get hj2
   obtain ⟨s1',ρ1,V1,A1,h4,R,h5⟩:=hc n fn.body _ ex s1 (SN _ _ _ hok hf) h2 m ⟨eY 0 args',h',m⟩ ρ V A S (Nat.le_refl _) (fun b hb _ hn=>absurd (lt.w b hb) (by omega)) (Nat.le_refl _)
   have fin:∃ v',Pav.results s1'.env s1'.heap fn.res=some v'∧VW ρ1 V1 A1 v v'∧s1.heap=h1∧s1.next=n1∧∀ i,ex≠.exit i:=by
    unfold kS at h3
    cases ex with
    | exit i=>cases h3
    | norm =>
     obtain ⟨w,q1,q2⟩:=aC h3
     cases q2
     obtain ⟨v',q3,q4⟩:=F9 R.sim.env R.sim.heap q1
     exact ⟨v',q3,q4,rfl,rfl,fun i e=>by cases e⟩
    | ret =>
     obtain ⟨w,q1,q2⟩:=aC h3
     cases q2
     obtain ⟨v',q3,q4⟩:=F9 R.sim.env R.sim.heap q1
     exact ⟨v',q3,q4,rfl,rfl,fun i e=>by cases e⟩
   obtain ⟨v',h6,h7,rfl,rfl,h8⟩:=fin
   refine ⟨v',s1'.heap,s1'.next,ρ1,V1,A1,?_,h7,R.sim.heap,R.sim.lt,fun b hb=>(R.old b (lt.w b hb)).1 hb,fun b hb=>?_,fun b hb hv=>?_,R.kW,h5⟩
   · unfold runWith
     have:(fG C).fns.get f=some (aP fn):=by
      show (Ce C.fns).get f=_
      rw [Sj,hf];rfl
     rw [this]
     have hnp:args'.length=(aP fn).np:=by rw [← ha.1];exact hl
     simp only [ob]
     rw [if_pos hnp,show (aP fn).body=erC fn.body from rfl,h4]
     cases ex with
     | exit i=>exact absurd rfl (h8 i)
     | norm=>simp only [QC,show (aP fn).res=fn.res from rfl,h6,om]
     | ret=>simp only [QC,show (aP fn).res=fn.res from rfl,h6,om]
   · rcases Nat.lt_or_ge b n with q | q
     · exact .inl ((R.old b q).2 hb)
     · exact .inr q
   · rcases Nat.lt_or_ge b n with q | q
     · have:=(R.old b q).2 hb
       exact .inl ⟨this,((R.old b q).1 this).2.1⟩
     · exact .inr (R.hi b hb hv q)
 · cases hrun
theorem agc (hok:tq C.fns=true):∀ k,DZ C k:=by
 intro k
 induction k with
 | zero=>intro base c s ex s1 _ he;simp [evW] at he
 | succ k ih=>exact acW ih (VB hok ih)
theorem abO (hok:tq C.fns=true) {k f:Nat} {args args':List AV} {v:AV} (ha:bf (VD id fun _=>False) args args') (hc:Za C k f args=some v):∃ v',aht (fG C) k f args'=some v'∧VD id (fun _=>False) v v' :=
 Qj (VB hok (agc hok k)) ha hc
end
end Go.Pw
end
section
set_option linter.unusedSimpArgs false
set_option linter.unusedVariables false
namespace Go.Pw
open Go Go.Pav
def qO (r r':rD):Prop:=∀ f args h n x,r f args h n=some x→r' f args h n=some x
section
variable {C:aI} {r r':rD}
theorem LP (hr:qO r r') {f:Nat} {args:List AV} {h:aJ} {nid n:Nat} {c:wM} (hc:gW C r f args h nid n=some c):gW C r' f args h nid n=some c:=by
 unfold gW at hc ⊢
 split
 · rename_i hi
   rw [if_pos hi] at hc
   split
   · rename_i hf
     rw [if_pos hf] at hc
     refine bG hc (fun x hx=>hx) fun az has=>?_
     by_cases hdp:rW f=true
     · rw [if_pos hdp] at has ⊢
       exact bG has (fun x hx=>hr _ _ _ _ _ hx) fun x hx=>hx
     · rw [if_neg hdp] at has ⊢
       exact bG has (fun v hv=>bG hv (fun x hx=>hr _ _ _ _ _ hx) fun x hx=>hx) fun x hx=>hx
   · rename_i hf
     rw [if_neg hf] at hc
     exact kX hc fun x hx=>hr _ _ _ _ _ hx
 · rename_i hi
   rw [if_neg hi] at hc
   split
   · rename_i hp;rw [if_pos hp] at hc;exact kX hc fun x hx=>hr _ _ _ _ _ hx
   · rename_i hp
     rw [if_neg hp] at hc
     exact bG hc (fun x hx=>hx) fun az has=>kX has fun v hv=>bG hv (fun x hx=>hr _ _ _ _ _ hx) fun x hx=>hx
theorem PS (hr:qO r r') {op:COp} {nid:Nat} {e:Env} {h:aJ} {n:Nat} {d:jy} (hd:iM C r op nid e h n=some d):iM C r' op nid e h n=some d:=by
 unfold iM at hd ⊢
 split
 · rename_i hc;rw [hc] at hd;cases hd
 · rename_i hc;rw [hc] at hd;exact kX hd fun c hc=>LP hr hc
 · rename_i hc;rw [hc] at hd;exact hd
theorem uf (hr:qO r r') {o:aX} {nid:Nat} {e:Env} {h:aJ} {n:Nat} {d:jy} (hd:fH C r o nid e h n=some d):fH C r' o nid e h n=some d:=by
 unfold fH at hd ⊢
 split
 · rename_i hc;rw [hc] at hd;cases hd
 · rename_i hc;rw [hc] at hd;exact hd
 · rename_i hc;rw [hc] at hd;exact PS hr hd
theorem uX (hr:qO r r'):∀ (l:List aX) (s s':WSt),gB C r l s=some s'→gB C r' l s=some s':=by
 intro l
 induction l with
 | nil=>intro s s' h;exact h
 | cons o l ih=>intro s s' h;exact bG h (fun d hd=>uf hr hd) fun d hd=>ih _ _ hd
theorem uD (hr:qO r r'):∀ (l:List aX) (nid:Nat) (s:WSt) (ds:List jy) (x:WSt × List jy),dZ C r l nid s ds=some x→dZ C r' l nid s ds=some x:=by
 intro l
 induction l with
 | nil=>intro nid s ds x h;exact h
 | cons o l ih=>intro nid s ds x h;exact bG h (fun d hd=>uf hr hd) fun d hd=>ih _ _ _ _ hd
theorem mO {ev ev':WEv} (he:∀ b c s x,ev b c s=some x→ev' b c s=some x):qO (dQ C ev) (dQ C ev'):=by
 intro f args h n x hx
 refine bG hx (fun a ha=>ha) fun fn hfn=>?_
 split
 · rename_i hl
   rw [if_pos hl] at hfn
   exact bG hfn (fun a ha=>he _ _ _ _ ha) fun a ha=>ha
 · rename_i hl
   rw [if_neg hl] at hfn;cases hfn
theorem kE {b b':WSt→Option (Ex × WSt)} (h:∀ s x,b s=some x→b' s=some x) {r:Ex × WSt} {x:Ex × WSt} (hx:dY b r=some x):dY b' r=some x:=by
 unfold dY at hx ⊢
 split
 · rename_i hr;rw [hr] at hx;exact h _ _ hx
 · split at hx
   · rename_i h1 _ h2;exact absurd h2 h1
   · exact hx
theorem o9:∀ (n m:Nat),n≤m→∀ (base:Nat) (c:aB) (s:WSt) (x:Ex × WSt),evW C n base c s=some x→evW C m base c s=some x:=by
 intro n
 induction n with
 | zero=>intro m _ base c s x h;simp only [evW] at h;cases h
 | succ n ih =>
  intro m hm base c s x h
  obtain ⟨m,rfl⟩:∃ k,m=k+1:=⟨m - 1,by omega⟩
  have ih':=ih m (by omega)
  have hr:qO (dQ C (evW C n)) (dQ C (evW C m)):=mO ih'
  cases c with
  | skip=>exact h
  | exit id=>exact h
  | ret=>exact h
  | fail=>exact h
  | vG k=>exact h
  | cln zz z b =>
   simp only [evW] at h ⊢
   split
   · rename_i z' hz
     rw [hz] at h
     simp only at h
     split at h
     · rename_i hc;rw [if_pos ⟨hc.1,hc.2.1,by omega⟩];exact h
     · cases h
   · rename_i hz
     rw [hz] at h
     exact ih' _ _ _ _ h
  | ops l a=>simp only [evW] at h ⊢;exact bG h (fun s' hs=>uX hr l s s' hs) fun x hx=>hx
  | draw l un a=>simp only [evW] at h ⊢;exact bG h (fun x hx=>uD hr l _ _ _ x hx) fun x hx=>hx
  | seq a b=>simp only [evW] at h ⊢;exact bG h (fun x hx=>ih' _ _ _ _ hx) fun x hx=>kE (fun s x hx=>ih' _ _ _ _ hx) hx
  | cond c a b =>
   simp only [evW] at h ⊢
   unfold qj at h ⊢
   split
   · rename_i t hv
     rw [hv] at h
     cases t with
     | true=>exact ih' _ _ _ _ h
     | false=>exact ih' _ _ _ _ h
   · split at h
     · rename_i h1 _ t hv;exact absurd hv (h1 t)
     · cases h
  | block id b a=>simp only [evW] at h ⊢;exact bG h (fun x hx=>ih' _ _ _ _ hx) fun x hx=>hx
  | loop a b=>simp only [evW] at h ⊢;exact bG h (fun x hx=>hx) fun s hs=>bG hs (fun x hx=>ih' _ _ _ _ hx) fun x hx=>kE (fun s x hx=>ih' _ _ _ _ hx) hx
theorem xU {n m:Nat} (h:n≤m):qO (Iw C n) (Iw C m):=mO (o9 n m h)
end
section
variable (C:aI)
noncomputable def CdW:WEv:=fun base c s=>lim fun n=>evW C n base c s
noncomputable def RnW:rD:=dQ C (CdW C)
noncomputable def FnW (f:Nat) (args:List AV):Option AV:=fU (RnW C) f args
end
section
variable {C:aI} {base:Nat}
theorem aiQ (base:Nat) (c:aB) (s:WSt):af9 fun n=>evW C n base c s:=fun n m h a ha=>o9 n m h base c s a ha
theorem lD {c:aB} {s:WSt} {x:Ex × WSt}:CdW C base c s=some x↔∃ n,evW C n base c s=some x:=aev (aiQ base c s)
theorem vN {n:Nat} {c:aB} {s:WSt} {x:Ex × WSt} (h:evW C n base c s=some x):CdW C base c s=some x:=lD.2 ⟨n,h⟩
theorem BD (n:Nat):qO (Iw C n) (RnW C):=mO fun _ _ _ _ h=>vN h
theorem xP {f:Nat} {args:List AV} {h:aJ} {n:Nat} {x:AV × aJ × Nat} (hx:RnW C f args h n=some x):∃ k,Iw C k f args h n=some x:=by
 unfold RnW dQ at hx
 obtain ⟨fn,hf,hx⟩:=ak hx
 split at hx
 · rename_i hl
   obtain ⟨y,hc,hx⟩:=ak hx
   obtain ⟨k,hk⟩:=lD.1 hc
   refine ⟨k,?_⟩
   unfold Iw dQ
   rw [hf]
   simp only [ob,if_pos hl,hk]
   exact hx
 · cases hx
theorem JM {f:Nat} {args:List AV} {h:aJ} {nid n:Nat} {c:wM} (hc:gW C (RnW C) f args h nid n=some c):∃ k,gW C (Iw C k) f args h nid n=some c:=by
 unfold gW at hc ⊢
 split
 · rename_i hi
   rw [if_pos hi] at hc
   split
   · rename_i hf
     rw [if_pos hf] at hc
     obtain ⟨az,h1,hc⟩:=ak hc
     by_cases hdp:rW f=true
     · rw [if_pos hdp] at hc
       obtain ⟨r,h3,hc⟩:=ak hc
       obtain ⟨k,hk⟩:=xP h3
       refine ⟨k,?_⟩
       rw [h1]
       simp only [ob,if_pos hdp,hk]
       exact hc
     rw [if_neg hdp] at hc
     obtain ⟨x,h2,hend⟩:=ak hc
     obtain ⟨r,h3,h4⟩:=ak h2
     obtain ⟨k,hk⟩:=xP h3
     refine ⟨k,?_⟩
     rw [h1]
     simp only [ob,if_neg hdp]
     unfold iH
     simp only [ob,hk]
     rw [h4]
     exact hend
   · rename_i hf
     rw [if_neg hf] at hc
     obtain ⟨r,h1,rfl⟩:=aC hc
     obtain ⟨k,hk⟩:=xP h1
     exact ⟨k,by rw [hk];rfl⟩
 · rename_i hi
   rw [if_neg hi] at hc
   split
   · rename_i hp
     rw [if_pos hp] at hc
     obtain ⟨r,h1,rfl⟩:=aC hc
     obtain ⟨k,hk⟩:=xP h1
     exact ⟨k,by rw [hk];rfl⟩
   · rename_i hp
     rw [if_neg hp] at hc
     obtain ⟨az,h1,hc⟩:=ak hc
     obtain ⟨v,h2,rfl⟩:=aC hc
     obtain ⟨r,h3,h4⟩:=ak h2
     obtain ⟨k,hk⟩:=xP h3
     exact ⟨k,by rw [h1];simp only [ob,fU,hk,h4];rfl⟩
theorem Hr {o:aX} {nid:Nat} {e:Env} {h:aJ} {n:Nat} {d:jy} (hd:fH C (RnW C) o nid e h n=some d):∃ k,fH C (Iw C k) o nid e h n=some d:=by
 unfold fH at hd ⊢
 split
 · rename_i hc;rw [hc] at hd;cases hd
 · rename_i hc;rw [hc] at hd;exact ⟨0,hd⟩
 · rename_i hc
   rw [hc] at hd
   simp only at hd
   unfold iM at hd ⊢
   split
   · rename_i hc;rw [hc] at hd;cases hd
   · rename_i hc
     rw [hc] at hd
     simp only at hd
     obtain ⟨r,h1,rfl⟩:=aC hd
     obtain ⟨k,hk⟩:=JM h1
     exact ⟨k,by rw [hk];rfl⟩
   · rename_i hc;rw [hc] at hd;exact ⟨0,hd⟩
theorem Oz:∀ (l:List aX) (s s':WSt),gB C (RnW C) l s=some s'→∃ k,gB C (Iw C k) l s=some s':=by
 intro l
 induction l with
 | nil=>intro s s' h;exact ⟨0,h⟩
 | cons o l ih =>
  intro s s' h
  simp only [gB] at h ⊢
  obtain ⟨d,hd,h⟩:=ak h
  obtain ⟨k1,h1⟩:=Hr hd
  obtain ⟨k2,h2⟩:=ih _ _ h
  refine ⟨max k1 k2,?_⟩
  rw [uf (xU (Nat.le_max_left k1 k2)) h1]
  exact uX (xU (Nat.le_max_right k1 k2)) _ _ _ h2
theorem J6:∀ (l:List aX) (nid:Nat) (s:WSt) (ds:List jy) (x:WSt × List jy),dZ C (RnW C) l nid s ds=some x→∃ k,dZ C (Iw C k) l nid s ds=some x:=by
 intro l
 induction l with
 | nil=>intro nid s ds x h;exact ⟨0,h⟩
 | cons o l ih =>
  intro nid s ds x h
  simp only [dZ] at h ⊢
  obtain ⟨d,hd,h⟩:=ak h
  obtain ⟨k1,h1⟩:=Hr hd
  obtain ⟨k2,h2⟩:=ih _ _ _ _ h
  refine ⟨max k1 k2,?_⟩
  rw [uf (xU (Nat.le_max_left k1 k2)) h1]
  exact uD (xU (Nat.le_max_right k1 k2)) _ _ _ _ _ h2
theorem U8 (s:WSt):CdW C base .skip s=some (.norm,s):=vN (n:=1) rfl
theorem Vg (id:Nat) (s:WSt):CdW C base (.exit id) s=some (.exit id,s):=vN (n:=1) rfl
theorem Ut (k:Nat) (s:WSt):CdW C base (.vG k) s=om (o7 k (dF (oM k) 0 s.env)) fun v=>(.ret,⟨uQ s.env 9 v,s.heap,s.next⟩):=by
 cases h:om (o7 k (dF (oM k) 0 s.env)) fun v=>((.ret,⟨uQ s.env 9 v,s.heap,s.next⟩):Ex × WSt) with
 | some x=>exact vN (n:=1) h
 | none =>
  cases h2:CdW C base (.vG k) s with
  | none=>rfl
  | some x =>
   obtain ⟨n,hn⟩:=lD.1 h2
   cases n with
   | zero=>simp only [evW] at hn;cases hn
   | succ n=>simp only [evW] at hn;rw [h] at hn;cases hn
theorem aaJ (s:WSt):CdW C base .ret s=some (.ret,s):=vN (n:=1) rfl
theorem uI {c:aB} {s:WSt} {x:Ex × WSt}:CdW C base c s=some x↔∃ n,evW C (n+1) base c s=some x:=by
 rw [lD]
 constructor
 · rintro ⟨n,h⟩;exact ⟨n,o9 n (n+1) (Nat.le_succ n) base c s x h⟩
 · rintro ⟨n,h⟩;exact ⟨_,h⟩
theorem sU {b:aB} {r x:Ex × WSt}:dY (CdW C base b) r=some x↔∃ n,dY (evW C n base b) r=some x:=by
 obtain ⟨ex,s⟩:=r
 cases ex with
 | norm=>simp only [dY];exact lD
 | exit id=>simp [dY]
 | ret=>simp [dY]
theorem qM (a b:aB) (s:WSt):CdW C base (.seq a b) s=ob (CdW C base a s) (dY (CdW C base b)):=by
 refine su fun x=>?_
 rw [uI,oJ]
 simp only [evW,oJ]
 constructor
 · rintro ⟨n,r,h1,h2⟩;exact ⟨r,vN h1,sU.2 ⟨n,h2⟩⟩
 · rintro ⟨r,h1,h2⟩
   obtain ⟨n,h1⟩:=lD.1 h1
   obtain ⟨m,h2⟩:=sU.1 h2
   exact ⟨max n m,r,o9 _ _ (Nat.le_max_left n m) _ _ _ _ h1,kE (fun s x hx=>o9 _ _ (Nat.le_max_right n m) _ _ _ _ hx) h2⟩
theorem FD (a:Ann) (b:aB) (s:WSt):CdW C base (.loop a b) s=ob (canon base a s) fun s=>ob (CdW C base b s) (dY (CdW C base (.loop a b))):=by
 refine su fun x=>?_
 rw [uI,oJ]
 simp only [evW,oJ]
 constructor
 · rintro ⟨n,s0,h0,r,h1,h2⟩;exact ⟨s0,h0,r,vN h1,sU.2 ⟨n,h2⟩⟩
 · rintro ⟨s0,h0,r,h1,h2⟩
   obtain ⟨n,h1⟩:=lD.1 h1
   obtain ⟨m,h2⟩:=sU.1 h2
   exact ⟨max n m,s0,h0,r,o9 _ _ (Nat.le_max_left n m) _ _ _ _ h1,kE (fun s x hx=>o9 _ _ (Nat.le_max_right n m) _ _ _ _ hx) h2⟩
theorem Gx (id:Nat) (b:aB) (a:Ann) (s:WSt):CdW C base (.block id b a) s=ob (CdW C base b s) (jo base id a):=by
 refine su fun x=>?_
 rw [uI,oJ]
 simp only [evW,oJ]
 constructor
 · rintro ⟨n,r,h1,h2⟩;exact ⟨r,vN h1,h2⟩
 · rintro ⟨r,h1,h2⟩
   obtain ⟨n,h1⟩:=lD.1 h1
   exact ⟨n,r,h1,h2⟩
theorem UN (c:Opd) (a b:aB) (s:WSt):CdW C base (.cond c a b) s=qj (CdW C base a) (CdW C base b) (c.ev s.env) s:=by
 refine su fun x=>?_
 rw [uI]
 simp only [evW]
 unfold qj
 split
 · rename_i t _
   cases t with
   | true=>exact lD.symm
   | false=>exact lD.symm
 · simp
theorem aan (l:List aX) (a:Ann) (s:WSt):CdW C base (.ops l a) s=ob (gB C (RnW C) l s) fun s=>om (oN base a s) fun s=>(.norm,s):=by
 refine su fun x=>?_
 rw [uI,oJ]
 simp only [evW,oJ]
 constructor
 · rintro ⟨n,r,h1,h2⟩;exact ⟨r,uX (BD n) _ _ _ h1,h2⟩
 · rintro ⟨r,h1,h2⟩
   obtain ⟨n,h1⟩:=Oz _ _ _ h1
   exact ⟨n,r,h1,h2⟩
theorem Ve (l:List aX) (un:List (Nat × Nat)) (a:Ann) (s:WSt):CdW C base (.draw l un a) s=ob (dZ C (RnW C) l s.next ⟨s.env,s.heap,s.next+l.length⟩ []) (rC base un a):=by
 refine su fun x=>?_
 rw [uI,oJ]
 simp only [evW,oJ]
 constructor
 · rintro ⟨n,r,h1,h2⟩;exact ⟨r,uD (BD n) _ _ _ _ _ h1,h2⟩
 · rintro ⟨r,h1,h2⟩
   obtain ⟨n,h1⟩:=J6 _ _ _ _ _ h1
   exact ⟨n,r,h1,h2⟩
theorem ai1 (zz:List AV) (z b:Nat) (s:WSt):CdW C base (.cln zz z b) s=match (Pav.get s.env 0).bind rE with
 | some z'=>if z'=z∧zz.length=z then some (.ret,⟨[(2,.sl s.next z 0 0 0 true)],Pav.put s.heap s.next (.cells z [] true true),s.next+1⟩) else none
 | none=>CdW C base (abK zz z b) s:=by
 refine su fun x=>?_
 rw [uI]
 simp only [evW]
 cases hq:(Pav.get s.env 0).bind rE with
 | some z' =>
  simp only
  by_cases hc:z'=z∧zz.length=z
  · rw [if_pos hc]
    constructor
    · rintro ⟨n,h⟩
      split at h
      · exact h
      · cases h
    · intro h;exact ⟨8,by rw [if_pos ⟨hc.1,hc.2,by omega⟩];exact h⟩
  · rw [if_neg hc]
    constructor
    · rintro ⟨n,h⟩
      rw [if_neg (fun w=>hc ⟨w.1,w.2.1⟩)] at h
      exact h
    · intro h;cases h
 | none=>exact lD.symm
theorem O1 {f:Nat} {args:List AV} {v:AV}:FnW C f args=some v↔∃ n,Za C n f args=some v:=by
 unfold FnW Za fU
 simp only [oJ]
 constructor
 · rintro ⟨r,h1,h2⟩
   obtain ⟨k,h1⟩:=xP h1
   exact ⟨k,r,h1,h2⟩
 · rintro ⟨k,r,h1,h2⟩;exact ⟨r,BD k _ _ _ _ _ h1,h2⟩
end
end Go.Pw
end
section
set_option linter.unusedSimpArgs false
set_option linter.unusedVariables false
namespace Go.Pw
open Go Go.Pav
inductive Frame where
 | sq (b:aB)
 | bk (id:Nat) (a:Ann)
 | lp (a:Ann) (b:aB)
def pK:Env→Nat→AV→Env
 | [],_,_=>[]
 | (k,v)::r,g,x=>if k=g then (k,x)::r else (k,v)::pK r g x
section
variable {β:Type}
noncomputable def RK (C:aI) (base:Nat):List Frame→Ex × WSt→Option (Ex × WSt)
 | [],r=>some r
 | .sq b::k,r=>ob (dY (CdW C base b) r) (RK C base k)
 | .bk id a::k,r=>ob (jo base id a r) (RK C base k)
 | .lp a b::k,r=>ob (dY (CdW C base (.loop a b)) r) (RK C base k)
noncomputable def CK (C:aI) (base:Nat) (fin:Ex × WSt→Option β) (k:List Frame) (c:aB) (s:WSt):Option β:=ob (CdW C base c s) fun r=>ob (RK C base k r) fin
noncomputable def NK (C:aI) (base:Nat) (fin:Ex × WSt→Option β) (k:List Frame) (ex:Ex) (s:WSt):Option β:=ob (RK C base k (ex,s)) fin
noncomputable def AK (C:aI) (base:Nat) (fin:Ex × WSt→Option β) (k:List Frame) (s:Option WSt):Option β:=ob s fun s=>NK C base fin k .norm s
noncomputable def LK (C:aI) (base:Nat) (fin:Ex × WSt→Option β) (k:List Frame) (b:aB) (s:Option WSt):Option β:=ob s fun s=>CK C base fin k b s
noncomputable def OK (C:aI) (base:Nat) (fin:Ex × WSt→Option β) (k:List Frame) (a:Ann) (l:List aX) (s:WSt):Option β :=
 ob (gB C (RnW C) l s) fun s=>AK C base fin k (oN base a s)
noncomputable def SK (C:aI) (base:Nat) (fin:Ex × WSt→Option β) (k:List Frame) (a:Ann) (l:List aX) (d:Option Nat) (e:Env) (h:aJ) (n:Nat) (x:Option (AV × dP)):Option β :=
 ob x fun x=>OK C base fin k a l ⟨dX e d x.1,bM h x.2,n⟩
noncomputable def OJ (C:aI) (base:Nat) (fin:Ex × WSt→Option β) (k:List Frame) (a b:aB) (s:WSt) (v:AV):Option β :=
 match v with
 | .bool t=>if t=true then CK C base fin k a s else CK C base fin k b s
 | _=>none
noncomputable def GK (C:aI) (base:Nat) (fin:Ex × WSt→Option β) (k:List Frame) (a:Ann) (l:List aX) (d:Option Nat) (op:COp) (g:Nat) (w:Bool) (e:Env) (h:aJ) (n:Nat) (v:Option AV):Option β :=
 match v with
 | some (.bool b)=>if b=w then OK C base fin k a (⟨d,none,op⟩::l) ⟨pK e g (.bool w),h,n⟩ else OK C base fin k a l ⟨dX (pK e g (.bool (!w))) d (.tup []),h,n+1⟩
 | some (.tup [])=>OK C base fin k a l ⟨dX e d (.tup []),h,n+1⟩
 | _=>none
noncomputable def VK (C:aI) (base:Nat) (fin:Ex × WSt→Option β) (k:List Frame) (a:Ann) (l:List aX) (d:Option Nat) (e:Env) (h:aJ) (n:Nat) (args:List AV) (v:Option AV):Option β :=
 ob v fun v=>OK C base fin k a l ⟨dX e d v,bM h (oW h args v),n⟩
noncomputable def WK (C:aI) (base:Nat) (fin:Ex × WSt→Option β) (k:List Frame) (a:Ann) (l:List aX) (d:Option Nat) (e:Env) (r:Option (AV × aJ × Nat)):Option β :=
 ob r fun r=>OK C base fin k a l ⟨dX e d r.1,r.2.1,r.2.2⟩
noncomputable def PK (C:aI) (base:Nat) (fin:Ex × WSt→Option β) (k:List Frame) (a:Ann) (l:List aX) (d:Option Nat) (e:Env) (h:aJ) (n:Nat) (f:Nat) (args:List AV) (az:Option (List AV)):Option β :=
 ob az fun az=>VK C base fin k a l d e h n args (FnW C f az)
noncomputable def BSK (C:aI) (base:Nat) (fin:Ex × WSt→Option β) (k:List Frame) (a:Ann) (l:List aX) (d:Option Nat) (e:Env) (h:aJ) (n:Nat) (v:AV) (u:dP) (ok:Bool):Option β :=
 if ok=true then OK C base fin k a l ⟨dX e d v,bM h u,n⟩ else none
noncomputable def FSK (C:aI) (base:Nat) (fin:Ex × WSt→Option β) (k:List Frame) (a:Ann) (l:List aX) (d:Option Nat) (e:Env) (h:aJ) (n:Nat) (br:Bool) (args:List AV) (x:Option (AV × dP)):Option β :=
 ob x fun x=>if br=true then BSK C base fin k a l d e h n x.1 x.2 (nG x) else OK C base fin k a l ⟨dX e d x.1,bM h (aW h (args.flatMap (aK h au))++x.2),n⟩
def over (n:Nat) (h1 h:aJ):aJ:=bM h (DV n h1)
noncomputable def HBK (C:aI) (base:Nat) (fin:Ex × WSt→Option β) (k:List Frame) (a:Ann) (l:List aX) (d:Option Nat) (e:Env) (h:aJ) (n:Nat) (v:AV) (h1:aJ) (n1:Nat) (ok:Bool):Option β :=
 if ok=true then OK C base fin k a l ⟨dX e d v,over n (h1.filter fun x=>(aK h1 au v).contains x.1) h,n1⟩ else none
noncomputable def HK (C:aI) (base:Nat) (fin:Ex × WSt→Option β) (k:List Frame) (a:Ann) (l:List aX) (d:Option Nat) (e:Env) (h:aJ) (n:Nat) (db:Bool) (args:List AV) (r:Option (AV × aJ × Nat)):Option β :=
 ob r fun r=>if db=true then HBK C base fin k a l d e h n r.1 r.2.1 r.2.2 (pI r.2.1 r.1 (aK r.2.1 au r.1)) else OK C base fin k a l ⟨dX e d r.1,over n r.2.1 (bM h (aW h (args.flatMap (aK h au)))),r.2.2⟩
noncomputable def TK (C:aI) (base:Nat) (fin:Ex × WSt→Option β) (k:List Frame) (a:Ann) (l:List aX) (d:Option Nat) (e:Env) (h:aJ) (n:Nat) (f:Nat) (args az:List AV) (dp:Bool):Option β :=
 if dp=true then HK C base fin k a l d e h n (yD f) args (RnW C f az [] n) else FSK C base fin k a l d e h n (tZ f) args (iH (RnW C) f az (n - 1))
noncomputable def FPK (C:aI) (base:Nat) (fin:Ex × WSt→Option β) (k:List Frame) (a:Ann) (l:List aX) (d:Option Nat) (e:Env) (h:aJ) (n:Nat) (f:Nat) (args:List AV) (az:Option (List AV)):Option β :=
 ob az fun az=>TK C base fin k a l d e h n f args az (rW f)
noncomputable def IK (C:aI) (base:Nat) (fin:Ex × WSt→Option β) (k:List Frame) (a:Ann) (l:List aX) (d:Option Nat) (e:Env) (h:aJ) (n:Nat) (f:Nat) (args:List AV) (fr:Bool):Option β :=
 if fr=true then FPK C base fin k a l d e h n f args (bg (bJ h au) args) else WK C base fin k a l d e (RnW C f args h n)
noncomputable def FK (C:aI) (base:Nat) (fin:Ex × WSt→Option β) (k:List Frame) (a:Ann) (l:List aX) (d:Option Nat) (e:Env) (h:aJ) (n:Nat) (f:Nat) (args:List AV) (inl ptr:Bool):Option β :=
 if inl=true then IK C base fin k a l d e h n f args (JU f) else if ptr=true then WK C base fin k a l d e (RnW C f args h n) else PK C base fin k a l d e h n f args (bg (bJ h au) args)
noncomputable def QK (C:aI) (base:Nat) (fin:Ex × WSt→Option β) (k:List Frame) (a:Ann) (l:List aX) (d:Option Nat) (e:Env) (h:aJ) (n:Nat) (args:List AV) (g:AV):Option β :=
 match g with
 | .fn f caps=>FK C base fin k a l d e h n f (args++caps) (C.inl f) (!C.pp f&&bP (args++caps))
 | _=>none
abbrev RW:=Bool × List Nat × List Nat
def WY (d:jy):RW:=(d.bar,d.rd,d.wr)
def QY (d:RW):Bool:=!d.1&&(d.2.2.isEmpty&&d.2.1.isEmpty)
def aaG (a b:RW):Bool:=!(QY a||QY b)&&(if a.1=true then b.1||RZ a.2.1 a.2.2 b.2.1 b.2.2 else if b.1=true then RZ b.2.1 b.2.2 a.2.1 a.2.2 else (meets a.2.2 b.2.2||(meets a.2.2 b.2.1||meets a.2.1 b.2.2)))
def CS (ds:List RW) (p:Nat × Nat):Bool :=
 match ds[p.1]?,ds[p.2]? with
 | some a,some b=>!aaG a b
 | _,_=>false
noncomputable def EK (C:aI) (base:Nat) (fin:Ex × WSt→Option β) (k:List Frame) (a:Ann) (s:WSt) (ok:Bool):Option β :=
 if ok=true then AK C base fin k (oN base a s) else none
noncomputable def DK (C:aI) (base:Nat) (fin:Ex × WSt→Option β) (k:List Frame) (a:Ann) (un:List (Nat × Nat)) (l:List aX) (nid:Nat) (s:WSt) (ds:List RW):Option β :=
 ob (dZ C (RnW C) l nid s []) fun r=>EK C base fin k a r.1 (un.all (CS (ds++r.2.map WY)))
noncomputable def DSK (C:aI) (base:Nat) (fin:Ex × WSt→Option β) (k:List Frame) (a:Ann) (un:List (Nat × Nat)) (l:List aX) (nid:Nat) (d:Option Nat) (e:Env) (h:aJ) (n:Nat) (ds:List RW) (rd:List Nat) (x:Option (AV × dP)):Option β :=
 ob x fun x=>DK C base fin k a un l nid ⟨dX e d x.1,bM h x.2,n⟩ (ds++[(false,rd,x.2.map (·.1))])
noncomputable def DGK (C:aI) (base:Nat) (fin:Ex × WSt→Option β) (k:List Frame) (a:Ann) (un:List (Nat × Nat)) (l:List aX) (nid:Nat) (d:Option Nat) (op:COp) (g:Nat) (w:Bool) (e:Env) (h:aJ) (n:Nat) (ds:List RW) (v:Option AV):Option β :=
 match v with
 | some (.bool b)=>if b=w then DK C base fin k a un (⟨d,none,op⟩::l) nid ⟨pK e g (.bool w),h,n⟩ ds else DK C base fin k a un l (nid+1) ⟨dX (pK e g (.bool (!w))) d (.tup []),h,n⟩ (ds++[(false,[],[])])
 | some (.tup [])=>DK C base fin k a un l (nid+1) ⟨dX e d (.tup []),h,n⟩ (ds++[(false,[],[])])
 | _=>none
noncomputable def DVK (C:aI) (base:Nat) (fin:Ex × WSt→Option β) (k:List Frame) (a:Ann) (un:List (Nat × Nat)) (l:List aX) (nid:Nat) (d:Option Nat) (e:Env) (h:aJ) (n:Nat) (ds:List RW) (args:List AV) (v:Option AV):Option β :=
 ob v fun v=>DK C base fin k a un l nid ⟨dX e d v,bM h (oW h args v),n⟩ (ds++[(false,args.flatMap (aK h au),(oW h args v).map (·.1))])
noncomputable def DWK (C:aI) (base:Nat) (fin:Ex × WSt→Option β) (k:List Frame) (a:Ann) (un:List (Nat × Nat)) (l:List aX) (nid:Nat) (d:Option Nat) (e:Env) (ds:List RW) (r:Option (AV × aJ × Nat)):Option β :=
 ob r fun r=>DK C base fin k a un l nid ⟨dX e d r.1,r.2.1,r.2.2⟩ (ds++[(true,[],[])])
noncomputable def DPK (C:aI) (base:Nat) (fin:Ex × WSt→Option β) (k:List Frame) (a:Ann) (un:List (Nat × Nat)) (l:List aX) (nid:Nat) (d:Option Nat) (e:Env) (h:aJ) (n:Nat) (ds:List RW) (f:Nat) (args:List AV) (az:Option (List AV)):Option β :=
 ob az fun az=>DVK C base fin k a un l nid d e h n ds args (FnW C f az)
noncomputable def ad6 (C:aI) (base:Nat) (fin:Ex × WSt→Option β) (k:List Frame) (a:Ann) (un:List (Nat × Nat)) (l:List aX) (nid:Nat) (d:Option Nat) (e:Env) (h:aJ) (n:Nat) (ds:List RW) (args:List AV) (v:AV) (u:dP) (ok:Bool):Option β :=
 if ok=true then DK C base fin k a un l nid ⟨dX e d v,bM h u,n⟩ (ds++[(false,args.flatMap (aK h au),u.map (·.1))]) else none
noncomputable def Zo (C:aI) (base:Nat) (fin:Ex × WSt→Option β) (k:List Frame) (a:Ann) (un:List (Nat × Nat)) (l:List aX) (nid:Nat) (d:Option Nat) (e:Env) (h:aJ) (n:Nat) (ds:List RW) (br:Bool) (args:List AV) (x:Option (AV × dP)):Option β :=
 ob x fun x=>if br=true then ad6 C base fin k a un l nid d e h n ds args x.1 x.2 (nG x) else DK C base fin k a un l nid ⟨dX e d x.1,bM h (aW h (args.flatMap (aK h au))++x.2),n⟩ (ds++[(false,args.flatMap (aK h au),(aW h (args.flatMap (aK h au))++x.2).map (·.1))])
noncomputable def afj (C:aI) (base:Nat) (fin:Ex × WSt→Option β) (k:List Frame) (a:Ann) (un:List (Nat × Nat)) (l:List aX) (nid:Nat) (d:Option Nat) (e:Env) (h:aJ) (n:Nat) (ds:List RW) (args:List AV) (v:AV) (h1:aJ) (n1:Nat) (ok:Bool):Option β :=
 if ok=true then DK C base fin k a un l nid ⟨dX e d v,over n (h1.filter fun x=>(aK h1 au v).contains x.1) h,n1⟩ (ds++[(true,args.flatMap (aK h au),[n])]) else none
noncomputable def DHK (C:aI) (base:Nat) (fin:Ex × WSt→Option β) (k:List Frame) (a:Ann) (un:List (Nat × Nat)) (l:List aX) (nid:Nat) (d:Option Nat) (e:Env) (h:aJ) (n:Nat) (ds:List RW) (db:Bool) (args:List AV) (r:Option (AV × aJ × Nat)):Option β :=
 ob r fun r=>if db=true then afj C base fin k a un l nid d e h n ds args r.1 r.2.1 r.2.2 (pI r.2.1 r.1 (aK r.2.1 au r.1)) else DK C base fin k a un l nid ⟨dX e d r.1,over n r.2.1 (bM h (aW h (args.flatMap (aK h au)))),r.2.2⟩ (ds++[(true,args.flatMap (aK h au),n::(aW h (args.flatMap (aK h au))).map (·.1))])
noncomputable def DTK (C:aI) (base:Nat) (fin:Ex × WSt→Option β) (k:List Frame) (a:Ann) (un:List (Nat × Nat)) (l:List aX) (nid:Nat) (d:Option Nat) (e:Env) (h:aJ) (n:Nat) (ds:List RW) (f:Nat) (args az:List AV) (dp:Bool):Option β :=
 if dp=true then DHK C base fin k a un l nid d e h n ds (yD f) args (RnW C f az [] n) else Zo C base fin k a un l nid d e h n ds (tZ f) args (iH (RnW C) f az (nid - 1))
noncomputable def aep (C:aI) (base:Nat) (fin:Ex × WSt→Option β) (k:List Frame) (a:Ann) (un:List (Nat × Nat)) (l:List aX) (nid:Nat) (d:Option Nat) (e:Env) (h:aJ) (n:Nat) (ds:List RW) (f:Nat) (args:List AV) (az:Option (List AV)):Option β :=
 ob az fun az=>DTK C base fin k a un l nid d e h n ds f args az (rW f)
noncomputable def DIK (C:aI) (base:Nat) (fin:Ex × WSt→Option β) (k:List Frame) (a:Ann) (un:List (Nat × Nat)) (l:List aX) (nid:Nat) (d:Option Nat) (e:Env) (h:aJ) (n:Nat) (ds:List RW) (f:Nat) (args:List AV) (fr:Bool):Option β :=
 if fr=true then aep C base fin k a un l nid d e h n ds f args (bg (bJ h au) args) else DWK C base fin k a un l nid d e ds (RnW C f args h n)
noncomputable def DFK (C:aI) (base:Nat) (fin:Ex × WSt→Option β) (k:List Frame) (a:Ann) (un:List (Nat × Nat)) (l:List aX) (nid:Nat) (d:Option Nat) (e:Env) (h:aJ) (n:Nat) (ds:List RW) (f:Nat) (args:List AV) (inl ptr:Bool):Option β :=
 if inl=true then DIK C base fin k a un l nid d e h n ds f args (JU f) else if ptr=true then DWK C base fin k a un l nid d e ds (RnW C f args h n) else DPK C base fin k a un l nid d e h n ds f args (bg (bJ h au) args)
noncomputable def DQK (C:aI) (base:Nat) (fin:Ex × WSt→Option β) (k:List Frame) (a:Ann) (un:List (Nat × Nat)) (l:List aX) (nid:Nat) (d:Option Nat) (e:Env) (h:aJ) (n:Nat) (ds:List RW) (args:List AV) (g:AV):Option β :=
 match g with
 | .fn f caps=>DFK C base fin k a un l nid d e h n ds f (args++caps) (C.inl f) (!C.pp f&&bP (args++caps))
 | _=>none
def aT (res:List uO) (r:Ex × WSt):Option AV:=ob (kS res r) fun r=>bJ r.2.1 au r.1
end
section
variable {β:Type} {C:aI} {base:Nat} {fin:Ex × WSt→Option β} {k:List Frame}
theorem jm {α γ δ:Type} (x:Option α) (f:α→Option γ) (g:γ→Option δ):ob (ob x f) g=ob x fun a=>ob (f a) g:=by cases x <;> rfl
theorem Jk {α γ δ:Type} (x:Option α) (f:α→γ) (g:γ→Option δ):ob (om x f) g=ob x fun a=>g (f a):=by cases x <;> rfl
theorem ajm (a b:aB) (s:WSt):CK C base fin k (.seq a b) s=CK C base fin (.sq b::k) a s:=by
 unfold CK;rw [qM];simp only [RK,jm]
theorem ae6 (s:WSt):CK C base fin k .skip s=NK C base fin k .norm s:=by unfold CK NK;rw [U8];rfl
theorem aeY (i:Nat) (s:WSt):CK C base fin k (.exit i) s=NK C base fin k (.exit i) s:=by unfold CK NK;rw [Vg];rfl
theorem agC (n:Nat) (s:WSt):CK C base fin k (.vG n) s=ob (o7 n (dF (oM n) 0 s.env)) fun v=>NK C base fin k .ret ⟨uQ s.env 9 v,s.heap,s.next⟩:=by
 unfold CK NK
 rw [Ut]
 cases o7 n (dF (oM n) 0 s.env) <;> rfl
theorem aj3 (s:WSt):CK C base fin k .ret s=NK C base fin k .ret s:=by unfold CK NK;rw [aaJ];rfl
theorem afv (c:Opd) (a b:aB) (s:WSt):CK C base fin k (.cond c a b) s=OJ C base fin k a b s (c.ev s.env):=by
 unfold CK OJ;rw [UN];unfold qj
 cases c.ev s.env <;> try rfl
 rename_i t;cases t <;> rfl
theorem aaq (id:Nat) (b:aB) (a:Ann) (s:WSt):CK C base fin k (.block id b a) s=CK C base fin (.bk id a::k) b s:=by
 unfold CK;rw [Gx];simp only [RK,jm]
theorem bn {L:aB} {a:Ann} {b:aB} {s:WSt} (hL:L=.loop a b):CK C base fin k L s=LK C base fin (.sq L::k) b (canon base a s):=by
 subst hL;unfold CK LK CK;rw [FD];simp only [RK,jm]
theorem aj {c c':aB} {s:WSt} (hc:c=c'):CK C base fin k c s=CK C base fin k c' s:=by rw [hc]
theorem aiq (l:List aX) (a:Ann) (s:WSt):CK C base fin k (.ops l a) s=OK C base fin k a l s:=by
 unfold CK OK AK NK;rw [aan];simp only [jm,Jk]
theorem agT (l:List aX) (un:List (Nat × Nat)) (a:Ann) (e:Env) (h:aJ) (n:Nat):CK C base fin k (.draw l un a) ⟨e,h,n⟩=DK C base fin k a un l n ⟨e,h,n+l.length⟩ []:=by
 unfold CK DK EK AK NK;rw [Ve];simp only [jm]
 have:∀ r:WSt × List jy,(ob (rC base un a r) fun r=>ob (RK C base k r) fin)=(if (un.all (CS ([]++r.2.map WY)))=true then ob (oN base a r.1) fun s=>ob (RK C base k (.norm,s)) fin else none):=by
  rintro ⟨s,ds⟩
  have e1:un.all (FX ds)=un.all (CS ([]++ds.map WY)):=by
   congr 1
   funext p
   simp only [FX,CS,List.nil_append,List.getElem?_map]
   cases ds[p.1]? <;> cases ds[p.2]? <;> rfl
  simp only [rC,e1]
  split
  · simp only [Jk]
  · rfl
 simp only [this]
theorem aiI (ex:Ex) (s:WSt):NK C base fin [] ex s=fin (ex,s):=rfl
theorem ak3 (b:aB) (s:WSt):NK C base fin (.sq b::k) .norm s=CK C base fin k b s:=by unfold NK CK;simp only [RK,dY,jm]
theorem TD (b:aB) (i:Nat) (s:WSt):NK C base fin (.sq b::k) (.exit i) s=NK C base fin k (.exit i) s:=by unfold NK;simp only [RK,dY,ob]
theorem XT (b:aB) (s:WSt):NK C base fin (.sq b::k) .ret s=NK C base fin k .ret s:=by unfold NK;simp only [RK,dY,ob]
theorem Ul (a:Ann) (b:aB) (i:Nat) (s:WSt):NK C base fin (.lp a b::k) (.exit i) s=NK C base fin k (.exit i) s:=by unfold NK;simp only [RK,dY,ob]
theorem Xr (a:Ann) (b:aB) (s:WSt):NK C base fin (.lp a b::k) .ret s=NK C base fin k .ret s:=by unfold NK;simp only [RK,dY,ob]
theorem alA (id:Nat) (a:Ann) (s:WSt):NK C base fin (.bk id a::k) .norm s=AK C base fin k (canon base a s):=by unfold NK AK NK;simp only [RK,jo,jm,Jk]
theorem SC (id:Nat) (a:Ann) (i:Nat) (s:WSt):NK C base fin (.bk id a::k) (.exit i) s=if i=id then AK C base fin k (canon base a s) else NK C base fin k (.exit i) s:=by
 unfold NK AK NK;simp only [RK,jo]
 split
 · simp only [jm,Jk]
 · rfl
theorem Yp (id:Nat) (a:Ann) (s:WSt):NK C base fin (.bk id a::k) .ret s=NK C base fin k .ret s:=by unfold NK;simp only [RK,jo,ob]
theorem adK (s:WSt):AK C base fin k (some s)=NK C base fin k .norm s:=rfl
theorem afC (b:aB) (s:WSt):LK C base fin k b (some s)=CK C base fin k b s:=rfl
theorem TR (a b:aB) (s:WSt):OJ C base fin k a b s (.bool true)=CK C base fin k a s:=rfl
theorem Ox (a b:aB) (s:WSt):OJ C base fin k a b s (.bool false)=CK C base fin k b s:=rfl
theorem RN (a b:aB) (s:WSt) (t:Bool):OJ C base fin k a b s (.bool t)=if t=true then CK C base fin k a s else CK C base fin k b s:=rfl
variable {a:Ann} {l:List aX} {d:Option Nat} {e:Env} {h:aJ} {n:Nat}
theorem ajg (s:WSt):OK C base fin k a [] s=AK C base fin k (oN base a s):=rfl
theorem bH {op:COp} (hc:callOf e op=some none):OK C base fin k a (⟨d,none,op⟩::l) ⟨e,h,n⟩=SK C base fin k a l d e h (n+1) (stepW op e h n):=by
 unfold OK SK OK
 simp only [gB,fH,wants,iM,hc]
 cases stepW op e h n <;> rfl
theorem AL (v:AV) (u:dP):SK C base fin k a l d e h n (some (v,u))=OK C base fin k a l ⟨dX e d v,bM h u,n⟩:=rfl
theorem xI:∀ {e:Env} {g:Nat} {v:AV},get e g=some v→pK e g v=e:=by
 intro e
 induction e with
 | nil=>intro g v h;rfl
 | cons x e ih =>
  intro g v hg
  obtain ⟨j,u⟩:=x
  simp only [Pav.get] at hg
  simp only [pK]
  split at hg
  · rename_i hj;cases hg;rw [if_pos hj]
  · rename_i hj;rw [if_neg hj,ih hg]
theorem agR {op:COp} {g:Nat} {w b:Bool}:GK C base fin k a l d op g w e h n (some (.bool b))=if b=w then OK C base fin k a (⟨d,none,op⟩::l) ⟨pK e g (.bool w),h,n⟩ else OK C base fin k a l ⟨dX (pK e g (.bool (!w))) d (.tup []),h,n+1⟩:=rfl
theorem LY {op:COp} {g:Nat}:GK C base fin k a l d op g true e h n (some (.bool true))=OK C base fin k a (⟨d,none,op⟩::l) ⟨pK e g (.bool true),h,n⟩:=rfl
theorem GN {op:COp} {g:Nat}:GK C base fin k a l d op g false e h n (some (.bool false))=OK C base fin k a (⟨d,none,op⟩::l) ⟨pK e g (.bool false),h,n⟩:=rfl
theorem Io {op:COp} {g:Nat}:GK C base fin k a l d op g true e h n (some (.bool false))=OK C base fin k a l ⟨dX (pK e g (.bool false)) d (.tup []),h,n+1⟩:=rfl
theorem Il {op:COp} {g:Nat}:GK C base fin k a l d op g false e h n (some (.bool true))=OK C base fin k a l ⟨dX (pK e g (.bool true)) d (.tup []),h,n+1⟩:=rfl
theorem aik {op:COp} {g:Nat} {w:Bool}:GK C base fin k a l d op g w e h n (some (.tup []))=OK C base fin k a l ⟨dX e d (.tup []),h,n+1⟩:=rfl
theorem YZ {op:COp} {g:Nat} {w:Bool}:OK C base fin k a (⟨d,some (g,w),op⟩::l) ⟨e,h,n⟩=GK C base fin k a l d op g w e h n (get e g):=by
 unfold OK GK
 simp only [gB,fH,wants]
 cases hg:get e g with
 | none=>rfl
 | some v =>
  cases v with
  | bool b =>
   simp only
   by_cases hw:b=w
   · subst hw
     rw [xI hg,if_pos rfl]
     simp only [OK,gB,fH,wants,beq_self_eq_true]
   · have e1:(b == w)=false:=by simpa using hw
     have e2:(!w)=b:=by cases b <;> cases w <;> simp_all
     rw [if_neg hw,e2,xI hg]
     simp only [e1,ob,OK]
  | tup vs =>
   cases vs with
   | nil=>rfl
   | cons _ _=>rfl
  | _=>rfl
theorem afs {args:List AV} (v:AV):VK C base fin k a l d e h n args (some v)=OK C base fin k a l ⟨dX e d v,bM h (oW h args v),n⟩:=rfl
theorem af8 (r:AV × aJ × Nat):WK C base fin k a l d e (some r)=OK C base fin k a l ⟨dX e d r.1,r.2.1,r.2.2⟩:=rfl
theorem adN {f:Nat} {args:List AV} (az:List AV):PK C base fin k a l d e h n f args (some az)=VK C base fin k a l d e h n args (FnW C f az):=rfl
theorem agN {f:Nat} {args:List AV}:FK C base fin k a l d e h n f args false false=PK C base fin k a l d e h n f args (bg (bJ h au) args):=rfl
theorem aiy {f:Nat} {args:List AV} {p:Bool}:FK C base fin k a l d e h n f args true p=IK C base fin k a l d e h n f args (JU f):=rfl
theorem YX {f:Nat} {args:List AV}:IK C base fin k a l d e h n f args false=WK C base fin k a l d e (RnW C f args h n):=rfl
theorem afl {f:Nat} {args:List AV}:IK C base fin k a l d e h n f args true=FPK C base fin k a l d e h n f args (bg (bJ h au) args):=rfl
theorem ZH {f:Nat} {args:List AV} (az:List AV):FPK C base fin k a l d e h (n+1) f args (some az)=TK C base fin k a l d e h (n+1) f args az (rW f):=rfl
theorem acS {f:Nat} {args az:List AV}:TK C base fin k a l d e h (n+1) f args az false=FSK C base fin k a l d e h (n+1) (tZ f) args (iH (RnW C) f az n):=rfl
theorem agk {f:Nat} {args az:List AV}:TK C base fin k a l d e h n f args az true=HK C base fin k a l d e h n (yD f) args (RnW C f az [] n):=rfl
theorem ace (v:AV) (h1:aJ) (n1:Nat):HBK C base fin k a l d e h n v h1 n1 true=OK C base fin k a l ⟨dX e d v,over n (h1.filter fun x=>(aK h1 au v).contains x.1) h,n1⟩:=rfl
theorem af4 {args:List AV} (r:AV × aJ × Nat):HK C base fin k a l d e h n true args (some r)=HBK C base fin k a l d e h n r.1 r.2.1 r.2.2 (pI r.2.1 r.1 (aK r.2.1 au r.1)):=rfl
theorem agf {args:List AV} (r:AV × aJ × Nat):HK C base fin k a l d e h n false args (some r)=OK C base fin k a l ⟨dX e d r.1,over n r.2.1 (bM h (aW h (args.flatMap (aK h au)))),r.2.2⟩:=rfl
theorem YS (v:AV) (u:dP):BSK C base fin k a l d e h n v u true=OK C base fin k a l ⟨dX e d v,bM h u,n⟩:=rfl
theorem aa0 {args:List AV} (v:AV) (u:dP):FSK C base fin k a l d e h n true args (some (v,u))=BSK C base fin k a l d e h n v u (nG (v,u)):=rfl
theorem aag {args:List AV} (v:AV) (u:dP):FSK C base fin k a l d e h n false args (some (v,u))=OK C base fin k a l ⟨dX e d v,bM h (aW h (args.flatMap (aK h au))++u),n⟩:=rfl
theorem aie {f:Nat} {args:List AV}:FK C base fin k a l d e h n f args false true=WK C base fin k a l d e (RnW C f args h n):=rfl
theorem ald {f:Nat} {args caps:List AV}:QK C base fin k a l d e h n args (.fn f caps)=FK C base fin k a l d e h n f (args++caps) (C.inl f) (!C.pp f&&bP (args++caps)):=rfl
theorem ahq {f:Nat} {args:List AV}:(ob (om (gW C (RnW C) f args h (n - 1) n) (iU h n args)) fun r=>OK C base fin k a l ⟨dX e d r.v,r.h,r.n⟩)=FK C base fin k a l d e h n f args (C.inl f) (!C.pp f&&bP args):=by
 unfold FK gW IK FPK TK HK FSK WK PK VK FnW
 split
 · split
   · cases bg (bJ h au) args with
     | none=>rfl
     | some az =>
      simp only [ob]
      by_cases hdp:rW f=true
      · simp only [if_pos hdp]
        cases RnW C f az [] n with
        | none=>rfl
        | some r =>
         simp only [wJ,NM]
         by_cases hdb:yD f=true
         · simp only [if_pos hdb]
           unfold HBK
           by_cases hk:pI r.2.1 r.1 (aK r.2.1 au r.1)=true
           · simp only [if_pos hk];rfl
           · simp only [if_neg hk];rfl
         · simp only [if_neg hdb];rfl
      simp only [if_neg hdp]
      cases iH (RnW C) f az (n - 1) with
      | none=>rfl
      | some x =>
       dsimp only [ob]
       unfold wP xM BSK
       cases tZ f
       · rfl
       · cases nG x <;> rfl
   · cases RnW C f args h n <;> rfl
 · split
   · cases RnW C f args h n <;> rfl
   · cases bg (bJ h au) args with
     | none=>rfl
     | some az =>
      simp only [ob]
      cases fU (RnW C) f az <;> rfl
theorem ad3 {f:Nat} {xs:List Opd}:OK C base fin k a (⟨d,none,.call f xs⟩::l) ⟨e,h,n⟩=FK C base fin k a l d e h (n+1) f (xs.map fun x=>x.ev e) (C.inl f) (!C.pp f&&bP (xs.map fun x=>x.ev e)):=by
 rw [← ahq]
 unfold OK
 simp only [gB,fH,wants,iM,callOf,jm,Nat.add_sub_cancel]
theorem ZK {g:Opd} {xs:List Opd}:OK C base fin k a (⟨d,none,.eu g xs⟩::l) ⟨e,h,n⟩=QK C base fin k a l d e h (n+1) (xs.map fun x=>x.ev e) (g.ev e):=by
 unfold QK
 cases hg:g.ev e with
 | fn f caps =>
  simp only
  rw [← ahq]
  unfold OK
  simp only [gB,fH,wants,iM,callOf,hg,jm,Nat.add_sub_cancel]
 | _ =>
  unfold OK
  simp only [gB,fH,wants,iM,callOf,hg]
  rfl
variable {un:List (Nat × Nat)} {nid:Nat} {ds:List RW}
theorem Pn {r:rD}:∀ (l:List aX) (nid:Nat) (s:WSt) (ds:List jy),dZ C r l nid s ds=om (dZ C r l nid s []) fun x=>(x.1,ds++x.2):=by
 intro l
 induction l with
 | nil=>intro nid s ds;simp [dZ,om]
 | cons o l ih =>
  intro nid s ds
  simp only [dZ]
  cases fH C r o nid s.env s.heap s.next with
  | none=>rfl
  | some d =>
   simp only [ob]
   rw [ih,ih _ _ ([]++[d])]
   cases dZ C r l (nid+1) _ [] <;> simp [om]
theorem akh (s:WSt):DK C base fin k a un [] nid s ds=EK C base fin k a s (un.all (CS ds)):=by
 unfold DK;simp only [dZ,ob,List.map_nil,List.append_nil]
theorem aek (s:WSt):EK C base fin k a s true=AK C base fin k (oN base a s):=rfl
theorem mG {o:aX} {s:WSt}:DK C base fin k a un (o::l) nid s ds=ob (fH C (RnW C) o nid s.env s.heap s.next) fun x=>DK C base fin k a un l (nid+1) ⟨dX s.env o.dst x.v,x.h,x.n⟩ (ds++[WY x]):=by
 unfold DK
 simp only [dZ,jm]
 congr 1
 funext x
 rw [Pn]
 simp only [Jk,List.nil_append,List.map_append,List.map_cons,List.map_nil,List.append_assoc]
theorem bI {op:COp} (hc:callOf e op=some none):DK C base fin k a un (⟨d,none,op⟩::l) nid ⟨e,h,n⟩ ds=DSK C base fin k a un l (nid+1) d e h n ds (readsOf e op) (stepW op e h nid):=by
 rw [mG]
 unfold DSK
 simp only [fH,wants,iM,hc,Jk]
 rfl
theorem aad {rd:List Nat} (v:AV) (u:dP):DSK C base fin k a un l nid d e h n ds rd (some (v,u))=DK C base fin k a un l nid ⟨dX e d v,bM h u,n⟩ (ds++[(false,rd,u.map (·.1))]):=rfl
theorem Y7 {op:COp} {g:Nat} {w b:Bool}:DGK C base fin k a un l nid d op g w e h n ds (some (.bool b))=if b=w then DK C base fin k a un (⟨d,none,op⟩::l) nid ⟨pK e g (.bool w),h,n⟩ ds else DK C base fin k a un l (nid+1) ⟨dX (pK e g (.bool (!w))) d (.tup []),h,n⟩ (ds++[(false,[],[])]):=rfl
theorem Ik {op:COp} {g:Nat}:DGK C base fin k a un l nid d op g true e h n ds (some (.bool true))=DK C base fin k a un (⟨d,none,op⟩::l) nid ⟨pK e g (.bool true),h,n⟩ ds:=rfl
theorem DW {op:COp} {g:Nat}:DGK C base fin k a un l nid d op g false e h n ds (some (.bool false))=DK C base fin k a un (⟨d,none,op⟩::l) nid ⟨pK e g (.bool false),h,n⟩ ds:=rfl
theorem FQ {op:COp} {g:Nat}:DGK C base fin k a un l nid d op g true e h n ds (some (.bool false))=DK C base fin k a un l (nid+1) ⟨dX (pK e g (.bool false)) d (.tup []),h,n⟩ (ds++[(false,[],[])]):=rfl
theorem Ht {op:COp} {g:Nat}:DGK C base fin k a un l nid d op g false e h n ds (some (.bool true))=DK C base fin k a un l (nid+1) ⟨dX (pK e g (.bool true)) d (.tup []),h,n⟩ (ds++[(false,[],[])]):=rfl
theorem ad2 {op:COp} {g:Nat} {w:Bool}:DGK C base fin k a un l nid d op g w e h n ds (some (.tup []))=DK C base fin k a un l (nid+1) ⟨dX e d (.tup []),h,n⟩ (ds++[(false,[],[])]):=rfl
theorem aar {op:COp} {g:Nat} {w:Bool}:DK C base fin k a un (⟨d,some (g,w),op⟩::l) nid ⟨e,h,n⟩ ds=DGK C base fin k a un l nid d op g w e h n ds (get e g):=by
 unfold DGK
 cases hg:get e g with
 | none=>rw [mG];simp only [fH,wants,hg];rfl
 | some v =>
  cases v with
  | bool b =>
   simp only
   by_cases hw:b=w
   · subst hw
     rw [xI hg,if_pos rfl,mG,mG]
     simp only [fH,wants,hg,beq_self_eq_true]
   · have e1:(b == w)=false:=by simpa using hw
     have e2:(!w)=b:=by cases b <;> cases w <;> simp_all
     rw [if_neg hw,e2,xI hg,mG]
     simp only [fH,wants,hg,e1,ob,WY]
  | tup vs =>
   cases vs with
   | nil=>rw [mG];simp only [fH,wants,hg];rfl
   | cons _ _=>rw [mG];simp only [fH,wants,hg];rfl
  | _=>rw [mG];simp only [fH,wants,hg];rfl
theorem ZY {args:List AV} (v:AV):DVK C base fin k a un l nid d e h n ds args (some v)=DK C base fin k a un l nid ⟨dX e d v,bM h (oW h args v),n⟩ (ds++[(false,args.flatMap (aK h au),(oW h args v).map (·.1))]):=rfl
theorem Zr (r:AV × aJ × Nat):DWK C base fin k a un l nid d e ds (some r)=DK C base fin k a un l nid ⟨dX e d r.1,r.2.1,r.2.2⟩ (ds++[(true,[],[])]):=rfl
theorem YQ {f:Nat} {args:List AV} (az:List AV):DPK C base fin k a un l nid d e h n ds f args (some az)=DVK C base fin k a un l nid d e h n ds args (FnW C f az):=rfl
theorem abe {f:Nat} {args:List AV}:DFK C base fin k a un l nid d e h n ds f args false false=DPK C base fin k a un l nid d e h n ds f args (bg (bJ h au) args):=rfl
theorem adT {f:Nat} {args:List AV} {p:Bool}:DFK C base fin k a un l nid d e h n ds f args true p=DIK C base fin k a un l nid d e h n ds f args (JU f):=rfl
theorem Yj {f:Nat} {args:List AV}:DIK C base fin k a un l nid d e h n ds f args false=DWK C base fin k a un l nid d e ds (RnW C f args h n):=rfl
theorem abJ {f:Nat} {args:List AV}:DIK C base fin k a un l nid d e h n ds f args true=aep C base fin k a un l nid d e h n ds f args (bg (bJ h au) args):=rfl
theorem Xo {f:Nat} {args:List AV} (az:List AV):aep C base fin k a un l nid d e h n ds f args (some az)=DTK C base fin k a un l nid d e h n ds f args az (rW f):=rfl
theorem Xh {f:Nat} {args az:List AV}:DTK C base fin k a un l nid d e h n ds f args az false=Zo C base fin k a un l nid d e h n ds (tZ f) args (iH (RnW C) f az (nid - 1)):=rfl
theorem aaY {f:Nat} {args az:List AV}:DTK C base fin k a un l nid d e h n ds f args az true=DHK C base fin k a un l nid d e h n ds (yD f) args (RnW C f az [] n):=rfl
theorem WO {args:List AV} (v:AV) (h1:aJ) (n1:Nat):afj C base fin k a un l nid d e h n ds args v h1 n1 true=DK C base fin k a un l nid ⟨dX e d v,over n (h1.filter fun x=>(aK h1 au v).contains x.1) h,n1⟩ (ds++[(true,args.flatMap (aK h au),[n])]):=rfl
theorem acU {args:List AV} (r:AV × aJ × Nat):DHK C base fin k a un l nid d e h n ds true args (some r)=afj C base fin k a un l nid d e h n ds args r.1 r.2.1 r.2.2 (pI r.2.1 r.1 (aK r.2.1 au r.1)):=rfl
theorem aaC {args:List AV} (r:AV × aJ × Nat):DHK C base fin k a un l nid d e h n ds false args (some r)=DK C base fin k a un l nid ⟨dX e d r.1,over n r.2.1 (bM h (aW h (args.flatMap (aK h au)))),r.2.2⟩ (ds++[(true,args.flatMap (aK h au),n::(aW h (args.flatMap (aK h au))).map (·.1))]):=rfl
theorem WL {args:List AV} (v:AV) (u:dP):ad6 C base fin k a un l nid d e h n ds args v u true=DK C base fin k a un l nid ⟨dX e d v,bM h u,n⟩ (ds++[(false,args.flatMap (aK h au),u.map (·.1))]):=rfl
theorem XO {args:List AV} (v:AV) (u:dP):Zo C base fin k a un l nid d e h n ds true args (some (v,u))=ad6 C base fin k a un l nid d e h n ds args v u (nG (v,u)):=rfl
theorem Xv {args:List AV} (v:AV) (u:dP):Zo C base fin k a un l nid d e h n ds false args (some (v,u))=DK C base fin k a un l nid ⟨dX e d v,bM h (aW h (args.flatMap (aK h au))++u),n⟩ (ds++[(false,args.flatMap (aK h au),(aW h (args.flatMap (aK h au))++u).map (·.1))]):=rfl
theorem agM {f:Nat} {args:List AV}:DFK C base fin k a un l nid d e h n ds f args false true=DWK C base fin k a un l nid d e ds (RnW C f args h n):=rfl
theorem ahO {f:Nat} {args caps:List AV}:DQK C base fin k a un l nid d e h n ds args (.fn f caps)=DFK C base fin k a un l nid d e h n ds f (args++caps) (C.inl f) (!C.pp f&&bP (args++caps)):=rfl
theorem ZM {f:Nat} {args:List AV}:(ob (om (gW C (RnW C) f args h (nid - 1) n) (iU h n args)) fun r=>DK C base fin k a un l nid ⟨dX e d r.v,r.h,r.n⟩ (ds++[WY r]))=DFK C base fin k a un l nid d e h n ds f args (C.inl f) (!C.pp f&&bP args):=by
 unfold DFK gW DIK aep DTK DHK Zo DWK DPK DVK FnW
 split
 · split
   · cases bg (bJ h au) args with
     | none=>rfl
     | some az =>
      simp only [ob]
      by_cases hdp:rW f=true
      · simp only [if_pos hdp]
        cases RnW C f az [] n with
        | none=>rfl
        | some r =>
         simp only [wJ,NM]
         by_cases hdb:yD f=true
         · simp only [if_pos hdb]
           unfold afj
           by_cases hk:pI r.2.1 r.1 (aK r.2.1 au r.1)=true
           · simp only [if_pos hk];rfl
           · simp only [if_neg hk];rfl
         · simp only [if_neg hdb];rfl
      simp only [if_neg hdp]
      cases iH (RnW C) f az (nid - 1) with
      | none=>rfl
      | some x =>
       dsimp only [ob]
       unfold wP xM ad6
       cases tZ f
       · rfl
       · cases nG x <;> rfl
   · cases RnW C f args h n <;> rfl
 · split
   · cases RnW C f args h n <;> rfl
   · cases bg (bJ h au) args with
     | none=>rfl
     | some az =>
      simp only [ob]
      cases fU (RnW C) f az <;> rfl
theorem afh {f:Nat} {xs:List Opd}:DK C base fin k a un (⟨d,none,.call f xs⟩::l) nid ⟨e,h,n⟩ ds=DFK C base fin k a un l (nid+1) d e h n ds f (xs.map fun x=>x.ev e) (C.inl f) (!C.pp f&&bP (xs.map fun x=>x.ev e)):=by
 rw [← ZM,mG]
 simp only [fH,wants,iM,callOf,Nat.add_sub_cancel]
theorem Zg {g:Opd} {xs:List Opd}:DK C base fin k a un (⟨d,none,.eu g xs⟩::l) nid ⟨e,h,n⟩ ds=DQK C base fin k a un l (nid+1) d e h n ds (xs.map fun x=>x.ev e) (g.ev e):=by
 unfold DQK
 rw [mG]
 cases hg:g.ev e with
 | fn f caps =>
  simp only
  rw [← ZM]
  simp only [fH,wants,iM,callOf,hg,Nat.add_sub_cancel]
 | _ =>
  simp only [fH,wants,iM,callOf,hg]
  rfl
theorem aF {f:Nat} {fn:WFn} (hf:C.fns.get f=some fn) {args:List AV} (hl:args.length=fn.np):FnW C f args=CK C 0 (aT fn.res) [] fn.body ⟨Gt 0 args [],[],0⟩:=by
 unfold FnW fU RnW dQ CK aT
 rw [hf]
 simp only [ob,if_pos hl,RK]
 cases CdW C 0 fn.body ⟨Gt 0 args [],[],0⟩ with
 | none=>rfl
 | some r=>rfl
theorem um {f:Nat} {fn:WFn} (hf:C.fns.get f=some fn) {args:List AV} (hl:args.length=fn.np) (h:aJ) (n:Nat):RnW C f args h n=CK C n (kS fn.res) [] fn.body ⟨Gt 0 args [],h,n⟩:=by
 unfold RnW dQ CK
 rw [hf]
 simp only [ob,if_pos hl,RK]
end
end Go.Pw
end
section
set_option linter.unusedSimpArgs false
set_option linter.unusedVariables false
namespace Go.Pw
open Go Go.Pav
attribute [simp] agC o7 kH oM dF ajm ae6 aeY aj3 afv aaq aiq agT aiI ak3 TD XT Ul Xr alA SC Yp adK afC
 ajg AL aik YZ afs af8 adN agN aiy aie ald ad3 ZK akh aek aad ad2 aar ZY Zr YQ abe adT agM ahO afh Zg YX afl ZH aag aa0 YS XO WL tZ nG TP gY nO Yj abJ Xo Xv JU rW acS agk agf af4 ace Xh aaY aaC acU WO yD pI jF cO qo
attribute [simp high] TR Ox LY GN Io Il Ik DW FQ Ht
attribute [simp low] RN agR Y7
section
variable {β:Type} {C:aI} {base:Nat} {fin:Ex × WSt→Option β} {k:List Frame} {a:Ann} {l:List aX} {d:Option Nat} {e:Env} {h:aJ} {n:Nat} {un:List (Nat × Nat)} {nid:Nat} {ds:List RW}
@[simp] theorem asu {x:Opd}:OK C base fin k a (⟨d,none,.mv x⟩::l) ⟨e,h,n⟩=OK C base fin k a l ⟨dX e d (x.ev e),h,n+1⟩:=by rw [bH rfl];rfl
@[simp] theorem anv {c x y:Opd}:OK C base fin k a (⟨d,none,.pick c x y⟩::l) ⟨e,h,n⟩=SK C base fin k a l d e h (n+1) (stepW (.pick c x y) e h n):=bH rfl
@[simp] theorem alF {z:List AV}:OK C base fin k a (⟨d,none,.alloc z⟩::l) ⟨e,h,n⟩=SK C base fin k a l d e h (n+1) (stepW (.alloc z) e h n):=bH rfl
@[simp] theorem ape {x:Opd}:OK C base fin k a (⟨d,none,.box x⟩::l) ⟨e,h,n⟩=SK C base fin k a l d e h (n+1) (stepW (.box x) e h n):=bH rfl
@[simp] theorem akO {z:List AV} {ps:List (Nat × Nat × Opd)}:OK C base fin k a (⟨d,none,.build z ps⟩::l) ⟨e,h,n⟩=SK C base fin k a l d e h (n+1) (stepW (.build z ps) e h n):=bH rfl
@[simp] theorem akA {z:List AV} {m:Nat} {ps:List (Nat × Opd)}:OK C base fin k a (⟨d,none,.aO z m ps⟩::l) ⟨e,h,n⟩=SK C base fin k a l d e h (n+1) (stepW (.aO z m ps) e h n):=bH rfl
@[simp] theorem am4 {m:Nat} {ag:Bool} {x:Opd}:OK C base fin k a (⟨d,none,.load m ag x⟩::l) ⟨e,h,n⟩=SK C base fin k a l d e h (n+1) (stepW (.load m ag x) e h n):=bH rfl
@[simp] theorem alS {m:Nat} {x y:Opd}:OK C base fin k a (⟨d,none,.store m x y⟩::l) ⟨e,h,n⟩=SK C base fin k a l d e h (n+1) (stepW (.store m x y) e h n):=bH rfl
@[simp] theorem akz {x:Opd}:OK C base fin k a (⟨d,none,.jI x⟩::l) ⟨e,h,n⟩=SK C base fin k a l d e h (n+1) (stepW (.jI x) e h n):=bH rfl
@[simp] theorem asi {op:BinOp} {x y:Opd}:OK C base fin k a (⟨d,none,.bin op x y⟩::l) ⟨e,h,n⟩=SK C base fin k a l d e h (n+1) (stepW (.bin op x y) e h n):=bH rfl
@[simp] theorem apv {kd:Nat} {ks:List Nat} {ne:Bool} {x y:Opd}:OK C base fin k a (⟨d,none,.eqv kd ks ne x y⟩::l) ⟨e,h,n⟩=SK C base fin k a l d e h (n+1) (stepW (.eqv kd ks ne x y) e h n):=bH rfl
@[simp] theorem asw {op:UnOp} {x:Opd}:OK C base fin k a (⟨d,none,.un op x⟩::l) ⟨e,h,n⟩=SK C base fin k a l d e h (n+1) (stepW (.un op x) e h n):=bH rfl
@[simp] theorem apV {kk:IntKind} {x:Opd}:OK C base fin k a (⟨d,none,.cvt kk x⟩::l) ⟨e,h,n⟩=SK C base fin k a l d e h (n+1) (stepW (.cvt kk x) e h n):=bH rfl
@[simp] theorem aor {x:Opd}:OK C base fin k a (⟨d,none,.cvs x⟩::l) ⟨e,h,n⟩=SK C base fin k a l d e h (n+1) (stepW (.cvs x) e h n):=bH rfl
@[simp] theorem ase {x:Opd}:OK C base fin k a (⟨d,none,.cvb x⟩::l) ⟨e,h,n⟩=SK C base fin k a l d e h (n+1) (stepW (.cvb x) e h n):=bH rfl
@[simp] theorem an4 {f:Nat} {xs:List Opd}:OK C base fin k a (⟨d,none,.jE f xs⟩::l) ⟨e,h,n⟩=SK C base fin k a l d e h (n+1) (stepW (.jE f xs) e h n):=bH rfl
@[simp] theorem alm:OK C base fin k a (⟨d,none,.lF⟩::l) ⟨e,h,n⟩=SK C base fin k a l d e h (n+1) (stepW .lF e h n):=bH rfl
@[simp] theorem ano {z:List AV} {b:Nat} {x y:Opd}:OK C base fin k a (⟨d,none,.oQ z b x y⟩::l) ⟨e,h,n⟩=SK C base fin k a l d e h (n+1) (stepW (.oQ z b x y) e h n):=bH rfl
@[simp] theorem ok_slice {z:Nat} {x:Opd} {lo hi mx:Option Opd}:OK C base fin k a (⟨d,none,.slice z x lo hi mx⟩::l) ⟨e,h,n⟩=SK C base fin k a l d e h (n+1) (stepW (.slice z x lo hi mx) e h n):=bH rfl
@[simp] theorem akG {z:Nat} {x:Opd} {lo hi:Option Opd}:OK C base fin k a (⟨d,none,.gJ z x lo hi⟩::l) ⟨e,h,n⟩=SK C base fin k a l d e h (n+1) (stepW (.gJ z x lo hi) e h n):=bH rfl
@[simp] theorem aq2 {o:Nat} {x:Opd}:OK C base fin k a (⟨d,none,.fld o x⟩::l) ⟨e,h,n⟩=SK C base fin k a l d e h (n+1) (stepW (.fld o x) e h n):=bH rfl
@[simp] theorem anl {o m:Nat} {ag:Bool} {x:Opd}:OK C base fin k a (⟨d,none,.x9 o m ag x⟩::l) ⟨e,h,n⟩=SK C base fin k a l d e h (n+1) (stepW (.x9 o m ag x) e h n):=bH rfl
@[simp] theorem anz {z:Nat} {x y:Opd}:OK C base fin k a (⟨d,none,.idxs z x y⟩::l) ⟨e,h,n⟩=SK C base fin k a l d e h (n+1) (stepW (.idxs z x y) e h n):=bH rfl
@[simp] theorem anJ {m z:Nat} {x y:Opd}:OK C base fin k a (⟨d,none,.fK m z x y⟩::l) ⟨e,h,n⟩=SK C base fin k a l d e h (n+1) (stepW (.fK m z x y) e h n):=bH rfl
@[simp] theorem aky {x y:Opd}:OK C base fin k a (⟨d,none,.eU x y⟩::l) ⟨e,h,n⟩=SK C base fin k a l d e h (n+1) (stepW (.eU x y) e h n):=bH rfl
@[simp] theorem an9 {m z:Nat} {ag:Bool} {x y:Opd}:OK C base fin k a (⟨d,none,.uP m z ag x y⟩::l) ⟨e,h,n⟩=SK C base fin k a l d e h (n+1) (stepW (.uP m z ag x y) e h n):=bH rfl
@[simp] theorem anf {kd:Nat} {z:AV} {ok:Bool} {x y:Opd}:OK C base fin k a (⟨d,none,.look kd z ok x y⟩::l) ⟨e,h,n⟩=SK C base fin k a l d e h (n+1) (stepW (.look kd z ok x y) e h n):=bH rfl
@[simp] theorem ao5 {kd:Nat} {x y z:Opd}:OK C base fin k a (⟨d,none,.upd kd x y z⟩::l) ⟨e,h,n⟩=SK C base fin k a l d e h (n+1) (stepW (.upd kd x y z) e h n):=bH rfl
@[simp] theorem alv {x:Opd}:OK C base fin k a (⟨d,none,.range x⟩::l) ⟨e,h,n⟩=SK C base fin k a l d e h (n+1) (stepW (.range x) e h n):=bH rfl
@[simp] theorem am0 {x:Opd}:OK C base fin k a (⟨d,none,.next x⟩::l) ⟨e,h,n⟩=SK C base fin k a l d e h (n+1) (stepW (.next x) e h n):=bH rfl
@[simp] theorem apH {i:Nat} {x:Opd}:OK C base fin k a (⟨d,none,.ext i x⟩::l) ⟨e,h,n⟩=SK C base fin k a l d e h (n+1) (stepW (.ext i x) e h n):=bH rfl
@[simp] theorem aqR {kd:Nat} {x:Opd}:OK C base fin k a (⟨d,none,.len kd x⟩::l) ⟨e,h,n⟩=SK C base fin k a l d e h (n+1) (stepW (.len kd x) e h n):=bH rfl
@[simp] theorem aqt {x:Opd}:OK C base fin k a (⟨d,none,.cap x⟩::l) ⟨e,h,n⟩=SK C base fin k a l d e h (n+1) (stepW (.cap x) e h n):=bH rfl
@[simp] theorem ao1 {z:List AV} {b:Nat} {zs:Bool} {x y:Opd}:OK C base fin k a (⟨d,none,.app z b zs x y⟩::l) ⟨e,h,n⟩=SK C base fin k a l d e h (n+1) (stepW (.app z b zs x y) e h n):=bH rfl
@[simp] theorem apj {z:Nat} {x y:Opd}:OK C base fin k a (⟨d,none,.cpy z x y⟩::l) ⟨e,h,n⟩=SK C base fin k a l d e h (n+1) (stepW (.cpy z x y) e h n):=bH rfl
@[simp] theorem arQ {z:List AV} {x:Opd}:OK C base fin k a (⟨d,none,.clr z x⟩::l) ⟨e,h,n⟩=SK C base fin k a l d e h (n+1) (stepW (.clr z x) e h n):=bH rfl
@[simp] theorem asx {x y:Opd}:OK C base fin k a (⟨d,none,.mx x y⟩::l) ⟨e,h,n⟩=SK C base fin k a l d e h (n+1) (stepW (.mx x y) e h n):=bH rfl
@[simp] theorem asj {x y:Opd}:OK C base fin k a (⟨d,none,.mn x y⟩::l) ⟨e,h,n⟩=SK C base fin k a l d e h (n+1) (stepW (.mn x y) e h n):=bH rfl
@[simp] theorem asy {x:Opd}:DK C base fin k a un (⟨d,none,.mv x⟩::l) nid ⟨e,h,n⟩ ds=DSK C base fin k a un l (nid+1) d e h n ds (readsOf e (.mv x)) (stepW (.mv x) e h nid):=bI rfl
@[simp] theorem amI {c x y:Opd}:DK C base fin k a un (⟨d,none,.pick c x y⟩::l) nid ⟨e,h,n⟩ ds=DSK C base fin k a un l (nid+1) d e h n ds (readsOf e (.pick c x y)) (stepW (.pick c x y) e h nid):=bI rfl
@[simp] theorem alX {z:List AV}:DK C base fin k a un (⟨d,none,.alloc z⟩::l) nid ⟨e,h,n⟩ ds=DSK C base fin k a un l (nid+1) d e h n ds (readsOf e (.alloc z)) (stepW (.alloc z) e h nid):=bI rfl
@[simp] theorem aoh {x:Opd}:DK C base fin k a un (⟨d,none,.box x⟩::l) nid ⟨e,h,n⟩ ds=DSK C base fin k a un l (nid+1) d e h n ds (readsOf e (.box x)) (stepW (.box x) e h nid):=bI rfl
@[simp] theorem al1 {z:List AV} {ps:List (Nat × Nat × Opd)}:DK C base fin k a un (⟨d,none,.build z ps⟩::l) nid ⟨e,h,n⟩ ds=DSK C base fin k a un l (nid+1) d e h n ds (readsOf e (.build z ps)) (stepW (.build z ps) e h nid):=bI rfl
@[simp] theorem akx {z:List AV} {m:Nat} {ps:List (Nat × Opd)}:DK C base fin k a un (⟨d,none,.aO z m ps⟩::l) nid ⟨e,h,n⟩ ds=DSK C base fin k a un l (nid+1) d e h n ds (readsOf e (.aO z m ps)) (stepW (.aO z m ps) e h nid):=bI rfl
@[simp] theorem anS {m:Nat} {ag:Bool} {x:Opd}:DK C base fin k a un (⟨d,none,.load m ag x⟩::l) nid ⟨e,h,n⟩ ds=DSK C base fin k a un l (nid+1) d e h n ds (readsOf e (.load m ag x)) (stepW (.load m ag x) e h nid):=bI rfl
@[simp] theorem al3 {m:Nat} {x y:Opd}:DK C base fin k a un (⟨d,none,.store m x y⟩::l) nid ⟨e,h,n⟩ ds=DSK C base fin k a un l (nid+1) d e h n ds (readsOf e (.store m x y)) (stepW (.store m x y) e h nid):=bI rfl
@[simp] theorem akK {x:Opd}:DK C base fin k a un (⟨d,none,.jI x⟩::l) nid ⟨e,h,n⟩ ds=DSK C base fin k a un l (nid+1) d e h n ds (readsOf e (.jI x)) (stepW (.jI x) e h nid):=bI rfl
@[simp] theorem apn {op:BinOp} {x y:Opd}:DK C base fin k a un (⟨d,none,.bin op x y⟩::l) nid ⟨e,h,n⟩ ds=DSK C base fin k a un l (nid+1) d e h n ds (readsOf e (.bin op x y)) (stepW (.bin op x y) e h nid):=bI rfl
@[simp] theorem aoj {kd:Nat} {ks:List Nat} {ne:Bool} {x y:Opd}:DK C base fin k a un (⟨d,none,.eqv kd ks ne x y⟩::l) nid ⟨e,h,n⟩ ds=DSK C base fin k a un l (nid+1) d e h n ds (readsOf e (.eqv kd ks ne x y)) (stepW (.eqv kd ks ne x y) e h nid):=bI rfl
@[simp] theorem asn {op:UnOp} {x:Opd}:DK C base fin k a un (⟨d,none,.un op x⟩::l) nid ⟨e,h,n⟩ ds=DSK C base fin k a un l (nid+1) d e h n ds (readsOf e (.un op x)) (stepW (.un op x) e h nid):=bI rfl
@[simp] theorem arR {kk:IntKind} {x:Opd}:DK C base fin k a un (⟨d,none,.cvt kk x⟩::l) nid ⟨e,h,n⟩ ds=DSK C base fin k a un l (nid+1) d e h n ds (readsOf e (.cvt kk x)) (stepW (.cvt kk x) e h nid):=bI rfl
@[simp] theorem aoq {x:Opd}:DK C base fin k a un (⟨d,none,.cvs x⟩::l) nid ⟨e,h,n⟩ ds=DSK C base fin k a un l (nid+1) d e h n ds (readsOf e (.cvs x)) (stepW (.cvs x) e h nid):=bI rfl
@[simp] theorem ao9 {x:Opd}:DK C base fin k a un (⟨d,none,.cvb x⟩::l) nid ⟨e,h,n⟩ ds=DSK C base fin k a un l (nid+1) d e h n ds (readsOf e (.cvb x)) (stepW (.cvb x) e h nid):=bI rfl
@[simp] theorem anp {f:Nat} {xs:List Opd}:DK C base fin k a un (⟨d,none,.jE f xs⟩::l) nid ⟨e,h,n⟩ ds=DSK C base fin k a un l (nid+1) d e h n ds (readsOf e (.jE f xs)) (stepW (.jE f xs) e h nid):=bI rfl
@[simp] theorem als:DK C base fin k a un (⟨d,none,.lF⟩::l) nid ⟨e,h,n⟩ ds=DSK C base fin k a un l (nid+1) d e h n ds (readsOf e (.lF)) (stepW (.lF) e h nid):=bI rfl
@[simp] theorem an7 {z:List AV} {b:Nat} {x y:Opd}:DK C base fin k a un (⟨d,none,.oQ z b x y⟩::l) nid ⟨e,h,n⟩ ds=DSK C base fin k a un l (nid+1) d e h n ds (readsOf e (.oQ z b x y)) (stepW (.oQ z b x y) e h nid):=bI rfl
@[simp] theorem ala {z:Nat} {x:Opd} {lo hi mx:Option Opd}:DK C base fin k a un (⟨d,none,.slice z x lo hi mx⟩::l) nid ⟨e,h,n⟩ ds=DSK C base fin k a un l (nid+1) d e h n ds (readsOf e (.slice z x lo hi mx)) (stepW (.slice z x lo hi mx) e h nid):=bI rfl
@[simp] theorem akv {z:Nat} {x:Opd} {lo hi:Option Opd}:DK C base fin k a un (⟨d,none,.gJ z x lo hi⟩::l) nid ⟨e,h,n⟩ ds=DSK C base fin k a un l (nid+1) d e h n ds (readsOf e (.gJ z x lo hi)) (stepW (.gJ z x lo hi) e h nid):=bI rfl
@[simp] theorem apB {o:Nat} {x:Opd}:DK C base fin k a un (⟨d,none,.fld o x⟩::l) nid ⟨e,h,n⟩ ds=DSK C base fin k a un l (nid+1) d e h n ds (readsOf e (.fld o x)) (stepW (.fld o x) e h nid):=bI rfl
@[simp] theorem ams {o m:Nat} {ag:Bool} {x:Opd}:DK C base fin k a un (⟨d,none,.x9 o m ag x⟩::l) nid ⟨e,h,n⟩ ds=DSK C base fin k a un l (nid+1) d e h n ds (readsOf e (.x9 o m ag x)) (stepW (.x9 o m ag x) e h nid):=bI rfl
@[simp] theorem amo {z:Nat} {x y:Opd}:DK C base fin k a un (⟨d,none,.idxs z x y⟩::l) nid ⟨e,h,n⟩ ds=DSK C base fin k a un l (nid+1) d e h n ds (readsOf e (.idxs z x y)) (stepW (.idxs z x y) e h nid):=bI rfl
@[simp] theorem anI {m z:Nat} {x y:Opd}:DK C base fin k a un (⟨d,none,.fK m z x y⟩::l) nid ⟨e,h,n⟩ ds=DSK C base fin k a un l (nid+1) d e h n ds (readsOf e (.fK m z x y)) (stepW (.fK m z x y) e h nid):=bI rfl
@[simp] theorem akr {x y:Opd}:DK C base fin k a un (⟨d,none,.eU x y⟩::l) nid ⟨e,h,n⟩ ds=DSK C base fin k a un l (nid+1) d e h n ds (readsOf e (.eU x y)) (stepW (.eU x y) e h nid):=bI rfl
@[simp] theorem amX {m z:Nat} {ag:Bool} {x y:Opd}:DK C base fin k a un (⟨d,none,.uP m z ag x y⟩::l) nid ⟨e,h,n⟩ ds=DSK C base fin k a un l (nid+1) d e h n ds (readsOf e (.uP m z ag x y)) (stepW (.uP m z ag x y) e h nid):=bI rfl
@[simp] theorem anY {kd:Nat} {z:AV} {ok:Bool} {x y:Opd}:DK C base fin k a un (⟨d,none,.look kd z ok x y⟩::l) nid ⟨e,h,n⟩ ds=DSK C base fin k a un l (nid+1) d e h n ds (readsOf e (.look kd z ok x y)) (stepW (.look kd z ok x y) e h nid):=bI rfl
@[simp] theorem arD {kd:Nat} {x y z:Opd}:DK C base fin k a un (⟨d,none,.upd kd x y z⟩::l) nid ⟨e,h,n⟩ ds=DSK C base fin k a un l (nid+1) d e h n ds (readsOf e (.upd kd x y z)) (stepW (.upd kd x y z) e h nid):=bI rfl
@[simp] theorem alU {x:Opd}:DK C base fin k a un (⟨d,none,.range x⟩::l) nid ⟨e,h,n⟩ ds=DSK C base fin k a un l (nid+1) d e h n ds (readsOf e (.range x)) (stepW (.range x) e h nid):=bI rfl
@[simp] theorem amu {x:Opd}:DK C base fin k a un (⟨d,none,.next x⟩::l) nid ⟨e,h,n⟩ ds=DSK C base fin k a un l (nid+1) d e h n ds (readsOf e (.next x)) (stepW (.next x) e h nid):=bI rfl
@[simp] theorem arE {i:Nat} {x:Opd}:DK C base fin k a un (⟨d,none,.ext i x⟩::l) nid ⟨e,h,n⟩ ds=DSK C base fin k a un l (nid+1) d e h n ds (readsOf e (.ext i x)) (stepW (.ext i x) e h nid):=bI rfl
@[simp] theorem aoJ {kd:Nat} {x:Opd}:DK C base fin k a un (⟨d,none,.len kd x⟩::l) nid ⟨e,h,n⟩ ds=DSK C base fin k a un l (nid+1) d e h n ds (readsOf e (.len kd x)) (stepW (.len kd x) e h nid):=bI rfl
@[simp] theorem ar0 {x:Opd}:DK C base fin k a un (⟨d,none,.cap x⟩::l) nid ⟨e,h,n⟩ ds=DSK C base fin k a un l (nid+1) d e h n ds (readsOf e (.cap x)) (stepW (.cap x) e h nid):=bI rfl
@[simp] theorem apU {z:List AV} {b:Nat} {zs:Bool} {x y:Opd}:DK C base fin k a un (⟨d,none,.app z b zs x y⟩::l) nid ⟨e,h,n⟩ ds=DSK C base fin k a un l (nid+1) d e h n ds (readsOf e (.app z b zs x y)) (stepW (.app z b zs x y) e h nid):=bI rfl
@[simp] theorem aro {z:Nat} {x y:Opd}:DK C base fin k a un (⟨d,none,.cpy z x y⟩::l) nid ⟨e,h,n⟩ ds=DSK C base fin k a un l (nid+1) d e h n ds (readsOf e (.cpy z x y)) (stepW (.cpy z x y) e h nid):=bI rfl
@[simp] theorem arM {z:List AV} {x:Opd}:DK C base fin k a un (⟨d,none,.clr z x⟩::l) nid ⟨e,h,n⟩ ds=DSK C base fin k a un l (nid+1) d e h n ds (readsOf e (.clr z x)) (stepW (.clr z x) e h nid):=bI rfl
@[simp] theorem asq {x y:Opd}:DK C base fin k a un (⟨d,none,.mx x y⟩::l) nid ⟨e,h,n⟩ ds=DSK C base fin k a un l (nid+1) d e h n ds (readsOf e (.mx x y)) (stepW (.mx x y) e h nid):=bI rfl
@[simp] theorem asr {x y:Opd}:DK C base fin k a un (⟨d,none,.mn x y⟩::l) nid ⟨e,h,n⟩ ds=DSK C base fin k a un l (nid+1) d e h n ds (readsOf e (.mn x y)) (stepW (.mn x y) e h nid):=bI rfl
end
@[simp] theorem nat?_cast (n:Nat):nat? (n:Int)=some n:=rfl
@[simp] theorem nat?_zero:nat? 0=some 0:=rfl
@[simp] theorem nat?_one:nat? 1=some 1:=rfl
@[simp] theorem nat?_lit (n:Nat):nat? (no_index (OfNat.ofNat n):Int)=some n:=rfl
@[simp] theorem nat?_add (n m:Nat):nat? ((n:Int)+(m:Int))=some (n+m):=rfl
@[simp] theorem nat?_add_lit (n m:Nat):nat? ((n:Int)+(no_index (OfNat.ofNat m):Int))=some (n+m):=rfl
theorem aG {x:Int} (h1:-9223372036854775808≤x) (h2:x < 9223372036854775808):IntKind.i64.wrap x=x:=by
 show (if (true&&decide (x % 18446744073709551616 ≥ 9223372036854775808))=true then x % 18446744073709551616 - 18446744073709551616 else x % 18446744073709551616)=x
 simp only [Bool.true_and,decide_eq_true_eq]
 split <;> omega
theorem nS {x:Int} (h1:0≤x) (h2:x < 18446744073709551616):IntKind.u64.wrap x=x:=by
 show (if (false&&decide (x % 18446744073709551616 ≥ 9223372036854775808))=true then x % 18446744073709551616 - 18446744073709551616 else x % 18446744073709551616)=x
 simp only [Bool.false_and,Bool.false_eq_true,if_false]
 omega
theorem wU8 {x:Int} (h1:0≤x) (h2:x < 256):IntKind.u8.wrap x=x:=by
 show (if (false&&decide (x % 256 ≥ 128))=true then x % 256 - 256 else x % 256)=x
 simp only [Bool.false_and,Bool.false_eq_true,if_false]
 omega
theorem fits {n c:Nat} (h:n * c≤35184372088832):(n * c≤35184372088832)=True:=eq_true h
@[simp ↓] theorem asB {α β:Type} (a:α) (f:α→Option β):ob (some a) f=f a:=rfl
@[simp] theorem akJ (e:Env) (h:aJ) (t:Nat):BJ e h (.tmp t)=Pav.get e t:=rfl
def cellOf (h:aJ) (n:Nat) (ag:Bool):Option AV→Option AV
 | some (.ptr b i o)=>wY n ag o i (Pav.get h b)
 | _=>none
@[simp] theorem ajy (e:Env) (h:aJ) (t n:Nat) (ag:Bool):BJ e h (.cell t n ag)=cellOf h n ag (Pav.get e t):=rfl
attribute [simp] cellOf
@[simp] theorem asE (s:Nat) (e:Env):(Opd.t s).ev e=(Pav.get e s).getD .undef:=rfl
@[simp] theorem asJ (v:AV) (e:Env):(Opd.c v).ev e=v:=rfl
@[simp ↓] theorem asC {α β:Type} (f:α→Option β):ob none f=none:=rfl
@[simp ↓] theorem asA {α β:Type} (a:α) (f:α→β):om (some a) f=some (f a):=rfl
@[simp ↓] theorem asI {α β:Type} (f:α→β):om none f=none:=rfl
@[simp] theorem asG {β:Type} (x:Option β):og true x=x:=rfl
@[simp] theorem asF {β:Type} (x:Option β):og false x=none:=rfl
@[simp] theorem asH (v:AV):ov (some v)=some (v,[]):=rfl
@[simp] theorem asv (v:AV):ovW (some v)=some (v,[]):=rfl
@[simp] theorem alb (x:AV × Upd):plainW (some x)=some (x.1,[]):=rfl
def aak {α:Type}:Option α→Option (List α)→Option (List α)
 | some a,some l=>some (a::l)
 | _,_=>none
@[simp] theorem amJ {α:Type} (a:α) (l:List α):aak (some a) (some l)=some (a::l):=rfl
@[simp] theorem al0 {α β:Type} (f:α→Option β):bg f []=some []:=rfl
@[simp] theorem ako {α β:Type} (f:α→Option β) (a:α) (r:List α):bg f (a::r)=aak (f a) (bg f r):=by
 simp only [bg];cases f a <;> cases bg f r <;> rfl
def ahC (k:Nat):Option AV→Option Env→Option Env
 | some v,some r=>some ((k,v)::r)
 | _,_=>none
@[simp] theorem amM (k:Nat) (v:AV) (r:Env):ahC k (some v) (some r)=some ((k,v)::r):=rfl
@[simp] theorem ajW (π:Nat→Option Nat):jZ π []=some []:=rfl
@[simp] theorem ahr (π:Nat→Option Nat) (k:Nat) (v:AV) (r:Env):jZ π ((k,v)::r)=ahC k (ren π v) (jZ π r):=by
 simp only [jZ];cases ren π v <;> cases jZ π r <;> rfl
def ami (i o:Nat):Option Nat→Option AV
 | some b=>some (.ptr b i o)
 | none=>none
def slO (z i l c:Nat) (ex:Bool):Option Nat→Option AV
 | some b=>some (.sl b z i l c ex)
 | none=>none
def alN:Option Nat→Option AV
 | some b=>some (.map b)
 | none=>none
def fnO (f:Nat):Option (List AV)→Option AV
 | some cs=>some (.fn f cs)
 | none=>none
def ajI:Option (List AV)→Option AV
 | some cs=>some (.agg cs)
 | none=>none
def ah5:Option (List AV)→Option AV
 | some cs=>some (.tup cs)
 | none=>none
@[simp] theorem apQ (i o b:Nat):ami i o (some b)=some (.ptr b i o):=rfl
@[simp] theorem asl (z i l c:Nat) (ex:Bool) (b:Nat):slO z i l c ex (some b)=some (.sl b z i l c ex):=rfl
@[simp] theorem aoM (b:Nat):alN (some b)=some (.map b):=rfl
@[simp] theorem aso (f:Nat) (cs:List AV):fnO f (some cs)=some (.fn f cs):=rfl
@[simp] theorem aqG (cs:List AV):ajI (some cs)=some (.agg cs):=rfl
@[simp] theorem arp (cs:List AV):ah5 (some cs)=some (.tup cs):=rfl
section
variable (π:Nat→Option Nat)
@[simp] theorem an2 (b i o:Nat):ren π (.ptr b i o)=ami i o (π b):=by simp only [ren];cases π b <;> rfl
@[simp] theorem aqM (b z i l c:Nat) (ex:Bool):ren π (.sl b z i l c ex)=slO z i l c ex (π b):=by simp only [ren];cases π b <;> rfl
@[simp] theorem amN (b:Nat):ren π (.map b)=alN (π b):=by simp only [ren];cases π b <;> rfl
@[simp] theorem apC (f:Nat) (cs:List AV):ren π (.fn f cs)=fnO f (lK π cs):=by simp only [ren];cases lK π cs <;> rfl
@[simp] theorem an6 (cs:List AV):ren π (.agg cs)=ajI (lK π cs):=by simp only [ren];cases lK π cs <;> rfl
@[simp] theorem amv (cs:List AV):ren π (.tup cs)=ah5 (lK π cs):=by simp only [ren];cases lK π cs <;> rfl
@[simp] theorem akL:ren π .undef=some .undef:=rfl
@[simp] theorem amj (b:Bool):ren π (.bool b)=some (.bool b):=rfl
@[simp] theorem anL (k:IntKind) (n:Int):ren π (.int k n)=some (.int k n):=rfl
@[simp] theorem amB (s:List UInt8):ren π (.str s)=some (.str s):=rfl
@[simp] theorem alr:ren π .dV=some .dV:=rfl
@[simp] theorem alu:ren π .aZ=some .aZ:=rfl
@[simp] theorem akV:ren π .dN=some .dN:=rfl
@[simp] theorem amh:ren π .bK=some .bK:=rfl
@[simp] theorem ara (z:Nat) (es:List (List AV)) (ex:Bool):ren π (.ro z es ex)=some (.ro z es ex):=rfl
@[simp] theorem amw (cs:List AV):ren π (.rop cs)=some (.rop cs):=rfl
@[simp] theorem ali:lK π []=some []:=rfl
@[simp] theorem aku (v:AV) (r:List AV):lK π (v::r)=aak (ren π v) (lK π r):=by simp only [lK];cases ren π v <;> cases lK π r <;> rfl
def acY (z:Nat) (mu dt:Bool):Option (List (List AV))→Option iC
 | some es=>some (.cells z es mu dt)
 | none=>none
@[simp] theorem alE (z:Nat) (mu dt:Bool) (es:List (List AV)):acY z mu dt (some es)=some (.cells z es mu dt):=rfl
@[simp] theorem akC (z:Nat) (es:List (List AV)) (mu:Bool):ig π (.cells z es mu true)=some (.cells z es mu true):=rfl
@[simp] theorem akw (z:Nat) (es:List (List AV)) (mu:Bool):ig π (.cells z es mu false)=acY z mu false (bg (lK π) es):=by simp only [ig];cases bg (lK π) es <;> rfl
@[simp] theorem aiF (es:List (AV × AV)):ig π (.map es)=some (.map es):=rfl
@[simp] theorem agV (s:List UInt8) (p:Nat):ig π (.iter s p)=some (.iter s p):=rfl
def VT (k:Nat):Option iC→Option aJ→Option aJ
 | some v,some r=>some ((k,v)::r)
 | _,_=>none
@[simp] theorem anh (k:Nat) (v:iC) (r:aJ):VT k (some v) (some r)=some ((k,v)::r):=rfl
@[simp] theorem aiK (base:Nat):jG base π []=some []:=rfl
@[simp] theorem ag7 (base b:Nat) (o:iC) (r:aJ):jG base π ((b,o)::r)=if b < base then VT b (ig π o) (jG base π r) else jG base π r:=by
 simp only [jG]
 split
 · cases ig π o <;> cases jG base π r <;> rfl
 · rfl
def newH (n:Nat) (π:Nat→Option Nat) (r:Option aJ):Option iC→Option aJ
 | some o=>VT n (ig π o) r
 | none=>r
@[simp] theorem apK (n:Nat) (r:Option aJ) (o:iC):newH n π r (some o)=VT n (ig π o) r:=rfl
@[simp] theorem ao3 (n:Nat) (r:Option aJ):newH n π r none=r:=rfl
@[simp] theorem aiw (h:aJ) (n:Nat):lN π h n []=some []:=rfl
@[simp] theorem ahk (h:aJ) (n b:Nat) (r:List Nat):lN π h n (b::r)=newH n π (lN π h (n+1) r) (Pav.get h b):=by
 simp only [lN,newH]
 cases Pav.get h b with
 | none=>rfl
 | some o=>simp only;cases ig π o <;> cases lN π h (n+1) r <;> rfl
end
def ak0 (n:Nat):Option Env→Option aJ→Option aJ→Option WSt
 | some e,some h1,some h2=>some ⟨e,h1++h2,n⟩
 | _,_,_=>none
@[simp] theorem aqd (n:Nat) (e:Env) (h1 h2:aJ):ak0 n (some e) (some h1) (some h2)=some ⟨e,h1++h2,n⟩:=rfl
@[simp] theorem ahl (base:Nat) (s:WSt) (L:List Nat):renumber base s L=ak0 (base+L.length) (jZ (gZ base L) s.env) (jG base (gZ base L) s.heap) (lN (gZ base L) s.heap base L):=by
 simp only [renumber]
 cases jZ (gZ base L) s.env <;> cases jG base (gZ base L) s.heap <;> cases lN (gZ base L) s.heap base L <;> rfl
def ak5 (h:aJ) (nid zl bytes:Nat) (s:AV):Option (List (List AV) × Bool)→Option (AV × dP)
 | some (xs,d)=>jc h nid zl bytes s xs d
 | none=>none
@[simp] theorem arC (h:aJ) (nid zl bytes:Nat) (s:AV) (xs:List (List AV)) (d:Bool):ak5 h nid zl bytes s (some (xs,d))=jc h nid zl bytes s xs d:=rfl
@[simp] theorem aoz (z:List AV) (bytes:Nat) (s x:Opd) (e:Env) (h:aJ) (n:Nat):PX z bytes false s x e h n=ak5 h n z.length bytes (s.ev e) (jY h z.length (x.ev e)):=by
 simp only [PX,Bool.false_eq_true,if_false];cases jY h z.length (x.ev e) <;> rfl
def Yy (h:aJ) (nid:Nat) (z:List AV) (bytes:Nat) (s:AV):AV→Option (AV × dP)
 | .int _ n=>ob (nat? n) fun n=>if n * (bytes+1)≤cZ then jc h nid z.length bytes s (List.replicate n z) (z.all isC) else none
 | _=>none
@[simp] theorem arF (z:List AV) (bytes:Nat) (s x:Opd) (e:Env) (h:aJ) (n:Nat):PX z bytes true s x e h n=Yy h n z bytes (s.ev e) (x.ev e):=by
 simp only [PX,if_true];cases x.ev e <;> rfl
def al7 (h:aJ) (z:Nat) (d:AV):Option (List (List AV) × Bool)→Option (AV × dP)
 | some (xs,b)=>qE h z xs b d
 | none=>none
@[simp] theorem aoY (h:aJ) (z:Nat) (d:AV) (xs:List (List AV)) (b:Bool):al7 h z d (some (xs,b))=qE h z xs b d:=rfl
@[simp] theorem ane (z:Nat) (d s:Opd) (e:Env) (h:aJ) (n:Nat):WW z d s e h n=al7 h z (d.ev e) (jY h z (s.ev e)):=by
 simp only [WW];cases jY h z (s.ev e) <;> rfl
attribute [simp] Yy
@[simp] theorem apl {α β γ:Type} (x:Option α) (g:α→β) (f:β→Option γ):ob (Option.map g x) f=ob x fun a=>f (g a):=by cases x <;> rfl
section
variable (h:aJ) (nid zl bytes:Nat) (xs:List (List AV)) (d:Bool)
@[simp] theorem ahc:jc h nid zl bytes .aZ xs d=if xs.isEmpty=true then some (.aZ,[]) else l9 nid zl xs.length bytes xs d:=by cases xs <;> rfl
@[simp] theorem akp (z:Nat) (es:List (List AV)) (ex:Bool):jc h nid zl bytes (.ro z es ex) xs d =
 if z=zl then (if xs.isEmpty=true then some (.ro z es ex,[]) else if ex=true then l9 nid zl (es.length+xs.length) bytes (es++xs) d else none) else none:=by cases xs <;> rfl
@[simp] theorem WA (b z i len cap:Nat) (ex:Bool):jc h nid zl bytes (.sl b z i len cap ex) xs d =
 if z=zl then (if xs.isEmpty=true then some (.sl b z i len cap ex,[]) else JX (Pav.get h b) nid zl bytes b i len cap ex xs d (len+xs.length)) else none:=by cases xs <;> rfl
end
def ahS (h:aJ) (n z i len cap:Nat) (ex:Bool):Option iC→Option AV
 | some (.cells _ es _ true)=>og (decide (((es.drop i).take len).length=len)) (some (.ro z ((es.drop i).take len) (ex&&decide (cap=len))))
 | some (.cells _ es _ false)=>ob (bg (bg (bJ h n)) ((es.drop i).take len)) fun es'=>og (decide (es'.length=len)&&es'.all fun e=>e.all isC) (some (.ro z es' (ex&&decide (cap=len))))
 | _=>none
def ajL (h:aJ) (n i o:Nat):Option iC→Option AV
 | some (.cells _ es _ true)=>ob es[i]? fun cs=>some (.rop (cs.drop o))
 | some (.cells _ es _ false)=>ob es[i]? fun cs=>ob (bg (bJ h n) (cs.drop o)) fun cs'=>some (.rop cs')
 | _=>none
def Ue (h:aJ) (n i o:Nat):Option iC→List Nat
 | some (.cells _ es _ false)=>((es[i]?.getD []).drop o).flatMap (aK h n)
 | _=>[]
def Q7 (h:aJ) (n i len:Nat):Option iC→List Nat
 | some (.cells _ es _ false)=>((es.drop i).take len).flatMap fun e=>e.flatMap (aK h n)
 | _=>[]
section
variable (h:aJ) (n:Nat)
@[simp] theorem akB (b:Bool):bJ h (n+1) (.bool b)=some (.bool b):=rfl
@[simp] theorem alk (k:IntKind) (x:Int):bJ h (n+1) (.int k x)=some (.int k x):=rfl
@[simp] theorem alD (s:List UInt8):bJ h (n+1) (.str s)=some (.str s):=rfl
@[simp] theorem aks:bJ h (n+1) .dV=some .dV:=rfl
@[simp] theorem akq:bJ h (n+1) .aZ=some .aZ:=rfl
@[simp] theorem akE:bJ h (n+1) .dN=some .dN:=rfl
@[simp] theorem akD:bJ h (n+1) .bK=some .bK:=rfl
@[simp] theorem amS (z:Nat) (es:List (List AV)) (ex:Bool):bJ h (n+1) (.ro z es ex)=some (.ro z es ex):=rfl
@[simp] theorem alV (cs:List AV):bJ h (n+1) (.rop cs)=some (.rop cs):=rfl
@[simp] theorem am1 (f:Nat) (cs:List AV):bJ h (n+1) (.fn f cs)=fnO f (bg (bJ h n) cs):=by simp only [bJ];cases bg (bJ h n) cs <;> rfl
@[simp] theorem amg (cs:List AV):bJ h (n+1) (.agg cs)=ajI (bg (bJ h n) cs):=by simp only [bJ];cases bg (bJ h n) cs <;> rfl
@[simp] theorem aln (cs:List AV):bJ h (n+1) (.tup cs)=ah5 (bg (bJ h n) cs):=by simp only [bJ];cases bg (bJ h n) cs <;> rfl
@[simp] theorem am5 (b z i len cap:Nat) (ex:Bool):bJ h (n+2) (.sl b z i len cap ex)=ahS h (n+1) z i len cap ex (Pav.get h b):=by
 simp only [bJ,ahS]
 split
 · rename_i hg
   rw [hg]
   rename_i dt
   cases dt <;> rfl
 · rename_i hg
   split
   · rename_i h1;exact absurd h1 (hg _ _ _ _)
   · rename_i h1;exact absurd h1 (hg _ _ _ _)
   · rfl
@[simp] theorem akS (b i o:Nat):bJ h (n+2) (.ptr b i o)=ajL h (n+1) i o (Pav.get h b):=by
 simp only [bJ,ajL]
 split
 · rename_i hg
   rw [hg]
   rename_i es _ dt
   cases dt
   · simp only [Bool.false_eq_true,if_false]
     cases es[i]? with
     | none=>rfl
     | some cs=>simp only [ob];cases bg (bJ h (n+1)) (cs.drop o) <;> rfl
   · rfl
 · rename_i hg
   split
   · rename_i h1;exact absurd h1 (hg _ _ _ _)
   · rename_i h1;exact absurd h1 (hg _ _ _ _)
   · rfl
@[simp] theorem ah1 (b i o:Nat):aK h (n+1) (.ptr b i o)=b::Ue h n i o (Pav.get h b):=by
 simp only [aK,Ue]
 congr 1
 split
 · rename_i hg
   rw [hg]
   rename_i dt
   cases dt <;> rfl
 · rename_i hg
   split
   · rename_i h1;exact absurd h1 (hg _ _ _ _)
   · rfl
@[simp] theorem ahh (b:Bool):aK h (n+1) (.bool b)=[]:=rfl
@[simp] theorem aiT (k:IntKind) (x:Int):aK h (n+1) (.int k x)=[]:=rfl
@[simp] theorem ai5 (s:List UInt8):aK h (n+1) (.str s)=[]:=rfl
@[simp] theorem ag3:aK h (n+1) .dV=[]:=rfl
@[simp] theorem ahz:aK h (n+1) .aZ=[]:=rfl
@[simp] theorem ahd:aK h (n+1) .dN=[]:=rfl
@[simp] theorem ahm:aK h (n+1) .bK=[]:=rfl
@[simp] theorem akt (z:Nat) (es:List (List AV)) (ex:Bool):aK h (n+1) (.ro z es ex)=[]:=rfl
@[simp] theorem aiv (cs:List AV):aK h (n+1) (.rop cs)=[]:=rfl
@[simp] theorem akI (f:Nat) (cs:List AV):aK h (n+1) (.fn f cs)=cs.flatMap (aK h n):=rfl
@[simp] theorem akj (cs:List AV):aK h (n+1) (.agg cs)=cs.flatMap (aK h n):=rfl
@[simp] theorem ajv (cs:List AV):aK h (n+1) (.tup cs)=cs.flatMap (aK h n):=rfl
@[simp] theorem akH (b z i len cap:Nat) (ex:Bool):aK h (n+1) (.sl b z i len cap ex)=b::Q7 h n i len (Pav.get h b):=by
 simp only [aK,Q7]
 congr 1
 split
 · rename_i hg
   rw [hg]
   rename_i dt
   cases dt <;> rfl
 · rename_i hg
   split
   · rename_i h1;exact absurd h1 (hg _ _ _ _)
   · rfl
@[simp] theorem afV (b:Bool):dn (n+1) (.bool b)=false:=rfl
@[simp] theorem ag1 (k:IntKind) (x:Int):dn (n+1) (.int k x)=false:=rfl
@[simp] theorem agW (s:List UInt8):dn (n+1) (.str s)=false:=rfl
@[simp] theorem aex:dn (n+1) .dV=false:=rfl
@[simp] theorem afH:dn (n+1) .aZ=false:=rfl
@[simp] theorem agB:dn (n+1) .dN=false:=rfl
@[simp] theorem aez:dn (n+1) .bK=false:=rfl
@[simp] theorem aib (z:Nat) (es:List (List AV)) (ex:Bool):dn (n+1) (.ro z es ex)=true:=rfl
@[simp] theorem ag8 (cs:List AV):dn (n+1) (.rop cs)=true:=rfl
@[simp] theorem ajJ (f:Nat) (cs:List AV):dn (n+1) (.fn f cs)=cs.any (dn n):=rfl
@[simp] theorem agZ (cs:List AV):dn (n+1) (.agg cs)=cs.any (dn n):=rfl
@[simp] theorem ahE (cs:List AV):dn (n+1) (.tup cs)=cs.any (dn n):=rfl
end
def imax (a b:Int):Int:=if b > a then b else a
def ru (a b:Int):Int:=if b < a then b else a
theorem Lj {a b:Int} (h:b≤a):imax a b=a:=by unfold imax;rw [if_neg (by omega)]
theorem abW {a b:Int} (h:a≤b):imax a b=b:=by unfold imax;split <;> omega
def mxV:AV→AV→Option (AV × Upd)
 | .int k a,.int k' b=>if k=k' then some (.int k (imax a b),[]) else none
 | _,_=>none
def mnV:AV→AV→Option (AV × Upd)
 | .int k a,.int k' b=>if k=k' then some (.int k (ru a b),[]) else none
 | _,_=>none
@[simp] theorem arH (x y:Opd) (e:Env) (h:Heap) (n:Nat):sMx x y e h n=mxV (x.ev e) (y.ev e):=rfl
@[simp] theorem aq0 (x y:Opd) (e:Env) (h:Heap) (n:Nat):sMn x y e h n=mnV (x.ev e) (y.ev e):=rfl
attribute [simp] mxV mnV
@[simp] theorem ah4 (base:Nat) (cn:Bool) (lv:List Nat) (s:WSt):oN base ⟨cn,lv,[]⟩ s=canon base ⟨cn,lv,[]⟩ s:=rfl
@[simp] theorem ahy (base:Nat) (cn:Bool) (lv:List Nat) (p:Nat × Nat) (r:List (Nat × Nat)) (s:WSt):oN base ⟨cn,lv,p::r⟩ s=ob (lX (G5 (p::r)) s) (canon base ⟨cn,lv,p::r⟩):=rfl
attribute [simp] G5 lX FV
attribute [simp] List.getElem?_cons_zero ahS Q7 ajL Ue
attribute [simp] stepW Rx aic TQ NG kZ abI AY wY qJ MG vO Gi splice Tm abA UA Nz found adD TB RX Ux BM ai0 qP JK jY l9 JX
 JE qE adQ BK Um sMv Dx BA qK mP YO yu BN BI zx rG Ic iJ eqFn Jo I9 Js iL BR UE kL iE sUn Pg QD Qg Qb PY yY Cc gU EO Ae Gm jR gQ mQ jS vC bound oev
 Ky DF Dc sF Dl sS qI Dv Po sCap yw AV.cells AV.cell isC isD Pav.get Pav.put dX pK bM D9 del readsOf dW canon VH RS kR zJ IV Hf VI rY gZ place close
 Fa uy refs CX MV aW oW bT bP Gp Cb kS aT Gt au uQ cZ lW jX CS aaG QY meets RZ
def rep {α:Type} (n:Nat) (a:α):List α:=List.replicate n a
section
variable {α β:Type} (n:Nat) (a:α)
@[simp] theorem ajN:(rep n a).length=n:=List.length_replicate
@[simp] theorem ani (f:α→β):List.map f (rep n a)=rep n (f a):=List.map_replicate
@[simp] theorem amq (p:α→Bool):(rep (n+1) a).all p=p a:=by
 unfold rep;rw [List.all_replicate];simp
@[simp] theorem ag9 {i:Nat} (h:i < (rep n a).length):(rep n a)[i]=a:=by
 unfold rep;exact List.getElem_replicate _
@[simp] theorem acZ:List.take n (rep n a)=rep n a:=List.take_of_length_le (by simp)
@[simp] theorem akX (n:Nat):(rep (n+1) a).isEmpty=false:=rfl
end
end Go.Pw
end
section
set_option linter.unusedSimpArgs false
set_option linter.unusedVariables false
namespace Go.Pw
open Go Go.Pav
inductive ZO where
 | p (d:Option (Option Nat)) (g:Option (Nat × Bool)) (x:COp)
def zt:List Nat→List Opd
 | []=>[]
 | a::r=>.t a::zt r
namespace Z
def y (s:Nat):ZO→ZO
 | .p d _ x=>.p d (some (s,true)) x
def z (s:Nat):ZO→ZO
 | .p d _ x=>.p d (some (s,false)) x
def d (k:Nat):ZO→ZO
 | .p _ g x=>.p (some (some k)) g x
def n:ZO→ZO
 | .p _ g x=>.p (some none) g x
def m (a:Nat):ZO:=.p none none (.mv (.t a))
def i (k:Int):ZO:=.p none none (.mv (.c (.int .i64 k)))
def l (k a:Nat):ZO:=.p none none (.load k false (.t a))
def h (k a:Nat):ZO:=.p none none (.load k true (.t a))
def f (o a:Nat):ZO:=.p none none (.fld o (.t a))
def po (a b:Nat):ZO:=.p none none (.pick (.t a) (.c (.bool true)) (.t b))
def pa (a b:Nat):ZO:=.p none none (.pick (.t a) (.t b) (.c (.bool false)))
def ln (k a:Nat):ZO:=.p none none (.len k (.t a))
def ix (k a b:Nat):ZO:=.p none none (.idxs k (.t a) (.t b))
def ex (k a:Nat):ZO:=.p none none (.ext k (.t a))
def nk (a:Nat):ZO:=.p none none (.jI (.t a))
def bx (a:Nat):ZO:=.p none none (.box (.t a))
def nt (a:Nat):ZO:=.p none none (.un .not (.t a))
def st (k a b:Nat):ZO:=.p none none (.store k (.t a) (.t b))
def E (x:COp):ZO:=.p none none x
def tt:ZO:=.p none none (.mv (.c (.bool true)))
def ff:ZO:=.p none none (.mv (.c (.bool false)))
def ca (g:Nat) (q:List Nat):ZO:=.p none none (.call g (zt q))
def eq (a b:Nat):ZO:=.p none none (.bin .eql (.t a) (.t b))
def eqi (a:Nat) (k:Int):ZO:=.p none none (.bin .eql (.t a) (.c (.int .i64 k)))
def ne (a b:Nat):ZO:=.p none none (.bin .neq (.t a) (.t b))
def nei (a:Nat) (k:Int):ZO:=.p none none (.bin .neq (.t a) (.c (.int .i64 k)))
def lt (a b:Nat):ZO:=.p none none (.bin .lss (.t a) (.t b))
def lti (a:Nat) (k:Int):ZO:=.p none none (.bin .lss (.t a) (.c (.int .i64 k)))
def le (a b:Nat):ZO:=.p none none (.bin .leq (.t a) (.t b))
def lei (a:Nat) (k:Int):ZO:=.p none none (.bin .leq (.t a) (.c (.int .i64 k)))
def gt (a b:Nat):ZO:=.p none none (.bin .gtr (.t a) (.t b))
def gti (a:Nat) (k:Int):ZO:=.p none none (.bin .gtr (.t a) (.c (.int .i64 k)))
def ge (a b:Nat):ZO:=.p none none (.bin .geq (.t a) (.t b))
def gei (a:Nat) (k:Int):ZO:=.p none none (.bin .geq (.t a) (.c (.int .i64 k)))
def ad (a b:Nat):ZO:=.p none none (.bin .add (.t a) (.t b))
def adi (a:Nat) (k:Int):ZO:=.p none none (.bin .add (.t a) (.c (.int .i64 k)))
def sb (a b:Nat):ZO:=.p none none (.bin .sub (.t a) (.t b))
def sbi (a:Nat) (k:Int):ZO:=.p none none (.bin .sub (.t a) (.c (.int .i64 k)))
end Z
def zo:Nat→List ZO→List aX
 | _,[]=>[]
 | k,.p none g x::r=>⟨some k,g,x⟩::zo (k+1) r
 | k,.p (some j) g x::r=>⟨j,g,x⟩::zo k r
inductive ZC where
 | O (k:Nat) (l:List ZO)
 | Q (k:Nat) (l:List ZO) (s:List Nat)
 | R (k:Nat) (l:List ZO) (a:Ann)
 | U (k:Nat) (l:List ZO) (u:List (Nat × Nat)) (s:List Nat)
 | V (k:Nat) (l:List ZO) (u:List (Nat × Nat)) (a:Ann)
 | s (a b:ZC)
 | r (a:ZC)
 | c (t:Nat) (a:ZC)
 | cc (t:Nat) (a b:ZC)
 | cd (x:Opd) (a b:ZC)
 | B (j:Nat) (a:ZC)
 | bk (j:Nat) (a:ZC) (x:Ann)
 | lp (x:Ann) (a:ZC)
 | ee (j:Nat)
 | w (x:aB)
instance:Coe aB ZC:=⟨.w⟩
def zc:ZC→aB
 | .O k l=>.ops (zo k l) ⟨false,[],[]⟩
 | .Q k l s=>.ops (zo k l) ⟨true,s,[]⟩
 | .R k l a=>.ops (zo k l) a
 | .U k l u s=>.draw (zo k l) u ⟨true,s,[]⟩
 | .V k l u a=>.draw (zo k l) u a
 | .s a b=>.seq (zc a) (zc b)
 | .r a=>.seq (zc a) .ret
 | .c t a=>.cond (.t t) (zc a) .skip
 | .cc t a b=>.cond (.t t) (zc a) (zc b)
 | .cd x a b=>.cond x (zc a) (zc b)
 | .B j a=>.block j (zc a) ⟨false,[],[]⟩
 | .bk j a x=>.block j (zc a) x
 | .lp x a=>.loop x (zc a)
 | .ee j=>.exit j
 | .w x=>x
abbrev T (a:Nat):Opd:=.t a
abbrev N (n:Int):Opd:=.c (.int .i64 n)
abbrev zd (x:ZC) {y:aB} (_h:zc x=y:=by dsimp only [zc,zo,zt,T,N,Z.y,Z.z,Z.d,Z.n,Z.m,Z.i,Z.l,Z.h,Z.f,Z.po,Z.pa,Z.ln,Z.ix,Z.ex,Z.nk,Z.bx,Z.nt,Z.st,Z.E,Z.tt,Z.ff,Z.ca,Z.eq,Z.eqi,Z.ne,Z.nei,Z.lt,Z.lti,Z.le,Z.lei,Z.gt,Z.gti,Z.ge,Z.gei,Z.ad,Z.adi,Z.sb,Z.sbi]):aB:=y
abbrev ZL (L B:aB) (a:Ann):Prop:=∀ {β:Type} {C:aI} {b:Nat} {f:Ex × WSt→Option β} {k:List Pw.Frame} {s:WSt},CK C b f k L s=LK C b f (.sq L::k) B (canon b a s)
end Go.Pw
end
