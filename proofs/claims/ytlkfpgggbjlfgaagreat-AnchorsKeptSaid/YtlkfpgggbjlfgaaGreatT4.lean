/- Part of the theory that the claims of this work use: PwFresh, PwBare, PwSim, PwCanon, PwPrim, PwCode, PwDen, PwCk, PwSimp, PwZip. No conditions of its own. -/
import Derived.Test.YtlkfpgggbjlfgaaGreatT3
section
set_option linter.unusedSimpArgs false
set_option linter.unusedVariables false
namespace Go.Pw
open Go Go.Pav
section
variable {ρ ρ2:Nat→Nat} {V A V2 A2:Nat→Prop} {b nid b' mid:Nat}
theorem Gu {R:AV→AV→Prop}:∀ (l l':List AV),l.length=l'.length→(∀ (j:Nat) (x x':AV),l[j]?=some x→l'[j]?=some x'→∀ y,hand b nid x=some y→∃ y',hand b' mid x'=some y'∧R y y') →
 ∀ r,ny b nid l=some r→∃ r',ny b' mid l'=some r'∧bf R r r':=by
 intro l
 induction l with
 | nil =>
  intro l' hl _ r hr
  simp only [ny,Option.some.injEq] at hr
  subst hr
  have:l'=[]:=List.length_eq_zero_iff.1 hl.symm
  subst this
  exact ⟨[],rfl,.nil⟩
 | cons a l ih =>
  intro l' hl hh r hr
  cases l' with
  | nil=>simp at hl
  | cons a' l' =>
   simp only [ny] at hr
   obtain ⟨y,h1,hr⟩:=ak hr
   obtain ⟨ys,h2,rfl⟩:=aB hr
   obtain ⟨y',h3,h4⟩:=hh 0 a a' (by simp) (by simp) y h1
   obtain ⟨ys',h5,h6⟩:=ih l' (by simpa using hl) (fun j x x' p q=>hh (j+1) x x' (by simpa using p) (by simpa using q)) ys h2
   exact ⟨y'::ys',by simp only [ny,h3,h5,ob,om],.cons h4 h6⟩
theorem KO (hb:A b→(¬ V b∧b'=ρ b∧A2 nid∧¬ V2 nid∧ρ2 nid=mid)∨(V b∧A2 nid∧V2 nid)) {v u:AV} (hv:VW ρ V A v u):∀ v',hand b nid v=some v'→∃ u',hand b' mid u=some u'∧VW ρ2 V2 A2 v' u':=by
 have data:∀ {A:Nat→Prop} {x y:AV},isC x=true→VW ρ V A x y→VW ρ2 V2 A2 x y:=fun hx h=>h.isC hx
 induction hv with
 | undef v=>intro v' h;simp [hand] at h
 | bool t=>intro v' h;simp only [hand] at h;cases h;exact ⟨_,rfl,.bool t⟩
 | int k n=>intro v' h;simp only [hand] at h;cases h;exact ⟨_,rfl,.int k n⟩
 | str s=>intro v' h;simp only [hand] at h;cases h;exact ⟨_,rfl,.str s⟩
 | dU=>intro v' h;simp only [hand] at h;cases h;exact ⟨_,rfl,.dU⟩
 | aZ=>intro v' h;simp only [hand] at h;cases h;exact ⟨_,rfl,.aZ⟩
 | dN=>intro v' h;simp only [hand] at h;cases h;exact ⟨_,rfl,.dN⟩
 | bI=>intro v' h;simp only [hand] at h;cases h;exact ⟨_,rfl,.bI⟩
 | iZ z ex=>intro v' h;simp only [hand] at h;cases h;exact ⟨_,rfl,.iZ z ex⟩
 | ro z es es' ex ex' hc hl hx he hr _=>intro v' h;simp only [hand] at h;cases h;exact ⟨_,rfl,data rfl (VW.ro (A:=A) z es es' ex ex' hc hl hx he hr)⟩
 | rop cs cs' hl hr _=>intro v' h;simp only [hand] at h;cases h;exact ⟨_,rfl,data rfl (VW.rop (A:=A) cs cs' hl hr)⟩
 | ptr c i o hA hV =>
  intro v' h
  simp only [hand] at h
  split at h
  · rename_i e
    cases h
    subst e
    rcases hb hA with ⟨q1,q2,q3,q4,q5⟩ | ⟨q1,_⟩
    · refine ⟨.ptr mid i o,by simp only [hand,q2,if_true],?_⟩
      rw [← q5];exact .ptr nid i o q3 q4
    · exact absurd q1 hV
  · cases h
 | sl c z i len cap ex ex' hA hV hx =>
  intro v' h
  simp only [hand] at h
  split at h
  · rename_i e
    cases h
    subst e
    rcases hb hA with ⟨q1,q2,q3,q4,q5⟩ | ⟨q1,_⟩
    · refine ⟨.sl mid z i len cap ex',by simp only [hand,q2,if_true],?_⟩
      rw [← q5];exact .sl nid z i len cap ex ex' q3 q4 hx
    · exact absurd q1 hV
  · cases h
 | slv c z ex v hA hV hv =>
  intro v' h
  simp only [hand] at h
  split at h
  · rename_i e
    cases h
    subst e
    rcases hb hA with ⟨q1,_⟩ | ⟨_,q2,q3⟩
    · exact absurd hV q1
    · refine ⟨v,?_,.slv nid z ex v q2 q3 hv⟩
      rcases hv with rfl | rfl <;> rfl
  · cases h
 | map c hA hV=>intro v' h;simp [hand] at h
 | fn f cs cs' hl hr ih =>
  intro v' h
  simp only [hand] at h
  obtain ⟨r,h1,rfl⟩:=aB h
  obtain ⟨r',h2,h3⟩:=Gu cs cs' hl (fun j x x' p q y hy=>ih j x x' p q hb y hy) r h1
  exact ⟨.fn f r',by simp only [hand,h2,om],.jo h3⟩
 | agg cs cs' hl hr ih =>
  intro v' h
  simp only [hand] at h
  obtain ⟨r,h1,rfl⟩:=aB h
  obtain ⟨r',h2,h3⟩:=Gu cs cs' hl (fun j x x' p q y hy=>ih j x x' p q hb y hy) r h1
  exact ⟨.agg r',by simp only [hand,h2,om],.Iz h3⟩
 | tup cs cs' hl hr ih =>
  intro v' h
  simp only [hand] at h
  obtain ⟨r,h1,rfl⟩:=aB h
  obtain ⟨r',h2,h3⟩:=Gu cs cs' hl (fun j x x' p q y hy=>ih j x x' p q hb y hy) r h1
  exact ⟨.tup r',by simp only [hand,h2,om],.lq h3⟩
theorem ahE (hA:A b) (hV:¬ V b) {v u:AV} (hv:VW ρ V A v u):∀ v',hand b nid v=some v'→(pO v=none∧pO u=none)∨(pO v=some b∧pO u=some (ρ b)):=by
 have lst:∀ (l l':List AV),l.length=l'.length→(∀ (j:Nat) (x x':AV),l[j]?=some x→l'[j]?=some x'→∀ y,hand b nid x=some y→(pO x=none∧pO x'=none)∨(pO x=some b∧pO x'=some (ρ b))) →
  ∀ r,ny b nid l=some r→(jD l=none∧jD l'=none)∨(jD l=some b∧jD l'=some (ρ b)):=by
  intro l
  induction l with
  | nil =>
   intro l' hl _ r hr
   have:l'=[]:=List.length_eq_zero_iff.1 hl.symm
   subst this
   exact .inl ⟨rfl,rfl⟩
  | cons a l ih =>
   intro l' hl hh r hr
   cases l' with
   | nil=>simp at hl
   | cons a' l' =>
    simp only [ny] at hr
    obtain ⟨y,h1,hr⟩:=ak hr
    obtain ⟨ys,h2,rfl⟩:=aB hr
    rcases hh 0 a a' (by simp) (by simp) y h1 with ⟨q1,q2⟩ | ⟨q1,q2⟩
    · rcases ih l' (by simpa using hl) (fun j x x' p q=>hh (j+1) x x' (by simpa using p) (by simpa using q)) ys h2 with ⟨q3,q4⟩ | ⟨q3,q4⟩
      · exact .inl ⟨by simp only [jD,q1,q3],by simp only [jD,q2,q4]⟩
      · exact .inr ⟨by simp only [jD,q1,q3],by simp only [jD,q2,q4]⟩
    · exact .inr ⟨by simp only [jD,q1],by simp only [jD,q2]⟩
 induction hv with
 | undef v=>intro v' h;simp [hand] at h
 | bool t=>intro v' h;exact .inl ⟨rfl,rfl⟩
 | int k n=>intro v' h;exact .inl ⟨rfl,rfl⟩
 | str s=>intro v' h;exact .inl ⟨rfl,rfl⟩
 | dU=>intro v' h;exact .inl ⟨rfl,rfl⟩
 | aZ=>intro v' h;exact .inl ⟨rfl,rfl⟩
 | dN=>intro v' h;exact .inl ⟨rfl,rfl⟩
 | bI=>intro v' h;exact .inl ⟨rfl,rfl⟩
 | iZ z ex=>intro v' h;exact .inl ⟨rfl,rfl⟩
 | ro z es es' ex ex' hc hl hx he hr _=>intro v' h;exact .inl ⟨rfl,rfl⟩
 | rop cs cs' hl hr _=>intro v' h;exact .inl ⟨rfl,rfl⟩
 | ptr c i o hA' hV' =>
  intro v' h
  simp only [hand] at h
  split at h
  · rename_i e;subst e;exact .inr ⟨rfl,rfl⟩
  · cases h
 | sl c z i len cap ex ex' hA' hV' hx =>
  intro v' h
  simp only [hand] at h
  split at h
  · rename_i e;subst e;exact .inr ⟨rfl,rfl⟩
  · cases h
 | slv c z ex v hA' hV' hv =>
  intro v' h
  simp only [hand] at h
  split at h
  · rename_i e;subst e;exact absurd hV' hV
  · cases h
 | map c hA' hV'=>intro v' h;simp [hand] at h
 | fn f cs cs' hl hr ih=>intro v' h;simp only [hand] at h;obtain ⟨r,h1,rfl⟩:=aB h;exact lst cs cs' hl (fun j x x' p q y hy=>ih j x x' p q hA y hy) r h1
 | agg cs cs' hl hr ih=>intro v' h;simp only [hand] at h;obtain ⟨r,h1,rfl⟩:=aB h;exact lst cs cs' hl (fun j x x' p q y hy=>ih j x x' p q hA y hy) r h1
 | tup cs cs' hl hr ih=>intro v' h;simp only [hand] at h;obtain ⟨r,h1,rfl⟩:=aB h;exact lst cs cs' hl (fun j x x' p q y hy=>ih j x x' p q hA y hy) r h1
theorem Vf (hb:A b→V b) {v u:AV} (hv:VW ρ V A v u):∀ v',hand b nid v=some v'→pO u=none:=by
 have lst:∀ (l l':List AV),l.length=l'.length→(∀ (j:Nat) (x x':AV),l[j]?=some x→l'[j]?=some x'→∀ y,hand b nid x=some y→pO x'=none) →
  ∀ r,ny b nid l=some r→jD l'=none:=by
  intro l
  induction l with
  | nil =>
   intro l' hl _ r hr
   have:l'=[]:=List.length_eq_zero_iff.1 hl.symm
   subst this
   rfl
  | cons a l ih =>
   intro l' hl hh r hr
   cases l' with
   | nil=>simp at hl
   | cons a' l' =>
    simp only [ny] at hr
    obtain ⟨y,h1,hr⟩:=ak hr
    obtain ⟨ys,h2,rfl⟩:=aB hr
    have q1:=hh 0 a a' (by simp) (by simp) y h1
    have q2:=ih l' (by simpa using hl) (fun j x x' p q=>hh (j+1) x x' (by simpa using p) (by simpa using q)) ys h2
    simp only [jD,q1,q2]
 induction hv with
 | undef v=>intro v' h;simp [hand] at h
 | bool t=>intro v' h;rfl
 | int k n=>intro v' h;rfl
 | str s=>intro v' h;rfl
 | dU=>intro v' h;rfl
 | aZ=>intro v' h;rfl
 | dN=>intro v' h;rfl
 | bI=>intro v' h;rfl
 | iZ z ex=>intro v' h;rfl
 | ro z es es' ex ex' hc hl hx he hr _=>intro v' h;rfl
 | rop cs cs' hl hr _=>intro v' h;rfl
 | ptr c i o hA' hV' =>
  intro v' h
  simp only [hand] at h
  split at h
  · rename_i e;subst e;exact absurd (hb hA') hV'
  · cases h
 | sl c z i len cap ex ex' hA' hV' hx =>
  intro v' h
  simp only [hand] at h
  split at h
  · rename_i e;subst e;exact absurd (hb hA') hV'
  · cases h
 | slv c z ex v hA' hV' hv=>intro v' h;rcases hv with rfl | rfl <;> rfl
 | map c hA' hV'=>intro v' h;simp [hand] at h
 | fn f cs cs' hl hr ih=>intro v' h;simp only [hand] at h;obtain ⟨r,h1,rfl⟩:=aB h;exact lst cs cs' hl (fun j x x' p q y hy=>ih j x x' p q hb y hy) r h1
 | agg cs cs' hl hr ih=>intro v' h;simp only [hand] at h;obtain ⟨r,h1,rfl⟩:=aB h;exact lst cs cs' hl (fun j x x' p q y hy=>ih j x x' p q hb y hy) r h1
 | tup cs cs' hl hr ih=>intro v' h;simp only [hand] at h;obtain ⟨r,h1,rfl⟩:=aB h;exact lst cs cs' hl (fun j x x' p q y hy=>ih j x x' p q hb y hy) r h1
theorem PG {R:AV→AV→Prop}:∀ {l l':List AV},bf R l l'→(∀ x x',R x x'→gX x=true→gX x'=true)→nD l=true→nD l'=true:=by
 intro l
 induction l with
 | nil=>intro l' h _ _;have:=h.dZ;subst this;rfl
 | cons a l ih =>
  intro l' h hf hb
  obtain ⟨b,r,rfl,h1,h2⟩:=h.dA
  simp only [nD,Bool.and_eq_true] at hb ⊢
  exact ⟨hf _ _ h1 hb.1,ih h2 hf hb.2⟩
theorem EN {v u:AV} (hv:VW ρ V A v u):gX v=true→gX u=true:=by
 have lst:∀ (l l':List AV),l.length=l'.length→(∀ (j:Nat) (x x':AV),l[j]?=some x→l'[j]?=some x'→gX x=true→gX x'=true)→nD l=true→nD l'=true:=fun l l' h1 h2 h3 =>
  PG (R:=fun x x'=>gX x=true→gX x'=true) ⟨h1,h2⟩ (fun x x' h=>h) h3
 induction hv with
 | undef v=>intro h;simp [gX] at h
 | iZ z ex=>intro h;rfl
 | ro z es es' ex ex' hc hl hx he hr _ =>
  intro h
  simp only [gX,Bool.and_eq_true,List.isEmpty_iff] at h ⊢
  obtain ⟨rfl,rfl⟩:=h
  exact ⟨List.length_eq_zero_iff.1 hl.symm,hx rfl⟩
 | rop=>intro h;simp [gX] at h
 | slv c z ex v hA hV hv=>intro h;rcases hv with rfl | rfl <;> rfl
 | fn f cs cs' hl hr ih=>intro h;simp only [gX] at h ⊢;exact lst cs cs' hl (fun j x x' p q=>ih j x x' p q) h
 | agg cs cs' hl hr ih=>intro h;simp only [gX] at h ⊢;exact lst cs cs' hl (fun j x x' p q=>ih j x x' p q) h
 | tup cs cs' hl hr ih=>intro h;simp only [gX] at h ⊢;exact lst cs cs' hl (fun j x x' p q=>ih j x x' p q) h
 | _=>intro h;rfl
theorem YB {l l':List AV} (h:bf (VW ρ V A) l l'):nD l=true→nD l'=true:=PG h fun _ _ h=>EN h
theorem WH {x u:AV} (h:VW ρ V A x u) (hc:isC x=true):lQ u=true:=by
 cases h with
 | undef=>simp [Pw.isC] at hc
 | ptr=>simp [Pw.isC] at hc
 | sl=>simp [Pw.isC] at hc
 | slv=>simp [Pw.isC] at hc
 | map=>simp [Pw.isC] at hc
 | agg=>simp [Pw.isC] at hc
 | tup=>simp [Pw.isC] at hc
 | fn f cs cs' hl hr =>
  cases cs with
  | nil =>
   have:cs'=[]:=List.length_eq_zero_iff.1 hl.symm
   subst this
   rfl
  | cons a r=>simp [Pw.isC] at hc
 | _=>rfl
end
end Go.Pw
end
section
set_option linter.unusedSimpArgs false
set_option linter.unusedVariables false
namespace Go.Pw
open Go Go.Pav
section
variable {ρ:Nat→Nat} {V A:Nat→Prop} {h:aJ} {h':Heap}
theorem Ui {L L':List Nat} (hLL:∀ b ∈ L,¬ V b→ρ b ∈ L') {v u:AV} (hv:VW ρ V A v u) (hk:cO L v=true):cO L' u=true:=by
 have lst:∀ {l l':List AV},l.length=l'.length→ql L l=true→(∀ (j:Nat) (x x':AV),l[j]?=some x→l'[j]?=some x'→cO L x=true→cO L' x'=true)→ql L' l'=true:=by
  intro l
  induction l with
  | nil=>intro l' hl _ _;cases l' with
   | nil=>rfl
   | cons _ _=>simp at hl
  | cons a r ih =>
   intro l' hl hk hr
   cases l' with
   | nil=>simp at hl
   | cons a' r' =>
    simp only [ql,Bool.and_eq_true] at hk ⊢
    exact ⟨hr 0 a a' rfl rfl hk.1,ih (by simpa using hl) hk.2 fun j x x' h1 h2=>hr (j+1) x x' (by simpa using h1) (by simpa using h2)⟩
 induction hv with
 | undef v=>simp [cO] at hk
 | iZ z ex=>rfl
 | ro z es es' ex ex' hc hl hx he hr _ =>
  simp only [cO,Bool.and_eq_true,List.isEmpty_iff] at hk ⊢
  obtain ⟨rfl,rfl⟩:=hk
  exact ⟨List.length_eq_zero_iff.1 (by simpa using hl.symm),hx rfl⟩
 | rop=>simp [cO] at hk
 | ptr b i o hA hV=>simp only [cO,List.contains_iff_mem] at hk ⊢;exact hLL b hk hV
 | sl b z i len cap ex ex' hA hV hx=>simp only [cO,List.contains_iff_mem] at hk ⊢;exact hLL b hk hV
 | slv b z ex v hA hV hv=>rcases hv with rfl | rfl <;> rfl
 | map=>simp [cO] at hk
 | fn f cs cs' hl hr ih=>simp only [cO] at hk ⊢;exact lst hl hk fun j x x' h1 h2 h3=>ih j x x' h1 h2 h3
 | agg cs cs' hl hr ih=>simp only [cO] at hk ⊢;exact lst hl hk fun j x x' h1 h2 h3=>ih j x x' h1 h2 h3
 | tup cs cs' hl hr ih=>simp only [cO] at hk ⊢;exact lst hl hk fun j x x' h1 h2 h3=>ih j x x' h1 h2 h3
 | _=>rfl
theorem UA {L:List Nat} {v u:AV} (hv:VW ρ V A v u) (hk:cO L v=true):VW ρ (fun b=>V b∧b ∈ L) (fun b=>A b∧b ∈ L) v u:=by
 induction hv with
 | undef v=>simp [cO] at hk
 | bool b=>exact .bool b
 | int k n=>exact .int k n
 | str s=>exact .str s
 | dU=>exact .dU
 | aZ=>exact .aZ
 | dN=>exact .dN
 | bI=>exact .bI
 | iZ z ex=>exact .iZ z ex
 | ro z es es' ex ex' hc hl hx he hr _ =>
  simp only [cO,Bool.and_eq_true,List.isEmpty_iff] at hk
  obtain ⟨rfl,rfl⟩:=hk
  refine .ro z [] es' true ex' (by simp) hl hx (by simp) (by simp)
 | rop=>simp [cO] at hk
 | ptr b i o hA hV=>simp only [cO,List.contains_iff_mem] at hk;exact .ptr b i o ⟨hA,hk⟩ fun q=>hV q.1
 | sl b z i len cap ex ex' hA hV hx=>simp only [cO,List.contains_iff_mem] at hk;exact .sl b z i len cap ex ex' ⟨hA,hk⟩ (fun q=>hV q.1) hx
 | slv b z ex v hA hV hv=>simp only [cO,List.contains_iff_mem] at hk;exact .slv b z ex v ⟨hA,hk⟩ ⟨hV,hk⟩ hv
 | map=>simp [cO] at hk
 | fn f cs cs' hl hr ih=>exact .fn f cs cs' hl fun j x x' h1 h2=>ih j x x' h1 h2 (fM (by simpa only [cO] using hk) x (List.mem_of_getElem? h1))
 | agg cs cs' hl hr ih=>exact .agg cs cs' hl fun j x x' h1 h2=>ih j x x' h1 h2 (fM (by simpa only [cO] using hk) x (List.mem_of_getElem? h1))
 | tup cs cs' hl hr ih=>exact .tup cs cs' hl fun j x x' h1 h2=>ih j x x' h1 h2 (fM (by simpa only [cO] using hk) x (List.mem_of_getElem? h1))
theorem Ky {l l':List AV} {u:AV} (hl:l.length=l'.length) (hu:u ∈ l'):∃ (j:Nat) (v:AV),l[j]?=some v∧l'[j]?=some u:=by
 obtain ⟨j,hj,e⟩:=List.getElem_of_mem hu
 exact ⟨j,l[j]'(by omega),List.getElem?_eq_getElem (by omega),by rw [List.getElem?_eq_getElem hj,e]⟩
theorem Ho {l l':List AV} {v:AV} (hl:l.length=l'.length) (hu:v ∈ l):∃ (j:Nat) (u:AV),l[j]?=some v∧l'[j]?=some u:=by
 obtain ⟨j,hj,e⟩:=List.getElem_of_mem hu
 exact ⟨j,l'[j]'(by omega),by rw [List.getElem?_eq_getElem hj,e],List.getElem?_eq_getElem (by omega)⟩
theorem SN (H:HW ρ V A h h') {L:List Nat} (hL:∀ b ∈ L,jC L (Pav.get h b)=true):∀ (n:Nat) (v u:AV),VW ρ V A v u→cO L v=true→∀ b' ∈ reach h' n u,∃ b ∈ L,b'=ρ b∧¬ V b∧A b:=by
 intro n
 induction n with
 | zero=>intro v u _ _ b hb;simp [reach] at hb
 | succ n ih =>
  intro v u hv hk b' hb'
  have obj:∀ b,b ∈ L→¬ V b→∃ z es es' mu',Pav.get h' (ρ b)=some (.cells z es' mu')∧bf (bf (VW ρ V A)) es es'∧∀ e ∈ es,ql L e=true:=by
   intro b hb hV
   have h1:=hL b hb
   cases hg:Pav.get h b with
   | none=>rw [hg] at h1;simp [jC] at h1
   | some o =>
    rw [hg] at h1
    obtain ⟨o',g1,g2⟩:=H.obj b o hg hV
    cases o with
    | cells z es mu dt =>
     obtain ⟨es',mu',rfl,_,g3,_⟩:=g2
     simp only [jC,Bool.and_eq_true,List.all_eq_true] at h1
     exact ⟨z,es,es',mu',g1,g3,h1.2⟩
    | map es=>simp [jC] at h1
    | iter s p=>simp [jC] at h1
  have cell:∀ {e e':List AV},bf (VW ρ V A) e e'→ql L e=true→∀ x' ∈ e',b' ∈ reach h' n x'→∃ b ∈ L,b'=ρ b∧¬ V b∧A b:=by
   intro e e' hr hk x' hx' hb
   obtain ⟨j,hj,q⟩:=List.getElem_of_mem hx'
   obtain ⟨x,q2,q3⟩:=hr.get' (List.getElem?_eq_getElem hj)
   rw [q] at q3
   exact ih x x' q3 (fM hk x (List.mem_of_getElem? q2)) b' hb
  cases hv with
  | ptr b i o hA hV =>
   simp only [cO,List.contains_iff_mem] at hk
   obtain ⟨z,es,es',mu',g1,g2,g3⟩:=obj b hk hV
   simp only [reach,g1,List.mem_cons] at hb'
   rcases hb' with rfl | hb'
   · exact ⟨b,hk,rfl,hV,hA⟩
   · simp only [List.mem_flatMap] at hb'
     obtain ⟨x',hx',hb'⟩:=hb'
     have hx2:=List.mem_of_mem_drop hx'
     cases he:es'[i]? with
     | none=>rw [he] at hx2;simp at hx2
     | some e' =>
      rw [he] at hx2
      obtain ⟨e,q1,q2⟩:=g2.get' he
      exact cell q2 (g3 e (List.mem_of_getElem? q1)) x' hx2 hb'
  | sl b z i len cap ex ex' hA hV hx =>
   simp only [cO,List.contains_iff_mem] at hk
   obtain ⟨z,es,es',mu',g1,g2,g3⟩:=obj b hk hV
   simp only [reach,g1,List.mem_cons] at hb'
   rcases hb' with rfl | hb'
   · exact ⟨b,hk,rfl,hV,hA⟩
   · simp only [List.mem_flatMap] at hb'
     obtain ⟨e',he',x',hx',hb'⟩:=hb'
     have he2:=List.mem_of_mem_drop (List.mem_of_mem_take he')
     obtain ⟨j,hj,q⟩:=List.getElem_of_mem he2
     obtain ⟨e,q1,q2⟩:=g2.get' (List.getElem?_eq_getElem hj)
     rw [q] at q2
     exact cell q2 (g3 e (List.mem_of_getElem? q1)) x' hx' hb'
  | slv b z ex v hA hV hv=>rcases hv with rfl | rfl <;> simp [reach] at hb'
  | map=>simp [cO] at hk
  | rop=>simp [cO] at hk
  | undef=>simp [cO] at hk
  | fn f cs cs' hl hr =>
   simp only [cO] at hk
   simp only [reach,List.mem_flatMap] at hb'
   obtain ⟨x',hx',hb'⟩:=hb'
   obtain ⟨j,x,q1,q2⟩:=Ky hl hx'
   exact ih x x' (hr j x x' q1 q2) (fM hk x (List.mem_of_getElem? q1)) b' hb'
  | agg cs cs' hl hr =>
   simp only [cO] at hk
   simp only [reach,List.mem_flatMap] at hb'
   obtain ⟨x',hx',hb'⟩:=hb'
   obtain ⟨j,x,q1,q2⟩:=Ky hl hx'
   exact ih x x' (hr j x x' q1 q2) (fM hk x (List.mem_of_getElem? q1)) b' hb'
  | tup cs cs' hl hr =>
   simp only [cO] at hk
   simp only [reach,List.mem_flatMap] at hb'
   obtain ⟨x',hx',hb'⟩:=hb'
   obtain ⟨j,x,q1,q2⟩:=Ky hl hx'
   exact ih x x' (hr j x x' q1 q2) (fM hk x (List.mem_of_getElem? q1)) b' hb'
  | _=>simp [reach] at hb'
theorem IG (H:HW ρ V A h h'):∀ (n:Nat) (v u:AV),VW ρ V A v u→∀ b ∈ aK h n v,¬ V b→ρ b ∈ reach h' n u:=by
 intro n
 induction n with
 | zero=>intro v u _ b hb;simp [aK] at hb
 | succ n ih =>
  intro v u hv b hb hVb
  cases hv with
  | ptr c i o hA hV =>
   simp only [aK,List.mem_cons] at hb
   simp only [reach,List.mem_cons]
   rcases hb with rfl | hb
   · exact .inl rfl
   · refine .inr ?_
     split at hb
     · rename_i zb es mu dt hg
       obtain ⟨o',g1,es',mu',rfl,_,ge,gd⟩:=H.obj c _ hg hV
       split at hb
       · cases hb
       · simp only [g1]
         simp only [List.mem_flatMap] at hb ⊢
         obtain ⟨x,hx,hb⟩:=hb
         cases he:es[i]? with
         | none=>rw [he] at hx;simp at hx
         | some e =>
          rw [he] at hx
          obtain ⟨e',q1,q2⟩:=ge.get he
          rw [q1]
          simp only [Option.getD_some] at hx ⊢
          obtain ⟨j,hj,q⟩:=List.getElem_of_mem hx
          obtain ⟨x',q3,q4⟩:=(q2.drop o).get (List.getElem?_eq_getElem hj)
          rw [q] at q4
          exact ⟨x',List.mem_of_getElem? q3,ih x x' q4 b hb hVb⟩
     · cases hb
  | sl c z i len cap ex ex' hA hV hx =>
   simp only [aK,List.mem_cons] at hb
   simp only [reach,List.mem_cons]
   rcases hb with rfl | hb
   · exact .inl rfl
   · refine .inr ?_
     split at hb
     · rename_i zb es mu dt hg
       obtain ⟨o',g1,es',mu',rfl,_,ge,gd⟩:=H.obj c _ hg hV
       split at hb
       · cases hb
       · simp only [g1]
         simp only [List.mem_flatMap] at hb ⊢
         obtain ⟨e,he,x,hx,hb⟩:=hb
         obtain ⟨k,hk,qk⟩:=List.getElem_of_mem he
         obtain ⟨e',q1,q2⟩:=((ge.drop i).take len).get (List.getElem?_eq_getElem hk)
         rw [qk] at q2
         obtain ⟨j,hj,q⟩:=List.getElem_of_mem hx
         obtain ⟨x',q3,q4⟩:=q2.get (List.getElem?_eq_getElem hj)
         rw [q] at q4
         exact ⟨e',List.mem_of_getElem? q1,x',List.mem_of_getElem? q3,ih x x' q4 b hb hVb⟩
     · cases hb
  | slv c z ex v hA hV hv =>
   simp only [aK,List.mem_cons] at hb
   rcases hb with rfl | hb
   · exact absurd hV hVb
   · split at hb
     · split at hb
       · cases hb
       · simp at hb
     · cases hb
  | fn f cs cs' hl hr =>
   simp only [aK,reach,List.mem_flatMap] at hb ⊢
   obtain ⟨x,hx,hb⟩:=hb
   obtain ⟨j,x',q1,q2⟩:=Ho hl hx
   exact ⟨x',List.mem_of_getElem? q2,ih x x' (hr j x x' q1 q2) b hb hVb⟩
  | agg cs cs' hl hr =>
   simp only [aK,reach,List.mem_flatMap] at hb ⊢
   obtain ⟨x,hx,hb⟩:=hb
   obtain ⟨j,x',q1,q2⟩:=Ho hl hx
   exact ⟨x',List.mem_of_getElem? q2,ih x x' (hr j x x' q1 q2) b hb hVb⟩
  | tup cs cs' hl hr =>
   simp only [aK,reach,List.mem_flatMap] at hb ⊢
   obtain ⟨x,hx,hb⟩:=hb
   obtain ⟨j,x',q1,q2⟩:=Ho hl hx
   exact ⟨x',List.mem_of_getElem? q2,ih x x' (hr j x x' q1 q2) b hb hVb⟩
  | undef=>simp [aK] at hb
  | _=>simp [aK] at hb
theorem ZF (H:HW ρ V A h h') {L L':List Nat} (hLL:∀ b ∈ L,¬ V b→ρ b ∈ L') {b:Nat} (hV:¬ V b) (hk:jC L (Pav.get h b)=true):Dj L' (Pav.get h' (ρ b))=true:=by
 cases hg:Pav.get h b with
 | none=>rw [hg] at hk;simp [jC] at hk
 | some o =>
  rw [hg] at hk
  obtain ⟨o',g1,g2⟩:=H.obj b o hg hV
  rw [g1]
  cases o with
  | cells z es mu dt =>
   obtain ⟨es',mu',rfl,hmu,g3,_⟩:=g2
   simp only [jC,Dj,Bool.and_eq_true,List.all_eq_true] at hk ⊢
   refine ⟨hmu hk.1,fun e' he'=>?_⟩
   obtain ⟨j,hj,q⟩:=List.getElem_of_mem he'
   obtain ⟨e,q1,q2⟩:=g3.get' (List.getElem?_eq_getElem hj)
   rw [q] at q2
   have hke:=hk.2 e (List.mem_of_getElem? q1)
   have h1:=Ui (v:=.tup e) (u:=.tup e') hLL (VW.lq q2) (by simpa only [cO] using hke)
   simpa only [cO] using h1
  | map es=>simp [jC] at hk
  | iter s p=>simp [jC] at hk
theorem aaZ (H:HW ρ V A h h') (n:Nat) {v u:AV} (hv:VW ρ V A v u) (hk:oG h v (aK h n v)=true):UL h' u (reach h' n u)=true:=by
 simp only [oG,UL,Bool.and_eq_true,List.all_eq_true] at hk ⊢
 obtain ⟨k1,k2⟩:=hk
 have hLL:=fun b hb hV=>IG H n v u hv b hb hV
 refine ⟨Ui hLL hv k1,fun b' hb'=>?_⟩
 obtain ⟨b,q1,rfl,q3,_⟩:=SN H k2 n v u hv k1 b' hb'
 exact ZF H hLL q3 (k2 b q1)
theorem HW.keep (H:HW ρ V A h h') {L L':List Nat} (hL:∀ b ∈ L,jC L (Pav.get h b)=true) (hLL:∀ b ∈ L,¬ V b→ρ b ∈ L') :
 HW ρ (fun b=>V b∧b ∈ L) (fun b=>A b∧b ∈ L) (h.filter fun x=>L.contains x.1) (h'.filter fun x=>L'.contains x.1):=by
 have key:∀ b o,Pav.get (h.filter fun x=>L.contains x.1) b=some o→Pav.get h b=some o∧b ∈ L:=by
  intro b o hb
  rw [get_filter] at hb
  by_cases q:b ∈ L
  · rw [if_pos (by simpa using q)] at hb;exact ⟨hb,q⟩
  · rw [if_neg (by simpa using q)] at hb;cases hb
 refine ⟨fun b o hb=>?_,fun b o hb hv=>?_,fun b o hb hv=>?_,fun b hb=>⟨H.sub b hb.1,hb.2⟩,fun b c hb hc hb' hc' he=>?_⟩
 · exact ⟨H.dom b o (key b o hb).1,(key b o hb).2⟩
 · exact H.sN b o (key b o hb).1 hv.1
 · obtain ⟨q1,q2⟩:=key b o hb
   have hV:¬ V b:=fun q=>hv ⟨q,q2⟩
   obtain ⟨o',g1,g2⟩:=H.obj b o q1 hV
   have hk:=hL b q2
   rw [q1] at hk
   refine ⟨o',by rw [get_filter,if_pos (by simpa using hLL b q2 hV)];exact g1,?_⟩
   cases o with
   | cells z es mu dt =>
    obtain ⟨es',mu',rfl,hmu,g3,g4⟩:=g2
    simp only [jC,Bool.and_eq_true,List.all_eq_true] at hk
    exact ⟨es',mu',rfl,hmu,⟨g3.1,fun j e e' h1 h2=>⟨(g3.2 j e e' h1 h2).1,fun k x x' h3 h4=>UA ((g3.2 j e e' h1 h2).2 k x x' h3 h4) (fM (hk.2 e (List.mem_of_getElem? h1)) x (List.mem_of_getElem? h3))⟩⟩,g4⟩
   | map es=>simp [jC] at hk
   | iter s p=>simp [jC] at hk
 · exact H.inj b c hb.1 hc.1 (fun q=>hb' ⟨q,hb.2⟩) (fun q=>hc' ⟨q,hc.2⟩) he
end
end Go.Pw
end
section
set_option linter.unusedSimpArgs false
set_option linter.unusedVariables false
namespace Go.Pw
open Go Go.Pav
def Keeps (ρ:Nat→Nat) (V A:Nat→Prop) (ρ':Nat→Nat) (V' A':Nat→Prop):Prop:=∀ b,A b→A' b∧ρ' b=ρ b∧(V' b↔V b)
theorem Keeps.refl (ρ:Nat→Nat) (V A:Nat→Prop):Keeps ρ V A ρ V A:=fun _ h=>⟨h,rfl,Iff.rfl⟩
theorem Keeps.trans {ρ ρ1 ρ2:Nat→Nat} {V A V1 A1 V2 A2:Nat→Prop} (h:Keeps ρ V A ρ1 V1 A1) (k:Keeps ρ1 V1 A1 ρ2 V2 A2):Keeps ρ V A ρ2 V2 A2:=fun b hb=>by
 obtain ⟨h1,h2,h3⟩:=h b hb
 obtain ⟨k1,k2,k3⟩:=k b h1
 exact ⟨k1,k2.trans h2,k3.trans h3⟩
structure Lts (ρ:Nat→Nat) (V A:Nat→Prop) (n m:Nat):Prop where
 w:∀ b,A b→b < n
 p:∀ b,A b→¬ V b→ρ b < m
def yc (run:xO) (run':Run):Prop :=
 ∀ (f:Nat) (args:List AV) (h:aJ) (n:Nat) (v:AV) (h1:aJ) (n1:Nat),run f args h n=some (v,h1,n1) →
  ∀ (ρ:Nat→Nat) (V A:Nat→Prop) (args':List AV) (h':Heap) (m:Nat),bf (VW ρ V A) args args'→HW ρ V A h h'→Lts ρ V A n m →
   ∃ v' h1' m1 ρ' V' A',run' f args' h' m=some (v',h1',m1)∧VW ρ' V' A' v v'∧HW ρ' V' A' h1 h1'∧Lts ρ' V' A' n1 m1∧Keeps ρ V A ρ' V' A' ∧
    (∀ b,A' b→A b∨n≤b)∧(∀ b,A' b→¬ V' b→(A b∧ρ' b=ρ b)∨m≤ρ' b)∧n≤n1∧m≤m1
def SI (d:kF):List Nat:=match d.bar with | true=>d.wr.tail | false=>d.wr
structure Oh (ρ:Nat→Nat) (V A:Nat→Prop) (nid n mid m:Nat) (d:kF) (d':Did) (ρ':Nat→Nat) (V' A':Nat→Prop):Prop where
 v:VW ρ' V' A' d.v d'.v
 h:HW ρ' V' A' d.h d'.h
 keeps:Keeps ρ V A ρ' V' A'
 new:∀ b,A' b→A b∨b=nid∨n≤b
 afJ:∀ b,A' b→¬ V' b→(A b∧ρ' b=ρ b)∨ρ' b=mid∨m≤ρ' b
 lt:Lts ρ' V' A' d.n d'.n
 next:n≤d.n
 Ul:m≤d'.n
 bar:d'.bar=true→d.bar=true∧d.wr=[]
 rd:∀ b ∈ d'.rd,∃ c ∈ d.rd,b=ρ' c∧¬ V' c∧A' c
 wr:∀ b ∈ d'.wr,(∃ c ∈ SI d,b=ρ' c∧¬ V' c∧A' c)∨∃ k w,d.bar=true∧d.wr=k::w∧m≤b∧b < d'.n∧∀ c,A' c→¬ V' c→ρ' c=b→k≤c
section
variable {ρ:Nat→Nat} {V A:Nat→Prop} {n m:Nat} {h:aJ} {h':Heap} {e e':Env} {C:aI} {run:xO} {run':Run}
theorem Wp:∀ (v:AV),bT v=true→∀ (u:AV),VW ρ V A v u→bT u=true:=by
 intro v
 refine AV.rec (motive_1:=fun v=>bT v=true→∀ (u:AV),VW ρ V A v u→bT u=true) (motive_2:=fun _=>True)
  (motive_3:=fun l=>bP l=true→∀ l',bf (VW ρ V A) l l'→bP l'=true) ?_ ?_ ?_ ?_ ?_ ?_ ?_ ?_ ?_ ?_ ?_ ?_ ?_ ?_ ?_ ?_ ?_ ?_ ?_ ?_ v
 · intro hp;simp [bT] at hp
 · intro b hp;simp [bT] at hp
 · intro b c hp;simp [bT] at hp
 · intro b hp;simp [bT] at hp
 · intro hp;simp [bT] at hp
 · intro hp;simp [bT] at hp
 · intro hp;simp [bT] at hp
 · intro hp;simp [bT] at hp
 · intro z es ex _ hp;simp [bT] at hp
 · intro z _ hp;simp [bT] at hp
 · intro b i o _ u hu
   rw [hu.iY.1];rfl
 · intro b z i len cap ex hp;simp [bT] at hp
 · intro b _ u hu
   rw [hu.wz.1];rfl
 · intro f cs ih hp u hu
   obtain ⟨cs',rfl,hr⟩:=hu.yh
   simp only [bT];exact ih (by simpa only [bT] using hp) cs' hr
 · intro cs ih hp u hu
   obtain ⟨cs',rfl,hr⟩:=hu.mF
   simp only [bT];exact ih (by simpa only [bT] using hp) cs' hr
 · intro cs ih hp u hu
   obtain ⟨cs',rfl,hr⟩:=hu.rX
   simp only [bT];exact ih (by simpa only [bT] using hp) cs' hr
 · trivial
 · intros;trivial
 · intro hp;simp [bP] at hp
 · intro v l ih1 ih2 hp l' hr
   obtain ⟨u,t,rfl,h1,h2⟩:=hr.dA
   simp only [bP,Bool.or_eq_true] at hp ⊢
   rcases hp with hp | hp
   · exact .inl (ih1 hp u h1)
   · exact .inr (ih2 hp t h2)
theorem Q8:∀ (l:List AV),bP l=true→∀ l',bf (VW ρ V A) l l'→bP l'=true:=by
 intro l
 induction l with
 | nil=>intro hp;simp [bP] at hp
 | cons v l ih =>
  intro hp l' hr
  obtain ⟨u,t,rfl,h1,h2⟩:=hr.dA
  simp only [bP,Bool.or_eq_true] at hp ⊢
  rcases hp with hp | hp
  · exact .inl (Wp v hp u h1)
  · exact .inr (ih hp t h2)
theorem Y8:∀ (n:Nat) (v u v':AV),VW ρ V A v u→bM h n v=some v'→bT v=false→bT u=false:=by
 intro n
 induction n with
 | zero=>intro v u v' _ hf;simp [bM] at hf
 | succ n ih =>
  have lst:∀ (l l' r:List AV),bf (VW ρ V A) l l'→bg (bM h n) l=some r→bP l=false→bP l'=false:=by
   intro l
   induction l with
   | nil=>intro l' r hr _ _;rw [hr.dZ];rfl
   | cons a l ihl =>
    intro l' r hr hm hp
    obtain ⟨b,t,rfl,h1,h2⟩:=hr.dA
    simp only [bg] at hm
    obtain ⟨x,h3,hm⟩:=ak hm
    obtain ⟨xs,h4,rfl⟩:=aB hm
    simp only [bP,Bool.or_eq_false_iff] at hp ⊢
    exact ⟨ih a b x h1 h3 hp.1,ihl t xs h2 h4 hp.2⟩
  intro v u v' hv hf hp
  cases v with
  | undef=>simp [bM] at hf
  | bool b=>rw [hv.fF];simp [bT]
  | int k x=>rw [hv.dO];simp [bT]
  | str s=>rw [hv.iH];simp [bT]
  | dU=>cases hv;simp [bT]
  | aZ=>cases hv;simp [bT]
  | dN=>cases hv;simp [bT]
  | bI=>cases hv;simp [bT]
  | ro z es ex=>rcases hv.lI with ⟨rfl,rfl⟩ | ⟨es',ex',rfl,_,_,_⟩ <;> simp [bT]
  | rop cs=>obtain ⟨cs',rfl,_⟩:=hv.sV;simp [bT]
  | ptr b i o=>simp [bT] at hp
  | map b=>simp [bT] at hp
  | sl b z i len cap ex =>
   rcases hv.jB with ⟨_,_,ex',rfl,_⟩ | ⟨_,_,rfl,rfl,rfl,hu⟩
   · simp [bT]
   · rcases hu with rfl | rfl <;> simp [bT]
  | fn f cs =>
   obtain ⟨cs',rfl,hr⟩:=hv.yh
   simp only [bM] at hf
   obtain ⟨r,h1,rfl⟩:=aB hf
   simp only [bT] at hp ⊢
   exact lst cs cs' r hr h1 hp
  | agg cs =>
   obtain ⟨cs',rfl,hr⟩:=hv.mF
   simp only [bM] at hf
   obtain ⟨r,h1,rfl⟩:=aB hf
   simp only [bT] at hp ⊢
   exact lst cs cs' r hr h1 hp
  | tup cs =>
   obtain ⟨cs',rfl,hr⟩:=hv.rX
   simp only [bM] at hf
   obtain ⟨r,h1,rfl⟩:=aB hf
   simp only [bT] at hp ⊢
   exact lst cs cs' r hr h1 hp
theorem V5 {n:Nat}:∀ (l l' r:List AV),bf (VW ρ V A) l l'→bg (bM h n) l=some r→bP l=false→bP l'=false:=by
 intro l
 induction l with
 | nil=>intro l' r hr _ _;rw [hr.dZ];rfl
 | cons a l ihl =>
  intro l' r hr hm hp
  obtain ⟨b,t,rfl,h1,h2⟩:=hr.dA
  simp only [bg] at hm
  obtain ⟨x,h3,hm⟩:=ak hm
  obtain ⟨xs,h4,rfl⟩:=aB hm
  simp only [bP,Bool.or_eq_false_iff] at hp ⊢
  exact ⟨Y8 n a b x h1 h3 hp.1,ihl t xs h2 h4 hp.2⟩
theorem Oo (hr:yc run run') {f:Nat} {az az':List AV} {v:AV} (ha:bf (VD ρ V) az az') (hp:jm run f az=some v):∃ v',qU run' f az'=some v'∧VD ρ V v v':=by
 obtain ⟨⟨v0,h0,n0⟩,h1,h2⟩:=ak hp
 obtain ⟨v',h1',m1,ρ',V',A',r1,r2,r3,_⟩:=hr f az [] 0 v0 h0 n0 h1 ρ (fun _=>False) (fun _=>False) az' [] 0 (ha.mono fun x x' _ hx=>hx.data)
  ⟨fun b o hb=>by simp [Pav.get] at hb,fun b o hb=>by simp [Pav.get] at hb,fun b o hb=>by simp [Pav.get] at hb,fun b hb=>hb.elim,fun b c hb=>hb.elim⟩ ⟨fun b hb=>hb.elim,fun b hb=>hb.elim⟩
 obtain ⟨u',r4,r5⟩:=FW r3 _ _ _ _ r2 h2
 exact ⟨u',by unfold qU;rw [r1];exact r4,r5.data⟩
theorem qG:∀ (u v:dR) (h:aJ),bJ h (u++v)=bJ (bJ h u) v:=by
 intro u
 induction u with
 | nil=>intro v h;rfl
 | cons x u ih=>intro v h;obtain ⟨b,o⟩:=x;simp only [List.cons_append,bJ];exact ih v _
theorem adP (H:HW ρ V A h h') {nid:Nat} (hn:¬ A nid) (mid z:Nat) (mu dt:Bool):HW (up ρ nid mid) (addN V nid) (addN A nid) (put h nid (.cells z [] mu dt)) h':=by
 have hold:∀ b,A b→addN A nid b∧up ρ nid mid b=ρ b∧(addN V nid b↔V b):=by
  intro b hb
  have hne:b≠nid:=fun e=>hn (e ▸ hb)
  refine ⟨.inl hb,by simp [up,hne],⟨fun q=>?_,fun q=>.inl q⟩⟩
  rcases q with q | q
  · exact q
  · exact absurd q hne
 constructor
 · intro b o hb
   rw [get_put] at hb
   split at hb
   · rename_i e;exact .inr e.symm
   · exact .inl (H.dom b o hb)
 · intro b o hb hv
   rw [get_put] at hb
   split at hb
   · cases hb;exact ⟨z,mu,dt,rfl⟩
   · rename_i e
     rcases hv with q | q
     · exact H.sN b o hb q
     · exact absurd q.symm e
 · intro b o hb hv
   rw [get_put] at hb
   split at hb
   · rename_i e;exact absurd (.inr e.symm) hv
   · have hA:=H.dom b o hb
     obtain ⟨_,q2,q3⟩:=hold b hA
     obtain ⟨o',r1,r2⟩:=H.obj b o hb fun q=>hv (.inl q)
     refine ⟨o',by rw [q2];exact r1,r2.mono hold⟩
 · rintro b (q | q)
   · exact .inl (H.sub b q)
   · exact .inr q
 · rintro b c (hb | hb) (hc | hc) h1 h2 he
   · obtain ⟨_,p2,_⟩:=hold b hb
     obtain ⟨_,q2,_⟩:=hold c hc
     rw [p2,q2] at he
     exact H.inj b c hb hc (fun q=>h1 (.inl q)) (fun q=>h2 (.inl q)) he
   · exact absurd (.inr hc) h2
   · exact absurd (.inr hb) h1
   · exact hb.trans hc.symm
theorem ZJ (n b:Nat):∀ (h1 h:aJ),get (bJ h (Dp n h1)) b=if n≤b then (match get h1 b with | some o=>some o | none=>get h b) else get h b:=by
 intro h1
 induction h1 with
 | nil=>intro h;simp [Dp,bJ,Pav.get]
 | cons x r ih =>
  intro h
  obtain ⟨c,o⟩:=x
  by_cases hc:n≤c
  · have e:Dp n ((c,o)::r)=Dp n r++[(c,some o)]:=by simp [Dp,hc]
    rw [e,qG]
    simp only [bJ,EM,get_put,Pav.get]
    by_cases q:c=b
    · subst q;simp [hc]
    · simp only [if_neg q];exact ih h
  · have e:Dp n ((c,o)::r)=Dp n r:=by simp [Dp,hc]
    rw [e,ih h]
    simp only [Pav.get]
    by_cases q:c=b
    · subst q;simp [hc]
    · simp only [if_neg q]
theorem HW.union {ρ1:Nat→Nat} {V1 A1:Nat→Prop} {h1:aJ} {h1':Heap} (H:HW ρ V A h h') (H1:HW ρ1 V1 A1 h1 h1') (hA:∀ b,A b→b < n) (hA1:∀ b,A1 b→n≤b) (hp:∀ b,A b→¬ V b→ρ b < m) {m1:Nat} (hp1:∀ b,A1 b→¬ V1 b→m≤ρ1 b∧ρ1 b < m1) :
 Keeps ρ V A (fun b=>if n≤b then ρ1 b else ρ b) (fun b=>V b∨V1 b) (fun b=>A b∨A1 b)∧Keeps ρ1 V1 A1 (fun b=>if n≤b then ρ1 b else ρ b) (fun b=>V b∨V1 b) (fun b=>A b∨A1 b) ∧
 HW (fun b=>if n≤b then ρ1 b else ρ b) (fun b=>V b∨V1 b) (fun b=>A b∨A1 b) (bJ h (Dp n h1)) (aN h' (ups m m1 h1')):=by
 have k:Keeps ρ V A (fun b=>if n≤b then ρ1 b else ρ b) (fun b=>V b∨V1 b) (fun b=>A b∨A1 b):=fun b hb=>by
  have:=hA b hb
  exact ⟨.inl hb,if_neg (by omega),⟨fun q=>q.elim id fun q=>by have:=hA1 b (H1.sub b q);omega,.inl⟩⟩
 have k1:Keeps ρ1 V1 A1 (fun b=>if n≤b then ρ1 b else ρ b) (fun b=>V b∨V1 b) (fun b=>A b∨A1 b):=fun b hb=>by
  have:=hA1 b hb
  exact ⟨.inr hb,if_pos this,⟨fun q=>q.elim (fun q=>by have:=hA b (H.sub b q);omega) id,.inr⟩⟩
 have key:∀ b o,get (bJ h (Dp n h1)) b=some o→(get h1 b=some o∧n≤b)∨(get h b=some o∧¬ n≤b):=by
  intro b o hb
  rw [ZJ] at hb
  by_cases q:n≤b
  · rw [if_pos q] at hb
    cases hq:get h1 b with
    | some o1=>rw [hq] at hb;cases hb;exact .inl ⟨rfl,q⟩
    | none=>rw [hq] at hb;exact .inr ⟨hb,by have:=hA b (H.dom b _ hb);omega⟩
  · rw [if_neg q] at hb;exact .inr ⟨hb,q⟩
 refine ⟨k,k1,?_,?_,?_,?_,?_⟩
 · intro b o hb
   rcases key b o hb with ⟨q,_⟩ | ⟨q,_⟩
   · exact .inr (H1.dom b o q)
   · exact .inl (H.dom b o q)
 · intro b o hb hv
   rcases key b o hb with ⟨q,q2⟩ | ⟨q,q2⟩
   · exact H1.sN b o q ((k1 b (H1.dom b o q)).2.2.1 hv)
   · exact H.sN b o q ((k b (H.dom b o q)).2.2.1 hv)
 · intro b o hb hv
   rcases key b o hb with ⟨q,q2⟩ | ⟨q,q2⟩
   · have hA':=H1.dom b o q
     have hv':¬ V1 b:=fun p=>hv (.inr p)
     obtain ⟨o',e1,e2⟩:=H1.obj b o q hv'
     refine ⟨o',?_,e2.mono k1⟩
     rw [NG]
     simp only [if_pos q2]
     rw [if_pos (hp1 b hA' hv'),e1]
   · have hA':=H.dom b o q
     have hv':¬ V b:=fun p=>hv (.inl p)
     obtain ⟨o',e1,e2⟩:=H.obj b o q hv'
     refine ⟨o',?_,e2.mono k⟩
     rw [NG]
     simp only [if_neg q2]
     rw [if_neg (by have:=hp b hA' hv';omega)]
     exact e1
 · rintro b (q | q)
   · exact .inl (H.sub b q)
   · exact .inr (H1.sub b q)
 · have f0:∀ b,A b→(if n≤b then ρ1 b else ρ b)=ρ b:=fun b hb=>(k b hb).2.1
   have f1:∀ b,A1 b→(if n≤b then ρ1 b else ρ b)=ρ1 b:=fun b hb=>(k1 b hb).2.1
   rintro b c (hb | hb) (hc | hc) g1 g2 he
   · rw [f0 b hb,f0 c hc] at he
     exact H.inj b c hb hc (fun q=>g1 (.inl q)) (fun q=>g2 (.inl q)) he
   · rw [f0 b hb,f1 c hc] at he
     have h1:=hp b hb (fun q=>g1 (.inl q))
     have h2:=(hp1 c hc (fun q=>g2 (.inr q))).1
     omega
   · rw [f1 b hb,f0 c hc] at he
     have h1:=(hp1 b hb (fun q=>g1 (.inr q))).1
     have h2:=hp c hc (fun q=>g2 (.inl q))
     omega
   · rw [f1 b hb,f1 c hc] at he
     exact H1.inj b c hb hc (fun q=>g1 (.inr q)) (fun q=>g2 (.inr q)) he
theorem ZE (hr:yc run run') (H:HW ρ V A h h') (lt:Lts ρ V A n m) {nid mid:Nat} (hn:¬ A nid) (hnl:nid < n) (hm:∀ b,A b→¬ V b→ρ b≠mid) (hml:mid < m) {f:Nat} {args args':List AV} (ha:bf (VW ρ V A) args args') {c:wQ} (hc:jl C run f args h nid n=some c) :
 ∃ c' ρ' V' A',jd (fD C) run' f args' h' mid m=some c'∧Oh ρ V A nid n mid m (iO h n args c) (bQ h' m args' c') ρ' V' A':=by
 have whole:∀ {r:AV × aJ × Nat},run f args h n=some r→∃ r' ρ' V' A',run' f args' h' m=some r'∧Oh ρ V A nid n mid m (iO h n args (.whole r.1 r.2.1 r.2.2)) (bQ h' m args' (.whole r'.1 r'.2.1 r'.2.2)) ρ' V' A':=by
  rintro ⟨v,h1,n1⟩ hrun
  obtain ⟨v',h1',m1,ρ',V',A',r1,r2,r3,r4,r5,r6,r7,r8,r9⟩:=hr f args h n v h1 n1 hrun ρ V A args' h' m ha H lt
  refine ⟨(v',h1',m1),ρ',V',A',r1,r2,r3,r5,fun b hb=>?_,fun b hb hv=>?_,r4,r8,r9,fun _=>⟨rfl,rfl⟩,fun b hb=>by simp [bQ] at hb,fun b hb=>by simp [bQ] at hb⟩
  · rcases r6 b hb with q | q
    · exact .inl q
    · exact .inr (.inr q)
  · rcases r7 b hb hv with q | q
    · exact .inl q
    · exact .inr (.inr q)
 unfold jl at hc
 split at hc
 · rename_i hi
   split at hc
   · rename_i hfr
     obtain ⟨az,h1,h2⟩:=ak hc
     have hreach:∀ b' ∈ args'.flatMap (reach h' au),∃ b ∈ args.flatMap (aK h au),b'=ρ b∧¬ V b∧A b∧∃ z es mu dt,get h b=some (.cells z es mu dt):=by
      intro b' hb'
      simp only [List.mem_flatMap] at hb' ⊢
      obtain ⟨u,hu,hb'⟩:=hb'
      obtain ⟨j,hj,q1⟩:=List.getElem_of_mem hu
      obtain ⟨x,q2,q3⟩:=ha.get' (List.getElem?_eq_getElem hj)
      rw [q1] at q3
      obtain ⟨x',_,q4⟩:=(bW h1).2 j x q2
      obtain ⟨b,q5,q6⟩:=Gh H au x u x' q3 q4 b' hb'
      exact ⟨b,⟨x,List.mem_of_getElem? q2,q5⟩,q6⟩
     by_cases hdp:rQ f=true
     · rw [if_pos hdp] at h2
       obtain ⟨⟨v0,h0,n0⟩,hrun,h2⟩:=ak h2
       obtain ⟨hk,h2k,rfl⟩:=aB h2
       clear h2
       obtain ⟨az',h4,h5⟩:=fO (fun x y hxy x' hx'=>FW H au x y x' hxy hx') ha h1
       obtain ⟨v0',h0',m0,ρ1,V1,A1,r1,r2,r3,r4,r5,r6,r7,r8,r9⟩:=hr f az [] n v0 h0 n0 hrun ρ (fun _=>False) (fun _=>False) az' [] m (h5.mono fun x x' _ hx=>hx.data)
        ⟨fun b o hb=>by simp [Pav.get] at hb,fun b o hb=>by simp [Pav.get] at hb,fun b o hb=>by simp [Pav.get] at hb,fun b hb=>hb.elim,fun b c hb=>hb.elim⟩ ⟨fun b hb=>hb.elim,fun b hb=>hb.elim⟩
       unfold vO at h2k
       unfold Np
       by_cases hdb:yx f=true
       · rw [if_pos hdb] at h2k ⊢
         split at h2k
         case isFalse=>cases h2k
         rename_i hkW
         obtain rfl:=Option.some.inj h2k
         simp only at hkW ⊢
         have hLL:=fun b hb hV=>IG r3 au v0 v0' r2 b hb hV
         have hkx:=aaZ r3 au r2 hkW
         simp only [oG,Bool.and_eq_true,List.all_eq_true] at hkW
         have r3k:=r3.keep (L':=reach h0' au v0') hkW.2 hLL
         have r2k:=UA r2 hkW.1
         have hA1:∀ b,A1 b∧b ∈ aK h0 au v0→n≤b:=fun b hb=>(r6 b hb.1).elim (fun q=>q.elim) id
         have hp1:∀ b,A1 b∧b ∈ aK h0 au v0→¬ (V1 b∧b ∈ aK h0 au v0)→m≤ρ1 b∧ρ1 b < m0:=fun b hb hv=>⟨(r7 b hb.1 fun q=>hv ⟨q,hb.2⟩).elim (fun q=>q.1.elim) id,r4.p b hb.1 fun q=>hv ⟨q,hb.2⟩⟩
         obtain ⟨u1,u2,u3⟩:=H.union r3k lt.w hA1 lt.p hp1
         refine ⟨.deep v0' (ups m m0 (h0'.filter fun x=>(reach h0' au v0').contains x.1)) m0,(fun b=>if n≤b then ρ1 b else ρ b),(fun b=>V b∨(V1 b∧b ∈ aK h0 au v0)),(fun b=>A b∨(A1 b∧b ∈ aK h0 au v0)),?_,?_⟩
         · simp only [jd,fD,hi,Bool.true_or,if_true,hdp,Bool.and_self,h4,ob,ru,r1,om,uP,Qj,if_pos hdb,hkx,List.nil_append]
         · have f0:∀ b,A b→(if n≤b then ρ1 b else ρ b)=ρ b:=fun b hb=>(u1 b hb).2.1
           have f1:∀ b,A1 b∧b ∈ aK h0 au v0→(if n≤b then ρ1 b else ρ b)=ρ1 b:=fun b hb=>(u2 b hb).2.1
           simp only [iO,bQ]
           refine ⟨r2k.mono u2,u3,u1,?_,?_,⟨?_,?_⟩,r8,r9,fun q=>(by cases q),?_,?_⟩
           · rintro b (hb | hb)
             · exact .inl hb
             · exact .inr (.inr (hA1 b hb))
           · rintro b (hb | hb) hv
             · exact .inl ⟨hb,(u1 b hb).2.1⟩
             · refine .inr (.inr ?_)
               simp only [f1 b hb]
               exact (hp1 b hb fun q=>hv (.inr q)).1
           · rintro b (hb | hb)
             · exact Nat.lt_of_lt_of_le (lt.w b hb) r8
             · exact r4.w b hb.1
           · rintro b (hb | hb) hv
             · simp only [f0 b hb]
               exact Nat.lt_of_lt_of_le (lt.p b hb fun q=>hv (.inl q)) r9
             · simp only [f1 b hb]
               exact (hp1 b hb fun q=>hv (.inr q)).2
           · intro b' hb'
             obtain ⟨b,q1,q2,q3,q4,_⟩:=hreach b' hb'
             exact ⟨b,q1,by simp only [f0 b q4];exact q2,fun q=>q3 ((u1 b q4).2.2.1 q),.inl q4⟩
           · intro b' hb'
             refine .inr ⟨n,_,rfl,rfl,?_,?_,?_⟩
             · simp only [ups,List.map_reverse,List.mem_reverse,List.mem_map,List.mem_filter,decide_eq_true_eq] at hb'
               obtain ⟨_,⟨x,⟨_,q⟩,rfl⟩,rfl⟩:=hb'
               exact q.1
             · simp only [ups,List.map_reverse,List.mem_reverse,List.mem_map,List.mem_filter,decide_eq_true_eq] at hb'
               obtain ⟨_,⟨x,⟨_,q⟩,rfl⟩,rfl⟩:=hb'
               exact q.2
             · rintro c (hc | hc) hv he
               · simp only [f0 c hc] at he
                 have h1:=lt.p c hc fun q=>hv (.inl q)
                 have h2:m≤b':=by
                  simp only [ups,List.map_reverse,List.mem_reverse,List.mem_map,List.mem_filter,decide_eq_true_eq] at hb'
                  obtain ⟨_,⟨x,⟨_,q⟩,rfl⟩,rfl⟩:=hb'
                  exact q.1
                 omega
               · exact hA1 c hc
       · rw [if_neg hdb] at h2k ⊢
         obtain rfl:=Option.some.inj h2k
         simp only at *
         obtain ⟨k1,k2⟩:=uG H _ _ hreach
         have hA1:∀ b,A1 b→n≤b:=fun b hb=>(r6 b hb).elim (fun q=>q.elim) id
         have hp1:∀ b,A1 b→¬ V1 b→m≤ρ1 b∧ρ1 b < m0:=fun b hb hv=>⟨(r7 b hb hv).elim (fun q=>q.1.elim) id,r4.p b hb hv⟩
         obtain ⟨u1,u2,u3⟩:=k1.union r3 lt.w hA1 lt.p hp1
         refine ⟨.deep v0' (aV h' (args'.flatMap (reach h' au))++ups m m0 h0') m0,(fun b=>if n≤b then ρ1 b else ρ b),(fun b=>V b∨V1 b),(fun b=>A b∨A1 b),?_,?_⟩
         · simp only [jd,fD,hi,Bool.true_or,if_true,hdp,Bool.and_self,h4,ob,ru,r1,om,uP,Qj,if_neg hdb]
         · have f0:∀ b,A b→(if n≤b then ρ1 b else ρ b)=ρ b:=fun b hb=>(u1 b hb).2.1
           have f1:∀ b,A1 b→(if n≤b then ρ1 b else ρ b)=ρ1 b:=fun b hb=>(u2 b hb).2.1
           simp only [iO,bQ]
           refine ⟨r2.mono u2,by rw [iK];exact u3,u1,?_,?_,⟨?_,?_⟩,r8,r9,fun q=>(by cases q),?_,?_⟩
           · rintro b (hb | hb)
             · exact .inl hb
             · exact .inr (.inr (hA1 b hb))
           · rintro b (hb | hb) hv
             · exact .inl ⟨hb,(u1 b hb).2.1⟩
             · refine .inr (.inr ?_)
               simp only [f1 b hb]
               exact (hp1 b hb fun q=>hv (.inr q)).1
           · rintro b (hb | hb)
             · exact Nat.lt_of_lt_of_le (lt.w b hb) r8
             · exact r4.w b hb
           · rintro b (hb | hb) hv
             · simp only [f0 b hb]
               exact Nat.lt_of_lt_of_le (lt.p b hb fun q=>hv (.inl q)) r9
             · simp only [f1 b hb]
               exact r4.p b hb fun q=>hv (.inr q)
           · intro b' hb'
             obtain ⟨b,q1,q2,q3,q4,_⟩:=hreach b' hb'
             exact ⟨b,q1,by simp only [f0 b q4];exact q2,fun q=>q3 ((u1 b q4).2.2.1 q),.inl q4⟩
           · intro b' hb'
             rw [List.map_append] at hb'
             rcases List.mem_append.1 hb' with hb' | hb'
             · obtain ⟨c,s1,s2,s3,s4⟩:=k2 b' hb'
               exact .inl ⟨c,s1,by simp only [f0 c s4];exact s2,fun q=>s3 ((u1 c s4).2.2.1 q),.inl s4⟩
             · refine .inr ⟨n,_,rfl,rfl,?_,?_,?_⟩
               · simp only [ups,List.map_reverse,List.mem_reverse,List.mem_map,List.mem_filter,decide_eq_true_eq] at hb'
                 obtain ⟨_,⟨x,⟨_,q⟩,rfl⟩,rfl⟩:=hb'
                 exact q.1
               · simp only [ups,List.map_reverse,List.mem_reverse,List.mem_map,List.mem_filter,decide_eq_true_eq] at hb'
                 obtain ⟨_,⟨x,⟨_,q⟩,rfl⟩,rfl⟩:=hb'
                 exact q.2
               · rintro c (hc | hc) hv he
                 · simp only [f0 c hc] at he
                   have h1:=lt.p c hc fun q=>hv (.inl q)
                   have h2:m≤b':=by
                    simp only [ups,List.map_reverse,List.mem_reverse,List.mem_map,List.mem_filter,decide_eq_true_eq] at hb'
                    obtain ⟨_,⟨x,⟨_,q⟩,rfl⟩,rfl⟩:=hb'
                    exact q.1
                   omega
                 · exact hA1 c hc
     rw [if_neg hdp] at h2
     obtain ⟨x,h3,hend⟩:=ak h2
     unfold wO at hend
     split at hend
     · cases hend
     rename_i hbr0
     cases hend
     have hbr:rZ f=true→mW x=true:=by
      intro hb
      simpa [hb] using hbr0
     obtain ⟨az',h4,h5⟩:=fO (fun x y hxy x' hx'=>FW H au x y x' hxy hx') ha h1
     obtain ⟨⟨v0,h0,n0⟩,hrun,hx⟩:=ak h3
     obtain ⟨v0',h0',m0,ρ1,V1,A1,r1,r2,r3,r4,_⟩:=hr f az [] 0 v0 h0 n0 hrun ρ (fun _=>False) (fun _=>False) az' [] 0 (h5.mono fun x x' _ hx=>hx.data)
      ⟨fun b o hb=>by simp [Pav.get] at hb,fun b o hb=>by simp [Pav.get] at hb,fun b o hb=>by simp [Pav.get] at hb,fun b hb=>hb.elim,fun b c hb=>hb.elim⟩ ⟨fun b hb=>hb.elim,fun b hb=>hb.elim⟩
     have hmk:HW ρ V A (bJ h (wL f (aW h (args.flatMap (aK h au))))) (aN h' (Bj f (aV h' (args'.flatMap (reach h' au))))) ∧
      ∀ b' ∈ (Bj f (aV h' (args'.flatMap (reach h' au)))).map (·.1),∃ b ∈ (wL f (aW h (args.flatMap (aK h au)))).map (·.1),b'=ρ b∧¬ V b∧A b:=by
      unfold Bj wL
      split
      · exact ⟨H,fun b hb=>by simp at hb⟩
      · exact uG H _ _ hreach
     obtain ⟨k1,k2⟩:=hmk
     have hgo:∀ {x':AV × Upd},iM run' f az' mid=some x'→(rZ f=true→uq x'=true)→jd (fD C) run' f args' h' mid m=some (.data x'.1 (Bj f (aV h' (args'.flatMap (reach h' au)))++x'.2)):=by
      intro x' hx' hb'
      have hb2:(rZ f&&!uq x')=false:=by
       cases hq:rZ f with
       | false=>rfl
       | true=>simp [hb' hq]
      have hdp':rQ f=false:=by simpa using hdp
      simp only [jd,fD,hi,Bool.true_or,if_true,hfr,hdp',Bool.and_self,Bool.and_false,h4,hx',ob,Ae,hb2,Bool.false_eq_true,if_false]
     have rdOk:∀ {ρ':Nat→Nat} {V' A':Nat→Prop},(∀ b,A b→A' b∧ρ' b=ρ b∧(V' b↔V b))→∀ b' ∈ args'.flatMap (reach h' au),∃ c ∈ args.flatMap (aK h au),b'=ρ' c∧¬ V' c∧A' c:=by
      intro ρ' V' A' hk b' hb'
      obtain ⟨b,q1,q2,q3,q4,_⟩:=hreach b' hb'
      obtain ⟨s1,s2,s3⟩:=hk b q4
      exact ⟨b,q1,by rw [s2];exact q2,fun q=>q3 (s3.1 q),s1⟩
     have hold2:∀ b,A b→addN A nid b∧up ρ nid mid b=ρ b∧(addN V nid b↔V b):=by
      intro b hb
      have hne:b≠nid:=fun e=>hn (e ▸ hb)
      refine ⟨.inl hb,by simp [up,hne],⟨fun q=>?_,fun q=>.inl q⟩⟩
      rcases q with q | q
      · exact q
      · exact absurd q hne
     have hold1:∀ b,A b→addN A nid b∧up ρ nid mid b=ρ b∧(V b↔V b):=pX hn
     have hVn:¬ V nid:=fun q=>hn (H.sub nid q)
     simp only at hx
     split at hx
     · rename_i hown
       obtain ⟨v,h6,rfl⟩:=aB hx
       have hnA:¬ A1 n0:=fun q=>Nat.lt_irrefl _ (r4.w n0 q)
       obtain ⟨u',q1,q2⟩:=KO (ρ2:=ρ) (V2:=V) (A2:=A) (b':=m0) (mid:=0) (fun q=>absurd q hnA) r2 v h6
       have q3:=Vf (fun q=>absurd q hnA) r2 v h6
       have hfc:iM run' f az' mid=some (u',[]):=by
        unfold iM
        rw [r1]
        simp only [ob,q3,q1,om]
       have hbx:rZ f=true→uq (u',([]:Upd))=true:=by
        intro hb
        have:=hbr hb
        simp only [mW,uq,List.all_nil,Bool.and_true] at this ⊢
        exact EN q2 this
       refine ⟨_,ρ,V,A,hgo hfc hbx,?_⟩
       simp only [iO,bQ,List.append_nil]
       exact ⟨q2,k1,Keeps.refl ρ V A,fun b hb=>.inl hb,fun b hb _=>.inl ⟨hb,rfl⟩,lt,Nat.le_refl _,Nat.le_refl _,fun q=>(by cases q),rdOk fun b hb=>⟨hb,rfl,Iff.rfl⟩,fun b hb=>.inl (k2 b hb)⟩
     · rename_i b hown
       unfold NR at hx
       split at hx
       · rename_i z es mu dt hg
         split at hx
         · rename_i hmd
           obtain ⟨v,h6,rfl⟩:=aB hx
           simp only [Bool.and_eq_true] at hmd
           obtain ⟨rfl,rfl⟩:=hmd
           have hA1:A1 b:=r3.dom b _ hg
           by_cases hV1:V1 b
           · obtain ⟨z',mu',dt',e⟩:=r3.sN b _ hg hV1
             cases e
             obtain ⟨u',q1,q2⟩:=KO (ρ2:=up ρ nid mid) (V2:=addN V nid) (A2:=addN A nid) (b':=m0) (mid:=0) (fun _=>.inr ⟨hV1,.inr rfl,.inr rfl⟩) r2 v h6
             have q3:=Vf (fun _=>hV1) r2 v h6
             have hfc:iM run' f az' mid=some (u',[]):=by
              unfold iM
              rw [r1]
              simp only [ob,q3,q1,om]
             have hbx:rZ f=true→uq (u',([]:Upd))=true:=by
              intro hb
              have:=hbr hb
              simp only [mW,uq,List.all_nil,Bool.and_true,Bool.and_eq_true] at this ⊢
              exact EN q2 this.1
             refine ⟨_,up ρ nid mid,addN V nid,addN A nid,hgo hfc hbx,?_⟩
             simp only [iO,bQ,List.append_nil]
             refine ⟨q2,?_,hold2,?_,?_,⟨?_,?_⟩,Nat.le_refl _,Nat.le_refl _,fun q=>(by cases q),rdOk hold2,?_⟩
             · rw [qG]
               exact adP k1 hn mid z true true
             · rintro c (hc | hc)
               · exact .inl hc
               · exact .inr (.inl hc)
             · rintro c (hc | hc) hv
               · exact .inl ⟨hc,(hold2 c hc).2.1⟩
               · exact absurd (.inr hc) hv
             · rintro c (hc | hc)
               · exact lt.w c hc
               · subst hc;exact hnl
             · rintro c (hc | hc) hv
               · rw [(hold2 c hc).2.1];exact lt.p c hc fun q=>hv (.inl q)
               · exact absurd (.inr hc) hv
             · intro b' hb'
               obtain ⟨c,s1,s2,s3,s4⟩:=k2 b' hb'
               obtain ⟨t1,t2,t3⟩:=hold2 c s4
               exact .inl ⟨c,by simp only [SI];rw [List.map_append];exact List.mem_append_left _ s1,by rw [t2];exact s2,fun q=>s3 (t3.1 q),t1⟩
           · obtain ⟨o',g1,g2⟩:=r3.obj b _ hg hV1
             obtain ⟨es',mu',rfl,e1,e2,e3⟩:=g2
             have hmu:=e1 rfl
             subst hmu
             obtain ⟨u',q1,q2⟩:=KO (ρ2:=up ρ nid mid) (V2:=V) (A2:=addN A nid) (b':=ρ1 b) (mid:=mid) (fun _=>.inl ⟨hV1,rfl,.inr rfl,hVn,by simp [up]⟩) r2 v h6
             have q3:pO v0'=some (ρ1 b):=by
              rcases ahE hA1 hV1 r2 v h6 with ⟨s1,_⟩ | ⟨_,s2⟩
              · rw [hown] at s1;cases s1
              · exact s2
             have hcells:bf (bf (VW (up ρ nid mid) V (addN A nid))) es es':=e2.mono fun e e' he hee=>hee.mono fun x x' hx hxx=>hxx.isC (e3 rfl e he x hx)
             have hpl:(es'.all fun e=>e.all lQ)=true:=by
              rw [List.all_eq_true]
              intro e' he'
              rw [List.all_eq_true]
              intro x' hx'
              obtain ⟨j,hj,p1⟩:=List.getElem_of_mem he'
              obtain ⟨e,p2,p3⟩:=e2.get' (List.getElem?_eq_getElem hj)
              rw [p1] at p3
              obtain ⟨k,hk,p4⟩:=List.getElem_of_mem hx'
              obtain ⟨x,p5,p6⟩:=p3.get' (List.getElem?_eq_getElem hk)
              rw [p4] at p6
              exact WH p6 (e3 rfl e (List.mem_of_getElem? p2) x (List.mem_of_getElem? p5))
             have hfc:iM run' f az' mid=some (u',[(mid,some (.cells z es' true))]):=by
              unfold iM
              rw [r1]
              simp only [ob,q3,g1,Et,hpl,Bool.and_self,if_true,q1,om]
             have hbx:rZ f=true→uq (u',[(mid,some (.cells z es' true))])=true:=by
              intro hb
              have:=hbr hb
              simp only [mW,uq,List.all_nil,List.all_cons,Tf,abQ,Bool.and_true,Bool.and_eq_true] at this ⊢
              refine ⟨EN q2 this.1,?_⟩
              rw [List.all_eq_true]
              intro e' he'
              obtain ⟨j,hj,p1⟩:=List.getElem_of_mem he'
              obtain ⟨e,p2,p3⟩:=e2.get' (List.getElem?_eq_getElem hj)
              rw [p1] at p3
              exact YB p3 (List.all_eq_true.1 this.2 e (List.mem_of_getElem? p2))
             refine ⟨_,up ρ nid mid,V,addN A nid,hgo hfc hbx,?_⟩
             simp only [iO,bQ]
             refine ⟨q2,?_,hold1,?_,?_,⟨?_,?_⟩,Nat.le_refl _,Nat.le_refl _,fun q=>(by cases q),rdOk hold1,?_⟩
             · rw [qG,iK]
               exact oI k1 hn hm ⟨es',true,rfl,fun _=>rfl,hcells,e3⟩
             · rintro c (hc | hc)
               · exact .inl hc
               · exact .inr (.inl hc)
             · rintro c (hc | hc) hv
               · exact .inl ⟨hc,(hold1 c hc).2.1⟩
               · subst hc;exact .inr (.inl (by simp [up]))
             · rintro c (hc | hc)
               · exact lt.w c hc
               · subst hc;exact hnl
             · rintro c (hc | hc) hv
               · rw [(hold1 c hc).2.1];exact lt.p c hc hv
               · subst hc;simp only [up,if_true];exact hml
             · intro b' hb'
               rw [List.map_append] at hb'
               rcases List.mem_append.1 hb' with hb' | hb'
               · obtain ⟨c,s1,s2,s3,s4⟩:=k2 b' hb'
                 obtain ⟨t1,t2,t3⟩:=hold1 c s4
                 exact .inl ⟨c,by simp only [SI];rw [List.map_append];exact List.mem_append_left _ s1,by rw [t2];exact s2,s3,t1⟩
               · simp only [List.map_cons,List.map_nil,List.mem_singleton] at hb'
                 subst hb'
                 exact .inl ⟨nid,by simp only [SI];rw [List.map_append];exact List.mem_append_right _ (by simp),by simp [up],hVn,.inr rfl⟩
         · cases hx
       · cases hx
   · rename_i hfr
     obtain ⟨r,h1,rfl⟩:=aB hc
     obtain ⟨r',ρ',V',A',r1,r2⟩:=whole h1
     refine ⟨_,ρ',V',A',?_,r2⟩
     have hfr:JU f=false:=by simpa using hfr
     have hdp':rQ f=false:=by
      unfold JU at hfr
      unfold rQ
      have:=of_decide_eq_false hfr
      exact decide_eq_false (by omega)
     simp only [jd,fD,hi,Bool.true_or,if_true,hfr,hdp',Bool.and_false,Bool.false_eq_true,if_false,su,r1,om,tidy]
 · rename_i hi
   have hi:C.inl f=false:=by simpa using hi
   split at hc
   · rename_i hp
     obtain ⟨r,h1,rfl⟩:=aB hc
     obtain ⟨r',ρ',V',A',r1,r2⟩:=whole h1
     refine ⟨_,ρ',V',A',?_,r2⟩
     simp only [Bool.and_eq_true,Bool.not_eq_true'] at hp
     simp only [jd,fD,hi,hp.1,Q8 args hp.2 args' ha,Bool.false_or,Bool.not_false,Bool.and_self,if_true,Bool.false_and,Bool.false_eq_true,if_false,su,r1,om,tidy]
   · rename_i hp
     obtain ⟨az,h1,h2⟩:=ak hc
     obtain ⟨v,h3,rfl⟩:=aB h2
     have hp':(!C.pp f&&bP args')=false:=by
      cases hpp:C.pp f with
      | true=>rfl
      | false =>
       rw [hpp] at hp
       have h0:bP args=false:=by simpa using hp
       rw [V5 args args' az ha h1 h0];rfl
     obtain ⟨az',h4,h5⟩:=fO (fun x y hxy x' hx'=>FW H au x y x' hxy hx') ha h1
     obtain ⟨v',h6,h7⟩:=Oo hr h5 h3
     have hreach:∀ b' ∈ args'.flatMap (reach h' au),∃ b ∈ args.flatMap (aK h au),b'=ρ b∧¬ V b∧A b∧∃ z es mu dt,get h b=some (.cells z es mu dt):=by
      intro b' hb'
      simp only [List.mem_flatMap] at hb' ⊢
      obtain ⟨u,hu,hb'⟩:=hb'
      obtain ⟨j,hj,q1⟩:=List.getElem_of_mem hu
      obtain ⟨x,q2,q3⟩:=ha.get' (List.getElem?_eq_getElem hj)
      rw [q1] at q3
      obtain ⟨x',_,q4⟩:=(bW h1).2 j x q2
      obtain ⟨b,q5,q6⟩:=Gh H au x u x' q3 q4 b' hb'
      exact ⟨b,⟨x,List.mem_of_getElem? q2,q5⟩,q6⟩
     refine ⟨.data v' (marks h' args' v'),ρ,V,A,by simp only [jd,fD,hi,hp',Bool.false_or,Bool.false_eq_true,if_false,h4,h6,om],?_⟩
     have hmarks:HW ρ V A (bJ h (oq h args v)) (aN h' (marks h' args' v'))∧∀ b' ∈ (marks h' args' v').map (·.1),∃ b ∈ (oq h args v).map (·.1),b'=ρ b∧¬ V b∧A b:=by
      unfold marks oq
      by_cases hr2:dn au v=true
      · rw [if_pos hr2]
        split
        · exact uG H _ _ hreach
        · have:=uG H (args.flatMap (aK h au)) [] (fun b hb=>by cases hb)
          exact ⟨this.1,fun b hb=>by simp at hb⟩
      · rw [if_neg hr2,if_neg (fun q=>hr2 (VT _ _ _ h7 q))]
        exact ⟨H,fun b hb=>by simp at hb⟩
     refine ⟨h7.mono fun _ q=>q.elim,hmarks.1,Keeps.refl ρ V A,fun b hb=>.inl hb,fun b hb _=>.inl ⟨hb,rfl⟩,lt,Nat.le_refl _,Nat.le_refl _,fun q=>(by cases q),fun b' hb'=>?_,fun b hb=>.inl (hmarks.2 b hb)⟩
     obtain ⟨b,q1,q2,q3,q4,_⟩:=hreach b' hb'
     exact ⟨b,q1,q2,q3,q4⟩
theorem Z4 (he:EW ρ V A e e') {xs:List Opd} (hx:xs.all okO=true):bf (VW ρ V A) (xs.map fun x=>x.ev e) ((xs.map erO).map fun x=>x.ev e'):=by
 rw [List.map_map]
 simp only [List.all_eq_true] at hx
 refine ⟨by simp,fun j x x' h1 h2=>?_⟩
 rw [List.getElem?_map] at h1 h2
 cases h3:xs[j]? with
 | none=>rw [h3] at h1;cases h1
 | some c=>rw [h3] at h1 h2;cases h1;cases h2;exact he.opd (hx c (List.mem_of_getElem? h3))
theorem akY (he:EW ρ V A e e') {op:COp} (ho:iQ op=true) {r:AV × dR} (hs:stepW op e h n=some r):∀ b' ∈ readsOf e' (fK op),∃ b ∈ readsOf e op,b'=ρ b∧¬ V b∧A b:=by
 have one:∀ {x:Opd},okO x=true→x.ev e≠.undef→∀ b' ∈ dV ((erO x).ev e'),∃ b ∈ dV (x.ev e),b'=ρ b∧¬ V b∧A b:=by
  intro x hx hun b' hb'
  have hv:=he.opd hx
  cases hxe:x.ev e with
  | ptr b i o=>rw [hxe] at hv;obtain ⟨q,h1,h2⟩:=hv.iY;rw [q] at hb';simp [dV] at hb' ⊢;exact ⟨hb',h2,h1⟩
  | map b=>rw [hxe] at hv;obtain ⟨q,h1,h2⟩:=hv.wz;rw [q] at hb';simp [dV] at hb' ⊢;exact ⟨hb',h2,h1⟩
  | sl b z i len cap ex =>
   rw [hxe] at hv
   rcases hv.jB with ⟨h1,h2,ex',q,_⟩ | ⟨_,_,_,_,_,q⟩
   · rw [q] at hb';simp [dV] at hb' ⊢;exact ⟨hb',h2,h1⟩
   · rcases q with q | q <;> rw [q] at hb' <;> simp [dV] at hb'
  | undef=>exact absurd hxe hun
  | ro z es ex =>
   rw [hxe] at hv
   rcases hv.lI with ⟨_,q⟩ | ⟨_,_,q,_⟩ <;> rw [q] at hb' <;> simp [dV] at hb'
  | _=>rw [hxe] at hv;cases hnm:(erO x).ev e' <;> rw [hnm] at hv hb' <;> first | (cases hv;done) | (simp [dV] at hb';done)
 have two:∀ {x y:Opd},okO x=true→okO y=true→x.ev e≠.undef→y.ev e≠.undef→∀ b' ∈ dV ((erO x).ev e')++dV ((erO y).ev e'),∃ b ∈ dV (x.ev e)++dV (y.ev e),b'=ρ b∧¬ V b∧A b:=by
  intro x y hx hy hux huy b' hb'
  rcases List.mem_append.1 hb' with q | q
  · obtain ⟨b,q1,q2⟩:=one hx hux b' q;exact ⟨b,List.mem_append.2 (.inl q1),q2⟩
  · obtain ⟨b,q1,q2⟩:=one hy huy b' q;exact ⟨b,List.mem_append.2 (.inr q1),q2⟩
 have nil:∀ b' ∈ ([]:List Nat),∃ b ∈ readsOf e op,b'=ρ b∧¬ V b∧A b:=fun b' hb'=>by cases hb'
 cases op with
 | load k ag a=>exact one ho (fun q=>by simp [stepW,ZY,ovW,om,y8,q] at hs)
 | gq k x lo hi =>
  simp only [iQ,Bool.and_eq_true] at ho
  exact one ho.1 (fun q=>by simp [stepW,DF,Af,q] at hs)
 | store k a x =>
  simp only [iQ,Bool.and_eq_true] at ho
  exact one ho.1 (fun q=>by simp [stepW,JC,uZ,q] at hs)
 | next x=>exact one ho (fun q=>by simp [stepW,UF,q] at hs)
 | len kd x=>exact one ho (fun q=>by simp [stepW,aiB,qH,ovW,om,q] at hs)
 | look kd z ok m k =>
  simp only [iQ,Bool.and_eq_true] at ho
  exact one ho.2.1 (fun q=>by simp [stepW,UE,q] at hs)
 | upd kd m k v =>
  simp only [iQ,Bool.and_eq_true] at ho
  exact one ho.1 (fun q=>by simp [stepW,adx,q] at hs)
 | app z bytes zeros s x =>
  simp only [iQ,Bool.and_eq_true] at ho
  have hux:x.ev e≠.undef:=fun q=>by simp [stepW,O5,q,jS,ob] at hs
  refine two ho.2.1 ho.2.2 (fun q=>?_) hux
  simp only [stepW,O5,q] at hs
  split at hs
  · split at hs
    · obtain ⟨_,_,hs⟩:=ak hs
      split at hs
      · simp [iR] at hs
      · cases hs
    · cases hs
  · obtain ⟨_,_,hs⟩:=ak hs
    simp [iR] at hs
 | cpy z d s =>
  simp only [iQ,Bool.and_eq_true] at ho
  refine two ho.1 ho.2 (fun q=>?_) (fun q=>by simp [stepW,XP,q,jS,ob] at hs)
  simp only [stepW,XP,q] at hs
  obtain ⟨_,_,hs⟩:=ak hs
  simp [qw] at hs
 | clr z d =>
  simp only [iQ,Bool.and_eq_true] at ho
  exact one ho.2 (fun q=>by simp [stepW,adf,BO,q] at hs)
 | _=>exact nil
theorem WC (he:EW ρ V A e e') {g:Option (Nat × Bool)} {b:Bool} (hw:wants e g=some b):wants e' g=some b:=by
 cases g with
 | none=>exact hw
 | some p =>
  obtain ⟨s,w⟩:=p
  simp only [wants] at hw ⊢
  cases hg:get e s with
  | none=>rw [hg] at hw;cases hw
  | some v =>
   obtain ⟨v',h1,h2⟩:=he s v hg
   rw [hg] at hw
   rw [h1]
   cases v with
   | bool b=>rw [h2.fF];exact hw
   | tup vs =>
    cases vs with
    | nil =>
     obtain ⟨vs',rfl,hr⟩:=h2.rX
     rw [hr.dZ];exact hw
    | cons a r=>cases hw
   | _=>cases hw
theorem Z7 (hr:yc run run') (he:EW ρ V A e e') (H:HW ρ V A h h') (lt:Lts ρ V A n m) {nid mid:Nat} (hn:¬ A nid) (hnl:nid < n) (hm:∀ b,A b→¬ V b→ρ b≠mid) (hml:mid < m)
 {o:aX} (ho:iQ o.op=true) {d:kF} (hd:gB C run o nid e h n=some d):∃ d' ρ' V' A',jr (fD C) run' (ug o) mid e' h' m=some d'∧Oh ρ V A nid n mid m d d' ρ' V' A':=by
 unfold gB at hd
 cases hw:wants e o.guard with
 | none=>rw [hw] at hd;cases hd
 | some b =>
  rw [hw] at hd
  have hw':=WC he hw
  cases b with
  | false =>
   simp only [Option.some.injEq] at hd
   subst hd
   refine ⟨⟨.tup [],h',m,false,[],[]⟩,ρ,V,A,by simp only [jr,ug,hw'],VW.lq .nil,H,Keeps.refl ρ V A,fun b hb=>.inl hb,fun b hb _=>.inl ⟨hb,rfl⟩,lt,Nat.le_refl _,Nat.le_refl _,fun q=>(by cases q),fun b hb=>(by cases hb),fun b hb=>(by cases hb)⟩
  | true =>
   simp only at hd
   have goal:∃ d' ρ' V' A',jh (fD C) run' (fK o.op) mid e' h' m=some d'∧Oh ρ V A nid n mid m d d' ρ' V' A':=by
    have callCase:∀ (f:Nat) (args args':List AV),bf (VW ρ V A) args args'→callOf e' (fK o.op)=some (some (f,args'))→callOf e o.op=some (some (f,args)) →
     ∃ d' ρ' V' A',jh (fD C) run' (fK o.op) mid e' h' m=some d'∧Oh ρ V A nid n mid m d d' ρ' V' A':=by
     intro f args args' ha hc' hc
     simp only [jH,hc] at hd
     obtain ⟨c,h1,rfl⟩:=aB hd
     obtain ⟨c',ρ',V',A',h2,h3⟩:=ZE hr H lt hn hnl hm hml ha h1
     exact ⟨_,ρ',V',A',by simp only [jh,hc',h2,om],h3⟩
    by_cases hcall:callOf e o.op=some none
    · have hcall':callOf e' (fK o.op)=some none:=by
       cases hop:o.op <;> rw [hop] at hcall <;> simp only [callOf,fK] at hcall ⊢
       · cases hcall
       · split at hcall <;> cases hcall
      simp only [jH,hcall] at hd
      obtain ⟨r,h1,rfl⟩:=aB hd
      obtain ⟨r',h2,h3⟩:=Zt he H hn hm ho h1
      have hu:=pX (ρ:=ρ) (V:=V) (m:=mid) hn
      have hVn:¬ V nid:=fun q=>hn (H.sub nid q)
      refine ⟨_,up ρ nid mid,V,addN A nid,by simp only [jh,hcall',h2,om];rfl,h3.1,h3.2.1,hu,?_,?_,⟨?_,?_⟩,Nat.le_refl _,Nat.le_refl _,fun q=>(by cases q),?_,?_⟩
      · rintro b (hb | rfl)
        · exact .inl hb
        · exact .inr (.inl rfl)
      · rintro b (hb | rfl) hv
        · exact .inl ⟨hb,(hu b hb).2.1⟩
        · exact .inr (.inl (by simp [up]))
      · rintro b (hb | rfl)
        · exact lt.w b hb
        · exact hnl
      · rintro b (hb | rfl) hv
        · rw [(hu b hb).2.1];exact lt.p b hb hv
        · simp only [up,if_true];exact hml
      · intro b' hb'
        obtain ⟨b,q1,q2,q3,q4⟩:=akY he ho h1 b' hb'
        exact ⟨b,q1,by rw [(hu b q4).2.1];exact q2,q3,.inl q4⟩
      · intro b' hb'
        exact .inl (h3.2.2 b' hb')
    · cases hop:o.op with
      | call f args =>
       rw [hop] at ho
       have:=callCase f _ _ (Z4 he ho) (by rw [hop];rfl) (by rw [hop];rfl)
       rwa [hop] at this
      | dY g args =>
       rw [hop] at ho
       simp only [iQ,Bool.and_eq_true] at ho
       have hg:=he.opd ho.1
       cases hge:g.ev e with
       | fn f caps =>
        rw [hge] at hg
        obtain ⟨caps',q,hrel⟩:=hg.yh
        have:=callCase f _ _ ((Z4 he ho.2).append hrel) (by rw [hop];simp only [fK,callOf,q]) (by rw [hop];simp only [callOf,hge])
        rwa [hop] at this
       | _ =>
        exfalso
        rw [hop] at hd
        simp only [jH,callOf,hge] at hd
        cases hd
      | _=>exact absurd (by rw [hop];rfl) hcall
   obtain ⟨d',ρ',V',A',h1,h2⟩:=goal
   exact ⟨d',ρ',V',A',by simp only [jr,ug,hw'];exact h1,h2⟩
end
end Go.Pw
end
section
set_option linter.unusedSimpArgs false
set_option linter.unusedVariables false
namespace Go.Pw
open Go Go.Pav
def Srt (e:Env):Prop:=e.Pairwise fun a b=>b.1 < a.1
theorem Srt.put {e:Env} (h:Srt e) (k:Nat) (v:AV):Srt (uF e k v):=by
 have mem:∀ (e:Env) x,x ∈ uF e k v→x=(k,v)∨x ∈ e:=by
  intro e
  induction e with
  | nil=>intro x hx;simp [uF] at hx;exact .inl hx
  | cons y e ih =>
   intro x hx
   obtain ⟨j,u⟩:=y
   simp only [uF] at hx
   split at hx
   · rcases List.mem_cons.1 hx with q | q
     · exact .inl q
     · exact .inr q
   · split at hx
     · rcases List.mem_cons.1 hx with q | q
       · exact .inl q
       · exact .inr (List.mem_cons_of_mem _ q)
     · rcases List.mem_cons.1 hx with q | q
       · exact .inr (q ▸ List.mem_cons_self)
       · rcases ih x q with q | q
         · exact .inl q
         · exact .inr (List.mem_cons_of_mem _ q)
 induction e with
 | nil=>exact List.pairwise_singleton _ _
 | cons y e ih =>
  obtain ⟨j,u⟩:=y
  have h1:∀ x ∈ e,x.1 < j:=fun x hx=>(List.pairwise_cons.1 h).1 x hx
  have h2:Srt e:=(List.pairwise_cons.1 h).2
  simp only [uF]
  split
  · rename_i hk
    refine List.pairwise_cons.2 ⟨fun x hx=>?_,h⟩
    rcases List.mem_cons.1 hx with rfl | q
    · exact hk
    · have:=h1 x q;simp only;omega
  · rename_i hk
    split
    · rename_i hj;subst hj;exact List.pairwise_cons.2 ⟨h1,h2⟩
    · rename_i hj
      refine List.pairwise_cons.2 ⟨fun x hx=>?_,ih h2⟩
      rcases mem e x hx with rfl | q
      · simp only;omega
      · exact h1 x q
theorem Srt.dM {e:Env} (h:Srt e) (d:Option Nat) (v:AV):Srt (dW e d v):=by
 cases d with
 | none=>exact h
 | some d=>exact h.put d v
theorem Us:∀ (l:List AV) (k:Nat) (acc:Env),H7 k l acc=(eF k l).reverse++acc:=by
 intro l
 induction l with
 | nil=>intro k acc;rfl
 | cons v l ih=>intro k acc;simp [H7,eF,ih]
theorem P7:∀ (l:List AV) (k:Nat),(eF k l).Pairwise (fun a b=>a.1 < b.1)∧∀ x ∈ eF k l,k≤x.1:=by
 intro l
 induction l with
 | nil=>intro k;exact ⟨List.Pairwise.nil,fun x hx=>by simp [eF] at hx⟩
 | cons v l ih =>
  intro k
  obtain ⟨h1,h2⟩:=ih (k+1)
  refine ⟨List.pairwise_cons.2 ⟨fun x hx=>by have:=h2 x hx;simp only;omega,h1⟩,fun x hx=>?_⟩
  rcases List.mem_cons.1 hx with rfl | q
  · exact Nat.le_refl _
  · have:=h2 x q;omega
theorem acv (l:List AV) (k:Nat):Srt (H7 k l []):=by
 rw [Us,List.append_nil]
 exact List.pairwise_reverse.2 (P7 l k).1
theorem Srt.get {e:Env} (h:Srt e) {k:Nat} {v:AV} (hm:(k,v) ∈ e):Pav.get e k=some v:=by
 induction e with
 | nil=>cases hm
 | cons y e ih =>
  obtain ⟨j,u⟩:=y
  have h1:∀ x ∈ e,x.1 < j:=fun x hx=>(List.pairwise_cons.1 h).1 x hx
  simp only [Pav.get]
  rcases List.mem_cons.1 hm with q | q
  · cases q;simp
  · have:=h1 _ q
    simp only at this
    rw [if_neg (by omega)]
    exact ih (List.pairwise_cons.1 h).2 q
theorem RG {k a:Nat}:∀ {l:List Nat},a ∈ tY k l→a ∈ l:=by
 intro l
 induction l with
 | nil=>intro h;exact h
 | cons b l ih =>
  intro h
  simp only [tY] at h
  split at h
  · exact List.mem_cons_of_mem _ (ih h)
  · exact h
theorem Ih:∀ (e:Env) (live:List Nat),(ou live e).Sublist e∧∀ x ∈ ou live e,x.1 ∈ live:=by
 intro e
 induction e with
 | nil=>intro live;simp [IW]
 | cons y e ih =>
  obtain ⟨j,u⟩:=y
  intro live
  simp only [Gl]
  have hsub:∀ a ∈ tY j live,a ∈ live:=fun a ha=>RG ha
  cases hd:tY j live with
  | nil=>simp [UG]
  | cons a l =>
   rw [hd] at hsub
   simp only [UG]
   split
   · rename_i ha
     obtain ⟨h1,h2⟩:=ih l
     refine ⟨h1.cons_cons _,fun x hx=>?_⟩
     rcases List.mem_cons.1 hx with rfl | q
     · simp only;subst ha;exact hsub _ (by simp)
     · exact hsub _ (List.mem_cons_of_mem _ (h2 x q))
   · obtain ⟨h1,h2⟩:=ih (a::l)
     exact ⟨h1.cons _,fun x hx=>hsub _ (h2 x hx)⟩
structure Sim (ρ:Nat→Nat) (V A:Nat→Prop) (s:WSt) (s':St):Prop where
 srt:Srt s.env
 env:EW ρ V A s.env s'.env
 heap:HW ρ V A s.heap s'.heap
 lt:Lts ρ V A s.next s'.next
def Old (base:Nat) (ρ:Nat→Nat) (V A:Nat→Prop) (ρ':Nat→Nat) (V' A':Nat→Prop):Prop:=∀ b,b < base→(A b→A' b∧ρ' b=ρ b∧(V' b↔V b))∧(A' b→A b)
theorem Old.refl (base:Nat) (ρ:Nat→Nat) (V A:Nat→Prop):Old base ρ V A ρ V A:=fun _ _=>⟨fun h=>⟨h,rfl,Iff.rfl⟩,id⟩
theorem Old.trans {base:Nat} {ρ ρ1 ρ2:Nat→Nat} {V A V1 A1 V2 A2:Nat→Prop} (h:Old base ρ V A ρ1 V1 A1) (k:Old base ρ1 V1 A1 ρ2 V2 A2):Old base ρ V A ρ2 V2 A2:=fun b hb =>
 ⟨fun ha=>by
  obtain ⟨h1,h2,h3⟩:=(h b hb).1 ha
  obtain ⟨k1,k2,k3⟩:=(k b hb).1 h1
  exact ⟨k1,k2.trans h2,k3.trans h3⟩,fun ha=>(h b hb).2 ((k b hb).2 ha)⟩
section
variable {ρ:Nat→Nat} {V A:Nat→Prop} {n m:Nat} {h:aJ} {h':Heap} {e e':Env}
theorem ZI {base:Nat} {h:aJ}:∀ (n:Nat) (w acc:List Nat),acc.Nodup→(∀ x ∈ acc,base≤x)→(close base h n w acc).Nodup∧∀ x ∈ close base h n w acc,base≤x:=by
 intro n
 induction n with
 | zero=>intro w acc h1 h2;exact ⟨h1,h2⟩
 | succ n ih =>
  intro w acc h1 h2
  cases w with
  | nil=>exact ⟨h1,h2⟩
  | cons b w =>
   simp only [close]
   split
   · exact ih w acc h1 h2
   · rename_i hb
     split
     · exact ih w acc h1 h2
     · rename_i hc
       refine ih _ _ ?_ ?_
       · have hc:b ∉ acc:=by simpa using hc
         rw [List.nodup_append]
         exact ⟨h1,by simp,fun x hx y hy=>by simp at hy;subst hy;rintro rfl;exact hc hx⟩
       · intro x hx
         rcases List.mem_append.1 hx with q | q
         · exact h2 x q
         · simp at q;subst q;omega
def pre (base:Nat) (L:List Nat) (b:Nat):Nat:=if b < base then b else L.getD (b - base) 0
theorem TD:∀ {L:List Nat} {n b c:Nat},place n L b=some c→n≤c∧L[c - n]?=some b:=by
 intro L
 induction L with
 | nil=>intro n b c h;simp [place] at h
 | cons a L ih =>
  intro n b c h
  simp only [place] at h
  split at h
  · rename_i hb;cases h;subst hb;simp
  · obtain ⟨h1,h2⟩:=ih h
    refine ⟨by omega,?_⟩
    have:c - n=(c - (n+1))+1:=by omega
    rw [this];simpa using h2
theorem abX:∀ {L:List Nat} {n i b:Nat},L.Nodup→L[i]?=some b→place n L b=some (n+i):=by
 intro L
 induction L with
 | nil=>intro n i b _ h;simp at h
 | cons a L ih =>
  intro n i b hd h
  cases i with
  | zero=>simp at h;subst h;simp [place]
  | succ i =>
   simp only [List.getElem?_cons_succ] at h
   simp only [List.nodup_cons] at hd
   simp only [place]
   rw [if_neg]
   · rw [ih hd.2 h];congr 1;omega
   · rintro rfl;exact hd.1 (List.mem_of_getElem? h)
theorem rH {base:Nat} {L:List Nat} {b c:Nat} (h:gU base L b=some c):pre base L c=b∧(c < base↔b < base)∧(c < base→c=b)∧(c < base∨c < base+L.length):=by
 unfold gU at h
 split at h
 · rename_i hb;cases h;exact ⟨by simp [pre,hb],Iff.rfl,fun _=>rfl,.inl hb⟩
 · rename_i hb
   obtain ⟨h1,h2⟩:=TD h
   have hlt:=(List.getElem?_eq_some_iff.1 h2).1
   refine ⟨?_,⟨fun q=>by omega,fun q=>absurd q hb⟩,fun q=>by omega,.inr (by omega)⟩
   unfold pre
   rw [if_neg (by omega),List.getD_eq_getElem?_getD,h2];rfl
theorem abt {ρ':Nat→Nat} {V' A':Nat→Prop} {π:Nat→Option Nat} (hπ:∀ b c,A b→π b=some c→A' c∧ρ' c=ρ b∧(V' c↔V b)) (v:AV) :
 ∀ (u v':AV),VW ρ V A v u→ren π v=some v'→VW ρ' V' A' v' u:=by
 refine AV.rec (motive_1:=fun v=>∀ (u v':AV),VW ρ V A v u→ren π v=some v'→VW ρ' V' A' v' u) (motive_2:=fun _=>True)
  (motive_3:=fun l=>∀ (l' r:List AV),bf (VW ρ V A) l l'→lF π l=some r→bf (VW ρ' V' A') r l') ?_ ?_ ?_ ?_ ?_ ?_ ?_ ?_ ?_ ?_ ?_ ?_ ?_ ?_ ?_ ?_ ?_ ?_ ?_ ?_ v
 · intro u v' _ h;simp only [ren,Option.some.injEq] at h;subst h;exact .undef _
 · intro b u v' hu h;simp only [ren,Option.some.injEq] at h;subst h;rw [hu.fF];exact .bool _
 · intro b c u v' hu h;simp only [ren,Option.some.injEq] at h;subst h;rw [hu.dO];exact .int _ _
 · intro b u v' hu h;simp only [ren,Option.some.injEq] at h;subst h;rw [hu.iH];exact .str _
 · intro u v' hu h;simp only [ren,Option.some.injEq] at h;subst h;exact hu.isC rfl
 · intro u v' hu h;simp only [ren,Option.some.injEq] at h;subst h;exact hu.isC rfl
 · intro u v' hu h;simp only [ren,Option.some.injEq] at h;subst h;exact hu.isC rfl
 · intro u v' hu h;simp only [ren,Option.some.injEq] at h;subst h;exact hu.isC rfl
 · intro z es ex _ u v' hu h;simp only [ren,Option.some.injEq] at h;subst h;exact hu.isC rfl
 · intro z _ u v' hu h;simp only [ren,Option.some.injEq] at h;subst h;exact hu.isC rfl
 · intro b i o u v' hu h
   obtain ⟨rfl,hA,hV⟩:=hu.iY
   simp only [ren] at h
   obtain ⟨c,h1,rfl⟩:=aB h
   obtain ⟨q1,q2,q3⟩:=hπ b c hA h1
   rw [← q2]
   exact .ptr c i o q1 (fun q=>hV (q3.1 q))
 · intro b z i len cap ex u v' hu h
   simp only [ren] at h
   obtain ⟨c,h1,rfl⟩:=aB h
   rcases hu.jB with ⟨hA,hV,ex',rfl,hx⟩ | ⟨hA,hV,rfl,rfl,rfl,hv⟩
   · obtain ⟨q1,q2,q3⟩:=hπ b c hA h1
     rw [← q2]
     exact .sl c z i len cap ex ex' q1 (fun q=>hV (q3.1 q)) hx
   · obtain ⟨q1,q2,q3⟩:=hπ b c hA h1
     exact .slv c z ex u q1 (q3.2 hV) hv
 · intro b u v' hu h
   obtain ⟨rfl,hA,hV⟩:=hu.wz
   simp only [ren] at h
   obtain ⟨c,h1,rfl⟩:=aB h
   obtain ⟨q1,q2,q3⟩:=hπ b c hA h1
   rw [← q2]
   exact .map c q1 (fun q=>hV (q3.1 q))
 · intro f cs ih u v' hu h
   obtain ⟨cs',rfl,hr⟩:=hu.yh
   simp only [ren] at h
   obtain ⟨r,h1,rfl⟩:=aB h
   exact VW.jo (ih cs' r hr h1)
 · intro cs ih u v' hu h
   obtain ⟨cs',rfl,hr⟩:=hu.mF
   simp only [ren] at h
   obtain ⟨r,h1,rfl⟩:=aB h
   exact VW.Iz (ih cs' r hr h1)
 · intro cs ih u v' hu h
   obtain ⟨cs',rfl,hr⟩:=hu.rX
   simp only [ren] at h
   obtain ⟨r,h1,rfl⟩:=aB h
   exact VW.lq (ih cs' r hr h1)
 · trivial
 · intros;trivial
 · intro l' r hr h
   simp only [lF,Option.some.injEq] at h;subst h
   rw [hr.dZ];exact .nil
 · intro v l ih1 ih2 l' r hr h
   obtain ⟨u,t,rfl,h1,h2⟩:=hr.dA
   simp only [lF] at h
   obtain ⟨v',h3,h⟩:=ak h
   obtain ⟨r',h4,rfl⟩:=aB h
   exact .cons (ih1 u v' h1 h3) (ih2 t r' h2 h4)
theorem ae8 {ρ':Nat→Nat} {V' A':Nat→Prop} {π:Nat→Option Nat} (hπ:∀ b c,A b→π b=some c→A' c∧ρ' c=ρ b∧(V' c↔V b)):∀ (l l' r:List AV),bf (VW ρ V A) l l'→lF π l=some r→bf (VW ρ' V' A') r l':=by
 intro l
 induction l with
 | nil=>intro l' r hr h;simp only [lF,Option.some.injEq] at h;subst h;rw [hr.dZ];exact .nil
 | cons v l ih =>
  intro l' r hr h
  obtain ⟨u,t,rfl,h1,h2⟩:=hr.dA
  simp only [lF] at h
  obtain ⟨v',h3,h⟩:=ak h
  obtain ⟨r',h4,rfl⟩:=aB h
  exact .cons (abt hπ v u v' h1 h3) (ih t r' h2 h4)
theorem Xu {ρ':Nat→Nat} {V' A':Nat→Prop} {π:Nat→Option Nat} (_hπ:∀ b c,A b→π b=some c→A' c∧ρ' c=ρ b∧(V' c↔V b)):∀ (e:Env) (r:Env),jW π e=some r→∀ k v',get r k=some v'→∃ v,get e k=some v∧ren π v=some v':=by
 intro e
 induction e with
 | nil=>intro r h k v' hk;simp only [jW,Option.some.injEq] at h;subst h;simp [Pav.get] at hk
 | cons x e ih =>
  obtain ⟨j,v⟩:=x
  intro r h k v' hk
  simp only [jW] at h
  obtain ⟨w,h1,h⟩:=ak h
  obtain ⟨r',h2,rfl⟩:=aB h
  simp only [Pav.get] at hk ⊢
  split at hk
  · rename_i hj;rw [if_pos hj];cases hk;exact ⟨v,rfl,h1⟩
  · rename_i hj;rw [if_neg hj];exact ih r' h2 k v' hk
theorem NW {π:Nat→Option Nat}:∀ (e r:Env),jW π e=some r→r.map (·.1)=e.map (·.1):=by
 intro e
 induction e with
 | nil=>intro r h;simp only [jW,Option.some.injEq] at h;subst h;rfl
 | cons x e ih =>
  obtain ⟨j,v⟩:=x
  intro r h
  simp only [jW] at h
  obtain ⟨w,h1,h⟩:=ak h
  obtain ⟨r',h2,rfl⟩:=aB h
  simp only [List.map_cons,ih r' h2]
theorem Srt.keys {e r:Env} (h:Srt e) (hk:r.map (·.1)=e.map (·.1)):Srt r:=by
 have h1:(e.map (·.1)).Pairwise (fun a b=>b < a):=List.pairwise_map.2 h
 rw [← hk] at h1
 exact List.pairwise_map.1 h1
theorem Tt {base:Nat} {π:Nat→Option Nat}:∀ (h r:aJ),jJ base π h=some r→∀ k o',get r k=some o'→k < base∧∃ o,get h k=some o∧gY π o=some o':=by
 intro h
 induction h with
 | nil=>intro r h k v' hk;simp only [jJ,Option.some.injEq] at h;subst h;simp [Pav.get] at hk
 | cons x h ih =>
  obtain ⟨j,v⟩:=x
  intro r h k o' hk
  simp only [jJ] at h
  split at h
  · rename_i hj
    obtain ⟨w,h1,h⟩:=ak h
    obtain ⟨r',h2,rfl⟩:=aB h
    simp only [Pav.get] at hk ⊢
    split at hk
    · rename_i hjk;rw [if_pos hjk];cases hk;exact ⟨hjk ▸ hj,v,rfl,h1⟩
    · rename_i hjk;rw [if_neg hjk];exact ih r' h2 k o' hk
  · rename_i hj
    obtain ⟨q1,o,q2,q3⟩:=ih r h k o' hk
    refine ⟨q1,o,?_,q3⟩
    simp only [Pav.get]
    rw [if_neg (by omega)];exact q2
theorem QB {π:Nat→Option Nat} {h:aJ}:∀ (L:List Nat) (n:Nat) (r:aJ),lH π h n L=some r→∀ k o',get r k=some o'→∃ i b o,k=n+i∧L[i]?=some b∧get h b=some o∧gY π o=some o':=by
 intro L
 induction L with
 | nil=>intro n r h k v' hk;simp only [lH,Option.some.injEq] at h;subst h;simp [Pav.get] at hk
 | cons b L ih =>
  intro n r h k o' hk
  simp only [lH] at h
  split at h
  · rename_i o ho
    obtain ⟨w,h1,h⟩:=ak h
    obtain ⟨r',h2,rfl⟩:=aB h
    simp only [Pav.get] at hk
    split at hk
    · rename_i hjk;cases hk;exact ⟨0,b,o,by omega,by simp,ho,h1⟩
    · obtain ⟨i,b',o2,q1,q2,q3,q4⟩:=ih (n+1) r' h2 k o' hk
      exact ⟨i+1,b',o2,by omega,by simpa using q2,q3,q4⟩
  · obtain ⟨i,b',o2,q1,q2,q3,q4⟩:=ih (n+1) r h k o' hk
    exact ⟨i+1,b',o2,by omega,by simpa using q2,q3,q4⟩
theorem get_append {α:Type}:∀ (l r:List (Nat × α)) (k:Nat),get (l++r) k=match get l k with | some x=>some x | none=>get r k:=by
 intro l
 induction l with
 | nil=>intro r k;rfl
 | cons x l ih =>
  intro r k
  obtain ⟨j,v⟩:=x
  simp only [List.cons_append,Pav.get]
  split
  · rfl
  · exact ih r k
theorem Zq {ρ':Nat→Nat} {V' A':Nat→Prop} {π:Nat→Option Nat} (hπ:∀ b c,A b→π b=some c→A' c∧ρ' c=ρ b∧(V' c↔V b)):∀ (es es' r:List (List AV)),bf (bf (VW ρ V A)) es es'→bg (lF π) es=some r→bf (bf (VW ρ' V' A')) r es':=by
 intro es
 induction es with
 | nil=>intro l' r hr h;simp only [bg,Option.some.injEq] at h;subst h;rw [hr.dZ];exact .nil
 | cons v l ih =>
  intro l' r hr h
  obtain ⟨u,t,rfl,h1,h2⟩:=hr.dA
  simp only [bg] at h
  obtain ⟨v',h3,h⟩:=ak h
  obtain ⟨r',h4,rfl⟩:=aB h
  exact .cons (ae8 hπ v u v' h1 h3) (ih t r' h2 h4)
theorem Vo {ρ':Nat→Nat} {V' A':Nat→Prop} {π:Nat→Option Nat} (hπ:∀ b c,A b→π b=some c→A' c∧ρ' c=ρ b∧(V' c↔V b)) {o o2:ig} {o':jf} (ho:OW ρ V A o o') (hr:gY π o=some o2):OW ρ' V' A' o2 o':=by
 cases o with
 | cells z es mu dt =>
  obtain ⟨es',mu',rfl,h2,h3,h4⟩:=ho
  simp only [gY] at hr
  split at hr
  · rename_i hd
    cases hr
    exact ⟨es',mu',rfl,h2,h3.mono fun e e' he hee=>hee.mono fun x x' hx hxx=>hxx.isC (h4 hd e he x hx),h4⟩
  · rename_i hd
    obtain ⟨es2,h5,rfl⟩:=aB hr
    exact ⟨es',mu',rfl,h2,Zq hπ es es' es2 h3 h5,fun q=>absurd q hd⟩
 | map es =>
  simp only [gY,Option.some.injEq] at hr;subst hr
  obtain ⟨es',rfl,h2⟩:=ho
  exact ⟨es',rfl,h2.mono fun x y _ hxy=>⟨hxy.1,hxy.2.data⟩⟩
 | iter s p =>
  simp only [gY,Option.some.injEq] at hr;subst hr
  exact ho
theorem MB {base:Nat} {s s2:WSt} {s':St} (S:Sim ρ V A s s') {L:List Nat} (hL:L.Nodup) (hLb:∀ x ∈ L,base≤x) (hr:renumber base s L=some s2) :
 ∃ ρ' V' A',Sim ρ' V' A' s2 s'∧base≤s2.next∧Old base ρ V A ρ' V' A'∧(∀ b,A' b→¬ V' b→∃ c,A c∧¬ V c∧ρ' b=ρ c∧(base≤b→base≤c)):=by
 unfold renumber at hr
 obtain ⟨e,h1,hr⟩:=ak hr
 obtain ⟨h1',h2,hr⟩:=ak hr
 obtain ⟨h2',h3,rfl⟩:=aB hr
 let ρ':=fun c=>ρ (pre base L c)
 let A':=fun c=>∃ b,A b∧gU base L b=some c
 let V':=fun c=>V (pre base L c)∧A' c
 have hπ:∀ b c,A b→gU base L b=some c→A' c∧ρ' c=ρ b∧(V' c↔V b):=by
  intro b c hb hc
  have:=(rH hc).1
  exact ⟨⟨b,hb,hc⟩,by show ρ (pre base L c)=ρ b;rw [this],by show V (pre base L c)∧A' c↔V b;rw [this];exact ⟨fun q=>q.1,fun q=>⟨q,b,hb,hc⟩⟩⟩
 have hgetH:∀ c o2,get (h1'++h2') c=some o2→∃ b o,gU base L b=some c∧get s.heap b=some o∧gY (gU base L) o=some o2:=by
  intro c o2 hc
  rw [get_append] at hc
  split at hc
  · rename_i x hx
    cases hc
    obtain ⟨q1,o,q2,q3⟩:=Tt _ _ h2 c o2 hx
    exact ⟨c,o,by simp [gU,q1],q2,q3⟩
  · obtain ⟨i,b,o,rfl,q2,q3,q4⟩:=QB _ _ _ h3 c o2 hc
    refine ⟨b,o,?_,q3,q4⟩
    unfold gU
    rw [if_neg (by have:=hLb b (List.mem_of_getElem? q2);omega)]
    exact abX hL q2
 refine ⟨ρ',V',A',⟨S.srt.keys (NW _ _ h1),?_,?_,?_⟩,Nat.le_add_right _ _,?_,?_⟩
 · intro k v' hk
   obtain ⟨v,q1,q2⟩:=Xu (ρ':=ρ') (V':=V') (A':=A') hπ _ _ h1 k v' hk
   obtain ⟨u,q3,q4⟩:=S.env k v q1
   exact ⟨u,q3,abt hπ v u v' q4 q2⟩
 · refine ⟨fun c o hc=>?_,fun c o hc hv=>?_,fun c o hc hv=>?_,?_,?_⟩
   · obtain ⟨b,o1,q1,q2,q3⟩:=hgetH c o hc
     exact ⟨b,S.heap.dom b o1 q2,q1⟩
   · obtain ⟨b,o1,q1,q2,q3⟩:=hgetH c o hc
     have hvb:V b:=((hπ b c (S.heap.dom b o1 q2) q1).2.2).1 hv
     obtain ⟨z,mu,dt,rfl⟩:=S.heap.sN b o1 q2 hvb
     simp only [gY,bg,om] at q3
     split at q3 <;> cases q3 <;> exact ⟨_,_,_,rfl⟩
   · obtain ⟨b,o1,q1,q2,q3⟩:=hgetH c o hc
     obtain ⟨p1,p2,p3⟩:=hπ b c (S.heap.dom b o1 q2) q1
     obtain ⟨o',q4,q5⟩:=S.heap.obj b o1 q2 (fun q=>hv (p3.2 q))
     exact ⟨o',by rw [p2];exact q4,Vo hπ q5 q3⟩
   · exact fun c hc=>hc.2
   · rintro c d ⟨b,hb,hbc⟩ ⟨a,ha,had⟩ vc vd hcd
     obtain ⟨_,p2,p3⟩:=hπ b c hb hbc
     obtain ⟨_,r2,r3⟩:=hπ a d ha had
     rw [p2,r2] at hcd
     have:=S.heap.inj b a hb ha (fun q=>vc (p3.2 q)) (fun q=>vd (r3.2 q)) hcd
     subst this
     rw [hbc] at had;cases had;rfl
 · refine ⟨?_,?_⟩
   · rintro c ⟨b,hb,hbc⟩
     rcases (rH hbc).2.2.2 with q | q
     · exact Nat.lt_of_lt_of_le q (Nat.le_add_right _ _)
     · exact q
   · rintro c ⟨b,hb,hbc⟩ hv
     obtain ⟨_,p2,p3⟩:=hπ b c hb hbc
     rw [p2]
     exact S.lt.p b hb (fun q=>hv (p3.2 q))
 · intro b hb
   have hnb:gU base L b=some b:=by simp [gU,hb]
   refine ⟨fun ha=>hπ b b ha hnb,?_⟩
   rintro ⟨c,hc,hcb⟩
   have:=(rH hcb).2.2.1 hb
   rw [this];exact hc
 · rintro c ⟨b,hb,hbc⟩ hv
   obtain ⟨_,p2,p3⟩:=hπ b c hb hbc
   exact ⟨b,hb,fun q=>hv (p3.2 q),p2,fun q=>by have:=(rH hbc).2.1;omega⟩
theorem aaj {base:Nat}:∀ (g:List (Nat × Nat)) (s:WSt) (s':St) (ρ:Nat→Nat) (V A:Nat→Prop),Sim ρ V A s s'→base≤s.next →
 ∃ V' A',Sim ρ V' A' (kU g s) s'∧base≤(kU g s).next∧Old base ρ V A ρ V' A'∧∀ b,A' b→¬ V' b→A b∧¬ V b:=by
 intro g
 induction g with
 | nil=>intro s s' ρ V A S hb;exact ⟨V,A,S,hb,Old.refl base ρ V A,fun b h1 h2=>⟨h1,h2⟩⟩
 | cons x g ih =>
  intro s s' ρ V A S hb
  obtain ⟨k,z⟩:=x
  simp only [kU]
  split
  · rename_i v hk
    have key:∃ V' A',Sim ρ V' A' (yN s k z v) s'∧base≤(yN s k z v).next∧Old base ρ V A ρ V' A'∧∀ b,A' b→¬ V' b→A b∧¬ V b:=by
     unfold yN
     split
     · rename_i z'
       split
       · rename_i hz
         subst hz
         obtain ⟨v',h1,h2⟩:=S.env k _ hk
         have hn:¬ A s.next:=fun q=>Nat.lt_irrefl _ (S.lt.w _ q)
         have hu:∀ b,A b→addN A s.next b∧ρ b=ρ b∧((V b∨b=s.next)↔V b):=fun b hb=>⟨.inl hb,rfl,⟨fun q=>q.elim id fun e=>absurd (e ▸ hb) hn,.inl⟩⟩
         have hv':v'=.aZ∨v'=.ro z' [] true:=by
          rcases h2.lI with ⟨_,rfl⟩ | ⟨es',ex',rfl,hx,hr,_⟩
          · exact .inl rfl
          · rw [hr.dZ,hx rfl];exact .inr rfl
         refine ⟨fun b=>V b∨b=s.next,addN A s.next,⟨S.srt.put _ _,?_,?_,?_⟩,by simp only;omega,?_,?_⟩
         · intro j u hj
           simp only at hj
           rw [OE] at hj
           split at hj
           · rename_i hkj
             cases hj;subst hkj
             exact ⟨v',h1,.slv _ _ _ _ (.inr rfl) (.inr rfl) hv'⟩
           · exact (S.env.mono hu) j u hj
         · have H:=S.heap
           refine ⟨fun b o hb=>?_,fun b o hb hv=>?_,fun b o hb hv=>?_,?_,?_⟩
           · rw [get_put] at hb
             split at hb
             · rename_i q;exact .inr q.symm
             · exact .inl (H.dom b o hb)
           · rw [get_put] at hb
             split at hb
             · cases hb;exact ⟨_,_,_,rfl⟩
             · rename_i q
               rcases hv with hv | hv
               · exact H.sN b o hb hv
               · exact absurd hv.symm q
           · rw [get_put] at hb
             split at hb
             · rename_i q;exact absurd (.inr q.symm) hv
             · obtain ⟨o',q1,q2⟩:=H.obj b o hb (fun q=>hv (.inl q))
               exact ⟨o',q1,q2.mono hu⟩
           · rintro b (hb | hb)
             · exact .inl (H.sub b hb)
             · exact .inr hb
           · rintro b c (hb | hb) (hc | hc) vb vc hbc
             · exact H.inj b c hb hc (fun q=>vb (.inl q)) (fun q=>vc (.inl q)) hbc
             · exact absurd (.inr hc) vc
             · exact absurd (.inr hb) vb
             · exact absurd (.inr hb) vb
         · refine ⟨?_,?_⟩
           · rintro b (hb | rfl)
             · exact Nat.lt_succ_of_lt (S.lt.w b hb)
             · exact Nat.lt_succ_self _
           · rintro b (hb | rfl) hv
             · exact S.lt.p b hb (fun q=>hv (.inl q))
             · exact absurd (.inr rfl) hv
         · intro b hbb
           exact ⟨hu b,fun q=>q.elim id fun e=>by omega⟩
         · rintro b (hb | rfl) hv
           · exact ⟨hb,fun q=>hv (.inl q)⟩
           · exact absurd (.inr rfl) hv
       · exact ⟨V,A,S,hb,Old.refl base ρ V A,fun b h1 h2=>⟨h1,h2⟩⟩
     · exact ⟨V,A,S,hb,Old.refl base ρ V A,fun b h1 h2=>⟨h1,h2⟩⟩
    obtain ⟨V1,A1,S1,b1,o1,n1⟩:=key
    obtain ⟨V2,A2,S2,b2,o2,n2⟩:=ih _ s' ρ V1 A1 S1 b1
    exact ⟨V2,A2,S2,b2,o1.trans o2,fun b q1 q2=>by obtain ⟨q3,q4⟩:=n2 b q1 q2;exact n1 b q3 q4⟩
  · exact ih s s' ρ V A S hb
theorem F6 (k:Nat):∀ l:List Nat,(bitsOf l).testBit k=l.contains k:=by
 intro l
 induction l with
 | nil=>simp [bitsOf]
 | cons a l ih =>
  simp only [bitsOf,Nat.testBit_or,ih,Nat.testBit_two_pow,List.contains_cons]
  congr 1
  by_cases h:a=k
  · subst h;simp
  · have:(k == a)=false:=by simpa using Ne.symm h
    rw [this];simpa using h
theorem Xo {base:Nat} {a:Ann} {s s2:WSt} {s':St} (S:Sim ρ V A s s') (hb:base≤s.next) (hc:canon base a s=some s2) {s1:St} (hs1:s1=s'∨s1=iG (uf a) s') :
 ∃ ρ' V' A',Sim ρ' V' A' s2 s1∧base≤s2.next∧Old base ρ V A ρ' V' A'∧∀ b,A' b→¬ V' b→∃ c,A c∧¬ V c∧ρ' b=ρ c∧(base≤b→base≤c):=by
 cases hcn:a.cn with
 | false =>
  have e1:uf a=0:=by simp only [uf,hcn]
  simp only [canon,hcn,Option.some.injEq] at hc
  subst hc
  have e2:s1=s':=by
   rcases hs1 with h | h
   · exact h
   · rw [h,e1];rfl
  subst e2
  exact ⟨ρ,V,A,S,hb,Old.refl base ρ V A,fun b h1 h2=>⟨b,h1,h2,rfl,id⟩⟩
 | true =>
 have S0:Sim ρ V A ⟨ou a.live s.env,s.heap,s.next⟩ s1:=by
  have ek:∀ k v,get (ou a.live s.env) k=some v→get s.env k=some v∧a.live.contains k=true:=by
   intro k v hk
   obtain ⟨q1,q2⟩:=Ih s.env a.live
   have hm:=get_mem hk
   exact ⟨S.srt.get (q1.subset hm),by simpa using q2 _ hm⟩
  have ks:Srt (ou a.live s.env):=S.srt.sublist (Ih s.env a.live).1
  rcases hs1 with rfl | rfl
  · exact ⟨ks,fun k v hk=>S.env k v (ek k v hk).1,S.heap,S.lt⟩
  · refine ⟨ks,fun k v hk=>?_,S.heap,S.lt⟩
    obtain ⟨h1,h2⟩:=ek k v hk
    obtain ⟨v',h3,h4⟩:=S.env k v h1
    refine ⟨v',?_,h4⟩
    simp only [iG,uf,hcn]
    split
    · exact h3
    · rw [PD,F6,h2,if_pos rfl];exact h3
 obtain ⟨V1,A1,S1,b1,o1,n1⟩:=aaj (base:=base) a.grow _ s1 ρ V A S0 hb
 simp only [canon,hcn] at hc
 cases hnr:Uh a.grow with
 | true =>
  rw [hnr] at hc
  simp only [Option.some.injEq] at hc
  subst hc
  exact ⟨ρ,V1,A1,S1,b1,o1,fun b h1 h2=>by
   obtain ⟨c4,c5⟩:=n1 b h1 h2
   exact ⟨b,c4,c5,rfl,id⟩⟩
 | false =>
 rw [hnr] at hc
 simp only [Tq] at hc
 obtain ⟨q1,q2⟩:=ZI (base:=base) (h:=(kU a.grow ⟨ou a.live s.env,s.heap,s.next⟩).heap) 1000 (Eh (kU a.grow ⟨ou a.live s.env,s.heap,s.next⟩).env++rJ base (kU a.grow ⟨ou a.live s.env,s.heap,s.next⟩).heap) [] (by simp) (fun x hx=>by cases hx)
 obtain ⟨ρ',V',A',S2,b2,o2,n2⟩:=MB S1 q1 q2 hc
 exact ⟨ρ',V',A',S2,b2,o1.trans o2,fun b h1 h2=>by
  obtain ⟨c,c1,c2,c3⟩:=n2 b h1 h2
  obtain ⟨c4,c5⟩:=n1 c c1 c2
  exact ⟨c,c4,c5,c3⟩⟩
end
end Go.Pw
end
section
set_option linter.unusedSimpArgs false
set_option linter.unusedVariables false
namespace Go.Pw
open Go Go.Pav
variable {ρ:Nat→Nat} {V A:Nat→Prop}
theorem TI {a b:List AV} (hl:a.length=b.length) (hr:∀ (j:Nat) (x x':AV),a[j]?=some x→b[j]?=some x'→VW ρ V A x x') (h:markRow a=true):markRow b=true:=by
 unfold markRow at h
 split at h
 · match b,hl with
   | [y],_ =>
    have:=hr 0 _ y rfl rfl
    cases this;rfl
 · cases h
theorem Zi {x u:AV} (h:VW ρ V A x u) (hx:rE x=true):rE u=true:=by
 cases h with
 | aZ=>rfl
 | iZ=>rfl
 | ro z es es' ex ex' hc hl hxx he hr =>
  simp only [rE,Bool.and_eq_true,decide_eq_true_eq,List.all_eq_true] at hx ⊢
  refine ⟨hx.1,fun e' he'=>?_⟩
  obtain ⟨i,hi,rfl⟩:=List.mem_iff_getElem.1 he'
  have hi2:i < es.length:=by omega
  exact TI (he i _ _ (List.getElem?_eq_getElem hi2) (List.getElem?_eq_getElem hi)) (fun j x x' h1 h2=>hr i _ _ j x x' (List.getElem?_eq_getElem hi2) (List.getElem?_eq_getElem hi) h1 h2) (hx.2 _ (List.getElem_mem hi2))
 | _=>simp [rE] at hx
theorem WT {a b:List AV} {k:Int} (hl:a.length=b.length) (hr:∀ (j:Nat) (x x':AV),a[j]?=some x→b[j]?=some x'→VW ρ V A x x') (h:mZ a=some k):mZ b=some k:=by
 unfold mZ at h
 split at h
 · match b,hl with
   | [y0,y1,y2,y3,y4,y5],_ =>
    have h0:=hr 0 _ y0 rfl rfl
    have h1:=hr 1 _ y1 rfl rfl
    have h2:=hr 2 _ y2 rfl rfl
    have h3:=hr 3 _ y3 rfl rfl
    have h4:=hr 4 _ y4 rfl rfl
    have h5:=hr 5 _ y5 rfl rfl
    cases h0;cases h1;cases h2;cases h4;cases h5
    split at h
    · rename_i hm
      simp only [mZ,Zi h3 hm,if_true]
      exact h
    · cases h
 · cases h
theorem Vb:∀ {es es':List (List AV)} {l:List Int},es.length=es'.length→(∀ (i:Nat) (e e':List AV),es[i]?=some e→es'[i]?=some e'→e.length=e'.length) →
 (∀ (i:Nat) (e e':List AV) (j:Nat) (x x':AV),es[i]?=some e→es'[i]?=some e'→e[j]?=some x→e'[j]?=some x'→VW ρ V A x x')→bg mZ es=some l→bg mZ es'=some l
 | [],[],_,_,_,_,h=>h
 | a::es,b::es',l,hl,he,hr,h=>by
  simp only [bg] at h ⊢
  obtain ⟨k,h1,h⟩:=ak h
  obtain ⟨r,h2,h⟩:=aB h
  rw [WT (he 0 a b rfl rfl) (fun j x x'=>hr 0 a b j x x' rfl rfl) h1,ob,Vb (by simpa using hl) (fun i e e' h1 h2=>he (i+1) e e' (by simpa using h1) (by simpa using h2)) (fun i e e' j x x' h1 h2=>hr (i+1) e e' j x x' (by simpa using h1) (by simpa using h2)) h2,om,h]
 | [],_::_,_,hl,_,_,_=>by simp at hl
 | _::_,[],_,hl,_,_,_=>by simp at hl
theorem Gt {x u:AV} {l:List Int} (h:VW ρ V A x u) (hx:jR x=some l):jR u=some l:=by
 cases h with
 | agg cs cs' hl hr =>
  unfold jR at hx
  split at hx
  · rename_i e;cases e
    match cs',hl with
    | [y],_ =>
     have:=hr 0 _ y rfl rfl
     cases this;exact hx
  · rename_i z es ex e;cases e
    match cs',hl with
    | [y],_ =>
     have:=hr 0 _ y rfl rfl
     split at hx
     · rename_i hz
       cases this with
       | iZ=>simpa [jR,bg] using hx
       | ro z es es' ex ex' hc hl2 hxx he2 hr2 =>
        simp only [jR]
        rw [if_pos ⟨hz.1,by omega⟩]
        exact Vb hl2 he2 hr2 hx
     · cases hx
  · cases hx
 | _=>simp [jR] at hx
theorem L6 {a b:List AV} (hl:a.length=b.length) (hr:∀ (j:Nat) (x x':AV),a[j]?=some x→b[j]?=some x'→VW ρ V A x x') {v:AV} (h:ku a=some v):ku b=some v∧VW ρ V A v v:=by
 unfold ku at h
 split at h
 · match b,hl with
   | [y0,y1,y2],_ =>
    have h0:=hr 0 _ y0 rfl rfl
    have h1:=hr 1 _ y1 rfl rfl
    have h2:=hr 2 _ y2 rfl rfl
    obtain ⟨kb,q1,h⟩:=ak h
    obtain ⟨kn,q2,h⟩:=aB h
    subst h
    cases h2 with
    | agg cs cs' hl2 hr2 =>
     match cs',hl2 with
     | [z0,z1],_ =>
      have g0:=hr2 0 _ z0 rfl rfl
      have g1:=hr2 1 _ z1 rfl rfl
      cases g0;cases g1
      refine ⟨by simp only [ku,Gt h0 q1,Gt h1 q2,ob,om],.agg _ _ rfl fun j x x' e1 e2=>?_⟩
      match j with
      | 0=>cases e1;cases e2;exact .int _ _
      | 1=>cases e1;cases e2;exact .int _ _
      | j+2=>simp at e1
 · cases h
theorem nM:∀ (n i:Nat) (e:Env),(dJ n i e).length=n
 | 0,_,_=>rfl
 | n+1,i,e=>by simp only [dJ,List.length_cons,nM n]
theorem y7:∀ (n i j:Nat) (e:Env),j < n→(dJ n i e)[j]?=some ((get e (i+j)).getD .undef)
 | 0,_,_,_,h=>by omega
 | n+1,i,0,e,_=>rfl
 | n+1,i,j+1,e,h=>by
  simp only [dJ,List.getElem?_cons_succ]
  rw [y7 n (i+1) j e (by omega)]
  congr 3;omega
theorem adS {e e':Env} (he:EW ρ V A e e') {k:Nat} {v:AV} (h:qA k (dJ (pJ k) 0 e)=some v):qA k (dJ (pJ k) 0 e')=some v∧VW ρ V A v v:=by
 unfold qA at h ⊢
 split at h
 · rename_i hk
   rw [if_pos hk]
   refine L6 (by rw [nM,nM]) (fun j x x' h1 h2=>?_) h
   have hj:j < pJ k:=by have:=(List.getElem?_eq_some_iff.1 h1).1;rwa [nM] at this
   rw [y7 _ _ _ _ hj] at h1 h2
   cases h1;cases h2
   cases hg:get e (0+j) with
   | none=>exact .undef _
   | some y =>
    obtain ⟨u,q1,q2⟩:=he _ _ hg
    rw [q1];exact q2
 · cases h
end Go.Pw
end
section
set_option linter.unusedSimpArgs false
set_option linter.unusedVariables false
namespace Go.Pw
open Go Go.Pav
def Hi (base m0:Nat) (ρ:Nat→Nat) (V A:Nat→Prop):Prop:=∀ b,A b→¬ V b→base≤b→m0≤ρ b
structure Res (base m0:Nat) (ρ:Nat→Nat) (V A:Nat→Prop) (s1:WSt) (s1':St) (ρ':Nat→Nat) (V' A':Nat→Prop):Prop where
 sim:Sim ρ' V' A' s1 s1'
 kH:base≤s1.next
 old:Old base ρ V A ρ' V' A'
 hi:Hi base m0 ρ' V' A'
section
variable {C:aI} {run:xO} {run':Run} {base m0:Nat}
theorem Res.canon {ρ:Nat→Nat} {V A:Nat→Prop} {s1 s2:WSt} {s1' s2':St} {ρ':Nat→Nat} {V' A':Nat→Prop} (R:Res base m0 ρ V A s1 s1' ρ' V' A') {a:Ann} (hc:canon base a s1=some s2)
 (hs:s2'=s1'∨s2'=iG (uf a) s1'):∃ ρ' V' A',Res base m0 ρ V A s2 s2' ρ' V' A':=by
 obtain ⟨ρ2,V2,A2,S2,b2,o2,n2⟩:=Xo R.sim R.kH hc hs
 refine ⟨ρ2,V2,A2,S2,b2,R.old.trans o2,fun b h1 h2 h3=>?_⟩
 obtain ⟨c,c1,c2,c3,c4⟩:=n2 b h1 h2
 rw [c3]
 exact R.hi c c1 c2 (c4 h3)
theorem Res.frz {ρ:Nat→Nat} {V A:Nat→Prop} {k:Nat} {s1 s2:WSt} {s1':St} {ρ':Nat→Nat} {V' A':Nat→Prop} (R:Res base m0 ρ V A s1 s1' ρ' V' A') (hc:FZ k s1=some s2) :
 ∃ s2',D5 k s1'=some s2'∧s2'.next=s1'.next∧Res base m0 ρ V A s2 s2' ρ' V' A':=by
 obtain ⟨v,hv,hc⟩:=ak hc
 obtain ⟨x,hx,rfl⟩:=aB hc
 obtain ⟨u,hu,hr⟩:=R.sim.env k v hv
 obtain ⟨y,hy,hd⟩:=FW R.sim.heap _ _ _ _ hr hx
 have hm:=uG R.sim.heap (aK s1.heap au v) (reach s1'.heap au u) (fun b' hb'=>Gh R.sim.heap _ _ _ _ hr hx b' hb')
 refine ⟨⟨dM s1'.env (some k) y,aN s1'.heap (aV s1'.heap (reach s1'.heap au u)),s1'.next⟩,by simp only [D5,hu,ob,hy,om],rfl,⟨?_,R.kH,R.old,R.hi⟩⟩
 exact ⟨R.sim.srt.dM (some k) x,R.sim.env.dM (d:=some k) (hd.mono fun _ q=>q.elim),hm.1,R.sim.lt⟩
theorem Res.Vx {ρ:Nat→Nat} {V A:Nat→Prop} {ρ':Nat→Nat} {V' A':Nat→Prop}:∀ (l:List Nat) {s1 s2:WSt} {s1':St},Res base m0 ρ V A s1 s1' ρ' V' A'→lN l s1=some s2 →
 ∃ s2',kS l s1'=some s2'∧s2'.next=s1'.next∧Res base m0 ρ V A s2 s2' ρ' V' A'
 | [],s1,s2,s1',R,h=>by simp only [lN,Option.some.injEq] at h;subst h;exact ⟨s1',rfl,rfl,R⟩
 | k::l,s1,s2,s1',R,h=>by
  simp only [lN] at h
  obtain ⟨s3,h1,h2⟩:=ak h
  obtain ⟨s3',h3,e3,R3⟩:=R.frz h1
  obtain ⟨s2',h4,e4,R4⟩:=Res.Vx l R3 h2
  exact ⟨s2',by simp only [kS,h3,ob];exact h4,e4.trans e3,R4⟩
theorem Keeps.old {ρ:Nat→Nat} {V A:Nat→Prop} {ρ':Nat→Nat} {V' A':Nat→Prop} (k:Keeps ρ V A ρ' V' A') (hn:∀ b,b < base→A' b→A b):Old base ρ V A ρ' V' A':=fun b hb=>⟨k b,hn b hb⟩
theorem ad8 (hr:yc run run'):∀ (l:List aX) (s s1:WSt),(l.all fun o=>iQ o.op)=true→iP C run l s=some s1→∀ (s':St) (ρ:Nat→Nat) (V A:Nat→Prop),Sim ρ V A s s'→base≤s.next→Hi base m0 ρ V A→m0≤s'.next →
 ∃ s1' ρ' V' A',kZ (fD C) run' (l.map ug) s'=some s1'∧Res base m0 ρ V A s1 s1' ρ' V' A'∧m0≤s1'.next:=by
 intro l
 induction l with
 | nil =>
  intro s s1 _ he s' ρ V A S hb hi hm
  simp only [iP,Option.some.injEq] at he;subst he
  exact ⟨s',ρ,V,A,rfl,⟨S,hb,Old.refl base ρ V A,hi⟩,hm⟩
 | cons o l ih =>
  intro s s1 hok he s' ρ V A S hb hi hm
  simp only [List.all_cons,Bool.and_eq_true] at hok
  simp only [iP] at he
  obtain ⟨d,h1,he⟩:=ak he
  have lt':Lts ρ V A (s.next+1) (s'.next+1):=⟨fun b hb=>Nat.lt_succ_of_lt (S.lt.w b hb),fun b hb hv=>Nat.lt_succ_of_lt (S.lt.p b hb hv)⟩
  obtain ⟨d',ρ1,V1,A1,h2,O⟩:=Z7 hr S.env S.heap lt' (nid:=s.next) (mid:=s'.next) (fun q=>Nat.lt_irrefl _ (S.lt.w _ q)) (Nat.lt_succ_self _) (fun b hb hv=>Nat.ne_of_lt (S.lt.p b hb hv)) (Nat.lt_succ_self _) hok.1 h1
  have S1:Sim ρ1 V1 A1 ⟨dW s.env o.dst d.v,d.h,d.n⟩ ⟨dM s'.env o.dst d'.v,d'.h,d'.n⟩:=⟨S.srt.dM _ _,(S.env.mono O.keeps).dM O.v,O.h,O.lt⟩
  have hi1:Hi base m0 ρ1 V1 A1:=by
   intro b q1 q2 q3
   rcases O.afJ b q1 q2 with ⟨q4,q5⟩ | q4 | q4
   · rw [q5];exact hi b q4 (fun q=>q2 ((O.keeps b q4).2.2.2 q)) q3
   · omega
   · omega
  have hb1:base≤d.n:=by have:=O.next;omega
  have hm1:m0≤d'.n:=by have:=O.Ul;omega
  obtain ⟨s1',ρ2,V2,A2,h3,R,h4⟩:=ih ⟨dW s.env o.dst d.v,d.h,d.n⟩ s1 hok.2 he _ ρ1 V1 A1 S1 hb1 hi1 hm1
  have o1:Old base ρ V A ρ1 V1 A1:=Keeps.old O.keeps fun b hbb hA=>by
   rcases O.new b hA with q | q | q
   · exact q
   · omega
   · omega
  refine ⟨s1',ρ2,V2,A2,?_,⟨R.sim,R.kH,o1.trans R.old,R.hi⟩,h4⟩
  simp only [List.map_cons,kZ]
  have:(ug o).dst=o.dst:=rfl
  rw [h2]
  simp only [ob,this]
  exact h3
def lD (ρ:Nat→Nat) (V A:Nat→Prop) (m1 m2:Nat) (d:kF) (d':Did):Prop :=
 (d'.bar=true→d.bar=true∧d.wr=[])∧(∀ b ∈ d'.rd,∃ c ∈ d.rd,b=ρ c∧¬ V c∧A c)∧(∀ b ∈ d'.wr,(∃ c ∈ SI d,b=ρ c∧¬ V c∧A c)∨∃ k w,d.bar=true∧d.wr=k::w∧m1≤b∧b < m2∧∀ c,A c→¬ V c→ρ c=b→k≤c)
theorem lD.mono {ρ ρ':Nat→Nat} {V A V' A':Nat→Prop} {m1 m2 m2' mid:Nat} {d:kF} {d':Did} (h:lD ρ V A m1 m2 d d') (k:Keeps ρ V A ρ' V' A') (hm:m2≤m2') (hmid:mid < m1)
 (hnew:∀ b,A' b→¬ V' b→(A b∧ρ' b=ρ b)∨ρ' b=mid∨m2≤ρ' b):lD ρ' V' A' m1 m2' d d':=by
 refine ⟨h.1,fun b hb=>?_,fun b hb=>?_⟩
 · obtain ⟨c,h1,h2,h3,h4⟩:=h.2.1 b hb
   obtain ⟨k1,k2,k3⟩:=k c h4
   exact ⟨c,h1,by rw [k2];exact h2,fun q=>h3 (k3.1 q),k1⟩
 · rcases h.2.2 b hb with ⟨c,h1,h2,h3,h4⟩ | ⟨j,w,h1,h2,h3,h4,h5⟩
   · obtain ⟨k1,k2,k3⟩:=k c h4
     exact .inl ⟨c,h1,by rw [k2];exact h2,fun q=>h3 (k3.1 q),k1⟩
   · refine .inr ⟨j,w,h1,h2,h3,by omega,fun c hA hV hc=>?_⟩
     rcases hnew c hA hV with ⟨q1,q2⟩ | q | q
     · exact h5 c q1 (fun q=>hV ((k c q1).2.2.2 q)) (by rw [← q2];exact hc)
     · omega
     · omega
theorem zx {ρ:Nat→Nat} {V A:Nat→Prop} (inj:∀ b c,A b→A c→¬ V b→¬ V c→ρ b=ρ c→b=c) {a b:List Nat} {a' b':List Nat}
 (ha:∀ x ∈ a',∃ c ∈ a,x=ρ c∧¬ V c∧A c) (hb:∀ x ∈ b',∃ c ∈ b,x=ρ c∧¬ V c∧A c) (h:meets a' b'=true):meets a b=true:=by
 simp only [meets,List.any_eq_true,decide_eq_true_eq] at h ⊢
 obtain ⟨x,hx,y,hy,rfl⟩:=h
 obtain ⟨c,h1,h2,h3,h4⟩:=ha x hx
 obtain ⟨d,h5,h6,h7,h8⟩:=hb x hy
 have:=inj c d h4 h8 h3 h7 (h2.symm.trans h6)
 subst this
 exact ⟨c,h1,c,h5,rfl⟩
theorem abO {ρ:Nat→Nat} {V A:Nat→Prop} (inj:∀ b c,A b→A c→¬ V b→¬ V c→ρ b=ρ c→b=c) {m1 m2:Nat} {a b:kF} {a' b':Did} (ha:lD ρ V A m1 m2 a a') (hb:lD ρ V A m1 m2 b b') (h:QN a b=false):clash a' b'=false:=by
 have nt:∀ {x y:Bool},(x=true→y=true)→y=false→x=false:=by
  intro x y q1 q2;cases x <;> simp_all
 have plain:∀ {d:kF} {d':Did},lD ρ V A m1 m2 d d'→d.bar=false→d'.bar=false∧∀ b ∈ d'.wr,∃ c ∈ d.wr,b=ρ c∧¬ V c∧A c:=by
  intro d d' hd hq
  refine ⟨?_,fun b hb=>?_⟩
  · cases q:d'.bar with
    | false=>rfl
    | true=>rw [(hd.1 q).1] at hq;cases hq
  · rcases hd.2.2 b hb with ⟨c,q1,q2⟩ | ⟨_,_,q,_⟩
    · unfold SI at q1
      rw [hq] at q1
      exact ⟨c,q1,q2⟩
    · rw [hq] at q;cases q
 have deep:∀ {d e:kF} {d' e':Did},lD ρ V A m1 m2 d d'→lD ρ V A m1 m2 e e'→d.bar=true→e.bar=false→SA d.rd d.wr e.rd e.wr=false →
  d'.bar=false∧e'.bar=false∧meets d'.wr e'.wr=false∧meets d'.wr e'.rd=false∧meets d'.rd e'.wr=false:=by
  intro d e d' e' hd he hdb heb hh
  unfold SA at hh
  cases hw:d.wr with
  | nil=>rw [hw] at hh;cases hh
  | cons k w =>
   rw [hw] at hh
   simp only [Bool.or_eq_false_iff] at hh
   obtain ⟨g1,g2,g3,g4⟩:=hh
   obtain ⟨p1,p2⟩:=plain he heb
   have g1':∀ c ∈ e.rd++e.wr,¬ k≤c:=by
    intro c hc q
    have:=List.any_eq_false.1 g1 c hc
    simp [q] at this
   have key:∀ (l l':List Nat),(∀ x ∈ l',∃ c ∈ l,x=ρ c∧¬ V c∧A c)→(∀ c ∈ l,¬ k≤c)→meets w l=false→meets d'.wr l'=false:=by
    intro l l' h1 h2 h3
    cases q:meets d'.wr l' with
    | false=>rfl
    | true =>
     exfalso
     simp only [meets,List.any_eq_true,decide_eq_true_eq] at q
     obtain ⟨x,hx,y,hy,rfl⟩:=q
     obtain ⟨c,c1,c2,c3,c4⟩:=h1 x hy
     rcases hd.2.2 x hx with ⟨c',q1,q2,q3,q4⟩ | ⟨k',w',q1,q2,q3,q4,q5⟩
     · unfold SI at q1
       rw [hdb,hw] at q1
       simp only [List.tail_cons] at q1
       have:=inj c c' c4 q4 c3 q3 (c2.symm.trans q2)
       subst this
       have:meets w l=true:=by
        simp only [meets,List.any_eq_true,decide_eq_true_eq]
        exact ⟨c,q1,c,c1,rfl⟩
       rw [h3] at this;cases this
     · rw [hw] at q2
       cases q2
       exact h2 c c1 (q5 c c4 c3 c2.symm)
   refine ⟨?_,p1,key _ _ p2 (fun c hc=>g1' c (by simp [hc])) g2,key _ _ he.2.1 (fun c hc=>g1' c (by simp [hc])) g3,?_⟩
   · cases q:d'.bar with
     | false=>rfl
     | true=>rw [(hd.1 q).2] at hw;cases hw
   · cases q:meets d'.rd e'.wr with
     | false=>rfl
     | true=>rw [zx inj hd.2.1 p2 q] at g4;cases g4
 have msym:∀ a b:List Nat,meets a b=meets b a:=by
  intro a b
  cases q:meets a b with
  | true =>
   symm
   simp only [meets,List.any_eq_true,decide_eq_true_eq] at q ⊢
   obtain ⟨x,h1,y,h2,h3⟩:=q
   exact ⟨y,h2,x,h1,h3.symm⟩
  | false =>
   symm
   cases p:meets b a with
   | false=>rfl
   | true =>
    exfalso
    simp only [meets,List.any_eq_true,decide_eq_true_eq] at p
    obtain ⟨x,h1,y,h2,h3⟩:=p
    have:meets a b=true:=by
     simp only [meets,List.any_eq_true,decide_eq_true_eq]
     exact ⟨y,h2,x,h1,h3.symm⟩
    rw [q] at this;cases this
 have qt:∀ {d:kF} {d':Did},lD ρ V A m1 m2 d d'→BI d=true→quiet d'=true:=by
  intro d d' hd hq
  simp only [BI,Bool.and_eq_true,Bool.not_eq_true',List.isEmpty_iff] at hq
  simp only [quiet,Bool.and_eq_true,Bool.not_eq_true',List.isEmpty_iff]
  refine ⟨(plain hd hq.1).1,?_,?_⟩
  · cases hw:d'.wr with
    | nil=>rfl
    | cons b r =>
     obtain ⟨c,h1,_⟩:=(plain hd hq.1).2 b (by rw [hw];exact List.mem_cons_self)
     rw [hq.2.1] at h1;cases h1
  · cases hw:d'.rd with
    | nil=>rfl
    | cons b r =>
     obtain ⟨c,h1,_⟩:=hd.2.1 b (by rw [hw];exact List.mem_cons_self)
     rw [hq.2.2] at h1;cases h1
 unfold QN at h
 unfold clash
 cases qa:BI a with
 | true=>rw [qt ha qa];simp
 | false =>
  cases qb:BI b with
  | true=>rw [qt hb qb];simp
  | false =>
   rw [qa,qb] at h
   simp only [Bool.or_self,Bool.not_false,Bool.true_and] at h
   cases ab:a.bar with
   | true =>
    rw [ab,if_pos rfl,Bool.or_eq_false_iff] at h
    obtain ⟨d1,d2,d3,d4,d5⟩:=deep ha hb ab h.1 h.2
    rw [d1,d2,d3,d4,d5];simp
   | false =>
   cases bb:b.bar with
   | true =>
    rw [ab,bb,if_neg (by simp),if_pos rfl] at h
    obtain ⟨d1,d2,d3,d4,d5⟩:=deep hb ha bb ab h
    rw [d1,d2,msym,d3,msym a'.wr,d5,msym a'.rd,d4];simp
   | false =>
   rw [ab,bb,if_neg (by simp),if_neg (by simp)] at h
   simp only [Bool.or_eq_false_iff] at h
   obtain ⟨h3,h4,h5⟩:=h
   obtain ⟨h1,ha2⟩:=plain ha ab
   obtain ⟨h2,hb2⟩:=plain hb bb
   have e:(a'.bar||(b'.bar||(meets a'.wr b'.wr||(meets a'.wr b'.rd||meets a'.rd b'.wr))))=false:=by
    simp only [Bool.or_eq_false_iff]
    exact ⟨h1,h2,nt (zx inj ha2 hb2) h3,nt (zx inj ha2 hb.2.1) h4,nt (zx inj ha.2.1 hb2) h5⟩
   rw [e,Bool.and_false]
theorem YR (hr:yc run run'):∀ (l:List aX) (nid:Nat) (s s1:WSt) (ds ds1:List kF),(l.all fun o=>iQ o.op)=true→fE C run l nid s ds=some (s1,ds1) →
 ∀ (mid:Nat) (s':St) (ds':List Did) (ρ:Nat→Nat) (V A:Nat→Prop),Sim ρ V A s s'→base≤nid→nid+l.length≤s.next→(∀ b,A b→b < nid∨nid+l.length≤b)→Hi base m0 ρ V A→m0≤mid→mid+l.length≤s'.next →
  (∀ b,A b→¬ V b→ρ b < mid∨mid+l.length≤ρ b)→∀ R:Nat,mid+l.length≤R→R≤s'.next→bf (lD ρ V A R s'.next) ds ds' →
 ∃ s1' ds1' ρ' V' A',oQ (fD C) run' (l.map ug) mid s' ds'=some (s1',ds1')∧Res base m0 ρ V A s1 s1' ρ' V' A'∧m0≤s1'.next∧bf (lD ρ' V' A' R s1'.next) ds1 ds1':=by
 intro l
 induction l with
 | nil =>
  intro nid s s1 ds ds1 _ he mid s' ds' ρ V A S hb hnl _ hi hm hml _ R hR1 hR2 hds
  simp only [fE,Option.some.injEq,Prod.mk.injEq] at he
  obtain ⟨rfl,rfl⟩:=he
  simp only [List.length_nil] at hnl hml
  exact ⟨s',ds',ρ,V,A,rfl,⟨S,by omega,Old.refl base ρ V A,hi⟩,by omega,hds⟩
 | cons o l ih =>
  intro nid s s1 ds ds1 hok he mid s' ds' ρ V A S hb hnl hgap hi hm hml hgap' R hR1 hR2 hds
  simp only [List.all_cons,Bool.and_eq_true] at hok
  simp only [List.length_cons] at hnl hml hgap hgap' hR1
  simp only [fE] at he
  obtain ⟨d,h1,he⟩:=ak he
  have hn:¬ A nid:=fun q=>by rcases hgap nid q with q | q <;> omega
  obtain ⟨d',ρ1,V1,A1,h2,O⟩:=Z7 hr S.env S.heap S.lt (nid:=nid) (mid:=mid) hn (by omega) (fun b hbb hv=>by rcases hgap' b hbb hv with q | q <;> omega) (by omega) hok.1 h1
  have S1:Sim ρ1 V1 A1 ⟨dW s.env o.dst d.v,d.h,d.n⟩ ⟨dM s'.env o.dst d'.v,d'.h,d'.n⟩:=⟨S.srt.dM _ _,(S.env.mono O.keeps).dM O.v,O.h,O.lt⟩
  have hi1:Hi base m0 ρ1 V1 A1:=by
   intro b q1 q2 q3
   rcases O.afJ b q1 q2 with ⟨q4,q5⟩ | q4 | q4
   · rw [q5];exact hi b q4 (fun q=>q2 ((O.keeps b q4).2.2.2 q)) q3
   · omega
   · omega
  have hds1:bf (lD ρ1 V1 A1 R d'.n) (ds++[d]) (ds'++[d']):=(hds.mono fun x y _ hxy=>hxy.mono O.keeps O.Ul (by omega) O.afJ).append (.cons ⟨O.bar,O.rd,fun b hb=>by
   rcases O.wr b hb with q | ⟨k,w,q1,q2,q3,q4,q5⟩
   · exact .inl q
   · exact .inr ⟨k,w,q1,q2,by omega,q4,q5⟩⟩ .nil)
  obtain ⟨s1',ds1',ρ2,V2,A2,h3,R,h4,h5⟩:=ih (nid+1) ⟨dW s.env o.dst d.v,d.h,d.n⟩ s1 (ds++[d]) ds1 hok.2 he (mid+1) _ (ds'++[d']) ρ1 V1 A1 S1 (by omega) (by have:=O.next;simp only;omega)
   (fun b hbb=>by
    rcases O.new b hbb with q | q | q
    · rcases hgap b q with q | q <;> omega
    · omega
    · omega) hi1 (by omega) (by have:=O.Ul;simp only;omega)
   (fun b hbb hv=>by
    rcases O.afJ b hbb hv with ⟨q,q5⟩ | q | q
    · rw [q5];rcases hgap' b q (fun q6=>hv ((O.keeps b q).2.2.2 q6)) with q | q <;> omega
    · omega
    · omega) R (by omega) (by have:=O.Ul;simp only;omega) hds1
  have o1:Old base ρ V A ρ1 V1 A1:=Keeps.old O.keeps fun b hbb hA=>by
   rcases O.new b hA with q | q | q
   · exact q
   · omega
   · omega
  refine ⟨s1',ds1',ρ2,V2,A2,?_,⟨R.sim,R.kH,o1.trans R.old,R.hi⟩,h4,h5⟩
  simp only [List.map_cons,oQ]
  have:(ug o).dst=o.dst:=rfl
  rw [h2]
  simp only [ob,this]
  exact h3
theorem YK {ρ:Nat→Nat} {V A:Nat→Prop} (inj:∀ b c,A b→A c→¬ V b→¬ V c→ρ b=ρ c→b=c) {m1 m2:Nat} {ds:List kF} {ds':List Did} (h:bf (lD ρ V A m1 m2) ds ds') {p:Nat × Nat} (ha:GX ds p=true):apart ds' p=true:=by
 unfold GX at ha
 split at ha
 · rename_i a b h1 h2
   obtain ⟨a',h3,h4⟩:=h.get h1
   obtain ⟨b',h5,h6⟩:=h.get h2
   unfold apart
   rw [h3,h5]
   simp only [Bool.not_eq_true'] at ha ⊢
   exact abO inj h4 h6 ha
 · cases ha
def DR (C:aI) (k:Nat):Prop :=
 ∀ (base:Nat) (c:aC) (s:WSt) (ex:Ex) (s1:WSt),okC c=true→evW C k base c s=some (ex,s1)→∀ (m0:Nat) (s':St) (ρ:Nat→Nat) (V A:Nat→Prop),Sim ρ V A s s'→base≤s.next→Hi base m0 ρ V A→m0≤s'.next →
  ∃ s1' ρ' V' A',evC (fD C) k (erC c) s'=some (ex,s1')∧Res base m0 ρ V A s1 s1' ρ' V' A'∧m0≤s1'.next
theorem Uo:∀ l:List AV,(erL l).length=l.length
 | []=>rfl
 | _::r=>by simp only [erL,List.length_cons,Uo r]
theorem adJ {j:Nat} {s:WSt} {s':St} {ρ:Nat→Nat} {V A:Nat→Prop} (S:Sim ρ V A s s') (hb:base≤s.next) (hi:Hi base m0 ρ V A) (hm:m0≤s'.next) {z b:Nat} {xe:Bool} {zz:List AV} {u:AV} (hu:get s'.env 0=some u) (hr:VW ρ V A (.ro z [] xe) u) (hl:zz.length=z) :
 ∃ s1' ρ' V' A',evC (fD C) (j+8+1) (ade zz b) s'=some (.ret,s1') ∧
  Res base m0 ρ V A ⟨[(2,.sl s.next z 0 0 0 true)],put s.heap s.next (.cells z [] true true),s.next+1⟩ s1' ρ' V' A'∧m0≤s1'.next:=by
 have hn:¬ A s.next:=fun q=>Nat.lt_irrefl _ (S.lt.w _ q)
 obtain ⟨e0,h0,m⟩:=s'
 simp only at hu hm
 have hmo:∀ b,A b→addN A s.next b∧ρ b=ρ b∧((V b∨b=s.next)↔V b):=fun b q=>⟨.inl q,rfl,⟨fun h=>h.elim id fun e=>absurd (e ▸ q) hn,.inl⟩⟩
 cases hr with
 | iZ =>
  refine ⟨⟨put (put (put (put e0 2 .aZ) 3 .aZ) 4 (.bool true)) 2 .aZ,h0,m+4⟩,ρ,fun b=>V b∨b=s.next,addN A s.next,?_,⟨⟨by simp [Srt],?_,⟨?_,?_,?_,?_,?_⟩,⟨?_,?_⟩⟩,Nat.le_succ_of_le hb,?_,?_⟩,Nat.le_trans hm (Nat.le_add_right _ _)⟩
  · simp [ade,evC,kZ,jr,wants,jh,callOf,aH,sMv,G8,iy,Rx,Opd.ev,ob,om,get_put,dM,hu,jT,kS,iG,bV,rG,aN]
  · intro k v hk
    simp only [Pav.get] at hk
    split at hk
    · rename_i e;subst e;cases hk
      exact ⟨.aZ,by simp [get_put],.slv _ _ _ _ (.inr rfl) (.inr rfl) (.inl rfl)⟩
    · cases hk
  · intro b o hbo
    rw [get_put] at hbo
    split at hbo
    · rename_i e;exact .inr e.symm
    · exact .inl (S.heap.dom b o hbo)
  · intro b o hbo hv
    rw [get_put] at hbo
    split at hbo
    · cases hbo;exact ⟨z,true,true,rfl⟩
    · rename_i e
      exact S.heap.sN b o hbo (hv.resolve_right fun q=>e q.symm)
  · intro b o hbo hv
    rw [get_put] at hbo
    split at hbo
    · rename_i e;exact absurd (.inr e.symm) hv
    · obtain ⟨o',h1,h2⟩:=S.heap.obj b o hbo (fun q=>hv (.inl q))
      exact ⟨o',h1,h2.mono hmo⟩
  · rintro b (q | q)
    · exact .inl (S.heap.sub b q)
    · exact .inr q
  · rintro b c hb hc vb vc
    exact S.heap.inj b c (hb.resolve_right fun q=>vb (.inr q)) (hc.resolve_right fun q=>vc (.inr q)) (fun q=>vb (.inl q)) (fun q=>vc (.inl q))
  · rintro b (q | q)
    · exact Nat.lt_succ_of_lt (S.lt.w b q)
    · subst q;exact Nat.lt_succ_self _
  · intro b q v
    have:=S.lt.p b (q.resolve_right fun e=>v (.inr e)) (fun e=>v (.inl e))
    simp only at this ⊢;omega
  · intro b hbb
    have hne:b≠s.next:=by omega
    exact ⟨fun q=>hmo b q,fun q=>q.resolve_right hne⟩
  · intro b q v hbb
    exact hi b (q.resolve_right fun e=>v (.inr e)) (fun e=>v (.inl e)) hbb
 | ro _ _ es' _ ex' hc hl2 hx he hr =>
  have:es'=[]:=List.length_eq_zero_iff.1 hl2.symm
  subst this
  have hne:∀ b,A b→¬ V b→ρ b≠m+3:=fun b q v e=>by have:=S.lt.p b q v;simp only at this;omega
  refine ⟨⟨put (put (put (put (put (put (put e0 2 .aZ) 3 (.ro z [] ex')) 4 (.bool false)) 5 (.sl (m+3) z 0 0 0 true)) 6 (.ro z [] ex')) 7 (.sl (m+3) z 0 0 0 true)) 2 (.sl (m+3) z 0 0 0 true),put h0 (m+3) (.cells z [] true),m+7⟩,up ρ s.next (m+3),V,addN A s.next,?_,
   ⟨⟨by simp [Srt],?_,oI S.heap hn hne ⟨[],true,rfl,fun h=>h,.nil,fun _ e he=>by cases he⟩,⟨?_,?_⟩⟩,Nat.le_succ_of_le hb,?_,?_⟩,Nat.le_trans hm (Nat.le_add_right _ _)⟩
  · simp [ade,evC,kZ,jr,wants,jh,callOf,aH,sMv,G8,iy,Rx,zY,kQ,TA,elems,jX,rM,Opd.ev,ob,om,get_put,dM,hu,hl,jT,kS,iG,bV,rG,aN]
  · intro k v hk
    simp only [Pav.get] at hk
    split at hk
    · rename_i e;subst e;cases hk
      refine ⟨.sl (m+3) z 0 0 0 true,by simp [get_put],?_⟩
      have:up ρ s.next (m+3) s.next=m+3:=by simp [up]
      have key:=VW.sl (ρ:=up ρ s.next (m+3)) (V:=V) (A:=addN A s.next) s.next z 0 0 0 true true (.inr rfl) (fun q=>hn (S.heap.sub _ q)) (fun h=>h)
      rw [this] at key
      exact key
    · cases hk
  · rintro b (q | q)
    · exact Nat.lt_succ_of_lt (S.lt.w b q)
    · subst q;exact Nat.lt_succ_self _
  · intro b q v
    unfold up
    split
    · simp
    · rename_i e
      have:=S.lt.p b (q.resolve_right e) v
      simp only at this ⊢;omega
  · intro b hbb
    have hne2:b≠s.next:=by omega
    exact ⟨fun q=>pX hn b q,fun q=>q.resolve_right hne2⟩
  · intro b q v hbb
    unfold up
    split
    · omega
    · rename_i e
      exact hi b (q.resolve_right e) v hbb
theorem Y3 {k:Nat} (ih:DR C k) (hr:yc (fJ C (evW C k)) (runWith (fD C) (evC (fD C) k))):DR C (k+1):=by
 intro base c s ex s1 hok he m0 s' ρ V A S hb hi hm
 cases c with
 | skip=>simp only [evW,Option.some.injEq,Prod.mk.injEq] at he;obtain ⟨rfl,rfl⟩:=he;exact ⟨s',ρ,V,A,rfl,⟨S,hb,Old.refl base ρ V A,hi⟩,hm⟩
 | exit id=>simp only [evW,Option.some.injEq,Prod.mk.injEq] at he;obtain ⟨rfl,rfl⟩:=he;exact ⟨s',ρ,V,A,rfl,⟨S,hb,Old.refl base ρ V A,hi⟩,hm⟩
 | ret=>simp only [evW,Option.some.injEq,Prod.mk.injEq] at he;obtain ⟨rfl,rfl⟩:=he;exact ⟨s',ρ,V,A,rfl,⟨S,hb,Old.refl base ρ V A,hi⟩,hm⟩
 | fail=>simp [evW] at he
 | yt k0 =>
  simp only [evW] at he
  obtain ⟨v,h1,he⟩:=aB he
  simp only [Prod.mk.injEq] at he
  obtain ⟨rfl,rfl⟩:=he
  obtain ⟨h2,hv⟩:=adS S.env h1
  exact ⟨⟨put s'.env 9 v,s'.heap,s'.next⟩,ρ,V,A,by simp only [erC,evC,h2,om],⟨⟨S.srt.put _ _,S.env.put hv,S.heap,S.lt⟩,hb,Old.refl base ρ V A,hi⟩,hm⟩
 | cln zz z b =>
  simp only [evW] at he
  split at he
  · rename_i z' hz
    split at he
    · rename_i hc
      obtain ⟨rfl,hzz,hk⟩:=hc
      simp only [Option.some.injEq,Prod.mk.injEq] at he
      obtain ⟨rfl,rfl⟩:=he
      obtain ⟨x,hx,hx2⟩:=Option.bind_eq_some_iff.1 hz
      obtain ⟨j,rfl⟩:∃ j,k=j+8:=⟨k - 8,by omega⟩
      obtain ⟨u,hu,hr⟩:=S.env 0 x hx
      obtain ⟨xe,hxe⟩:∃ e,x=.ro z' [] e:=by
       unfold IV at hx2
       split at hx2
       · cases hx2;exact ⟨_,rfl⟩
       · cases hx2
      subst hxe
      have hl:(erL zz).length=z':=by rw [Uo];exact hzz
      exact adJ S hb hi hm hu hr hl
    · cases he
  · obtain ⟨s1',ρ1,V1,A1,h3,R,h4⟩:=ih base (ah7 zz z b) s ex s1 (by simpa [okC,ah7,iQ,okO,okV,okL] using hok) he m0 s' ρ V A S hb hi hm
    exact ⟨s1',ρ1,V1,A1,oU k (k+1) (Nat.le_succ k) _ _ _ h3,R,h4⟩
 | ops l a =>
  simp only [evW] at he
  obtain ⟨s2,h1,he⟩:=ak he
  obtain ⟨s3,h2,he⟩:=aB he
  cases he
  obtain ⟨s1',ρ1,V1,A1,h3,R,h4⟩:=ad8 hr l s s2 hok h1 s' ρ V A S hb hi hm
  obtain ⟨s2b,h2b,h2⟩:=ak h2
  obtain ⟨s2b',h5,e5,R5⟩:=R.Vx _ h2b
  obtain ⟨ρ2,V2,A2,R2⟩:=R5.canon h2 (.inr rfl)
  exact ⟨_,ρ2,V2,A2,by simp only [erC,evC,h3,ob,jT,h5,om],R2,by rw [← e5] at h4;exact h4⟩
 | draw l un a =>
  simp only [evW] at he
  obtain ⟨⟨s2,ds⟩,h1,he⟩:=ak he
  unfold uI at he
  split at he
  · rename_i hap
    obtain ⟨s3,h2,he⟩:=aB he
    cases he
    have S0:Sim ρ V A ⟨s.env,s.heap,s.next+l.length⟩ ⟨s'.env,s'.heap,s'.next+l.length⟩:=⟨S.srt,S.env,S.heap,fun b q=>Nat.lt_of_lt_of_le (S.lt.w b q) (Nat.le_add_right _ _),fun b q v=>Nat.lt_of_lt_of_le (S.lt.p b q v) (Nat.le_add_right _ _)⟩
    obtain ⟨s1',ds1',ρ1,V1,A1,h3,R,h4,h5⟩:=YR hr l s.next _ s2 [] ds hok h1 s'.next _ [] ρ V A S0 hb (Nat.le_refl _) (fun b q=>.inl (S.lt.w b q)) hi hm (Nat.le_refl _) (fun b q v=>.inl (S.lt.p b q v)) (s'.next+l.length) (Nat.le_refl _) (Nat.le_refl _) .nil
    obtain ⟨s2b,h2b,h2⟩:=ak h2
    obtain ⟨s2b',h6,e6,R6⟩:=R.Vx _ h2b
    obtain ⟨ρ2,V2,A2,R2⟩:=R6.canon h2 (.inr rfl)
    refine ⟨_,ρ2,V2,A2,?_,R2,by rw [← e6] at h4;exact h4⟩
    simp only [erC,evC,List.length_map]
    rw [h3]
    simp only [ob,zF,jT,h6,om]
    rw [if_pos]
    simp only [List.all_eq_true] at hap ⊢
    exact fun p hp=>YK R.sim.heap.inj h5 (hap p hp)
  · cases he
 | seq a b =>
  simp only [okC,Bool.and_eq_true] at hok
  simp only [evW] at he
  obtain ⟨⟨e1,s2⟩,h1,he⟩:=ak he
  obtain ⟨s1',ρ1,V1,A1,h3,R,h4⟩:=ih base a s e1 s2 hok.1 h1 m0 s' ρ V A S hb hi hm
  cases e1 with
  | norm =>
   simp only [eY] at he
   obtain ⟨s2',ρ2,V2,A2,h5,R2,h6⟩:=ih base b s2 ex s1 hok.2 he m0 s1' ρ1 V1 A1 R.sim R.kH R.hi h4
   exact ⟨s2',ρ2,V2,A2,by simp only [erC,evC,h3,ob,bV,h5],⟨R2.sim,R2.kH,R.old.trans R2.old,R2.hi⟩,h6⟩
  | exit id=>simp only [eY,Option.some.injEq,Prod.mk.injEq] at he;obtain ⟨rfl,rfl⟩:=he;exact ⟨s1',ρ1,V1,A1,by simp only [erC,evC,h3,ob,bV],R,h4⟩
  | ret=>simp only [eY,Option.some.injEq,Prod.mk.injEq] at he;obtain ⟨rfl,rfl⟩:=he;exact ⟨s1',ρ1,V1,A1,by simp only [erC,evC,h3,ob,bV],R,h4⟩
 | cond c a b =>
  simp only [okC,Bool.and_eq_true] at hok
  simp only [evW] at he
  have hc:=S.env.opd hok.1
  unfold vW at he
  split at he
  · rename_i t ht
    rw [ht] at hc
    cases t with
    | true =>
     simp only [if_true] at he
     obtain ⟨s1',ρ1,V1,A1,h3,R,h4⟩:=ih base a s ex s1 hok.2.1 he m0 s' ρ V A S hb hi hm
     exact ⟨s1',ρ1,V1,A1,by simp only [erC,evC,hc.fF,rG,if_true];exact h3,R,h4⟩
    | false =>
     simp only [Bool.false_eq_true,if_false] at he
     obtain ⟨s1',ρ1,V1,A1,h3,R,h4⟩:=ih base b s ex s1 hok.2.2 he m0 s' ρ V A S hb hi hm
     exact ⟨s1',ρ1,V1,A1,by simp only [erC,evC,hc.fF,rG,Bool.false_eq_true,if_false];exact h3,R,h4⟩
  · cases he
 | block id b a =>
  simp only [okC] at hok
  simp only [evW] at he
  obtain ⟨⟨e1,s2⟩,h1,he⟩:=ak he
  obtain ⟨s1',ρ1,V1,A1,h3,R,h4⟩:=ih base b s e1 s2 hok h1 m0 s' ρ V A S hb hi hm
  cases e1 with
  | norm =>
   simp only [kN] at he
   obtain ⟨s3,h5,he⟩:=aB he
   cases he
   obtain ⟨ρ2,V2,A2,R2⟩:=R.canon h5 (.inl rfl)
   exact ⟨s1',ρ2,V2,A2,by simp only [erC,evC,h3,om,dh],R2,h4⟩
  | exit i =>
   simp only [kN] at he
   split at he
   · rename_i hid
     obtain ⟨s3,h5,he⟩:=aB he
     cases he
     obtain ⟨ρ2,V2,A2,R2⟩:=R.canon h5 (.inl rfl)
     exact ⟨s1',ρ2,V2,A2,by simp only [erC,evC,h3,om,dh,if_pos hid],R2,h4⟩
   · rename_i hid
     simp only [Option.some.injEq,Prod.mk.injEq] at he;obtain ⟨rfl,rfl⟩:=he
     exact ⟨s1',ρ1,V1,A1,by simp only [erC,evC,h3,om,dh,if_neg hid],R,h4⟩
  | ret =>
   simp only [kN,Option.some.injEq,Prod.mk.injEq] at he;obtain ⟨rfl,rfl⟩:=he
   exact ⟨s1',ρ1,V1,A1,by simp only [erC,evC,h3,om,dh],R,h4⟩
 | loop a b =>
  have hok':okC b=true:=hok
  simp only [evW] at he
  obtain ⟨s0,h0,he⟩:=ak he
  obtain ⟨⟨e1,s2⟩,h1,he⟩:=ak he
  obtain ⟨ρ0,V0,A0,R0⟩:=(⟨S,hb,Old.refl base ρ V A,hi⟩:Res base m0 ρ V A s s' ρ V A).canon h0 (s2':=iG (uf a) s') (.inr rfl)
  obtain ⟨s1',ρ1,V1,A1,h3,R,h4⟩:=ih base b s0 e1 s2 hok' h1 m0 _ ρ0 V0 A0 R0.sim R0.kH R0.hi hm
  have R':Res base m0 ρ V A s2 s1' ρ1 V1 A1:=⟨R.sim,R.kH,R0.old.trans R.old,R.hi⟩
  cases e1 with
  | norm =>
   simp only [eY] at he
   obtain ⟨s2',ρ2,V2,A2,h5,R2,h6⟩:=ih base (.loop a b) s2 ex s1 hok he m0 s1' ρ1 V1 A1 R.sim R.kH R.hi h4
   exact ⟨s2',ρ2,V2,A2,by simp only [erC,evC,h3,ob,bV];exact h5,⟨R2.sim,R2.kH,R'.old.trans R2.old,R2.hi⟩,h6⟩
  | exit id=>simp only [eY,Option.some.injEq,Prod.mk.injEq] at he;obtain ⟨rfl,rfl⟩:=he;exact ⟨s1',ρ1,V1,A1,by simp only [erC,evC,h3,ob,bV],R',h4⟩
  | ret=>simp only [eY,Option.some.injEq,Prod.mk.injEq] at he;obtain ⟨rfl,rfl⟩:=he;exact ⟨s1',ρ1,V1,A1,by simp only [erC,evC,h3,ob,bV],R',h4⟩
theorem FM {ρ:Nat→Nat} {V A:Nat→Prop} {e:Env} {e':Env} {h:aJ} {h':Heap} (he:EW ρ V A e e') (H:HW ρ V A h h') {rs:List uw} {v:AV} (hv:E8 e h rs=some v):∃ v',Pav.results e' h' rs=some v'∧VW ρ V A v v':=by
 obtain ⟨vs,h1,rfl⟩:=aB hv
 have one:∀ r x,Bg e h r=some x→∃ x',Dl e' h' r=some x'∧VW ρ V A x x':=by
  intro r x hx
  cases r with
  | tmp t=>exact he t x hx
  | cell t k ag =>
   simp only [Bg] at hx
   split at hx
   · rename_i b i o hg
     obtain ⟨p,h2,h3⟩:=he t _ hg
     obtain ⟨rfl,hA,hV⟩:=h3.iY
     unfold xC at hx
     split at hx
     · rename_i z es mu dt hgb
       obtain ⟨cs,h4,h5⟩:=ak hx
       obtain ⟨o',g1,es',mu',rfl,_,ge,_⟩:=H.obj b _ hgb hV
       obtain ⟨cs',h6,h7⟩:=ge.get h4
       obtain ⟨v',h8,h9⟩:=vg (h7.drop o) h5
       exact ⟨v',by simp only [Dl,h2,g1,loadAt,h6,ob];exact h8,h9⟩
     · cases hx
   · cases hx
 have lst:∀ (rs:List uw) (vs:List AV),bg (Bg e h) rs=some vs→∃ vs',bg (Dl e' h') rs=some vs'∧bf (VW ρ V A) vs vs':=by
  intro rs
  induction rs with
  | nil=>intro vs hq;simp only [bg,Option.some.injEq] at hq;subst hq;exact ⟨[],rfl,.nil⟩
  | cons r rs ih =>
   intro vs hq
   simp only [bg] at hq ⊢
   obtain ⟨x,h2,hq⟩:=ak hq
   obtain ⟨xs,h3,rfl⟩:=aB hq
   obtain ⟨x',h4,h5⟩:=one r x h2
   obtain ⟨xs',h6,h7⟩:=ih xs h3
   exact ⟨x'::xs',by rw [h4,h6];rfl,.cons h5 h7⟩
 obtain ⟨vs',h2,h3⟩:=lst rs vs h1
 refine ⟨BD vs',by simp only [Pav.results,h2,om],?_⟩
 cases vs with
 | nil=>rw [h3.dZ];exact VW.lq .nil
 | cons a r =>
  obtain ⟨b,t,rfl,h4,h5⟩:=h3.dA
  cases r with
  | nil=>rw [h5.dZ];exact h4
  | cons a2 r2 =>
   obtain ⟨b2,t2,rfl,h6,h7⟩:=h5.dA
   exact VW.lq (.cons h4 (.cons h6 h7))
theorem Ro:∀ (l:List AV) (k j:Nat),get (eF k l) j=if j < k then none else l[j - k]?:=by
 intro l
 induction l with
 | nil=>intro k j;simp [eF,Pav.get]
 | cons a l ih =>
  intro k j
  simp only [eF,Pav.get]
  by_cases h1:k=j
  · subst h1;simp
  · rw [if_neg h1,ih]
    by_cases h2:j < k
    · rw [if_pos (by omega),if_pos h2]
    · rw [if_neg (by omega),if_neg h2]
      have:j - k=(j - (k+1))+1:=by omega
      rw [this];simp
theorem QL:∀ (t:qX) (g:Nat),(BQ t).get g=(t.get g).map aQ:=by
 intro t
 induction t with
 | leaf=>intro g;rfl
 | node l k f r ihl ihr =>
  intro g
  simp only [BQ,Tree.get,qX.get]
  split
  · rfl
  · split
    · exact ihl g
    · exact ihr g
theorem Ry:∀ (t:qX) (g:Nat) (f:WFn),sH t=true→t.get g=some f→okC f.body=true:=by
 intro t
 induction t with
 | leaf=>intro g f _ h;simp [qX.get] at h
 | node l k f r ihl ihr =>
  intro g f' hok h
  simp only [sH,Bool.and_eq_true] at hok
  simp only [qX.get] at h
  split at h
  · cases h;exact hok.2.1
  · split at h
    · exact ihl g f' hok.1 h
    · exact ihr g f' hok.2.2 h
theorem Uu (hok:sH C.fns=true) {k:Nat} (hc:DR C k):yc (fJ C (evW C k)) (runWith (fD C) (evC (fD C) k)):=by
 intro f args h n v h1 n1 hrun ρ V A args' h' m ha H lt
 unfold fJ at hrun
 obtain ⟨fn,hf,hrun⟩:=ak hrun
 split at hrun
 · rename_i hl
   obtain ⟨⟨ex,s1⟩,h2,h3⟩:=ak hrun
   have S:Sim ρ V A ⟨H7 0 args [],h,n⟩ ⟨eF 0 args',h',m⟩:=by
    refine ⟨acv args 0,fun j x hj=>?_,H,lt⟩
    have hj2:get (eF 0 args) j=some x:=by
     have hm:=get_mem hj
     rw [Us,List.append_nil] at hm
     have hm2:=List.mem_reverse.1 hm
     have key:∀ (l:List AV) (k:Nat),(j,x) ∈ eF k l→get (eF k l) j=some x:=by
      intro l
      induction l with
      | nil=>intro k hq;simp [eF] at hq
      | cons v l ih =>
       intro k hq
       simp only [eF,Pav.get]
       rcases List.mem_cons.1 hq with q | q
       · cases q;simp
       · have:=(P7 l (k+1)).2 _ q
         simp only at this
         rw [if_neg (by omega)]
         exact ih (k+1) q
     exact key args 0 hm2
    simp only [Ro,Nat.not_lt_zero,if_false,Nat.sub_zero] at hj2 ⊢
    exact ha.get hj2
   obtain ⟨s1',ρ1,V1,A1,h4,R,h5⟩:=hc n fn.body _ ex s1 (Ry _ _ _ hok hf) h2 m ⟨eF 0 args',h',m⟩ ρ V A S (Nat.le_refl _) (fun b hb _ hn=>absurd (lt.w b hb) (by omega)) (Nat.le_refl _)
   have fin:∃ v',Pav.results s1'.env s1'.heap fn.res=some v'∧VW ρ1 V1 A1 v v'∧s1.heap=h1∧s1.next=n1∧∀ i,ex≠.exit i:=by
    unfold oK at h3
    cases ex with
    | exit i=>cases h3
    | norm =>
     obtain ⟨w,q1,q2⟩:=aB h3
     cases q2
     obtain ⟨v',q3,q4⟩:=FM R.sim.env R.sim.heap q1
     exact ⟨v',q3,q4,rfl,rfl,fun i e=>by cases e⟩
    | ret =>
     obtain ⟨w,q1,q2⟩:=aB h3
     cases q2
     obtain ⟨v',q3,q4⟩:=FM R.sim.env R.sim.heap q1
     exact ⟨v',q3,q4,rfl,rfl,fun i e=>by cases e⟩
   obtain ⟨v',h6,h7,rfl,rfl,h8⟩:=fin
   refine ⟨v',s1'.heap,s1'.next,ρ1,V1,A1,?_,h7,R.sim.heap,R.sim.lt,fun b hb=>(R.old b (lt.w b hb)).1 hb,fun b hb=>?_,fun b hb hv=>?_,R.kH,h5⟩
   · unfold runWith
     have:(fD C).fns.get f=some (aQ fn):=by
      show (BQ C.fns).get f=_
      rw [QL,hf];rfl
     rw [this]
     have hnp:args'.length=(aQ fn).np:=by rw [← ha.1];exact hl
     simp only [ob]
     rw [if_pos hnp,show (aQ fn).body=erC fn.body from rfl,h4]
     cases ex with
     | exit i=>exact absurd rfl (h8 i)
     | norm=>simp only [PL,show (aQ fn).res=fn.res from rfl,h6,om]
     | ret=>simp only [PL,show (aQ fn).res=fn.res from rfl,h6,om]
   · rcases Nat.lt_or_ge b n with q | q
     · exact .inl ((R.old b q).2 hb)
     · exact .inr q
   · rcases Nat.lt_or_ge b n with q | q
     · have:=(R.old b q).2 hb
       exact .inl ⟨this,((R.old b q).1 this).2.1⟩
     · exact .inr (R.hi b hb hv q)
 · cases hrun
theorem aeR (hok:sH C.fns=true):∀ k,DR C k:=by
 intro k
 induction k with
 | zero=>intro base c s ex s1 _ he;simp [evW] at he
 | succ k ih=>exact Y3 ih (Uu hok ih)
theorem aaQ (hok:sH C.fns=true) {k f:Nat} {args args':List AV} {v:AV} (ha:bf (VD id fun _=>False) args args') (hc:aaM C k f args=some v):∃ v',af0 (fD C) k f args'=some v'∧VD id (fun _=>False) v v' :=
 Oo (Uu hok (aeR hok k)) ha hc
end
end Go.Pw
end
section
set_option linter.unusedSimpArgs false
set_option linter.unusedVariables false
namespace Go.Pw
open Go Go.Pav
def sF (r r':xO):Prop:=∀ f args h n x,r f args h n=some x→r' f args h n=some x
section
variable {C:aI} {r r':xO}
theorem Ls (hr:sF r r') {f:Nat} {args:List AV} {h:aJ} {nid n:Nat} {c:wQ} (hc:jl C r f args h nid n=some c):jl C r' f args h nid n=some c:=by
 unfold jl at hc ⊢
 split
 · rename_i hi
   rw [if_pos hi] at hc
   split
   · rename_i hf
     rw [if_pos hf] at hc
     refine cu hc (fun x hx=>hx) fun az has=>?_
     by_cases hdp:rQ f=true
     · rw [if_pos hdp] at has ⊢
       exact cu has (fun x hx=>hr _ _ _ _ _ hx) fun x hx=>hx
     · rw [if_neg hdp] at has ⊢
       exact cu has (fun v hv=>cu hv (fun x hx=>hr _ _ _ _ _ hx) fun x hx=>hx) fun x hx=>hx
   · rename_i hf
     rw [if_neg hf] at hc
     exact mG hc fun x hx=>hr _ _ _ _ _ hx
 · rename_i hi
   rw [if_neg hi] at hc
   split
   · rename_i hp;rw [if_pos hp] at hc;exact mG hc fun x hx=>hr _ _ _ _ _ hx
   · rename_i hp
     rw [if_neg hp] at hc
     exact cu hc (fun x hx=>hx) fun az has=>mG has fun v hv=>cu hv (fun x hx=>hr _ _ _ _ _ hx) fun x hx=>hx
theorem O6 (hr:sF r r') {op:COp} {nid:Nat} {e:Env} {h:aJ} {n:Nat} {d:kF} (hd:jH C r op nid e h n=some d):jH C r' op nid e h n=some d:=by
 unfold jH at hd ⊢
 split
 · rename_i hc;rw [hc] at hd;cases hd
 · rename_i hc;rw [hc] at hd;exact mG hd fun c hc=>Ls hr hc
 · rename_i hc;rw [hc] at hd;exact hd
theorem sK (hr:sF r r') {o:aX} {nid:Nat} {e:Env} {h:aJ} {n:Nat} {d:kF} (hd:gB C r o nid e h n=some d):gB C r' o nid e h n=some d:=by
 unfold gB at hd ⊢
 split
 · rename_i hc;rw [hc] at hd;cases hd
 · rename_i hc;rw [hc] at hd;exact hd
 · rename_i hc;rw [hc] at hd;exact O6 hr hd
theorem uH (hr:sF r r'):∀ (l:List aX) (s s':WSt),iP C r l s=some s'→iP C r' l s=some s':=by
 intro l
 induction l with
 | nil=>intro s s' h;exact h
 | cons o l ih=>intro s s' h;exact cu h (fun d hd=>sK hr hd) fun d hd=>ih _ _ hd
theorem tV (hr:sF r r'):∀ (l:List aX) (nid:Nat) (s:WSt) (ds:List kF) (x:WSt × List kF),fE C r l nid s ds=some x→fE C r' l nid s ds=some x:=by
 intro l
 induction l with
 | nil=>intro nid s ds x h;exact h
 | cons o l ih=>intro nid s ds x h;exact cu h (fun d hd=>sK hr hd) fun d hd=>ih _ _ _ _ hd
theorem qJ {ev ev':WEv} (he:∀ b c s x,ev b c s=some x→ev' b c s=some x):sF (fJ C ev) (fJ C ev'):=by
 intro f args h n x hx
 refine cu hx (fun a ha=>ha) fun fn hfn=>?_
 split
 · rename_i hl
   rw [if_pos hl] at hfn
   exact cu hfn (fun a ha=>he _ _ _ _ ha) fun a ha=>ha
 · rename_i hl
   rw [if_neg hl] at hfn;cases hfn
theorem qm {b b':WSt→Option (Ex × WSt)} (h:∀ s x,b s=some x→b' s=some x) {r:Ex × WSt} {x:Ex × WSt} (hx:eY b r=some x):eY b' r=some x:=by
 unfold eY at hx ⊢
 split
 · rename_i hr;rw [hr] at hx;exact h _ _ hx
 · split at hx
   · rename_i h1 _ h2;exact absurd h2 h1
   · exact hx
theorem oP:∀ (n m:Nat),n≤m→∀ (base:Nat) (c:aC) (s:WSt) (x:Ex × WSt),evW C n base c s=some x→evW C m base c s=some x:=by
 intro n
 induction n with
 | zero=>intro m _ base c s x h;simp only [evW] at h;cases h
 | succ n ih =>
  intro m hm base c s x h
  obtain ⟨m,rfl⟩:∃ k,m=k+1:=⟨m - 1,by omega⟩
  have ih':=ih m (by omega)
  have hr:sF (fJ C (evW C n)) (fJ C (evW C m)):=qJ ih'
  cases c with
  | skip=>exact h
  | exit id=>exact h
  | ret=>exact h
  | fail=>exact h
  | yt k=>exact h
  | cln zz z b =>
   simp only [evW] at h ⊢
   split
   · rename_i z' hz
     rw [hz] at h
     simp only at h
     split at h
     · rename_i hc;rw [if_pos ⟨hc.1,hc.2.1,by omega⟩];exact h
     · cases h
   · rename_i hz
     rw [hz] at h
     exact ih' _ _ _ _ h
  | ops l a=>simp only [evW] at h ⊢;exact cu h (fun s' hs=>uH hr l s s' hs) fun x hx=>hx
  | draw l un a=>simp only [evW] at h ⊢;exact cu h (fun x hx=>tV hr l _ _ _ x hx) fun x hx=>hx
  | seq a b=>simp only [evW] at h ⊢;exact cu h (fun x hx=>ih' _ _ _ _ hx) fun x hx=>qm (fun s x hx=>ih' _ _ _ _ hx) hx
  | cond c a b =>
   simp only [evW] at h ⊢
   unfold vW at h ⊢
   split
   · rename_i t hv
     rw [hv] at h
     cases t with
     | true=>exact ih' _ _ _ _ h
     | false=>exact ih' _ _ _ _ h
   · split at h
     · rename_i h1 _ t hv;exact absurd hv (h1 t)
     · cases h
  | block id b a=>simp only [evW] at h ⊢;exact cu h (fun x hx=>ih' _ _ _ _ hx) fun x hx=>hx
  | loop a b=>simp only [evW] at h ⊢;exact cu h (fun x hx=>hx) fun s hs=>cu hs (fun x hx=>ih' _ _ _ _ hx) fun x hx=>qm (fun s x hx=>ih' _ _ _ _ hx) hx
theorem vH {n m:Nat} (h:n≤m):sF (Ic C n) (Ic C m):=qJ (oP n m h)
end
section
variable (C:aI)
noncomputable def CdW:WEv:=fun base c s=>lim fun n=>evW C n base c s
noncomputable def RnW:xO:=fJ C (CdW C)
noncomputable def FnW (f:Nat) (args:List AV):Option AV:=jm (RnW C) f args
end
section
variable {C:aI} {base:Nat}
theorem ajd (base:Nat) (c:aC) (s:WSt):afD fun n=>evW C n base c s:=fun n m h a ha=>oP n m h base c s a ha
theorem lU {c:aC} {s:WSt} {x:Ex × WSt}:CdW C base c s=some x↔∃ n,evW C n base c s=some x:=ab3 (ajd base c s)
theorem uQ {n:Nat} {c:aC} {s:WSt} {x:Ex × WSt} (h:evW C n base c s=some x):CdW C base c s=some x:=lU.2 ⟨n,h⟩
theorem Bz (n:Nat):sF (Ic C n) (RnW C):=qJ fun _ _ _ _ h=>uQ h
theorem vG {f:Nat} {args:List AV} {h:aJ} {n:Nat} {x:AV × aJ × Nat} (hx:RnW C f args h n=some x):∃ k,Ic C k f args h n=some x:=by
 unfold RnW fJ at hx
 obtain ⟨fn,hf,hx⟩:=ak hx
 split at hx
 · rename_i hl
   obtain ⟨y,hc,hx⟩:=ak hx
   obtain ⟨k,hk⟩:=lU.1 hc
   refine ⟨k,?_⟩
   unfold Ic fJ
   rw [hf]
   simp only [ob,if_pos hl,hk]
   exact hx
 · cases hx
theorem Jw {f:Nat} {args:List AV} {h:aJ} {nid n:Nat} {c:wQ} (hc:jl C (RnW C) f args h nid n=some c):∃ k,jl C (Ic C k) f args h nid n=some c:=by
 unfold jl at hc ⊢
 split
 · rename_i hi
   rw [if_pos hi] at hc
   split
   · rename_i hf
     rw [if_pos hf] at hc
     obtain ⟨az,h1,hc⟩:=ak hc
     by_cases hdp:rQ f=true
     · rw [if_pos hdp] at hc
       obtain ⟨r,h3,hc⟩:=ak hc
       obtain ⟨k,hk⟩:=vG h3
       refine ⟨k,?_⟩
       rw [h1]
       simp only [ob,if_pos hdp,hk]
       exact hc
     rw [if_neg hdp] at hc
     obtain ⟨x,h2,hend⟩:=ak hc
     obtain ⟨r,h3,h4⟩:=ak h2
     obtain ⟨k,hk⟩:=vG h3
     refine ⟨k,?_⟩
     rw [h1]
     simp only [ob,if_neg hdp]
     unfold jg
     simp only [ob,hk]
     rw [h4]
     exact hend
   · rename_i hf
     rw [if_neg hf] at hc
     obtain ⟨r,h1,rfl⟩:=aB hc
     obtain ⟨k,hk⟩:=vG h1
     exact ⟨k,by rw [hk];rfl⟩
 · rename_i hi
   rw [if_neg hi] at hc
   split
   · rename_i hp
     rw [if_pos hp] at hc
     obtain ⟨r,h1,rfl⟩:=aB hc
     obtain ⟨k,hk⟩:=vG h1
     exact ⟨k,by rw [hk];rfl⟩
   · rename_i hp
     rw [if_neg hp] at hc
     obtain ⟨az,h1,hc⟩:=ak hc
     obtain ⟨v,h2,rfl⟩:=aB hc
     obtain ⟨r,h3,h4⟩:=ak h2
     obtain ⟨k,hk⟩:=vG h3
     exact ⟨k,by rw [h1];simp only [ob,jm,hk,h4];rfl⟩
theorem F7 {o:aX} {nid:Nat} {e:Env} {h:aJ} {n:Nat} {d:kF} (hd:gB C (RnW C) o nid e h n=some d):∃ k,gB C (Ic C k) o nid e h n=some d:=by
 unfold gB at hd ⊢
 split
 · rename_i hc;rw [hc] at hd;cases hd
 · rename_i hc;rw [hc] at hd;exact ⟨0,hd⟩
 · rename_i hc
   rw [hc] at hd
   simp only at hd
   unfold jH at hd ⊢
   split
   · rename_i hc;rw [hc] at hd;cases hd
   · rename_i hc
     rw [hc] at hd
     simp only at hd
     obtain ⟨r,h1,rfl⟩:=aB hd
     obtain ⟨k,hk⟩:=Jw h1
     exact ⟨k,by rw [hk];rfl⟩
   · rename_i hc;rw [hc] at hd;exact ⟨0,hd⟩
theorem Po:∀ (l:List aX) (s s':WSt),iP C (RnW C) l s=some s'→∃ k,iP C (Ic C k) l s=some s':=by
 intro l
 induction l with
 | nil=>intro s s' h;exact ⟨0,h⟩
 | cons o l ih =>
  intro s s' h
  simp only [iP] at h ⊢
  obtain ⟨d,hd,h⟩:=ak h
  obtain ⟨k1,h1⟩:=F7 hd
  obtain ⟨k2,h2⟩:=ih _ _ h
  refine ⟨max k1 k2,?_⟩
  rw [sK (vH (Nat.le_max_left k1 k2)) h1]
  exact uH (vH (Nat.le_max_right k1 k2)) _ _ _ h2
theorem L8:∀ (l:List aX) (nid:Nat) (s:WSt) (ds:List kF) (x:WSt × List kF),fE C (RnW C) l nid s ds=some x→∃ k,fE C (Ic C k) l nid s ds=some x:=by
 intro l
 induction l with
 | nil=>intro nid s ds x h;exact ⟨0,h⟩
 | cons o l ih =>
  intro nid s ds x h
  simp only [fE] at h ⊢
  obtain ⟨d,hd,h⟩:=ak h
  obtain ⟨k1,h1⟩:=F7 hd
  obtain ⟨k2,h2⟩:=ih _ _ _ _ h
  refine ⟨max k1 k2,?_⟩
  rw [sK (vH (Nat.le_max_left k1 k2)) h1]
  exact tV (vH (Nat.le_max_right k1 k2)) _ _ _ _ _ h2
theorem ach (s:WSt):CdW C base .skip s=some (.norm,s):=uQ (n:=1) rfl
theorem afx (id:Nat) (s:WSt):CdW C base (.exit id) s=some (.exit id,s):=uQ (n:=1) rfl
theorem ae5 (k:Nat) (s:WSt):CdW C base (.yt k) s=om (qA k (dJ (pJ k) 0 s.env)) fun v=>(.ret,⟨uF s.env 9 v,s.heap,s.next⟩):=by
 cases h:om (qA k (dJ (pJ k) 0 s.env)) fun v=>((.ret,⟨uF s.env 9 v,s.heap,s.next⟩):Ex × WSt) with
 | some x=>exact uQ (n:=1) h
 | none =>
  cases h2:CdW C base (.yt k) s with
  | none=>rfl
  | some x =>
   obtain ⟨n,hn⟩:=lU.1 h2
   cases n with
   | zero=>simp only [evW] at hn;cases hn
   | succ n=>simp only [evW] at hn;rw [h] at hn;cases hn
theorem aif (s:WSt):CdW C base .ret s=some (.ret,s):=uQ (n:=1) rfl
theorem wM {c:aC} {s:WSt} {x:Ex × WSt}:CdW C base c s=some x↔∃ n,evW C (n+1) base c s=some x:=by
 rw [lU]
 constructor
 · rintro ⟨n,h⟩;exact ⟨n,oP n (n+1) (Nat.le_succ n) base c s x h⟩
 · rintro ⟨n,h⟩;exact ⟨_,h⟩
theorem rY {b:aC} {r x:Ex × WSt}:eY (CdW C base b) r=some x↔∃ n,eY (evW C n base b) r=some x:=by
 obtain ⟨ex,s⟩:=r
 cases ex with
 | norm=>simp only [eY];exact lU
 | exit id=>simp [eY]
 | ret=>simp [eY]
theorem ag8 (a b:aC) (s:WSt):CdW C base (.seq a b) s=ob (CdW C base a s) (eY (CdW C base b)):=by
 refine vX fun x=>?_
 rw [wM,oL]
 simp only [evW,oL]
 constructor
 · rintro ⟨n,r,h1,h2⟩;exact ⟨r,uQ h1,rY.2 ⟨n,h2⟩⟩
 · rintro ⟨r,h1,h2⟩
   obtain ⟨n,h1⟩:=lU.1 h1
   obtain ⟨m,h2⟩:=rY.1 h2
   exact ⟨max n m,r,oP _ _ (Nat.le_max_left n m) _ _ _ _ h1,qm (fun s x hx=>oP _ _ (Nat.le_max_right n m) _ _ _ _ hx) h2⟩
theorem acz (a:Ann) (b:aC) (s:WSt):CdW C base (.loop a b) s=ob (canon base a s) fun s=>ob (CdW C base b s) (eY (CdW C base (.loop a b))):=by
 refine vX fun x=>?_
 rw [wM,oL]
 simp only [evW,oL]
 constructor
 · rintro ⟨n,s0,h0,r,h1,h2⟩;exact ⟨s0,h0,r,uQ h1,rY.2 ⟨n,h2⟩⟩
 · rintro ⟨s0,h0,r,h1,h2⟩
   obtain ⟨n,h1⟩:=lU.1 h1
   obtain ⟨m,h2⟩:=rY.1 h2
   exact ⟨max n m,s0,h0,r,oP _ _ (Nat.le_max_left n m) _ _ _ _ h1,qm (fun s x hx=>oP _ _ (Nat.le_max_right n m) _ _ _ _ hx) h2⟩
theorem aaY (id:Nat) (b:aC) (a:Ann) (s:WSt):CdW C base (.block id b a) s=ob (CdW C base b s) (kN base id a):=by
 refine vX fun x=>?_
 rw [wM,oL]
 simp only [evW,oL]
 constructor
 · rintro ⟨n,r,h1,h2⟩;exact ⟨r,uQ h1,h2⟩
 · rintro ⟨r,h1,h2⟩
   obtain ⟨n,h1⟩:=lU.1 h1
   exact ⟨n,r,h1,h2⟩
theorem afs (c:Opd) (a b:aC) (s:WSt):CdW C base (.cond c a b) s=vW (CdW C base a) (CdW C base b) (c.ev s.env) s:=by
 refine vX fun x=>?_
 rw [wM]
 simp only [evW]
 unfold vW
 split
 · rename_i t _
   cases t with
   | true=>exact lU.symm
   | false=>exact lU.symm
 · simp
theorem ahJ (l:List aX) (a:Ann) (s:WSt):CdW C base (.ops l a) s=ob (iP C (RnW C) l s) fun s=>om (qL base a s) fun s=>(.norm,s):=by
 refine vX fun x=>?_
 rw [wM,oL]
 simp only [evW,oL]
 constructor
 · rintro ⟨n,r,h1,h2⟩;exact ⟨r,uH (Bz n) _ _ _ h1,h2⟩
 · rintro ⟨r,h1,h2⟩
   obtain ⟨n,h1⟩:=Po _ _ _ h1
   exact ⟨n,r,h1,h2⟩
theorem aeM (l:List aX) (un:List (Nat × Nat)) (a:Ann) (s:WSt):CdW C base (.draw l un a) s=ob (fE C (RnW C) l s.next ⟨s.env,s.heap,s.next+l.length⟩ []) (uI base un a):=by
 refine vX fun x=>?_
 rw [wM,oL]
 simp only [evW,oL]
 constructor
 · rintro ⟨n,r,h1,h2⟩;exact ⟨r,tV (Bz n) _ _ _ _ _ h1,h2⟩
 · rintro ⟨r,h1,h2⟩
   obtain ⟨n,h1⟩:=L8 _ _ _ _ _ h1
   exact ⟨n,r,h1,h2⟩
theorem Pn {f:Nat} {args:List AV} {v:AV}:FnW C f args=some v↔∃ n,aaM C n f args=some v:=by
 unfold FnW aaM jm
 simp only [oL]
 constructor
 · rintro ⟨r,h1,h2⟩
   obtain ⟨k,h1⟩:=vG h1
   exact ⟨k,r,h1,h2⟩
 · rintro ⟨k,r,h1,h2⟩;exact ⟨r,Bz k _ _ _ _ _ h1,h2⟩
end
end Go.Pw
end
section
set_option linter.unusedSimpArgs false
set_option linter.unusedVariables false
namespace Go.Pw
open Go Go.Pav
inductive Frame where
 | sq (b:aC)
 | bk (id:Nat) (a:Ann)
 | lp (a:Ann) (b:aC)
def oW:Env→Nat→AV→Env
 | [],_,_=>[]
 | (k,v)::r,g,x=>if k=g then (k,x)::r else (k,v)::oW r g x
section
variable {β:Type}
noncomputable def RK (C:aI) (base:Nat):List Frame→Ex × WSt→Option (Ex × WSt)
 | [],r=>some r
 | .sq b::k,r=>ob (eY (CdW C base b) r) (RK C base k)
 | .bk id a::k,r=>ob (kN base id a r) (RK C base k)
 | .lp a b::k,r=>ob (eY (CdW C base (.loop a b)) r) (RK C base k)
noncomputable def CK (C:aI) (base:Nat) (fin:Ex × WSt→Option β) (k:List Frame) (c:aC) (s:WSt):Option β:=ob (CdW C base c s) fun r=>ob (RK C base k r) fin
noncomputable def NK (C:aI) (base:Nat) (fin:Ex × WSt→Option β) (k:List Frame) (ex:Ex) (s:WSt):Option β:=ob (RK C base k (ex,s)) fin
noncomputable def AK (C:aI) (base:Nat) (fin:Ex × WSt→Option β) (k:List Frame) (s:Option WSt):Option β:=ob s fun s=>NK C base fin k .norm s
noncomputable def LK (C:aI) (base:Nat) (fin:Ex × WSt→Option β) (k:List Frame) (b:aC) (s:Option WSt):Option β:=ob s fun s=>CK C base fin k b s
noncomputable def OK (C:aI) (base:Nat) (fin:Ex × WSt→Option β) (k:List Frame) (a:Ann) (l:List aX) (s:WSt):Option β :=
 ob (iP C (RnW C) l s) fun s=>AK C base fin k (qL base a s)
noncomputable def SK (C:aI) (base:Nat) (fin:Ex × WSt→Option β) (k:List Frame) (a:Ann) (l:List aX) (d:Option Nat) (e:Env) (h:aJ) (n:Nat) (x:Option (AV × dR)):Option β :=
 ob x fun x=>OK C base fin k a l ⟨dW e d x.1,bJ h x.2,n⟩
noncomputable def PI (C:aI) (base:Nat) (fin:Ex × WSt→Option β) (k:List Frame) (a b:aC) (s:WSt) (v:AV):Option β :=
 match v with
 | .bool t=>if t=true then CK C base fin k a s else CK C base fin k b s
 | _=>none
noncomputable def GK (C:aI) (base:Nat) (fin:Ex × WSt→Option β) (k:List Frame) (a:Ann) (l:List aX) (d:Option Nat) (op:COp) (g:Nat) (w:Bool) (e:Env) (h:aJ) (n:Nat) (v:Option AV):Option β :=
 match v with
 | some (.bool b)=>if b=w then OK C base fin k a (⟨d,none,op⟩::l) ⟨oW e g (.bool w),h,n⟩ else OK C base fin k a l ⟨dW (oW e g (.bool (!w))) d (.tup []),h,n+1⟩
 | some (.tup [])=>OK C base fin k a l ⟨dW e d (.tup []),h,n+1⟩
 | _=>none
noncomputable def VK (C:aI) (base:Nat) (fin:Ex × WSt→Option β) (k:List Frame) (a:Ann) (l:List aX) (d:Option Nat) (e:Env) (h:aJ) (n:Nat) (args:List AV) (v:Option AV):Option β :=
 ob v fun v=>OK C base fin k a l ⟨dW e d v,bJ h (oq h args v),n⟩
noncomputable def WK (C:aI) (base:Nat) (fin:Ex × WSt→Option β) (k:List Frame) (a:Ann) (l:List aX) (d:Option Nat) (e:Env) (r:Option (AV × aJ × Nat)):Option β :=
 ob r fun r=>OK C base fin k a l ⟨dW e d r.1,r.2.1,r.2.2⟩
noncomputable def PK (C:aI) (base:Nat) (fin:Ex × WSt→Option β) (k:List Frame) (a:Ann) (l:List aX) (d:Option Nat) (e:Env) (h:aJ) (n:Nat) (f:Nat) (args:List AV) (az:Option (List AV)):Option β :=
 ob az fun az=>VK C base fin k a l d e h n args (FnW C f az)
noncomputable def BSK (C:aI) (base:Nat) (fin:Ex × WSt→Option β) (k:List Frame) (a:Ann) (l:List aX) (d:Option Nat) (e:Env) (h:aJ) (n:Nat) (v:AV) (u:dR) (ok:Bool):Option β :=
 if ok=true then OK C base fin k a l ⟨dW e d v,bJ h u,n⟩ else none
noncomputable def FSK (C:aI) (base:Nat) (fin:Ex × WSt→Option β) (k:List Frame) (a:Ann) (l:List aX) (d:Option Nat) (e:Env) (h:aJ) (n:Nat) (br:Bool) (args:List AV) (x:Option (AV × dR)):Option β :=
 ob x fun x=>if br=true then BSK C base fin k a l d e h n x.1 x.2 (mW x) else OK C base fin k a l ⟨dW e d x.1,bJ h (aW h (args.flatMap (aK h au))++x.2),n⟩
def over (n:Nat) (h1 h:aJ):aJ:=bJ h (Dp n h1)
noncomputable def HBK (C:aI) (base:Nat) (fin:Ex × WSt→Option β) (k:List Frame) (a:Ann) (l:List aX) (d:Option Nat) (e:Env) (h:aJ) (n:Nat) (v:AV) (h1:aJ) (n1:Nat) (ok:Bool):Option β :=
 if ok=true then OK C base fin k a l ⟨dW e d v,over n (h1.filter fun x=>(aK h1 au v).contains x.1) h,n1⟩ else none
noncomputable def HK (C:aI) (base:Nat) (fin:Ex × WSt→Option β) (k:List Frame) (a:Ann) (l:List aX) (d:Option Nat) (e:Env) (h:aJ) (n:Nat) (db:Bool) (args:List AV) (r:Option (AV × aJ × Nat)):Option β :=
 ob r fun r=>if db=true then HBK C base fin k a l d e h n r.1 r.2.1 r.2.2 (oG r.2.1 r.1 (aK r.2.1 au r.1)) else OK C base fin k a l ⟨dW e d r.1,over n r.2.1 (bJ h (aW h (args.flatMap (aK h au)))),r.2.2⟩
noncomputable def TK (C:aI) (base:Nat) (fin:Ex × WSt→Option β) (k:List Frame) (a:Ann) (l:List aX) (d:Option Nat) (e:Env) (h:aJ) (n:Nat) (f:Nat) (args az:List AV) (dp:Bool):Option β :=
 if dp=true then HK C base fin k a l d e h n (yx f) args (RnW C f az [] n) else FSK C base fin k a l d e h n (rZ f) args (jg (RnW C) f az (n - 1))
noncomputable def FPK (C:aI) (base:Nat) (fin:Ex × WSt→Option β) (k:List Frame) (a:Ann) (l:List aX) (d:Option Nat) (e:Env) (h:aJ) (n:Nat) (f:Nat) (args:List AV) (az:Option (List AV)):Option β :=
 ob az fun az=>TK C base fin k a l d e h n f args az (rQ f)
noncomputable def IK (C:aI) (base:Nat) (fin:Ex × WSt→Option β) (k:List Frame) (a:Ann) (l:List aX) (d:Option Nat) (e:Env) (h:aJ) (n:Nat) (f:Nat) (args:List AV) (fr:Bool):Option β :=
 if fr=true then FPK C base fin k a l d e h n f args (bg (bM h au) args) else WK C base fin k a l d e (RnW C f args h n)
noncomputable def FK (C:aI) (base:Nat) (fin:Ex × WSt→Option β) (k:List Frame) (a:Ann) (l:List aX) (d:Option Nat) (e:Env) (h:aJ) (n:Nat) (f:Nat) (args:List AV) (inl ptr:Bool):Option β :=
 if inl=true then IK C base fin k a l d e h n f args (JU f) else if ptr=true then WK C base fin k a l d e (RnW C f args h n) else PK C base fin k a l d e h n f args (bg (bM h au) args)
noncomputable def QK (C:aI) (base:Nat) (fin:Ex × WSt→Option β) (k:List Frame) (a:Ann) (l:List aX) (d:Option Nat) (e:Env) (h:aJ) (n:Nat) (args:List AV) (g:AV):Option β :=
 match g with
 | .fn f caps=>FK C base fin k a l d e h n f (args++caps) (C.inl f) (!C.pp f&&bP (args++caps))
 | _=>none
abbrev RW:=Bool × List Nat × List Nat
def VF (d:kF):RW:=(d.bar,d.rd,d.wr)
def SB (d:RW):Bool:=!d.1&&(d.2.2.isEmpty&&d.2.1.isEmpty)
def X0 (a b:RW):Bool:=!(SB a||SB b)&&(if a.1=true then b.1||SA a.2.1 a.2.2 b.2.1 b.2.2 else if b.1=true then SA b.2.1 b.2.2 a.2.1 a.2.2 else (meets a.2.2 b.2.2||(meets a.2.2 b.2.1||meets a.2.1 b.2.2)))
def Bh (ds:List RW) (p:Nat × Nat):Bool :=
 match ds[p.1]?,ds[p.2]? with
 | some a,some b=>!X0 a b
 | _,_=>false
noncomputable def EK (C:aI) (base:Nat) (fin:Ex × WSt→Option β) (k:List Frame) (a:Ann) (s:WSt) (ok:Bool):Option β :=
 if ok=true then AK C base fin k (qL base a s) else none
noncomputable def DK (C:aI) (base:Nat) (fin:Ex × WSt→Option β) (k:List Frame) (a:Ann) (un:List (Nat × Nat)) (l:List aX) (nid:Nat) (s:WSt) (ds:List RW):Option β :=
 ob (fE C (RnW C) l nid s []) fun r=>EK C base fin k a r.1 (un.all (Bh (ds++r.2.map VF)))
noncomputable def DSK (C:aI) (base:Nat) (fin:Ex × WSt→Option β) (k:List Frame) (a:Ann) (un:List (Nat × Nat)) (l:List aX) (nid:Nat) (d:Option Nat) (e:Env) (h:aJ) (n:Nat) (ds:List RW) (rd:List Nat) (x:Option (AV × dR)):Option β :=
 ob x fun x=>DK C base fin k a un l nid ⟨dW e d x.1,bJ h x.2,n⟩ (ds++[(false,rd,x.2.map (·.1))])
noncomputable def DGK (C:aI) (base:Nat) (fin:Ex × WSt→Option β) (k:List Frame) (a:Ann) (un:List (Nat × Nat)) (l:List aX) (nid:Nat) (d:Option Nat) (op:COp) (g:Nat) (w:Bool) (e:Env) (h:aJ) (n:Nat) (ds:List RW) (v:Option AV):Option β :=
 match v with
 | some (.bool b)=>if b=w then DK C base fin k a un (⟨d,none,op⟩::l) nid ⟨oW e g (.bool w),h,n⟩ ds else DK C base fin k a un l (nid+1) ⟨dW (oW e g (.bool (!w))) d (.tup []),h,n⟩ (ds++[(false,[],[])])
 | some (.tup [])=>DK C base fin k a un l (nid+1) ⟨dW e d (.tup []),h,n⟩ (ds++[(false,[],[])])
 | _=>none
noncomputable def DVK (C:aI) (base:Nat) (fin:Ex × WSt→Option β) (k:List Frame) (a:Ann) (un:List (Nat × Nat)) (l:List aX) (nid:Nat) (d:Option Nat) (e:Env) (h:aJ) (n:Nat) (ds:List RW) (args:List AV) (v:Option AV):Option β :=
 ob v fun v=>DK C base fin k a un l nid ⟨dW e d v,bJ h (oq h args v),n⟩ (ds++[(false,args.flatMap (aK h au),(oq h args v).map (·.1))])
noncomputable def DWK (C:aI) (base:Nat) (fin:Ex × WSt→Option β) (k:List Frame) (a:Ann) (un:List (Nat × Nat)) (l:List aX) (nid:Nat) (d:Option Nat) (e:Env) (ds:List RW) (r:Option (AV × aJ × Nat)):Option β :=
 ob r fun r=>DK C base fin k a un l nid ⟨dW e d r.1,r.2.1,r.2.2⟩ (ds++[(true,[],[])])
noncomputable def DPK (C:aI) (base:Nat) (fin:Ex × WSt→Option β) (k:List Frame) (a:Ann) (un:List (Nat × Nat)) (l:List aX) (nid:Nat) (d:Option Nat) (e:Env) (h:aJ) (n:Nat) (ds:List RW) (f:Nat) (args:List AV) (az:Option (List AV)):Option β :=
 ob az fun az=>DVK C base fin k a un l nid d e h n ds args (FnW C f az)
noncomputable def adF (C:aI) (base:Nat) (fin:Ex × WSt→Option β) (k:List Frame) (a:Ann) (un:List (Nat × Nat)) (l:List aX) (nid:Nat) (d:Option Nat) (e:Env) (h:aJ) (n:Nat) (ds:List RW) (args:List AV) (v:AV) (u:dR) (ok:Bool):Option β :=
 if ok=true then DK C base fin k a un l nid ⟨dW e d v,bJ h u,n⟩ (ds++[(false,args.flatMap (aK h au),u.map (·.1))]) else none
noncomputable def YH (C:aI) (base:Nat) (fin:Ex × WSt→Option β) (k:List Frame) (a:Ann) (un:List (Nat × Nat)) (l:List aX) (nid:Nat) (d:Option Nat) (e:Env) (h:aJ) (n:Nat) (ds:List RW) (br:Bool) (args:List AV) (x:Option (AV × dR)):Option β :=
 ob x fun x=>if br=true then adF C base fin k a un l nid d e h n ds args x.1 x.2 (mW x) else DK C base fin k a un l nid ⟨dW e d x.1,bJ h (aW h (args.flatMap (aK h au))++x.2),n⟩ (ds++[(false,args.flatMap (aK h au),(aW h (args.flatMap (aK h au))++x.2).map (·.1))])
noncomputable def ae7 (C:aI) (base:Nat) (fin:Ex × WSt→Option β) (k:List Frame) (a:Ann) (un:List (Nat × Nat)) (l:List aX) (nid:Nat) (d:Option Nat) (e:Env) (h:aJ) (n:Nat) (ds:List RW) (args:List AV) (v:AV) (h1:aJ) (n1:Nat) (ok:Bool):Option β :=
 if ok=true then DK C base fin k a un l nid ⟨dW e d v,over n (h1.filter fun x=>(aK h1 au v).contains x.1) h,n1⟩ (ds++[(true,args.flatMap (aK h au),[n])]) else none
noncomputable def DHK (C:aI) (base:Nat) (fin:Ex × WSt→Option β) (k:List Frame) (a:Ann) (un:List (Nat × Nat)) (l:List aX) (nid:Nat) (d:Option Nat) (e:Env) (h:aJ) (n:Nat) (ds:List RW) (db:Bool) (args:List AV) (r:Option (AV × aJ × Nat)):Option β :=
 ob r fun r=>if db=true then ae7 C base fin k a un l nid d e h n ds args r.1 r.2.1 r.2.2 (oG r.2.1 r.1 (aK r.2.1 au r.1)) else DK C base fin k a un l nid ⟨dW e d r.1,over n r.2.1 (bJ h (aW h (args.flatMap (aK h au)))),r.2.2⟩ (ds++[(true,args.flatMap (aK h au),n::(aW h (args.flatMap (aK h au))).map (·.1))])
noncomputable def DTK (C:aI) (base:Nat) (fin:Ex × WSt→Option β) (k:List Frame) (a:Ann) (un:List (Nat × Nat)) (l:List aX) (nid:Nat) (d:Option Nat) (e:Env) (h:aJ) (n:Nat) (ds:List RW) (f:Nat) (args az:List AV) (dp:Bool):Option β :=
 if dp=true then DHK C base fin k a un l nid d e h n ds (yx f) args (RnW C f az [] n) else YH C base fin k a un l nid d e h n ds (rZ f) args (jg (RnW C) f az (nid - 1))
noncomputable def adA (C:aI) (base:Nat) (fin:Ex × WSt→Option β) (k:List Frame) (a:Ann) (un:List (Nat × Nat)) (l:List aX) (nid:Nat) (d:Option Nat) (e:Env) (h:aJ) (n:Nat) (ds:List RW) (f:Nat) (args:List AV) (az:Option (List AV)):Option β :=
 ob az fun az=>DTK C base fin k a un l nid d e h n ds f args az (rQ f)
noncomputable def DIK (C:aI) (base:Nat) (fin:Ex × WSt→Option β) (k:List Frame) (a:Ann) (un:List (Nat × Nat)) (l:List aX) (nid:Nat) (d:Option Nat) (e:Env) (h:aJ) (n:Nat) (ds:List RW) (f:Nat) (args:List AV) (fr:Bool):Option β :=
 if fr=true then adA C base fin k a un l nid d e h n ds f args (bg (bM h au) args) else DWK C base fin k a un l nid d e ds (RnW C f args h n)
noncomputable def DFK (C:aI) (base:Nat) (fin:Ex × WSt→Option β) (k:List Frame) (a:Ann) (un:List (Nat × Nat)) (l:List aX) (nid:Nat) (d:Option Nat) (e:Env) (h:aJ) (n:Nat) (ds:List RW) (f:Nat) (args:List AV) (inl ptr:Bool):Option β :=
 if inl=true then DIK C base fin k a un l nid d e h n ds f args (JU f) else if ptr=true then DWK C base fin k a un l nid d e ds (RnW C f args h n) else DPK C base fin k a un l nid d e h n ds f args (bg (bM h au) args)
noncomputable def DQK (C:aI) (base:Nat) (fin:Ex × WSt→Option β) (k:List Frame) (a:Ann) (un:List (Nat × Nat)) (l:List aX) (nid:Nat) (d:Option Nat) (e:Env) (h:aJ) (n:Nat) (ds:List RW) (args:List AV) (g:AV):Option β :=
 match g with
 | .fn f caps=>DFK C base fin k a un l nid d e h n ds f (args++caps) (C.inl f) (!C.pp f&&bP (args++caps))
 | _=>none
def aP (res:List uw) (r:Ex × WSt):Option AV:=ob (oK res r) fun r=>bM r.2.1 au r.1
end
section
variable {β:Type} {C:aI} {base:Nat} {fin:Ex × WSt→Option β} {k:List Frame}
theorem ji {α γ δ:Type} (x:Option α) (f:α→Option γ) (g:γ→Option δ):ob (ob x f) g=ob x fun a=>ob (f a) g:=by cases x <;> rfl
theorem IZ {α γ δ:Type} (x:Option α) (f:α→γ) (g:γ→Option δ):ob (om x f) g=ob x fun a=>g (f a):=by cases x <;> rfl
theorem ahu (a b:aC) (s:WSt):CK C base fin k (.seq a b) s=CK C base fin (.sq b::k) a s:=by
 unfold CK;rw [ag8];simp only [RK,ji]
theorem ae2 (s:WSt):CK C base fin k .skip s=NK C base fin k .norm s:=by unfold CK NK;rw [ach];rfl
theorem afQ (i:Nat) (s:WSt):CK C base fin k (.exit i) s=NK C base fin k (.exit i) s:=by unfold CK NK;rw [afx];rfl
theorem aeA (n:Nat) (s:WSt):CK C base fin k (.yt n) s=ob (qA n (dJ (pJ n) 0 s.env)) fun v=>NK C base fin k .ret ⟨uF s.env 9 v,s.heap,s.next⟩:=by
 unfold CK NK
 rw [ae5]
 cases qA n (dJ (pJ n) 0 s.env) <;> rfl
theorem ah0 (s:WSt):CK C base fin k .ret s=NK C base fin k .ret s:=by unfold CK NK;rw [aif];rfl
theorem acg (c:Opd) (a b:aC) (s:WSt):CK C base fin k (.cond c a b) s=PI C base fin k a b s (c.ev s.env):=by
 unfold CK PI;rw [afs];unfold vW
 cases c.ev s.env <;> try rfl
 rename_i t;cases t <;> rfl
theorem abR (id:Nat) (b:aC) (a:Ann) (s:WSt):CK C base fin k (.block id b a) s=CK C base fin (.bk id a::k) b s:=by
 unfold CK;rw [aaY];simp only [RK,ji]
theorem bF {L:aC} {a:Ann} {b:aC} {s:WSt} (hL:L=.loop a b):CK C base fin k L s=LK C base fin (.sq L::k) b (canon base a s):=by
 subst hL;unfold CK LK CK;rw [acz];simp only [RK,ji]
theorem aj {c c':aC} {s:WSt} (hc:c=c'):CK C base fin k c s=CK C base fin k c' s:=by rw [hc]
theorem ai4 (l:List aX) (a:Ann) (s:WSt):CK C base fin k (.ops l a) s=OK C base fin k a l s:=by
 unfold CK OK AK NK;rw [ahJ];simp only [ji,IZ]
theorem ado (l:List aX) (un:List (Nat × Nat)) (a:Ann) (e:Env) (h:aJ) (n:Nat):CK C base fin k (.draw l un a) ⟨e,h,n⟩=DK C base fin k a un l n ⟨e,h,n+l.length⟩ []:=by
 unfold CK DK EK AK NK;rw [aeM];simp only [ji]
 have:∀ r:WSt × List kF,(ob (uI base un a r) fun r=>ob (RK C base k r) fin)=(if (un.all (Bh ([]++r.2.map VF)))=true then ob (qL base a r.1) fun s=>ob (RK C base k (.norm,s)) fin else none):=by
  rintro ⟨s,ds⟩
  have e1:un.all (GX ds)=un.all (Bh ([]++ds.map VF)):=by
   congr 1
   funext p
   simp only [GX,Bh,List.nil_append,List.getElem?_map]
   cases ds[p.1]? <;> cases ds[p.2]? <;> rfl
  simp only [uI,e1]
  split
  · simp only [IZ]
  · rfl
 simp only [this]
theorem ai0 (ex:Ex) (s:WSt):NK C base fin [] ex s=fin (ex,s):=rfl
theorem aj1 (b:aC) (s:WSt):NK C base fin (.sq b::k) .norm s=CK C base fin k b s:=by unfold NK CK;simp only [RK,eY,ji]
theorem Qk (b:aC) (i:Nat) (s:WSt):NK C base fin (.sq b::k) (.exit i) s=NK C base fin k (.exit i) s:=by unfold NK;simp only [RK,eY,ob]
theorem WS (b:aC) (s:WSt):NK C base fin (.sq b::k) .ret s=NK C base fin k .ret s:=by unfold NK;simp only [RK,eY,ob]
theorem Tz (a:Ann) (b:aC) (i:Nat) (s:WSt):NK C base fin (.lp a b::k) (.exit i) s=NK C base fin k (.exit i) s:=by unfold NK;simp only [RK,eY,ob]
theorem VA (a:Ann) (b:aC) (s:WSt):NK C base fin (.lp a b::k) .ret s=NK C base fin k .ret s:=by unfold NK;simp only [RK,eY,ob]
theorem akE (id:Nat) (a:Ann) (s:WSt):NK C base fin (.bk id a::k) .norm s=AK C base fin k (canon base a s):=by unfold NK AK NK;simp only [RK,kN,ji,IZ]
theorem QS (id:Nat) (a:Ann) (i:Nat) (s:WSt):NK C base fin (.bk id a::k) (.exit i) s=if i=id then AK C base fin k (canon base a s) else NK C base fin k (.exit i) s:=by
 unfold NK AK NK;simp only [RK,kN]
 split
 · simp only [ji,IZ]
 · rfl
theorem WL (id:Nat) (a:Ann) (s:WSt):NK C base fin (.bk id a::k) .ret s=NK C base fin k .ret s:=by unfold NK;simp only [RK,kN,ob]
theorem adg (s:WSt):AK C base fin k (some s)=NK C base fin k .norm s:=rfl
theorem aeO (b:aC) (s:WSt):LK C base fin k b (some s)=CK C base fin k b s:=rfl
theorem Si (a b:aC) (s:WSt):PI C base fin k a b s (.bool true)=CK C base fin k a s:=rfl
theorem OC (a b:aC) (s:WSt):PI C base fin k a b s (.bool false)=CK C base fin k b s:=rfl
theorem QT (a b:aC) (s:WSt) (t:Bool):PI C base fin k a b s (.bool t)=if t=true then CK C base fin k a s else CK C base fin k b s:=rfl
variable {a:Ann} {l:List aX} {d:Option Nat} {e:Env} {h:aJ} {n:Nat}
theorem aiz (s:WSt):OK C base fin k a [] s=AK C base fin k (qL base a s):=rfl
theorem bH {op:COp} (hc:callOf e op=some none):OK C base fin k a (⟨d,none,op⟩::l) ⟨e,h,n⟩=SK C base fin k a l d e h (n+1) (stepW op e h n):=by
 unfold OK SK OK
 simp only [iP,gB,wants,jH,hc]
 cases stepW op e h n <;> rfl
theorem Aw (v:AV) (u:dR):SK C base fin k a l d e h n (some (v,u))=OK C base fin k a l ⟨dW e d v,bJ h u,n⟩:=rfl
theorem wP:∀ {e:Env} {g:Nat} {v:AV},get e g=some v→oW e g v=e:=by
 intro e
 induction e with
 | nil=>intro g v h;rfl
 | cons x e ih =>
  intro g v hg
  obtain ⟨j,u⟩:=x
  simp only [Pav.get] at hg
  simp only [oW]
  split at hg
  · rename_i hj;cases hg;rw [if_pos hj]
  · rename_i hj;rw [if_neg hj,ih hg]
theorem adK {op:COp} {g:Nat} {w b:Bool}:GK C base fin k a l d op g w e h n (some (.bool b))=if b=w then OK C base fin k a (⟨d,none,op⟩::l) ⟨oW e g (.bool w),h,n⟩ else OK C base fin k a l ⟨dW (oW e g (.bool (!w))) d (.tup []),h,n+1⟩:=rfl
theorem KE {op:COp} {g:Nat}:GK C base fin k a l d op g true e h n (some (.bool true))=OK C base fin k a (⟨d,none,op⟩::l) ⟨oW e g (.bool true),h,n⟩:=rfl
theorem Gs {op:COp} {g:Nat}:GK C base fin k a l d op g false e h n (some (.bool false))=OK C base fin k a (⟨d,none,op⟩::l) ⟨oW e g (.bool false),h,n⟩:=rfl
theorem H6 {op:COp} {g:Nat}:GK C base fin k a l d op g true e h n (some (.bool false))=OK C base fin k a l ⟨dW (oW e g (.bool false)) d (.tup []),h,n+1⟩:=rfl
theorem Hy {op:COp} {g:Nat}:GK C base fin k a l d op g false e h n (some (.bool true))=OK C base fin k a l ⟨dW (oW e g (.bool true)) d (.tup []),h,n+1⟩:=rfl
theorem ahX {op:COp} {g:Nat} {w:Bool}:GK C base fin k a l d op g w e h n (some (.tup []))=OK C base fin k a l ⟨dW e d (.tup []),h,n+1⟩:=rfl
theorem YA {op:COp} {g:Nat} {w:Bool}:OK C base fin k a (⟨d,some (g,w),op⟩::l) ⟨e,h,n⟩=GK C base fin k a l d op g w e h n (get e g):=by
 unfold OK GK
 simp only [iP,gB,wants]
 cases hg:get e g with
 | none=>rfl
 | some v =>
  cases v with
  | bool b =>
   simp only
   by_cases hw:b=w
   · subst hw
     rw [wP hg,if_pos rfl]
     simp only [OK,iP,gB,wants,beq_self_eq_true]
   · have e1:(b == w)=false:=by simpa using hw
     have e2:(!w)=b:=by cases b <;> cases w <;> simp_all
     rw [if_neg hw,e2,wP hg]
     simp only [e1,ob,OK]
  | tup vs =>
   cases vs with
   | nil=>rfl
   | cons _ _=>rfl
  | _=>rfl
theorem ac3 {args:List AV} (v:AV):VK C base fin k a l d e h n args (some v)=OK C base fin k a l ⟨dW e d v,bJ h (oq h args v),n⟩:=rfl
theorem afc (r:AV × aJ × Nat):WK C base fin k a l d e (some r)=OK C base fin k a l ⟨dW e d r.1,r.2.1,r.2.2⟩:=rfl
theorem aew {f:Nat} {args:List AV} (az:List AV):PK C base fin k a l d e h n f args (some az)=VK C base fin k a l d e h n args (FnW C f az):=rfl
theorem aed {f:Nat} {args:List AV}:FK C base fin k a l d e h n f args false false=PK C base fin k a l d e h n f args (bg (bM h au) args):=rfl
theorem aio {f:Nat} {args:List AV} {p:Bool}:FK C base fin k a l d e h n f args true p=IK C base fin k a l d e h n f args (JU f):=rfl
theorem aaF {f:Nat} {args:List AV}:IK C base fin k a l d e h n f args false=WK C base fin k a l d e (RnW C f args h n):=rfl
theorem aeY {f:Nat} {args:List AV}:IK C base fin k a l d e h n f args true=FPK C base fin k a l d e h n f args (bg (bM h au) args):=rfl
theorem aaP {f:Nat} {args:List AV} (az:List AV):FPK C base fin k a l d e h (n+1) f args (some az)=TK C base fin k a l d e h (n+1) f args az (rQ f):=rfl
theorem ZR {f:Nat} {args az:List AV}:TK C base fin k a l d e h (n+1) f args az false=FSK C base fin k a l d e h (n+1) (rZ f) args (jg (RnW C) f az n):=rfl
theorem afR {f:Nat} {args az:List AV}:TK C base fin k a l d e h n f args az true=HK C base fin k a l d e h n (yx f) args (RnW C f az [] n):=rfl
theorem ZN (v:AV) (h1:aJ) (n1:Nat):HBK C base fin k a l d e h n v h1 n1 true=OK C base fin k a l ⟨dW e d v,over n (h1.filter fun x=>(aK h1 au v).contains x.1) h,n1⟩:=rfl
theorem ae9 {args:List AV} (r:AV × aJ × Nat):HK C base fin k a l d e h n true args (some r)=HBK C base fin k a l d e h n r.1 r.2.1 r.2.2 (oG r.2.1 r.1 (aK r.2.1 au r.1)):=rfl
theorem acp {args:List AV} (r:AV × aJ × Nat):HK C base fin k a l d e h n false args (some r)=OK C base fin k a l ⟨dW e d r.1,over n r.2.1 (bJ h (aW h (args.flatMap (aK h au)))),r.2.2⟩:=rfl
theorem ZV (v:AV) (u:dR):BSK C base fin k a l d e h n v u true=OK C base fin k a l ⟨dW e d v,bJ h u,n⟩:=rfl
theorem YI {args:List AV} (v:AV) (u:dR):FSK C base fin k a l d e h n true args (some (v,u))=BSK C base fin k a l d e h n v u (mW (v,u)):=rfl
theorem aaw {args:List AV} (v:AV) (u:dR):FSK C base fin k a l d e h n false args (some (v,u))=OK C base fin k a l ⟨dW e d v,bJ h (aW h (args.flatMap (aK h au))++u),n⟩:=rfl
theorem ahy {f:Nat} {args:List AV}:FK C base fin k a l d e h n f args false true=WK C base fin k a l d e (RnW C f args h n):=rfl
theorem akk {f:Nat} {args caps:List AV}:QK C base fin k a l d e h n args (.fn f caps)=FK C base fin k a l d e h n f (args++caps) (C.inl f) (!C.pp f&&bP (args++caps)):=rfl
theorem agB {f:Nat} {args:List AV}:(ob (om (jl C (RnW C) f args h (n - 1) n) (iO h n args)) fun r=>OK C base fin k a l ⟨dW e d r.v,r.h,r.n⟩)=FK C base fin k a l d e h n f args (C.inl f) (!C.pp f&&bP args):=by
 unfold FK jl IK FPK TK HK FSK WK PK VK FnW
 split
 · split
   · cases bg (bM h au) args with
     | none=>rfl
     | some az =>
      simp only [ob]
      by_cases hdp:rQ f=true
      · simp only [if_pos hdp]
        cases RnW C f az [] n with
        | none=>rfl
        | some r =>
         simp only [vO,Np]
         by_cases hdb:yx f=true
         · simp only [if_pos hdb]
           unfold HBK
           by_cases hk:oG r.2.1 r.1 (aK r.2.1 au r.1)=true
           · simp only [if_pos hk];rfl
           · simp only [if_neg hk];rfl
         · simp only [if_neg hdb];rfl
      simp only [if_neg hdp]
      cases jg (RnW C) f az (n - 1) with
      | none=>rfl
      | some x =>
       dsimp only [ob]
       unfold wO wL BSK
       cases rZ f
       · rfl
       · cases mW x <;> rfl
   · cases RnW C f args h n <;> rfl
 · split
   · cases RnW C f args h n <;> rfl
   · cases bg (bM h au) args with
     | none=>rfl
     | some az =>
      simp only [ob]
      cases jm (RnW C) f az <;> rfl
theorem ad7 {f:Nat} {xs:List Opd}:OK C base fin k a (⟨d,none,.call f xs⟩::l) ⟨e,h,n⟩=FK C base fin k a l d e h (n+1) f (xs.map fun x=>x.ev e) (C.inl f) (!C.pp f&&bP (xs.map fun x=>x.ev e)):=by
 rw [← agB]
 unfold OK
 simp only [iP,gB,wants,jH,callOf,ji,Nat.add_sub_cancel]
theorem Yj {g:Opd} {xs:List Opd}:OK C base fin k a (⟨d,none,.dY g xs⟩::l) ⟨e,h,n⟩=QK C base fin k a l d e h (n+1) (xs.map fun x=>x.ev e) (g.ev e):=by
 unfold QK
 cases hg:g.ev e with
 | fn f caps =>
  simp only
  rw [← agB]
  unfold OK
  simp only [iP,gB,wants,jH,callOf,hg,ji,Nat.add_sub_cancel]
 | _ =>
  unfold OK
  simp only [iP,gB,wants,jH,callOf,hg]
  rfl
variable {un:List (Nat × Nat)} {nid:Nat} {ds:List RW}
theorem OT {r:xO}:∀ (l:List aX) (nid:Nat) (s:WSt) (ds:List kF),fE C r l nid s ds=om (fE C r l nid s []) fun x=>(x.1,ds++x.2):=by
 intro l
 induction l with
 | nil=>intro nid s ds;simp [fE,om]
 | cons o l ih =>
  intro nid s ds
  simp only [fE]
  cases gB C r o nid s.env s.heap s.next with
  | none=>rfl
  | some d =>
   simp only [ob]
   rw [ih,ih _ _ ([]++[d])]
   cases fE C r l (nid+1) _ [] <;> simp [om]
theorem ahn (s:WSt):DK C base fin k a un [] nid s ds=EK C base fin k a s (un.all (Bh ds)):=by
 unfold DK;simp only [fE,ob,List.map_nil,List.append_nil]
theorem aeg (s:WSt):EK C base fin k a s true=AK C base fin k (qL base a s):=rfl
theorem l7 {o:aX} {s:WSt}:DK C base fin k a un (o::l) nid s ds=ob (gB C (RnW C) o nid s.env s.heap s.next) fun x=>DK C base fin k a un l (nid+1) ⟨dW s.env o.dst x.v,x.h,x.n⟩ (ds++[VF x]):=by
 unfold DK
 simp only [fE,ji]
 congr 1
 funext x
 rw [OT]
 simp only [IZ,List.nil_append,List.map_append,List.map_cons,List.map_nil,List.append_assoc]
theorem bG {op:COp} (hc:callOf e op=some none):DK C base fin k a un (⟨d,none,op⟩::l) nid ⟨e,h,n⟩ ds=DSK C base fin k a un l (nid+1) d e h n ds (readsOf e op) (stepW op e h nid):=by
 rw [l7]
 unfold DSK
 simp only [gB,wants,jH,hc,IZ]
 rfl
theorem YG {rd:List Nat} (v:AV) (u:dR):DSK C base fin k a un l nid d e h n ds rd (some (v,u))=DK C base fin k a un l nid ⟨dW e d v,bJ h u,n⟩ (ds++[(false,rd,u.map (·.1))]):=rfl
theorem abS {op:COp} {g:Nat} {w b:Bool}:DGK C base fin k a un l nid d op g w e h n ds (some (.bool b))=if b=w then DK C base fin k a un (⟨d,none,op⟩::l) nid ⟨oW e g (.bool w),h,n⟩ ds else DK C base fin k a un l (nid+1) ⟨dW (oW e g (.bool (!w))) d (.tup []),h,n⟩ (ds++[(false,[],[])]):=rfl
theorem Hw {op:COp} {g:Nat}:DGK C base fin k a un l nid d op g true e h n ds (some (.bool true))=DK C base fin k a un (⟨d,none,op⟩::l) nid ⟨oW e g (.bool true),h,n⟩ ds:=rfl
theorem Dn {op:COp} {g:Nat}:DGK C base fin k a un l nid d op g false e h n ds (some (.bool false))=DK C base fin k a un (⟨d,none,op⟩::l) nid ⟨oW e g (.bool false),h,n⟩ ds:=rfl
theorem FV {op:COp} {g:Nat}:DGK C base fin k a un l nid d op g true e h n ds (some (.bool false))=DK C base fin k a un l (nid+1) ⟨dW (oW e g (.bool false)) d (.tup []),h,n⟩ (ds++[(false,[],[])]):=rfl
theorem Fa {op:COp} {g:Nat}:DGK C base fin k a un l nid d op g false e h n ds (some (.bool true))=DK C base fin k a un l (nid+1) ⟨dW (oW e g (.bool true)) d (.tup []),h,n⟩ (ds++[(false,[],[])]):=rfl
theorem adV {op:COp} {g:Nat} {w:Bool}:DGK C base fin k a un l nid d op g w e h n ds (some (.tup []))=DK C base fin k a un l (nid+1) ⟨dW e d (.tup []),h,n⟩ (ds++[(false,[],[])]):=rfl
theorem Zc {op:COp} {g:Nat} {w:Bool}:DK C base fin k a un (⟨d,some (g,w),op⟩::l) nid ⟨e,h,n⟩ ds=DGK C base fin k a un l nid d op g w e h n ds (get e g):=by
 unfold DGK
 cases hg:get e g with
 | none=>rw [l7];simp only [gB,wants,hg];rfl
 | some v =>
  cases v with
  | bool b =>
   simp only
   by_cases hw:b=w
   · subst hw
     rw [wP hg,if_pos rfl,l7,l7]
     simp only [gB,wants,hg,beq_self_eq_true]
   · have e1:(b == w)=false:=by simpa using hw
     have e2:(!w)=b:=by cases b <;> cases w <;> simp_all
     rw [if_neg hw,e2,wP hg,l7]
     simp only [gB,wants,hg,e1,ob,VF]
  | tup vs =>
   cases vs with
   | nil=>rw [l7];simp only [gB,wants,hg];rfl
   | cons _ _=>rw [l7];simp only [gB,wants,hg];rfl
  | _=>rw [l7];simp only [gB,wants,hg];rfl
theorem aak {args:List AV} (v:AV):DVK C base fin k a un l nid d e h n ds args (some v)=DK C base fin k a un l nid ⟨dW e d v,bJ h (oq h args v),n⟩ (ds++[(false,args.flatMap (aK h au),(oq h args v).map (·.1))]):=rfl
theorem XV (r:AV × aJ × Nat):DWK C base fin k a un l nid d e ds (some r)=DK C base fin k a un l nid ⟨dW e d r.1,r.2.1,r.2.2⟩ (ds++[(true,[],[])]):=rfl
theorem aa8 {f:Nat} {args:List AV} (az:List AV):DPK C base fin k a un l nid d e h n ds f args (some az)=DVK C base fin k a un l nid d e h n ds args (FnW C f az):=rfl
theorem abg {f:Nat} {args:List AV}:DFK C base fin k a un l nid d e h n ds f args false false=DPK C base fin k a un l nid d e h n ds f args (bg (bM h au) args):=rfl
theorem afF {f:Nat} {args:List AV} {p:Bool}:DFK C base fin k a un l nid d e h n ds f args true p=DIK C base fin k a un l nid d e h n ds f args (JU f):=rfl
theorem Xf {f:Nat} {args:List AV}:DIK C base fin k a un l nid d e h n ds f args false=DWK C base fin k a un l nid d e ds (RnW C f args h n):=rfl
theorem abW {f:Nat} {args:List AV}:DIK C base fin k a un l nid d e h n ds f args true=adA C base fin k a un l nid d e h n ds f args (bg (bM h au) args):=rfl
theorem XH {f:Nat} {args:List AV} (az:List AV):adA C base fin k a un l nid d e h n ds f args (some az)=DTK C base fin k a un l nid d e h n ds f args az (rQ f):=rfl
theorem V8 {f:Nat} {args az:List AV}:DTK C base fin k a un l nid d e h n ds f args az false=YH C base fin k a un l nid d e h n ds (rZ f) args (jg (RnW C) f az (nid - 1)):=rfl
theorem aaV {f:Nat} {args az:List AV}:DTK C base fin k a un l nid d e h n ds f args az true=DHK C base fin k a un l nid d e h n ds (yx f) args (RnW C f az [] n):=rfl
theorem V9 {args:List AV} (v:AV) (h1:aJ) (n1:Nat):ae7 C base fin k a un l nid d e h n ds args v h1 n1 true=DK C base fin k a un l nid ⟨dW e d v,over n (h1.filter fun x=>(aK h1 au v).contains x.1) h,n1⟩ (ds++[(true,args.flatMap (aK h au),[n])]):=rfl
theorem Yv {args:List AV} (r:AV × aJ × Nat):DHK C base fin k a un l nid d e h n ds true args (some r)=ae7 C base fin k a un l nid d e h n ds args r.1 r.2.1 r.2.2 (oG r.2.1 r.1 (aK r.2.1 au r.1)):=rfl
theorem abJ {args:List AV} (r:AV × aJ × Nat):DHK C base fin k a un l nid d e h n ds false args (some r)=DK C base fin k a un l nid ⟨dW e d r.1,over n r.2.1 (bJ h (aW h (args.flatMap (aK h au)))),r.2.2⟩ (ds++[(true,args.flatMap (aK h au),n::(aW h (args.flatMap (aK h au))).map (·.1))]):=rfl
theorem Wu {args:List AV} (v:AV) (u:dR):adF C base fin k a un l nid d e h n ds args v u true=DK C base fin k a un l nid ⟨dW e d v,bJ h u,n⟩ (ds++[(false,args.flatMap (aK h au),u.map (·.1))]):=rfl
theorem V3 {args:List AV} (v:AV) (u:dR):YH C base fin k a un l nid d e h n ds true args (some (v,u))=adF C base fin k a un l nid d e h n ds args v u (mW (v,u)):=rfl
theorem XB {args:List AV} (v:AV) (u:dR):YH C base fin k a un l nid d e h n ds false args (some (v,u))=DK C base fin k a un l nid ⟨dW e d v,bJ h (aW h (args.flatMap (aK h au))++u),n⟩ (ds++[(false,args.flatMap (aK h au),(aW h (args.flatMap (aK h au))++u).map (·.1))]):=rfl
theorem afp {f:Nat} {args:List AV}:DFK C base fin k a un l nid d e h n ds f args false true=DWK C base fin k a un l nid d e ds (RnW C f args h n):=rfl
theorem ai2 {f:Nat} {args caps:List AV}:DQK C base fin k a un l nid d e h n ds args (.fn f caps)=DFK C base fin k a un l nid d e h n ds f (args++caps) (C.inl f) (!C.pp f&&bP (args++caps)):=rfl
theorem ZA {f:Nat} {args:List AV}:(ob (om (jl C (RnW C) f args h (nid - 1) n) (iO h n args)) fun r=>DK C base fin k a un l nid ⟨dW e d r.v,r.h,r.n⟩ (ds++[VF r]))=DFK C base fin k a un l nid d e h n ds f args (C.inl f) (!C.pp f&&bP args):=by
 unfold DFK jl DIK adA DTK DHK YH DWK DPK DVK FnW
 split
 · split
   · cases bg (bM h au) args with
     | none=>rfl
     | some az =>
      simp only [ob]
      by_cases hdp:rQ f=true
      · simp only [if_pos hdp]
        cases RnW C f az [] n with
        | none=>rfl
        | some r =>
         simp only [vO,Np]
         by_cases hdb:yx f=true
         · simp only [if_pos hdb]
           unfold ae7
           by_cases hk:oG r.2.1 r.1 (aK r.2.1 au r.1)=true
           · simp only [if_pos hk];rfl
           · simp only [if_neg hk];rfl
         · simp only [if_neg hdb];rfl
      simp only [if_neg hdp]
      cases jg (RnW C) f az (nid - 1) with
      | none=>rfl
      | some x =>
       dsimp only [ob]
       unfold wO wL adF
       cases rZ f
       · rfl
       · cases mW x <;> rfl
   · cases RnW C f args h n <;> rfl
 · split
   · cases RnW C f args h n <;> rfl
   · cases bg (bM h au) args with
     | none=>rfl
     | some az =>
      simp only [ob]
      cases jm (RnW C) f az <;> rfl
theorem acr {f:Nat} {xs:List Opd}:DK C base fin k a un (⟨d,none,.call f xs⟩::l) nid ⟨e,h,n⟩ ds=DFK C base fin k a un l (nid+1) d e h n ds f (xs.map fun x=>x.ev e) (C.inl f) (!C.pp f&&bP (xs.map fun x=>x.ev e)):=by
 rw [← ZA,l7]
 simp only [gB,wants,jH,callOf,Nat.add_sub_cancel]
theorem Yk {g:Opd} {xs:List Opd}:DK C base fin k a un (⟨d,none,.dY g xs⟩::l) nid ⟨e,h,n⟩ ds=DQK C base fin k a un l (nid+1) d e h n ds (xs.map fun x=>x.ev e) (g.ev e):=by
 unfold DQK
 rw [l7]
 cases hg:g.ev e with
 | fn f caps =>
  simp only
  rw [← ZA]
  simp only [gB,wants,jH,callOf,hg,Nat.add_sub_cancel]
 | _ =>
  simp only [gB,wants,jH,callOf,hg]
  rfl
theorem aF {f:Nat} {fn:WFn} (hf:C.fns.get f=some fn) {args:List AV} (hl:args.length=fn.np):FnW C f args=CK C 0 (aP fn.res) [] fn.body ⟨H7 0 args [],[],0⟩:=by
 unfold FnW jm RnW fJ CK aP
 rw [hf]
 simp only [ob,if_pos hl,RK]
 cases CdW C 0 fn.body ⟨H7 0 args [],[],0⟩ with
 | none=>rfl
 | some r=>rfl
theorem rF {f:Nat} {fn:WFn} (hf:C.fns.get f=some fn) {args:List AV} (hl:args.length=fn.np) (h:aJ) (n:Nat):RnW C f args h n=CK C n (oK fn.res) [] fn.body ⟨H7 0 args [],h,n⟩:=by
 unfold RnW fJ CK
 rw [hf]
 simp only [ob,if_pos hl,RK]
end
end Go.Pw
end
section
set_option linter.unusedSimpArgs false
set_option linter.unusedVariables false
namespace Go.Pw
open Go Go.Pav
attribute [simp] aeA qA ku pJ dJ ahu ae2 afQ ah0 acg abR ai4 ado ai0 aj1 Qk WS Tz VA akE QS WL adg aeO
 aiz Aw ahX YA ac3 afc aew aed aio ahy akk ad7 Yj ahn aeg YG adV Zc aak XV aa8 abg afF afp ai2 acr Yk aaF aeY aaP aaw YI ZV V3 Wu rZ mW Tf gX nD Xf abW XH XB JU rQ ZR afR acp ae9 ZN V8 aaV abJ Yv V9 yx oG jC cO ql
attribute [simp high] Si OC KE Gs H6 Hy Hw Dn FV Fa
attribute [simp low] QT adK abS
section
variable {β:Type} {C:aI} {base:Nat} {fin:Ex × WSt→Option β} {k:List Frame} {a:Ann} {l:List aX} {d:Option Nat} {e:Env} {h:aJ} {n:Nat} {un:List (Nat × Nat)} {nid:Nat} {ds:List RW}
@[simp] theorem aqh {x:Opd}:OK C base fin k a (⟨d,none,.mv x⟩::l) ⟨e,h,n⟩=OK C base fin k a l ⟨dW e d (x.ev e),h,n+1⟩:=by rw [bH rfl];rfl
@[simp] theorem alV {c x y:Opd}:OK C base fin k a (⟨d,none,.pick c x y⟩::l) ⟨e,h,n⟩=SK C base fin k a l d e h (n+1) (stepW (.pick c x y) e h n):=bH rfl
@[simp] theorem akf {z:List AV}:OK C base fin k a (⟨d,none,.alloc z⟩::l) ⟨e,h,n⟩=SK C base fin k a l d e h (n+1) (stepW (.alloc z) e h n):=bH rfl
@[simp] theorem ani {x:Opd}:OK C base fin k a (⟨d,none,.box x⟩::l) ⟨e,h,n⟩=SK C base fin k a l d e h (n+1) (stepW (.box x) e h n):=bH rfl
@[simp] theorem ajT {z:List AV} {ps:List (Nat × Nat × Opd)}:OK C base fin k a (⟨d,none,.build z ps⟩::l) ⟨e,h,n⟩=SK C base fin k a l d e h (n+1) (stepW (.build z ps) e h n):=bH rfl
@[simp] theorem aju {z:List AV} {m:Nat} {ps:List (Nat × Opd)}:OK C base fin k a (⟨d,none,.aS z m ps⟩::l) ⟨e,h,n⟩=SK C base fin k a l d e h (n+1) (stepW (.aS z m ps) e h n):=bH rfl
@[simp] theorem amH {m:Nat} {ag:Bool} {x:Opd}:OK C base fin k a (⟨d,none,.load m ag x⟩::l) ⟨e,h,n⟩=SK C base fin k a l d e h (n+1) (stepW (.load m ag x) e h n):=bH rfl
@[simp] theorem akb {m:Nat} {x y:Opd}:OK C base fin k a (⟨d,none,.store m x y⟩::l) ⟨e,h,n⟩=SK C base fin k a l d e h (n+1) (stepW (.store m x y) e h n):=bH rfl
@[simp] theorem ajB {x:Opd}:OK C base fin k a (⟨d,none,.jF x⟩::l) ⟨e,h,n⟩=SK C base fin k a l d e h (n+1) (stepW (.jF x) e h n):=bH rfl
@[simp] theorem apr {op:BinOp} {x y:Opd}:OK C base fin k a (⟨d,none,.bin op x y⟩::l) ⟨e,h,n⟩=SK C base fin k a l d e h (n+1) (stepW (.bin op x y) e h n):=bH rfl
@[simp] theorem amY {kd:Nat} {ks:List Nat} {ne:Bool} {x y:Opd}:OK C base fin k a (⟨d,none,.eqv kd ks ne x y⟩::l) ⟨e,h,n⟩=SK C base fin k a l d e h (n+1) (stepW (.eqv kd ks ne x y) e h n):=bH rfl
@[simp] theorem aqk {op:UnOp} {x:Opd}:OK C base fin k a (⟨d,none,.un op x⟩::l) ⟨e,h,n⟩=SK C base fin k a l d e h (n+1) (stepW (.un op x) e h n):=bH rfl
@[simp] theorem anq {kk:IntKind} {x:Opd}:OK C base fin k a (⟨d,none,.cvt kk x⟩::l) ⟨e,h,n⟩=SK C base fin k a l d e h (n+1) (stepW (.cvt kk x) e h n):=bH rfl
@[simp] theorem anX {x:Opd}:OK C base fin k a (⟨d,none,.cvs x⟩::l) ⟨e,h,n⟩=SK C base fin k a l d e h (n+1) (stepW (.cvs x) e h n):=bH rfl
@[simp] theorem apW {x:Opd}:OK C base fin k a (⟨d,none,.cvb x⟩::l) ⟨e,h,n⟩=SK C base fin k a l d e h (n+1) (stepW (.cvb x) e h n):=bH rfl
@[simp] theorem ali {f:Nat} {xs:List Opd}:OK C base fin k a (⟨d,none,.jo f xs⟩::l) ⟨e,h,n⟩=SK C base fin k a l d e h (n+1) (stepW (.jo f xs) e h n):=bH rfl
@[simp] theorem akL:OK C base fin k a (⟨d,none,.lu⟩::l) ⟨e,h,n⟩=SK C base fin k a l d e h (n+1) (stepW .lu e h n):=bH rfl
@[simp] theorem ak4 {z:List AV} {b:Nat} {x y:Opd}:OK C base fin k a (⟨d,none,.oD z b x y⟩::l) ⟨e,h,n⟩=SK C base fin k a l d e h (n+1) (stepW (.oD z b x y) e h n):=bH rfl
@[simp] theorem ok_slice {z:Nat} {x:Opd} {lo hi mx:Option Opd}:OK C base fin k a (⟨d,none,.slice z x lo hi mx⟩::l) ⟨e,h,n⟩=SK C base fin k a l d e h (n+1) (stepW (.slice z x lo hi mx) e h n):=bH rfl
@[simp] theorem ajF {z:Nat} {x:Opd} {lo hi:Option Opd}:OK C base fin k a (⟨d,none,.gq z x lo hi⟩::l) ⟨e,h,n⟩=SK C base fin k a l d e h (n+1) (stepW (.gq z x lo hi) e h n):=bH rfl
@[simp] theorem ang {o:Nat} {x:Opd}:OK C base fin k a (⟨d,none,.fld o x⟩::l) ⟨e,h,n⟩=SK C base fin k a l d e h (n+1) (stepW (.fld o x) e h n):=bH rfl
@[simp] theorem alp {o m:Nat} {ag:Bool} {x:Opd}:OK C base fin k a (⟨d,none,.xM o m ag x⟩::l) ⟨e,h,n⟩=SK C base fin k a l d e h (n+1) (stepW (.xM o m ag x) e h n):=bH rfl
@[simp] theorem amB {z:Nat} {x y:Opd}:OK C base fin k a (⟨d,none,.idxs z x y⟩::l) ⟨e,h,n⟩=SK C base fin k a l d e h (n+1) (stepW (.idxs z x y) e h n):=bH rfl
@[simp] theorem amv {m z:Nat} {x y:Opd}:OK C base fin k a (⟨d,none,.gy m z x y⟩::l) ⟨e,h,n⟩=SK C base fin k a l d e h (n+1) (stepW (.gy m z x y) e h n):=bH rfl
@[simp] theorem ajr {x y:Opd}:OK C base fin k a (⟨d,none,.eG x y⟩::l) ⟨e,h,n⟩=SK C base fin k a l d e h (n+1) (stepW (.eG x y) e h n):=bH rfl
@[simp] theorem amK {m z:Nat} {ag:Bool} {x y:Opd}:OK C base fin k a (⟨d,none,.uy m z ag x y⟩::l) ⟨e,h,n⟩=SK C base fin k a l d e h (n+1) (stepW (.uy m z ag x y) e h n):=bH rfl
@[simp] theorem alL {kd:Nat} {z:AV} {ok:Bool} {x y:Opd}:OK C base fin k a (⟨d,none,.look kd z ok x y⟩::l) ⟨e,h,n⟩=SK C base fin k a l d e h (n+1) (stepW (.look kd z ok x y) e h n):=bH rfl
@[simp] theorem aom {kd:Nat} {x y z:Opd}:OK C base fin k a (⟨d,none,.upd kd x y z⟩::l) ⟨e,h,n⟩=SK C base fin k a l d e h (n+1) (stepW (.upd kd x y z) e h n):=bH rfl
@[simp] theorem aj6 {x:Opd}:OK C base fin k a (⟨d,none,.range x⟩::l) ⟨e,h,n⟩=SK C base fin k a l d e h (n+1) (stepW (.range x) e h n):=bH rfl
@[simp] theorem amc {x:Opd}:OK C base fin k a (⟨d,none,.next x⟩::l) ⟨e,h,n⟩=SK C base fin k a l d e h (n+1) (stepW (.next x) e h n):=bH rfl
@[simp] theorem aps {i:Nat} {x:Opd}:OK C base fin k a (⟨d,none,.ext i x⟩::l) ⟨e,h,n⟩=SK C base fin k a l d e h (n+1) (stepW (.ext i x) e h n):=bH rfl
@[simp] theorem apk {kd:Nat} {x:Opd}:OK C base fin k a (⟨d,none,.len kd x⟩::l) ⟨e,h,n⟩=SK C base fin k a l d e h (n+1) (stepW (.len kd x) e h n):=bH rfl
@[simp] theorem aog {x:Opd}:OK C base fin k a (⟨d,none,.cap x⟩::l) ⟨e,h,n⟩=SK C base fin k a l d e h (n+1) (stepW (.cap x) e h n):=bH rfl
@[simp] theorem apI {z:List AV} {b:Nat} {zs:Bool} {x y:Opd}:OK C base fin k a (⟨d,none,.app z b zs x y⟩::l) ⟨e,h,n⟩=SK C base fin k a l d e h (n+1) (stepW (.app z b zs x y) e h n):=bH rfl
@[simp] theorem apM {z:Nat} {x y:Opd}:OK C base fin k a (⟨d,none,.cpy z x y⟩::l) ⟨e,h,n⟩=SK C base fin k a l d e h (n+1) (stepW (.cpy z x y) e h n):=bH rfl
@[simp] theorem aoN {z:List AV} {x:Opd}:OK C base fin k a (⟨d,none,.clr z x⟩::l) ⟨e,h,n⟩=SK C base fin k a l d e h (n+1) (stepW (.clr z x) e h n):=bH rfl
@[simp] theorem aqi {x y:Opd}:OK C base fin k a (⟨d,none,.mx x y⟩::l) ⟨e,h,n⟩=SK C base fin k a l d e h (n+1) (stepW (.mx x y) e h n):=bH rfl
@[simp] theorem aqg {x y:Opd}:OK C base fin k a (⟨d,none,.mn x y⟩::l) ⟨e,h,n⟩=SK C base fin k a l d e h (n+1) (stepW (.mn x y) e h n):=bH rfl
@[simp] theorem aqj {x:Opd}:DK C base fin k a un (⟨d,none,.mv x⟩::l) nid ⟨e,h,n⟩ ds=DSK C base fin k a un l (nid+1) d e h n ds (readsOf e (.mv x)) (stepW (.mv x) e h nid):=bG rfl
@[simp] theorem amN {c x y:Opd}:DK C base fin k a un (⟨d,none,.pick c x y⟩::l) nid ⟨e,h,n⟩ ds=DSK C base fin k a un l (nid+1) d e h n ds (readsOf e (.pick c x y)) (stepW (.pick c x y) e h nid):=bG rfl
@[simp] theorem akx {z:List AV}:DK C base fin k a un (⟨d,none,.alloc z⟩::l) nid ⟨e,h,n⟩ ds=DSK C base fin k a un l (nid+1) d e h n ds (readsOf e (.alloc z)) (stepW (.alloc z) e h nid):=bG rfl
@[simp] theorem aof {x:Opd}:DK C base fin k a un (⟨d,none,.box x⟩::l) nid ⟨e,h,n⟩ ds=DSK C base fin k a un l (nid+1) d e h n ds (readsOf e (.box x)) (stepW (.box x) e h nid):=bG rfl
@[simp] theorem akH {z:List AV} {ps:List (Nat × Nat × Opd)}:DK C base fin k a un (⟨d,none,.build z ps⟩::l) nid ⟨e,h,n⟩ ds=DSK C base fin k a un l (nid+1) d e h n ds (readsOf e (.build z ps)) (stepW (.build z ps) e h nid):=bG rfl
@[simp] theorem ajw {z:List AV} {m:Nat} {ps:List (Nat × Opd)}:DK C base fin k a un (⟨d,none,.aS z m ps⟩::l) nid ⟨e,h,n⟩ ds=DSK C base fin k a un l (nid+1) d e h n ds (readsOf e (.aS z m ps)) (stepW (.aS z m ps) e h nid):=bG rfl
@[simp] theorem amA {m:Nat} {ag:Bool} {x:Opd}:DK C base fin k a un (⟨d,none,.load m ag x⟩::l) nid ⟨e,h,n⟩ ds=DSK C base fin k a un l (nid+1) d e h n ds (readsOf e (.load m ag x)) (stepW (.load m ag x) e h nid):=bG rfl
@[simp] theorem ajV {m:Nat} {x y:Opd}:DK C base fin k a un (⟨d,none,.store m x y⟩::l) nid ⟨e,h,n⟩ ds=DSK C base fin k a un l (nid+1) d e h n ds (readsOf e (.store m x y)) (stepW (.store m x y) e h nid):=bG rfl
@[simp] theorem ajs {x:Opd}:DK C base fin k a un (⟨d,none,.jF x⟩::l) nid ⟨e,h,n⟩ ds=DSK C base fin k a un l (nid+1) d e h n ds (readsOf e (.jF x)) (stepW (.jF x) e h nid):=bG rfl
@[simp] theorem anR {op:BinOp} {x y:Opd}:DK C base fin k a un (⟨d,none,.bin op x y⟩::l) nid ⟨e,h,n⟩ ds=DSK C base fin k a un l (nid+1) d e h n ds (readsOf e (.bin op x y)) (stepW (.bin op x y) e h nid):=bG rfl
@[simp] theorem an8 {kd:Nat} {ks:List Nat} {ne:Bool} {x y:Opd}:DK C base fin k a un (⟨d,none,.eqv kd ks ne x y⟩::l) nid ⟨e,h,n⟩ ds=DSK C base fin k a un l (nid+1) d e h n ds (readsOf e (.eqv kd ks ne x y)) (stepW (.eqv kd ks ne x y) e h nid):=bG rfl
@[simp] theorem aqf {op:UnOp} {x:Opd}:DK C base fin k a un (⟨d,none,.un op x⟩::l) nid ⟨e,h,n⟩ ds=DSK C base fin k a un l (nid+1) d e h n ds (readsOf e (.un op x)) (stepW (.un op x) e h nid):=bG rfl
@[simp] theorem anh {kk:IntKind} {x:Opd}:DK C base fin k a un (⟨d,none,.cvt kk x⟩::l) nid ⟨e,h,n⟩ ds=DSK C base fin k a un l (nid+1) d e h n ds (readsOf e (.cvt kk x)) (stepW (.cvt kk x) e h nid):=bG rfl
@[simp] theorem apl {x:Opd}:DK C base fin k a un (⟨d,none,.cvs x⟩::l) nid ⟨e,h,n⟩ ds=DSK C base fin k a un l (nid+1) d e h n ds (readsOf e (.cvs x)) (stepW (.cvs x) e h nid):=bG rfl
@[simp] theorem amZ {x:Opd}:DK C base fin k a un (⟨d,none,.cvb x⟩::l) nid ⟨e,h,n⟩ ds=DSK C base fin k a un l (nid+1) d e h n ds (readsOf e (.cvb x)) (stepW (.cvb x) e h nid):=bG rfl
@[simp] theorem amI {f:Nat} {xs:List Opd}:DK C base fin k a un (⟨d,none,.jo f xs⟩::l) nid ⟨e,h,n⟩ ds=DSK C base fin k a un l (nid+1) d e h n ds (readsOf e (.jo f xs)) (stepW (.jo f xs) e h nid):=bG rfl
@[simp] theorem ajN:DK C base fin k a un (⟨d,none,.lu⟩::l) nid ⟨e,h,n⟩ ds=DSK C base fin k a un l (nid+1) d e h n ds (readsOf e (.lu)) (stepW (.lu) e h nid):=bG rfl
@[simp] theorem alu {z:List AV} {b:Nat} {x y:Opd}:DK C base fin k a un (⟨d,none,.oD z b x y⟩::l) nid ⟨e,h,n⟩ ds=DSK C base fin k a un l (nid+1) d e h n ds (readsOf e (.oD z b x y)) (stepW (.oD z b x y) e h nid):=bG rfl
@[simp] theorem akA {z:Nat} {x:Opd} {lo hi mx:Option Opd}:DK C base fin k a un (⟨d,none,.slice z x lo hi mx⟩::l) nid ⟨e,h,n⟩ ds=DSK C base fin k a un l (nid+1) d e h n ds (readsOf e (.slice z x lo hi mx)) (stepW (.slice z x lo hi mx) e h nid):=bG rfl
@[simp] theorem ajM {z:Nat} {x:Opd} {lo hi:Option Opd}:DK C base fin k a un (⟨d,none,.gq z x lo hi⟩::l) nid ⟨e,h,n⟩ ds=DSK C base fin k a un l (nid+1) d e h n ds (readsOf e (.gq z x lo hi)) (stepW (.gq z x lo hi) e h nid):=bG rfl
@[simp] theorem apB {o:Nat} {x:Opd}:DK C base fin k a un (⟨d,none,.fld o x⟩::l) nid ⟨e,h,n⟩ ds=DSK C base fin k a un l (nid+1) d e h n ds (readsOf e (.fld o x)) (stepW (.fld o x) e h nid):=bG rfl
@[simp] theorem alc {o m:Nat} {ag:Bool} {x:Opd}:DK C base fin k a un (⟨d,none,.xM o m ag x⟩::l) nid ⟨e,h,n⟩ ds=DSK C base fin k a un l (nid+1) d e h n ds (readsOf e (.xM o m ag x)) (stepW (.xM o m ag x) e h nid):=bG rfl
@[simp] theorem ame {z:Nat} {x y:Opd}:DK C base fin k a un (⟨d,none,.idxs z x y⟩::l) nid ⟨e,h,n⟩ ds=DSK C base fin k a un l (nid+1) d e h n ds (readsOf e (.idxs z x y)) (stepW (.idxs z x y) e h nid):=bG rfl
@[simp] theorem amk {m z:Nat} {x y:Opd}:DK C base fin k a un (⟨d,none,.gy m z x y⟩::l) nid ⟨e,h,n⟩ ds=DSK C base fin k a un l (nid+1) d e h n ds (readsOf e (.gy m z x y)) (stepW (.gy m z x y) e h nid):=bG rfl
@[simp] theorem ajG {x y:Opd}:DK C base fin k a un (⟨d,none,.eG x y⟩::l) nid ⟨e,h,n⟩ ds=DSK C base fin k a un l (nid+1) d e h n ds (readsOf e (.eG x y)) (stepW (.eG x y) e h nid):=bG rfl
@[simp] theorem amG {m z:Nat} {ag:Bool} {x y:Opd}:DK C base fin k a un (⟨d,none,.uy m z ag x y⟩::l) nid ⟨e,h,n⟩ ds=DSK C base fin k a un l (nid+1) d e h n ds (readsOf e (.uy m z ag x y)) (stepW (.uy m z ag x y) e h nid):=bG rfl
@[simp] theorem al7 {kd:Nat} {z:AV} {ok:Bool} {x y:Opd}:DK C base fin k a un (⟨d,none,.look kd z ok x y⟩::l) nid ⟨e,h,n⟩ ds=DSK C base fin k a un l (nid+1) d e h n ds (readsOf e (.look kd z ok x y)) (stepW (.look kd z ok x y) e h nid):=bG rfl
@[simp] theorem apK {kd:Nat} {x y z:Opd}:DK C base fin k a un (⟨d,none,.upd kd x y z⟩::l) nid ⟨e,h,n⟩ ds=DSK C base fin k a un l (nid+1) d e h n ds (readsOf e (.upd kd x y z)) (stepW (.upd kd x y z) e h nid):=bG rfl
@[simp] theorem akV {x:Opd}:DK C base fin k a un (⟨d,none,.range x⟩::l) nid ⟨e,h,n⟩ ds=DSK C base fin k a un l (nid+1) d e h n ds (readsOf e (.range x)) (stepW (.range x) e h nid):=bG rfl
@[simp] theorem alO {x:Opd}:DK C base fin k a un (⟨d,none,.next x⟩::l) nid ⟨e,h,n⟩ ds=DSK C base fin k a un l (nid+1) d e h n ds (readsOf e (.next x)) (stepW (.next x) e h nid):=bG rfl
@[simp] theorem ao9 {i:Nat} {x:Opd}:DK C base fin k a un (⟨d,none,.ext i x⟩::l) nid ⟨e,h,n⟩ ds=DSK C base fin k a un l (nid+1) d e h n ds (readsOf e (.ext i x)) (stepW (.ext i x) e h nid):=bG rfl
@[simp] theorem aoH {kd:Nat} {x:Opd}:DK C base fin k a un (⟨d,none,.len kd x⟩::l) nid ⟨e,h,n⟩ ds=DSK C base fin k a un l (nid+1) d e h n ds (readsOf e (.len kd x)) (stepW (.len kd x) e h nid):=bG rfl
@[simp] theorem aoz {x:Opd}:DK C base fin k a un (⟨d,none,.cap x⟩::l) nid ⟨e,h,n⟩ ds=DSK C base fin k a un l (nid+1) d e h n ds (readsOf e (.cap x)) (stepW (.cap x) e h nid):=bG rfl
@[simp] theorem apq {z:List AV} {b:Nat} {zs:Bool} {x y:Opd}:DK C base fin k a un (⟨d,none,.app z b zs x y⟩::l) nid ⟨e,h,n⟩ ds=DSK C base fin k a un l (nid+1) d e h n ds (readsOf e (.app z b zs x y)) (stepW (.app z b zs x y) e h nid):=bG rfl
@[simp] theorem ap8 {z:Nat} {x y:Opd}:DK C base fin k a un (⟨d,none,.cpy z x y⟩::l) nid ⟨e,h,n⟩ ds=DSK C base fin k a un l (nid+1) d e h n ds (readsOf e (.cpy z x y)) (stepW (.cpy z x y) e h nid):=bG rfl
@[simp] theorem ao8 {z:List AV} {x:Opd}:DK C base fin k a un (⟨d,none,.clr z x⟩::l) nid ⟨e,h,n⟩ ds=DSK C base fin k a un l (nid+1) d e h n ds (readsOf e (.clr z x)) (stepW (.clr z x) e h nid):=bG rfl
@[simp] theorem aqp {x y:Opd}:DK C base fin k a un (⟨d,none,.mx x y⟩::l) nid ⟨e,h,n⟩ ds=DSK C base fin k a un l (nid+1) d e h n ds (readsOf e (.mx x y)) (stepW (.mx x y) e h nid):=bG rfl
@[simp] theorem aql {x y:Opd}:DK C base fin k a un (⟨d,none,.mn x y⟩::l) nid ⟨e,h,n⟩ ds=DSK C base fin k a un l (nid+1) d e h n ds (readsOf e (.mn x y)) (stepW (.mn x y) e h nid):=bG rfl
end
@[simp] theorem nat?_cast (n:Nat):nat? (n:Int)=some n:=rfl
@[simp] theorem nat?_zero:nat? 0=some 0:=rfl
@[simp] theorem nat?_one:nat? 1=some 1:=rfl
@[simp] theorem nat?_lit (n:Nat):nat? (no_index (OfNat.ofNat n):Int)=some n:=rfl
@[simp] theorem nat?_add (n m:Nat):nat? ((n:Int)+(m:Int))=some (n+m):=rfl
@[simp] theorem nat?_add_lit (n m:Nat):nat? ((n:Int)+(no_index (OfNat.ofNat m):Int))=some (n+m):=rfl
theorem aG {x:Int} (h1:-9223372036854775808≤x) (h2:x < 9223372036854775808):IntKind.i64.wrap x=x:=by
 show (if (true&&decide (x % 18446744073709551616 ≥ 9223372036854775808))=true then x % 18446744073709551616 - 18446744073709551616 else x % 18446744073709551616)=x
 simp only [Bool.true_and,decide_eq_true_eq]
 split <;> omega
theorem nI {x:Int} (h1:0≤x) (h2:x < 18446744073709551616):IntKind.u64.wrap x=x:=by
 show (if (false&&decide (x % 18446744073709551616 ≥ 9223372036854775808))=true then x % 18446744073709551616 - 18446744073709551616 else x % 18446744073709551616)=x
 simp only [Bool.false_and,Bool.false_eq_true,if_false]
 omega
theorem wU8 {x:Int} (h1:0≤x) (h2:x < 256):IntKind.u8.wrap x=x:=by
 show (if (false&&decide (x % 256 ≥ 128))=true then x % 256 - 256 else x % 256)=x
 simp only [Bool.false_and,Bool.false_eq_true,if_false]
 omega
theorem fits {n c:Nat} (h:n * c≤35184372088832):(n * c≤35184372088832)=True:=eq_true h
@[simp ↓] theorem aqu {α β:Type} (a:α) (f:α→Option β):ob (some a) f=f a:=rfl
@[simp] theorem ajD (e:Env) (h:aJ) (t:Nat):Bg e h (.tmp t)=Pav.get e t:=rfl
def cellOf (h:aJ) (n:Nat) (ag:Bool):Option AV→Option AV
 | some (.ptr b i o)=>xC n ag o i (Pav.get h b)
 | _=>none
@[simp] theorem ais (e:Env) (h:aJ) (t n:Nat) (ag:Bool):Bg e h (.cell t n ag)=cellOf h n ag (Pav.get e t):=rfl
attribute [simp] cellOf
@[simp] theorem aqB (s:Nat) (e:Env):(Opd.t s).ev e=(Pav.get e s).getD .undef:=rfl
@[simp] theorem aqt (v:AV) (e:Env):(Opd.c v).ev e=v:=rfl
@[simp ↓] theorem aqz {α β:Type} (f:α→Option β):ob none f=none:=rfl
@[simp ↓] theorem aqv {α β:Type} (a:α) (f:α→β):om (some a) f=some (f a):=rfl
@[simp ↓] theorem aqw {α β:Type} (f:α→β):om none f=none:=rfl
@[simp] theorem aqs {β:Type} (x:Option β):og true x=x:=rfl
@[simp] theorem aqr {β:Type} (x:Option β):og false x=none:=rfl
@[simp] theorem aqx (v:AV):ov (some v)=some (v,[]):=rfl
@[simp] theorem aqn (v:AV):ovW (some v)=some (v,[]):=rfl
@[simp] theorem ak3 (x:AV × Upd):plainW (some x)=some (x.1,[]):=rfl
def Yx {α:Type}:Option α→Option (List α)→Option (List α)
 | some a,some l=>some (a::l)
 | _,_=>none
@[simp] theorem al5 {α:Type} (a:α) (l:List α):Yx (some a) (some l)=some (a::l):=rfl
@[simp] theorem aks {α β:Type} (f:α→Option β):bg f []=some []:=rfl
@[simp] theorem ajH {α β:Type} (f:α→Option β) (a:α) (r:List α):bg f (a::r)=Yx (f a) (bg f r):=by
 simp only [bg];cases f a <;> cases bg f r <;> rfl
def af4 (k:Nat):Option AV→Option Env→Option Env
 | some v,some r=>some ((k,v)::r)
 | _,_=>none
@[simp] theorem alY (k:Nat) (v:AV) (r:Env):af4 k (some v) (some r)=some ((k,v)::r):=rfl
@[simp] theorem aiD (π:Nat→Option Nat):jW π []=some []:=rfl
@[simp] theorem agA (π:Nat→Option Nat) (k:Nat) (v:AV) (r:Env):jW π ((k,v)::r)=af4 k (ren π v) (jW π r):=by
 simp only [jW];cases ren π v <;> cases jW π r <;> rfl
def ak0 (i o:Nat):Option Nat→Option AV
 | some b=>some (.ptr b i o)
 | none=>none
def slO (z i l c:Nat) (ex:Bool):Option Nat→Option AV
 | some b=>some (.sl b z i l c ex)
 | none=>none
def ajX:Option Nat→Option AV
 | some b=>some (.map b)
 | none=>none
def fnO (f:Nat):Option (List AV)→Option AV
 | some cs=>some (.fn f cs)
 | none=>none
def agP:Option (List AV)→Option AV
 | some cs=>some (.agg cs)
 | none=>none
def aiJ:Option (List AV)→Option AV
 | some cs=>some (.tup cs)
 | none=>none
@[simp] theorem aoO (i o b:Nat):ak0 i o (some b)=some (.ptr b i o):=rfl
@[simp] theorem aqo (z i l c:Nat) (ex:Bool) (b:Nat):slO z i l c ex (some b)=some (.sl b z i l c ex):=rfl
@[simp] theorem am5 (b:Nat):ajX (some b)=some (.map b):=rfl
@[simp] theorem aqm (f:Nat) (cs:List AV):fnO f (some cs)=some (.fn f cs):=rfl
@[simp] theorem apz (cs:List AV):agP (some cs)=some (.agg cs):=rfl
@[simp] theorem anC (cs:List AV):aiJ (some cs)=some (.tup cs):=rfl
section
variable (π:Nat→Option Nat)
@[simp] theorem alE (b i o:Nat):ren π (.ptr b i o)=ak0 i o (π b):=by simp only [ren];cases π b <;> rfl
@[simp] theorem anG (b z i l c:Nat) (ex:Bool):ren π (.sl b z i l c ex)=slO z i l c ex (π b):=by simp only [ren];cases π b <;> rfl
@[simp] theorem amd (b:Nat):ren π (.map b)=ajX (π b):=by simp only [ren];cases π b <;> rfl
@[simp] theorem amT (f:Nat) (cs:List AV):ren π (.fn f cs)=fnO f (lF π cs):=by simp only [ren];cases lF π cs <;> rfl
@[simp] theorem alC (cs:List AV):ren π (.agg cs)=agP (lF π cs):=by simp only [ren];cases lF π cs <;> rfl
@[simp] theorem amE (cs:List AV):ren π (.tup cs)=aiJ (lF π cs):=by simp only [ren];cases lF π cs <;> rfl
@[simp] theorem ajJ:ren π .undef=some .undef:=rfl
@[simp] theorem ajZ (b:Bool):ren π (.bool b)=some (.bool b):=rfl
@[simp] theorem alj (k:IntKind) (n:Int):ren π (.int k n)=some (.int k n):=rfl
@[simp] theorem alf (s:List UInt8):ren π (.str s)=some (.str s):=rfl
@[simp] theorem aj7:ren π .dU=some .dU:=rfl
@[simp] theorem akc:ren π .aZ=some .aZ:=rfl
@[simp] theorem akU:ren π .dN=some .dN:=rfl
@[simp] theorem akJ:ren π .bI=some .bI:=rfl
@[simp] theorem aoY (z:Nat) (es:List (List AV)) (ex:Bool):ren π (.ro z es ex)=some (.ro z es ex):=rfl
@[simp] theorem amg (cs:List AV):ren π (.rop cs)=some (.rop cs):=rfl
@[simp] theorem akQ:lF π []=some []:=rfl
@[simp] theorem ajp (v:AV) (r:List AV):lF π (v::r)=Yx (ren π v) (lF π r):=by simp only [lF];cases ren π v <;> cases lF π r <;> rfl
def abB (z:Nat) (mu dt:Bool):Option (List (List AV))→Option ig
 | some es=>some (.cells z es mu dt)
 | none=>none
@[simp] theorem akd (z:Nat) (mu dt:Bool) (es:List (List AV)):abB z mu dt (some es)=some (.cells z es mu dt):=rfl
@[simp] theorem ajy (z:Nat) (es:List (List AV)) (mu:Bool):gY π (.cells z es mu true)=some (.cells z es mu true):=rfl
@[simp] theorem ajx (z:Nat) (es:List (List AV)) (mu:Bool):gY π (.cells z es mu false)=abB z mu false (bg (lF π) es):=by simp only [gY];cases bg (lF π) es <;> rfl
@[simp] theorem aje (es:List (AV × AV)):gY π (.map es)=some (.map es):=rfl
@[simp] theorem af6 (s:List UInt8) (p:Nat):gY π (.iter s p)=some (.iter s p):=rfl
def UN (k:Nat):Option ig→Option aJ→Option aJ
 | some v,some r=>some ((k,v)::r)
 | _,_=>none
@[simp] theorem amM (k:Nat) (v:ig) (r:aJ):UN k (some v) (some r)=some ((k,v)::r):=rfl
@[simp] theorem agV (base:Nat):jJ base π []=some []:=rfl
@[simp] theorem agD (base b:Nat) (o:ig) (r:aJ):jJ base π ((b,o)::r)=if b < base then UN b (gY π o) (jJ base π r) else jJ base π r:=by
 simp only [jJ]
 split
 · cases gY π o <;> cases jJ base π r <;> rfl
 · rfl
def newH (n:Nat) (π:Nat→Option Nat) (r:Option aJ):Option ig→Option aJ
 | some o=>UN n (gY π o) r
 | none=>r
@[simp] theorem aoo (n:Nat) (r:Option aJ) (o:ig):newH n π r (some o)=UN n (gY π o) r:=rfl
@[simp] theorem aoQ (n:Nat) (r:Option aJ):newH n π r none=r:=rfl
@[simp] theorem aiK (h:aJ) (n:Nat):lH π h n []=some []:=rfl
@[simp] theorem agE (h:aJ) (n b:Nat) (r:List Nat):lH π h n (b::r)=newH n π (lH π h (n+1) r) (Pav.get h b):=by
 simp only [lH,newH]
 cases Pav.get h b with
 | none=>rfl
 | some o=>simp only;cases gY π o <;> cases lH π h (n+1) r <;> rfl
end
def ajS (n:Nat):Option Env→Option aJ→Option aJ→Option WSt
 | some e,some h1,some h2=>some ⟨e,h1++h2,n⟩
 | _,_,_=>none
@[simp] theorem anK (n:Nat) (e:Env) (h1 h2:aJ):ajS n (some e) (some h1) (some h2)=some ⟨e,h1++h2,n⟩:=rfl
@[simp] theorem agM (base:Nat) (s:WSt) (L:List Nat):renumber base s L=ajS (base+L.length) (jW (gU base L) s.env) (jJ base (gU base L) s.heap) (lH (gU base L) s.heap base L):=by
 simp only [renumber]
 cases jW (gU base L) s.env <;> cases jJ base (gU base L) s.heap <;> cases lH (gU base L) s.heap base L <;> rfl
def akW (h:aJ) (nid zl bytes:Nat) (s:AV):Option (List (List AV) × Bool)→Option (AV × dR)
 | some (xs,d)=>iR h nid zl bytes s xs d
 | none=>none
@[simp] theorem ap7 (h:aJ) (nid zl bytes:Nat) (s:AV) (xs:List (List AV)) (d:Bool):akW h nid zl bytes s (some (xs,d))=iR h nid zl bytes s xs d:=rfl
@[simp] theorem anw (z:List AV) (bytes:Nat) (s x:Opd) (e:Env) (h:aJ) (n:Nat):O5 z bytes false s x e h n=akW h n z.length bytes (s.ev e) (jS h z.length (x.ev e)):=by
 simp only [O5,Bool.false_eq_true,if_false];cases jS h z.length (x.ev e) <;> rfl
def Yq (h:aJ) (nid:Nat) (z:List AV) (bytes:Nat) (s:AV):AV→Option (AV × dR)
 | .int _ n=>ob (nat? n) fun n=>if n * (bytes+1)≤cZ then iR h nid z.length bytes s (List.replicate n z) (z.all isC) else none
 | _=>none
@[simp] theorem aot (z:List AV) (bytes:Nat) (s x:Opd) (e:Env) (h:aJ) (n:Nat):O5 z bytes true s x e h n=Yq h n z bytes (s.ev e) (x.ev e):=by
 simp only [O5,if_true];cases x.ev e <;> rfl
def aj8 (h:aJ) (z:Nat) (d:AV):Option (List (List AV) × Bool)→Option (AV × dR)
 | some (xs,b)=>qw h z xs b d
 | none=>none
@[simp] theorem aoa (h:aJ) (z:Nat) (d:AV) (xs:List (List AV)) (b:Bool):aj8 h z d (some (xs,b))=qw h z xs b d:=rfl
@[simp] theorem alv (z:Nat) (d s:Opd) (e:Env) (h:aJ) (n:Nat):XP z d s e h n=aj8 h z (d.ev e) (jS h z (s.ev e)):=by
 simp only [XP];cases jS h z (s.ev e) <;> rfl
attribute [simp] Yq
@[simp] theorem amP {α β γ:Type} (x:Option α) (g:α→β) (f:β→Option γ):ob (Option.map g x) f=ob x fun a=>f (g a):=by cases x <;> rfl
section
variable (h:aJ) (nid zl bytes:Nat) (xs:List (List AV)) (d:Bool)
@[simp] theorem agt:iR h nid zl bytes .aZ xs d=if xs.isEmpty=true then some (.aZ,[]) else lV nid zl xs.length bytes xs d:=by cases xs <;> rfl
@[simp] theorem ajI (z:Nat) (es:List (List AV)) (ex:Bool):iR h nid zl bytes (.ro z es ex) xs d =
 if z=zl then (if xs.isEmpty=true then some (.ro z es ex,[]) else if ex=true then lV nid zl (es.length+xs.length) bytes (es++xs) d else none) else none:=by cases xs <;> rfl
@[simp] theorem Xw (b z i len cap:Nat) (ex:Bool):iR h nid zl bytes (.sl b z i len cap ex) xs d =
 if z=zl then (if xs.isEmpty=true then some (.sl b z i len cap ex,[]) else KU (Pav.get h b) nid zl bytes b i len cap ex xs d (len+xs.length)) else none:=by cases xs <;> rfl
end
def ahS (h:aJ) (n z i len cap:Nat) (ex:Bool):Option ig→Option AV
 | some (.cells _ es _ true)=>og (decide (((es.drop i).take len).length=len)) (some (.ro z ((es.drop i).take len) (ex&&decide (cap=len))))
 | some (.cells _ es _ false)=>ob (bg (bg (bM h n)) ((es.drop i).take len)) fun es'=>og (decide (es'.length=len)&&es'.all fun e=>e.all isC) (some (.ro z es' (ex&&decide (cap=len))))
 | _=>none
def agY (h:aJ) (n i o:Nat):Option ig→Option AV
 | some (.cells _ es _ true)=>ob es[i]? fun cs=>some (.rop (cs.drop o))
 | some (.cells _ es _ false)=>ob es[i]? fun cs=>ob (bg (bM h n) (cs.drop o)) fun cs'=>some (.rop cs')
 | _=>none
def Rh (h:aJ) (n i o:Nat):Option ig→List Nat
 | some (.cells _ es _ false)=>((es[i]?.getD []).drop o).flatMap (aK h n)
 | _=>[]
def SG (h:aJ) (n i len:Nat):Option ig→List Nat
 | some (.cells _ es _ false)=>((es.drop i).take len).flatMap fun e=>e.flatMap (aK h n)
 | _=>[]
section
variable (h:aJ) (n:Nat)
@[simp] theorem ajA (b:Bool):bM h (n+1) (.bool b)=some (.bool b):=rfl
@[simp] theorem akG (k:IntKind) (x:Int):bM h (n+1) (.int k x)=some (.int k x):=rfl
@[simp] theorem akR (s:List UInt8):bM h (n+1) (.str s)=some (.str s):=rfl
@[simp] theorem ajK:bM h (n+1) .dU=some .dU:=rfl
@[simp] theorem ajq:bM h (n+1) .aZ=some .aZ:=rfl
@[simp] theorem ajv:bM h (n+1) .dN=some .dN:=rfl
@[simp] theorem ajL:bM h (n+1) .bI=some .bI:=rfl
@[simp] theorem ald (z:Nat) (es:List (List AV)) (ex:Bool):bM h (n+1) (.ro z es ex)=some (.ro z es ex):=rfl
@[simp] theorem aj3 (cs:List AV):bM h (n+1) (.rop cs)=some (.rop cs):=rfl
@[simp] theorem alr (f:Nat) (cs:List AV):bM h (n+1) (.fn f cs)=fnO f (bg (bM h n) cs):=by simp only [bM];cases bg (bM h n) cs <;> rfl
@[simp] theorem akj (cs:List AV):bM h (n+1) (.agg cs)=agP (bg (bM h n) cs):=by simp only [bM];cases bg (bM h n) cs <;> rfl
@[simp] theorem akh (cs:List AV):bM h (n+1) (.tup cs)=aiJ (bg (bM h n) cs):=by simp only [bM];cases bg (bM h n) cs <;> rfl
@[simp] theorem al1 (b z i len cap:Nat) (ex:Bool):bM h (n+2) (.sl b z i len cap ex)=ahS h (n+1) z i len cap ex (Pav.get h b):=by
 simp only [bM,ahS]
 split
 · rename_i hg
   rw [hg]
   rename_i dt
   cases dt <;> rfl
 · rename_i hg
   split
   · rename_i h1;exact absurd h1 (hg _ _ _ _)
   · rename_i h1;exact absurd h1 (hg _ _ _ _)
   · rfl
@[simp] theorem akB (b i o:Nat):bM h (n+2) (.ptr b i o)=agY h (n+1) i o (Pav.get h b):=by
 simp only [bM,agY]
 split
 · rename_i hg
   rw [hg]
   rename_i es _ dt
   cases dt
   · simp only [Bool.false_eq_true,if_false]
     cases es[i]? with
     | none=>rfl
     | some cs=>simp only [ob];cases bg (bM h (n+1)) (cs.drop o) <;> rfl
   · rfl
 · rename_i hg
   split
   · rename_i h1;exact absurd h1 (hg _ _ _ _)
   · rename_i h1;exact absurd h1 (hg _ _ _ _)
   · rfl
@[simp] theorem ahv (b i o:Nat):aK h (n+1) (.ptr b i o)=b::Rh h n i o (Pav.get h b):=by
 simp only [aK,Rh]
 congr 1
 split
 · rename_i hg
   rw [hg]
   rename_i dt
   cases dt <;> rfl
 · rename_i hg
   split
   · rename_i h1;exact absurd h1 (hg _ _ _ _)
   · rfl
@[simp] theorem agj (b:Bool):aK h (n+1) (.bool b)=[]:=rfl
@[simp] theorem ah6 (k:IntKind) (x:Int):aK h (n+1) (.int k x)=[]:=rfl
@[simp] theorem ahd (s:List UInt8):aK h (n+1) (.str s)=[]:=rfl
@[simp] theorem agC:aK h (n+1) .dU=[]:=rfl
@[simp] theorem agq:aK h (n+1) .aZ=[]:=rfl
@[simp] theorem agI:aK h (n+1) .dN=[]:=rfl
@[simp] theorem agl:aK h (n+1) .bI=[]:=rfl
@[simp] theorem ajC (z:Nat) (es:List (List AV)) (ex:Bool):aK h (n+1) (.ro z es ex)=[]:=rfl
@[simp] theorem aiq (cs:List AV):aK h (n+1) (.rop cs)=[]:=rfl
@[simp] theorem ajE (f:Nat) (cs:List AV):aK h (n+1) (.fn f cs)=cs.flatMap (aK h n):=rfl
@[simp] theorem aiQ (cs:List AV):aK h (n+1) (.agg cs)=cs.flatMap (aK h n):=rfl
@[simp] theorem ah2 (cs:List AV):aK h (n+1) (.tup cs)=cs.flatMap (aK h n):=rfl
@[simp] theorem ajz (b z i len cap:Nat) (ex:Bool):aK h (n+1) (.sl b z i len cap ex)=b::SG h n i len (Pav.get h b):=by
 simp only [aK,SG]
 congr 1
 split
 · rename_i hg
   rw [hg]
   rename_i dt
   cases dt <;> rfl
 · rename_i hg
   split
   · rename_i h1;exact absurd h1 (hg _ _ _ _)
   · rfl
@[simp] theorem afm (b:Bool):dn (n+1) (.bool b)=false:=rfl
@[simp] theorem af5 (k:IntKind) (x:Int):dn (n+1) (.int k x)=false:=rfl
@[simp] theorem agJ (s:List UInt8):dn (n+1) (.str s)=false:=rfl
@[simp] theorem adB:dn (n+1) .dU=false:=rfl
@[simp] theorem ac1:dn (n+1) .aZ=false:=rfl
@[simp] theorem afh:dn (n+1) .dN=false:=rfl
@[simp] theorem ad9:dn (n+1) .bI=false:=rfl
@[simp] theorem ahF (z:Nat) (es:List (List AV)) (ex:Bool):dn (n+1) (.ro z es ex)=true:=rfl
@[simp] theorem agf (cs:List AV):dn (n+1) (.rop cs)=true:=rfl
@[simp] theorem aix (f:Nat) (cs:List AV):dn (n+1) (.fn f cs)=cs.any (dn n):=rfl
@[simp] theorem agi (cs:List AV):dn (n+1) (.agg cs)=cs.any (dn n):=rfl
@[simp] theorem aga (cs:List AV):dn (n+1) (.tup cs)=cs.any (dn n):=rfl
end
def imax (a b:Int):Int:=if b > a then b else a
def qY (a b:Int):Int:=if b < a then b else a
theorem KN {a b:Int} (h:b≤a):imax a b=a:=by unfold imax;rw [if_neg (by omega)]
theorem XY {a b:Int} (h:a≤b):imax a b=b:=by unfold imax;split <;> omega
def mxV:AV→AV→Option (AV × Upd)
 | .int k a,.int k' b=>if k=k' then some (.int k (imax a b),[]) else none
 | _,_=>none
def mnV:AV→AV→Option (AV × Upd)
 | .int k a,.int k' b=>if k=k' then some (.int k (qY a b),[]) else none
 | _,_=>none
@[simp] theorem apy (x y:Opd) (e:Env) (h:Heap) (n:Nat):sMx x y e h n=mxV (x.ev e) (y.ev e):=rfl
@[simp] theorem anA (x y:Opd) (e:Env) (h:Heap) (n:Nat):sMn x y e h n=mnV (x.ev e) (y.ev e):=rfl
attribute [simp] mxV mnV
@[simp] theorem aiP (base:Nat) (cn:Bool) (lv:List Nat) (s:WSt):qL base ⟨cn,lv,[]⟩ s=canon base ⟨cn,lv,[]⟩ s:=rfl
@[simp] theorem agL (base:Nat) (cn:Bool) (lv:List Nat) (p:Nat × Nat) (r:List (Nat × Nat)) (s:WSt):qL base ⟨cn,lv,p::r⟩ s=ob (lN (Fz (p::r)) s) (canon base ⟨cn,lv,p::r⟩):=rfl
attribute [simp] Fz lN FZ
attribute [simp] List.getElem?_cons_zero ahS SG agY Rh
attribute [simp] stepW QE ahI SL JO kQ ZY y8 xC pz JC uZ GL splice RY aaf UE LZ found adx TJ Ri UF BJ aiB qH KW jS lV KU
 Nv qw adf BO Qy sMv Cj BK qp lT YX xQ Bv Ce zG qW G8 iy eqFn Io Iw Ja iC Bd Uk jY iq sUn OH Om NV Oa Oz Am Cb gJ DF Af FU jK gK l9 jL uz bound oev
 J7 Df CB rV CY sO qB CQ P8 sCap xZ AV.cells AV.cell isC isD Pav.get Pav.put dW oW bJ EM del readsOf dV canon Uh Tq kU yN IW Gl UG tY gU place close
 Eh rJ refs Dh Js aW oq bT bP E8 BD oK aP H7 au uF cZ lG jV Bh X0 SB meets SA
def rep {α:Type} (n:Nat) (a:α):List α:=List.replicate n a
section
variable {α β:Type} (n:Nat) (a:α)
@[simp] theorem ajj:(rep n a).length=n:=List.length_replicate
@[simp] theorem ak9 (f:α→β):List.map f (rep n a)=rep n (f a):=List.map_replicate
@[simp] theorem ak6 (p:α→Bool):(rep (n+1) a).all p=p a:=by
 unfold rep;rw [List.all_replicate];simp
@[simp] theorem agx {i:Nat} (h:i < (rep n a).length):(rep n a)[i]=a:=by
 unfold rep;exact List.getElem_replicate _
@[simp] theorem ab1:List.take n (rep n a)=rep n a:=List.take_of_length_le (by simp)
@[simp] theorem ake (n:Nat):(rep (n+1) a).isEmpty=false:=rfl
end
end Go.Pw
end
section
set_option linter.unusedSimpArgs false
set_option linter.unusedVariables false
namespace Go.Pw
open Go Go.Pav
inductive ZO where
 | p (d:Option (Option Nat)) (g:Option (Nat × Bool)) (x:COp)
def zt:List Nat→List Opd
 | []=>[]
 | a::r=>.t a::zt r
namespace Z
def y (s:Nat):ZO→ZO
 | .p d _ x=>.p d (some (s,true)) x
def z (s:Nat):ZO→ZO
 | .p d _ x=>.p d (some (s,false)) x
def d (k:Nat):ZO→ZO
 | .p _ g x=>.p (some (some k)) g x
def n:ZO→ZO
 | .p _ g x=>.p (some none) g x
def m (a:Nat):ZO:=.p none none (.mv (.t a))
def i (k:Int):ZO:=.p none none (.mv (.c (.int .i64 k)))
def l (k a:Nat):ZO:=.p none none (.load k false (.t a))
def h (k a:Nat):ZO:=.p none none (.load k true (.t a))
def f (o a:Nat):ZO:=.p none none (.fld o (.t a))
def po (a b:Nat):ZO:=.p none none (.pick (.t a) (.c (.bool true)) (.t b))
def pa (a b:Nat):ZO:=.p none none (.pick (.t a) (.t b) (.c (.bool false)))
def ln (k a:Nat):ZO:=.p none none (.len k (.t a))
def ix (k a b:Nat):ZO:=.p none none (.idxs k (.t a) (.t b))
def ex (k a:Nat):ZO:=.p none none (.ext k (.t a))
def nk (a:Nat):ZO:=.p none none (.jF (.t a))
def bx (a:Nat):ZO:=.p none none (.box (.t a))
def nt (a:Nat):ZO:=.p none none (.un .not (.t a))
def st (k a b:Nat):ZO:=.p none none (.store k (.t a) (.t b))
def E (x:COp):ZO:=.p none none x
def tt:ZO:=.p none none (.mv (.c (.bool true)))
def ff:ZO:=.p none none (.mv (.c (.bool false)))
def ca (g:Nat) (q:List Nat):ZO:=.p none none (.call g (zt q))
def eq (a b:Nat):ZO:=.p none none (.bin .eql (.t a) (.t b))
def eqi (a:Nat) (k:Int):ZO:=.p none none (.bin .eql (.t a) (.c (.int .i64 k)))
def ne (a b:Nat):ZO:=.p none none (.bin .neq (.t a) (.t b))
def nei (a:Nat) (k:Int):ZO:=.p none none (.bin .neq (.t a) (.c (.int .i64 k)))
def lt (a b:Nat):ZO:=.p none none (.bin .lss (.t a) (.t b))
def lti (a:Nat) (k:Int):ZO:=.p none none (.bin .lss (.t a) (.c (.int .i64 k)))
def le (a b:Nat):ZO:=.p none none (.bin .leq (.t a) (.t b))
def lei (a:Nat) (k:Int):ZO:=.p none none (.bin .leq (.t a) (.c (.int .i64 k)))
def gt (a b:Nat):ZO:=.p none none (.bin .gtr (.t a) (.t b))
def gti (a:Nat) (k:Int):ZO:=.p none none (.bin .gtr (.t a) (.c (.int .i64 k)))
def ge (a b:Nat):ZO:=.p none none (.bin .geq (.t a) (.t b))
def gei (a:Nat) (k:Int):ZO:=.p none none (.bin .geq (.t a) (.c (.int .i64 k)))
def ad (a b:Nat):ZO:=.p none none (.bin .add (.t a) (.t b))
def adi (a:Nat) (k:Int):ZO:=.p none none (.bin .add (.t a) (.c (.int .i64 k)))
def sb (a b:Nat):ZO:=.p none none (.bin .sub (.t a) (.t b))
def sbi (a:Nat) (k:Int):ZO:=.p none none (.bin .sub (.t a) (.c (.int .i64 k)))
end Z
def zo:Nat→List ZO→List aX
 | _,[]=>[]
 | k,.p none g x::r=>⟨some k,g,x⟩::zo (k+1) r
 | k,.p (some j) g x::r=>⟨j,g,x⟩::zo k r
inductive ZC where
 | O (k:Nat) (l:List ZO)
 | Q (k:Nat) (l:List ZO) (s:List Nat)
 | R (k:Nat) (l:List ZO) (a:Ann)
 | U (k:Nat) (l:List ZO) (u:List (Nat × Nat)) (s:List Nat)
 | V (k:Nat) (l:List ZO) (u:List (Nat × Nat)) (a:Ann)
 | s (a b:ZC)
 | r (a:ZC)
 | c (t:Nat) (a:ZC)
 | cc (t:Nat) (a b:ZC)
 | cd (x:Opd) (a b:ZC)
 | B (j:Nat) (a:ZC)
 | bk (j:Nat) (a:ZC) (x:Ann)
 | lp (x:Ann) (a:ZC)
 | ee (j:Nat)
 | w (x:aC)
instance:Coe aC ZC:=⟨.w⟩
def zc:ZC→aC
 | .O k l=>.ops (zo k l) ⟨false,[],[]⟩
 | .Q k l s=>.ops (zo k l) ⟨true,s,[]⟩
 | .R k l a=>.ops (zo k l) a
 | .U k l u s=>.draw (zo k l) u ⟨true,s,[]⟩
 | .V k l u a=>.draw (zo k l) u a
 | .s a b=>.seq (zc a) (zc b)
 | .r a=>.seq (zc a) .ret
 | .c t a=>.cond (.t t) (zc a) .skip
 | .cc t a b=>.cond (.t t) (zc a) (zc b)
 | .cd x a b=>.cond x (zc a) (zc b)
 | .B j a=>.block j (zc a) ⟨false,[],[]⟩
 | .bk j a x=>.block j (zc a) x
 | .lp x a=>.loop x (zc a)
 | .ee j=>.exit j
 | .w x=>x
abbrev T (a:Nat):Opd:=.t a
abbrev N (n:Int):Opd:=.c (.int .i64 n)
abbrev zd (x:ZC) {y:aC} (_h:zc x=y:=by dsimp only [zc,zo,zt,T,N,Z.y,Z.z,Z.d,Z.n,Z.m,Z.i,Z.l,Z.h,Z.f,Z.po,Z.pa,Z.ln,Z.ix,Z.ex,Z.nk,Z.bx,Z.nt,Z.st,Z.E,Z.tt,Z.ff,Z.ca,Z.eq,Z.eqi,Z.ne,Z.nei,Z.lt,Z.lti,Z.le,Z.lei,Z.gt,Z.gti,Z.ge,Z.gei,Z.ad,Z.adi,Z.sb,Z.sbi]):aC:=y
abbrev ZL (L B:aC) (a:Ann):Prop:=∀ {β:Type} {C:aI} {b:Nat} {f:Ex × WSt→Option β} {k:List Pw.Frame} {s:WSt},CK C b f k L s=LK C b f (.sq L::k) B (canon b a s)
end Go.Pw
end
