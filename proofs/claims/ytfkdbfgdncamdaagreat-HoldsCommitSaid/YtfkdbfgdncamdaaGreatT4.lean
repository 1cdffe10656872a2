/- Part of the theory that the claims of this work use: PwCanon, PwCode, PwDen, PwCk, PwSimp, PwZip. No conditions of its own. -/
import Derived.Test.YtfkdbfgdncamdaaGreatT3
section
set_option linter.unusedSimpArgs false
set_option linter.unusedVariables false
namespace Go.Pw
open Go Go.Pav
def Srt (e:Env):Prop:=e.Pairwise fun a b=>b.1 < a.1
theorem Srt.put {e:Env} (h:Srt e) (k:Nat) (v:AV):Srt (Bz e k v):=by
 have mem:∀ (e:Env) x,x ∈ Bz e k v→x=(k,v)∨x ∈ e:=by
  intro e
  induction e with
  | nil=>intro x hx;simp [Bz] at hx;exact .inl hx
  | cons y e ih =>
   intro x hx
   obtain ⟨j,u⟩:=y
   simp only [Bz] at hx
   split at hx
   · rcases List.mem_cons.1 hx with q | q
     · exact .inl q
     · exact .inr q
   · split at hx
     · rcases List.mem_cons.1 hx with q | q
       · exact .inl q
       · exact .inr (List.mem_cons_of_mem _ q)
     · rcases List.mem_cons.1 hx with q | q
       · exact .inr (q ▸ List.mem_cons_self)
       · rcases ih x q with q | q
         · exact .inl q
         · exact .inr (List.mem_cons_of_mem _ q)
 induction e with
 | nil=>exact List.pairwise_singleton _ _
 | cons y e ih =>
  obtain ⟨j,u⟩:=y
  have h1:∀ x ∈ e,x.1 < j:=fun x hx=>(List.pairwise_cons.1 h).1 x hx
  have h2:Srt e:=(List.pairwise_cons.1 h).2
  simp only [Bz]
  split
  · rename_i hk
    refine List.pairwise_cons.2 ⟨fun x hx=>?_,h⟩
    rcases List.mem_cons.1 hx with rfl | q
    · exact hk
    · have:=h1 x q;simp only;omega
  · rename_i hk
    split
    · rename_i hj;subst hj;exact List.pairwise_cons.2 ⟨h1,h2⟩
    · rename_i hj
      refine List.pairwise_cons.2 ⟨fun x hx=>?_,ih h2⟩
      rcases mem e x hx with rfl | q
      · simp only;omega
      · exact h1 x q
theorem Srt.dL {e:Env} (h:Srt e) (d:Option Nat) (v:AV):Srt (eH e d v):=by
 cases d with
 | none=>exact h
 | some d=>exact h.put d v
theorem UA:∀ (l:List AV) (k:Nat) (acc:Env),Dj k l acc=(fA k l).reverse++acc:=by
 intro l
 induction l with
 | nil=>intro k acc;rfl
 | cons v l ih=>intro k acc;simp [Dj,fA,ih]
theorem Ql:∀ (l:List AV) (k:Nat),(fA k l).Pairwise (fun a b=>a.1 < b.1)∧∀ x ∈ fA k l,k≤x.1:=by
 intro l
 induction l with
 | nil=>intro k;exact ⟨List.Pairwise.nil,fun x hx=>by simp [fA] at hx⟩
 | cons v l ih =>
  intro k
  obtain ⟨h1,h2⟩:=ih (k+1)
  refine ⟨List.pairwise_cons.2 ⟨fun x hx=>by have:=h2 x hx;simp only;omega,h1⟩,fun x hx=>?_⟩
  rcases List.mem_cons.1 hx with rfl | q
  · exact Nat.le_refl _
  · have:=h2 x q;omega
theorem acU (l:List AV) (k:Nat):Srt (Dj k l []):=by
 rw [UA,List.append_nil]
 exact List.pairwise_reverse.2 (Ql l k).1
theorem Srt.get {e:Env} (h:Srt e) {k:Nat} {v:AV} (hm:(k,v) ∈ e):Pav.get e k=some v:=by
 induction e with
 | nil=>cases hm
 | cons y e ih =>
  obtain ⟨j,u⟩:=y
  have h1:∀ x ∈ e,x.1 < j:=fun x hx=>(List.pairwise_cons.1 h).1 x hx
  simp only [Pav.get]
  rcases List.mem_cons.1 hm with q | q
  · cases q;simp
  · have:=h1 _ q
    simp only at this
    rw [if_neg (by omega)]
    exact ih (List.pairwise_cons.1 h).2 q
theorem QU {k a:Nat}:∀ {l:List Nat},a ∈ rH k l→a ∈ l:=by
 intro l
 induction l with
 | nil=>intro h;exact h
 | cons b l ih =>
  intro h
  simp only [rH] at h
  split at h
  · exact List.mem_cons_of_mem _ (ih h)
  · exact h
theorem IG:∀ (e:Env) (live:List Nat),(oC live e).Sublist e∧∀ x ∈ oC live e,x.1 ∈ live:=by
 intro e
 induction e with
 | nil=>intro live;simp [IE]
 | cons y e ih =>
  obtain ⟨j,u⟩:=y
  intro live
  simp only [Gz]
  have hsub:∀ a ∈ rH j live,a ∈ live:=fun a ha=>QU ha
  cases hd:rH j live with
  | nil=>simp [Uy]
  | cons a l =>
   rw [hd] at hsub
   simp only [Uy]
   split
   · rename_i ha
     obtain ⟨h1,h2⟩:=ih l
     refine ⟨h1.cons_cons _,fun x hx=>?_⟩
     rcases List.mem_cons.1 hx with rfl | q
     · simp only;subst ha;exact hsub _ (by simp)
     · exact hsub _ (List.mem_cons_of_mem _ (h2 x q))
   · obtain ⟨h1,h2⟩:=ih (a::l)
     exact ⟨h1.cons _,fun x hx=>hsub _ (h2 x hx)⟩
structure Sim (ρ:Nat→Nat) (V A:Nat→Prop) (s:WSt) (s':St):Prop where
 srt:Srt s.env
 env:EW ρ V A s.env s'.env
 heap:HW ρ V A s.heap s'.heap
 lt:Lts ρ V A s.next s'.next
def Old (base:Nat) (ρ:Nat→Nat) (V A:Nat→Prop) (ρ':Nat→Nat) (V' A':Nat→Prop):Prop:=∀ b,b < base→(A b→A' b∧ρ' b=ρ b∧(V' b↔V b))∧(A' b→A b)
theorem Old.refl (base:Nat) (ρ:Nat→Nat) (V A:Nat→Prop):Old base ρ V A ρ V A:=fun _ _=>⟨fun h=>⟨h,rfl,Iff.rfl⟩,id⟩
theorem Old.trans {base:Nat} {ρ ρ1 ρ2:Nat→Nat} {V A V1 A1 V2 A2:Nat→Prop} (h:Old base ρ V A ρ1 V1 A1) (k:Old base ρ1 V1 A1 ρ2 V2 A2):Old base ρ V A ρ2 V2 A2:=fun b hb =>
 ⟨fun ha=>by
  obtain ⟨h1,h2,h3⟩:=(h b hb).1 ha
  obtain ⟨k1,k2,k3⟩:=(k b hb).1 h1
  exact ⟨k1,k2.trans h2,k3.trans h3⟩,fun ha=>(h b hb).2 ((k b hb).2 ha)⟩
section
variable {ρ:Nat→Nat} {V A:Nat→Prop} {n m:Nat} {h:aI} {h':Heap} {e e':Env}
theorem YM {base:Nat} {h:aI}:∀ (n:Nat) (w acc:List Nat),acc.Nodup→(∀ x ∈ acc,base≤x)→(close base h n w acc).Nodup∧∀ x ∈ close base h n w acc,base≤x:=by
 intro n
 induction n with
 | zero=>intro w acc h1 h2;exact ⟨h1,h2⟩
 | succ n ih =>
  intro w acc h1 h2
  cases w with
  | nil=>exact ⟨h1,h2⟩
  | cons b w =>
   simp only [close]
   split
   · exact ih w acc h1 h2
   · rename_i hb
     split
     · exact ih w acc h1 h2
     · rename_i hc
       refine ih _ _ ?_ ?_
       · have hc:b ∉ acc:=by simpa using hc
         rw [List.nodup_append]
         exact ⟨h1,by simp,fun x hx y hy=>by simp at hy;subst hy;rintro rfl;exact hc hx⟩
       · intro x hx
         rcases List.mem_append.1 hx with q | q
         · exact h2 x q
         · simp at q;subst q;omega
def pre (base:Nat) (L:List Nat) (b:Nat):Nat:=if b < base then b else L.getD (b - base) 0
theorem Rj:∀ {L:List Nat} {n b c:Nat},place n L b=some c→n≤c∧L[c - n]?=some b:=by
 intro L
 induction L with
 | nil=>intro n b c h;simp [place] at h
 | cons a L ih =>
  intro n b c h
  simp only [place] at h
  split at h
  · rename_i hb;cases h;subst hb;simp
  · obtain ⟨h1,h2⟩:=ih h
    refine ⟨by omega,?_⟩
    have:c - n=(c - (n+1))+1:=by omega
    rw [this];simpa using h2
theorem abf:∀ {L:List Nat} {n i b:Nat},L.Nodup→L[i]?=some b→place n L b=some (n+i):=by
 intro L
 induction L with
 | nil=>intro n i b _ h;simp at h
 | cons a L ih =>
  intro n i b hd h
  cases i with
  | zero=>simp at h;subst h;simp [place]
  | succ i =>
   simp only [List.getElem?_cons_succ] at h
   simp only [List.nodup_cons] at hd
   simp only [place]
   rw [if_neg]
   · rw [ih hd.2 h];congr 1;omega
   · rintro rfl;exact hd.1 (List.mem_of_getElem? h)
theorem sD {base:Nat} {L:List Nat} {b c:Nat} (h:gJ base L b=some c):pre base L c=b∧(c < base↔b < base)∧(c < base→c=b)∧(c < base∨c < base+L.length):=by
 unfold gJ at h
 split at h
 · rename_i hb;cases h;exact ⟨by simp [pre,hb],Iff.rfl,fun _=>rfl,.inl hb⟩
 · rename_i hb
   obtain ⟨h1,h2⟩:=Rj h
   have hlt:=(List.getElem?_eq_some_iff.1 h2).1
   refine ⟨?_,⟨fun q=>by omega,fun q=>absurd q hb⟩,fun q=>by omega,.inr (by omega)⟩
   unfold pre
   rw [if_neg (by omega),List.getD_eq_getElem?_getD,h2];rfl
theorem ZP {ρ':Nat→Nat} {V' A':Nat→Prop} {π:Nat→Option Nat} (hπ:∀ b c,A b→π b=some c→A' c∧ρ' c=ρ b∧(V' c↔V b)) (v:AV) :
 ∀ (u v':AV),VW ρ V A v u→ren π v=some v'→VW ρ' V' A' v' u:=by
 refine AV.rec (motive_1:=fun v=>∀ (u v':AV),VW ρ V A v u→ren π v=some v'→VW ρ' V' A' v' u) (motive_2:=fun _=>True)
  (motive_3:=fun l=>∀ (l' r:List AV),bC (VW ρ V A) l l'→lH π l=some r→bC (VW ρ' V' A') r l') ?_ ?_ ?_ ?_ ?_ ?_ ?_ ?_ ?_ ?_ ?_ ?_ ?_ ?_ ?_ ?_ ?_ ?_ ?_ ?_ v
 · intro u v' _ h;simp only [ren,Option.some.injEq] at h;subst h;exact .undef _
 · intro b u v' hu h;simp only [ren,Option.some.injEq] at h;subst h;rw [hu.fC];exact .bool _
 · intro b c u v' hu h;simp only [ren,Option.some.injEq] at h;subst h;rw [hu.dM];exact .int _ _
 · intro b u v' hu h;simp only [ren,Option.some.injEq] at h;subst h;rw [hu.gY];exact .str _
 · intro u v' hu h;simp only [ren,Option.some.injEq] at h;subst h;exact hu.isC rfl
 · intro u v' hu h;simp only [ren,Option.some.injEq] at h;subst h;exact hu.isC rfl
 · intro u v' hu h;simp only [ren,Option.some.injEq] at h;subst h;exact hu.isC rfl
 · intro u v' hu h;simp only [ren,Option.some.injEq] at h;subst h;exact hu.isC rfl
 · intro z es ex _ u v' hu h;simp only [ren,Option.some.injEq] at h;subst h;exact hu.isC rfl
 · intro z _ u v' hu h;simp only [ren,Option.some.injEq] at h;subst h;exact hu.isC rfl
 · intro b i o u v' hu h
   obtain ⟨rfl,hA,hV⟩:=hu.iL
   simp only [ren] at h
   obtain ⟨c,h1,rfl⟩:=aG h
   obtain ⟨q1,q2,q3⟩:=hπ b c hA h1
   rw [← q2]
   exact .ptr c i o q1 (fun q=>hV (q3.1 q))
 · intro b z i len cap ex u v' hu h
   simp only [ren] at h
   obtain ⟨c,h1,rfl⟩:=aG h
   rcases hu.jh with ⟨hA,hV,ex',rfl,hx⟩ | ⟨hA,hV,rfl,rfl,rfl,hv⟩
   · obtain ⟨q1,q2,q3⟩:=hπ b c hA h1
     rw [← q2]
     exact .sl c z i len cap ex ex' q1 (fun q=>hV (q3.1 q)) hx
   · obtain ⟨q1,q2,q3⟩:=hπ b c hA h1
     exact .slv c z ex u q1 (q3.2 hV) hv
 · intro b u v' hu h
   obtain ⟨rfl,hA,hV⟩:=hu.vG
   simp only [ren] at h
   obtain ⟨c,h1,rfl⟩:=aG h
   obtain ⟨q1,q2,q3⟩:=hπ b c hA h1
   rw [← q2]
   exact .map c q1 (fun q=>hV (q3.1 q))
 · intro f cs ih u v' hu h
   obtain ⟨cs',rfl,hr⟩:=hu.xE
   simp only [ren] at h
   obtain ⟨r,h1,rfl⟩:=aG h
   exact VW.kX (ih cs' r hr h1)
 · intro cs ih u v' hu h
   obtain ⟨cs',rfl,hr⟩:=hu.lQ
   simp only [ren] at h
   obtain ⟨r,h1,rfl⟩:=aG h
   exact VW.Jp (ih cs' r hr h1)
 · intro cs ih u v' hu h
   obtain ⟨cs',rfl,hr⟩:=hu.qY
   simp only [ren] at h
   obtain ⟨r,h1,rfl⟩:=aG h
   exact VW.mM (ih cs' r hr h1)
 · trivial
 · intros;trivial
 · intro l' r hr h
   simp only [lH,Option.some.injEq] at h;subst h
   rw [hr.dX];exact .nil
 · intro v l ih1 ih2 l' r hr h
   obtain ⟨u,t,rfl,h1,h2⟩:=hr.dF
   simp only [lH] at h
   obtain ⟨v',h3,h⟩:=ay h
   obtain ⟨r',h4,rfl⟩:=aG h
   exact .cons (ih1 u v' h1 h3) (ih2 t r' h2 h4)
theorem acy {ρ':Nat→Nat} {V' A':Nat→Prop} {π:Nat→Option Nat} (hπ:∀ b c,A b→π b=some c→A' c∧ρ' c=ρ b∧(V' c↔V b)):∀ (l l' r:List AV),bC (VW ρ V A) l l'→lH π l=some r→bC (VW ρ' V' A') r l':=by
 intro l
 induction l with
 | nil=>intro l' r hr h;simp only [lH,Option.some.injEq] at h;subst h;rw [hr.dX];exact .nil
 | cons v l ih =>
  intro l' r hr h
  obtain ⟨u,t,rfl,h1,h2⟩:=hr.dF
  simp only [lH] at h
  obtain ⟨v',h3,h⟩:=ay h
  obtain ⟨r',h4,rfl⟩:=aG h
  exact .cons (ZP hπ v u v' h1 h3) (ih t r' h2 h4)
theorem V3 {ρ':Nat→Nat} {V' A':Nat→Prop} {π:Nat→Option Nat} (_hπ:∀ b c,A b→π b=some c→A' c∧ρ' c=ρ b∧(V' c↔V b)):∀ (e:Env) (r:Env),jQ π e=some r→∀ k v',get r k=some v'→∃ v,get e k=some v∧ren π v=some v':=by
 intro e
 induction e with
 | nil=>intro r h k v' hk;simp only [jQ,Option.some.injEq] at h;subst h;simp [Pav.get] at hk
 | cons x e ih =>
  obtain ⟨j,v⟩:=x
  intro r h k v' hk
  simp only [jQ] at h
  obtain ⟨w,h1,h⟩:=ay h
  obtain ⟨r',h2,rfl⟩:=aG h
  simp only [Pav.get] at hk ⊢
  split at hk
  · rename_i hj;rw [if_pos hj];cases hk;exact ⟨v,rfl,h1⟩
  · rename_i hj;rw [if_neg hj];exact ih r' h2 k v' hk
theorem Ph {π:Nat→Option Nat}:∀ (e r:Env),jQ π e=some r→r.map (·.1)=e.map (·.1):=by
 intro e
 induction e with
 | nil=>intro r h;simp only [jQ,Option.some.injEq] at h;subst h;rfl
 | cons x e ih =>
  obtain ⟨j,v⟩:=x
  intro r h
  simp only [jQ] at h
  obtain ⟨w,h1,h⟩:=ay h
  obtain ⟨r',h2,rfl⟩:=aG h
  simp only [List.map_cons,ih r' h2]
theorem Srt.keys {e r:Env} (h:Srt e) (hk:r.map (·.1)=e.map (·.1)):Srt r:=by
 have h1:(e.map (·.1)).Pairwise (fun a b=>b < a):=List.pairwise_map.2 h
 rw [← hk] at h1
 exact List.pairwise_map.1 h1
theorem Rx {base:Nat} {π:Nat→Option Nat}:∀ (h r:aI),jA base π h=some r→∀ k o',get r k=some o'→k < base∧∃ o,get h k=some o∧gW π o=some o':=by
 intro h
 induction h with
 | nil=>intro r h k v' hk;simp only [jA,Option.some.injEq] at h;subst h;simp [Pav.get] at hk
 | cons x h ih =>
  obtain ⟨j,v⟩:=x
  intro r h k o' hk
  simp only [jA] at h
  split at h
  · rename_i hj
    obtain ⟨w,h1,h⟩:=ay h
    obtain ⟨r',h2,rfl⟩:=aG h
    simp only [Pav.get] at hk ⊢
    split at hk
    · rename_i hjk;rw [if_pos hjk];cases hk;exact ⟨hjk ▸ hj,v,rfl,h1⟩
    · rename_i hjk;rw [if_neg hjk];exact ih r' h2 k o' hk
  · rename_i hj
    obtain ⟨q1,o,q2,q3⟩:=ih r h k o' hk
    refine ⟨q1,o,?_,q3⟩
    simp only [Pav.get]
    rw [if_neg (by omega)];exact q2
theorem TT {π:Nat→Option Nat} {h:aI}:∀ (L:List Nat) (n:Nat) (r:aI),lG π h n L=some r→∀ k o',get r k=some o'→∃ i b o,k=n+i∧L[i]?=some b∧get h b=some o∧gW π o=some o':=by
 intro L
 induction L with
 | nil=>intro n r h k v' hk;simp only [lG,Option.some.injEq] at h;subst h;simp [Pav.get] at hk
 | cons b L ih =>
  intro n r h k o' hk
  simp only [lG] at h
  split at h
  · rename_i o ho
    obtain ⟨w,h1,h⟩:=ay h
    obtain ⟨r',h2,rfl⟩:=aG h
    simp only [Pav.get] at hk
    split at hk
    · rename_i hjk;cases hk;exact ⟨0,b,o,by omega,by simp,ho,h1⟩
    · obtain ⟨i,b',o2,q1,q2,q3,q4⟩:=ih (n+1) r' h2 k o' hk
      exact ⟨i+1,b',o2,by omega,by simpa using q2,q3,q4⟩
  · obtain ⟨i,b',o2,q1,q2,q3,q4⟩:=ih (n+1) r h k o' hk
    exact ⟨i+1,b',o2,by omega,by simpa using q2,q3,q4⟩
theorem get_append {α:Type}:∀ (l r:List (Nat × α)) (k:Nat),get (l++r) k=match get l k with | some x=>some x | none=>get r k:=by
 intro l
 induction l with
 | nil=>intro r k;rfl
 | cons x l ih =>
  intro r k
  obtain ⟨j,v⟩:=x
  simp only [List.cons_append,Pav.get]
  split
  · rfl
  · exact ih r k
theorem ZR {ρ':Nat→Nat} {V' A':Nat→Prop} {π:Nat→Option Nat} (hπ:∀ b c,A b→π b=some c→A' c∧ρ' c=ρ b∧(V' c↔V b)):∀ (es es' r:List (List AV)),bC (bC (VW ρ V A)) es es'→aX (lH π) es=some r→bC (bC (VW ρ' V' A')) r es':=by
 intro es
 induction es with
 | nil=>intro l' r hr h;simp only [aX,Option.some.injEq] at h;subst h;rw [hr.dX];exact .nil
 | cons v l ih =>
  intro l' r hr h
  obtain ⟨u,t,rfl,h1,h2⟩:=hr.dF
  simp only [aX] at h
  obtain ⟨v',h3,h⟩:=ay h
  obtain ⟨r',h4,rfl⟩:=aG h
  exact .cons (acy hπ v u v' h1 h3) (ih t r' h2 h4)
theorem WB {ρ':Nat→Nat} {V' A':Nat→Prop} {π:Nat→Option Nat} (hπ:∀ b c,A b→π b=some c→A' c∧ρ' c=ρ b∧(V' c↔V b)) {o o2:dG} {o':iV} (ho:OW ρ V A o o') (hr:gW π o=some o2):OW ρ' V' A' o2 o':=by
 cases o with
 | cells z es mu dt =>
  obtain ⟨es',mu',rfl,h2,h3,h4⟩:=ho
  simp only [gW] at hr
  split at hr
  · rename_i hd
    cases hr
    exact ⟨es',mu',rfl,h2,h3.mono fun e e' he hee=>hee.mono fun x x' hx hxx=>hxx.isC (h4 hd e he x hx),h4⟩
  · rename_i hd
    obtain ⟨es2,h5,rfl⟩:=aG hr
    exact ⟨es',mu',rfl,h2,ZR hπ es es' es2 h3 h5,fun q=>absurd q hd⟩
 | map es =>
  simp only [gW,Option.some.injEq] at hr;subst hr
  obtain ⟨es',rfl,h2⟩:=ho
  exact ⟨es',rfl,h2.mono fun x y _ hxy=>⟨hxy.1,hxy.2.data⟩⟩
 | iter s p =>
  simp only [gW,Option.some.injEq] at hr;subst hr
  exact ho
theorem Kq {base:Nat} {s s2:WSt} {s':St} (S:Sim ρ V A s s') {L:List Nat} (hL:L.Nodup) (hLb:∀ x ∈ L,base≤x) (hr:renumber base s L=some s2) :
 ∃ ρ' V' A',Sim ρ' V' A' s2 s'∧base≤s2.next∧Old base ρ V A ρ' V' A'∧(∀ b,A' b→¬ V' b→∃ c,A c∧¬ V c∧ρ' b=ρ c∧(base≤b→base≤c)):=by
 unfold renumber at hr
 obtain ⟨e,h1,hr⟩:=ay hr
 obtain ⟨h1',h2,hr⟩:=ay hr
 obtain ⟨h2',h3,rfl⟩:=aG hr
 let ρ':=fun c=>ρ (pre base L c)
 let A':=fun c=>∃ b,A b∧gJ base L b=some c
 let V':=fun c=>V (pre base L c)∧A' c
 have hπ:∀ b c,A b→gJ base L b=some c→A' c∧ρ' c=ρ b∧(V' c↔V b):=by
  intro b c hb hc
  have:=(sD hc).1
  exact ⟨⟨b,hb,hc⟩,by show ρ (pre base L c)=ρ b;rw [this],by show V (pre base L c)∧A' c↔V b;rw [this];exact ⟨fun q=>q.1,fun q=>⟨q,b,hb,hc⟩⟩⟩
 have hgetH:∀ c o2,get (h1'++h2') c=some o2→∃ b o,gJ base L b=some c∧get s.heap b=some o∧gW (gJ base L) o=some o2:=by
  intro c o2 hc
  rw [get_append] at hc
  split at hc
  · rename_i x hx
    cases hc
    obtain ⟨q1,o,q2,q3⟩:=Rx _ _ h2 c o2 hx
    exact ⟨c,o,by simp [gJ,q1],q2,q3⟩
  · obtain ⟨i,b,o,rfl,q2,q3,q4⟩:=TT _ _ _ h3 c o2 hc
    refine ⟨b,o,?_,q3,q4⟩
    unfold gJ
    rw [if_neg (by have:=hLb b (List.mem_of_getElem? q2);omega)]
    exact abf hL q2
 refine ⟨ρ',V',A',⟨S.srt.keys (Ph _ _ h1),?_,?_,?_⟩,Nat.le_add_right _ _,?_,?_⟩
 · intro k v' hk
   obtain ⟨v,q1,q2⟩:=V3 (ρ':=ρ') (V':=V') (A':=A') hπ _ _ h1 k v' hk
   obtain ⟨u,q3,q4⟩:=S.env k v q1
   exact ⟨u,q3,ZP hπ v u v' q4 q2⟩
 · refine ⟨fun c o hc=>?_,fun c o hc hv=>?_,fun c o hc hv=>?_,?_,?_⟩
   · obtain ⟨b,o1,q1,q2,q3⟩:=hgetH c o hc
     exact ⟨b,S.heap.dom b o1 q2,q1⟩
   · obtain ⟨b,o1,q1,q2,q3⟩:=hgetH c o hc
     have hvb:V b:=((hπ b c (S.heap.dom b o1 q2) q1).2.2).1 hv
     obtain ⟨z,mu,dt,rfl⟩:=S.heap.tH b o1 q2 hvb
     simp only [gW,aX,om] at q3
     split at q3 <;> cases q3 <;> exact ⟨_,_,_,rfl⟩
   · obtain ⟨b,o1,q1,q2,q3⟩:=hgetH c o hc
     obtain ⟨p1,p2,p3⟩:=hπ b c (S.heap.dom b o1 q2) q1
     obtain ⟨o',q4,q5⟩:=S.heap.obj b o1 q2 (fun q=>hv (p3.2 q))
     exact ⟨o',by rw [p2];exact q4,WB hπ q5 q3⟩
   · exact fun c hc=>hc.2
   · rintro c d ⟨b,hb,hbc⟩ ⟨a,ha,had⟩ vc vd hcd
     obtain ⟨_,p2,p3⟩:=hπ b c hb hbc
     obtain ⟨_,r2,r3⟩:=hπ a d ha had
     rw [p2,r2] at hcd
     have:=S.heap.inj b a hb ha (fun q=>vc (p3.2 q)) (fun q=>vd (r3.2 q)) hcd
     subst this
     rw [hbc] at had;cases had;rfl
 · refine ⟨?_,?_⟩
   · rintro c ⟨b,hb,hbc⟩
     rcases (sD hbc).2.2.2 with q | q
     · exact Nat.lt_of_lt_of_le q (Nat.le_add_right _ _)
     · exact q
   · rintro c ⟨b,hb,hbc⟩ hv
     obtain ⟨_,p2,p3⟩:=hπ b c hb hbc
     rw [p2]
     exact S.lt.p b hb (fun q=>hv (p3.2 q))
 · intro b hb
   have hnb:gJ base L b=some b:=by simp [gJ,hb]
   refine ⟨fun ha=>hπ b b ha hnb,?_⟩
   rintro ⟨c,hc,hcb⟩
   have:=(sD hcb).2.2.1 hb
   rw [this];exact hc
 · rintro c ⟨b,hb,hbc⟩ hv
   obtain ⟨_,p2,p3⟩:=hπ b c hb hbc
   exact ⟨b,hb,fun q=>hv (p3.2 q),p2,fun q=>by have:=(sD hbc).2.1;omega⟩
theorem abL {base:Nat}:∀ (g:List (Nat × Nat)) (s:WSt) (s':St) (ρ:Nat→Nat) (V A:Nat→Prop),Sim ρ V A s s'→base≤s.next →
 ∃ V' A',Sim ρ V' A' (kE g s) s'∧base≤(kE g s).next∧Old base ρ V A ρ V' A'∧∀ b,A' b→¬ V' b→A b∧¬ V b:=by
 intro g
 induction g with
 | nil=>intro s s' ρ V A S hb;exact ⟨V,A,S,hb,Old.refl base ρ V A,fun b h1 h2=>⟨h1,h2⟩⟩
 | cons x g ih =>
  intro s s' ρ V A S hb
  obtain ⟨k,z⟩:=x
  simp only [kE]
  split
  · rename_i v hk
    have key:∃ V' A',Sim ρ V' A' (Ac s k z v) s'∧base≤(Ac s k z v).next∧Old base ρ V A ρ V' A'∧∀ b,A' b→¬ V' b→A b∧¬ V b:=by
     unfold Ac
     split
     · rename_i z'
       split
       · rename_i hz
         subst hz
         obtain ⟨v',h1,h2⟩:=S.env k _ hk
         have hn:¬ A s.next:=fun q=>Nat.lt_irrefl _ (S.lt.w _ q)
         have hu:∀ b,A b→addN A s.next b∧ρ b=ρ b∧((V b∨b=s.next)↔V b):=fun b hb=>⟨.inl hb,rfl,⟨fun q=>q.elim id fun e=>absurd (e ▸ hb) hn,.inl⟩⟩
         have hv':v'=.bH∨v'=.ro z' [] true:=by
          rcases h2.lN with ⟨_,rfl⟩ | ⟨es',ex',rfl,hx,hr,_⟩
          · exact .inl rfl
          · rw [hr.dX,hx rfl];exact .inr rfl
         refine ⟨fun b=>V b∨b=s.next,addN A s.next,⟨S.srt.put _ _,?_,?_,?_⟩,by simp only;omega,?_,?_⟩
         · intro j u hj
           simp only at hj
           rw [O4] at hj
           split at hj
           · rename_i hkj
             cases hj;subst hkj
             exact ⟨v',h1,.slv _ _ _ _ (.inr rfl) (.inr rfl) hv'⟩
           · exact (S.env.mono hu) j u hj
         · have H:=S.heap
           refine ⟨fun b o hb=>?_,fun b o hb hv=>?_,fun b o hb hv=>?_,?_,?_⟩
           · rw [get_put] at hb
             split at hb
             · rename_i q;exact .inr q.symm
             · exact .inl (H.dom b o hb)
           · rw [get_put] at hb
             split at hb
             · cases hb;exact ⟨_,_,_,rfl⟩
             · rename_i q
               rcases hv with hv | hv
               · exact H.tH b o hb hv
               · exact absurd hv.symm q
           · rw [get_put] at hb
             split at hb
             · rename_i q;exact absurd (.inr q.symm) hv
             · obtain ⟨o',q1,q2⟩:=H.obj b o hb (fun q=>hv (.inl q))
               exact ⟨o',q1,q2.mono hu⟩
           · rintro b (hb | hb)
             · exact .inl (H.sub b hb)
             · exact .inr hb
           · rintro b c (hb | hb) (hc | hc) vb vc hbc
             · exact H.inj b c hb hc (fun q=>vb (.inl q)) (fun q=>vc (.inl q)) hbc
             · exact absurd (.inr hc) vc
             · exact absurd (.inr hb) vb
             · exact absurd (.inr hb) vb
         · refine ⟨?_,?_⟩
           · rintro b (hb | rfl)
             · exact Nat.lt_succ_of_lt (S.lt.w b hb)
             · exact Nat.lt_succ_self _
           · rintro b (hb | rfl) hv
             · exact S.lt.p b hb (fun q=>hv (.inl q))
             · exact absurd (.inr rfl) hv
         · intro b hbb
           exact ⟨hu b,fun q=>q.elim id fun e=>by omega⟩
         · rintro b (hb | rfl) hv
           · exact ⟨hb,fun q=>hv (.inl q)⟩
           · exact absurd (.inr rfl) hv
       · exact ⟨V,A,S,hb,Old.refl base ρ V A,fun b h1 h2=>⟨h1,h2⟩⟩
     · exact ⟨V,A,S,hb,Old.refl base ρ V A,fun b h1 h2=>⟨h1,h2⟩⟩
    obtain ⟨V1,A1,S1,b1,o1,n1⟩:=key
    obtain ⟨V2,A2,S2,b2,o2,n2⟩:=ih _ s' ρ V1 A1 S1 b1
    exact ⟨V2,A2,S2,b2,o1.trans o2,fun b q1 q2=>by obtain ⟨q3,q4⟩:=n2 b q1 q2;exact n1 b q3 q4⟩
  · exact ih s s' ρ V A S hb
theorem FI (k:Nat):∀ l:List Nat,(bitsOf l).testBit k=l.contains k:=by
 intro l
 induction l with
 | nil=>simp [bitsOf]
 | cons a l ih =>
  simp only [bitsOf,Nat.testBit_or,ih,Nat.testBit_two_pow,List.contains_cons]
  congr 1
  by_cases h:a=k
  · subst h;simp
  · have:(k == a)=false:=by simpa using Ne.symm h
    rw [this];simpa using h
theorem Wi {base:Nat} {a:Ann} {s s2:WSt} {s':St} (S:Sim ρ V A s s') (hb:base≤s.next) (hc:canon base a s=some s2) {s1:St} (hs1:s1=s'∨s1=iy (sU a) s') :
 ∃ ρ' V' A',Sim ρ' V' A' s2 s1∧base≤s2.next∧Old base ρ V A ρ' V' A'∧∀ b,A' b→¬ V' b→∃ c,A c∧¬ V c∧ρ' b=ρ c∧(base≤b→base≤c):=by
 cases hcn:a.cn with
 | false =>
  have e1:sU a=0:=by simp only [sU,hcn]
  simp only [canon,hcn,Option.some.injEq] at hc
  subst hc
  have e2:s1=s':=by
   rcases hs1 with h | h
   · exact h
   · rw [h,e1];rfl
  subst e2
  exact ⟨ρ,V,A,S,hb,Old.refl base ρ V A,fun b h1 h2=>⟨b,h1,h2,rfl,id⟩⟩
 | true =>
 have S0:Sim ρ V A ⟨oC a.live s.env,s.heap,s.next⟩ s1:=by
  have ek:∀ k v,get (oC a.live s.env) k=some v→get s.env k=some v∧a.live.contains k=true:=by
   intro k v hk
   obtain ⟨q1,q2⟩:=IG s.env a.live
   have hm:=get_mem hk
   exact ⟨S.srt.get (q1.subset hm),by simpa using q2 _ hm⟩
  have ks:Srt (oC a.live s.env):=S.srt.sublist (IG s.env a.live).1
  rcases hs1 with rfl | rfl
  · exact ⟨ks,fun k v hk=>S.env k v (ek k v hk).1,S.heap,S.lt⟩
  · refine ⟨ks,fun k v hk=>?_,S.heap,S.lt⟩
    obtain ⟨h1,h2⟩:=ek k v hk
    obtain ⟨v',h3,h4⟩:=S.env k v h1
    refine ⟨v',?_,h4⟩
    simp only [iy,sU,hcn]
    split
    · exact h3
    · rw [Qh,FI,h2,if_pos rfl];exact h3
 obtain ⟨V1,A1,S1,b1,o1,n1⟩:=abL (base:=base) a.grow _ s1 ρ V A S0 hb
 simp only [canon,hcn] at hc
 cases hnr:Uk a.grow with
 | true =>
  rw [hnr] at hc
  simp only [Option.some.injEq] at hc
  subst hc
  exact ⟨ρ,V1,A1,S1,b1,o1,fun b h1 h2=>by
   obtain ⟨c4,c5⟩:=n1 b h1 h2
   exact ⟨b,c4,c5,rfl,id⟩⟩
 | false =>
 rw [hnr] at hc
 simp only [QL] at hc
 obtain ⟨q1,q2⟩:=YM (base:=base) (h:=(kE a.grow ⟨oC a.live s.env,s.heap,s.next⟩).heap) 1000 (Du (kE a.grow ⟨oC a.live s.env,s.heap,s.next⟩).env++qX base (kE a.grow ⟨oC a.live s.env,s.heap,s.next⟩).heap) [] (by simp) (fun x hx=>by cases hx)
 obtain ⟨ρ',V',A',S2,b2,o2,n2⟩:=Kq S1 q1 q2 hc
 exact ⟨ρ',V',A',S2,b2,o1.trans o2,fun b h1 h2=>by
  obtain ⟨c,c1,c2,c3⟩:=n2 b h1 h2
  obtain ⟨c4,c5⟩:=n1 c c1 c2
  exact ⟨c,c4,c5,c3⟩⟩
end
end Go.Pw
end
section
set_option linter.unusedSimpArgs false
set_option linter.unusedVariables false
namespace Go.Pw
open Go Go.Pav
def Hi (base m0:Nat) (ρ:Nat→Nat) (V A:Nat→Prop):Prop:=∀ b,A b→¬ V b→base≤b→m0≤ρ b
structure Res (base m0:Nat) (ρ:Nat→Nat) (V A:Nat→Prop) (s1:WSt) (s1':St) (ρ':Nat→Nat) (V' A':Nat→Prop):Prop where
 sim:Sim ρ' V' A' s1 s1'
 kS:base≤s1.next
 old:Old base ρ V A ρ' V' A'
 hi:Hi base m0 ρ' V' A'
section
variable {C:aJ} {run:wU} {run':Run} {base m0:Nat}
theorem Res.canon {ρ:Nat→Nat} {V A:Nat→Prop} {s1 s2:WSt} {s1' s2':St} {ρ':Nat→Nat} {V' A':Nat→Prop} (R:Res base m0 ρ V A s1 s1' ρ' V' A') {a:Ann} (hc:canon base a s1=some s2)
 (hs:s2'=s1'∨s2'=iy (sU a) s1'):∃ ρ' V' A',Res base m0 ρ V A s2 s2' ρ' V' A':=by
 obtain ⟨ρ2,V2,A2,S2,b2,o2,n2⟩:=Wi R.sim R.kS hc hs
 refine ⟨ρ2,V2,A2,S2,b2,R.old.trans o2,fun b h1 h2 h3=>?_⟩
 obtain ⟨c,c1,c2,c3,c4⟩:=n2 b h1 h2
 rw [c3]
 exact R.hi c c1 c2 (c4 h3)
theorem Res.frz {ρ:Nat→Nat} {V A:Nat→Prop} {k:Nat} {s1 s2:WSt} {s1':St} {ρ':Nat→Nat} {V' A':Nat→Prop} (R:Res base m0 ρ V A s1 s1' ρ' V' A') (hc:qH k s1=some s2) :
 ∃ s2',DV k s1'=some s2'∧s2'.next=s1'.next∧Res base m0 ρ V A s2 s2' ρ' V' A':=by
 obtain ⟨v,hv,hc⟩:=ay hc
 obtain ⟨x,hx,rfl⟩:=aG hc
 obtain ⟨u,hu,hr⟩:=R.sim.env k v hv
 obtain ⟨y,hy,hd⟩:=Ho R.sim.heap _ _ _ _ hr hx
 have hm:=tZ R.sim.heap (aT s1.heap aF v) (reach s1'.heap aF u) (fun b' hb'=>GY R.sim.heap _ _ _ _ hr hx b' hb')
 refine ⟨⟨dL s1'.env (some k) y,aQ s1'.heap (aV s1'.heap (reach s1'.heap aF u)),s1'.next⟩,by simp only [DV,hu,ob,hy,om],rfl,⟨?_,R.kS,R.old,R.hi⟩⟩
 exact ⟨R.sim.srt.dL (some k) x,R.sim.env.dL (d:=some k) (hd.mono fun _ q=>q.elim),hm.1,R.sim.lt⟩
theorem Res.Xy {ρ:Nat→Nat} {V A:Nat→Prop} {ρ':Nat→Nat} {V' A':Nat→Prop}:∀ (l:List Nat) {s1 s2:WSt} {s1':St},Res base m0 ρ V A s1 s1' ρ' V' A'→lJ l s1=some s2 →
 ∃ s2',kG l s1'=some s2'∧s2'.next=s1'.next∧Res base m0 ρ V A s2 s2' ρ' V' A'
 | [],s1,s2,s1',R,h=>by simp only [lJ,Option.some.injEq] at h;subst h;exact ⟨s1',rfl,rfl,R⟩
 | k::l,s1,s2,s1',R,h=>by
  simp only [lJ] at h
  obtain ⟨s3,h1,h2⟩:=ay h
  obtain ⟨s3',h3,e3,R3⟩:=R.frz h1
  obtain ⟨s2',h4,e4,R4⟩:=Res.Xy l R3 h2
  exact ⟨s2',by simp only [kG,h3,ob];exact h4,e4.trans e3,R4⟩
theorem Keeps.old {ρ:Nat→Nat} {V A:Nat→Prop} {ρ':Nat→Nat} {V' A':Nat→Prop} (k:Keeps ρ V A ρ' V' A') (hn:∀ b,b < base→A' b→A b):Old base ρ V A ρ' V' A':=fun b hb=>⟨k b,hn b hb⟩
theorem adq (hr:xI run run'):∀ (l:List bg) (s s1:WSt),(l.all fun o=>iH o.op)=true→iJ C run l s=some s1→∀ (s':St) (ρ:Nat→Nat) (V A:Nat→Prop),Sim ρ V A s s'→base≤s.next→Hi base m0 ρ V A→m0≤s'.next →
 ∃ s1' ρ' V' A',lq (fD C) run' (l.map rF) s'=some s1'∧Res base m0 ρ V A s1 s1' ρ' V' A'∧m0≤s1'.next:=by
 intro l
 induction l with
 | nil =>
  intro s s1 _ he s' ρ V A S hb hi hm
  simp only [iJ,Option.some.injEq] at he;subst he
  exact ⟨s',ρ,V,A,rfl,⟨S,hb,Old.refl base ρ V A,hi⟩,hm⟩
 | cons o l ih =>
  intro s s1 hok he s' ρ V A S hb hi hm
  simp only [List.all_cons,Bool.and_eq_true] at hok
  simp only [iJ] at he
  obtain ⟨d,h1,he⟩:=ay he
  have lt':Lts ρ V A (s.next+1) (s'.next+1):=⟨fun b hb=>Nat.lt_succ_of_lt (S.lt.w b hb),fun b hb hv=>Nat.lt_succ_of_lt (S.lt.p b hb hv)⟩
  obtain ⟨d',ρ1,V1,A1,h2,O⟩:=aaG hr S.env S.heap lt' (nid:=s.next) (mid:=s'.next) (fun q=>Nat.lt_irrefl _ (S.lt.w _ q)) (Nat.lt_succ_self _) (fun b hb hv=>Nat.ne_of_lt (S.lt.p b hb hv)) (Nat.lt_succ_self _) hok.1 h1
  have S1:Sim ρ1 V1 A1 ⟨eH s.env o.dst d.v,d.h,d.n⟩ ⟨dL s'.env o.dst d'.v,d'.h,d'.n⟩:=⟨S.srt.dL _ _,(S.env.mono O.keeps).dL O.v,O.h,O.lt⟩
  have hi1:Hi base m0 ρ1 V1 A1:=by
   intro b q1 q2 q3
   rcases O.aen b q1 q2 with ⟨q4,q5⟩ | q4 | q4
   · rw [q5];exact hi b q4 (fun q=>q2 ((O.keeps b q4).2.2.2 q)) q3
   · omega
   · omega
  have hb1:base≤d.n:=by have:=O.next;omega
  have hm1:m0≤d'.n:=by have:=O.Vs;omega
  obtain ⟨s1',ρ2,V2,A2,h3,R,h4⟩:=ih ⟨eH s.env o.dst d.v,d.h,d.n⟩ s1 hok.2 he _ ρ1 V1 A1 S1 hb1 hi1 hm1
  have o1:Old base ρ V A ρ1 V1 A1:=Keeps.old O.keeps fun b hbb hA=>by
   rcases O.new b hA with q | q | q
   · exact q
   · omega
   · omega
  refine ⟨s1',ρ2,V2,A2,?_,⟨R.sim,R.kS,o1.trans R.old,R.hi⟩,h4⟩
  simp only [List.map_cons,lq]
  have:(rF o).dst=o.dst:=rfl
  rw [h2]
  simp only [ob,this]
  exact h3
def lC (ρ:Nat→Nat) (V A:Nat→Prop) (m1 m2:Nat) (d:kC) (d':Did):Prop :=
 (d'.bar=true→d.bar=true∧d.wr=[])∧(∀ b ∈ d'.rd,∃ c ∈ d.rd,b=ρ c∧¬ V c∧A c)∧(∀ b ∈ d'.wr,(∃ c ∈ Q7 d,b=ρ c∧¬ V c∧A c)∨∃ k w,d.bar=true∧d.wr=k::w∧m1≤b∧b < m2∧∀ c,A c→¬ V c→ρ c=b→k≤c)
theorem lC.mono {ρ ρ':Nat→Nat} {V A V' A':Nat→Prop} {m1 m2 m2' mid:Nat} {d:kC} {d':Did} (h:lC ρ V A m1 m2 d d') (k:Keeps ρ V A ρ' V' A') (hm:m2≤m2') (hmid:mid < m1)
 (hnew:∀ b,A' b→¬ V' b→(A b∧ρ' b=ρ b)∨ρ' b=mid∨m2≤ρ' b):lC ρ' V' A' m1 m2' d d':=by
 refine ⟨h.1,fun b hb=>?_,fun b hb=>?_⟩
 · obtain ⟨c,h1,h2,h3,h4⟩:=h.2.1 b hb
   obtain ⟨k1,k2,k3⟩:=k c h4
   exact ⟨c,h1,by rw [k2];exact h2,fun q=>h3 (k3.1 q),k1⟩
 · rcases h.2.2 b hb with ⟨c,h1,h2,h3,h4⟩ | ⟨j,w,h1,h2,h3,h4,h5⟩
   · obtain ⟨k1,k2,k3⟩:=k c h4
     exact .inl ⟨c,h1,by rw [k2];exact h2,fun q=>h3 (k3.1 q),k1⟩
   · refine .inr ⟨j,w,h1,h2,h3,by omega,fun c hA hV hc=>?_⟩
     rcases hnew c hA hV with ⟨q1,q2⟩ | q | q
     · exact h5 c q1 (fun q=>hV ((k c q1).2.2.2 q)) (by rw [← q2];exact hc)
     · omega
     · omega
theorem xP {ρ:Nat→Nat} {V A:Nat→Prop} (inj:∀ b c,A b→A c→¬ V b→¬ V c→ρ b=ρ c→b=c) {a b:List Nat} {a' b':List Nat}
 (ha:∀ x ∈ a',∃ c ∈ a,x=ρ c∧¬ V c∧A c) (hb:∀ x ∈ b',∃ c ∈ b,x=ρ c∧¬ V c∧A c) (h:meets a' b'=true):meets a b=true:=by
 simp only [meets,List.any_eq_true,decide_eq_true_eq] at h ⊢
 obtain ⟨x,hx,y,hy,rfl⟩:=h
 obtain ⟨c,h1,h2,h3,h4⟩:=ha x hx
 obtain ⟨d,h5,h6,h7,h8⟩:=hb x hy
 have:=inj c d h4 h8 h3 h7 (h2.symm.trans h6)
 subst this
 exact ⟨c,h1,c,h5,rfl⟩
theorem X8 {ρ:Nat→Nat} {V A:Nat→Prop} (inj:∀ b c,A b→A c→¬ V b→¬ V c→ρ b=ρ c→b=c) {m1 m2:Nat} {a b:kC} {a' b':Did} (ha:lC ρ V A m1 m2 a a') (hb:lC ρ V A m1 m2 b b') (h:Q8 a b=false):clash a' b'=false:=by
 have nt:∀ {x y:Bool},(x=true→y=true)→y=false→x=false:=by
  intro x y q1 q2;cases x <;> simp_all
 have plain:∀ {d:kC} {d':Did},lC ρ V A m1 m2 d d'→d.bar=false→d'.bar=false∧∀ b ∈ d'.wr,∃ c ∈ d.wr,b=ρ c∧¬ V c∧A c:=by
  intro d d' hd hq
  refine ⟨?_,fun b hb=>?_⟩
  · cases q:d'.bar with
    | false=>rfl
    | true=>rw [(hd.1 q).1] at hq;cases hq
  · rcases hd.2.2 b hb with ⟨c,q1,q2⟩ | ⟨_,_,q,_⟩
    · unfold Q7 at q1
      rw [hq] at q1
      exact ⟨c,q1,q2⟩
    · rw [hq] at q;cases q
 have deep:∀ {d e:kC} {d' e':Did},lC ρ V A m1 m2 d d'→lC ρ V A m1 m2 e e'→d.bar=true→e.bar=false→SQ d.rd d.wr e.rd e.wr=false →
  d'.bar=false∧e'.bar=false∧meets d'.wr e'.wr=false∧meets d'.wr e'.rd=false∧meets d'.rd e'.wr=false:=by
  intro d e d' e' hd he hdb heb hh
  unfold SQ at hh
  cases hw:d.wr with
  | nil=>rw [hw] at hh;cases hh
  | cons k w =>
   rw [hw] at hh
   simp only [Bool.or_eq_false_iff] at hh
   obtain ⟨g1,g2,g3,g4⟩:=hh
   obtain ⟨p1,p2⟩:=plain he heb
   have g1':∀ c ∈ e.rd++e.wr,¬ k≤c:=by
    intro c hc q
    have:=List.any_eq_false.1 g1 c hc
    simp [q] at this
   have key:∀ (l l':List Nat),(∀ x ∈ l',∃ c ∈ l,x=ρ c∧¬ V c∧A c)→(∀ c ∈ l,¬ k≤c)→meets w l=false→meets d'.wr l'=false:=by
    intro l l' h1 h2 h3
    cases q:meets d'.wr l' with
    | false=>rfl
    | true =>
     exfalso
     simp only [meets,List.any_eq_true,decide_eq_true_eq] at q
     obtain ⟨x,hx,y,hy,rfl⟩:=q
     obtain ⟨c,c1,c2,c3,c4⟩:=h1 x hy
     rcases hd.2.2 x hx with ⟨c',q1,q2,q3,q4⟩ | ⟨k',w',q1,q2,q3,q4,q5⟩
     · unfold Q7 at q1
       rw [hdb,hw] at q1
       simp only [List.tail_cons] at q1
       have:=inj c c' c4 q4 c3 q3 (c2.symm.trans q2)
       subst this
       have:meets w l=true:=by
        simp only [meets,List.any_eq_true,decide_eq_true_eq]
        exact ⟨c,q1,c,c1,rfl⟩
       rw [h3] at this;cases this
     · rw [hw] at q2
       cases q2
       exact h2 c c1 (q5 c c4 c3 c2.symm)
   refine ⟨?_,p1,key _ _ p2 (fun c hc=>g1' c (by simp [hc])) g2,key _ _ he.2.1 (fun c hc=>g1' c (by simp [hc])) g3,?_⟩
   · cases q:d'.bar with
     | false=>rfl
     | true=>rw [(hd.1 q).2] at hw;cases hw
   · cases q:meets d'.rd e'.wr with
     | false=>rfl
     | true=>rw [xP inj hd.2.1 p2 q] at g4;cases g4
 have msym:∀ a b:List Nat,meets a b=meets b a:=by
  intro a b
  cases q:meets a b with
  | true =>
   symm
   simp only [meets,List.any_eq_true,decide_eq_true_eq] at q ⊢
   obtain ⟨x,h1,y,h2,h3⟩:=q
   exact ⟨y,h2,x,h1,h3.symm⟩
  | false =>
   symm
   cases p:meets b a with
   | false=>rfl
   | true =>
    exfalso
    simp only [meets,List.any_eq_true,decide_eq_true_eq] at p
    obtain ⟨x,h1,y,h2,h3⟩:=p
    have:meets a b=true:=by
     simp only [meets,List.any_eq_true,decide_eq_true_eq]
     exact ⟨y,h2,x,h1,h3.symm⟩
    rw [q] at this;cases this
 have qt:∀ {d:kC} {d':Did},lC ρ V A m1 m2 d d'→BR d=true→quiet d'=true:=by
  intro d d' hd hq
  simp only [BR,Bool.and_eq_true,Bool.not_eq_true',List.isEmpty_iff] at hq
  simp only [quiet,Bool.and_eq_true,Bool.not_eq_true',List.isEmpty_iff]
  refine ⟨(plain hd hq.1).1,?_,?_⟩
  · cases hw:d'.wr with
    | nil=>rfl
    | cons b r =>
     obtain ⟨c,h1,_⟩:=(plain hd hq.1).2 b (by rw [hw];exact List.mem_cons_self)
     rw [hq.2.1] at h1;cases h1
  · cases hw:d'.rd with
    | nil=>rfl
    | cons b r =>
     obtain ⟨c,h1,_⟩:=hd.2.1 b (by rw [hw];exact List.mem_cons_self)
     rw [hq.2.2] at h1;cases h1
 unfold Q8 at h
 unfold clash
 cases qa:BR a with
 | true=>rw [qt ha qa];simp
 | false =>
  cases qb:BR b with
  | true=>rw [qt hb qb];simp
  | false =>
   rw [qa,qb] at h
   simp only [Bool.or_self,Bool.not_false,Bool.true_and] at h
   cases ab:a.bar with
   | true =>
    rw [ab,if_pos rfl,Bool.or_eq_false_iff] at h
    obtain ⟨d1,d2,d3,d4,d5⟩:=deep ha hb ab h.1 h.2
    rw [d1,d2,d3,d4,d5];simp
   | false =>
   cases bb:b.bar with
   | true =>
    rw [ab,bb,if_neg (by simp),if_pos rfl] at h
    obtain ⟨d1,d2,d3,d4,d5⟩:=deep hb ha bb ab h
    rw [d1,d2,msym,d3,msym a'.wr,d5,msym a'.rd,d4];simp
   | false =>
   rw [ab,bb,if_neg (by simp),if_neg (by simp)] at h
   simp only [Bool.or_eq_false_iff] at h
   obtain ⟨h3,h4,h5⟩:=h
   obtain ⟨h1,ha2⟩:=plain ha ab
   obtain ⟨h2,hb2⟩:=plain hb bb
   have e:(a'.bar||(b'.bar||(meets a'.wr b'.wr||(meets a'.wr b'.rd||meets a'.rd b'.wr))))=false:=by
    simp only [Bool.or_eq_false_iff]
    exact ⟨h1,h2,nt (xP inj ha2 hb2) h3,nt (xP inj ha2 hb.2.1) h4,nt (xP inj ha.2.1 hb2) h5⟩
   rw [e,Bool.and_false]
theorem Z9 (hr:xI run run'):∀ (l:List bg) (nid:Nat) (s s1:WSt) (ds ds1:List kC),(l.all fun o=>iH o.op)=true→eY C run l nid s ds=some (s1,ds1) →
 ∀ (mid:Nat) (s':St) (ds':List Did) (ρ:Nat→Nat) (V A:Nat→Prop),Sim ρ V A s s'→base≤nid→nid+l.length≤s.next→(∀ b,A b→b < nid∨nid+l.length≤b)→Hi base m0 ρ V A→m0≤mid→mid+l.length≤s'.next →
  (∀ b,A b→¬ V b→ρ b < mid∨mid+l.length≤ρ b)→∀ R:Nat,mid+l.length≤R→R≤s'.next→bC (lC ρ V A R s'.next) ds ds' →
 ∃ s1' ds1' ρ' V' A',ou (fD C) run' (l.map rF) mid s' ds'=some (s1',ds1')∧Res base m0 ρ V A s1 s1' ρ' V' A'∧m0≤s1'.next∧bC (lC ρ' V' A' R s1'.next) ds1 ds1':=by
 intro l
 induction l with
 | nil =>
  intro nid s s1 ds ds1 _ he mid s' ds' ρ V A S hb hnl _ hi hm hml _ R hR1 hR2 hds
  simp only [eY,Option.some.injEq,Prod.mk.injEq] at he
  obtain ⟨rfl,rfl⟩:=he
  simp only [List.length_nil] at hnl hml
  exact ⟨s',ds',ρ,V,A,rfl,⟨S,by omega,Old.refl base ρ V A,hi⟩,by omega,hds⟩
 | cons o l ih =>
  intro nid s s1 ds ds1 hok he mid s' ds' ρ V A S hb hnl hgap hi hm hml hgap' R hR1 hR2 hds
  simp only [List.all_cons,Bool.and_eq_true] at hok
  simp only [List.length_cons] at hnl hml hgap hgap' hR1
  simp only [eY] at he
  obtain ⟨d,h1,he⟩:=ay he
  have hn:¬ A nid:=fun q=>by rcases hgap nid q with q | q <;> omega
  obtain ⟨d',ρ1,V1,A1,h2,O⟩:=aaG hr S.env S.heap S.lt (nid:=nid) (mid:=mid) hn (by omega) (fun b hbb hv=>by rcases hgap' b hbb hv with q | q <;> omega) (by omega) hok.1 h1
  have S1:Sim ρ1 V1 A1 ⟨eH s.env o.dst d.v,d.h,d.n⟩ ⟨dL s'.env o.dst d'.v,d'.h,d'.n⟩:=⟨S.srt.dL _ _,(S.env.mono O.keeps).dL O.v,O.h,O.lt⟩
  have hi1:Hi base m0 ρ1 V1 A1:=by
   intro b q1 q2 q3
   rcases O.aen b q1 q2 with ⟨q4,q5⟩ | q4 | q4
   · rw [q5];exact hi b q4 (fun q=>q2 ((O.keeps b q4).2.2.2 q)) q3
   · omega
   · omega
  have hds1:bC (lC ρ1 V1 A1 R d'.n) (ds++[d]) (ds'++[d']):=(hds.mono fun x y _ hxy=>hxy.mono O.keeps O.Vs (by omega) O.aen).append (.cons ⟨O.bar,O.rd,fun b hb=>by
   rcases O.wr b hb with q | ⟨k,w,q1,q2,q3,q4,q5⟩
   · exact .inl q
   · exact .inr ⟨k,w,q1,q2,by omega,q4,q5⟩⟩ .nil)
  obtain ⟨s1',ds1',ρ2,V2,A2,h3,R,h4,h5⟩:=ih (nid+1) ⟨eH s.env o.dst d.v,d.h,d.n⟩ s1 (ds++[d]) ds1 hok.2 he (mid+1) _ (ds'++[d']) ρ1 V1 A1 S1 (by omega) (by have:=O.next;simp only;omega)
   (fun b hbb=>by
    rcases O.new b hbb with q | q | q
    · rcases hgap b q with q | q <;> omega
    · omega
    · omega) hi1 (by omega) (by have:=O.Vs;simp only;omega)
   (fun b hbb hv=>by
    rcases O.aen b hbb hv with ⟨q,q5⟩ | q | q
    · rw [q5];rcases hgap' b q (fun q6=>hv ((O.keeps b q).2.2.2 q6)) with q | q <;> omega
    · omega
    · omega) R (by omega) (by have:=O.Vs;simp only;omega) hds1
  have o1:Old base ρ V A ρ1 V1 A1:=Keeps.old O.keeps fun b hbb hA=>by
   rcases O.new b hA with q | q | q
   · exact q
   · omega
   · omega
  refine ⟨s1',ds1',ρ2,V2,A2,?_,⟨R.sim,R.kS,o1.trans R.old,R.hi⟩,h4,h5⟩
  simp only [List.map_cons,ou]
  have:(rF o).dst=o.dst:=rfl
  rw [h2]
  simp only [ob,this]
  exact h3
theorem Zq {ρ:Nat→Nat} {V A:Nat→Prop} (inj:∀ b c,A b→A c→¬ V b→¬ V c→ρ b=ρ c→b=c) {m1 m2:Nat} {ds:List kC} {ds':List Did} (h:bC (lC ρ V A m1 m2) ds ds') {p:Nat × Nat} (ha:Gl ds p=true):apart ds' p=true:=by
 unfold Gl at ha
 split at ha
 · rename_i a b h1 h2
   obtain ⟨a',h3,h4⟩:=h.get h1
   obtain ⟨b',h5,h6⟩:=h.get h2
   unfold apart
   rw [h3,h5]
   simp only [Bool.not_eq_true'] at ha ⊢
   exact X8 inj h4 h6 ha
 · cases ha
def EL (C:aJ) (k:Nat):Prop :=
 ∀ (base:Nat) (c:aC) (s:WSt) (ex:Ex) (s1:WSt),okC c=true→evW C k base c s=some (ex,s1)→∀ (m0:Nat) (s':St) (ρ:Nat→Nat) (V A:Nat→Prop),Sim ρ V A s s'→base≤s.next→Hi base m0 ρ V A→m0≤s'.next →
  ∃ s1' ρ' V' A',evC (fD C) k (erC c) s'=some (ex,s1')∧Res base m0 ρ V A s1 s1' ρ' V' A'∧m0≤s1'.next
theorem Vb:∀ l:List AV,(erL l).length=l.length
 | []=>rfl
 | _::r=>by simp only [erL,List.length_cons,Vb r]
theorem aei {j:Nat} {s:WSt} {s':St} {ρ:Nat→Nat} {V A:Nat→Prop} (S:Sim ρ V A s s') (hb:base≤s.next) (hi:Hi base m0 ρ V A) (hm:m0≤s'.next) {z b:Nat} {xe:Bool} {zz:List AV} {u:AV} (hu:get s'.env 0=some u) (hr:VW ρ V A (.ro z [] xe) u) (hl:zz.length=z) :
 ∃ s1' ρ' V' A',evC (fD C) (j+8+1) (acr zz b) s'=some (.ret,s1') ∧
  Res base m0 ρ V A ⟨[(2,.sl s.next z 0 0 0 true)],put s.heap s.next (.cells z [] true true),s.next+1⟩ s1' ρ' V' A'∧m0≤s1'.next:=by
 have hn:¬ A s.next:=fun q=>Nat.lt_irrefl _ (S.lt.w _ q)
 obtain ⟨e0,h0,m⟩:=s'
 simp only at hu hm
 have hmo:∀ b,A b→addN A s.next b∧ρ b=ρ b∧((V b∨b=s.next)↔V b):=fun b q=>⟨.inl q,rfl,⟨fun h=>h.elim id fun e=>absurd (e ▸ q) hn,.inl⟩⟩
 cases hr with
 | kJ =>
  refine ⟨⟨put (put (put (put e0 2 .bH) 3 .bH) 4 (.bool true)) 2 .bH,h0,m+4⟩,ρ,fun b=>V b∨b=s.next,addN A s.next,?_,⟨⟨by simp [Srt],?_,⟨?_,?_,?_,?_,?_⟩,⟨?_,?_⟩⟩,Nat.le_succ_of_le hb,?_,?_⟩,Nat.le_trans hm (Nat.le_add_right _ _)⟩
  · simp [acr,evC,lq,iZ,wants,iQ,callOf,aK,sMv,G6,iq,RD,Opd.ev,ob,om,get_put,dL,hu,jL,kG,iy,bW,rY,aQ]
  · intro k v hk
    simp only [Pav.get] at hk
    split at hk
    · rename_i e;subst e;cases hk
      exact ⟨.bH,by simp [get_put],.slv _ _ _ _ (.inr rfl) (.inr rfl) (.inl rfl)⟩
    · cases hk
  · intro b o hbo
    rw [get_put] at hbo
    split at hbo
    · rename_i e;exact .inr e.symm
    · exact .inl (S.heap.dom b o hbo)
  · intro b o hbo hv
    rw [get_put] at hbo
    split at hbo
    · cases hbo;exact ⟨z,true,true,rfl⟩
    · rename_i e
      exact S.heap.tH b o hbo (hv.resolve_right fun q=>e q.symm)
  · intro b o hbo hv
    rw [get_put] at hbo
    split at hbo
    · rename_i e;exact absurd (.inr e.symm) hv
    · obtain ⟨o',h1,h2⟩:=S.heap.obj b o hbo (fun q=>hv (.inl q))
      exact ⟨o',h1,h2.mono hmo⟩
  · rintro b (q | q)
    · exact .inl (S.heap.sub b q)
    · exact .inr q
  · rintro b c hb hc vb vc
    exact S.heap.inj b c (hb.resolve_right fun q=>vb (.inr q)) (hc.resolve_right fun q=>vc (.inr q)) (fun q=>vb (.inl q)) (fun q=>vc (.inl q))
  · rintro b (q | q)
    · exact Nat.lt_succ_of_lt (S.lt.w b q)
    · subst q;exact Nat.lt_succ_self _
  · intro b q v
    have:=S.lt.p b (q.resolve_right fun e=>v (.inr e)) (fun e=>v (.inl e))
    simp only at this ⊢;omega
  · intro b hbb
    have hne:b≠s.next:=by omega
    exact ⟨fun q=>hmo b q,fun q=>q.resolve_right hne⟩
  · intro b q v hbb
    exact hi b (q.resolve_right fun e=>v (.inr e)) (fun e=>v (.inl e)) hbb
 | ro _ _ es' _ ex' hc hl2 hx he hr =>
  have:es'=[]:=List.length_eq_zero_iff.1 hl2.symm
  subst this
  have hne:∀ b,A b→¬ V b→ρ b≠m+3:=fun b q v e=>by have:=S.lt.p b q v;simp only at this;omega
  refine ⟨⟨put (put (put (put (put (put (put e0 2 .bH) 3 (.ro z [] ex')) 4 (.bool false)) 5 (.sl (m+3) z 0 0 0 true)) 6 (.ro z [] ex')) 7 (.sl (m+3) z 0 0 0 true)) 2 (.sl (m+3) z 0 0 0 true),put h0 (m+3) (.cells z [] true),m+7⟩,up ρ s.next (m+3),V,addN A s.next,?_,
   ⟨⟨by simp [Srt],?_,nX S.heap hn hne ⟨[],true,rfl,fun h=>h,.nil,fun _ e he=>by cases he⟩,⟨?_,?_⟩⟩,Nat.le_succ_of_le hb,?_,?_⟩,Nat.le_trans hm (Nat.le_add_right _ _)⟩
  · simp [acr,evC,lq,iZ,wants,iQ,callOf,aK,sMv,G6,iq,RD,AL,kU,Tf,elems,jU,qW,Opd.ev,ob,om,get_put,dL,hu,hl,jL,kG,iy,bW,rY,aQ]
  · intro k v hk
    simp only [Pav.get] at hk
    split at hk
    · rename_i e;subst e;cases hk
      refine ⟨.sl (m+3) z 0 0 0 true,by simp [get_put],?_⟩
      have:up ρ s.next (m+3) s.next=m+3:=by simp [up]
      have key:=VW.sl (ρ:=up ρ s.next (m+3)) (V:=V) (A:=addN A s.next) s.next z 0 0 0 true true (.inr rfl) (fun q=>hn (S.heap.sub _ q)) (fun h=>h)
      rw [this] at key
      exact key
    · cases hk
  · rintro b (q | q)
    · exact Nat.lt_succ_of_lt (S.lt.w b q)
    · subst q;exact Nat.lt_succ_self _
  · intro b q v
    unfold up
    split
    · simp
    · rename_i e
      have:=S.lt.p b (q.resolve_right e) v
      simp only at this ⊢;omega
  · intro b hbb
    have hne2:b≠s.next:=by omega
    exact ⟨fun q=>pK hn b q,fun q=>q.resolve_right hne2⟩
  · intro b q v hbb
    unfold up
    split
    · omega
    · rename_i e
      exact hi b (q.resolve_right e) v hbb
theorem ZV {k:Nat} (ih:EL C k) (hr:xI (fE C (evW C k)) (runWith (fD C) (evC (fD C) k))):EL C (k+1):=by
 intro base c s ex s1 hok he m0 s' ρ V A S hb hi hm
 cases c with
 | skip=>simp only [evW,Option.some.injEq,Prod.mk.injEq] at he;obtain ⟨rfl,rfl⟩:=he;exact ⟨s',ρ,V,A,rfl,⟨S,hb,Old.refl base ρ V A,hi⟩,hm⟩
 | exit id=>simp only [evW,Option.some.injEq,Prod.mk.injEq] at he;obtain ⟨rfl,rfl⟩:=he;exact ⟨s',ρ,V,A,rfl,⟨S,hb,Old.refl base ρ V A,hi⟩,hm⟩
 | ret=>simp only [evW,Option.some.injEq,Prod.mk.injEq] at he;obtain ⟨rfl,rfl⟩:=he;exact ⟨s',ρ,V,A,rfl,⟨S,hb,Old.refl base ρ V A,hi⟩,hm⟩
 | fail=>simp [evW] at he
 | cln zz z b =>
  simp only [evW] at he
  split at he
  · rename_i z' hz
    split at he
    · rename_i hc
      obtain ⟨rfl,hzz,hk⟩:=hc
      simp only [Option.some.injEq,Prod.mk.injEq] at he
      obtain ⟨rfl,rfl⟩:=he
      obtain ⟨x,hx,hx2⟩:=Option.bind_eq_some_iff.1 hz
      obtain ⟨j,rfl⟩:∃ j,k=j+8:=⟨k - 8,by omega⟩
      obtain ⟨u,hu,hr⟩:=S.env 0 x hx
      obtain ⟨xe,hxe⟩:∃ e,x=.ro z' [] e:=by
       unfold jV at hx2
       split at hx2
       · cases hx2;exact ⟨_,rfl⟩
       · cases hx2
      subst hxe
      have hl:(erL zz).length=z':=by rw [Vb];exact hzz
      exact aei S hb hi hm hu hr hl
    · cases he
  · obtain ⟨s1',ρ1,V1,A1,h3,R,h4⟩:=ih base (RI zz z b) s ex s1 (by simpa [okC,RI,iH,okO,okV,okL] using hok) he m0 s' ρ V A S hb hi hm
    exact ⟨s1',ρ1,V1,A1,nZ k (k+1) (Nat.le_succ k) _ _ _ h3,R,h4⟩
 | ops l a =>
  simp only [evW] at he
  obtain ⟨s2,h1,he⟩:=ay he
  obtain ⟨s3,h2,he⟩:=aG he
  cases he
  obtain ⟨s1',ρ1,V1,A1,h3,R,h4⟩:=adq hr l s s2 hok h1 s' ρ V A S hb hi hm
  obtain ⟨s2b,h2b,h2⟩:=ay h2
  obtain ⟨s2b',h5,e5,R5⟩:=R.Xy _ h2b
  obtain ⟨ρ2,V2,A2,R2⟩:=R5.canon h2 (.inr rfl)
  exact ⟨_,ρ2,V2,A2,by simp only [erC,evC,h3,ob,jL,h5,om],R2,by rw [← e5] at h4;exact h4⟩
 | draw l un a =>
  simp only [evW] at he
  obtain ⟨⟨s2,ds⟩,h1,he⟩:=ay he
  unfold tJ at he
  split at he
  · rename_i hap
    obtain ⟨s3,h2,he⟩:=aG he
    cases he
    have S0:Sim ρ V A ⟨s.env,s.heap,s.next+l.length⟩ ⟨s'.env,s'.heap,s'.next+l.length⟩:=⟨S.srt,S.env,S.heap,fun b q=>Nat.lt_of_lt_of_le (S.lt.w b q) (Nat.le_add_right _ _),fun b q v=>Nat.lt_of_lt_of_le (S.lt.p b q v) (Nat.le_add_right _ _)⟩
    obtain ⟨s1',ds1',ρ1,V1,A1,h3,R,h4,h5⟩:=Z9 hr l s.next _ s2 [] ds hok h1 s'.next _ [] ρ V A S0 hb (Nat.le_refl _) (fun b q=>.inl (S.lt.w b q)) hi hm (Nat.le_refl _) (fun b q v=>.inl (S.lt.p b q v)) (s'.next+l.length) (Nat.le_refl _) (Nat.le_refl _) .nil
    obtain ⟨s2b,h2b,h2⟩:=ay h2
    obtain ⟨s2b',h6,e6,R6⟩:=R.Xy _ h2b
    obtain ⟨ρ2,V2,A2,R2⟩:=R6.canon h2 (.inr rfl)
    refine ⟨_,ρ2,V2,A2,?_,R2,by rw [← e6] at h4;exact h4⟩
    simp only [erC,evC,List.length_map]
    rw [h3]
    simp only [ob,zT,jL,h6,om]
    rw [if_pos]
    simp only [List.all_eq_true] at hap ⊢
    exact fun p hp=>Zq R.sim.heap.inj h5 (hap p hp)
  · cases he
 | seq a b =>
  simp only [okC,Bool.and_eq_true] at hok
  simp only [evW] at he
  obtain ⟨⟨e1,s2⟩,h1,he⟩:=ay he
  obtain ⟨s1',ρ1,V1,A1,h3,R,h4⟩:=ih base a s e1 s2 hok.1 h1 m0 s' ρ V A S hb hi hm
  cases e1 with
  | norm =>
   simp only [eF] at he
   obtain ⟨s2',ρ2,V2,A2,h5,R2,h6⟩:=ih base b s2 ex s1 hok.2 he m0 s1' ρ1 V1 A1 R.sim R.kS R.hi h4
   exact ⟨s2',ρ2,V2,A2,by simp only [erC,evC,h3,ob,bW,h5],⟨R2.sim,R2.kS,R.old.trans R2.old,R2.hi⟩,h6⟩
  | exit id=>simp only [eF,Option.some.injEq,Prod.mk.injEq] at he;obtain ⟨rfl,rfl⟩:=he;exact ⟨s1',ρ1,V1,A1,by simp only [erC,evC,h3,ob,bW],R,h4⟩
  | ret=>simp only [eF,Option.some.injEq,Prod.mk.injEq] at he;obtain ⟨rfl,rfl⟩:=he;exact ⟨s1',ρ1,V1,A1,by simp only [erC,evC,h3,ob,bW],R,h4⟩
 | cond c a b =>
  simp only [okC,Bool.and_eq_true] at hok
  simp only [evW] at he
  have hc:=S.env.opd hok.1
  unfold vO at he
  split at he
  · rename_i t ht
    rw [ht] at hc
    cases t with
    | true =>
     simp only [if_true] at he
     obtain ⟨s1',ρ1,V1,A1,h3,R,h4⟩:=ih base a s ex s1 hok.2.1 he m0 s' ρ V A S hb hi hm
     exact ⟨s1',ρ1,V1,A1,by simp only [erC,evC,hc.fC,rY,if_true];exact h3,R,h4⟩
    | false =>
     simp only [Bool.false_eq_true,if_false] at he
     obtain ⟨s1',ρ1,V1,A1,h3,R,h4⟩:=ih base b s ex s1 hok.2.2 he m0 s' ρ V A S hb hi hm
     exact ⟨s1',ρ1,V1,A1,by simp only [erC,evC,hc.fC,rY,Bool.false_eq_true,if_false];exact h3,R,h4⟩
  · cases he
 | block id b a =>
  simp only [okC] at hok
  simp only [evW] at he
  obtain ⟨⟨e1,s2⟩,h1,he⟩:=ay he
  obtain ⟨s1',ρ1,V1,A1,h3,R,h4⟩:=ih base b s e1 s2 hok h1 m0 s' ρ V A S hb hi hm
  cases e1 with
  | norm =>
   simp only [kF] at he
   obtain ⟨s3,h5,he⟩:=aG he
   cases he
   obtain ⟨ρ2,V2,A2,R2⟩:=R.canon h5 (.inl rfl)
   exact ⟨s1',ρ2,V2,A2,by simp only [erC,evC,h3,om,cZ],R2,h4⟩
  | exit i =>
   simp only [kF] at he
   split at he
   · rename_i hid
     obtain ⟨s3,h5,he⟩:=aG he
     cases he
     obtain ⟨ρ2,V2,A2,R2⟩:=R.canon h5 (.inl rfl)
     exact ⟨s1',ρ2,V2,A2,by simp only [erC,evC,h3,om,cZ,if_pos hid],R2,h4⟩
   · rename_i hid
     simp only [Option.some.injEq,Prod.mk.injEq] at he;obtain ⟨rfl,rfl⟩:=he
     exact ⟨s1',ρ1,V1,A1,by simp only [erC,evC,h3,om,cZ,if_neg hid],R,h4⟩
  | ret =>
   simp only [kF,Option.some.injEq,Prod.mk.injEq] at he;obtain ⟨rfl,rfl⟩:=he
   exact ⟨s1',ρ1,V1,A1,by simp only [erC,evC,h3,om,cZ],R,h4⟩
 | loop a b =>
  have hok':okC b=true:=hok
  simp only [evW] at he
  obtain ⟨s0,h0,he⟩:=ay he
  obtain ⟨⟨e1,s2⟩,h1,he⟩:=ay he
  obtain ⟨ρ0,V0,A0,R0⟩:=(⟨S,hb,Old.refl base ρ V A,hi⟩:Res base m0 ρ V A s s' ρ V A).canon h0 (s2':=iy (sU a) s') (.inr rfl)
  obtain ⟨s1',ρ1,V1,A1,h3,R,h4⟩:=ih base b s0 e1 s2 hok' h1 m0 _ ρ0 V0 A0 R0.sim R0.kS R0.hi hm
  have R':Res base m0 ρ V A s2 s1' ρ1 V1 A1:=⟨R.sim,R.kS,R0.old.trans R.old,R.hi⟩
  cases e1 with
  | norm =>
   simp only [eF] at he
   obtain ⟨s2',ρ2,V2,A2,h5,R2,h6⟩:=ih base (.loop a b) s2 ex s1 hok he m0 s1' ρ1 V1 A1 R.sim R.kS R.hi h4
   exact ⟨s2',ρ2,V2,A2,by simp only [erC,evC,h3,ob,bW];exact h5,⟨R2.sim,R2.kS,R'.old.trans R2.old,R2.hi⟩,h6⟩
  | exit id=>simp only [eF,Option.some.injEq,Prod.mk.injEq] at he;obtain ⟨rfl,rfl⟩:=he;exact ⟨s1',ρ1,V1,A1,by simp only [erC,evC,h3,ob,bW],R',h4⟩
  | ret=>simp only [eF,Option.some.injEq,Prod.mk.injEq] at he;obtain ⟨rfl,rfl⟩:=he;exact ⟨s1',ρ1,V1,A1,by simp only [erC,evC,h3,ob,bW],R',h4⟩
theorem FP {ρ:Nat→Nat} {V A:Nat→Prop} {e:Env} {e':Env} {h:aI} {h':Heap} (he:EW ρ V A e e') (H:HW ρ V A h h') {rs:List tu} {v:AV} (hv:FW e h rs=some v):∃ v',Pav.results e' h' rs=some v'∧VW ρ V A v v':=by
 obtain ⟨vs,h1,rfl⟩:=aG hv
 have one:∀ r x,Bv e h r=some x→∃ x',GI e' h' r=some x'∧VW ρ V A x x':=by
  intro r x hx
  cases r with
  | tmp t=>exact he t x hx
  | cell t k ag =>
   simp only [Bv] at hx
   split at hx
   · rename_i b i o hg
     obtain ⟨p,h2,h3⟩:=he t _ hg
     obtain ⟨rfl,hA,hV⟩:=h3.iL
     unfold uU at hx
     split at hx
     · rename_i z es mu dt hgb
       obtain ⟨cs,h4,h5⟩:=ay hx
       obtain ⟨o',g1,es',mu',rfl,_,ge,_⟩:=H.obj b _ hgb hV
       obtain ⟨cs',h6,h7⟩:=ge.get h4
       obtain ⟨v',h8,h9⟩:=uM (h7.drop o) h5
       exact ⟨v',by simp only [GI,h2,g1,loadAt,h6,ob];exact h8,h9⟩
     · cases hx
   · cases hx
 have lst:∀ (rs:List tu) (vs:List AV),aX (Bv e h) rs=some vs→∃ vs',aX (GI e' h') rs=some vs'∧bC (VW ρ V A) vs vs':=by
  intro rs
  induction rs with
  | nil=>intro vs hq;simp only [aX,Option.some.injEq] at hq;subst hq;exact ⟨[],rfl,.nil⟩
  | cons r rs ih =>
   intro vs hq
   simp only [aX] at hq ⊢
   obtain ⟨x,h2,hq⟩:=ay hq
   obtain ⟨xs,h3,rfl⟩:=aG hq
   obtain ⟨x',h4,h5⟩:=one r x h2
   obtain ⟨xs',h6,h7⟩:=ih xs h3
   exact ⟨x'::xs',by rw [h4,h6];rfl,.cons h5 h7⟩
 obtain ⟨vs',h2,h3⟩:=lst rs vs h1
 refine ⟨HY vs',by simp only [Pav.results,h2,om],?_⟩
 cases vs with
 | nil=>rw [h3.dX];exact VW.mM .nil
 | cons a r =>
  obtain ⟨b,t,rfl,h4,h5⟩:=h3.dF
  cases r with
  | nil=>rw [h5.dX];exact h4
  | cons a2 r2 =>
   obtain ⟨b2,t2,rfl,h6,h7⟩:=h5.dF
   exact VW.mM (.cons h4 (.cons h6 h7))
theorem SN:∀ (l:List AV) (k j:Nat),get (fA k l) j=if j < k then none else l[j - k]?:=by
 intro l
 induction l with
 | nil=>intro k j;simp [fA,Pav.get]
 | cons a l ih =>
  intro k j
  simp only [fA,Pav.get]
  by_cases h1:k=j
  · subst h1;simp
  · rw [if_neg h1,ih]
    by_cases h2:j < k
    · rw [if_pos (by omega),if_pos h2]
    · rw [if_neg (by omega),if_neg h2]
      have:j - k=(j - (k+1))+1:=by omega
      rw [this];simp
theorem TG:∀ (t:qQ) (g:Nat),(Bc t).get g=(t.get g).map aY:=by
 intro t
 induction t with
 | leaf=>intro g;rfl
 | node l k f r ihl ihr =>
  intro g
  simp only [Bc,Tree.get,qQ.get]
  split
  · rfl
  · split
    · exact ihl g
    · exact ihr g
theorem TJ:∀ (t:qQ) (g:Nat) (f:WFn),rM t=true→t.get g=some f→okC f.body=true:=by
 intro t
 induction t with
 | leaf=>intro g f _ h;simp [qQ.get] at h
 | node l k f r ihl ihr =>
  intro g f' hok h
  simp only [rM,Bool.and_eq_true] at hok
  simp only [qQ.get] at h
  split at h
  · cases h;exact hok.2.1
  · split at h
    · exact ihl g f' hok.1 h
    · exact ihr g f' hok.2.2 h
theorem Vq (hok:rM C.fns=true) {k:Nat} (hc:EL C k):xI (fE C (evW C k)) (runWith (fD C) (evC (fD C) k)):=by
 intro f args h n v h1 n1 hrun ρ V A args' h' m ha H lt
 unfold fE at hrun
 obtain ⟨fn,hf,hrun⟩:=ay hrun
 split at hrun
 · rename_i hl
   obtain ⟨⟨ex,s1⟩,h2,h3⟩:=ay hrun
   have S:Sim ρ V A ⟨Dj 0 args [],h,n⟩ ⟨fA 0 args',h',m⟩:=by
    refine ⟨acU args 0,fun j x hj=>?_,H,lt⟩
    have hj2:get (fA 0 args) j=some x:=by
     have hm:=get_mem hj
     rw [UA,List.append_nil] at hm
     have hm2:=List.mem_reverse.1 hm
     have key:∀ (l:List AV) (k:Nat),(j,x) ∈ fA k l→get (fA k l) j=some x:=by
      intro l
      induction l with
      | nil=>intro k hq;simp [fA] at hq
      | cons v l ih =>
       intro k hq
       simp only [fA,Pav.get]
       rcases List.mem_cons.1 hq with q | q
       · cases q;simp
       · have:=(Ql l (k+1)).2 _ q
         simp only at this
         rw [if_neg (by omega)]
         exact ih (k+1) q
     exact key args 0 hm2
    simp only [SN,Nat.not_lt_zero,if_false,Nat.sub_zero] at hj2 ⊢
    exact ha.get hj2
   obtain ⟨s1',ρ1,V1,A1,h4,R,h5⟩:=hc n fn.body _ ex s1 (TJ _ _ _ hok hf) h2 m ⟨fA 0 args',h',m⟩ ρ V A S (Nat.le_refl _) (fun b hb _ hn=>absurd (lt.w b hb) (by omega)) (Nat.le_refl _)
   have fin:∃ v',Pav.results s1'.env s1'.heap fn.res=some v'∧VW ρ1 V1 A1 v v'∧s1.heap=h1∧s1.next=n1∧∀ i,ex≠.exit i:=by
    unfold iR at h3
    cases ex with
    | exit i=>cases h3
    | norm =>
     obtain ⟨w,q1,q2⟩:=aG h3
     cases q2
     obtain ⟨v',q3,q4⟩:=FP R.sim.env R.sim.heap q1
     exact ⟨v',q3,q4,rfl,rfl,fun i e=>by cases e⟩
    | ret =>
     obtain ⟨w,q1,q2⟩:=aG h3
     cases q2
     obtain ⟨v',q3,q4⟩:=FP R.sim.env R.sim.heap q1
     exact ⟨v',q3,q4,rfl,rfl,fun i e=>by cases e⟩
   obtain ⟨v',h6,h7,rfl,rfl,h8⟩:=fin
   refine ⟨v',s1'.heap,s1'.next,ρ1,V1,A1,?_,h7,R.sim.heap,R.sim.lt,fun b hb=>(R.old b (lt.w b hb)).1 hb,fun b hb=>?_,fun b hb hv=>?_,R.kS,h5⟩
   · unfold runWith
     have:(fD C).fns.get f=some (aY fn):=by
      show (Bc C.fns).get f=_
      rw [TG,hf];rfl
     rw [this]
     have hnp:args'.length=(aY fn).np:=by rw [← ha.1];exact hl
     simp only [ob]
     rw [if_pos hnp,show (aY fn).body=erC fn.body from rfl,h4]
     cases ex with
     | exit i=>exact absurd rfl (h8 i)
     | norm=>simp only [VB,show (aY fn).res=fn.res from rfl,h6,om]
     | ret=>simp only [VB,show (aY fn).res=fn.res from rfl,h6,om]
   · rcases Nat.lt_or_ge b n with q | q
     · exact .inl ((R.old b q).2 hb)
     · exact .inr q
   · rcases Nat.lt_or_ge b n with q | q
     · have:=(R.old b q).2 hb
       exact .inl ⟨this,((R.old b q).1 this).2.1⟩
     · exact .inr (R.hi b hb hv q)
 · cases hrun
theorem aeS (hok:rM C.fns=true):∀ k,EL C k:=by
 intro k
 induction k with
 | zero=>intro base c s ex s1 _ he;simp [evW] at he
 | succ k ih=>exact ZV ih (Vq hok ih)
theorem abC (hok:rM C.fns=true) {k f:Nat} {args args':List AV} {v:AV} (ha:bC (VD id fun _=>False) args args') (hc:ZA C k f args=some v):∃ v',afH (fD C) k f args'=some v'∧VD id (fun _=>False) v v' :=
 Qx (Vq hok (aeS hok k)) ha hc
end
end Go.Pw
end
section
set_option linter.unusedSimpArgs false
set_option linter.unusedVariables false
namespace Go.Pw
open Go Go.Pav
def sN (r r':wU):Prop:=∀ f args h n x,r f args h n=some x→r' f args h n=some x
section
variable {C:aJ} {r r':wU}
theorem NG (hr:sN r r') {f:Nat} {args:List AV} {h:aI} {nid n:Nat} {c:wo} (hc:jf C r f args h nid n=some c):jf C r' f args h nid n=some c:=by
 unfold jf at hc ⊢
 split
 · rename_i hi
   rw [if_pos hi] at hc
   split
   · rename_i hf
     rw [if_pos hf] at hc
     refine dn hc (fun x hx=>hx) fun az has=>?_
     by_cases hdp:sH f=true
     · rw [if_pos hdp] at has ⊢
       exact jH has fun x hx=>hr _ _ _ _ _ hx
     · rw [if_neg hdp] at has ⊢
       exact dn has (fun v hv=>dn hv (fun x hx=>hr _ _ _ _ _ hx) fun x hx=>hx) fun x hx=>hx
   · rename_i hf
     rw [if_neg hf] at hc
     exact jH hc fun x hx=>hr _ _ _ _ _ hx
 · rename_i hi
   rw [if_neg hi] at hc
   split
   · rename_i hp;rw [if_pos hp] at hc;exact jH hc fun x hx=>hr _ _ _ _ _ hx
   · rename_i hp
     rw [if_neg hp] at hc
     exact dn hc (fun x hx=>hx) fun az has=>jH has fun v hv=>dn hv (fun x hx=>hr _ _ _ _ _ hx) fun x hx=>hx
theorem OC (hr:sN r r') {op:COp} {nid:Nat} {e:Env} {h:aI} {n:Nat} {d:kC} (hd:ji C r op nid e h n=some d):ji C r' op nid e h n=some d:=by
 unfold ji at hd ⊢
 split
 · rename_i hc;rw [hc] at hd;cases hd
 · rename_i hc;rw [hc] at hd;exact jH hd fun c hc=>NG hr hc
 · rename_i hc;rw [hc] at hd;exact hd
theorem sQ (hr:sN r r') {o:bg} {nid:Nat} {e:Env} {h:aI} {n:Nat} {d:kC} (hd:gy C r o nid e h n=some d):gy C r' o nid e h n=some d:=by
 unfold gy at hd ⊢
 split
 · rename_i hc;rw [hc] at hd;cases hd
 · rename_i hc;rw [hc] at hd;exact hd
 · rename_i hc;rw [hc] at hd;exact OC hr hd
theorem uf (hr:sN r r'):∀ (l:List bg) (s s':WSt),iJ C r l s=some s'→iJ C r' l s=some s':=by
 intro l
 induction l with
 | nil=>intro s s' h;exact h
 | cons o l ih=>intro s s' h;exact dn h (fun d hd=>sQ hr hd) fun d hd=>ih _ _ hd
theorem rX (hr:sN r r'):∀ (l:List bg) (nid:Nat) (s:WSt) (ds:List kC) (x:WSt × List kC),eY C r l nid s ds=some x→eY C r' l nid s ds=some x:=by
 intro l
 induction l with
 | nil=>intro nid s ds x h;exact h
 | cons o l ih=>intro nid s ds x h;exact dn h (fun d hd=>sQ hr hd) fun d hd=>ih _ _ _ _ hd
theorem qj {ev ev':WEv} (he:∀ b c s x,ev b c s=some x→ev' b c s=some x):sN (fE C ev) (fE C ev'):=by
 intro f args h n x hx
 refine dn hx (fun a ha=>ha) fun fn hfn=>?_
 split
 · rename_i hl
   rw [if_pos hl] at hfn
   exact dn hfn (fun a ha=>he _ _ _ _ ha) fun a ha=>ha
 · rename_i hl
   rw [if_neg hl] at hfn;cases hfn
theorem pG {b b':WSt→Option (Ex × WSt)} (h:∀ s x,b s=some x→b' s=some x) {r:Ex × WSt} {x:Ex × WSt} (hx:eF b r=some x):eF b' r=some x:=by
 unfold eF at hx ⊢
 split
 · rename_i hr;rw [hr] at hx;exact h _ _ hx
 · split at hx
   · rename_i h1 _ h2;exact absurd h2 h1
   · exact hx
theorem nV:∀ (n m:Nat),n≤m→∀ (base:Nat) (c:aC) (s:WSt) (x:Ex × WSt),evW C n base c s=some x→evW C m base c s=some x:=by
 intro n
 induction n with
 | zero=>intro m _ base c s x h;simp only [evW] at h;cases h
 | succ n ih =>
  intro m hm base c s x h
  obtain ⟨m,rfl⟩:∃ k,m=k+1:=⟨m - 1,by omega⟩
  have ih':=ih m (by omega)
  have hr:sN (fE C (evW C n)) (fE C (evW C m)):=qj ih'
  cases c with
  | skip=>exact h
  | exit id=>exact h
  | ret=>exact h
  | fail=>exact h
  | cln zz z b =>
   simp only [evW] at h ⊢
   split
   · rename_i z' hz
     rw [hz] at h
     simp only at h
     split at h
     · rename_i hc;rw [if_pos ⟨hc.1,hc.2.1,by omega⟩];exact h
     · cases h
   · rename_i hz
     rw [hz] at h
     exact ih' _ _ _ _ h
  | ops l a=>simp only [evW] at h ⊢;exact dn h (fun s' hs=>uf hr l s s' hs) fun x hx=>hx
  | draw l un a=>simp only [evW] at h ⊢;exact dn h (fun x hx=>rX hr l _ _ _ x hx) fun x hx=>hx
  | seq a b=>simp only [evW] at h ⊢;exact dn h (fun x hx=>ih' _ _ _ _ hx) fun x hx=>pG (fun s x hx=>ih' _ _ _ _ hx) hx
  | cond c a b =>
   simp only [evW] at h ⊢
   unfold vO at h ⊢
   split
   · rename_i t hv
     rw [hv] at h
     cases t with
     | true=>exact ih' _ _ _ _ h
     | false=>exact ih' _ _ _ _ h
   · split at h
     · rename_i h1 _ t hv;exact absurd hv (h1 t)
     · cases h
  | block id b a=>simp only [evW] at h ⊢;exact dn h (fun x hx=>ih' _ _ _ _ hx) fun x hx=>hx
  | loop a b=>simp only [evW] at h ⊢;exact dn h (fun x hx=>hx) fun s hs=>dn hs (fun x hx=>ih' _ _ _ _ hx) fun x hx=>pG (fun s x hx=>ih' _ _ _ _ hx) hx
theorem wF {n m:Nat} (h:n≤m):sN (Iz C n) (Iz C m):=qj (nV n m h)
end
section
variable (C:aJ)
noncomputable def CdW:WEv:=fun base c s=>lim fun n=>evW C n base c s
noncomputable def RnW:wU:=fE C (CdW C)
noncomputable def FnW (f:Nat) (args:List AV):Option AV:=jg (RnW C) f args
end
section
variable {C:aJ} {base:Nat}
theorem agy (base:Nat) (c:aC) (s:WSt):aeK fun n=>evW C n base c s:=fun n m h a ha=>nV n m h base c s a ha
theorem lU {c:aC} {s:WSt} {x:Ex × WSt}:CdW C base c s=some x↔∃ n,evW C n base c s=some x:=adQ (agy base c s)
theorem xA {n:Nat} {c:aC} {s:WSt} {x:Ex × WSt} (h:evW C n base c s=some x):CdW C base c s=some x:=lU.2 ⟨n,h⟩
theorem BG (n:Nat):sN (Iz C n) (RnW C):=qj fun _ _ _ _ h=>xA h
theorem vV {f:Nat} {args:List AV} {h:aI} {n:Nat} {x:AV × aI × Nat} (hx:RnW C f args h n=some x):∃ k,Iz C k f args h n=some x:=by
 unfold RnW fE at hx
 obtain ⟨fn,hf,hx⟩:=ay hx
 split at hx
 · rename_i hl
   obtain ⟨y,hc,hx⟩:=ay hx
   obtain ⟨k,hk⟩:=lU.1 hc
   refine ⟨k,?_⟩
   unfold Iz fE
   rw [hf]
   simp only [ob,if_pos hl,hk]
   exact hx
 · cases hx
theorem MJ {f:Nat} {args:List AV} {h:aI} {nid n:Nat} {c:wo} (hc:jf C (RnW C) f args h nid n=some c):∃ k,jf C (Iz C k) f args h nid n=some c:=by
 unfold jf at hc ⊢
 split
 · rename_i hi
   rw [if_pos hi] at hc
   split
   · rename_i hf
     rw [if_pos hf] at hc
     obtain ⟨az,h1,hc⟩:=ay hc
     by_cases hdp:sH f=true
     · rw [if_pos hdp] at hc
       obtain ⟨r,h3,rfl⟩:=aG hc
       obtain ⟨k,hk⟩:=vV h3
       refine ⟨k,?_⟩
       rw [h1]
       simp only [ob,if_pos hdp,hk,om]
     rw [if_neg hdp] at hc
     obtain ⟨x,h2,hend⟩:=ay hc
     obtain ⟨r,h3,h4⟩:=ay h2
     obtain ⟨k,hk⟩:=vV h3
     refine ⟨k,?_⟩
     rw [h1]
     simp only [ob,if_neg hdp]
     unfold eP
     simp only [ob,hk]
     rw [h4]
     exact hend
   · rename_i hf
     rw [if_neg hf] at hc
     obtain ⟨r,h1,rfl⟩:=aG hc
     obtain ⟨k,hk⟩:=vV h1
     exact ⟨k,by rw [hk];rfl⟩
 · rename_i hi
   rw [if_neg hi] at hc
   split
   · rename_i hp
     rw [if_pos hp] at hc
     obtain ⟨r,h1,rfl⟩:=aG hc
     obtain ⟨k,hk⟩:=vV h1
     exact ⟨k,by rw [hk];rfl⟩
   · rename_i hp
     rw [if_neg hp] at hc
     obtain ⟨az,h1,hc⟩:=ay hc
     obtain ⟨v,h2,rfl⟩:=aG hc
     obtain ⟨r,h3,h4⟩:=ay h2
     obtain ⟨k,hk⟩:=vV h3
     exact ⟨k,by rw [h1];simp only [ob,jg,hk,h4];rfl⟩
theorem Hz {o:bg} {nid:Nat} {e:Env} {h:aI} {n:Nat} {d:kC} (hd:gy C (RnW C) o nid e h n=some d):∃ k,gy C (Iz C k) o nid e h n=some d:=by
 unfold gy at hd ⊢
 split
 · rename_i hc;rw [hc] at hd;cases hd
 · rename_i hc;rw [hc] at hd;exact ⟨0,hd⟩
 · rename_i hc
   rw [hc] at hd
   simp only at hd
   unfold ji at hd ⊢
   split
   · rename_i hc;rw [hc] at hd;cases hd
   · rename_i hc
     rw [hc] at hd
     simp only at hd
     obtain ⟨r,h1,rfl⟩:=aG hd
     obtain ⟨k,hk⟩:=MJ h1
     exact ⟨k,by rw [hk];rfl⟩
   · rename_i hc;rw [hc] at hd;exact ⟨0,hd⟩
theorem Qq:∀ (l:List bg) (s s':WSt),iJ C (RnW C) l s=some s'→∃ k,iJ C (Iz C k) l s=some s':=by
 intro l
 induction l with
 | nil=>intro s s' h;exact ⟨0,h⟩
 | cons o l ih =>
  intro s s' h
  simp only [iJ] at h ⊢
  obtain ⟨d,hd,h⟩:=ay h
  obtain ⟨k1,h1⟩:=Hz hd
  obtain ⟨k2,h2⟩:=ih _ _ h
  refine ⟨max k1 k2,?_⟩
  rw [sQ (wF (Nat.le_max_left k1 k2)) h1]
  exact uf (wF (Nat.le_max_right k1 k2)) _ _ _ h2
theorem Lj:∀ (l:List bg) (nid:Nat) (s:WSt) (ds:List kC) (x:WSt × List kC),eY C (RnW C) l nid s ds=some x→∃ k,eY C (Iz C k) l nid s ds=some x:=by
 intro l
 induction l with
 | nil=>intro nid s ds x h;exact ⟨0,h⟩
 | cons o l ih =>
  intro nid s ds x h
  simp only [eY] at h ⊢
  obtain ⟨d,hd,h⟩:=ay h
  obtain ⟨k1,h1⟩:=Hz hd
  obtain ⟨k2,h2⟩:=ih _ _ _ _ h
  refine ⟨max k1 k2,?_⟩
  rw [sQ (wF (Nat.le_max_left k1 k2)) h1]
  exact rX (wF (Nat.le_max_right k1 k2)) _ _ _ _ _ h2
theorem ads (s:WSt):CdW C base .skip s=some (.norm,s):=xA (n:=1) rfl
theorem adv (id:Nat) (s:WSt):CdW C base (.exit id) s=some (.exit id,s):=xA (n:=1) rfl
theorem agn (s:WSt):CdW C base .ret s=some (.ret,s):=xA (n:=1) rfl
theorem rP {c:aC} {s:WSt} {x:Ex × WSt}:CdW C base c s=some x↔∃ n,evW C (n+1) base c s=some x:=by
 rw [lU]
 constructor
 · rintro ⟨n,h⟩;exact ⟨n,nV n (n+1) (Nat.le_succ n) base c s x h⟩
 · rintro ⟨n,h⟩;exact ⟨_,h⟩
theorem sG {b:aC} {r x:Ex × WSt}:eF (CdW C base b) r=some x↔∃ n,eF (evW C n base b) r=some x:=by
 obtain ⟨ex,s⟩:=r
 cases ex with
 | norm=>simp only [eF];exact lU
 | exit id=>simp [eF]
 | ret=>simp [eF]
theorem ag7 (a b:aC) (s:WSt):CdW C base (.seq a b) s=ob (CdW C base a s) (eF (CdW C base b)):=by
 refine su fun x=>?_
 rw [rP,oJ]
 simp only [evW,oJ]
 constructor
 · rintro ⟨n,r,h1,h2⟩;exact ⟨r,xA h1,sG.2 ⟨n,h2⟩⟩
 · rintro ⟨r,h1,h2⟩
   obtain ⟨n,h1⟩:=lU.1 h1
   obtain ⟨m,h2⟩:=sG.1 h2
   exact ⟨max n m,r,nV _ _ (Nat.le_max_left n m) _ _ _ _ h1,pG (fun s x hx=>nV _ _ (Nat.le_max_right n m) _ _ _ _ hx) h2⟩
theorem aeF (a:Ann) (b:aC) (s:WSt):CdW C base (.loop a b) s=ob (canon base a s) fun s=>ob (CdW C base b s) (eF (CdW C base (.loop a b))):=by
 refine su fun x=>?_
 rw [rP,oJ]
 simp only [evW,oJ]
 constructor
 · rintro ⟨n,s0,h0,r,h1,h2⟩;exact ⟨s0,h0,r,xA h1,sG.2 ⟨n,h2⟩⟩
 · rintro ⟨s0,h0,r,h1,h2⟩
   obtain ⟨n,h1⟩:=lU.1 h1
   obtain ⟨m,h2⟩:=sG.1 h2
   exact ⟨max n m,s0,h0,r,nV _ _ (Nat.le_max_left n m) _ _ _ _ h1,pG (fun s x hx=>nV _ _ (Nat.le_max_right n m) _ _ _ _ hx) h2⟩
theorem aby (id:Nat) (b:aC) (a:Ann) (s:WSt):CdW C base (.block id b a) s=ob (CdW C base b s) (kF base id a):=by
 refine su fun x=>?_
 rw [rP,oJ]
 simp only [evW,oJ]
 constructor
 · rintro ⟨n,r,h1,h2⟩;exact ⟨r,xA h1,h2⟩
 · rintro ⟨r,h1,h2⟩
   obtain ⟨n,h1⟩:=lU.1 h1
   exact ⟨n,r,h1,h2⟩
theorem aev (c:Opd) (a b:aC) (s:WSt):CdW C base (.cond c a b) s=vO (CdW C base a) (CdW C base b) (c.ev s.env) s:=by
 refine su fun x=>?_
 rw [rP]
 simp only [evW]
 unfold vO
 split
 · rename_i t _
   cases t with
   | true=>exact lU.symm
   | false=>exact lU.symm
 · simp
theorem aij (l:List bg) (a:Ann) (s:WSt):CdW C base (.ops l a) s=ob (iJ C (RnW C) l s) fun s=>om (qB base a s) fun s=>(.norm,s):=by
 refine su fun x=>?_
 rw [rP,oJ]
 simp only [evW,oJ]
 constructor
 · rintro ⟨n,r,h1,h2⟩;exact ⟨r,uf (BG n) _ _ _ h1,h2⟩
 · rintro ⟨r,h1,h2⟩
   obtain ⟨n,h1⟩:=Qq _ _ _ h1
   exact ⟨n,r,h1,h2⟩
theorem acJ (l:List bg) (un:List (Nat × Nat)) (a:Ann) (s:WSt):CdW C base (.draw l un a) s=ob (eY C (RnW C) l s.next ⟨s.env,s.heap,s.next+l.length⟩ []) (tJ base un a):=by
 refine su fun x=>?_
 rw [rP,oJ]
 simp only [evW,oJ]
 constructor
 · rintro ⟨n,r,h1,h2⟩;exact ⟨r,rX (BG n) _ _ _ _ _ h1,h2⟩
 · rintro ⟨r,h1,h2⟩
   obtain ⟨n,h1⟩:=Lj _ _ _ _ _ h1
   exact ⟨n,r,h1,h2⟩
theorem Z5 (zz:List AV) (z b:Nat) (s:WSt):CdW C base (.cln zz z b) s=match (Pav.get s.env 0).bind jV with
 | some z'=>if z'=z∧zz.length=z then some (.ret,⟨[(2,.sl s.next z 0 0 0 true)],Pav.put s.heap s.next (.cells z [] true true),s.next+1⟩) else none
 | none=>CdW C base (RI zz z b) s:=by
 refine su fun x=>?_
 rw [rP]
 simp only [evW]
 cases hq:(Pav.get s.env 0).bind jV with
 | some z' =>
  simp only
  by_cases hc:z'=z∧zz.length=z
  · rw [if_pos hc]
    constructor
    · rintro ⟨n,h⟩
      split at h
      · exact h
      · cases h
    · intro h;exact ⟨8,by rw [if_pos ⟨hc.1,hc.2,by omega⟩];exact h⟩
  · rw [if_neg hc]
    constructor
    · rintro ⟨n,h⟩
      rw [if_neg (fun w=>hc ⟨w.1,w.2.1⟩)] at h
      exact h
    · intro h;cases h
 | none=>exact lU.symm
theorem OT {f:Nat} {args:List AV} {v:AV}:FnW C f args=some v↔∃ n,ZA C n f args=some v:=by
 unfold FnW ZA jg
 simp only [oJ]
 constructor
 · rintro ⟨r,h1,h2⟩
   obtain ⟨k,h1⟩:=vV h1
   exact ⟨k,r,h1,h2⟩
 · rintro ⟨k,r,h1,h2⟩;exact ⟨r,BG k _ _ _ _ _ h1,h2⟩
end
end Go.Pw
end
section
set_option linter.unusedSimpArgs false
set_option linter.unusedVariables false
namespace Go.Pw
open Go Go.Pav
inductive Frame where
 | sq (b:aC)
 | bk (id:Nat) (a:Ann)
 | lp (a:Ann) (b:aC)
def qN:Env→Nat→AV→Env
 | [],_,_=>[]
 | (k,v)::r,g,x=>if k=g then (k,x)::r else (k,v)::qN r g x
section
variable {β:Type}
noncomputable def RK (C:aJ) (base:Nat):List Frame→Ex × WSt→Option (Ex × WSt)
 | [],r=>some r
 | .sq b::k,r=>ob (eF (CdW C base b) r) (RK C base k)
 | .bk id a::k,r=>ob (kF base id a r) (RK C base k)
 | .lp a b::k,r=>ob (eF (CdW C base (.loop a b)) r) (RK C base k)
noncomputable def CK (C:aJ) (base:Nat) (fin:Ex × WSt→Option β) (k:List Frame) (c:aC) (s:WSt):Option β:=ob (CdW C base c s) fun r=>ob (RK C base k r) fin
noncomputable def NK (C:aJ) (base:Nat) (fin:Ex × WSt→Option β) (k:List Frame) (ex:Ex) (s:WSt):Option β:=ob (RK C base k (ex,s)) fin
noncomputable def AK (C:aJ) (base:Nat) (fin:Ex × WSt→Option β) (k:List Frame) (s:Option WSt):Option β:=ob s fun s=>NK C base fin k .norm s
noncomputable def LK (C:aJ) (base:Nat) (fin:Ex × WSt→Option β) (k:List Frame) (b:aC) (s:Option WSt):Option β:=ob s fun s=>CK C base fin k b s
noncomputable def OK (C:aJ) (base:Nat) (fin:Ex × WSt→Option β) (k:List Frame) (a:Ann) (l:List bg) (s:WSt):Option β :=
 ob (iJ C (RnW C) l s) fun s=>AK C base fin k (qB base a s)
noncomputable def SK (C:aJ) (base:Nat) (fin:Ex × WSt→Option β) (k:List Frame) (a:Ann) (l:List bg) (d:Option Nat) (e:Env) (h:aI) (n:Nat) (x:Option (AV × dU)):Option β :=
 ob x fun x=>OK C base fin k a l ⟨eH e d x.1,bP h x.2,n⟩
noncomputable def OU (C:aJ) (base:Nat) (fin:Ex × WSt→Option β) (k:List Frame) (a b:aC) (s:WSt) (v:AV):Option β :=
 match v with
 | .bool t=>if t=true then CK C base fin k a s else CK C base fin k b s
 | _=>none
noncomputable def GK (C:aJ) (base:Nat) (fin:Ex × WSt→Option β) (k:List Frame) (a:Ann) (l:List bg) (d:Option Nat) (op:COp) (g:Nat) (w:Bool) (e:Env) (h:aI) (n:Nat) (v:Option AV):Option β :=
 match v with
 | some (.bool b)=>if b=w then OK C base fin k a (⟨d,none,op⟩::l) ⟨qN e g (.bool w),h,n⟩ else OK C base fin k a l ⟨eH (qN e g (.bool (!w))) d (.tup []),h,n+1⟩
 | some (.tup [])=>OK C base fin k a l ⟨eH e d (.tup []),h,n+1⟩
 | _=>none
noncomputable def VK (C:aJ) (base:Nat) (fin:Ex × WSt→Option β) (k:List Frame) (a:Ann) (l:List bg) (d:Option Nat) (e:Env) (h:aI) (n:Nat) (args:List AV) (v:Option AV):Option β :=
 ob v fun v=>OK C base fin k a l ⟨eH e d v,bP h (oN h args v),n⟩
noncomputable def WK (C:aJ) (base:Nat) (fin:Ex × WSt→Option β) (k:List Frame) (a:Ann) (l:List bg) (d:Option Nat) (e:Env) (r:Option (AV × aI × Nat)):Option β :=
 ob r fun r=>OK C base fin k a l ⟨eH e d r.1,r.2.1,r.2.2⟩
noncomputable def PK (C:aJ) (base:Nat) (fin:Ex × WSt→Option β) (k:List Frame) (a:Ann) (l:List bg) (d:Option Nat) (e:Env) (h:aI) (n:Nat) (f:Nat) (args:List AV) (az:Option (List AV)):Option β :=
 ob az fun az=>VK C base fin k a l d e h n args (FnW C f az)
noncomputable def BSK (C:aJ) (base:Nat) (fin:Ex × WSt→Option β) (k:List Frame) (a:Ann) (l:List bg) (d:Option Nat) (e:Env) (h:aI) (n:Nat) (v:AV) (u:dU) (ok:Bool):Option β :=
 if ok=true then OK C base fin k a l ⟨eH e d v,bP h u,n⟩ else none
noncomputable def FSK (C:aJ) (base:Nat) (fin:Ex × WSt→Option β) (k:List Frame) (a:Ann) (l:List bg) (d:Option Nat) (e:Env) (h:aI) (n:Nat) (br:Bool) (args:List AV) (x:Option (AV × dU)):Option β :=
 ob x fun x=>if br=true then BSK C base fin k a l d e h n x.1 x.2 (mV x) else OK C base fin k a l ⟨eH e d x.1,bP h (aW h (args.flatMap (aT h aF))++x.2),n⟩
def over (n:Nat) (h1 h:aI):aI:=bP h (Di n h1)
noncomputable def HK (C:aJ) (base:Nat) (fin:Ex × WSt→Option β) (k:List Frame) (a:Ann) (l:List bg) (d:Option Nat) (e:Env) (h:aI) (n:Nat) (args:List AV) (r:Option (AV × aI × Nat)):Option β :=
 ob r fun r=>OK C base fin k a l ⟨eH e d r.1,over n r.2.1 (bP h (aW h (args.flatMap (aT h aF)))),r.2.2⟩
noncomputable def TK (C:aJ) (base:Nat) (fin:Ex × WSt→Option β) (k:List Frame) (a:Ann) (l:List bg) (d:Option Nat) (e:Env) (h:aI) (n:Nat) (f:Nat) (args az:List AV) (dp:Bool):Option β :=
 if dp=true then HK C base fin k a l d e h n args (RnW C f az [] n) else FSK C base fin k a l d e h n (rW f) args (eP (RnW C) f az (n - 1))
noncomputable def FPK (C:aJ) (base:Nat) (fin:Ex × WSt→Option β) (k:List Frame) (a:Ann) (l:List bg) (d:Option Nat) (e:Env) (h:aI) (n:Nat) (f:Nat) (args:List AV) (az:Option (List AV)):Option β :=
 ob az fun az=>TK C base fin k a l d e h n f args az (sH f)
noncomputable def IK (C:aJ) (base:Nat) (fin:Ex × WSt→Option β) (k:List Frame) (a:Ann) (l:List bg) (d:Option Nat) (e:Env) (h:aI) (n:Nat) (f:Nat) (args:List AV) (fr:Bool):Option β :=
 if fr=true then FPK C base fin k a l d e h n f args (aX (bD h aF) args) else WK C base fin k a l d e (RnW C f args h n)
noncomputable def FK (C:aJ) (base:Nat) (fin:Ex × WSt→Option β) (k:List Frame) (a:Ann) (l:List bg) (d:Option Nat) (e:Env) (h:aI) (n:Nat) (f:Nat) (args:List AV) (inl ptr:Bool):Option β :=
 if inl=true then IK C base fin k a l d e h n f args (KQ f) else if ptr=true then WK C base fin k a l d e (RnW C f args h n) else PK C base fin k a l d e h n f args (aX (bD h aF) args)
noncomputable def QK (C:aJ) (base:Nat) (fin:Ex × WSt→Option β) (k:List Frame) (a:Ann) (l:List bg) (d:Option Nat) (e:Env) (h:aI) (n:Nat) (args:List AV) (g:AV):Option β :=
 match g with
 | .fn f caps=>FK C base fin k a l d e h n f (args++caps) (C.inl f) (!C.pp f&&bT (args++caps))
 | _=>none
abbrev RW:=Bool × List Nat × List Nat
def X0 (d:kC):RW:=(d.bar,d.rd,d.wr)
def Sr (d:RW):Bool:=!d.1&&(d.2.2.isEmpty&&d.2.1.isEmpty)
def abG (a b:RW):Bool:=!(Sr a||Sr b)&&(if a.1=true then b.1||SQ a.2.1 a.2.2 b.2.1 b.2.2 else if b.1=true then SQ b.2.1 b.2.2 a.2.1 a.2.2 else (meets a.2.2 b.2.2||(meets a.2.2 b.2.1||meets a.2.1 b.2.2)))
def Ba (ds:List RW) (p:Nat × Nat):Bool :=
 match ds[p.1]?,ds[p.2]? with
 | some a,some b=>!abG a b
 | _,_=>false
noncomputable def EK (C:aJ) (base:Nat) (fin:Ex × WSt→Option β) (k:List Frame) (a:Ann) (s:WSt) (ok:Bool):Option β :=
 if ok=true then AK C base fin k (qB base a s) else none
noncomputable def DK (C:aJ) (base:Nat) (fin:Ex × WSt→Option β) (k:List Frame) (a:Ann) (un:List (Nat × Nat)) (l:List bg) (nid:Nat) (s:WSt) (ds:List RW):Option β :=
 ob (eY C (RnW C) l nid s []) fun r=>EK C base fin k a r.1 (un.all (Ba (ds++r.2.map X0)))
noncomputable def DSK (C:aJ) (base:Nat) (fin:Ex × WSt→Option β) (k:List Frame) (a:Ann) (un:List (Nat × Nat)) (l:List bg) (nid:Nat) (d:Option Nat) (e:Env) (h:aI) (n:Nat) (ds:List RW) (rd:List Nat) (x:Option (AV × dU)):Option β :=
 ob x fun x=>DK C base fin k a un l nid ⟨eH e d x.1,bP h x.2,n⟩ (ds++[(false,rd,x.2.map (·.1))])
noncomputable def DGK (C:aJ) (base:Nat) (fin:Ex × WSt→Option β) (k:List Frame) (a:Ann) (un:List (Nat × Nat)) (l:List bg) (nid:Nat) (d:Option Nat) (op:COp) (g:Nat) (w:Bool) (e:Env) (h:aI) (n:Nat) (ds:List RW) (v:Option AV):Option β :=
 match v with
 | some (.bool b)=>if b=w then DK C base fin k a un (⟨d,none,op⟩::l) nid ⟨qN e g (.bool w),h,n⟩ ds else DK C base fin k a un l (nid+1) ⟨eH (qN e g (.bool (!w))) d (.tup []),h,n⟩ (ds++[(false,[],[])])
 | some (.tup [])=>DK C base fin k a un l (nid+1) ⟨eH e d (.tup []),h,n⟩ (ds++[(false,[],[])])
 | _=>none
noncomputable def DVK (C:aJ) (base:Nat) (fin:Ex × WSt→Option β) (k:List Frame) (a:Ann) (un:List (Nat × Nat)) (l:List bg) (nid:Nat) (d:Option Nat) (e:Env) (h:aI) (n:Nat) (ds:List RW) (args:List AV) (v:Option AV):Option β :=
 ob v fun v=>DK C base fin k a un l nid ⟨eH e d v,bP h (oN h args v),n⟩ (ds++[(false,args.flatMap (aT h aF),(oN h args v).map (·.1))])
noncomputable def DWK (C:aJ) (base:Nat) (fin:Ex × WSt→Option β) (k:List Frame) (a:Ann) (un:List (Nat × Nat)) (l:List bg) (nid:Nat) (d:Option Nat) (e:Env) (ds:List RW) (r:Option (AV × aI × Nat)):Option β :=
 ob r fun r=>DK C base fin k a un l nid ⟨eH e d r.1,r.2.1,r.2.2⟩ (ds++[(true,[],[])])
noncomputable def DPK (C:aJ) (base:Nat) (fin:Ex × WSt→Option β) (k:List Frame) (a:Ann) (un:List (Nat × Nat)) (l:List bg) (nid:Nat) (d:Option Nat) (e:Env) (h:aI) (n:Nat) (ds:List RW) (f:Nat) (args:List AV) (az:Option (List AV)):Option β :=
 ob az fun az=>DVK C base fin k a un l nid d e h n ds args (FnW C f az)
noncomputable def acL (C:aJ) (base:Nat) (fin:Ex × WSt→Option β) (k:List Frame) (a:Ann) (un:List (Nat × Nat)) (l:List bg) (nid:Nat) (d:Option Nat) (e:Env) (h:aI) (n:Nat) (ds:List RW) (args:List AV) (v:AV) (u:dU) (ok:Bool):Option β :=
 if ok=true then DK C base fin k a un l nid ⟨eH e d v,bP h u,n⟩ (ds++[(false,args.flatMap (aT h aF),u.map (·.1))]) else none
noncomputable def aax (C:aJ) (base:Nat) (fin:Ex × WSt→Option β) (k:List Frame) (a:Ann) (un:List (Nat × Nat)) (l:List bg) (nid:Nat) (d:Option Nat) (e:Env) (h:aI) (n:Nat) (ds:List RW) (br:Bool) (args:List AV) (x:Option (AV × dU)):Option β :=
 ob x fun x=>if br=true then acL C base fin k a un l nid d e h n ds args x.1 x.2 (mV x) else DK C base fin k a un l nid ⟨eH e d x.1,bP h (aW h (args.flatMap (aT h aF))++x.2),n⟩ (ds++[(false,args.flatMap (aT h aF),(aW h (args.flatMap (aT h aF))++x.2).map (·.1))])
noncomputable def DHK (C:aJ) (base:Nat) (fin:Ex × WSt→Option β) (k:List Frame) (a:Ann) (un:List (Nat × Nat)) (l:List bg) (nid:Nat) (d:Option Nat) (e:Env) (h:aI) (n:Nat) (ds:List RW) (args:List AV) (r:Option (AV × aI × Nat)):Option β :=
 ob r fun r=>DK C base fin k a un l nid ⟨eH e d r.1,over n r.2.1 (bP h (aW h (args.flatMap (aT h aF)))),r.2.2⟩ (ds++[(true,args.flatMap (aT h aF),n::(aW h (args.flatMap (aT h aF))).map (·.1))])
noncomputable def DTK (C:aJ) (base:Nat) (fin:Ex × WSt→Option β) (k:List Frame) (a:Ann) (un:List (Nat × Nat)) (l:List bg) (nid:Nat) (d:Option Nat) (e:Env) (h:aI) (n:Nat) (ds:List RW) (f:Nat) (args az:List AV) (dp:Bool):Option β :=
 if dp=true then DHK C base fin k a un l nid d e h n ds args (RnW C f az [] n) else aax C base fin k a un l nid d e h n ds (rW f) args (eP (RnW C) f az (nid - 1))
noncomputable def adf (C:aJ) (base:Nat) (fin:Ex × WSt→Option β) (k:List Frame) (a:Ann) (un:List (Nat × Nat)) (l:List bg) (nid:Nat) (d:Option Nat) (e:Env) (h:aI) (n:Nat) (ds:List RW) (f:Nat) (args:List AV) (az:Option (List AV)):Option β :=
 ob az fun az=>DTK C base fin k a un l nid d e h n ds f args az (sH f)
noncomputable def DIK (C:aJ) (base:Nat) (fin:Ex × WSt→Option β) (k:List Frame) (a:Ann) (un:List (Nat × Nat)) (l:List bg) (nid:Nat) (d:Option Nat) (e:Env) (h:aI) (n:Nat) (ds:List RW) (f:Nat) (args:List AV) (fr:Bool):Option β :=
 if fr=true then adf C base fin k a un l nid d e h n ds f args (aX (bD h aF) args) else DWK C base fin k a un l nid d e ds (RnW C f args h n)
noncomputable def DFK (C:aJ) (base:Nat) (fin:Ex × WSt→Option β) (k:List Frame) (a:Ann) (un:List (Nat × Nat)) (l:List bg) (nid:Nat) (d:Option Nat) (e:Env) (h:aI) (n:Nat) (ds:List RW) (f:Nat) (args:List AV) (inl ptr:Bool):Option β :=
 if inl=true then DIK C base fin k a un l nid d e h n ds f args (KQ f) else if ptr=true then DWK C base fin k a un l nid d e ds (RnW C f args h n) else DPK C base fin k a un l nid d e h n ds f args (aX (bD h aF) args)
noncomputable def DQK (C:aJ) (base:Nat) (fin:Ex × WSt→Option β) (k:List Frame) (a:Ann) (un:List (Nat × Nat)) (l:List bg) (nid:Nat) (d:Option Nat) (e:Env) (h:aI) (n:Nat) (ds:List RW) (args:List AV) (g:AV):Option β :=
 match g with
 | .fn f caps=>DFK C base fin k a un l nid d e h n ds f (args++caps) (C.inl f) (!C.pp f&&bT (args++caps))
 | _=>none
def aP (res:List tu) (r:Ex × WSt):Option AV:=ob (iR res r) fun r=>bD r.2.1 aF r.1
end
section
variable {β:Type} {C:aJ} {base:Nat} {fin:Ex × WSt→Option β} {k:List Frame}
theorem iT {α γ δ:Type} (x:Option α) (f:α→Option γ) (g:γ→Option δ):ob (ob x f) g=ob x fun a=>ob (f a) g:=by cases x <;> rfl
theorem Jc {α γ δ:Type} (x:Option α) (f:α→γ) (g:γ→Option δ):ob (om x f) g=ob x fun a=>g (f a):=by cases x <;> rfl
theorem ahF (a b:aC) (s:WSt):CK C base fin k (.seq a b) s=CK C base fin (.sq b::k) a s:=by
 unfold CK;rw [ag7];simp only [RK,iT]
theorem acw (s:WSt):CK C base fin k .skip s=NK C base fin k .norm s:=by unfold CK NK;rw [ads];rfl
theorem aeZ (i:Nat) (s:WSt):CK C base fin k (.exit i) s=NK C base fin k (.exit i) s:=by unfold CK NK;rw [adv];rfl
theorem ahR (s:WSt):CK C base fin k .ret s=NK C base fin k .ret s:=by unfold CK NK;rw [agn];rfl
theorem aed (c:Opd) (a b:aC) (s:WSt):CK C base fin k (.cond c a b) s=OU C base fin k a b s (c.ev s.env):=by
 unfold CK OU;rw [aev];unfold vO
 cases c.ev s.env <;> try rfl
 rename_i t;cases t <;> rfl
theorem abz (id:Nat) (b:aC) (a:Ann) (s:WSt):CK C base fin k (.block id b a) s=CK C base fin (.bk id a::k) b s:=by
 unfold CK;rw [aby];simp only [RK,iT]
theorem bF {L:aC} {a:Ann} {b:aC} {s:WSt} (hL:L=.loop a b):CK C base fin k L s=LK C base fin (.sq L::k) b (canon base a s):=by
 subst hL;unfold CK LK CK;rw [aeF];simp only [RK,iT]
theorem au {c c':aC} {s:WSt} (hc:c=c'):CK C base fin k c s=CK C base fin k c' s:=by rw [hc]
theorem ahz (l:List bg) (a:Ann) (s:WSt):CK C base fin k (.ops l a) s=OK C base fin k a l s:=by
 unfold CK OK AK NK;rw [aij];simp only [iT,Jc]
theorem aeM (l:List bg) (un:List (Nat × Nat)) (a:Ann) (e:Env) (h:aI) (n:Nat):CK C base fin k (.draw l un a) ⟨e,h,n⟩=DK C base fin k a un l n ⟨e,h,n+l.length⟩ []:=by
 unfold CK DK EK AK NK;rw [acJ];simp only [iT]
 have:∀ r:WSt × List kC,(ob (tJ base un a r) fun r=>ob (RK C base k r) fin)=(if (un.all (Ba ([]++r.2.map X0)))=true then ob (qB base a r.1) fun s=>ob (RK C base k (.norm,s)) fin else none):=by
  rintro ⟨s,ds⟩
  have e1:un.all (Gl ds)=un.all (Ba ([]++ds.map X0)):=by
   congr 1
   funext p
   simp only [Gl,Ba,List.nil_append,List.getElem?_map]
   cases ds[p.1]? <;> cases ds[p.2]? <;> rfl
  simp only [tJ,e1]
  split
  · simp only [Jc]
  · rfl
 simp only [this]
theorem Y9 {zz:List AV} {z b:Nat} {s:WSt} {xe:Bool} (h:Pav.get s.env 0=some (.ro z [] xe)) (hz:zz.length=z) :
 CK C base fin k (.cln zz z b) s=NK C base fin k .ret ⟨[(2,.sl s.next z 0 0 0 true)],Pav.put s.heap s.next (.cells z [] true true),s.next+1⟩:=by
 unfold CK NK;rw [Z5,h];simp only [Option.bind,jV,hz,and_self,if_true,ob]
theorem Vt {zz:List AV} {z b:Nat} {s:WSt} (h:(Pav.get s.env 0).bind jV=none):CK C base fin k (.cln zz z b) s=CK C base fin k (RI zz z b) s:=by
 unfold CK;rw [Z5,h]
theorem ag4 (ex:Ex) (s:WSt):NK C base fin [] ex s=fin (ex,s):=rfl
theorem ai5 (b:aC) (s:WSt):NK C base fin (.sq b::k) .norm s=CK C base fin k b s:=by unfold NK CK;simp only [RK,eF,iT]
theorem RS (b:aC) (i:Nat) (s:WSt):NK C base fin (.sq b::k) (.exit i) s=NK C base fin k (.exit i) s:=by unfold NK;simp only [RK,eF,ob]
theorem XJ (b:aC) (s:WSt):NK C base fin (.sq b::k) .ret s=NK C base fin k .ret s:=by unfold NK;simp only [RK,eF,ob]
theorem QO (a:Ann) (b:aC) (i:Nat) (s:WSt):NK C base fin (.lp a b::k) (.exit i) s=NK C base fin k (.exit i) s:=by unfold NK;simp only [RK,eF,ob]
theorem WR (a:Ann) (b:aC) (s:WSt):NK C base fin (.lp a b::k) .ret s=NK C base fin k .ret s:=by unfold NK;simp only [RK,eF,ob]
theorem akr (id:Nat) (a:Ann) (s:WSt):NK C base fin (.bk id a::k) .norm s=AK C base fin k (canon base a s):=by unfold NK AK NK;simp only [RK,kF,iT,Jc]
theorem Rl (id:Nat) (a:Ann) (i:Nat) (s:WSt):NK C base fin (.bk id a::k) (.exit i) s=if i=id then AK C base fin k (canon base a s) else NK C base fin k (.exit i) s:=by
 unfold NK AK NK;simp only [RK,kF]
 split
 · simp only [iT,Jc]
 · rfl
theorem VP (id:Nat) (a:Ann) (s:WSt):NK C base fin (.bk id a::k) .ret s=NK C base fin k .ret s:=by unfold NK;simp only [RK,kF,ob]
theorem aes (s:WSt):AK C base fin k (some s)=NK C base fin k .norm s:=rfl
theorem aer (b:aC) (s:WSt):LK C base fin k b (some s)=CK C base fin k b s:=rfl
theorem Ub (a b:aC) (s:WSt):OU C base fin k a b s (.bool true)=CK C base fin k a s:=rfl
theorem Oj (a b:aC) (s:WSt):OU C base fin k a b s (.bool false)=CK C base fin k b s:=rfl
theorem QG (a b:aC) (s:WSt) (t:Bool):OU C base fin k a b s (.bool t)=if t=true then CK C base fin k a s else CK C base fin k b s:=rfl
variable {a:Ann} {l:List bg} {d:Option Nat} {e:Env} {h:aI} {n:Nat}
theorem ahJ (s:WSt):OK C base fin k a [] s=AK C base fin k (qB base a s):=rfl
theorem bK {op:COp} (hc:callOf e op=some none):OK C base fin k a (⟨d,none,op⟩::l) ⟨e,h,n⟩=SK C base fin k a l d e h (n+1) (stepW op e h n):=by
 unfold OK SK OK
 simp only [iJ,gy,wants,ji,hc]
 cases stepW op e h n <;> rfl
theorem adZ (v:AV) (u:dU):SK C base fin k a l d e h n (some (v,u))=OK C base fin k a l ⟨eH e d v,bP h u,n⟩:=rfl
theorem uN:∀ {e:Env} {g:Nat} {v:AV},get e g=some v→qN e g v=e:=by
 intro e
 induction e with
 | nil=>intro g v h;rfl
 | cons x e ih =>
  intro g v hg
  obtain ⟨j,u⟩:=x
  simp only [Pav.get] at hg
  simp only [qN]
  split at hg
  · rename_i hj;cases hg;rw [if_pos hj]
  · rename_i hj;rw [if_neg hj,ih hg]
theorem adB {op:COp} {g:Nat} {w b:Bool}:GK C base fin k a l d op g w e h n (some (.bool b))=if b=w then OK C base fin k a (⟨d,none,op⟩::l) ⟨qN e g (.bool w),h,n⟩ else OK C base fin k a l ⟨eH (qN e g (.bool (!w))) d (.tup []),h,n+1⟩:=rfl
theorem Nj {op:COp} {g:Nat}:GK C base fin k a l d op g true e h n (some (.bool true))=OK C base fin k a (⟨d,none,op⟩::l) ⟨qN e g (.bool true),h,n⟩:=rfl
theorem FM {op:COp} {g:Nat}:GK C base fin k a l d op g false e h n (some (.bool false))=OK C base fin k a (⟨d,none,op⟩::l) ⟨qN e g (.bool false),h,n⟩:=rfl
theorem Ic {op:COp} {g:Nat}:GK C base fin k a l d op g true e h n (some (.bool false))=OK C base fin k a l ⟨eH (qN e g (.bool false)) d (.tup []),h,n+1⟩:=rfl
theorem Ip {op:COp} {g:Nat}:GK C base fin k a l d op g false e h n (some (.bool true))=OK C base fin k a l ⟨eH (qN e g (.bool true)) d (.tup []),h,n+1⟩:=rfl
theorem agC {op:COp} {g:Nat} {w:Bool}:GK C base fin k a l d op g w e h n (some (.tup []))=OK C base fin k a l ⟨eH e d (.tup []),h,n+1⟩:=rfl
theorem abw {op:COp} {g:Nat} {w:Bool}:OK C base fin k a (⟨d,some (g,w),op⟩::l) ⟨e,h,n⟩=GK C base fin k a l d op g w e h n (get e g):=by
 unfold OK GK
 simp only [iJ,gy,wants]
 cases hg:get e g with
 | none=>rfl
 | some v =>
  cases v with
  | bool b =>
   simp only
   by_cases hw:b=w
   · subst hw
     rw [uN hg,if_pos rfl]
     simp only [OK,iJ,gy,wants,beq_self_eq_true]
   · have e1:(b == w)=false:=by simpa using hw
     have e2:(!w)=b:=by cases b <;> cases w <;> simp_all
     rw [if_neg hw,e2,uN hg]
     simp only [e1,ob,OK]
  | tup vs =>
   cases vs with
   | nil=>rfl
   | cons _ _=>rfl
  | _=>rfl
theorem acP {args:List AV} (v:AV):VK C base fin k a l d e h n args (some v)=OK C base fin k a l ⟨eH e d v,bP h (oN h args v),n⟩:=rfl
theorem acY (r:AV × aI × Nat):WK C base fin k a l d e (some r)=OK C base fin k a l ⟨eH e d r.1,r.2.1,r.2.2⟩:=rfl
theorem acH {f:Nat} {args:List AV} (az:List AV):PK C base fin k a l d e h n f args (some az)=VK C base fin k a l d e h n args (FnW C f az):=rfl
theorem ac1 {f:Nat} {args:List AV}:FK C base fin k a l d e h n f args false false=PK C base fin k a l d e h n f args (aX (bD h aF) args):=rfl
theorem ahI {f:Nat} {args:List AV} {p:Bool}:FK C base fin k a l d e h n f args true p=IK C base fin k a l d e h n f args (KQ f):=rfl
theorem aaC {f:Nat} {args:List AV}:IK C base fin k a l d e h n f args false=WK C base fin k a l d e (RnW C f args h n):=rfl
theorem acV {f:Nat} {args:List AV}:IK C base fin k a l d e h n f args true=FPK C base fin k a l d e h n f args (aX (bD h aF) args):=rfl
theorem Zz {f:Nat} {args:List AV} (az:List AV):FPK C base fin k a l d e h (n+1) f args (some az)=TK C base fin k a l d e h (n+1) f args az (sH f):=rfl
theorem abX {f:Nat} {args az:List AV}:TK C base fin k a l d e h (n+1) f args az false=FSK C base fin k a l d e h (n+1) (rW f) args (eP (RnW C) f az n):=rfl
theorem ad9 {f:Nat} {args az:List AV}:TK C base fin k a l d e h n f args az true=HK C base fin k a l d e h n args (RnW C f az [] n):=rfl
theorem aeP {args:List AV} (r:AV × aI × Nat):HK C base fin k a l d e h n args (some r)=OK C base fin k a l ⟨eH e d r.1,over n r.2.1 (bP h (aW h (args.flatMap (aT h aF)))),r.2.2⟩:=rfl
theorem Zd (v:AV) (u:dU):BSK C base fin k a l d e h n v u true=OK C base fin k a l ⟨eH e d v,bP h u,n⟩:=rfl
theorem YX {args:List AV} (v:AV) (u:dU):FSK C base fin k a l d e h n true args (some (v,u))=BSK C base fin k a l d e h n v u (mV (v,u)):=rfl
theorem ZK {args:List AV} (v:AV) (u:dU):FSK C base fin k a l d e h n false args (some (v,u))=OK C base fin k a l ⟨eH e d v,bP h (aW h (args.flatMap (aT h aF))++u),n⟩:=rfl
theorem agq {f:Nat} {args:List AV}:FK C base fin k a l d e h n f args false true=WK C base fin k a l d e (RnW C f args h n):=rfl
theorem ako {f:Nat} {args caps:List AV}:QK C base fin k a l d e h n args (.fn f caps)=FK C base fin k a l d e h n f (args++caps) (C.inl f) (!C.pp f&&bT (args++caps)):=rfl
theorem afi {f:Nat} {args:List AV}:(ob (om (jf C (RnW C) f args h (n - 1) n) (jd h n args)) fun r=>OK C base fin k a l ⟨eH e d r.v,r.h,r.n⟩)=FK C base fin k a l d e h n f args (C.inl f) (!C.pp f&&bT args):=by
 unfold FK jf IK FPK TK HK FSK WK PK VK FnW
 split
 · split
   · cases aX (bD h aF) args with
     | none=>rfl
     | some az =>
      simp only [ob]
      by_cases hdp:sH f=true
      · simp only [if_pos hdp]
        cases RnW C f az [] n <;> rfl
      simp only [if_neg hdp]
      cases eP (RnW C) f az (n - 1) with
      | none=>rfl
      | some x =>
       simp only [ob]
       unfold wP vW BSK
       cases rW f
       · rfl
       · cases mV x <;> rfl
   · cases RnW C f args h n <;> rfl
 · split
   · cases RnW C f args h n <;> rfl
   · cases aX (bD h aF) args with
     | none=>rfl
     | some az =>
      simp only [ob]
      cases jg (RnW C) f az <;> rfl
theorem acE {f:Nat} {xs:List Opd}:OK C base fin k a (⟨d,none,.call f xs⟩::l) ⟨e,h,n⟩=FK C base fin k a l d e h (n+1) f (xs.map fun x=>x.ev e) (C.inl f) (!C.pp f&&bT (xs.map fun x=>x.ev e)):=by
 rw [← afi]
 unfold OK
 simp only [iJ,gy,wants,ji,callOf,iT,Nat.add_sub_cancel]
theorem Yw {g:Opd} {xs:List Opd}:OK C base fin k a (⟨d,none,.dW g xs⟩::l) ⟨e,h,n⟩=QK C base fin k a l d e h (n+1) (xs.map fun x=>x.ev e) (g.ev e):=by
 unfold QK
 cases hg:g.ev e with
 | fn f caps =>
  simp only
  rw [← afi]
  unfold OK
  simp only [iJ,gy,wants,ji,callOf,hg,iT,Nat.add_sub_cancel]
 | _ =>
  unfold OK
  simp only [iJ,gy,wants,ji,callOf,hg]
  rfl
variable {un:List (Nat × Nat)} {nid:Nat} {ds:List RW}
theorem PL {r:wU}:∀ (l:List bg) (nid:Nat) (s:WSt) (ds:List kC),eY C r l nid s ds=om (eY C r l nid s []) fun x=>(x.1,ds++x.2):=by
 intro l
 induction l with
 | nil=>intro nid s ds;simp [eY,om]
 | cons o l ih =>
  intro nid s ds
  simp only [eY]
  cases gy C r o nid s.env s.heap s.next with
  | none=>rfl
  | some d =>
   simp only [ob]
   rw [ih,ih _ _ ([]++[d])]
   cases eY C r l (nid+1) _ [] <;> simp [om]
theorem ah8 (s:WSt):DK C base fin k a un [] nid s ds=EK C base fin k a s (un.all (Ba ds)):=by
 unfold DK;simp only [eY,ob,List.map_nil,List.append_nil]
theorem ae1 (s:WSt):EK C base fin k a s true=AK C base fin k (qB base a s):=rfl
theorem lY {o:bg} {s:WSt}:DK C base fin k a un (o::l) nid s ds=ob (gy C (RnW C) o nid s.env s.heap s.next) fun x=>DK C base fin k a un l (nid+1) ⟨eH s.env o.dst x.v,x.h,x.n⟩ (ds++[X0 x]):=by
 unfold DK
 simp only [eY,iT]
 congr 1
 funext x
 rw [PL]
 simp only [Jc,List.nil_append,List.map_append,List.map_cons,List.map_nil,List.append_assoc]
theorem bM {op:COp} (hc:callOf e op=some none):DK C base fin k a un (⟨d,none,op⟩::l) nid ⟨e,h,n⟩ ds=DSK C base fin k a un l (nid+1) d e h n ds (readsOf e op) (stepW op e h nid):=by
 rw [lY]
 unfold DSK
 simp only [gy,wants,ji,hc,Jc]
 rfl
theorem YB {rd:List Nat} (v:AV) (u:dU):DSK C base fin k a un l nid d e h n ds rd (some (v,u))=DK C base fin k a un l nid ⟨eH e d v,bP h u,n⟩ (ds++[(false,rd,u.map (·.1))]):=rfl
theorem abR {op:COp} {g:Nat} {w b:Bool}:DGK C base fin k a un l nid d op g w e h n ds (some (.bool b))=if b=w then DK C base fin k a un (⟨d,none,op⟩::l) nid ⟨qN e g (.bool w),h,n⟩ ds else DK C base fin k a un l (nid+1) ⟨eH (qN e g (.bool (!w))) d (.tup []),h,n⟩ (ds++[(false,[],[])]):=rfl
theorem Ij {op:COp} {g:Nat}:DGK C base fin k a un l nid d op g true e h n ds (some (.bool true))=DK C base fin k a un (⟨d,none,op⟩::l) nid ⟨qN e g (.bool true),h,n⟩ ds:=rfl
theorem Dc {op:COp} {g:Nat}:DGK C base fin k a un l nid d op g false e h n ds (some (.bool false))=DK C base fin k a un (⟨d,none,op⟩::l) nid ⟨qN e g (.bool false),h,n⟩ ds:=rfl
theorem FX {op:COp} {g:Nat}:DGK C base fin k a un l nid d op g true e h n ds (some (.bool false))=DK C base fin k a un l (nid+1) ⟨eH (qN e g (.bool false)) d (.tup []),h,n⟩ (ds++[(false,[],[])]):=rfl
theorem FU {op:COp} {g:Nat}:DGK C base fin k a un l nid d op g false e h n ds (some (.bool true))=DK C base fin k a un l (nid+1) ⟨eH (qN e g (.bool true)) d (.tup []),h,n⟩ (ds++[(false,[],[])]):=rfl
theorem adt {op:COp} {g:Nat} {w:Bool}:DGK C base fin k a un l nid d op g w e h n ds (some (.tup []))=DK C base fin k a un l (nid+1) ⟨eH e d (.tup []),h,n⟩ (ds++[(false,[],[])]):=rfl
theorem aaV {op:COp} {g:Nat} {w:Bool}:DK C base fin k a un (⟨d,some (g,w),op⟩::l) nid ⟨e,h,n⟩ ds=DGK C base fin k a un l nid d op g w e h n ds (get e g):=by
 unfold DGK
 cases hg:get e g with
 | none=>rw [lY];simp only [gy,wants,hg];rfl
 | some v =>
  cases v with
  | bool b =>
   simp only
   by_cases hw:b=w
   · subst hw
     rw [uN hg,if_pos rfl,lY,lY]
     simp only [gy,wants,hg,beq_self_eq_true]
   · have e1:(b == w)=false:=by simpa using hw
     have e2:(!w)=b:=by cases b <;> cases w <;> simp_all
     rw [if_neg hw,e2,uN hg,lY]
     simp only [gy,wants,hg,e1,ob,X0]
  | tup vs =>
   cases vs with
   | nil=>rw [lY];simp only [gy,wants,hg];rfl
   | cons _ _=>rw [lY];simp only [gy,wants,hg];rfl
  | _=>rw [lY];simp only [gy,wants,hg];rfl
theorem aaM {args:List AV} (v:AV):DVK C base fin k a un l nid d e h n ds args (some v)=DK C base fin k a un l nid ⟨eH e d v,bP h (oN h args v),n⟩ (ds++[(false,args.flatMap (aT h aF),(oN h args v).map (·.1))]):=rfl
theorem abn (r:AV × aI × Nat):DWK C base fin k a un l nid d e ds (some r)=DK C base fin k a un l nid ⟨eH e d r.1,r.2.1,r.2.2⟩ (ds++[(true,[],[])]):=rfl
theorem aaE {f:Nat} {args:List AV} (az:List AV):DPK C base fin k a un l nid d e h n ds f args (some az)=DVK C base fin k a un l nid d e h n ds args (FnW C f az):=rfl
theorem Yo {f:Nat} {args:List AV}:DFK C base fin k a un l nid d e h n ds f args false false=DPK C base fin k a un l nid d e h n ds f args (aX (bD h aF) args):=rfl
theorem aeb {f:Nat} {args:List AV} {p:Bool}:DFK C base fin k a un l nid d e h n ds f args true p=DIK C base fin k a un l nid d e h n ds f args (KQ f):=rfl
theorem XL {f:Nat} {args:List AV}:DIK C base fin k a un l nid d e h n ds f args false=DWK C base fin k a un l nid d e ds (RnW C f args h n):=rfl
theorem aav {f:Nat} {args:List AV}:DIK C base fin k a un l nid d e h n ds f args true=adf C base fin k a un l nid d e h n ds f args (aX (bD h aF) args):=rfl
theorem Xg {f:Nat} {args:List AV} (az:List AV):adf C base fin k a un l nid d e h n ds f args (some az)=DTK C base fin k a un l nid d e h n ds f args az (sH f):=rfl
theorem Xk {f:Nat} {args az:List AV}:DTK C base fin k a un l nid d e h n ds f args az false=aax C base fin k a un l nid d e h n ds (rW f) args (eP (RnW C) f az (nid - 1)):=rfl
theorem abp {f:Nat} {args az:List AV}:DTK C base fin k a un l nid d e h n ds f args az true=DHK C base fin k a un l nid d e h n ds args (RnW C f az [] n):=rfl
theorem aac {args:List AV} (r:AV × aI × Nat):DHK C base fin k a un l nid d e h n ds args (some r)=DK C base fin k a un l nid ⟨eH e d r.1,over n r.2.1 (bP h (aW h (args.flatMap (aT h aF)))),r.2.2⟩ (ds++[(true,args.flatMap (aT h aF),n::(aW h (args.flatMap (aT h aF))).map (·.1))]):=rfl
theorem V4 {args:List AV} (v:AV) (u:dU):acL C base fin k a un l nid d e h n ds args v u true=DK C base fin k a un l nid ⟨eH e d v,bP h u,n⟩ (ds++[(false,args.flatMap (aT h aF),u.map (·.1))]):=rfl
theorem Xq {args:List AV} (v:AV) (u:dU):aax C base fin k a un l nid d e h n ds true args (some (v,u))=acL C base fin k a un l nid d e h n ds args v u (mV (v,u)):=rfl
theorem XE {args:List AV} (v:AV) (u:dU):aax C base fin k a un l nid d e h n ds false args (some (v,u))=DK C base fin k a un l nid ⟨eH e d v,bP h (aW h (args.flatMap (aT h aF))++u),n⟩ (ds++[(false,args.flatMap (aT h aF),(aW h (args.flatMap (aT h aF))++u).map (·.1))]):=rfl
theorem aeg {f:Nat} {args:List AV}:DFK C base fin k a un l nid d e h n ds f args false true=DWK C base fin k a un l nid d e ds (RnW C f args h n):=rfl
theorem ahr {f:Nat} {args caps:List AV}:DQK C base fin k a un l nid d e h n ds args (.fn f caps)=DFK C base fin k a un l nid d e h n ds f (args++caps) (C.inl f) (!C.pp f&&bT (args++caps)):=rfl
theorem aaK {f:Nat} {args:List AV}:(ob (om (jf C (RnW C) f args h (nid - 1) n) (jd h n args)) fun r=>DK C base fin k a un l nid ⟨eH e d r.v,r.h,r.n⟩ (ds++[X0 r]))=DFK C base fin k a un l nid d e h n ds f args (C.inl f) (!C.pp f&&bT args):=by
 unfold DFK jf DIK adf DTK DHK aax DWK DPK DVK FnW
 split
 · split
   · cases aX (bD h aF) args with
     | none=>rfl
     | some az =>
      simp only [ob]
      by_cases hdp:sH f=true
      · simp only [if_pos hdp]
        cases RnW C f az [] n <;> rfl
      simp only [if_neg hdp]
      cases eP (RnW C) f az (nid - 1) with
      | none=>rfl
      | some x =>
       simp only [ob]
       unfold wP vW acL
       cases rW f
       · rfl
       · cases mV x <;> rfl
   · cases RnW C f args h n <;> rfl
 · split
   · cases RnW C f args h n <;> rfl
   · cases aX (bD h aF) args with
     | none=>rfl
     | some az =>
      simp only [ob]
      cases jg (RnW C) f az <;> rfl
theorem ad8 {f:Nat} {xs:List Opd}:DK C base fin k a un (⟨d,none,.call f xs⟩::l) nid ⟨e,h,n⟩ ds=DFK C base fin k a un l (nid+1) d e h n ds f (xs.map fun x=>x.ev e) (C.inl f) (!C.pp f&&bT (xs.map fun x=>x.ev e)):=by
 rw [← aaK,lY]
 simp only [gy,wants,ji,callOf,Nat.add_sub_cancel]
theorem Yr {g:Opd} {xs:List Opd}:DK C base fin k a un (⟨d,none,.dW g xs⟩::l) nid ⟨e,h,n⟩ ds=DQK C base fin k a un l (nid+1) d e h n ds (xs.map fun x=>x.ev e) (g.ev e):=by
 unfold DQK
 rw [lY]
 cases hg:g.ev e with
 | fn f caps =>
  simp only
  rw [← aaK]
  simp only [gy,wants,ji,callOf,hg,Nat.add_sub_cancel]
 | _ =>
  simp only [gy,wants,ji,callOf,hg]
  rfl
theorem aO {f:Nat} {fn:WFn} (hf:C.fns.get f=some fn) {args:List AV} (hl:args.length=fn.np):FnW C f args=CK C 0 (aP fn.res) [] fn.body ⟨Dj 0 args [],[],0⟩:=by
 unfold FnW jg RnW fE CK aP
 rw [hf]
 simp only [ob,if_pos hl,RK]
 cases CdW C 0 fn.body ⟨Dj 0 args [],[],0⟩ with
 | none=>rfl
 | some r=>rfl
theorem jR {f:Nat} {fn:WFn} (hf:C.fns.get f=some fn) {args:List AV} (hl:args.length=fn.np) (h:aI) (n:Nat):RnW C f args h n=CK C n (iR fn.res) [] fn.body ⟨Dj 0 args [],h,n⟩:=by
 unfold RnW fE CK
 rw [hf]
 simp only [ob,if_pos hl,RK]
end
end Go.Pw
end
section
set_option linter.unusedSimpArgs false
set_option linter.unusedVariables false
namespace Go.Pw
open Go Go.Pav
attribute [simp] ahF acw aeZ ahR aed abz ahz aeM ag4 ai5 RS XJ QO WR akr Rl VP aes aer
 ahJ adZ agC abw acP acY acH ac1 ahI agq ako acE Yw ah8 ae1 YB adt aaV aaM abn aaE Yo aeb aeg ahr ad8 Yr aaC acV Zz ZK YX Zd Xq V4 rW mV RJ gK mZ XL aav Xg XE KQ sH abX ad9 aeP Xk abp aac
attribute [simp high] Ub Oj Nj FM Ic Ip Ij Dc FX FU
attribute [simp low] QG adB abR
section
variable {β:Type} {C:aJ} {base:Nat} {fin:Ex × WSt→Option β} {k:List Frame} {a:Ann} {l:List bg} {d:Option Nat} {e:Env} {h:aI} {n:Nat} {un:List (Nat × Nat)} {nid:Nat} {ds:List RW}
@[simp] theorem aps {x:Opd}:OK C base fin k a (⟨d,none,.mv x⟩::l) ⟨e,h,n⟩=OK C base fin k a l ⟨eH e d (x.ev e),h,n+1⟩:=by rw [bK rfl];rfl
@[simp] theorem alv {c x y:Opd}:OK C base fin k a (⟨d,none,.pick c x y⟩::l) ⟨e,h,n⟩=SK C base fin k a l d e h (n+1) (stepW (.pick c x y) e h n):=bK rfl
@[simp] theorem ajS {z:List AV}:OK C base fin k a (⟨d,none,.alloc z⟩::l) ⟨e,h,n⟩=SK C base fin k a l d e h (n+1) (stepW (.alloc z) e h n):=bK rfl
@[simp] theorem am4 {x:Opd}:OK C base fin k a (⟨d,none,.box x⟩::l) ⟨e,h,n⟩=SK C base fin k a l d e h (n+1) (stepW (.box x) e h n):=bK rfl
@[simp] theorem ajd {z:List AV} {ps:List (Nat × Nat × Opd)}:OK C base fin k a (⟨d,none,.build z ps⟩::l) ⟨e,h,n⟩=SK C base fin k a l d e h (n+1) (stepW (.build z ps) e h n):=bK rfl
@[simp] theorem aix {z:List AV} {m:Nat} {ps:List (Nat × Opd)}:OK C base fin k a (⟨d,none,.aZ z m ps⟩::l) ⟨e,h,n⟩=SK C base fin k a l d e h (n+1) (stepW (.aZ z m ps) e h n):=bK rfl
@[simp] theorem akD {m:Nat} {ag:Bool} {x:Opd}:OK C base fin k a (⟨d,none,.load m ag x⟩::l) ⟨e,h,n⟩=SK C base fin k a l d e h (n+1) (stepW (.load m ag x) e h n):=bK rfl
@[simp] theorem ajC {m:Nat} {x y:Opd}:OK C base fin k a (⟨d,none,.store m x y⟩::l) ⟨e,h,n⟩=SK C base fin k a l d e h (n+1) (stepW (.store m x y) e h n):=bK rfl
@[simp] theorem aiS {x:Opd}:OK C base fin k a (⟨d,none,.jo x⟩::l) ⟨e,h,n⟩=SK C base fin k a l d e h (n+1) (stepW (.jo x) e h n):=bK rfl
@[simp] theorem aoY {op:BinOp} {x y:Opd}:OK C base fin k a (⟨d,none,.bin op x y⟩::l) ⟨e,h,n⟩=SK C base fin k a l d e h (n+1) (stepW (.bin op x y) e h n):=bK rfl
@[simp] theorem am1 {kd:Nat} {ks:List Nat} {ne:Bool} {x y:Opd}:OK C base fin k a (⟨d,none,.eqv kd ks ne x y⟩::l) ⟨e,h,n⟩=SK C base fin k a l d e h (n+1) (stepW (.eqv kd ks ne x y) e h n):=bK rfl
@[simp] theorem apo {op:UnOp} {x:Opd}:OK C base fin k a (⟨d,none,.un op x⟩::l) ⟨e,h,n⟩=SK C base fin k a l d e h (n+1) (stepW (.un op x) e h n):=bK rfl
@[simp] theorem amK {kk:IntKind} {x:Opd}:OK C base fin k a (⟨d,none,.cvt kk x⟩::l) ⟨e,h,n⟩=SK C base fin k a l d e h (n+1) (stepW (.cvt kk x) e h n):=bK rfl
@[simp] theorem an4 {x:Opd}:OK C base fin k a (⟨d,none,.cvs x⟩::l) ⟨e,h,n⟩=SK C base fin k a l d e h (n+1) (stepW (.cvs x) e h n):=bK rfl
@[simp] theorem anR {x:Opd}:OK C base fin k a (⟨d,none,.cvb x⟩::l) ⟨e,h,n⟩=SK C base fin k a l d e h (n+1) (stepW (.cvb x) e h n):=bK rfl
@[simp] theorem alL {f:Nat} {xs:List Opd}:OK C base fin k a (⟨d,none,.kX f xs⟩::l) ⟨e,h,n⟩=SK C base fin k a l d e h (n+1) (stepW (.kX f xs) e h n):=bK rfl
@[simp] theorem ajY:OK C base fin k a (⟨d,none,.jX⟩::l) ⟨e,h,n⟩=SK C base fin k a l d e h (n+1) (stepW .jX e h n):=bK rfl
@[simp] theorem ak5 {z:List AV} {b:Nat} {x y:Opd}:OK C base fin k a (⟨d,none,.mD z b x y⟩::l) ⟨e,h,n⟩=SK C base fin k a l d e h (n+1) (stepW (.mD z b x y) e h n):=bK rfl
@[simp] theorem ok_slice {z:Nat} {x:Opd} {lo hi mx:Option Opd}:OK C base fin k a (⟨d,none,.slice z x lo hi mx⟩::l) ⟨e,h,n⟩=SK C base fin k a l d e h (n+1) (stepW (.slice z x lo hi mx) e h n):=bK rfl
@[simp] theorem aiF {z:Nat} {x:Opd} {lo hi:Option Opd}:OK C base fin k a (⟨d,none,.fV z x lo hi⟩::l) ⟨e,h,n⟩=SK C base fin k a l d e h (n+1) (stepW (.fV z x lo hi) e h n):=bK rfl
@[simp] theorem aod {o:Nat} {x:Opd}:OK C base fin k a (⟨d,none,.fld o x⟩::l) ⟨e,h,n⟩=SK C base fin k a l d e h (n+1) (stepW (.fld o x) e h n):=bK rfl
@[simp] theorem akR {o m:Nat} {ag:Bool} {x:Opd}:OK C base fin k a (⟨d,none,.xG o m ag x⟩::l) ⟨e,h,n⟩=SK C base fin k a l d e h (n+1) (stepW (.xG o m ag x) e h n):=bK rfl
@[simp] theorem akL {z:Nat} {x y:Opd}:OK C base fin k a (⟨d,none,.idxs z x y⟩::l) ⟨e,h,n⟩=SK C base fin k a l d e h (n+1) (stepW (.idxs z x y) e h n):=bK rfl
@[simp] theorem akK {m z:Nat} {x y:Opd}:OK C base fin k a (⟨d,none,.kV m z x y⟩::l) ⟨e,h,n⟩=SK C base fin k a l d e h (n+1) (stepW (.kV m z x y) e h n):=bK rfl
@[simp] theorem aiU {x y:Opd}:OK C base fin k a (⟨d,none,.dZ x y⟩::l) ⟨e,h,n⟩=SK C base fin k a l d e h (n+1) (stepW (.dZ x y) e h n):=bK rfl
@[simp] theorem alx {m z:Nat} {ag:Bool} {x y:Opd}:OK C base fin k a (⟨d,none,.wR m z ag x y⟩::l) ⟨e,h,n⟩=SK C base fin k a l d e h (n+1) (stepW (.wR m z ag x y) e h n):=bK rfl
@[simp] theorem alh {kd:Nat} {z:AV} {ok:Bool} {x y:Opd}:OK C base fin k a (⟨d,none,.look kd z ok x y⟩::l) ⟨e,h,n⟩=SK C base fin k a l d e h (n+1) (stepW (.look kd z ok x y) e h n):=bK rfl
@[simp] theorem anN {kd:Nat} {x y z:Opd}:OK C base fin k a (⟨d,none,.upd kd x y z⟩::l) ⟨e,h,n⟩=SK C base fin k a l d e h (n+1) (stepW (.upd kd x y z) e h n):=bK rfl
@[simp] theorem ake {x:Opd}:OK C base fin k a (⟨d,none,.range x⟩::l) ⟨e,h,n⟩=SK C base fin k a l d e h (n+1) (stepW (.range x) e h n):=bK rfl
@[simp] theorem akJ {x:Opd}:OK C base fin k a (⟨d,none,.next x⟩::l) ⟨e,h,n⟩=SK C base fin k a l d e h (n+1) (stepW (.next x) e h n):=bK rfl
@[simp] theorem anV {i:Nat} {x:Opd}:OK C base fin k a (⟨d,none,.ext i x⟩::l) ⟨e,h,n⟩=SK C base fin k a l d e h (n+1) (stepW (.ext i x) e h n):=bK rfl
@[simp] theorem ams {kd:Nat} {x:Opd}:OK C base fin k a (⟨d,none,.len kd x⟩::l) ⟨e,h,n⟩=SK C base fin k a l d e h (n+1) (stepW (.len kd x) e h n):=bK rfl
@[simp] theorem ani {x:Opd}:OK C base fin k a (⟨d,none,.cap x⟩::l) ⟨e,h,n⟩=SK C base fin k a l d e h (n+1) (stepW (.cap x) e h n):=bK rfl
@[simp] theorem amP {z:List AV} {b:Nat} {zs:Bool} {x y:Opd}:OK C base fin k a (⟨d,none,.app z b zs x y⟩::l) ⟨e,h,n⟩=SK C base fin k a l d e h (n+1) (stepW (.app z b zs x y) e h n):=bK rfl
@[simp] theorem anO {z:Nat} {x y:Opd}:OK C base fin k a (⟨d,none,.cpy z x y⟩::l) ⟨e,h,n⟩=SK C base fin k a l d e h (n+1) (stepW (.cpy z x y) e h n):=bK rfl
@[simp] theorem am3 {z:List AV} {x:Opd}:OK C base fin k a (⟨d,none,.clr z x⟩::l) ⟨e,h,n⟩=SK C base fin k a l d e h (n+1) (stepW (.clr z x) e h n):=bK rfl
@[simp] theorem apm {x y:Opd}:OK C base fin k a (⟨d,none,.mx x y⟩::l) ⟨e,h,n⟩=SK C base fin k a l d e h (n+1) (stepW (.mx x y) e h n):=bK rfl
@[simp] theorem apl {x y:Opd}:OK C base fin k a (⟨d,none,.mn x y⟩::l) ⟨e,h,n⟩=SK C base fin k a l d e h (n+1) (stepW (.mn x y) e h n):=bK rfl
@[simp] theorem apk {x:Opd}:DK C base fin k a un (⟨d,none,.mv x⟩::l) nid ⟨e,h,n⟩ ds=DSK C base fin k a un l (nid+1) d e h n ds (readsOf e (.mv x)) (stepW (.mv x) e h nid):=bM rfl
@[simp] theorem akP {c x y:Opd}:DK C base fin k a un (⟨d,none,.pick c x y⟩::l) nid ⟨e,h,n⟩ ds=DSK C base fin k a un l (nid+1) d e h n ds (readsOf e (.pick c x y)) (stepW (.pick c x y) e h nid):=bM rfl
@[simp] theorem ajZ {z:List AV}:DK C base fin k a un (⟨d,none,.alloc z⟩::l) nid ⟨e,h,n⟩ ds=DSK C base fin k a un l (nid+1) d e h n ds (readsOf e (.alloc z)) (stepW (.alloc z) e h nid):=bM rfl
@[simp] theorem aoS {x:Opd}:DK C base fin k a un (⟨d,none,.box x⟩::l) nid ⟨e,h,n⟩ ds=DSK C base fin k a un l (nid+1) d e h n ds (readsOf e (.box x)) (stepW (.box x) e h nid):=bM rfl
@[simp] theorem ajz {z:List AV} {ps:List (Nat × Nat × Opd)}:DK C base fin k a un (⟨d,none,.build z ps⟩::l) nid ⟨e,h,n⟩ ds=DSK C base fin k a un l (nid+1) d e h n ds (readsOf e (.build z ps)) (stepW (.build z ps) e h nid):=bM rfl
@[simp] theorem aiE {z:List AV} {m:Nat} {ps:List (Nat × Opd)}:DK C base fin k a un (⟨d,none,.aZ z m ps⟩::l) nid ⟨e,h,n⟩ ds=DSK C base fin k a un l (nid+1) d e h n ds (readsOf e (.aZ z m ps)) (stepW (.aZ z m ps) e h nid):=bM rfl
@[simp] theorem al0 {m:Nat} {ag:Bool} {x:Opd}:DK C base fin k a un (⟨d,none,.load m ag x⟩::l) nid ⟨e,h,n⟩ ds=DSK C base fin k a un l (nid+1) d e h n ds (readsOf e (.load m ag x)) (stepW (.load m ag x) e h nid):=bM rfl
@[simp] theorem ajk {m:Nat} {x y:Opd}:DK C base fin k a un (⟨d,none,.store m x y⟩::l) nid ⟨e,h,n⟩ ds=DSK C base fin k a un l (nid+1) d e h n ds (readsOf e (.store m x y)) (stepW (.store m x y) e h nid):=bM rfl
@[simp] theorem aiK {x:Opd}:DK C base fin k a un (⟨d,none,.jo x⟩::l) nid ⟨e,h,n⟩ ds=DSK C base fin k a un l (nid+1) d e h n ds (readsOf e (.jo x)) (stepW (.jo x) e h nid):=bM rfl
@[simp] theorem aon {op:BinOp} {x y:Opd}:DK C base fin k a un (⟨d,none,.bin op x y⟩::l) nid ⟨e,h,n⟩ ds=DSK C base fin k a un l (nid+1) d e h n ds (readsOf e (.bin op x y)) (stepW (.bin op x y) e h nid):=bM rfl
@[simp] theorem amB {kd:Nat} {ks:List Nat} {ne:Bool} {x y:Opd}:DK C base fin k a un (⟨d,none,.eqv kd ks ne x y⟩::l) nid ⟨e,h,n⟩ ds=DSK C base fin k a un l (nid+1) d e h n ds (readsOf e (.eqv kd ks ne x y)) (stepW (.eqv kd ks ne x y) e h nid):=bM rfl
@[simp] theorem apq {op:UnOp} {x:Opd}:DK C base fin k a un (⟨d,none,.un op x⟩::l) nid ⟨e,h,n⟩ ds=DSK C base fin k a un l (nid+1) d e h n ds (readsOf e (.un op x)) (stepW (.un op x) e h nid):=bM rfl
@[simp] theorem aof {kk:IntKind} {x:Opd}:DK C base fin k a un (⟨d,none,.cvt kk x⟩::l) nid ⟨e,h,n⟩ ds=DSK C base fin k a un l (nid+1) d e h n ds (readsOf e (.cvt kk x)) (stepW (.cvt kk x) e h nid):=bM rfl
@[simp] theorem aoN {x:Opd}:DK C base fin k a un (⟨d,none,.cvs x⟩::l) nid ⟨e,h,n⟩ ds=DSK C base fin k a un l (nid+1) d e h n ds (readsOf e (.cvs x)) (stepW (.cvs x) e h nid):=bM rfl
@[simp] theorem anL {x:Opd}:DK C base fin k a un (⟨d,none,.cvb x⟩::l) nid ⟨e,h,n⟩ ds=DSK C base fin k a un l (nid+1) d e h n ds (readsOf e (.cvb x)) (stepW (.cvb x) e h nid):=bM rfl
@[simp] theorem al2 {f:Nat} {xs:List Opd}:DK C base fin k a un (⟨d,none,.kX f xs⟩::l) nid ⟨e,h,n⟩ ds=DSK C base fin k a un l (nid+1) d e h n ds (readsOf e (.kX f xs)) (stepW (.kX f xs) e h nid):=bM rfl
@[simp] theorem ajN:DK C base fin k a un (⟨d,none,.jX⟩::l) nid ⟨e,h,n⟩ ds=DSK C base fin k a un l (nid+1) d e h n ds (readsOf e (.jX)) (stepW (.jX) e h nid):=bM rfl
@[simp] theorem alM {z:List AV} {b:Nat} {x y:Opd}:DK C base fin k a un (⟨d,none,.mD z b x y⟩::l) nid ⟨e,h,n⟩ ds=DSK C base fin k a un l (nid+1) d e h n ds (readsOf e (.mD z b x y)) (stepW (.mD z b x y) e h nid):=bM rfl
@[simp] theorem aiZ {z:Nat} {x:Opd} {lo hi mx:Option Opd}:DK C base fin k a un (⟨d,none,.slice z x lo hi mx⟩::l) nid ⟨e,h,n⟩ ds=DSK C base fin k a un l (nid+1) d e h n ds (readsOf e (.slice z x lo hi mx)) (stepW (.slice z x lo hi mx) e h nid):=bM rfl
@[simp] theorem aiI {z:Nat} {x:Opd} {lo hi:Option Opd}:DK C base fin k a un (⟨d,none,.fV z x lo hi⟩::l) nid ⟨e,h,n⟩ ds=DSK C base fin k a un l (nid+1) d e h n ds (readsOf e (.fV z x lo hi)) (stepW (.fV z x lo hi) e h nid):=bM rfl
@[simp] theorem amI {o:Nat} {x:Opd}:DK C base fin k a un (⟨d,none,.fld o x⟩::l) nid ⟨e,h,n⟩ ds=DSK C base fin k a un l (nid+1) d e h n ds (readsOf e (.fld o x)) (stepW (.fld o x) e h nid):=bM rfl
@[simp] theorem ami {o m:Nat} {ag:Bool} {x:Opd}:DK C base fin k a un (⟨d,none,.xG o m ag x⟩::l) nid ⟨e,h,n⟩ ds=DSK C base fin k a un l (nid+1) d e h n ds (readsOf e (.xG o m ag x)) (stepW (.xG o m ag x) e h nid):=bM rfl
@[simp] theorem aln {z:Nat} {x y:Opd}:DK C base fin k a un (⟨d,none,.idxs z x y⟩::l) nid ⟨e,h,n⟩ ds=DSK C base fin k a un l (nid+1) d e h n ds (readsOf e (.idxs z x y)) (stepW (.idxs z x y) e h nid):=bM rfl
@[simp] theorem alD {m z:Nat} {x y:Opd}:DK C base fin k a un (⟨d,none,.kV m z x y⟩::l) nid ⟨e,h,n⟩ ds=DSK C base fin k a un l (nid+1) d e h n ds (readsOf e (.kV m z x y)) (stepW (.kV m z x y) e h nid):=bM rfl
@[simp] theorem aiA {x y:Opd}:DK C base fin k a un (⟨d,none,.dZ x y⟩::l) nid ⟨e,h,n⟩ ds=DSK C base fin k a un l (nid+1) d e h n ds (readsOf e (.dZ x y)) (stepW (.dZ x y) e h nid):=bM rfl
@[simp] theorem akN {m z:Nat} {ag:Bool} {x y:Opd}:DK C base fin k a un (⟨d,none,.wR m z ag x y⟩::l) nid ⟨e,h,n⟩ ds=DSK C base fin k a un l (nid+1) d e h n ds (readsOf e (.wR m z ag x y)) (stepW (.wR m z ag x y) e h nid):=bM rfl
@[simp] theorem akO {kd:Nat} {z:AV} {ok:Bool} {x y:Opd}:DK C base fin k a un (⟨d,none,.look kd z ok x y⟩::l) nid ⟨e,h,n⟩ ds=DSK C base fin k a un l (nid+1) d e h n ds (readsOf e (.look kd z ok x y)) (stepW (.look kd z ok x y) e h nid):=bM rfl
@[simp] theorem ao4 {kd:Nat} {x y z:Opd}:DK C base fin k a un (⟨d,none,.upd kd x y z⟩::l) nid ⟨e,h,n⟩ ds=DSK C base fin k a un l (nid+1) d e h n ds (readsOf e (.upd kd x y z)) (stepW (.upd kd x y z) e h nid):=bM rfl
@[simp] theorem ajH {x:Opd}:DK C base fin k a un (⟨d,none,.range x⟩::l) nid ⟨e,h,n⟩ ds=DSK C base fin k a un l (nid+1) d e h n ds (readsOf e (.range x)) (stepW (.range x) e h nid):=bM rfl
@[simp] theorem alV {x:Opd}:DK C base fin k a un (⟨d,none,.next x⟩::l) nid ⟨e,h,n⟩ ds=DSK C base fin k a un l (nid+1) d e h n ds (readsOf e (.next x)) (stepW (.next x) e h nid):=bM rfl
@[simp] theorem amO {i:Nat} {x:Opd}:DK C base fin k a un (⟨d,none,.ext i x⟩::l) nid ⟨e,h,n⟩ ds=DSK C base fin k a un l (nid+1) d e h n ds (readsOf e (.ext i x)) (stepW (.ext i x) e h nid):=bM rfl
@[simp] theorem anr {kd:Nat} {x:Opd}:DK C base fin k a un (⟨d,none,.len kd x⟩::l) nid ⟨e,h,n⟩ ds=DSK C base fin k a un l (nid+1) d e h n ds (readsOf e (.len kd x)) (stepW (.len kd x) e h nid):=bM rfl
@[simp] theorem amF {x:Opd}:DK C base fin k a un (⟨d,none,.cap x⟩::l) nid ⟨e,h,n⟩ ds=DSK C base fin k a un l (nid+1) d e h n ds (readsOf e (.cap x)) (stepW (.cap x) e h nid):=bM rfl
@[simp] theorem anp {z:List AV} {b:Nat} {zs:Bool} {x y:Opd}:DK C base fin k a un (⟨d,none,.app z b zs x y⟩::l) nid ⟨e,h,n⟩ ds=DSK C base fin k a un l (nid+1) d e h n ds (readsOf e (.app z b zs x y)) (stepW (.app z b zs x y) e h nid):=bM rfl
@[simp] theorem amZ {z:Nat} {x y:Opd}:DK C base fin k a un (⟨d,none,.cpy z x y⟩::l) nid ⟨e,h,n⟩ ds=DSK C base fin k a un l (nid+1) d e h n ds (readsOf e (.cpy z x y)) (stepW (.cpy z x y) e h nid):=bM rfl
@[simp] theorem anP {z:List AV} {x:Opd}:DK C base fin k a un (⟨d,none,.clr z x⟩::l) nid ⟨e,h,n⟩ ds=DSK C base fin k a un l (nid+1) d e h n ds (readsOf e (.clr z x)) (stepW (.clr z x) e h nid):=bM rfl
@[simp] theorem apr {x y:Opd}:DK C base fin k a un (⟨d,none,.mx x y⟩::l) nid ⟨e,h,n⟩ ds=DSK C base fin k a un l (nid+1) d e h n ds (readsOf e (.mx x y)) (stepW (.mx x y) e h nid):=bM rfl
@[simp] theorem apg {x y:Opd}:DK C base fin k a un (⟨d,none,.mn x y⟩::l) nid ⟨e,h,n⟩ ds=DSK C base fin k a un l (nid+1) d e h n ds (readsOf e (.mn x y)) (stepW (.mn x y) e h nid):=bM rfl
end
@[simp] theorem nat?_cast (n:Nat):nat? (n:Int)=some n:=rfl
@[simp] theorem nat?_zero:nat? 0=some 0:=rfl
@[simp] theorem nat?_one:nat? 1=some 1:=rfl
@[simp] theorem nat?_lit (n:Nat):nat? (no_index (OfNat.ofNat n):Int)=some n:=rfl
@[simp] theorem nat?_add (n m:Nat):nat? ((n:Int)+(m:Int))=some (n+m):=rfl
@[simp] theorem nat?_add_lit (n m:Nat):nat? ((n:Int)+(no_index (OfNat.ofNat m):Int))=some (n+m):=rfl
theorem aN {x:Int} (h1:-9223372036854775808≤x) (h2:x < 9223372036854775808):IntKind.i64.wrap x=x:=by
 show (if (true&&decide (x % 18446744073709551616 ≥ 9223372036854775808))=true then x % 18446744073709551616 - 18446744073709551616 else x % 18446744073709551616)=x
 simp only [Bool.true_and,decide_eq_true_eq]
 split <;> omega
theorem xu {x:Int} (h1:0≤x) (h2:x < 18446744073709551616):IntKind.u64.wrap x=x:=by
 show (if (false&&decide (x % 18446744073709551616 ≥ 9223372036854775808))=true then x % 18446744073709551616 - 18446744073709551616 else x % 18446744073709551616)=x
 simp only [Bool.false_and,Bool.false_eq_true,if_false]
 omega
theorem wU8 {x:Int} (h1:0≤x) (h2:x < 256):IntKind.u8.wrap x=x:=by
 show (if (false&&decide (x % 256 ≥ 128))=true then x % 256 - 256 else x % 256)=x
 simp only [Bool.false_and,Bool.false_eq_true,if_false]
 omega
theorem fits {n c:Nat} (h:n * c≤35184372088832):(n * c≤35184372088832)=True:=eq_true h
@[simp ↓] theorem apz {α β:Type} (a:α) (f:α→Option β):ob (some a) f=f a:=rfl
@[simp] theorem aiz (e:Env) (h:aI) (t:Nat):Bv e h (.tmp t)=Pav.get e t:=rfl
def cellOf (h:aI) (n:Nat) (ag:Bool):Option AV→Option AV
 | some (.ptr b i o)=>uU n ag o i (Pav.get h b)
 | _=>none
@[simp] theorem ah6 (e:Env) (h:aI) (t n:Nat) (ag:Bool):Bv e h (.cell t n ag)=cellOf h n ag (Pav.get e t):=rfl
attribute [simp] cellOf
@[simp] theorem apD (s:Nat) (e:Env):(Opd.t s).ev e=(Pav.get e s).getD .undef:=rfl
@[simp] theorem apx (v:AV) (e:Env):(Opd.c v).ev e=v:=rfl
@[simp ↓] theorem apB {α β:Type} (f:α→Option β):ob none f=none:=rfl
@[simp ↓] theorem apy {α β:Type} (a:α) (f:α→β):om (some a) f=some (f a):=rfl
@[simp ↓] theorem apv {α β:Type} (f:α→β):om none f=none:=rfl
@[simp] theorem apu {β:Type} (x:Option β):og true x=x:=rfl
@[simp] theorem apC {β:Type} (x:Option β):og false x=none:=rfl
@[simp] theorem apw (v:AV):ov (some v)=some (v,[]):=rfl
@[simp] theorem apn (v:AV):ovW (some v)=some (v,[]):=rfl
@[simp] theorem ajc (x:AV × Upd):plainW (some x)=some (x.1,[]):=rfl
def abU {α:Type}:Option α→Option (List α)→Option (List α)
 | some a,some l=>some (a::l)
 | _,_=>none
@[simp] theorem alO {α:Type} (a:α) (l:List α):abU (some a) (some l)=some (a::l):=rfl
@[simp] theorem ajK {α β:Type} (f:α→Option β):aX f []=some []:=rfl
@[simp] theorem aiQ {α β:Type} (f:α→Option β) (a:α) (r:List α):aX f (a::r)=abU (f a) (aX f r):=by
 simp only [aX];cases f a <;> cases aX f r <;> rfl
def afT (k:Nat):Option AV→Option Env→Option Env
 | some v,some r=>some ((k,v)::r)
 | _,_=>none
@[simp] theorem alg (k:Nat) (v:AV) (r:Env):afT k (some v) (some r)=some ((k,v)::r):=rfl
@[simp] theorem aiu (π:Nat→Option Nat):jQ π []=some []:=rfl
@[simp] theorem afk (π:Nat→Option Nat) (k:Nat) (v:AV) (r:Env):jQ π ((k,v)::r)=afT k (ren π v) (jQ π r):=by
 simp only [jQ];cases ren π v <;> cases jQ π r <;> rfl
def ajM (i o:Nat):Option Nat→Option AV
 | some b=>some (.ptr b i o)
 | none=>none
def slO (z i l c:Nat) (ex:Bool):Option Nat→Option AV
 | some b=>some (.sl b z i l c ex)
 | none=>none
def aj2:Option Nat→Option AV
 | some b=>some (.map b)
 | none=>none
def fnO (f:Nat):Option (List AV)→Option AV
 | some cs=>some (.fn f cs)
 | none=>none
def Il:Option (List AV)→Option AV
 | some cs=>some (.agg cs)
 | none=>none
def agB:Option (List AV)→Option AV
 | some cs=>some (.tup cs)
 | none=>none
@[simp] theorem anh (i o b:Nat):ajM i o (some b)=some (.ptr b i o):=rfl
@[simp] theorem apj (z i l c:Nat) (ex:Bool) (b:Nat):slO z i l c ex (some b)=some (.sl b z i l c ex):=rfl
@[simp] theorem ao6 (b:Nat):aj2 (some b)=some (.map b):=rfl
@[simp] theorem aph (f:Nat) (cs:List AV):fnO f (some cs)=some (.fn f cs):=rfl
@[simp] theorem apf (cs:List AV):Il (some cs)=some (.agg cs):=rfl
@[simp] theorem aoE (cs:List AV):agB (some cs)=some (.tup cs):=rfl
section
variable (π:Nat→Option Nat)
@[simp] theorem amh (b i o:Nat):ren π (.ptr b i o)=ajM i o (π b):=by simp only [ren];cases π b <;> rfl
@[simp] theorem anl (b z i l c:Nat) (ex:Bool):ren π (.sl b z i l c ex)=slO z i l c ex (π b):=by simp only [ren];cases π b <;> rfl
@[simp] theorem alW (b:Nat):ren π (.map b)=aj2 (π b):=by simp only [ren];cases π b <;> rfl
@[simp] theorem amJ (f:Nat) (cs:List AV):ren π (.fn f cs)=fnO f (lH π cs):=by simp only [ren];cases lH π cs <;> rfl
@[simp] theorem ak7 (cs:List AV):ren π (.agg cs)=Il (lH π cs):=by simp only [ren];cases lH π cs <;> rfl
@[simp] theorem alF (cs:List AV):ren π (.tup cs)=agB (lH π cs):=by simp only [ren];cases lH π cs <;> rfl
@[simp] theorem aiM:ren π .undef=some .undef:=rfl
@[simp] theorem akd (b:Bool):ren π (.bool b)=some (.bool b):=rfl
@[simp] theorem akT (k:IntKind) (n:Int):ren π (.int k n)=some (.int k n):=rfl
@[simp] theorem akC (s:List UInt8):ren π (.str s)=some (.str s):=rfl
@[simp] theorem ajm:ren π .dY=some .dY:=rfl
@[simp] theorem akh:ren π .bH=some .bH:=rfl
@[simp] theorem ajP:ren π .dS=some .dS:=rfl
@[simp] theorem ajj:ren π .dV=some .dV:=rfl
@[simp] theorem amn (z:Nat) (es:List (List AV)) (ex:Bool):ren π (.ro z es ex)=some (.ro z es ex):=rfl
@[simp] theorem alI (cs:List AV):ren π (.rop cs)=some (.rop cs):=rfl
@[simp] theorem ajW:lH π []=some []:=rfl
@[simp] theorem aiD (v:AV) (r:List AV):lH π (v::r)=abU (ren π v) (lH π r):=by simp only [lH];cases ren π v <;> cases lH π r <;> rfl
def aal (z:Nat) (mu dt:Bool):Option (List (List AV))→Option dG
 | some es=>some (.cells z es mu dt)
 | none=>none
@[simp] theorem ajT (z:Nat) (mu dt:Bool) (es:List (List AV)):aal z mu dt (some es)=some (.cells z es mu dt):=rfl
@[simp] theorem aiV (z:Nat) (es:List (List AV)) (mu:Bool):gW π (.cells z es mu true)=some (.cells z es mu true):=rfl
@[simp] theorem aiO (z:Nat) (es:List (List AV)) (mu:Bool):gW π (.cells z es mu false)=aal z mu false (aX (lH π) es):=by simp only [gW];cases aX (lH π) es <;> rfl
@[simp] theorem ahe (es:List (AV × AV)):gW π (.map es)=some (.map es):=rfl
@[simp] theorem afL (s:List UInt8) (p:Nat):gW π (.iter s p)=some (.iter s p):=rfl
def Ux (k:Nat):Option dG→Option aI→Option aI
 | some v,some r=>some ((k,v)::r)
 | _,_=>none
@[simp] theorem al4 (k:Nat) (v:dG) (r:aI):Ux k (some v) (some r)=some ((k,v)::r):=rfl
@[simp] theorem ah3 (base:Nat):jA base π []=some []:=rfl
@[simp] theorem afJ (base b:Nat) (o:dG) (r:aI):jA base π ((b,o)::r)=if b < base then Ux b (gW π o) (jA base π r) else jA base π r:=by
 simp only [jA]
 split
 · cases gW π o <;> cases jA base π r <;> rfl
 · rfl
def newH (n:Nat) (π:Nat→Option Nat) (r:Option aI):Option dG→Option aI
 | some o=>Ux n (gW π o) r
 | none=>r
@[simp] theorem aol (n:Nat) (r:Option aI) (o:dG):newH n π r (some o)=Ux n (gW π o) r:=rfl
@[simp] theorem aoh (n:Nat) (r:Option aI):newH n π r none=r:=rfl
@[simp] theorem agX (h:aI) (n:Nat):lG π h n []=some []:=rfl
@[simp] theorem afl (h:aI) (n b:Nat) (r:List Nat):lG π h n (b::r)=newH n π (lG π h (n+1) r) (Pav.get h b):=by
 simp only [lG,newH]
 cases Pav.get h b with
 | none=>rfl
 | some o=>simp only;cases gW π o <;> cases lG π h (n+1) r <;> rfl
end
def ajh (n:Nat):Option Env→Option aI→Option aI→Option WSt
 | some e,some h1,some h2=>some ⟨e,h1++h2,n⟩
 | _,_,_=>none
@[simp] theorem ao3 (n:Nat) (e:Env) (h1 h2:aI):ajh n (some e) (some h1) (some h2)=some ⟨e,h1++h2,n⟩:=rfl
@[simp] theorem afB (base:Nat) (s:WSt) (L:List Nat):renumber base s L=ajh (base+L.length) (jQ (gJ base L) s.env) (jA base (gJ base L) s.heap) (lG (gJ base L) s.heap base L):=by
 simp only [renumber]
 cases jQ (gJ base L) s.env <;> cases jA base (gJ base L) s.heap <;> cases lG (gJ base L) s.heap base L <;> rfl
def ajJ (h:aI) (nid zl bytes:Nat) (s:AV):Option (List (List AV) × Bool)→Option (AV × dU)
 | some (xs,d)=>jM h nid zl bytes s xs d
 | none=>none
@[simp] theorem amw (h:aI) (nid zl bytes:Nat) (s:AV) (xs:List (List AV)) (d:Bool):ajJ h nid zl bytes s (some (xs,d))=jM h nid zl bytes s xs d:=rfl
@[simp] theorem aop (z:List AV) (bytes:Nat) (s x:Opd) (e:Env) (h:aI) (n:Nat):QE z bytes false s x e h n=ajJ h n z.length bytes (s.ev e) (jP h z.length (x.ev e)):=by
 simp only [QE,Bool.false_eq_true,if_false];cases jP h z.length (x.ev e) <;> rfl
def Ze (h:aI) (nid:Nat) (z:List AV) (bytes:Nat) (s:AV):AV→Option (AV × dU)
 | .int _ n=>ob (nat? n) fun n=>if n * (bytes+1)≤dh then jM h nid z.length bytes s (List.replicate n z) (z.all isC) else none
 | _=>none
@[simp] theorem anX (z:List AV) (bytes:Nat) (s x:Opd) (e:Env) (h:aI) (n:Nat):QE z bytes true s x e h n=Ze h n z bytes (s.ev e) (x.ev e):=by
 simp only [QE,if_true];cases x.ev e <;> rfl
def ai0 (h:aI) (z:Nat) (d:AV):Option (List (List AV) × Bool)→Option (AV × dU)
 | some (xs,b)=>o8 h z xs b d
 | none=>none
@[simp] theorem aoU (h:aI) (z:Nat) (d:AV) (xs:List (List AV)) (b:Bool):ai0 h z d (some (xs,b))=o8 h z xs b d:=rfl
@[simp] theorem akY (z:Nat) (d s:Opd) (e:Env) (h:aI) (n:Nat):XO z d s e h n=ai0 h z (d.ev e) (jP h z (s.ev e)):=by
 simp only [XO];cases jP h z (s.ev e) <;> rfl
attribute [simp] Ze
@[simp] theorem ao1 {α β γ:Type} (x:Option α) (g:α→β) (f:β→Option γ):ob (Option.map g x) f=ob x fun a=>f (g a):=by cases x <;> rfl
section
variable (h:aI) (nid zl bytes:Nat) (xs:List (List AV)) (d:Bool)
@[simp] theorem afh:jM h nid zl bytes .bH xs d=if xs.isEmpty=true then some (.bH,[]) else lZ nid zl xs.length bytes xs d:=by cases xs <;> rfl
@[simp] theorem aiH (z:Nat) (es:List (List AV)) (ex:Bool):jM h nid zl bytes (.ro z es ex) xs d =
 if z=zl then (if xs.isEmpty=true then some (.ro z es ex,[]) else if ex=true then lZ nid zl (es.length+xs.length) bytes (es++xs) d else none) else none:=by cases xs <;> rfl
@[simp] theorem aiy (b z i len cap:Nat) (ex:Bool):jM h nid zl bytes (.sl b z i len cap ex) xs d =
 if z=zl then (if xs.isEmpty=true then some (.sl b z i len cap ex,[]) else KJ (Pav.get h b) nid zl bytes b i len cap ex xs d (len+xs.length)) else none:=by cases xs <;> rfl
end
def ql (h:aI) (n z i len cap:Nat) (ex:Bool):Option dG→Option AV
 | some (.cells _ es _ true)=>og (decide (((es.drop i).take len).length=len)) (some (.ro z ((es.drop i).take len) (ex&&decide (cap=len))))
 | some (.cells _ es _ false)=>ob (aX (aX (bD h n)) ((es.drop i).take len)) fun es'=>og (decide (es'.length=len)&&es'.all fun e=>e.all isC) (some (.ro z es' (ex&&decide (cap=len))))
 | _=>none
def ade (h:aI) (n i o:Nat):Option dG→Option AV
 | some (.cells _ es _ true)=>ob es[i]? fun cs=>some (.rop (cs.drop o))
 | some (.cells _ es _ false)=>ob es[i]? fun cs=>ob (aX (bD h n) (cs.drop o)) fun cs'=>some (.rop cs')
 | _=>none
def RU (h:aI) (n i o:Nat):Option dG→List Nat
 | some (.cells _ es _ false)=>((es[i]?.getD []).drop o).flatMap (aT h n)
 | _=>[]
def QV (h:aI) (n i len:Nat):Option dG→List Nat
 | some (.cells _ es _ false)=>((es.drop i).take len).flatMap fun e=>e.flatMap (aT h n)
 | _=>[]
section
variable (h:aI) (n:Nat)
@[simp] theorem aiJ (b:Bool):bD h (n+1) (.bool b)=some (.bool b):=rfl
@[simp] theorem ajl (k:IntKind) (x:Int):bD h (n+1) (.int k x)=some (.int k x):=rfl
@[simp] theorem akt (s:List UInt8):bD h (n+1) (.str s)=some (.str s):=rfl
@[simp] theorem aiG:bD h (n+1) .dY=some .dY:=rfl
@[simp] theorem aiC:bD h (n+1) .bH=some .bH:=rfl
@[simp] theorem aiR:bD h (n+1) .dS=some .dS:=rfl
@[simp] theorem aiB:bD h (n+1) .dV=some .dV:=rfl
@[simp] theorem JA (z:Nat) (es:List (List AV)) (ex:Bool):bD h (n+1) (.ro z es ex)=some (.ro z es ex):=rfl
@[simp] theorem ajR (cs:List AV):bD h (n+1) (.rop cs)=some (.rop cs):=rfl
@[simp] theorem akX (f:Nat) (cs:List AV):bD h (n+1) (.fn f cs)=fnO f (aX (bD h n) cs):=by simp only [bD];cases aX (bD h n) cs <;> rfl
@[simp] theorem iM (cs:List AV):bD h (n+1) (.agg cs)=Il (aX (bD h n) cs):=by simp only [bD];cases aX (bD h n) cs <;> rfl
@[simp] theorem aj9 (cs:List AV):bD h (n+1) (.tup cs)=agB (aX (bD h n) cs):=by simp only [bD];cases aX (bD h n) cs <;> rfl
@[simp] theorem jF (b z i len cap:Nat) (ex:Bool):bD h (n+2) (.sl b z i len cap ex)=ql h (n+1) z i len cap ex (Pav.get h b):=by
 simp only [bD,ql]
 split
 · rename_i hg
   rw [hg]
   rename_i dt
   cases dt <;> rfl
 · rename_i hg
   split
   · rename_i h1;exact absurd h1 (hg _ _ _ _)
   · rename_i h1;exact absurd h1 (hg _ _ _ _)
   · rfl
@[simp] theorem abd (b i o:Nat):bD h (n+2) (.ptr b i o)=ade h (n+1) i o (Pav.get h b):=by
 simp only [bD,ade]
 split
 · rename_i hg
   rw [hg]
   rename_i es _ dt
   cases dt
   · simp only [Bool.false_eq_true,if_false]
     cases es[i]? with
     | none=>rfl
     | some cs=>simp only [ob];cases aX (bD h (n+1)) (cs.drop o) <;> rfl
   · rfl
 · rename_i hg
   split
   · rename_i h1;exact absurd h1 (hg _ _ _ _)
   · rename_i h1;exact absurd h1 (hg _ _ _ _)
   · rfl
@[simp] theorem ah0 (b i o:Nat):aT h (n+1) (.ptr b i o)=b::RU h n i o (Pav.get h b):=by
 simp only [aT,RU]
 congr 1
 split
 · rename_i hg
   rw [hg]
   rename_i dt
   cases dt <;> rfl
 · rename_i hg
   split
   · rename_i h1;exact absurd h1 (hg _ _ _ _)
   · rfl
@[simp] theorem af2 (b:Bool):aT h (n+1) (.bool b)=[]:=rfl
@[simp] theorem agk (k:IntKind) (x:Int):aT h (n+1) (.int k x)=[]:=rfl
@[simp] theorem agM (s:List UInt8):aT h (n+1) (.str s)=[]:=rfl
@[simp] theorem afS:aT h (n+1) .dY=[]:=rfl
@[simp] theorem agb:aT h (n+1) .bH=[]:=rfl
@[simp] theorem afY:aT h (n+1) .dS=[]:=rfl
@[simp] theorem afn:aT h (n+1) .dV=[]:=rfl
@[simp] theorem aiL (z:Nat) (es:List (List AV)) (ex:Bool):aT h (n+1) (.ro z es ex)=[]:=rfl
@[simp] theorem air (cs:List AV):aT h (n+1) (.rop cs)=[]:=rfl
@[simp] theorem aiP (f:Nat) (cs:List AV):aT h (n+1) (.fn f cs)=cs.flatMap (aT h n):=rfl
@[simp] theorem agK (cs:List AV):aT h (n+1) (.agg cs)=cs.flatMap (aT h n):=rfl
@[simp] theorem ah5 (cs:List AV):aT h (n+1) (.tup cs)=cs.flatMap (aT h n):=rfl
@[simp] theorem aiT (b z i len cap:Nat) (ex:Bool):aT h (n+1) (.sl b z i len cap ex)=b::QV h n i len (Pav.get h b):=by
 simp only [aT,QV]
 congr 1
 split
 · rename_i hg
   rw [hg]
   rename_i dt
   cases dt <;> rfl
 · rename_i hg
   split
   · rename_i h1;exact absurd h1 (hg _ _ _ _)
   · rfl
@[simp] theorem acQ (b:Bool):dA (n+1) (.bool b)=false:=rfl
@[simp] theorem afN (k:IntKind) (x:Int):dA (n+1) (.int k x)=false:=rfl
@[simp] theorem afm (s:List UInt8):dA (n+1) (.str s)=false:=rfl
@[simp] theorem ae9:dA (n+1) .dY=false:=rfl
@[simp] theorem acF:dA (n+1) .bH=false:=rfl
@[simp] theorem afb:dA (n+1) .dS=false:=rfl
@[simp] theorem aeE:dA (n+1) .dV=false:=rfl
@[simp] theorem ahq (z:Nat) (es:List (List AV)) (ex:Bool):dA (n+1) (.ro z es ex)=true:=rfl
@[simp] theorem afO (cs:List AV):dA (n+1) (.rop cs)=true:=rfl
@[simp] theorem ahC (f:Nat) (cs:List AV):dA (n+1) (.fn f cs)=cs.any (dA n):=rfl
@[simp] theorem afw (cs:List AV):dA (n+1) (.agg cs)=cs.any (dA n):=rfl
@[simp] theorem afV (cs:List AV):dA (n+1) (.tup cs)=cs.any (dA n):=rfl
end
def imax (a b:Int):Int:=if b > a then b else a
def Df (a b:Int):Int:=if b < a then b else a
theorem QY {a b:Int} (h:b≤a):imax a b=a:=by unfold imax;rw [if_neg (by omega)]
theorem ahS {a b:Int} (h:a≤b):imax a b=b:=by unfold imax;split <;> omega
def mxV:AV→AV→Option (AV × Upd)
 | .int k a,.int k' b=>if k=k' then some (.int k (imax a b),[]) else none
 | _,_=>none
def mnV:AV→AV→Option (AV × Upd)
 | .int k a,.int k' b=>if k=k' then some (.int k (Df a b),[]) else none
 | _,_=>none
@[simp] theorem anW (x y:Opd) (e:Env) (h:Heap) (n:Nat):sMx x y e h n=mxV (x.ev e) (y.ev e):=rfl
@[simp] theorem anE (x y:Opd) (e:Env) (h:Heap) (n:Nat):sMn x y e h n=mnV (x.ev e) (y.ev e):=rfl
attribute [simp] mxV mnV
@[simp] theorem aif (base:Nat) (cn:Bool) (lv:List Nat) (s:WSt):qB base ⟨cn,lv,[]⟩ s=canon base ⟨cn,lv,[]⟩ s:=rfl
@[simp] theorem afC (base:Nat) (cn:Bool) (lv:List Nat) (p:Nat × Nat) (r:List (Nat × Nat)) (s:WSt):qB base ⟨cn,lv,p::r⟩ s=ob (lJ (GZ (p::r)) s) (canon base ⟨cn,lv,p::r⟩):=rfl
attribute [simp] GZ lJ qH
attribute [simp] List.getElem?_cons_zero ql QV ade RU
attribute [simp] stepW TA agi Tz Nz kU Za yB uU pz NQ tN F8 splice TN YT Vr Nk found aeO QH QW UQ AU aio qC NP jP lZ KJ
 N9 o8 afc Bd TM sMv CO AX pR lV Yq wX BM Bo Au qJ G6 iq eqFn Jb Ji IZ gZ BQ UK jZ gV sUn Pv Qw PE P9 Ol zC BF gG EU yM G7 jB gI lS jC uo bound oev
 KY C9 BZ sV CV sK pO CU OE sCap xq AV.cells AV.cell isC isD Pav.get Pav.put eH qN bP AB del readsOf dR canon Uk QL kE Ac IE Gz Uy rH gJ place close
 Du qX refs CX MZ aW oN bU bT FW HY iR aP Dj aF Bz dh jy jT Ba abG Sr meets SQ
def rep {α:Type} (n:Nat) (a:α):List α:=List.replicate n a
section
variable {α β:Type} (n:Nat) (a:α)
@[simp] theorem ag6:(rep n a).length=n:=List.length_replicate
@[simp] theorem akF (f:α→β):List.map f (rep n a)=rep n (f a):=List.map_replicate
@[simp] theorem ak8 (p:α→Bool):(rep (n+1) a).all p=p a:=by
 unfold rep;rw [List.all_replicate];simp
@[simp] theorem af4 {i:Nat} (h:i < (rep n a).length):(rep n a)[i]=a:=by
 unfold rep;exact List.getElem_replicate _
@[simp] theorem abZ:List.take n (rep n a)=rep n a:=List.take_of_length_le (by simp)
@[simp] theorem ajG (n:Nat):(rep (n+1) a).isEmpty=false:=rfl
end
end Go.Pw
end
section
set_option linter.unusedSimpArgs false
set_option linter.unusedVariables false
namespace Go.Pw
open Go Go.Pav
inductive ZO where
 | p (d:Option (Option Nat)) (g:Option (Nat × Bool)) (x:COp)
def zt:List Nat→List Opd
 | []=>[]
 | a::r=>.t a::zt r
namespace Z
def y (s:Nat):ZO→ZO
 | .p d _ x=>.p d (some (s,true)) x
def z (s:Nat):ZO→ZO
 | .p d _ x=>.p d (some (s,false)) x
def d (k:Nat):ZO→ZO
 | .p _ g x=>.p (some (some k)) g x
def n:ZO→ZO
 | .p _ g x=>.p (some none) g x
def m (a:Nat):ZO:=.p none none (.mv (.t a))
def i (k:Int):ZO:=.p none none (.mv (.c (.int .i64 k)))
def l (k a:Nat):ZO:=.p none none (.load k false (.t a))
def h (k a:Nat):ZO:=.p none none (.load k true (.t a))
def f (o a:Nat):ZO:=.p none none (.fld o (.t a))
def po (a b:Nat):ZO:=.p none none (.pick (.t a) (.c (.bool true)) (.t b))
def pa (a b:Nat):ZO:=.p none none (.pick (.t a) (.t b) (.c (.bool false)))
def ln (k a:Nat):ZO:=.p none none (.len k (.t a))
def ix (k a b:Nat):ZO:=.p none none (.idxs k (.t a) (.t b))
def ex (k a:Nat):ZO:=.p none none (.ext k (.t a))
def nk (a:Nat):ZO:=.p none none (.jo (.t a))
def bx (a:Nat):ZO:=.p none none (.box (.t a))
def nt (a:Nat):ZO:=.p none none (.un .not (.t a))
def st (k a b:Nat):ZO:=.p none none (.store k (.t a) (.t b))
def E (x:COp):ZO:=.p none none x
def tt:ZO:=.p none none (.mv (.c (.bool true)))
def ff:ZO:=.p none none (.mv (.c (.bool false)))
def ca (g:Nat) (q:List Nat):ZO:=.p none none (.call g (zt q))
def eq (a b:Nat):ZO:=.p none none (.bin .eql (.t a) (.t b))
def eqi (a:Nat) (k:Int):ZO:=.p none none (.bin .eql (.t a) (.c (.int .i64 k)))
def ne (a b:Nat):ZO:=.p none none (.bin .neq (.t a) (.t b))
def nei (a:Nat) (k:Int):ZO:=.p none none (.bin .neq (.t a) (.c (.int .i64 k)))
def lt (a b:Nat):ZO:=.p none none (.bin .lss (.t a) (.t b))
def lti (a:Nat) (k:Int):ZO:=.p none none (.bin .lss (.t a) (.c (.int .i64 k)))
def le (a b:Nat):ZO:=.p none none (.bin .leq (.t a) (.t b))
def lei (a:Nat) (k:Int):ZO:=.p none none (.bin .leq (.t a) (.c (.int .i64 k)))
def gt (a b:Nat):ZO:=.p none none (.bin .gtr (.t a) (.t b))
def gti (a:Nat) (k:Int):ZO:=.p none none (.bin .gtr (.t a) (.c (.int .i64 k)))
def ge (a b:Nat):ZO:=.p none none (.bin .geq (.t a) (.t b))
def gei (a:Nat) (k:Int):ZO:=.p none none (.bin .geq (.t a) (.c (.int .i64 k)))
def ad (a b:Nat):ZO:=.p none none (.bin .add (.t a) (.t b))
def adi (a:Nat) (k:Int):ZO:=.p none none (.bin .add (.t a) (.c (.int .i64 k)))
def sb (a b:Nat):ZO:=.p none none (.bin .sub (.t a) (.t b))
def sbi (a:Nat) (k:Int):ZO:=.p none none (.bin .sub (.t a) (.c (.int .i64 k)))
end Z
def zo:Nat→List ZO→List bg
 | _,[]=>[]
 | k,.p none g x::r=>⟨some k,g,x⟩::zo (k+1) r
 | k,.p (some j) g x::r=>⟨j,g,x⟩::zo k r
inductive ZC where
 | O (k:Nat) (l:List ZO)
 | Q (k:Nat) (l:List ZO) (s:List Nat)
 | R (k:Nat) (l:List ZO) (a:Ann)
 | U (k:Nat) (l:List ZO) (u:List (Nat × Nat)) (s:List Nat)
 | V (k:Nat) (l:List ZO) (u:List (Nat × Nat)) (a:Ann)
 | s (a b:ZC)
 | r (a:ZC)
 | c (t:Nat) (a:ZC)
 | cc (t:Nat) (a b:ZC)
 | cd (x:Opd) (a b:ZC)
 | B (j:Nat) (a:ZC)
 | bk (j:Nat) (a:ZC) (x:Ann)
 | lp (x:Ann) (a:ZC)
 | ee (j:Nat)
 | w (x:aC)
instance:Coe aC ZC:=⟨.w⟩
def zc:ZC→aC
 | .O k l=>.ops (zo k l) ⟨false,[],[]⟩
 | .Q k l s=>.ops (zo k l) ⟨true,s,[]⟩
 | .R k l a=>.ops (zo k l) a
 | .U k l u s=>.draw (zo k l) u ⟨true,s,[]⟩
 | .V k l u a=>.draw (zo k l) u a
 | .s a b=>.seq (zc a) (zc b)
 | .r a=>.seq (zc a) .ret
 | .c t a=>.cond (.t t) (zc a) .skip
 | .cc t a b=>.cond (.t t) (zc a) (zc b)
 | .cd x a b=>.cond x (zc a) (zc b)
 | .B j a=>.block j (zc a) ⟨false,[],[]⟩
 | .bk j a x=>.block j (zc a) x
 | .lp x a=>.loop x (zc a)
 | .ee j=>.exit j
 | .w x=>x
abbrev T (a:Nat):Opd:=.t a
abbrev N (n:Int):Opd:=.c (.int .i64 n)
abbrev zd (x:ZC) {y:aC} (_h:zc x=y:=by dsimp only [zc,zo,zt,T,N,Z.y,Z.z,Z.d,Z.n,Z.m,Z.i,Z.l,Z.h,Z.f,Z.po,Z.pa,Z.ln,Z.ix,Z.ex,Z.nk,Z.bx,Z.nt,Z.st,Z.E,Z.tt,Z.ff,Z.ca,Z.eq,Z.eqi,Z.ne,Z.nei,Z.lt,Z.lti,Z.le,Z.lei,Z.gt,Z.gti,Z.ge,Z.gei,Z.ad,Z.adi,Z.sb,Z.sbi]):aC:=y
abbrev ZL (L B:aC) (a:Ann):Prop:=∀ {β:Type} {C:aJ} {b:Nat} {f:Ex × WSt→Option β} {k:List Pw.Frame} {s:WSt},CK C b f k L s=LK C b f (.sq L::k) B (canon b a s)
end Go.Pw
end
