/- Part of the theory that the claims of this work use: PwCanon, PwPrim, PwCode, PwDen, PwCk, PwSimp, PwZip, PwP, PwLib. No conditions of its own. -/
import Derived.Test.YtpgfajflkkjdaaaGreatT4
set_option linter.unusedVariables false
set_option linter.unusedSimpArgs false
section
namespace Go.Pw
open Go Go.Pav
def Srt (e:Env):Prop:=e.Pairwise fun a b=>b.1 < a.1
theorem Srt.put {e:Env} (h:Srt e) (k:Nat) (v:AV):Srt (putE e k v):=by
 have mem:∀ (e:Env) x,x ∈ putE e k v→x=(k,v)∨x ∈ e:=by
  intro e
  induction e with
  | nil=>intro x hx;simp [putE] at hx;exact .inl hx
  | cons y e ih =>
   intro x hx
   obtain ⟨j,u⟩:=y
   simp only [putE] at hx
   split at hx
   · rcases List.mem_cons.1 hx with q | q
     · exact .inl q
     · exact .inr q
   · split at hx
     · rcases List.mem_cons.1 hx with q | q
       · exact .inl q
       · exact .inr (List.mem_cons_of_mem _ q)
     · rcases List.mem_cons.1 hx with q | q
       · exact .inr (q ▸ List.mem_cons_self)
       · rcases ih x q with q | q
         · exact .inl q
         · exact .inr (List.mem_cons_of_mem _ q)
 induction e with
 | nil=>exact List.pairwise_singleton _ _
 | cons y e ih =>
  obtain ⟨j,u⟩:=y
  have h1:∀ x ∈ e,x.1 < j:=fun x hx=>(List.pairwise_cons.1 h).1 x hx
  have h2:Srt e:=(List.pairwise_cons.1 h).2
  simp only [putE]
  split
  · rename_i hk
    refine List.pairwise_cons.2 ⟨fun x hx=>?_,h⟩
    rcases List.mem_cons.1 hx with rfl | q
    · exact hk
    · have:=h1 x q;simp only;omega
  · rename_i hk
    split
    · rename_i hj;subst hj;exact List.pairwise_cons.2 ⟨h1,h2⟩
    · rename_i hj
      refine List.pairwise_cons.2 ⟨fun x hx=>?_,ih h2⟩
      rcases mem e x hx with rfl | q
      · simp only;omega
      · exact h1 x q
theorem Srt.setDst {e:Env} (h:Srt e) (d:Option Nat) (v:AV):Srt (setD e d v):=by
 cases d with
 | none=>exact h
 | some d=>exact h.put d v
theorem argW_eq:∀ (l:List AV) (k:Nat) (acc:Env),argW k l acc=(argEnv k l).reverse++acc:=by
 intro l
 induction l with
 | nil=>intro k acc;rfl
 | cons v l ih=>intro k acc;simp [argW,argEnv,ih]
theorem srt_arg0:∀ (l:List AV) (k:Nat),(argEnv k l).Pairwise (fun a b=>a.1 < b.1)∧∀ x ∈ argEnv k l,k≤x.1:=by
 intro l
 induction l with
 | nil=>intro k;exact ⟨List.Pairwise.nil,fun x hx=>by simp [argEnv] at hx⟩
 | cons v l ih =>
  intro k
  obtain ⟨h1,h2⟩:=ih (k+1)
  refine ⟨List.pairwise_cons.2 ⟨fun x hx=>by have:=h2 x hx;simp only;omega,h1⟩,fun x hx=>?_⟩
  rcases List.mem_cons.1 hx with rfl | q
  · exact Nat.le_refl _
  · have:=h2 x q;omega
theorem srt_arg (l:List AV) (k:Nat):Srt (argW k l []):=by
 rw [argW_eq,List.append_nil]
 exact List.pairwise_reverse.2 (srt_arg0 l k).1
theorem Srt.get {e:Env} (h:Srt e) {k:Nat} {v:AV} (hm:(k,v) ∈ e):Pav.get e k=some v:=by
 induction e with
 | nil=>cases hm
 | cons y e ih =>
  obtain ⟨j,u⟩:=y
  have h1:∀ x ∈ e,x.1 < j:=fun x hx=>(List.pairwise_cons.1 h).1 x hx
  simp only [Pav.get]
  rcases List.mem_cons.1 hm with q | q
  · cases q;simp
  · have:=h1 _ q
    simp only at this
    rw [if_neg (by omega)]
    exact ih (List.pairwise_cons.1 h).2 q
theorem dropLt_mem {k a:Nat}:∀ {l:List Nat},a ∈ dropLt k l→a ∈ l:=by
 intro l
 induction l with
 | nil=>intro h;exact h
 | cons b l ih =>
  intro h
  simp only [dropLt] at h
  split at h
  · exact List.mem_cons_of_mem _ (ih h)
  · exact h
theorem keepL_sub:∀ (e:Env) (live:List Nat),(keepL live e).Sublist e∧∀ x ∈ keepL live e,x.1 ∈ live:=by
 intro e
 induction e with
 | nil=>intro live;simp [keepL_nil]
 | cons y e ih =>
  obtain ⟨j,u⟩:=y
  intro live
  simp only [keepL_cons]
  have hsub:∀ a ∈ dropLt j live,a ∈ live:=fun a ha=>dropLt_mem ha
  cases hd:dropLt j live with
  | nil=>simp [keepN]
  | cons a l =>
   rw [hd] at hsub
   simp only [keepN]
   split
   · rename_i ha
     obtain ⟨h1,h2⟩:=ih l
     refine ⟨h1.cons_cons _,fun x hx=>?_⟩
     rcases List.mem_cons.1 hx with rfl | q
     · simp only;subst ha;exact hsub _ (by simp)
     · exact hsub _ (List.mem_cons_of_mem _ (h2 x q))
   · obtain ⟨h1,h2⟩:=ih (a::l)
     exact ⟨h1.cons _,fun x hx=>hsub _ (h2 x hx)⟩
structure Sim (ρ:Nat→Nat) (V A:Nat→Prop) (s:WSt) (s':St):Prop where
 srt:Srt s.env
 env:EW ρ V A s.env s'.env
 heap:HW ρ V A s.heap s'.heap
 lt:Lts ρ V A s.next s'.next
def Old (base:Nat) (ρ:Nat→Nat) (V A:Nat→Prop) (ρ':Nat→Nat) (V' A':Nat→Prop):Prop:=∀ b,b < base→(A b→A' b∧ρ' b=ρ b∧(V' b↔V b))∧(A' b→A b)
theorem Old.refl (base:Nat) (ρ:Nat→Nat) (V A:Nat→Prop):Old base ρ V A ρ V A:=fun _ _=>⟨fun h=>⟨h,rfl,Iff.rfl⟩,id⟩
theorem Old.trans {base:Nat} {ρ ρ1 ρ2:Nat→Nat} {V A V1 A1 V2 A2:Nat→Prop} (h:Old base ρ V A ρ1 V1 A1) (k:Old base ρ1 V1 A1 ρ2 V2 A2):Old base ρ V A ρ2 V2 A2:=fun b hb =>
 ⟨fun ha=>by
  obtain ⟨h1,h2,h3⟩:=(h b hb).1 ha
  obtain ⟨k1,k2,k3⟩:=(k b hb).1 h1
  exact ⟨k1,k2.trans h2,k3.trans h3⟩,fun ha=>(h b hb).2 ((k b hb).2 ha)⟩
section
variable {ρ:Nat→Nat} {V A:Nat→Prop} {n m:Nat} {h:WHeap} {h':Heap} {e e':Env}
theorem close_ok {base:Nat} {h:WHeap}:∀ (n:Nat) (w acc:List Nat),acc.Nodup→(∀ x ∈ acc,base≤x)→(close base h n w acc).Nodup∧∀ x ∈ close base h n w acc,base≤x:=by
 intro n
 induction n with
 | zero=>intro w acc h1 h2;exact ⟨h1,h2⟩
 | succ n ih =>
  intro w acc h1 h2
  cases w with
  | nil=>exact ⟨h1,h2⟩
  | cons b w =>
   simp only [close]
   split
   · exact ih w acc h1 h2
   · rename_i hb
     split
     · exact ih w acc h1 h2
     · rename_i hc
       refine ih _ _ ?_ ?_
       · have hc:b ∉ acc:=by simpa using hc
         rw [List.nodup_append]
         exact ⟨h1,by simp,fun x hx y hy=>by simp at hy;subst hy;rintro rfl;exact hc hx⟩
       · intro x hx
         rcases List.mem_append.1 hx with q | q
         · exact h2 x q
         · simp at q;subst q;omega
def pre (base:Nat) (L:List Nat) (b:Nat):Nat:=if b < base then b else L.getD (b - base) 0
theorem place_some:∀ {L:List Nat} {n b c:Nat},place n L b=some c→n≤c∧L[c - n]?=some b:=by
 intro L
 induction L with
 | nil=>intro n b c h;simp [place] at h
 | cons a L ih =>
  intro n b c h
  simp only [place] at h
  split at h
  · rename_i hb;cases h;subst hb;simp
  · obtain ⟨h1,h2⟩:=ih h
    refine ⟨by omega,?_⟩
    have:c - n=(c - (n+1))+1:=by omega
    rw [this];simpa using h2
theorem place_at:∀ {L:List Nat} {n i b:Nat},L.Nodup→L[i]?=some b→place n L b=some (n+i):=by
 intro L
 induction L with
 | nil=>intro n i b _ h;simp at h
 | cons a L ih =>
  intro n i b hd h
  cases i with
  | zero=>simp at h;subst h;simp [place]
  | succ i =>
   simp only [List.getElem?_cons_succ] at h
   simp only [List.nodup_cons] at hd
   simp only [place]
   rw [if_neg]
   · rw [ih hd.2 h];congr 1;omega
   · rintro rfl;exact hd.1 (List.mem_of_getElem? h)
theorem newNum_pre {base:Nat} {L:List Nat} {b c:Nat} (h:newNum base L b=some c):pre base L c=b∧(c < base↔b < base)∧(c < base→c=b)∧(c < base∨c < base+L.length):=by
 unfold newNum at h
 split at h
 · rename_i hb;cases h;exact ⟨by simp [pre,hb],Iff.rfl,fun _=>rfl,.inl hb⟩
 · rename_i hb
   obtain ⟨h1,h2⟩:=place_some h
   have hlt:=(List.getElem?_eq_some_iff.1 h2).1
   refine ⟨?_,⟨fun q=>by omega,fun q=>absurd q hb⟩,fun q=>by omega,.inr (by omega)⟩
   unfold pre
   rw [if_neg (by omega),List.getD_eq_getElem?_getD,h2];rfl
theorem ren_vw {ρ':Nat→Nat} {V' A':Nat→Prop} {π:Nat→Option Nat} (hπ:∀ b c,A b→π b=some c→A' c∧ρ' c=ρ b∧(V' c↔V b)) (v:AV) :
 ∀ (u v':AV),VW ρ V A v u→ren π v=some v'→VW ρ' V' A' v' u:=by
 refine AV.rec (motive_1:=fun v=>∀ (u v':AV),VW ρ V A v u→ren π v=some v'→VW ρ' V' A' v' u) (motive_2:=fun _=>True)
  (motive_3:=fun l=>∀ (l' r:List AV),Rel2 (VW ρ V A) l l'→renL π l=some r→Rel2 (VW ρ' V' A') r l') ?_ ?_ ?_ ?_ ?_ ?_ ?_ ?_ ?_ ?_ ?_ ?_ ?_ ?_ ?_ ?_ ?_ ?_ ?_ ?_ v
 · intro u v' _ h;simp only [ren,Option.some.injEq] at h;subst h;exact .undef _
 · intro b u v' hu h;simp only [ren,Option.some.injEq] at h;subst h;rw [hu.bool_inv];exact .bool _
 · intro b c u v' hu h;simp only [ren,Option.some.injEq] at h;subst h;rw [hu.int_inv];exact .int _ _
 · intro b u v' hu h;simp only [ren,Option.some.injEq] at h;subst h;rw [hu.str_inv];exact .str _
 · intro u v' hu h;simp only [ren,Option.some.injEq] at h;subst h;exact hu.isC rfl
 · intro u v' hu h;simp only [ren,Option.some.injEq] at h;subst h;exact hu.isC rfl
 · intro u v' hu h;simp only [ren,Option.some.injEq] at h;subst h;exact hu.isC rfl
 · intro u v' hu h;simp only [ren,Option.some.injEq] at h;subst h;exact hu.isC rfl
 · intro z es ex _ u v' hu h;simp only [ren,Option.some.injEq] at h;subst h;exact hu.isC rfl
 · intro z _ u v' hu h;simp only [ren,Option.some.injEq] at h;subst h;exact hu.isC rfl
 · intro b i o u v' hu h
   obtain ⟨rfl,hA,hV⟩:=hu.ptr_inv
   simp only [ren] at h
   obtain ⟨c,h1,rfl⟩:=om_some h
   obtain ⟨q1,q2,q3⟩:=hπ b c hA h1
   rw [← q2]
   exact .ptr c i o q1 (fun q=>hV (q3.1 q))
 · intro b z i len cap ex u v' hu h
   simp only [ren] at h
   obtain ⟨c,h1,rfl⟩:=om_some h
   rcases hu.sl_inv with ⟨hA,hV,ex',rfl,hx⟩ | ⟨hA,hV,rfl,rfl,rfl,hv⟩
   · obtain ⟨q1,q2,q3⟩:=hπ b c hA h1
     rw [← q2]
     exact .sl c z i len cap ex ex' q1 (fun q=>hV (q3.1 q)) hx
   · obtain ⟨q1,q2,q3⟩:=hπ b c hA h1
     exact .slv c z ex u q1 (q3.2 hV) hv
 · intro b u v' hu h
   obtain ⟨rfl,hA,hV⟩:=hu.map_inv
   simp only [ren] at h
   obtain ⟨c,h1,rfl⟩:=om_some h
   obtain ⟨q1,q2,q3⟩:=hπ b c hA h1
   rw [← q2]
   exact .map c q1 (fun q=>hV (q3.1 q))
 · intro f cs ih u v' hu h
   obtain ⟨cs',rfl,hr⟩:=hu.fn_inv
   simp only [ren] at h
   obtain ⟨r,h1,rfl⟩:=om_some h
   exact VW.mkfn (ih cs' r hr h1)
 · intro cs ih u v' hu h
   obtain ⟨cs',rfl,hr⟩:=hu.agg_inv
   simp only [ren] at h
   obtain ⟨r,h1,rfl⟩:=om_some h
   exact VW.mkagg (ih cs' r hr h1)
 · intro cs ih u v' hu h
   obtain ⟨cs',rfl,hr⟩:=hu.tup_inv
   simp only [ren] at h
   obtain ⟨r,h1,rfl⟩:=om_some h
   exact VW.mktup (ih cs' r hr h1)
 · trivial
 · intros;trivial
 · intro l' r hr h
   simp only [renL,Option.some.injEq] at h;subst h
   rw [hr.inv_nil];exact .nil
 · intro v l ih1 ih2 l' r hr h
   obtain ⟨u,t,rfl,h1,h2⟩:=hr.inv_cons
   simp only [renL] at h
   obtain ⟨v',h3,h⟩:=ob_some h
   obtain ⟨r',h4,rfl⟩:=om_some h
   exact .cons (ih1 u v' h1 h3) (ih2 t r' h2 h4)
theorem renL_vw {ρ':Nat→Nat} {V' A':Nat→Prop} {π:Nat→Option Nat} (hπ:∀ b c,A b→π b=some c→A' c∧ρ' c=ρ b∧(V' c↔V b)):∀ (l l' r:List AV),Rel2 (VW ρ V A) l l'→renL π l=some r→Rel2 (VW ρ' V' A') r l':=by
 intro l
 induction l with
 | nil=>intro l' r hr h;simp only [renL,Option.some.injEq] at h;subst h;rw [hr.inv_nil];exact .nil
 | cons v l ih =>
  intro l' r hr h
  obtain ⟨u,t,rfl,h1,h2⟩:=hr.inv_cons
  simp only [renL] at h
  obtain ⟨v',h3,h⟩:=ob_some h
  obtain ⟨r',h4,rfl⟩:=om_some h
  exact .cons (ren_vw hπ v u v' h1 h3) (ih t r' h2 h4)
theorem renEnv_ew {ρ':Nat→Nat} {V' A':Nat→Prop} {π:Nat→Option Nat} (_hπ:∀ b c,A b→π b=some c→A' c∧ρ' c=ρ b∧(V' c↔V b)):∀ (e:Env) (r:Env),renEnv π e=some r→∀ k v',get r k=some v'→∃ v,get e k=some v∧ren π v=some v':=by
 intro e
 induction e with
 | nil=>intro r h k v' hk;simp only [renEnv,Option.some.injEq] at h;subst h;simp [Pav.get] at hk
 | cons x e ih =>
  obtain ⟨j,v⟩:=x
  intro r h k v' hk
  simp only [renEnv] at h
  obtain ⟨w,h1,h⟩:=ob_some h
  obtain ⟨r',h2,rfl⟩:=om_some h
  simp only [Pav.get] at hk ⊢
  split at hk
  · rename_i hj;rw [if_pos hj];cases hk;exact ⟨v,rfl,h1⟩
  · rename_i hj;rw [if_neg hj];exact ih r' h2 k v' hk
theorem renEnv_keys {π:Nat→Option Nat}:∀ (e r:Env),renEnv π e=some r→r.map (·.1)=e.map (·.1):=by
 intro e
 induction e with
 | nil=>intro r h;simp only [renEnv,Option.some.injEq] at h;subst h;rfl
 | cons x e ih =>
  obtain ⟨j,v⟩:=x
  intro r h
  simp only [renEnv] at h
  obtain ⟨w,h1,h⟩:=ob_some h
  obtain ⟨r',h2,rfl⟩:=om_some h
  simp only [List.map_cons,ih r' h2]
theorem Srt.keys {e r:Env} (h:Srt e) (hk:r.map (·.1)=e.map (·.1)):Srt r:=by
 have h1:(e.map (·.1)).Pairwise (fun a b=>b < a):=List.pairwise_map.2 h
 rw [← hk] at h1
 exact List.pairwise_map.1 h1
theorem renOld_get {base:Nat} {π:Nat→Option Nat}:∀ (h r:WHeap),renOld base π h=some r→∀ k o',get r k=some o'→k < base∧∃ o,get h k=some o∧renObj π o=some o':=by
 intro h
 induction h with
 | nil=>intro r h k v' hk;simp only [renOld,Option.some.injEq] at h;subst h;simp [Pav.get] at hk
 | cons x h ih =>
  obtain ⟨j,v⟩:=x
  intro r h k o' hk
  simp only [renOld] at h
  split at h
  · rename_i hj
    obtain ⟨w,h1,h⟩:=ob_some h
    obtain ⟨r',h2,rfl⟩:=om_some h
    simp only [Pav.get] at hk ⊢
    split at hk
    · rename_i hjk;rw [if_pos hjk];cases hk;exact ⟨hjk ▸ hj,v,rfl,h1⟩
    · rename_i hjk;rw [if_neg hjk];exact ih r' h2 k o' hk
  · rename_i hj
    obtain ⟨q1,o,q2,q3⟩:=ih r h k o' hk
    refine ⟨q1,o,?_,q3⟩
    simp only [Pav.get]
    rw [if_neg (by omega)];exact q2
theorem renNew_get {π:Nat→Option Nat} {h:WHeap}:∀ (L:List Nat) (n:Nat) (r:WHeap),renNew π h n L=some r→∀ k o',get r k=some o'→∃ i b o,k=n+i∧L[i]?=some b∧get h b=some o∧renObj π o=some o':=by
 intro L
 induction L with
 | nil=>intro n r h k v' hk;simp only [renNew,Option.some.injEq] at h;subst h;simp [Pav.get] at hk
 | cons b L ih =>
  intro n r h k o' hk
  simp only [renNew] at h
  split at h
  · rename_i o ho
    obtain ⟨w,h1,h⟩:=ob_some h
    obtain ⟨r',h2,rfl⟩:=om_some h
    simp only [Pav.get] at hk
    split at hk
    · rename_i hjk;cases hk;exact ⟨0,b,o,by omega,by simp,ho,h1⟩
    · obtain ⟨i,b',o2,q1,q2,q3,q4⟩:=ih (n+1) r' h2 k o' hk
      exact ⟨i+1,b',o2,by omega,by simpa using q2,q3,q4⟩
  · obtain ⟨i,b',o2,q1,q2,q3,q4⟩:=ih (n+1) r h k o' hk
    exact ⟨i+1,b',o2,by omega,by simpa using q2,q3,q4⟩
theorem get_append {α:Type}:∀ (l r:List (Nat × α)) (k:Nat),get (l++r) k=match get l k with | some x=>some x | none=>get r k:=by
 intro l
 induction l with
 | nil=>intro r k;rfl
 | cons x l ih =>
  intro r k
  obtain ⟨j,v⟩:=x
  simp only [List.cons_append,Pav.get]
  split
  · rfl
  · exact ih r k
theorem mapO_ren {ρ':Nat→Nat} {V' A':Nat→Prop} {π:Nat→Option Nat} (hπ:∀ b c,A b→π b=some c→A' c∧ρ' c=ρ b∧(V' c↔V b)):∀ (es es' r:List (List AV)),Rel2 (Rel2 (VW ρ V A)) es es'→mapO (renL π) es=some r→Rel2 (Rel2 (VW ρ' V' A')) r es':=by
 intro es
 induction es with
 | nil=>intro l' r hr h;simp only [mapO,Option.some.injEq] at h;subst h;rw [hr.inv_nil];exact .nil
 | cons v l ih =>
  intro l' r hr h
  obtain ⟨u,t,rfl,h1,h2⟩:=hr.inv_cons
  simp only [mapO] at h
  obtain ⟨v',h3,h⟩:=ob_some h
  obtain ⟨r',h4,rfl⟩:=om_some h
  exact .cons (renL_vw hπ v u v' h1 h3) (ih t r' h2 h4)
theorem renObj_ow {ρ':Nat→Nat} {V' A':Nat→Prop} {π:Nat→Option Nat} (hπ:∀ b c,A b→π b=some c→A' c∧ρ' c=ρ b∧(V' c↔V b)) {o o2:WObj} {o':AObj} (ho:OW ρ V A o o') (hr:renObj π o=some o2):OW ρ' V' A' o2 o':=by
 cases o with
 | cells z es mu dt =>
  obtain ⟨es',mu',rfl,h2,h3,h4⟩:=ho
  simp only [renObj] at hr
  split at hr
  · rename_i hd
    cases hr
    exact ⟨es',mu',rfl,h2,h3.mono fun e e' he hee=>hee.mono fun x x' hx hxx=>hxx.isC (h4 hd e he x hx),h4⟩
  · rename_i hd
    obtain ⟨es2,h5,rfl⟩:=om_some hr
    exact ⟨es',mu',rfl,h2,mapO_ren hπ es es' es2 h3 h5,fun q=>absurd q hd⟩
 | map es =>
  simp only [renObj,Option.some.injEq] at hr;subst hr
  obtain ⟨es',rfl,h2⟩:=ho
  exact ⟨es',rfl,h2.mono fun x y _ hxy=>⟨hxy.1,hxy.2.data⟩⟩
 | iter s p =>
  simp only [renObj,Option.some.injEq] at hr;subst hr
  exact ho
theorem renumber_sim {base:Nat} {s s2:WSt} {s':St} (S:Sim ρ V A s s') {L:List Nat} (hL:L.Nodup) (hLb:∀ x ∈ L,base≤x) (hr:renumber base s L=some s2) :
 ∃ ρ' V' A',Sim ρ' V' A' s2 s'∧base≤s2.next∧Old base ρ V A ρ' V' A'∧(∀ b,A' b→¬ V' b→∃ c,A c∧¬ V c∧ρ' b=ρ c∧(base≤b→base≤c)):=by
 unfold renumber at hr
 obtain ⟨e,h1,hr⟩:=ob_some hr
 obtain ⟨h1',h2,hr⟩:=ob_some hr
 obtain ⟨h2',h3,rfl⟩:=om_some hr
 let ρ':=fun c=>ρ (pre base L c)
 let A':=fun c=>∃ b,A b∧newNum base L b=some c
 let V':=fun c=>V (pre base L c)∧A' c
 have hπ:∀ b c,A b→newNum base L b=some c→A' c∧ρ' c=ρ b∧(V' c↔V b):=by
  intro b c hb hc
  have:=(newNum_pre hc).1
  exact ⟨⟨b,hb,hc⟩,by show ρ (pre base L c)=ρ b;rw [this],by show V (pre base L c)∧A' c↔V b;rw [this];exact ⟨fun q=>q.1,fun q=>⟨q,b,hb,hc⟩⟩⟩
 have hgetH:∀ c o2,get (h1'++h2') c=some o2→∃ b o,newNum base L b=some c∧get s.heap b=some o∧renObj (newNum base L) o=some o2:=by
  intro c o2 hc
  rw [get_append] at hc
  split at hc
  · rename_i x hx
    cases hc
    obtain ⟨q1,o,q2,q3⟩:=renOld_get _ _ h2 c o2 hx
    exact ⟨c,o,by simp [newNum,q1],q2,q3⟩
  · obtain ⟨i,b,o,rfl,q2,q3,q4⟩:=renNew_get _ _ _ h3 c o2 hc
    refine ⟨b,o,?_,q3,q4⟩
    unfold newNum
    rw [if_neg (by have:=hLb b (List.mem_of_getElem? q2);omega)]
    exact place_at hL q2
 refine ⟨ρ',V',A',⟨S.srt.keys (renEnv_keys _ _ h1),?_,?_,?_⟩,Nat.le_add_right _ _,?_,?_⟩
 · intro k v' hk
   obtain ⟨v,q1,q2⟩:=renEnv_ew (ρ':=ρ') (V':=V') (A':=A') hπ _ _ h1 k v' hk
   obtain ⟨u,q3,q4⟩:=S.env k v q1
   exact ⟨u,q3,ren_vw hπ v u v' q4 q2⟩
 · refine ⟨fun c o hc=>?_,fun c o hc hv=>?_,fun c o hc hv=>?_,?_,?_⟩
   · obtain ⟨b,o1,q1,q2,q3⟩:=hgetH c o hc
     exact ⟨b,S.heap.dom b o1 q2,q1⟩
   · obtain ⟨b,o1,q1,q2,q3⟩:=hgetH c o hc
     have hvb:V b:=((hπ b c (S.heap.dom b o1 q2) q1).2.2).1 hv
     obtain ⟨z,mu,dt,rfl⟩:=S.heap.virt b o1 q2 hvb
     simp only [renObj,mapO,om] at q3
     split at q3 <;> cases q3 <;> exact ⟨_,_,_,rfl⟩
   · obtain ⟨b,o1,q1,q2,q3⟩:=hgetH c o hc
     obtain ⟨p1,p2,p3⟩:=hπ b c (S.heap.dom b o1 q2) q1
     obtain ⟨o',q4,q5⟩:=S.heap.obj b o1 q2 (fun q=>hv (p3.2 q))
     exact ⟨o',by rw [p2];exact q4,renObj_ow hπ q5 q3⟩
   · exact fun c hc=>hc.2
   · rintro c d ⟨b,hb,hbc⟩ ⟨a,ha,had⟩ vc vd hcd
     obtain ⟨_,p2,p3⟩:=hπ b c hb hbc
     obtain ⟨_,r2,r3⟩:=hπ a d ha had
     rw [p2,r2] at hcd
     have:=S.heap.inj b a hb ha (fun q=>vc (p3.2 q)) (fun q=>vd (r3.2 q)) hcd
     subst this
     rw [hbc] at had;cases had;rfl
 · refine ⟨?_,?_⟩
   · rintro c ⟨b,hb,hbc⟩
     rcases (newNum_pre hbc).2.2.2 with q | q
     · exact Nat.lt_of_lt_of_le q (Nat.le_add_right _ _)
     · exact q
   · rintro c ⟨b,hb,hbc⟩ hv
     obtain ⟨_,p2,p3⟩:=hπ b c hb hbc
     rw [p2]
     exact S.lt.p b hb (fun q=>hv (p3.2 q))
 · intro b hb
   have hnb:newNum base L b=some b:=by simp [newNum,hb]
   refine ⟨fun ha=>hπ b b ha hnb,?_⟩
   rintro ⟨c,hc,hcb⟩
   have:=(newNum_pre hcb).2.2.1 hb
   rw [this];exact hc
 · rintro c ⟨b,hb,hbc⟩ hv
   obtain ⟨_,p2,p3⟩:=hπ b c hb hbc
   exact ⟨b,hb,fun q=>hv (p3.2 q),p2,fun q=>by have:=(newNum_pre hbc).2.1;omega⟩
theorem grow_sim {base:Nat}:∀ (g:List (Nat × Nat)) (s:WSt) (s':St) (ρ:Nat→Nat) (V A:Nat→Prop),Sim ρ V A s s'→base≤s.next →
 ∃ V' A',Sim ρ V' A' (growAll g s) s'∧base≤(growAll g s).next∧Old base ρ V A ρ V' A'∧∀ b,A' b→¬ V' b→A b∧¬ V b:=by
 intro g
 induction g with
 | nil=>intro s s' ρ V A S hb;exact ⟨V,A,S,hb,Old.refl base ρ V A,fun b h1 h2=>⟨h1,h2⟩⟩
 | cons x g ih =>
  intro s s' ρ V A S hb
  obtain ⟨k,z⟩:=x
  simp only [growAll]
  split
  · rename_i v hk
    have key:∃ V' A',Sim ρ V' A' (growOne s k z v) s'∧base≤(growOne s k z v).next∧Old base ρ V A ρ V' A'∧∀ b,A' b→¬ V' b→A b∧¬ V b:=by
     unfold growOne
     split
     · rename_i z'
       split
       · rename_i hz
         subst hz
         obtain ⟨v',h1,h2⟩:=S.env k _ hk
         have hn:¬ A s.next:=fun q=>Nat.lt_irrefl _ (S.lt.w _ q)
         have hu:∀ b,A b→addN A s.next b∧ρ b=ρ b∧((V b∨b=s.next)↔V b):=fun b hb=>⟨.inl hb,rfl,⟨fun q=>q.elim id fun e=>absurd (e ▸ hb) hn,.inl⟩⟩
         have hv':v'=.nils∨v'=.ro z' [] true:=by
          rcases h2.ro_inv with ⟨_,rfl⟩ | ⟨es',ex',rfl,hx,hr,_⟩
          · exact .inl rfl
          · rw [hr.inv_nil,hx rfl];exact .inr rfl
         refine ⟨fun b=>V b∨b=s.next,addN A s.next,⟨S.srt.put _ _,?_,?_,?_⟩,by simp only;omega,?_,?_⟩
         · intro j u hj
           simp only at hj
           rw [get_putE] at hj
           split at hj
           · rename_i hkj
             cases hj;subst hkj
             exact ⟨v',h1,.slv _ _ _ _ (.inr rfl) (.inr rfl) hv'⟩
           · exact (S.env.mono hu) j u hj
         · have H:=S.heap
           refine ⟨fun b o hb=>?_,fun b o hb hv=>?_,fun b o hb hv=>?_,?_,?_⟩
           · rw [get_put] at hb
             split at hb
             · rename_i q;exact .inr q.symm
             · exact .inl (H.dom b o hb)
           · rw [get_put] at hb
             split at hb
             · cases hb;exact ⟨_,_,_,rfl⟩
             · rename_i q
               rcases hv with hv | hv
               · exact H.virt b o hb hv
               · exact absurd hv.symm q
           · rw [get_put] at hb
             split at hb
             · rename_i q;exact absurd (.inr q.symm) hv
             · obtain ⟨o',q1,q2⟩:=H.obj b o hb (fun q=>hv (.inl q))
               exact ⟨o',q1,q2.mono hu⟩
           · rintro b (hb | hb)
             · exact .inl (H.sub b hb)
             · exact .inr hb
           · rintro b c (hb | hb) (hc | hc) vb vc hbc
             · exact H.inj b c hb hc (fun q=>vb (.inl q)) (fun q=>vc (.inl q)) hbc
             · exact absurd (.inr hc) vc
             · exact absurd (.inr hb) vb
             · exact absurd (.inr hb) vb
         · refine ⟨?_,?_⟩
           · rintro b (hb | rfl)
             · exact Nat.lt_succ_of_lt (S.lt.w b hb)
             · exact Nat.lt_succ_self _
           · rintro b (hb | rfl) hv
             · exact S.lt.p b hb (fun q=>hv (.inl q))
             · exact absurd (.inr rfl) hv
         · intro b hbb
           exact ⟨hu b,fun q=>q.elim id fun e=>by omega⟩
         · rintro b (hb | rfl) hv
           · exact ⟨hb,fun q=>hv (.inl q)⟩
           · exact absurd (.inr rfl) hv
       · exact ⟨V,A,S,hb,Old.refl base ρ V A,fun b h1 h2=>⟨h1,h2⟩⟩
     · exact ⟨V,A,S,hb,Old.refl base ρ V A,fun b h1 h2=>⟨h1,h2⟩⟩
    obtain ⟨V1,A1,S1,b1,o1,n1⟩:=key
    obtain ⟨V2,A2,S2,b2,o2,n2⟩:=ih _ s' ρ V1 A1 S1 b1
    exact ⟨V2,A2,S2,b2,o1.trans o2,fun b q1 q2=>by obtain ⟨q3,q4⟩:=n2 b q1 q2;exact n1 b q3 q4⟩
  · exact ih s s' ρ V A S hb
theorem testBit_bitsOf (k:Nat):∀ l:List Nat,(bitsOf l).testBit k=l.contains k:=by
 intro l
 induction l with
 | nil=>simp [bitsOf]
 | cons a l ih =>
  simp only [bitsOf,Nat.testBit_or,ih,Nat.testBit_two_pow,List.contains_cons]
  congr 1
  by_cases h:a=k
  · subst h;simp
  · have:(k == a)=false:=by simpa using Ne.symm h
    rw [this];simpa using h
theorem canon_sim {base:Nat} {a:Ann} {s s2:WSt} {s':St} (S:Sim ρ V A s s') (hb:base≤s.next) (hc:canon base a s=some s2) {s1:St} (hs1:s1=s'∨s1=dropEnv (maskOf a) s') :
 ∃ ρ' V' A',Sim ρ' V' A' s2 s1∧base≤s2.next∧Old base ρ V A ρ' V' A'∧∀ b,A' b→¬ V' b→∃ c,A c∧¬ V c∧ρ' b=ρ c∧(base≤b→base≤c):=by
 cases hcn:a.cn with
 | false =>
  have e1:maskOf a=0:=by simp only [maskOf,hcn]
  simp only [canon,hcn,Option.some.injEq] at hc
  subst hc
  have e2:s1=s':=by
   rcases hs1 with h | h
   · exact h
   · rw [h,e1];rfl
  subst e2
  exact ⟨ρ,V,A,S,hb,Old.refl base ρ V A,fun b h1 h2=>⟨b,h1,h2,rfl,id⟩⟩
 | true =>
 have S0:Sim ρ V A ⟨keepL a.live s.env,s.heap,s.next⟩ s1:=by
  have ek:∀ k v,get (keepL a.live s.env) k=some v→get s.env k=some v∧a.live.contains k=true:=by
   intro k v hk
   obtain ⟨q1,q2⟩:=keepL_sub s.env a.live
   have hm:=get_mem hk
   exact ⟨S.srt.get (q1.subset hm),by simpa using q2 _ hm⟩
  have ks:Srt (keepL a.live s.env):=S.srt.sublist (keepL_sub s.env a.live).1
  rcases hs1 with rfl | rfl
  · exact ⟨ks,fun k v hk=>S.env k v (ek k v hk).1,S.heap,S.lt⟩
  · refine ⟨ks,fun k v hk=>?_,S.heap,S.lt⟩
    obtain ⟨h1,h2⟩:=ek k v hk
    obtain ⟨v',h3,h4⟩:=S.env k v h1
    refine ⟨v',?_,h4⟩
    simp only [dropEnv,maskOf,hcn]
    split
    · exact h3
    · rw [get_keep,testBit_bitsOf,h2,if_pos rfl];exact h3
 obtain ⟨V1,A1,S1,b1,o1,n1⟩:=grow_sim (base:=base) a.grow _ s1 ρ V A S0 hb
 simp only [canon,hcn] at hc
 cases hnr:noRen a.grow with
 | true =>
  rw [hnr] at hc
  simp only [Option.some.injEq] at hc
  subst hc
  exact ⟨ρ,V1,A1,S1,b1,o1,fun b h1 h2=>by
   obtain ⟨c4,c5⟩:=n1 b h1 h2
   exact ⟨b,c4,c5,rfl,id⟩⟩
 | false =>
 rw [hnr] at hc
 simp only [canonG] at hc
 obtain ⟨q1,q2⟩:=close_ok (base:=base) (h:=(growAll a.grow ⟨keepL a.live s.env,s.heap,s.next⟩).heap) 1000 (envRefs (growAll a.grow ⟨keepL a.live s.env,s.heap,s.next⟩).env++oldRefs base (growAll a.grow ⟨keepL a.live s.env,s.heap,s.next⟩).heap) [] (by simp) (fun x hx=>by cases hx)
 obtain ⟨ρ',V',A',S2,b2,o2,n2⟩:=renumber_sim S1 q1 q2 hc
 exact ⟨ρ',V',A',S2,b2,o1.trans o2,fun b h1 h2=>by
  obtain ⟨c,c1,c2,c3⟩:=n2 b h1 h2
  obtain ⟨c4,c5⟩:=n1 c c1 c2
  exact ⟨c,c4,c5,c3⟩⟩
end
end Go.Pw
end
section
namespace Go.Pw
open Go Go.Pav
variable {ρ:Nat→Nat} {V A:Nat→Prop}
theorem markRow_vw {a b:List AV} (hl:a.length=b.length) (hr:∀ (j:Nat) (x x':AV),a[j]?=some x→b[j]?=some x'→VW ρ V A x x') (h:markRow a=true):markRow b=true:=by
 unfold markRow at h
 split at h
 · match b,hl with
   | [y],_ =>
    have:=hr 0 _ y rfl rfl
    cases this;rfl
 · cases h
theorem marks_vw {x u:AV} (h:VW ρ V A x u) (hx:marksOk x=true):marksOk u=true:=by
 cases h with
 | nils=>rfl
 | ronil=>rfl
 | ro z es es' ex ex' hc hl hxx he hr =>
  simp only [marksOk,Bool.and_eq_true,decide_eq_true_eq,List.all_eq_true] at hx ⊢
  refine ⟨hx.1,fun e' he'=>?_⟩
  obtain ⟨i,hi,rfl⟩:=List.mem_iff_getElem.1 he'
  have hi2:i < es.length:=by omega
  exact markRow_vw (he i _ _ (List.getElem?_eq_getElem hi2) (List.getElem?_eq_getElem hi)) (fun j x x' h1 h2=>hr i _ _ j x x' (List.getElem?_eq_getElem hi2) (List.getElem?_eq_getElem hi) h1 h2) (hx.2 _ (List.getElem_mem hi2))
 | _=>simp [marksOk] at hx
theorem rowKey_vw {a b:List AV} {k:Int} (hl:a.length=b.length) (hr:∀ (j:Nat) (x x':AV),a[j]?=some x→b[j]?=some x'→VW ρ V A x x') (h:rowKey a=some k):rowKey b=some k:=by
 unfold rowKey at h
 split at h
 · match b,hl with
   | [y0,y1,y2,y3,y4,y5],_ =>
    have h0:=hr 0 _ y0 rfl rfl
    have h1:=hr 1 _ y1 rfl rfl
    have h2:=hr 2 _ y2 rfl rfl
    have h3:=hr 3 _ y3 rfl rfl
    have h4:=hr 4 _ y4 rfl rfl
    have h5:=hr 5 _ y5 rfl rfl
    cases h0;cases h1;cases h2;cases h4;cases h5
    split at h
    · rename_i hm
      simp only [rowKey,marks_vw h3 hm,if_true]
      exact h
    · cases h
 · cases h
theorem mapO_vw:∀ {es es':List (List AV)} {l:List Int},es.length=es'.length→(∀ (i:Nat) (e e':List AV),es[i]?=some e→es'[i]?=some e'→e.length=e'.length) →
 (∀ (i:Nat) (e e':List AV) (j:Nat) (x x':AV),es[i]?=some e→es'[i]?=some e'→e[j]?=some x→e'[j]?=some x'→VW ρ V A x x')→mapO rowKey es=some l→mapO rowKey es'=some l
 | [],[],_,_,_,_,h=>h
 | a::es,b::es',l,hl,he,hr,h=>by
  simp only [mapO] at h ⊢
  obtain ⟨k,h1,h⟩:=ob_some h
  obtain ⟨r,h2,h⟩:=om_some h
  rw [rowKey_vw (he 0 a b rfl rfl) (fun j x x'=>hr 0 a b j x x' rfl rfl) h1,ob,mapO_vw (by simpa using hl) (fun i e e' h1 h2=>he (i+1) e e' (by simpa using h1) (by simpa using h2)) (fun i e e' j x x' h1 h2=>hr (i+1) e e' j x x' (by simpa using h1) (by simpa using h2)) h2,om,h]
 | [],_::_,_,hl,_,_,_=>by simp at hl
 | _::_,[],_,hl,_,_,_=>by simp at hl
theorem aftKeys_vw {x u:AV} {l:List Int} (h:VW ρ V A x u) (hx:aftKeys x=some l):aftKeys u=some l:=by
 cases h with
 | agg cs cs' hl hr =>
  unfold aftKeys at hx
  split at hx
  · rename_i e;cases e
    match cs',hl with
    | [y],_ =>
     have:=hr 0 _ y rfl rfl
     cases this;exact hx
  · rename_i z es ex e;cases e
    match cs',hl with
    | [y],_ =>
     have:=hr 0 _ y rfl rfl
     split at hx
     · rename_i hz
       cases this with
       | ronil=>simpa [aftKeys,mapO] using hx
       | ro z es es' ex ex' hc hl2 hxx he2 hr2 =>
        simp only [aftKeys]
        rw [if_pos ⟨hz.1,by omega⟩]
        exact mapO_vw hl2 he2 hr2 hx
     · cases hx
  · cases hx
 | _=>simp [aftKeys] at hx
theorem primAfter_vw {a b:List AV} (hl:a.length=b.length) (hr:∀ (j:Nat) (x x':AV),a[j]?=some x→b[j]?=some x'→VW ρ V A x x') {v:AV} (h:primAfter a=some v):primAfter b=some v∧VW ρ V A v v:=by
 unfold primAfter at h
 split at h
 · match b,hl with
   | [y0,y1,y2],_ =>
    have h0:=hr 0 _ y0 rfl rfl
    have h1:=hr 1 _ y1 rfl rfl
    have h2:=hr 2 _ y2 rfl rfl
    obtain ⟨kb,q1,h⟩:=ob_some h
    obtain ⟨kn,q2,h⟩:=om_some h
    subst h
    cases h2 with
    | agg cs cs' hl2 hr2 =>
     match cs',hl2 with
     | [z0,z1],_ =>
      have g0:=hr2 0 _ z0 rfl rfl
      have g1:=hr2 1 _ z1 rfl rfl
      cases g0;cases g1
      refine ⟨by simp only [primAfter,aftKeys_vw h0 q1,aftKeys_vw h1 q2,ob,om],.agg _ _ rfl fun j x x' e1 e2=>?_⟩
      match j with
      | 0=>cases e1;cases e2;exact .int _ _
      | 1=>cases e1;cases e2;exact .int _ _
      | j+2=>simp at e1
 · cases h
mutual
theorem same_vw:∀ {a b u:AV} {A:Nat→Prop},VW ρ V A a u→same a b=true→same u b=true
 | .nilp,b,u,A,hv,h=>by cases hv;exact h
 | .bool _,b,u,A,hv,h=>by cases hv;exact h
 | .int _ _,b,u,A,hv,h=>by cases hv;exact h
 | .rop cs,.rop bs,u,A,hv,h=>by
  cases hv with
  | rop _ cs' hl hr =>
   simp only [same] at h ⊢
   exact sameL_vw hl hr h
 | .agg cs,.agg bs,u,A,hv,h=>by
  cases hv with
  | agg _ cs' hl hr =>
   simp only [same] at h ⊢
   exact sameL_vw hl hr h
 | .fn f cs,.fn g bs,u,A,hv,h=>by
  cases hv with
  | fn _ _ cs' hl hr =>
   simp only [same,Bool.and_eq_true] at h ⊢
   exact ⟨h.1,sameL_vw hl hr h.2⟩
 | .ro z es ex,.ro z' bs ex',u,A,hv,h=>by
  simp only [same,Bool.and_eq_true] at h
  cases hv with
  | ronil=>simp at h
  | ro _ _ es' _ ex2 hc hl hx he hr =>
   simp only [same,Bool.and_eq_true]
   refine ⟨h.1,hx h.2.1,h.2.2.1,?_,sameR_vw hl he hr h.2.2.2.2⟩
   cases es' with
   | nil =>
    obtain rfl:es=[]:=List.length_eq_zero_iff.1 hl
    simp at h
   | cons _ _=>rfl
 | .rop _,.undef,_,_,_,h | .rop _,.bool _,_,_,_,h | .rop _,.int _ _,_,_,_,h | .rop _,.str _,_,_,_,h | .rop _,.nilp,_,_,_,h | .rop _,.nils,_,_,_,h | .rop _,.nilm,_,_,_,h | .rop _,.nilf,_,_,_,h | .rop _,.ro _ _ _,_,_,_,h | .rop _,.ptr _ _ _,_,_,_,h | .rop _,.sl _ _ _ _ _ _,_,_,_,h | .rop _,.map _,_,_,_,h | .rop _,.fn _ _,_,_,_,h | .rop _,.agg _,_,_,_,h | .rop _,.tup _,_,_,_,h=>by simp [same] at h
 | .agg _,.undef,_,_,_,h | .agg _,.bool _,_,_,_,h | .agg _,.int _ _,_,_,_,h | .agg _,.str _,_,_,_,h | .agg _,.nilp,_,_,_,h | .agg _,.nils,_,_,_,h | .agg _,.nilm,_,_,_,h | .agg _,.nilf,_,_,_,h | .agg _,.ro _ _ _,_,_,_,h | .agg _,.ptr _ _ _,_,_,_,h | .agg _,.sl _ _ _ _ _ _,_,_,_,h | .agg _,.map _,_,_,_,h | .agg _,.fn _ _,_,_,_,h | .agg _,.rop _,_,_,_,h | .agg _,.tup _,_,_,_,h=>by simp [same] at h
 | .fn _ _,.undef,_,_,_,h | .fn _ _,.bool _,_,_,_,h | .fn _ _,.int _ _,_,_,_,h | .fn _ _,.str _,_,_,_,h | .fn _ _,.nilp,_,_,_,h | .fn _ _,.nils,_,_,_,h | .fn _ _,.nilm,_,_,_,h | .fn _ _,.nilf,_,_,_,h | .fn _ _,.ro _ _ _,_,_,_,h | .fn _ _,.ptr _ _ _,_,_,_,h | .fn _ _,.sl _ _ _ _ _ _,_,_,_,h | .fn _ _,.map _,_,_,_,h | .fn _ _,.agg _,_,_,_,h | .fn _ _,.rop _,_,_,_,h | .fn _ _,.tup _,_,_,_,h=>by simp [same] at h
 | .ro _ _ _,.undef,_,_,_,h | .ro _ _ _,.bool _,_,_,_,h | .ro _ _ _,.int _ _,_,_,_,h | .ro _ _ _,.str _,_,_,_,h | .ro _ _ _,.nilp,_,_,_,h | .ro _ _ _,.nils,_,_,_,h | .ro _ _ _,.nilm,_,_,_,h | .ro _ _ _,.nilf,_,_,_,h | .ro _ _ _,.fn _ _,_,_,_,h | .ro _ _ _,.ptr _ _ _,_,_,_,h | .ro _ _ _,.sl _ _ _ _ _ _,_,_,_,h | .ro _ _ _,.map _,_,_,_,h | .ro _ _ _,.agg _,_,_,_,h | .ro _ _ _,.rop _,_,_,_,h | .ro _ _ _,.tup _,_,_,_,h=>by simp [same] at h
 | .undef,b,_,_,_,h | .str _,b,_,_,_,h | .nils,b,_,_,_,h | .nilm,b,_,_,_,h | .nilf,b,_,_,_,h | .ptr _ _ _,b,_,_,_,h | .sl _ _ _ _ _ _,b,_,_,_,h | .map _,b,_,_,_,h | .tup _,b,_,_,_,h=>by cases b <;> simp [same] at h
theorem sameL_vw:∀ {a b u:List AV} {A:Nat→Prop},a.length=u.length→(∀ (j:Nat) (x x':AV),a[j]?=some x→u[j]?=some x'→VW ρ V A x x')→sameL a b=true→sameL u b=true
 | [],[],[],_,_,_,_=>rfl
 | x::a,y::b,z::u,A,hl,hr,h=>by
  simp only [sameL,Bool.and_eq_true] at h ⊢
  exact ⟨same_vw (hr 0 x z rfl rfl) h.1,sameL_vw (by simpa using hl) (fun j x x' h1 h2=>hr (j+1) x x' (by simpa using h1) (by simpa using h2)) h.2⟩
 | [],_::_,_,_,_,_,h=>by simp [sameL] at h
 | _::_,[],_,_,_,_,h=>by simp [sameL] at h
 | [],[],_::_,_,hl,_,_=>by simp at hl
 | _::_,_::_,[],_,hl,_,_=>by simp at hl
theorem sameR_vw:∀ {a b u:List (List AV)} {A:Nat→Prop},a.length=u.length→(∀ (i:Nat) (e e':List AV),a[i]?=some e→u[i]?=some e'→e.length=e'.length) →
 (∀ (i:Nat) (e e':List AV) (j:Nat) (x x':AV),a[i]?=some e→u[i]?=some e'→e[j]?=some x→e'[j]?=some x'→VW ρ V A x x')→sameR a b=true→sameR u b=true
 | [],[],[],_,_,_,_,_=>rfl
 | x::a,y::b,z::u,A,hl,he,hr,h=>by
  simp only [sameR,Bool.and_eq_true] at h ⊢
  exact ⟨sameL_vw (he 0 x z rfl rfl) (fun j p p' h1 h2=>hr 0 x z j p p' rfl rfl h1 h2) h.1,sameR_vw (by simpa using hl) (fun i e e' h1 h2=>he (i+1) e e' (by simpa using h1) (by simpa using h2)) (fun i e e' j x x' h1 h2=>hr (i+1) e e' j x x' (by simpa using h1) (by simpa using h2)) h.2⟩
 | [],_::_,_,_,_,_,_,h=>by simp [sameR] at h
 | _::_,[],_,_,_,_,_,h=>by simp [sameR] at h
 | [],[],_::_,_,hl,_,_,_=>by simp at hl
 | _::_,_::_,[],_,hl,_,_,_=>by simp at hl
end
theorem VW.aggs {l:List AV} (h:∀ x ∈ l,VW ρ V A x x):VW ρ V A (.agg l) (.agg l):=.agg _ _ rfl fun j x x' h1 h2=>by rw [h1] at h2;cases h2;exact h x (List.mem_of_getElem? h1)
theorem VW.tups {l:List AV} (h:∀ x ∈ l,VW ρ V A x x):VW ρ V A (.tup l) (.tup l):=.tup _ _ rfl fun j x x' h1 h2=>by rw [h1] at h2;cases h2;exact h x (List.mem_of_getElem? h1)
theorem VW.rops {l:List AV} (h:∀ x ∈ l,VW ρ V (fun _=>False) x x):VW ρ V A (.rop l) (.rop l):=.rop _ _ rfl fun j x x' h1 h2=>by rw [h1] at h2;cases h2;exact h x (List.mem_of_getElem? h1)
theorem VW.ros {z:Nat} {l:List (List AV)} {ex:Bool} (h:∀ e ∈ l,∀ x ∈ e,Pw.isC x=true∧VW ρ V (fun _=>False) x x):VW ρ V A (.ro z l ex) (.ro z l ex) :=
 .ro _ _ _ _ _ (fun e he x hx=>(h e he x hx).1) rfl id (fun i e e' h1 h2=>by rw [h1] at h2;cases h2;rfl)
  (fun i e e' j x x' h1 h2 h3 h4=>by rw [h1] at h2;cases h2;rw [h3] at h4;cases h4;exact (h e (List.mem_of_getElem? h1) x (List.mem_of_getElem? h3)).2)
theorem ints_vw {l:List Int}:∀ x ∈ l.map (AV.int .i64),isC x=true∧VW ρ V A x x:=by
 intro x hx
 obtain ⟨n,_,rfl⟩:=List.mem_map.1 hx
 exact ⟨rfl,.int _ _⟩
theorem leaf_vw (a b c d:Int):VW ρ V A (.rop [.nilp,.nilp,.int .i64 a,.int .i64 b,.int .i64 c,.int .i64 d]) (.rop [.nilp,.nilp,.int .i64 a,.int .i64 b,.int .i64 c,.int .i64 d]):=by
 refine .rops fun x hx=>?_
 simp only [List.mem_cons,List.not_mem_nil,or_false] at hx
 rcases hx with rfl | rfl | rfl | rfl | rfl | rfl
 · exact .nilp
 · exact .nilp
 all_goals exact .int _ _
theorem pRes_vw (k:Nat):VW ρ V A (pRes k) (pRes k):=by
 unfold pRes
 split
 · refine .ros fun e he=>?_
   simp only [List.mem_cons,List.not_mem_nil,or_false] at he
   rcases he with rfl | rfl
   · exact ints_vw (l:=[1])
   · exact ints_vw (l:=[2])
 · split
   · refine .tups fun x hx=>?_
     simp only [List.mem_cons,List.not_mem_nil,or_false] at hx
     rcases hx with rfl | rfl
     · refine .ros fun e he=>?_
       simp only [List.mem_cons,List.not_mem_nil,or_false] at he
       subst he
       exact ints_vw (l:=[7,-1])
     · exact .int _ _
   · refine .tups fun x hx=>?_
     simp only [List.mem_cons,List.not_mem_nil,or_false] at hx
     rcases hx with rfl | rfl
     · refine .aggs fun x hx=>?_
       simp only [List.mem_cons,List.not_mem_nil,or_false] at hx
       rcases hx with rfl | rfl
       · refine .rops fun x hx=>?_
         simp only [List.mem_cons,List.not_mem_nil,or_false] at hx
         rcases hx with rfl | rfl | rfl | rfl | rfl | rfl
         · exact leaf_vw _ _ _ _
         · exact leaf_vw _ _ _ _
         all_goals exact .int _ _
       · refine .ros fun e he=>?_
         simp only [List.mem_cons,List.not_mem_nil,or_false] at he
         subst he
         exact ints_vw (l:=[1,3])
     · exact .int _ _
theorem primArgs_len:∀ (n i:Nat) (e:Env),(primArgs n i e).length=n
 | 0,_,_=>rfl
 | n+1,i,e=>by simp only [primArgs,List.length_cons,primArgs_len n]
theorem primArgs_get:∀ (n i j:Nat) (e:Env),j < n→(primArgs n i e)[j]?=some ((get e (i+j)).getD .undef)
 | 0,_,_,_,h=>by omega
 | n+1,i,0,e,_=>rfl
 | n+1,i,j+1,e,h=>by
  simp only [primArgs,List.getElem?_cons_succ]
  rw [primArgs_get n (i+1) j e (by omega)]
  congr 3;omega
theorem prim_vw {e e':Env} (he:EW ρ V A e e') {k:Nat} {v:AV} (h:primF k (primArgs (primN k) 0 e)=some v):primF k (primArgs (primN k) 0 e')=some v∧VW ρ V A v v:=by
 unfold primF at h ⊢
 split at h
 · rename_i hk
   rw [if_pos hk]
   refine primAfter_vw (by rw [primArgs_len,primArgs_len]) (fun j x x' h1 h2=>?_) h
   have hj:j < primN k:=by have:=(List.getElem?_eq_some_iff.1 h1).1;rwa [primArgs_len] at this
   rw [primArgs_get _ _ _ _ hj] at h1 h2
   cases h1;cases h2
   cases hg:get e (0+j) with
   | none=>exact .undef _
   | some y =>
    obtain ⟨u,q1,q2⟩:=he _ _ hg
    rw [q1];exact q2
 · rename_i hk
   rw [if_neg hk]
   split at h
   · rename_i hs
     cases h
     have hh:=sameL_vw (ρ:=ρ) (V:=V) (A:=A) (a:=primArgs (primN k) 0 e) (u:=primArgs (primN k) 0 e') (by rw [primArgs_len,primArgs_len]) (fun j x x' h1 h2=>by
      have hj:j < primN k:=by have:=(List.getElem?_eq_some_iff.1 h1).1;rwa [primArgs_len] at this
      rw [primArgs_get _ _ _ _ hj] at h1 h2
      cases h1;cases h2
      cases hg:get e (0+j) with
      | none=>exact .undef _
      | some y =>
       obtain ⟨u,q1,q2⟩:=he _ _ hg
       rw [q1];exact q2) hs
     rw [if_pos hh]
     exact ⟨rfl,pRes_vw k⟩
   · cases h
end Go.Pw
end
section
namespace Go.Pw
open Go Go.Pav
def Hi (base m0:Nat) (ρ:Nat→Nat) (V A:Nat→Prop):Prop:=∀ b,A b→¬ V b→base≤b→m0≤ρ b
structure Res (base m0:Nat) (ρ:Nat→Nat) (V A:Nat→Prop) (s1:WSt) (s1':St) (ρ':Nat→Nat) (V' A':Nat→Prop):Prop where
 sim:Sim ρ' V' A' s1 s1'
 base_le:base≤s1.next
 old:Old base ρ V A ρ' V' A'
 hi:Hi base m0 ρ' V' A'
section
variable {C:WProg} {run:WRun} {run':Run} {base m0:Nat}
theorem Res.canon {ρ:Nat→Nat} {V A:Nat→Prop} {s1 s2:WSt} {s1' s2':St} {ρ':Nat→Nat} {V' A':Nat→Prop} (R:Res base m0 ρ V A s1 s1' ρ' V' A') {a:Ann} (hc:canon base a s1=some s2)
 (hs:s2'=s1'∨s2'=dropEnv (maskOf a) s1'):∃ ρ' V' A',Res base m0 ρ V A s2 s2' ρ' V' A':=by
 obtain ⟨ρ2,V2,A2,S2,b2,o2,n2⟩:=canon_sim R.sim R.base_le hc hs
 refine ⟨ρ2,V2,A2,S2,b2,R.old.trans o2,fun b h1 h2 h3=>?_⟩
 obtain ⟨c,c1,c2,c3,c4⟩:=n2 b h1 h2
 rw [c3]
 exact R.hi c c1 c2 (c4 h3)
theorem Res.frz {ρ:Nat→Nat} {V A:Nat→Prop} {k:Nat} {s1 s2:WSt} {s1':St} {ρ':Nat→Nat} {V' A':Nat→Prop} (R:Res base m0 ρ V A s1 s1' ρ' V' A') (hc:frzSlotW k s1=some s2) :
 ∃ s2',frzSlot k s1'=some s2'∧s2'.next=s1'.next∧Res base m0 ρ V A s2 s2' ρ' V' A':=by
 obtain ⟨v,hv,hc⟩:=ob_some hc
 obtain ⟨x,hx,rfl⟩:=om_some hc
 obtain ⟨u,hu,hr⟩:=R.sim.env k v hv
 obtain ⟨y,hy,hd⟩:=frz_vw R.sim.heap _ _ _ _ hr hx
 have hm:=marks_ok R.sim.heap (reachW s1.heap frzDepth v) (reach s1'.heap frzDepth u) (fun b' hb'=>reach_vw R.sim.heap _ _ _ _ hr hx b' hb')
 refine ⟨⟨setDst s1'.env (some k) y,applyUpd s1'.heap (markFrozen s1'.heap (reach s1'.heap frzDepth u)),s1'.next⟩,by simp only [frzSlot,hu,ob,hy,om],rfl,⟨?_,R.base_le,R.old,R.hi⟩⟩
 exact ⟨R.sim.srt.setDst (some k) x,R.sim.env.setDst (d:=some k) (hd.mono fun _ q=>q.elim),hm.1,R.sim.lt⟩
theorem Res.frzs {ρ:Nat→Nat} {V A:Nat→Prop} {ρ':Nat→Nat} {V' A':Nat→Prop}:∀ (l:List Nat) {s1 s2:WSt} {s1':St},Res base m0 ρ V A s1 s1' ρ' V' A'→frzSlotsW l s1=some s2 →
 ∃ s2',frzSlots l s1'=some s2'∧s2'.next=s1'.next∧Res base m0 ρ V A s2 s2' ρ' V' A'
 | [],s1,s2,s1',R,h=>by simp only [frzSlotsW,Option.some.injEq] at h;subst h;exact ⟨s1',rfl,rfl,R⟩
 | k::l,s1,s2,s1',R,h=>by
  simp only [frzSlotsW] at h
  obtain ⟨s3,h1,h2⟩:=ob_some h
  obtain ⟨s3',h3,e3,R3⟩:=R.frz h1
  obtain ⟨s2',h4,e4,R4⟩:=Res.frzs l R3 h2
  exact ⟨s2',by simp only [frzSlots,h3,ob];exact h4,e4.trans e3,R4⟩
theorem Keeps.old {ρ:Nat→Nat} {V A:Nat→Prop} {ρ':Nat→Nat} {V' A':Nat→Prop} (k:Keeps ρ V A ρ' V' A') (hn:∀ b,b < base→A' b→A b):Old base ρ V A ρ' V' A':=fun b hb=>⟨k b,hn b hb⟩
theorem ops_sim (hr:RunSim run run'):∀ (l:List COper) (s s1:WSt),(l.all fun o=>okOp o.op)=true→evOpsW C run l s=some s1→∀ (s':St) (ρ:Nat→Nat) (V A:Nat→Prop),Sim ρ V A s s'→base≤s.next→Hi base m0 ρ V A→m0≤s'.next →
 ∃ s1' ρ' V' A',evOps (erProg C) run' (l.map erOper) s'=some s1'∧Res base m0 ρ V A s1 s1' ρ' V' A'∧m0≤s1'.next:=by
 intro l
 induction l with
 | nil =>
  intro s s1 _ he s' ρ V A S hb hi hm
  simp only [evOpsW,Option.some.injEq] at he;subst he
  exact ⟨s',ρ,V,A,rfl,⟨S,hb,Old.refl base ρ V A,hi⟩,hm⟩
 | cons o l ih =>
  intro s s1 hok he s' ρ V A S hb hi hm
  simp only [List.all_cons,Bool.and_eq_true] at hok
  simp only [evOpsW] at he
  obtain ⟨d,h1,he⟩:=ob_some he
  have lt':Lts ρ V A (s.next+1) (s'.next+1):=⟨fun b hb=>Nat.lt_succ_of_lt (S.lt.w b hb),fun b hb hv=>Nat.lt_succ_of_lt (S.lt.p b hb hv)⟩
  obtain ⟨d',ρ1,V1,A1,h2,O⟩:=op_sim hr S.env S.heap lt' (nid:=s.next) (mid:=s'.next) (fun q=>Nat.lt_irrefl _ (S.lt.w _ q)) (Nat.lt_succ_self _) (fun b hb hv=>Nat.ne_of_lt (S.lt.p b hb hv)) (Nat.lt_succ_self _) hok.1 h1
  have S1:Sim ρ1 V1 A1 ⟨setD s.env o.dst d.v,d.h,d.n⟩ ⟨setDst s'.env o.dst d'.v,d'.h,d'.n⟩:=⟨S.srt.setDst _ _,(S.env.mono O.keeps).setDst O.v,O.h,O.lt⟩
  have hi1:Hi base m0 ρ1 V1 A1:=by
   intro b q1 q2 q3
   rcases O.newp b q1 q2 with ⟨q4,q5⟩ | q4 | q4
   · rw [q5];exact hi b q4 (fun q=>q2 ((O.keeps b q4).2.2.2 q)) q3
   · omega
   · omega
  have hb1:base≤d.n:=by have:=O.next;omega
  have hm1:m0≤d'.n:=by have:=O.nextp;omega
  obtain ⟨s1',ρ2,V2,A2,h3,R,h4⟩:=ih ⟨setD s.env o.dst d.v,d.h,d.n⟩ s1 hok.2 he _ ρ1 V1 A1 S1 hb1 hi1 hm1
  have o1:Old base ρ V A ρ1 V1 A1:=Keeps.old O.keeps fun b hbb hA=>by
   rcases O.new b hA with q | q | q
   · exact q
   · omega
   · omega
  refine ⟨s1',ρ2,V2,A2,?_,⟨R.sim,R.base_le,o1.trans R.old,R.hi⟩,h4⟩
  simp only [List.map_cons,evOps]
  have:(erOper o).dst=o.dst:=rfl
  rw [h2]
  simp only [ob,this]
  exact h3
def DidRel (ρ:Nat→Nat) (V A:Nat→Prop) (m1 m2:Nat) (d:WDid) (d':Did):Prop :=
 (d'.bar=true→d.bar=true∧d.wr=[])∧(∀ b ∈ d'.rd,∃ c ∈ d.rd,b=ρ c∧¬ V c∧A c)∧(∀ b ∈ d'.wr,(∃ c ∈ wrOf d,b=ρ c∧¬ V c∧A c)∨∃ k w,d.bar=true∧d.wr=k::w∧m1≤b∧b < m2∧∀ c,A c→¬ V c→ρ c=b→k≤c)
theorem DidRel.mono {ρ ρ':Nat→Nat} {V A V' A':Nat→Prop} {m1 m2 m2' mid:Nat} {d:WDid} {d':Did} (h:DidRel ρ V A m1 m2 d d') (k:Keeps ρ V A ρ' V' A') (hm:m2≤m2') (hmid:mid < m1)
 (hnew:∀ b,A' b→¬ V' b→(A b∧ρ' b=ρ b)∨ρ' b=mid∨m2≤ρ' b):DidRel ρ' V' A' m1 m2' d d':=by
 refine ⟨h.1,fun b hb=>?_,fun b hb=>?_⟩
 · obtain ⟨c,h1,h2,h3,h4⟩:=h.2.1 b hb
   obtain ⟨k1,k2,k3⟩:=k c h4
   exact ⟨c,h1,by rw [k2];exact h2,fun q=>h3 (k3.1 q),k1⟩
 · rcases h.2.2 b hb with ⟨c,h1,h2,h3,h4⟩ | ⟨j,w,h1,h2,h3,h4,h5⟩
   · obtain ⟨k1,k2,k3⟩:=k c h4
     exact .inl ⟨c,h1,by rw [k2];exact h2,fun q=>h3 (k3.1 q),k1⟩
   · refine .inr ⟨j,w,h1,h2,h3,by omega,fun c hA hV hc=>?_⟩
     rcases hnew c hA hV with ⟨q1,q2⟩ | q | q
     · exact h5 c q1 (fun q=>hV ((k c q1).2.2.2 q)) (by rw [← q2];exact hc)
     · omega
     · omega
theorem meets_vw {ρ:Nat→Nat} {V A:Nat→Prop} (inj:∀ b c,A b→A c→¬ V b→¬ V c→ρ b=ρ c→b=c) {a b:List Nat} {a' b':List Nat}
 (ha:∀ x ∈ a',∃ c ∈ a,x=ρ c∧¬ V c∧A c) (hb:∀ x ∈ b',∃ c ∈ b,x=ρ c∧¬ V c∧A c) (h:meets a' b'=true):meets a b=true:=by
 simp only [meets,List.any_eq_true,decide_eq_true_eq] at h ⊢
 obtain ⟨x,hx,y,hy,rfl⟩:=h
 obtain ⟨c,h1,h2,h3,h4⟩:=ha x hx
 obtain ⟨d,h5,h6,h7,h8⟩:=hb x hy
 have:=inj c d h4 h8 h3 h7 (h2.symm.trans h6)
 subst this
 exact ⟨c,h1,c,h5,rfl⟩
theorem clash_vw {ρ:Nat→Nat} {V A:Nat→Prop} (inj:∀ b c,A b→A c→¬ V b→¬ V c→ρ b=ρ c→b=c) {m1 m2:Nat} {a b:WDid} {a' b':Did} (ha:DidRel ρ V A m1 m2 a a') (hb:DidRel ρ V A m1 m2 b b') (h:clashW a b=false):clash a' b'=false:=by
 have nt:∀ {x y:Bool},(x=true→y=true)→y=false→x=false:=by
  intro x y q1 q2;cases x <;> simp_all
 have plain:∀ {d:WDid} {d':Did},DidRel ρ V A m1 m2 d d'→d.bar=false→d'.bar=false∧∀ b ∈ d'.wr,∃ c ∈ d.wr,b=ρ c∧¬ V c∧A c:=by
  intro d d' hd hq
  refine ⟨?_,fun b hb=>?_⟩
  · cases q:d'.bar with
    | false=>rfl
    | true=>rw [(hd.1 q).1] at hq;cases hq
  · rcases hd.2.2 b hb with ⟨c,q1,q2⟩ | ⟨_,_,q,_⟩
    · unfold wrOf at q1
      rw [hq] at q1
      exact ⟨c,q1,q2⟩
    · rw [hq] at q;cases q
 have deep:∀ {d e:WDid} {d' e':Did},DidRel ρ V A m1 m2 d d'→DidRel ρ V A m1 m2 e e'→d.bar=true→e.bar=false→hitL d.rd d.wr e.rd e.wr=false →
  d'.bar=false∧e'.bar=false∧meets d'.wr e'.wr=false∧meets d'.wr e'.rd=false∧meets d'.rd e'.wr=false:=by
  intro d e d' e' hd he hdb heb hh
  unfold hitL at hh
  cases hw:d.wr with
  | nil=>rw [hw] at hh;cases hh
  | cons k w =>
   rw [hw] at hh
   simp only [Bool.or_eq_false_iff] at hh
   obtain ⟨g1,g2,g3,g4⟩:=hh
   obtain ⟨p1,p2⟩:=plain he heb
   have g1':∀ c ∈ e.rd++e.wr,¬ k≤c:=by
    intro c hc q
    have:=List.any_eq_false.1 g1 c hc
    simp [q] at this
   have key:∀ (l l':List Nat),(∀ x ∈ l',∃ c ∈ l,x=ρ c∧¬ V c∧A c)→(∀ c ∈ l,¬ k≤c)→meets w l=false→meets d'.wr l'=false:=by
    intro l l' h1 h2 h3
    cases q:meets d'.wr l' with
    | false=>rfl
    | true =>
     exfalso
     simp only [meets,List.any_eq_true,decide_eq_true_eq] at q
     obtain ⟨x,hx,y,hy,rfl⟩:=q
     obtain ⟨c,c1,c2,c3,c4⟩:=h1 x hy
     rcases hd.2.2 x hx with ⟨c',q1,q2,q3,q4⟩ | ⟨k',w',q1,q2,q3,q4,q5⟩
     · unfold wrOf at q1
       rw [hdb,hw] at q1
       simp only [List.tail_cons] at q1
       have:=inj c c' c4 q4 c3 q3 (c2.symm.trans q2)
       subst this
       have:meets w l=true:=by
        simp only [meets,List.any_eq_true,decide_eq_true_eq]
        exact ⟨c,q1,c,c1,rfl⟩
       rw [h3] at this;cases this
     · rw [hw] at q2
       cases q2
       exact h2 c c1 (q5 c c4 c3 c2.symm)
   refine ⟨?_,p1,key _ _ p2 (fun c hc=>g1' c (by simp [hc])) g2,key _ _ he.2.1 (fun c hc=>g1' c (by simp [hc])) g3,?_⟩
   · cases q:d'.bar with
     | false=>rfl
     | true=>rw [(hd.1 q).2] at hw;cases hw
   · cases q:meets d'.rd e'.wr with
     | false=>rfl
     | true=>rw [meets_vw inj hd.2.1 p2 q] at g4;cases g4
 have msym:∀ a b:List Nat,meets a b=meets b a:=by
  intro a b
  cases q:meets a b with
  | true =>
   symm
   simp only [meets,List.any_eq_true,decide_eq_true_eq] at q ⊢
   obtain ⟨x,h1,y,h2,h3⟩:=q
   exact ⟨y,h2,x,h1,h3.symm⟩
  | false =>
   symm
   cases p:meets b a with
   | false=>rfl
   | true =>
    exfalso
    simp only [meets,List.any_eq_true,decide_eq_true_eq] at p
    obtain ⟨x,h1,y,h2,h3⟩:=p
    have:meets a b=true:=by
     simp only [meets,List.any_eq_true,decide_eq_true_eq]
     exact ⟨y,h2,x,h1,h3.symm⟩
    rw [q] at this;cases this
 have qt:∀ {d:WDid} {d':Did},DidRel ρ V A m1 m2 d d'→quietW d=true→quiet d'=true:=by
  intro d d' hd hq
  simp only [quietW,Bool.and_eq_true,Bool.not_eq_true',List.isEmpty_iff] at hq
  simp only [quiet,Bool.and_eq_true,Bool.not_eq_true',List.isEmpty_iff]
  refine ⟨(plain hd hq.1).1,?_,?_⟩
  · cases hw:d'.wr with
    | nil=>rfl
    | cons b r =>
     obtain ⟨c,h1,_⟩:=(plain hd hq.1).2 b (by rw [hw];exact List.mem_cons_self)
     rw [hq.2.1] at h1;cases h1
  · cases hw:d'.rd with
    | nil=>rfl
    | cons b r =>
     obtain ⟨c,h1,_⟩:=hd.2.1 b (by rw [hw];exact List.mem_cons_self)
     rw [hq.2.2] at h1;cases h1
 unfold clashW at h
 unfold clash
 cases qa:quietW a with
 | true=>rw [qt ha qa];simp
 | false =>
  cases qb:quietW b with
  | true=>rw [qt hb qb];simp
  | false =>
   rw [qa,qb] at h
   simp only [Bool.or_self,Bool.not_false,Bool.true_and] at h
   cases ab:a.bar with
   | true =>
    rw [ab,if_pos rfl,Bool.or_eq_false_iff] at h
    obtain ⟨d1,d2,d3,d4,d5⟩:=deep ha hb ab h.1 h.2
    rw [d1,d2,d3,d4,d5];simp
   | false =>
   cases bb:b.bar with
   | true =>
    rw [ab,bb,if_neg (by simp),if_pos rfl] at h
    obtain ⟨d1,d2,d3,d4,d5⟩:=deep hb ha bb ab h
    rw [d1,d2,msym,d3,msym a'.wr,d5,msym a'.rd,d4];simp
   | false =>
   rw [ab,bb,if_neg (by simp),if_neg (by simp)] at h
   simp only [Bool.or_eq_false_iff] at h
   obtain ⟨h3,h4,h5⟩:=h
   obtain ⟨h1,ha2⟩:=plain ha ab
   obtain ⟨h2,hb2⟩:=plain hb bb
   have e:(a'.bar||(b'.bar||(meets a'.wr b'.wr||(meets a'.wr b'.rd||meets a'.rd b'.wr))))=false:=by
    simp only [Bool.or_eq_false_iff]
    exact ⟨h1,h2,nt (meets_vw inj ha2 hb2) h3,nt (meets_vw inj ha2 hb.2.1) h4,nt (meets_vw inj ha.2.1 hb2) h5⟩
   rw [e,Bool.and_false]
theorem draw_sim (hr:RunSim run run'):∀ (l:List COper) (nid:Nat) (s s1:WSt) (ds ds1:List WDid),(l.all fun o=>okOp o.op)=true→evDrawW C run l nid s ds=some (s1,ds1) →
 ∀ (mid:Nat) (s':St) (ds':List Did) (ρ:Nat→Nat) (V A:Nat→Prop),Sim ρ V A s s'→base≤nid→nid+l.length≤s.next→(∀ b,A b→b < nid∨nid+l.length≤b)→Hi base m0 ρ V A→m0≤mid→mid+l.length≤s'.next →
  (∀ b,A b→¬ V b→ρ b < mid∨mid+l.length≤ρ b)→∀ R:Nat,mid+l.length≤R→R≤s'.next→Rel2 (DidRel ρ V A R s'.next) ds ds' →
 ∃ s1' ds1' ρ' V' A',evDraw (erProg C) run' (l.map erOper) mid s' ds'=some (s1',ds1')∧Res base m0 ρ V A s1 s1' ρ' V' A'∧m0≤s1'.next∧Rel2 (DidRel ρ' V' A' R s1'.next) ds1 ds1':=by
 intro l
 induction l with
 | nil =>
  intro nid s s1 ds ds1 _ he mid s' ds' ρ V A S hb hnl _ hi hm hml _ R hR1 hR2 hds
  simp only [evDrawW,Option.some.injEq,Prod.mk.injEq] at he
  obtain ⟨rfl,rfl⟩:=he
  simp only [List.length_nil] at hnl hml
  exact ⟨s',ds',ρ,V,A,rfl,⟨S,by omega,Old.refl base ρ V A,hi⟩,by omega,hds⟩
 | cons o l ih =>
  intro nid s s1 ds ds1 hok he mid s' ds' ρ V A S hb hnl hgap hi hm hml hgap' R hR1 hR2 hds
  simp only [List.all_cons,Bool.and_eq_true] at hok
  simp only [List.length_cons] at hnl hml hgap hgap' hR1
  simp only [evDrawW] at he
  obtain ⟨d,h1,he⟩:=ob_some he
  have hn:¬ A nid:=fun q=>by rcases hgap nid q with q | q <;> omega
  obtain ⟨d',ρ1,V1,A1,h2,O⟩:=op_sim hr S.env S.heap S.lt (nid:=nid) (mid:=mid) hn (by omega) (fun b hbb hv=>by rcases hgap' b hbb hv with q | q <;> omega) (by omega) hok.1 h1
  have S1:Sim ρ1 V1 A1 ⟨setD s.env o.dst d.v,d.h,d.n⟩ ⟨setDst s'.env o.dst d'.v,d'.h,d'.n⟩:=⟨S.srt.setDst _ _,(S.env.mono O.keeps).setDst O.v,O.h,O.lt⟩
  have hi1:Hi base m0 ρ1 V1 A1:=by
   intro b q1 q2 q3
   rcases O.newp b q1 q2 with ⟨q4,q5⟩ | q4 | q4
   · rw [q5];exact hi b q4 (fun q=>q2 ((O.keeps b q4).2.2.2 q)) q3
   · omega
   · omega
  have hds1:Rel2 (DidRel ρ1 V1 A1 R d'.n) (ds++[d]) (ds'++[d']):=(hds.mono fun x y _ hxy=>hxy.mono O.keeps O.nextp (by omega) O.newp).append (.cons ⟨O.bar,O.rd,fun b hb=>by
   rcases O.wr b hb with q | ⟨k,w,q1,q2,q3,q4,q5⟩
   · exact .inl q
   · exact .inr ⟨k,w,q1,q2,by omega,q4,q5⟩⟩ .nil)
  obtain ⟨s1',ds1',ρ2,V2,A2,h3,R,h4,h5⟩:=ih (nid+1) ⟨setD s.env o.dst d.v,d.h,d.n⟩ s1 (ds++[d]) ds1 hok.2 he (mid+1) _ (ds'++[d']) ρ1 V1 A1 S1 (by omega) (by have:=O.next;simp only;omega)
   (fun b hbb=>by
    rcases O.new b hbb with q | q | q
    · rcases hgap b q with q | q <;> omega
    · omega
    · omega) hi1 (by omega) (by have:=O.nextp;simp only;omega)
   (fun b hbb hv=>by
    rcases O.newp b hbb hv with ⟨q,q5⟩ | q | q
    · rw [q5];rcases hgap' b q (fun q6=>hv ((O.keeps b q).2.2.2 q6)) with q | q <;> omega
    · omega
    · omega) R (by omega) (by have:=O.nextp;simp only;omega) hds1
  have o1:Old base ρ V A ρ1 V1 A1:=Keeps.old O.keeps fun b hbb hA=>by
   rcases O.new b hA with q | q | q
   · exact q
   · omega
   · omega
  refine ⟨s1',ds1',ρ2,V2,A2,?_,⟨R.sim,R.base_le,o1.trans R.old,R.hi⟩,h4,h5⟩
  simp only [List.map_cons,evDraw]
  have:(erOper o).dst=o.dst:=rfl
  rw [h2]
  simp only [ob,this]
  exact h3
theorem apart_vw {ρ:Nat→Nat} {V A:Nat→Prop} (inj:∀ b c,A b→A c→¬ V b→¬ V c→ρ b=ρ c→b=c) {m1 m2:Nat} {ds:List WDid} {ds':List Did} (h:Rel2 (DidRel ρ V A m1 m2) ds ds') {p:Nat × Nat} (ha:apartW ds p=true):apart ds' p=true:=by
 unfold apartW at ha
 split at ha
 · rename_i a b h1 h2
   obtain ⟨a',h3,h4⟩:=h.get h1
   obtain ⟨b',h5,h6⟩:=h.get h2
   unfold apart
   rw [h3,h5]
   simp only [Bool.not_eq_true'] at ha ⊢
   exact clash_vw inj h4 h6 ha
 · cases ha
def CodeSim (C:WProg) (k:Nat):Prop :=
 ∀ (base:Nat) (c:WCode) (s:WSt) (ex:Ex) (s1:WSt),okC c=true→evW C k base c s=some (ex,s1)→∀ (m0:Nat) (s':St) (ρ:Nat→Nat) (V A:Nat→Prop),Sim ρ V A s s'→base≤s.next→Hi base m0 ρ V A→m0≤s'.next →
  ∃ s1' ρ' V' A',evC (erProg C) k (erC c) s'=some (ex,s1')∧Res base m0 ρ V A s1 s1' ρ' V' A'∧m0≤s1'.next
theorem erL_len:∀ l:List AV,(erL l).length=l.length
 | []=>rfl
 | _::r=>by simp only [erL,List.length_cons,erL_len r]
theorem cln_sim {j:Nat} {s:WSt} {s':St} {ρ:Nat→Nat} {V A:Nat→Prop} (S:Sim ρ V A s s') (hb:base≤s.next) (hi:Hi base m0 ρ V A) (hm:m0≤s'.next) {z b:Nat} {xe:Bool} {zz:List AV} {u:AV} (hu:get s'.env 0=some u) (hr:VW ρ V A (.ro z [] xe) u) (hl:zz.length=z) :
 ∃ s1' ρ' V' A',evC (erProg C) (j+8+1) (clnE zz b) s'=some (.ret,s1') ∧
  Res base m0 ρ V A ⟨[(2,.sl s.next z 0 0 0 true)],put s.heap s.next (.cells z [] true true),s.next+1⟩ s1' ρ' V' A'∧m0≤s1'.next:=by
 have hn:¬ A s.next:=fun q=>Nat.lt_irrefl _ (S.lt.w _ q)
 obtain ⟨e0,h0,m⟩:=s'
 simp only at hu hm
 have hmo:∀ b,A b→addN A s.next b∧ρ b=ρ b∧((V b∨b=s.next)↔V b):=fun b q=>⟨.inl q,rfl,⟨fun h=>h.elim id fun e=>absurd (e ▸ q) hn,.inl⟩⟩
 cases hr with
 | ronil =>
  refine ⟨⟨put (put (put (put e0 2 .nils) 3 .nils) 4 (.bool true)) 2 .nils,h0,m+4⟩,ρ,fun b=>V b∨b=s.next,addN A s.next,?_,⟨⟨by simp [Srt],?_,⟨?_,?_,?_,?_,?_⟩,⟨?_,?_⟩⟩,Nat.le_succ_of_le hb,?_,?_⟩,Nat.le_trans hm (Nat.le_add_right _ _)⟩
  · simp [clnE,evC,evOps,evOp,wants,evAct,callOf,stepOp,sMv,sEqv,eqVals,eqSl,Opd.ev,ob,om,get_put,setDst,hu,endOps,frzSlots,dropEnv,evSeq,evCond,applyUpd]
  · intro k v hk
    simp only [Pav.get] at hk
    split at hk
    · rename_i e;subst e;cases hk
      exact ⟨.nils,by simp [get_put],.slv _ _ _ _ (.inr rfl) (.inr rfl) (.inl rfl)⟩
    · cases hk
  · intro b o hbo
    rw [get_put] at hbo
    split at hbo
    · rename_i e;exact .inr e.symm
    · exact .inl (S.heap.dom b o hbo)
  · intro b o hbo hv
    rw [get_put] at hbo
    split at hbo
    · cases hbo;exact ⟨z,true,true,rfl⟩
    · rename_i e
      exact S.heap.virt b o hbo (hv.resolve_right fun q=>e q.symm)
  · intro b o hbo hv
    rw [get_put] at hbo
    split at hbo
    · rename_i e;exact absurd (.inr e.symm) hv
    · obtain ⟨o',h1,h2⟩:=S.heap.obj b o hbo (fun q=>hv (.inl q))
      exact ⟨o',h1,h2.mono hmo⟩
  · rintro b (q | q)
    · exact .inl (S.heap.sub b q)
    · exact .inr q
  · rintro b c hb hc vb vc
    exact S.heap.inj b c (hb.resolve_right fun q=>vb (.inr q)) (hc.resolve_right fun q=>vc (.inr q)) (fun q=>vb (.inl q)) (fun q=>vc (.inl q))
  · rintro b (q | q)
    · exact Nat.lt_succ_of_lt (S.lt.w b q)
    · subst q;exact Nat.lt_succ_self _
  · intro b q v
    have:=S.lt.p b (q.resolve_right fun e=>v (.inr e)) (fun e=>v (.inl e))
    simp only at this ⊢;omega
  · intro b hbb
    have hne:b≠s.next:=by omega
    exact ⟨fun q=>hmo b q,fun q=>q.resolve_right hne⟩
  · intro b q v hbb
    exact hi b (q.resolve_right fun e=>v (.inr e)) (fun e=>v (.inl e)) hbb
 | ro _ _ es' _ ex' hc hl2 hx he hr =>
  have:es'=[]:=List.length_eq_zero_iff.1 hl2.symm
  subst this
  have hne:∀ b,A b→¬ V b→ρ b≠m+3:=fun b q v e=>by have:=S.lt.p b q v;simp only at this;omega
  refine ⟨⟨put (put (put (put (put (put (put e0 2 .nils) 3 (.ro z [] ex')) 4 (.bool false)) 5 (.sl (m+3) z 0 0 0 true)) 6 (.ro z [] ex')) 7 (.sl (m+3) z 0 0 0 true)) 2 (.sl (m+3) z 0 0 0 true),put h0 (m+3) (.cells z [] true),m+7⟩,up ρ s.next (m+3),V,addN A s.next,?_,
   ⟨⟨by simp [Srt],?_,new_ok S.heap hn hne ⟨[],true,rfl,fun h=>h,.nil,fun _ e he=>by cases he⟩,⟨?_,?_⟩⟩,Nat.le_succ_of_le hb,?_,?_⟩,Nat.le_trans hm (Nat.le_add_right _ _)⟩
  · have hbf:b % 1125899906842624 < frzBytes:=Nat.mod_lt _ (by decide)
    simp [hbf,clnE,evC,evOps,evOp,wants,evAct,callOf,stepOp,sMv,sEqv,eqVals,eqSl,sBuildS,fillS,sApp,elems,evApp,updOne,Opd.ev,ob,om,get_put,setDst,hu,hl,endOps,frzSlots,dropEnv,evSeq,evCond,applyUpd]
  · intro k v hk
    simp only [Pav.get] at hk
    split at hk
    · rename_i e;subst e;cases hk
      refine ⟨.sl (m+3) z 0 0 0 true,by simp [get_put],?_⟩
      have:up ρ s.next (m+3) s.next=m+3:=by simp [up]
      have key:=VW.sl (ρ:=up ρ s.next (m+3)) (V:=V) (A:=addN A s.next) s.next z 0 0 0 true true (.inr rfl) (fun q=>hn (S.heap.sub _ q)) (fun h=>h)
      rw [this] at key
      exact key
    · cases hk
  · rintro b (q | q)
    · exact Nat.lt_succ_of_lt (S.lt.w b q)
    · subst q;exact Nat.lt_succ_self _
  · intro b q v
    unfold up
    split
    · simp
    · rename_i e
      have:=S.lt.p b (q.resolve_right e) v
      simp only at this ⊢;omega
  · intro b hbb
    have hne2:b≠s.next:=by omega
    exact ⟨fun q=>up_mono hn b q,fun q=>q.resolve_right hne2⟩
  · intro b q v hbb
    unfold up
    split
    · omega
    · rename_i e
      exact hi b (q.resolve_right e) v hbb
theorem lastOk_er (ap:COper) (post:List COper):lastOk (erOper ap) (post.map erOper)=lastOk ap post:=by
 have e:∀ o:COper,(erOper o).op.isMk=o.op.isMk:=fun o=>by
  obtain ⟨d,g,op⟩:=o
  cases op <;> rfl
 unfold lastOk
 rw [List.getLast?_map]
 cases post.getLast? with
 | none=>simp only [Option.map_none,e]
 | some o=>simp only [Option.map_some,e]
theorem plain_vw {ρ:Nat→Nat} {V A:Nat→Prop} {x x':AV} (h:VW ρ V A x x') (hp:plainV x=true):x'=x:=by
 cases h <;> first | rfl | (simp [plainV] at hp)
theorem isoVal_vw {ρ ρ':Nat→Nat} {V A V' A':Nat→Prop} {e e':Env} (h:EW ρ V A e e') (k:Nat):VW ρ' V' A' (isoVal e k) (isoVal e' k):=by
 unfold isoVal
 cases hg:get e k with
 | none=>exact .undef _
 | some v =>
  obtain ⟨v',hg',hv⟩:=h k v hg
  simp only [hg']
  by_cases hp:plainV v=true
  · have e1:=plain_vw hv hp
    subst e1
    rw [if_pos hp]
    cases v' <;> first | (simp [plainV] at hp;done) | constructor
  · rw [if_neg hp];exact .undef _
theorem isoEnv_vw {ρ ρ':Nat→Nat} {V A V' A':Nat→Prop} {e2 e2':Env} (h:EW ρ V A e2 e2'):∀ (L:List Nat) {e e':Env},EW ρ' V' A' e e'→EW ρ' V' A' (isoEnvW e2 L e) (isoEnv e2' L e')
 | [],_,_,he=>he
 | k::r,_,_,he=>isoEnv_vw h r (he.put (isoVal_vw h k))
theorem isoEnv_srt (e2:Env):∀ (L:List Nat) {e:Env},Srt e→Srt (isoEnvW e2 L e)
 | [],_,h=>h
 | k::r,_,h=>isoEnv_srt e2 r (h.put k _)
theorem snap_vw {ρ:Nat→Nat} {V A:Nat→Prop} {h:WHeap} {h':Heap} {e e':Env} (he:EW ρ V A e e') (H:HW ρ V A h h') {o:COper} (hok:okOp o.op=true) {v:AV} (hs:evSnapW o e h=some v) :
 ∃ v',evSnap (erOper o) e' h'=some v'∧VW ρ V A v v':=by
 unfold evSnapW at hs
 split at hs
 case h_2=>cases hs
 rename_i hw
 have hw':wants e' (erOper o).guard=some true:=wants_sim he hw
 unfold evSnap
 rw [hw']
 simp only
 obtain ⟨d,g,op⟩:=o
 simp only [erOper] at *
 cases op <;> simp only [snapOpW] at hs <;> try (cases hs;done)
 rename_i z bytes zeros s x
 split at hs
 · cases hs
 rename_i hz
 obtain ⟨⟨xs,d⟩,h1,h2⟩:=ob_some hs
 simp only [okOp,Bool.and_eq_true] at hok
 obtain ⟨xs',q1,q2,q3⟩:=elems_vw H (he.opd hok.2.2) h1
 have hl:(erL z).length=z.length:=erL_len z
 simp only at h2
 split at h2
 case isFalse=>cases h2
 rename_i hd
 simp only [erOp,snapOp,if_neg hz,hl,q1,ob]
 obtain ⟨b,len,cap,ex,ex',es,es',e1,e2,hg,ho',hV,hA,hR,hD,hlen,hlen',hbb,hfl,rfl,hvw⟩:=snapOf_vw H (he.opd hok.2.1) q2 (q3 hd) h2
 refine ⟨_,?_,hvw⟩
 rw [e2]
 simp only [snapOf,ho']
 rw [if_pos ⟨trivial,trivial,trivial,trivial,hlen',hbb,hfl⟩]
theorem iso_sim (hr:RunSim run run') {pre:List COper} {ap:COper} {post:List COper} {s s2:WSt} (hok:okC (.iso pre ap post ⟨false,[],[]⟩)=true) (he:evIsoW C run pre ap post s=some s2) {s':St} {ρ:Nat→Nat} {V A:Nat→Prop}
 (S:Sim ρ V A s s') (hb:base≤s.next) (hi:Hi base m0 ρ V A) (hm:m0≤s'.next) :
 ∃ s2' ρ' V' A',evIso (erProg C) run' (pre.map erOper) (erOper ap) (post.map erOper) s'=some s2'∧Res base m0 ρ V A s2 s2' ρ' V' A'∧m0≤s2'.next:=by
 simp only [okC,Bool.and_eq_true] at hok
 unfold evIsoW at he
 split at he
 case isFalse=>cases he
 rename_i hlast
 obtain ⟨s1,h1,he⟩:=ob_some he
 obtain ⟨v,h2,he⟩:=ob_some he
 obtain ⟨t,h3,he⟩:=om_some he
 obtain ⟨s1',ρ1,V1,A1,g1,R,g2⟩:=ops_sim hr pre s s1 hok.1 h1 s' ρ V A S hb hi hm
 obtain ⟨v',g3,g4⟩:=snap_vw R.sim.env R.sim.heap hok.2.1 h2
 have S1:Sim ρ1 V1 A1 ⟨setD s1.env ap.dst v,[],s1.next⟩ ⟨setDst s1'.env ap.dst v',[],s1'.next⟩ :=
  ⟨R.sim.srt.setDst _ _,R.sim.env.setDst g4,⟨fun b o hb=>by simp [Pav.get] at hb,fun b o hb=>by simp [Pav.get] at hb,fun b o hb=>by simp [Pav.get] at hb,R.sim.heap.sub,R.sim.heap.inj⟩,R.sim.lt⟩
 obtain ⟨t',ρ2,V2,A2,g5,R2,g6⟩:=ops_sim (base:=s1.next) (m0:=s1'.next) hr post _ t hok.2.2 h3 _ ρ1 V1 A1 S1 (Nat.le_refl _) (fun b q _ q3=>absurd (R.sim.lt.w b q) (by omega)) (Nat.le_refl _)
 subst he
 have hd:((erOper ap::post.map erOper).filterMap (·.dst))=(ap::post).filterMap (·.dst):=by
  rw [← List.map_cons,List.filterMap_map]
  rfl
 refine ⟨⟨isoEnv t'.env ((erOper ap::post.map erOper).filterMap (·.dst)) s1'.env,s1'.heap,t'.next⟩,ρ1,V1,A1,?_,⟨⟨isoEnv_srt _ _ R.sim.srt,?_,R.sim.heap,?_⟩,Nat.le_trans R.base_le R2.base_le,R.old,R.hi⟩,Nat.le_trans g2 g6⟩
 · unfold evIso
   rw [lastOk_er,if_pos hlast]
   simp only [g1,ob,g3,om,show (erOper ap).dst=ap.dst from rfl,g5]
 · rw [hd]
   exact isoEnv_vw R2.sim.env _ R.sim.env
 · exact ⟨fun b q=>Nat.lt_of_lt_of_le (R.sim.lt.w b q) R2.base_le,fun b q q2=>Nat.lt_of_lt_of_le (R.sim.lt.p b q q2) g6⟩
theorem code_sim {k:Nat} (ih:CodeSim C k) (hr:RunSim (runWithW C (evW C k)) (runWith (erProg C) (evC (erProg C) k))):CodeSim C (k+1):=by
 intro base c s ex s1 hok he m0 s' ρ V A S hb hi hm
 cases c with
 | skip=>simp only [evW,Option.some.injEq,Prod.mk.injEq] at he;obtain ⟨rfl,rfl⟩:=he;exact ⟨s',ρ,V,A,rfl,⟨S,hb,Old.refl base ρ V A,hi⟩,hm⟩
 | exit id=>simp only [evW,Option.some.injEq,Prod.mk.injEq] at he;obtain ⟨rfl,rfl⟩:=he;exact ⟨s',ρ,V,A,rfl,⟨S,hb,Old.refl base ρ V A,hi⟩,hm⟩
 | ret=>simp only [evW,Option.some.injEq,Prod.mk.injEq] at he;obtain ⟨rfl,rfl⟩:=he;exact ⟨s',ρ,V,A,rfl,⟨S,hb,Old.refl base ρ V A,hi⟩,hm⟩
 | fail=>simp [evW] at he
 | prim k0 =>
  simp only [evW] at he
  obtain ⟨v,h1,he⟩:=om_some he
  simp only [Prod.mk.injEq] at he
  obtain ⟨rfl,rfl⟩:=he
  obtain ⟨h2,hv⟩:=prim_vw S.env h1
  exact ⟨⟨put s'.env 9 v,s'.heap,s'.next⟩,ρ,V,A,by simp only [erC,evC,h2,om],⟨⟨S.srt.put _ _,S.env.put hv,S.heap,S.lt⟩,hb,Old.refl base ρ V A,hi⟩,hm⟩
 | cln zz z b =>
  simp only [evW] at he
  split at he
  · rename_i z' hz
    split at he
    · rename_i hc
      obtain ⟨rfl,hzz,hk⟩:=hc
      simp only [Option.some.injEq,Prod.mk.injEq] at he
      obtain ⟨rfl,rfl⟩:=he
      obtain ⟨x,hx,hx2⟩:=Option.bind_eq_some_iff.1 hz
      obtain ⟨j,rfl⟩:∃ j,k=j+8:=⟨k - 8,by omega⟩
      obtain ⟨u,hu,hr⟩:=S.env 0 x hx
      obtain ⟨xe,hxe⟩:∃ e,x=.ro z' [] e:=by
       unfold isEmptyRo at hx2
       split at hx2
       · cases hx2;exact ⟨_,rfl⟩
       · cases hx2
      subst hxe
      have hl:(erL zz).length=z':=by rw [erL_len];exact hzz
      exact cln_sim S hb hi hm hu hr hl
    · cases he
  · obtain ⟨s1',ρ1,V1,A1,h3,R,h4⟩:=ih base (clnC zz z b) s ex s1 (by simpa [okC,clnC,okOp,okO,okV,okL] using hok) he m0 s' ρ V A S hb hi hm
    exact ⟨s1',ρ1,V1,A1,evC_mono k (k+1) (Nat.le_succ k) _ _ _ h3,R,h4⟩
 | ops l a =>
  simp only [evW] at he
  obtain ⟨s2,h1,he⟩:=ob_some he
  obtain ⟨s3,h2,he⟩:=om_some he
  cases he
  obtain ⟨s1',ρ1,V1,A1,h3,R,h4⟩:=ops_sim hr l s s2 hok h1 s' ρ V A S hb hi hm
  obtain ⟨s2b,h2b,h2⟩:=ob_some h2
  obtain ⟨s2b',h5,e5,R5⟩:=R.frzs _ h2b
  obtain ⟨ρ2,V2,A2,R2⟩:=R5.canon h2 (.inr rfl)
  exact ⟨_,ρ2,V2,A2,by simp only [erC,evC,h3,ob,endOps,h5,om],R2,by rw [← e5] at h4;exact h4⟩
 | iso pre ap post a =>
  simp only [evW] at he
  obtain ⟨s2,h1,he⟩:=ob_some he
  obtain ⟨s3,h2,he⟩:=om_some he
  cases he
  obtain ⟨s1',ρ1,V1,A1,h3,R,h4⟩:=iso_sim hr hok h1 S hb hi hm
  obtain ⟨s2b,h2b,h2⟩:=ob_some h2
  obtain ⟨s2b',h5,e5,R5⟩:=R.frzs _ h2b
  obtain ⟨ρ2,V2,A2,R2⟩:=R5.canon h2 (.inr rfl)
  exact ⟨_,ρ2,V2,A2,by simp only [erC,evC,h3,ob,endOps,h5,om],R2,by rw [← e5] at h4;exact h4⟩
 | draw l un a =>
  simp only [evW] at he
  obtain ⟨⟨s2,ds⟩,h1,he⟩:=ob_some he
  unfold drawEndW at he
  split at he
  · rename_i hap
    obtain ⟨s3,h2,he⟩:=om_some he
    cases he
    have S0:Sim ρ V A ⟨s.env,s.heap,s.next+l.length⟩ ⟨s'.env,s'.heap,s'.next+l.length⟩:=⟨S.srt,S.env,S.heap,fun b q=>Nat.lt_of_lt_of_le (S.lt.w b q) (Nat.le_add_right _ _),fun b q v=>Nat.lt_of_lt_of_le (S.lt.p b q v) (Nat.le_add_right _ _)⟩
    obtain ⟨s1',ds1',ρ1,V1,A1,h3,R,h4,h5⟩:=draw_sim hr l s.next _ s2 [] ds hok h1 s'.next _ [] ρ V A S0 hb (Nat.le_refl _) (fun b q=>.inl (S.lt.w b q)) hi hm (Nat.le_refl _) (fun b q v=>.inl (S.lt.p b q v)) (s'.next+l.length) (Nat.le_refl _) (Nat.le_refl _) .nil
    obtain ⟨s2b,h2b,h2⟩:=ob_some h2
    obtain ⟨s2b',h6,e6,R6⟩:=R.frzs _ h2b
    obtain ⟨ρ2,V2,A2,R2⟩:=R6.canon h2 (.inr rfl)
    refine ⟨_,ρ2,V2,A2,?_,R2,by rw [← e6] at h4;exact h4⟩
    simp only [erC,evC,List.length_map]
    rw [h3]
    simp only [ob,drawEnd,endOps,h6,om]
    rw [if_pos]
    simp only [List.all_eq_true] at hap ⊢
    exact fun p hp=>apart_vw R.sim.heap.inj h5 (hap p hp)
  · cases he
 | seq a b =>
  simp only [okC,Bool.and_eq_true] at hok
  simp only [evW] at he
  obtain ⟨⟨e1,s2⟩,h1,he⟩:=ob_some he
  obtain ⟨s1',ρ1,V1,A1,h3,R,h4⟩:=ih base a s e1 s2 hok.1 h1 m0 s' ρ V A S hb hi hm
  cases e1 with
  | norm =>
   simp only [evSeqW] at he
   obtain ⟨s2',ρ2,V2,A2,h5,R2,h6⟩:=ih base b s2 ex s1 hok.2 he m0 s1' ρ1 V1 A1 R.sim R.base_le R.hi h4
   exact ⟨s2',ρ2,V2,A2,by simp only [erC,evC,h3,ob,evSeq,h5],⟨R2.sim,R2.base_le,R.old.trans R2.old,R2.hi⟩,h6⟩
  | exit id=>simp only [evSeqW,Option.some.injEq,Prod.mk.injEq] at he;obtain ⟨rfl,rfl⟩:=he;exact ⟨s1',ρ1,V1,A1,by simp only [erC,evC,h3,ob,evSeq],R,h4⟩
  | ret=>simp only [evSeqW,Option.some.injEq,Prod.mk.injEq] at he;obtain ⟨rfl,rfl⟩:=he;exact ⟨s1',ρ1,V1,A1,by simp only [erC,evC,h3,ob,evSeq],R,h4⟩
 | cond c a b =>
  simp only [okC,Bool.and_eq_true] at hok
  simp only [evW] at he
  have hc:=S.env.opd hok.1
  unfold evCondW at he
  split at he
  · rename_i t ht
    rw [ht] at hc
    cases t with
    | true =>
     simp only [if_true] at he
     obtain ⟨s1',ρ1,V1,A1,h3,R,h4⟩:=ih base a s ex s1 hok.2.1 he m0 s' ρ V A S hb hi hm
     exact ⟨s1',ρ1,V1,A1,by simp only [erC,evC,hc.bool_inv,evCond,if_true];exact h3,R,h4⟩
    | false =>
     simp only [Bool.false_eq_true,if_false] at he
     obtain ⟨s1',ρ1,V1,A1,h3,R,h4⟩:=ih base b s ex s1 hok.2.2 he m0 s' ρ V A S hb hi hm
     exact ⟨s1',ρ1,V1,A1,by simp only [erC,evC,hc.bool_inv,evCond,Bool.false_eq_true,if_false];exact h3,R,h4⟩
  · cases he
 | block id b a =>
  simp only [okC] at hok
  simp only [evW] at he
  obtain ⟨⟨e1,s2⟩,h1,he⟩:=ob_some he
  obtain ⟨s1',ρ1,V1,A1,h3,R,h4⟩:=ih base b s e1 s2 hok h1 m0 s' ρ V A S hb hi hm
  cases e1 with
  | norm =>
   simp only [evBlockW] at he
   obtain ⟨s3,h5,he⟩:=om_some he
   cases he
   obtain ⟨ρ2,V2,A2,R2⟩:=R.canon h5 (.inl rfl)
   exact ⟨s1',ρ2,V2,A2,by simp only [erC,evC,h3,om,evBlock],R2,h4⟩
  | exit i =>
   simp only [evBlockW] at he
   split at he
   · rename_i hid
     obtain ⟨s3,h5,he⟩:=om_some he
     cases he
     obtain ⟨ρ2,V2,A2,R2⟩:=R.canon h5 (.inl rfl)
     exact ⟨s1',ρ2,V2,A2,by simp only [erC,evC,h3,om,evBlock,if_pos hid],R2,h4⟩
   · rename_i hid
     simp only [Option.some.injEq,Prod.mk.injEq] at he;obtain ⟨rfl,rfl⟩:=he
     exact ⟨s1',ρ1,V1,A1,by simp only [erC,evC,h3,om,evBlock,if_neg hid],R,h4⟩
  | ret =>
   simp only [evBlockW,Option.some.injEq,Prod.mk.injEq] at he;obtain ⟨rfl,rfl⟩:=he
   exact ⟨s1',ρ1,V1,A1,by simp only [erC,evC,h3,om,evBlock],R,h4⟩
 | loop a b =>
  have hok':okC b=true:=hok
  simp only [evW] at he
  obtain ⟨s0,h0,he⟩:=ob_some he
  obtain ⟨⟨e1,s2⟩,h1,he⟩:=ob_some he
  obtain ⟨ρ0,V0,A0,R0⟩:=(⟨S,hb,Old.refl base ρ V A,hi⟩:Res base m0 ρ V A s s' ρ V A).canon h0 (s2':=dropEnv (maskOf a) s') (.inr rfl)
  obtain ⟨s1',ρ1,V1,A1,h3,R,h4⟩:=ih base b s0 e1 s2 hok' h1 m0 _ ρ0 V0 A0 R0.sim R0.base_le R0.hi hm
  have R':Res base m0 ρ V A s2 s1' ρ1 V1 A1:=⟨R.sim,R.base_le,R0.old.trans R.old,R.hi⟩
  cases e1 with
  | norm =>
   simp only [evSeqW] at he
   obtain ⟨s2',ρ2,V2,A2,h5,R2,h6⟩:=ih base (.loop a b) s2 ex s1 hok he m0 s1' ρ1 V1 A1 R.sim R.base_le R.hi h4
   exact ⟨s2',ρ2,V2,A2,by simp only [erC,evC,h3,ob,evSeq];exact h5,⟨R2.sim,R2.base_le,R'.old.trans R2.old,R2.hi⟩,h6⟩
  | exit id=>simp only [evSeqW,Option.some.injEq,Prod.mk.injEq] at he;obtain ⟨rfl,rfl⟩:=he;exact ⟨s1',ρ1,V1,A1,by simp only [erC,evC,h3,ob,evSeq],R',h4⟩
  | ret=>simp only [evSeqW,Option.some.injEq,Prod.mk.injEq] at he;obtain ⟨rfl,rfl⟩:=he;exact ⟨s1',ρ1,V1,A1,by simp only [erC,evC,h3,ob,evSeq],R',h4⟩
theorem results_vw {ρ:Nat→Nat} {V A:Nat→Prop} {e:Env} {e':Env} {h:WHeap} {h':Heap} (he:EW ρ V A e e') (H:HW ρ V A h h') {rs:List CRes} {v:AV} (hv:resultsW e h rs=some v):∃ v',Pav.results e' h' rs=some v'∧VW ρ V A v v':=by
 obtain ⟨vs,h1,rfl⟩:=om_some hv
 have one:∀ r x,resOfW e h r=some x→∃ x',resOf e' h' r=some x'∧VW ρ V A x x':=by
  intro r x hx
  cases r with
  | tmp t=>exact he t x hx
  | cell t k ag =>
   simp only [resOfW] at hx
   split at hx
   · rename_i b i o hg
     obtain ⟨p,h2,h3⟩:=he t _ hg
     obtain ⟨rfl,hA,hV⟩:=h3.ptr_inv
     unfold wLoadAt at hx
     split at hx
     · rename_i z es mu dt hgb
       obtain ⟨cs,h4,h5⟩:=ob_some hx
       obtain ⟨o',g1,es',mu',rfl,_,ge,_⟩:=H.obj b _ hgb hV
       obtain ⟨cs',h6,h7⟩:=ge.get h4
       obtain ⟨v',h8,h9⟩:=loadC_vw (h7.drop o) h5
       exact ⟨v',by simp only [resOf,h2,g1,loadAt,h6,ob];exact h8,h9⟩
     · cases hx
   · cases hx
 have lst:∀ (rs:List CRes) (vs:List AV),mapO (resOfW e h) rs=some vs→∃ vs',mapO (resOf e' h') rs=some vs'∧Rel2 (VW ρ V A) vs vs':=by
  intro rs
  induction rs with
  | nil=>intro vs hq;simp only [mapO,Option.some.injEq] at hq;subst hq;exact ⟨[],rfl,.nil⟩
  | cons r rs ih =>
   intro vs hq
   simp only [mapO] at hq ⊢
   obtain ⟨x,h2,hq⟩:=ob_some hq
   obtain ⟨xs,h3,rfl⟩:=om_some hq
   obtain ⟨x',h4,h5⟩:=one r x h2
   obtain ⟨xs',h6,h7⟩:=ih xs h3
   exact ⟨x'::xs',by rw [h4,h6];rfl,.cons h5 h7⟩
 obtain ⟨vs',h2,h3⟩:=lst rs vs h1
 refine ⟨tupled vs',by simp only [Pav.results,h2,om],?_⟩
 cases vs with
 | nil=>rw [h3.inv_nil];exact VW.mktup .nil
 | cons a r =>
  obtain ⟨b,t,rfl,h4,h5⟩:=h3.inv_cons
  cases r with
  | nil=>rw [h5.inv_nil];exact h4
  | cons a2 r2 =>
   obtain ⟨b2,t2,rfl,h6,h7⟩:=h5.inv_cons
   exact VW.mktup (.cons h4 (.cons h6 h7))
theorem argEnv_get:∀ (l:List AV) (k j:Nat),get (argEnv k l) j=if j < k then none else l[j - k]?:=by
 intro l
 induction l with
 | nil=>intro k j;simp [argEnv,Pav.get]
 | cons a l ih =>
  intro k j
  simp only [argEnv,Pav.get]
  by_cases h1:k=j
  · subst h1;simp
  · rw [if_neg h1,ih]
    by_cases h2:j < k
    · rw [if_pos (by omega),if_pos h2]
    · rw [if_neg (by omega),if_neg h2]
      have:j - k=(j - (k+1))+1:=by omega
      rw [this];simp
theorem erTree_get:∀ (t:WTree) (g:Nat),(erTree t).get g=(t.get g).map erFn:=by
 intro t
 induction t with
 | leaf=>intro g;rfl
 | node l k f r ihl ihr =>
  intro g
  simp only [erTree,Tree.get,WTree.get]
  split
  · rfl
  · split
    · exact ihl g
    · exact ihr g
theorem okTree_get:∀ (t:WTree) (g:Nat) (f:WFn),okTree t=true→t.get g=some f→okC f.body=true:=by
 intro t
 induction t with
 | leaf=>intro g f _ h;simp [WTree.get] at h
 | node l k f r ihl ihr =>
  intro g f' hok h
  simp only [okTree,Bool.and_eq_true] at hok
  simp only [WTree.get] at h
  split at h
  · cases h;exact hok.2.1
  · split at h
    · exact ihl g f' hok.1 h
    · exact ihr g f' hok.2.2 h
theorem run_sim (hok:okTree C.fns=true) {k:Nat} (hc:CodeSim C k):RunSim (runWithW C (evW C k)) (runWith (erProg C) (evC (erProg C) k)):=by
 intro f args h n v h1 n1 hrun ρ V A args' h' m ha H lt
 unfold runWithW at hrun
 obtain ⟨fn,hf,hrun⟩:=ob_some hrun
 split at hrun
 · rename_i hl
   obtain ⟨⟨ex,s1⟩,h2,h3⟩:=ob_some hrun
   have S:Sim ρ V A ⟨argW 0 args [],h,n⟩ ⟨argEnv 0 args',h',m⟩:=by
    refine ⟨srt_arg args 0,fun j x hj=>?_,H,lt⟩
    have hj2:get (argEnv 0 args) j=some x:=by
     have hm:=get_mem hj
     rw [argW_eq,List.append_nil] at hm
     have hm2:=List.mem_reverse.1 hm
     have key:∀ (l:List AV) (k:Nat),(j,x) ∈ argEnv k l→get (argEnv k l) j=some x:=by
      intro l
      induction l with
      | nil=>intro k hq;simp [argEnv] at hq
      | cons v l ih =>
       intro k hq
       simp only [argEnv,Pav.get]
       rcases List.mem_cons.1 hq with q | q
       · cases q;simp
       · have:=(srt_arg0 l (k+1)).2 _ q
         simp only at this
         rw [if_neg (by omega)]
         exact ih (k+1) q
     exact key args 0 hm2
    simp only [argEnv_get,Nat.not_lt_zero,if_false,Nat.sub_zero] at hj2 ⊢
    exact ha.get hj2
   obtain ⟨s1',ρ1,V1,A1,h4,R,h5⟩:=hc n fn.body _ ex s1 (okTree_get _ _ _ hok hf) h2 m ⟨argEnv 0 args',h',m⟩ ρ V A S (Nat.le_refl _) (fun b hb _ hn=>absurd (lt.w b hb) (by omega)) (Nat.le_refl _)
   have fin:∃ v',Pav.results s1'.env s1'.heap fn.res=some v'∧VW ρ1 V1 A1 v v'∧s1.heap=h1∧s1.next=n1∧∀ i,ex≠.exit i:=by
    unfold fnEndW at h3
    cases ex with
    | exit i=>cases h3
    | norm =>
     obtain ⟨w,q1,q2⟩:=om_some h3
     cases q2
     obtain ⟨v',q3,q4⟩:=results_vw R.sim.env R.sim.heap q1
     exact ⟨v',q3,q4,rfl,rfl,fun i e=>by cases e⟩
    | ret =>
     obtain ⟨w,q1,q2⟩:=om_some h3
     cases q2
     obtain ⟨v',q3,q4⟩:=results_vw R.sim.env R.sim.heap q1
     exact ⟨v',q3,q4,rfl,rfl,fun i e=>by cases e⟩
   obtain ⟨v',h6,h7,rfl,rfl,h8⟩:=fin
   refine ⟨v',s1'.heap,s1'.next,ρ1,V1,A1,?_,h7,R.sim.heap,R.sim.lt,fun b hb=>(R.old b (lt.w b hb)).1 hb,fun b hb=>?_,fun b hb hv=>?_,R.base_le,h5⟩
   · unfold runWith
     have:(erProg C).fns.get f=some (erFn fn):=by
      show (erTree C.fns).get f=_
      rw [erTree_get,hf];rfl
     rw [this]
     have hnp:args'.length=(erFn fn).np:=by rw [← ha.1];exact hl
     simp only [ob]
     rw [if_pos hnp,show (erFn fn).body=erC fn.body from rfl,h4]
     cases ex with
     | exit i=>exact absurd rfl (h8 i)
     | norm=>simp only [fnEnd,show (erFn fn).res=fn.res from rfl,h6,om]
     | ret=>simp only [fnEnd,show (erFn fn).res=fn.res from rfl,h6,om]
   · rcases Nat.lt_or_ge b n with q | q
     · exact .inl ((R.old b q).2 hb)
     · exact .inr q
   · rcases Nat.lt_or_ge b n with q | q
     · have:=(R.old b q).2 hb
       exact .inl ⟨this,((R.old b q).1 this).2.1⟩
     · exact .inr (R.hi b hb hv q)
 · cases hrun
theorem all_sim (hok:okTree C.fns=true):∀ k,CodeSim C k:=by
 intro k
 induction k with
 | zero=>intro base c s ex s1 _ he;simp [evW] at he
 | succ k ih=>exact code_sim ih (run_sim hok ih)
theorem callW_ok (hok:okTree C.fns=true) {k f:Nat} {args args':List AV} {v:AV} (ha:Rel2 (VD id fun _=>False) args args') (hc:callW C k f args=some v):∃ v',callF (erProg C) k f args'=some v'∧VD id (fun _=>False) v v' :=
 pure_sim (run_sim hok (all_sim hok k)) ha hc
end
end Go.Pw
end
section
namespace Go.Pw
open Go Go.Pav
def RunLeW (r r':WRun):Prop:=∀ f args h n x,r f args h n=some x→r' f args h n=some x
section
variable {C:WProg} {r r':WRun}
theorem evCallW_mono (hr:RunLeW r r') {f:Nat} {args:List AV} {h:WHeap} {nid n:Nat} {c:WCalled} (hc:evCallW C r f args h nid n=some c):evCallW C r' f args h nid n=some c:=by
 unfold evCallW at hc ⊢
 split
 · rename_i hi
   rw [if_pos hi] at hc
   split
   · rename_i hf
     rw [if_pos hf] at hc
     refine ob_mono hc (fun x hx=>hx) fun az has=>?_
     by_cases hdp:isDp f=true
     · rw [if_pos hdp] at has ⊢
       exact ob_mono has (fun x hx=>hr _ _ _ _ _ hx) fun x hx=>hx
     · rw [if_neg hdp] at has ⊢
       exact ob_mono has (fun v hv=>ob_mono hv (fun x hx=>hr _ _ _ _ _ hx) fun x hx=>hx) fun x hx=>hx
   · rename_i hf
     rw [if_neg hf] at hc
     exact om_mono hc fun x hx=>hr _ _ _ _ _ hx
 · rename_i hi
   rw [if_neg hi] at hc
   split
   · rename_i hp;rw [if_pos hp] at hc;exact om_mono hc fun x hx=>hr _ _ _ _ _ hx
   · rename_i hp
     rw [if_neg hp] at hc
     exact ob_mono hc (fun x hx=>hx) fun az has=>om_mono has fun v hv=>ob_mono hv (fun x hx=>hr _ _ _ _ _ hx) fun x hx=>hx
theorem evActW_mono (hr:RunLeW r r') {op:COp} {nid:Nat} {e:Env} {h:WHeap} {n:Nat} {d:WDid} (hd:evActW C r op nid e h n=some d):evActW C r' op nid e h n=some d:=by
 unfold evActW at hd ⊢
 split
 · rename_i hc;rw [hc] at hd;cases hd
 · rename_i hc;rw [hc] at hd;exact om_mono hd fun c hc=>evCallW_mono hr hc
 · rename_i hc;rw [hc] at hd;exact hd
theorem evOpW_mono (hr:RunLeW r r') {o:COper} {nid:Nat} {e:Env} {h:WHeap} {n:Nat} {d:WDid} (hd:evOpW C r o nid e h n=some d):evOpW C r' o nid e h n=some d:=by
 unfold evOpW at hd ⊢
 split
 · rename_i hc;rw [hc] at hd;cases hd
 · rename_i hc;rw [hc] at hd;exact hd
 · rename_i hc;rw [hc] at hd;exact evActW_mono hr hd
theorem evOpsW_mono (hr:RunLeW r r'):∀ (l:List COper) (s s':WSt),evOpsW C r l s=some s'→evOpsW C r' l s=some s':=by
 intro l
 induction l with
 | nil=>intro s s' h;exact h
 | cons o l ih=>intro s s' h;exact ob_mono h (fun d hd=>evOpW_mono hr hd) fun d hd=>ih _ _ hd
theorem evDrawW_mono (hr:RunLeW r r'):∀ (l:List COper) (nid:Nat) (s:WSt) (ds:List WDid) (x:WSt × List WDid),evDrawW C r l nid s ds=some x→evDrawW C r' l nid s ds=some x:=by
 intro l
 induction l with
 | nil=>intro nid s ds x h;exact h
 | cons o l ih=>intro nid s ds x h;exact ob_mono h (fun d hd=>evOpW_mono hr hd) fun d hd=>ih _ _ _ _ hd
theorem runWithW_mono {ev ev':WEv} (he:∀ b c s x,ev b c s=some x→ev' b c s=some x):RunLeW (runWithW C ev) (runWithW C ev'):=by
 intro f args h n x hx
 refine ob_mono hx (fun a ha=>ha) fun fn hfn=>?_
 split
 · rename_i hl
   rw [if_pos hl] at hfn
   exact ob_mono hfn (fun a ha=>he _ _ _ _ ha) fun a ha=>ha
 · rename_i hl
   rw [if_neg hl] at hfn;cases hfn
theorem evSeqW_mono {b b':WSt→Option (Ex × WSt)} (h:∀ s x,b s=some x→b' s=some x) {r:Ex × WSt} {x:Ex × WSt} (hx:evSeqW b r=some x):evSeqW b' r=some x:=by
 unfold evSeqW at hx ⊢
 split
 · rename_i hr;rw [hr] at hx;exact h _ _ hx
 · split at hx
   · rename_i h1 _ h2;exact absurd h2 h1
   · exact hx
theorem evIsoW_mono (hr:RunLeW r r') {pre:List COper} {ap:COper} {post:List COper} {s s':WSt} (h:evIsoW C r pre ap post s=some s'):evIsoW C r' pre ap post s=some s':=by
 unfold evIsoW at h ⊢
 split
 · rename_i hl
   rw [if_pos hl] at h
   exact ob_mono h (fun s1 h1=>evOpsW_mono hr _ _ _ h1) fun s1 h1=>ob_mono h1 (fun v hv=>hv) fun v hv=>om_mono hv fun s2 h2=>evOpsW_mono hr _ _ _ h2
 · rename_i hl
   rw [if_neg hl] at h
   cases h
theorem evW_mono:∀ (n m:Nat),n≤m→∀ (base:Nat) (c:WCode) (s:WSt) (x:Ex × WSt),evW C n base c s=some x→evW C m base c s=some x:=by
 intro n
 induction n with
 | zero=>intro m _ base c s x h;simp only [evW] at h;cases h
 | succ n ih =>
  intro m hm base c s x h
  obtain ⟨m,rfl⟩:∃ k,m=k+1:=⟨m - 1,by omega⟩
  have ih':=ih m (by omega)
  have hr:RunLeW (runWithW C (evW C n)) (runWithW C (evW C m)):=runWithW_mono ih'
  cases c with
  | skip=>exact h
  | exit id=>exact h
  | ret=>exact h
  | fail=>exact h
  | prim k=>exact h
  | cln zz z b =>
   simp only [evW] at h ⊢
   split
   · rename_i z' hz
     rw [hz] at h
     simp only at h
     split at h
     · rename_i hc;rw [if_pos ⟨hc.1,hc.2.1,by omega⟩];exact h
     · cases h
   · rename_i hz
     rw [hz] at h
     exact ih' _ _ _ _ h
  | ops l a=>simp only [evW] at h ⊢;exact ob_mono h (fun s' hs=>evOpsW_mono hr l s s' hs) fun x hx=>hx
  | iso pre ap post a=>simp only [evW] at h ⊢;exact ob_mono h (fun s' hs=>evIsoW_mono hr hs) fun x hx=>hx
  | draw l un a=>simp only [evW] at h ⊢;exact ob_mono h (fun x hx=>evDrawW_mono hr l _ _ _ x hx) fun x hx=>hx
  | seq a b=>simp only [evW] at h ⊢;exact ob_mono h (fun x hx=>ih' _ _ _ _ hx) fun x hx=>evSeqW_mono (fun s x hx=>ih' _ _ _ _ hx) hx
  | cond c a b =>
   simp only [evW] at h ⊢
   unfold evCondW at h ⊢
   split
   · rename_i t hv
     rw [hv] at h
     cases t with
     | true=>exact ih' _ _ _ _ h
     | false=>exact ih' _ _ _ _ h
   · split at h
     · rename_i h1 _ t hv;exact absurd hv (h1 t)
     · cases h
  | block id b a=>simp only [evW] at h ⊢;exact ob_mono h (fun x hx=>ih' _ _ _ _ hx) fun x hx=>hx
  | loop a b=>simp only [evW] at h ⊢;exact ob_mono h (fun x hx=>hx) fun s hs=>ob_mono hs (fun x hx=>ih' _ _ _ _ hx) fun x hx=>evSeqW_mono (fun s x hx=>ih' _ _ _ _ hx) hx
theorem runW_mono {n m:Nat} (h:n≤m):RunLeW (runW C n) (runW C m):=runWithW_mono (evW_mono n m h)
end
section
variable (C:WProg)
noncomputable def CdW:WEv:=fun base c s=>lim fun n=>evW C n base c s
noncomputable def RnW:WRun:=runWithW C (CdW C)
noncomputable def FnW (f:Nat) (args:List AV):Option AV:=pureCallW (RnW C) f args
end
section
variable {C:WProg} {base:Nat}
theorem mono_W (base:Nat) (c:WCode) (s:WSt):Mono fun n=>evW C n base c s:=fun n m h a ha=>evW_mono n m h base c s a ha
theorem cdW_iff {c:WCode} {s:WSt} {x:Ex × WSt}:CdW C base c s=some x↔∃ n,evW C n base c s=some x:=lim_iff (mono_W base c s)
theorem evW_cd {n:Nat} {c:WCode} {s:WSt} {x:Ex × WSt} (h:evW C n base c s=some x):CdW C base c s=some x:=cdW_iff.2 ⟨n,h⟩
theorem runle_rnW (n:Nat):RunLeW (runW C n) (RnW C):=runWithW_mono fun _ _ _ _ h=>evW_cd h
theorem rnW_run {f:Nat} {args:List AV} {h:WHeap} {n:Nat} {x:AV × WHeap × Nat} (hx:RnW C f args h n=some x):∃ k,runW C k f args h n=some x:=by
 unfold RnW runWithW at hx
 obtain ⟨fn,hf,hx⟩:=ob_some hx
 split at hx
 · rename_i hl
   obtain ⟨y,hc,hx⟩:=ob_some hx
   obtain ⟨k,hk⟩:=cdW_iff.1 hc
   refine ⟨k,?_⟩
   unfold runW runWithW
   rw [hf]
   simp only [ob,if_pos hl,hk]
   exact hx
 · cases hx
theorem evCallW_cont {f:Nat} {args:List AV} {h:WHeap} {nid n:Nat} {c:WCalled} (hc:evCallW C (RnW C) f args h nid n=some c):∃ k,evCallW C (runW C k) f args h nid n=some c:=by
 unfold evCallW at hc ⊢
 split
 · rename_i hi
   rw [if_pos hi] at hc
   split
   · rename_i hf
     rw [if_pos hf] at hc
     obtain ⟨az,h1,hc⟩:=ob_some hc
     by_cases hdp:isDp f=true
     · rw [if_pos hdp] at hc
       obtain ⟨r,h3,hc⟩:=ob_some hc
       obtain ⟨k,hk⟩:=rnW_run h3
       refine ⟨k,?_⟩
       rw [h1]
       simp only [ob,if_pos hdp,hk]
       exact hc
     rw [if_neg hdp] at hc
     obtain ⟨x,h2,hend⟩:=ob_some hc
     obtain ⟨r,h3,h4⟩:=ob_some h2
     obtain ⟨k,hk⟩:=rnW_run h3
     refine ⟨k,?_⟩
     rw [h1]
     simp only [ob,if_neg hdp]
     unfold freshCallW
     simp only [ob,hk]
     rw [h4]
     exact hend
   · rename_i hf
     rw [if_neg hf] at hc
     obtain ⟨r,h1,rfl⟩:=om_some hc
     obtain ⟨k,hk⟩:=rnW_run h1
     exact ⟨k,by rw [hk];rfl⟩
 · rename_i hi
   rw [if_neg hi] at hc
   split
   · rename_i hp
     rw [if_pos hp] at hc
     obtain ⟨r,h1,rfl⟩:=om_some hc
     obtain ⟨k,hk⟩:=rnW_run h1
     exact ⟨k,by rw [hk];rfl⟩
   · rename_i hp
     rw [if_neg hp] at hc
     obtain ⟨az,h1,hc⟩:=ob_some hc
     obtain ⟨v,h2,rfl⟩:=om_some hc
     obtain ⟨r,h3,h4⟩:=ob_some h2
     obtain ⟨k,hk⟩:=rnW_run h3
     exact ⟨k,by rw [h1];simp only [ob,pureCallW,hk,h4];rfl⟩
theorem evOpW_cont {o:COper} {nid:Nat} {e:Env} {h:WHeap} {n:Nat} {d:WDid} (hd:evOpW C (RnW C) o nid e h n=some d):∃ k,evOpW C (runW C k) o nid e h n=some d:=by
 unfold evOpW at hd ⊢
 split
 · rename_i hc;rw [hc] at hd;cases hd
 · rename_i hc;rw [hc] at hd;exact ⟨0,hd⟩
 · rename_i hc
   rw [hc] at hd
   simp only at hd
   unfold evActW at hd ⊢
   split
   · rename_i hc;rw [hc] at hd;cases hd
   · rename_i hc
     rw [hc] at hd
     simp only at hd
     obtain ⟨r,h1,rfl⟩:=om_some hd
     obtain ⟨k,hk⟩:=evCallW_cont h1
     exact ⟨k,by rw [hk];rfl⟩
   · rename_i hc;rw [hc] at hd;exact ⟨0,hd⟩
theorem evOpsW_cont:∀ (l:List COper) (s s':WSt),evOpsW C (RnW C) l s=some s'→∃ k,evOpsW C (runW C k) l s=some s':=by
 intro l
 induction l with
 | nil=>intro s s' h;exact ⟨0,h⟩
 | cons o l ih =>
  intro s s' h
  simp only [evOpsW] at h ⊢
  obtain ⟨d,hd,h⟩:=ob_some h
  obtain ⟨k1,h1⟩:=evOpW_cont hd
  obtain ⟨k2,h2⟩:=ih _ _ h
  refine ⟨max k1 k2,?_⟩
  rw [evOpW_mono (runW_mono (Nat.le_max_left k1 k2)) h1]
  exact evOpsW_mono (runW_mono (Nat.le_max_right k1 k2)) _ _ _ h2
theorem evDrawW_cont:∀ (l:List COper) (nid:Nat) (s:WSt) (ds:List WDid) (x:WSt × List WDid),evDrawW C (RnW C) l nid s ds=some x→∃ k,evDrawW C (runW C k) l nid s ds=some x:=by
 intro l
 induction l with
 | nil=>intro nid s ds x h;exact ⟨0,h⟩
 | cons o l ih =>
  intro nid s ds x h
  simp only [evDrawW] at h ⊢
  obtain ⟨d,hd,h⟩:=ob_some h
  obtain ⟨k1,h1⟩:=evOpW_cont hd
  obtain ⟨k2,h2⟩:=ih _ _ _ _ h
  refine ⟨max k1 k2,?_⟩
  rw [evOpW_mono (runW_mono (Nat.le_max_left k1 k2)) h1]
  exact evDrawW_mono (runW_mono (Nat.le_max_right k1 k2)) _ _ _ _ _ h2
theorem cw_skip (s:WSt):CdW C base .skip s=some (.norm,s):=evW_cd (n:=1) rfl
theorem cw_exit (id:Nat) (s:WSt):CdW C base (.exit id) s=some (.exit id,s):=evW_cd (n:=1) rfl
theorem cw_prim (k:Nat) (s:WSt):CdW C base (.prim k) s=om (primF k (primArgs (primN k) 0 s.env)) fun v=>(.ret,⟨putE s.env 9 v,s.heap,s.next⟩):=by
 cases h:om (primF k (primArgs (primN k) 0 s.env)) fun v=>((.ret,⟨putE s.env 9 v,s.heap,s.next⟩):Ex × WSt) with
 | some x=>exact evW_cd (n:=1) h
 | none =>
  cases h2:CdW C base (.prim k) s with
  | none=>rfl
  | some x =>
   obtain ⟨n,hn⟩:=cdW_iff.1 h2
   cases n with
   | zero=>simp only [evW] at hn;cases hn
   | succ n=>simp only [evW] at hn;rw [h] at hn;cases hn
theorem cw_ret (s:WSt):CdW C base .ret s=some (.ret,s):=evW_cd (n:=1) rfl
theorem cw_succ {c:WCode} {s:WSt} {x:Ex × WSt}:CdW C base c s=some x↔∃ n,evW C (n+1) base c s=some x:=by
 rw [cdW_iff]
 constructor
 · rintro ⟨n,h⟩;exact ⟨n,evW_mono n (n+1) (Nat.le_succ n) base c s x h⟩
 · rintro ⟨n,h⟩;exact ⟨_,h⟩
theorem evSeqW_iff {b:WCode} {r x:Ex × WSt}:evSeqW (CdW C base b) r=some x↔∃ n,evSeqW (evW C n base b) r=some x:=by
 obtain ⟨ex,s⟩:=r
 cases ex with
 | norm=>simp only [evSeqW];exact cdW_iff
 | exit id=>simp [evSeqW]
 | ret=>simp [evSeqW]
theorem cw_seq (a b:WCode) (s:WSt):CdW C base (.seq a b) s=ob (CdW C base a s) (evSeqW (CdW C base b)):=by
 refine opt_ext fun x=>?_
 rw [cw_succ,ob_iff]
 simp only [evW,ob_iff]
 constructor
 · rintro ⟨n,r,h1,h2⟩;exact ⟨r,evW_cd h1,evSeqW_iff.2 ⟨n,h2⟩⟩
 · rintro ⟨r,h1,h2⟩
   obtain ⟨n,h1⟩:=cdW_iff.1 h1
   obtain ⟨m,h2⟩:=evSeqW_iff.1 h2
   exact ⟨max n m,r,evW_mono _ _ (Nat.le_max_left n m) _ _ _ _ h1,evSeqW_mono (fun s x hx=>evW_mono _ _ (Nat.le_max_right n m) _ _ _ _ hx) h2⟩
theorem cw_loop (a:Ann) (b:WCode) (s:WSt):CdW C base (.loop a b) s=ob (canon base a s) fun s=>ob (CdW C base b s) (evSeqW (CdW C base (.loop a b))):=by
 refine opt_ext fun x=>?_
 rw [cw_succ,ob_iff]
 simp only [evW,ob_iff]
 constructor
 · rintro ⟨n,s0,h0,r,h1,h2⟩;exact ⟨s0,h0,r,evW_cd h1,evSeqW_iff.2 ⟨n,h2⟩⟩
 · rintro ⟨s0,h0,r,h1,h2⟩
   obtain ⟨n,h1⟩:=cdW_iff.1 h1
   obtain ⟨m,h2⟩:=evSeqW_iff.1 h2
   exact ⟨max n m,s0,h0,r,evW_mono _ _ (Nat.le_max_left n m) _ _ _ _ h1,evSeqW_mono (fun s x hx=>evW_mono _ _ (Nat.le_max_right n m) _ _ _ _ hx) h2⟩
theorem cw_block (id:Nat) (b:WCode) (a:Ann) (s:WSt):CdW C base (.block id b a) s=ob (CdW C base b s) (evBlockW base id a):=by
 refine opt_ext fun x=>?_
 rw [cw_succ,ob_iff]
 simp only [evW,ob_iff]
 constructor
 · rintro ⟨n,r,h1,h2⟩;exact ⟨r,evW_cd h1,h2⟩
 · rintro ⟨r,h1,h2⟩
   obtain ⟨n,h1⟩:=cdW_iff.1 h1
   exact ⟨n,r,h1,h2⟩
theorem cw_cond (c:Opd) (a b:WCode) (s:WSt):CdW C base (.cond c a b) s=evCondW (CdW C base a) (CdW C base b) (c.ev s.env) s:=by
 refine opt_ext fun x=>?_
 rw [cw_succ]
 simp only [evW]
 unfold evCondW
 split
 · rename_i t _
   cases t with
   | true=>exact cdW_iff.symm
   | false=>exact cdW_iff.symm
 · simp
theorem cw_ops (l:List COper) (a:Ann) (s:WSt):CdW C base (.ops l a) s=ob (evOpsW C (RnW C) l s) fun s=>om (canonF base a s) fun s=>(.norm,s):=by
 refine opt_ext fun x=>?_
 rw [cw_succ,ob_iff]
 simp only [evW,ob_iff]
 constructor
 · rintro ⟨n,r,h1,h2⟩;exact ⟨r,evOpsW_mono (runle_rnW n) _ _ _ h1,h2⟩
 · rintro ⟨r,h1,h2⟩
   obtain ⟨n,h1⟩:=evOpsW_cont _ _ _ h1
   exact ⟨n,r,h1,h2⟩
theorem cw_draw (l:List COper) (un:List (Nat × Nat)) (a:Ann) (s:WSt):CdW C base (.draw l un a) s=ob (evDrawW C (RnW C) l s.next ⟨s.env,s.heap,s.next+l.length⟩ []) (drawEndW base un a):=by
 refine opt_ext fun x=>?_
 rw [cw_succ,ob_iff]
 simp only [evW,ob_iff]
 constructor
 · rintro ⟨n,r,h1,h2⟩;exact ⟨r,evDrawW_mono (runle_rnW n) _ _ _ _ _ h1,h2⟩
 · rintro ⟨r,h1,h2⟩
   obtain ⟨n,h1⟩:=evDrawW_cont _ _ _ _ _ h1
   exact ⟨n,r,h1,h2⟩
theorem fnW_call {f:Nat} {args:List AV} {v:AV}:FnW C f args=some v↔∃ n,callW C n f args=some v:=by
 unfold FnW callW pureCallW
 simp only [ob_iff]
 constructor
 · rintro ⟨r,h1,h2⟩
   obtain ⟨k,h1⟩:=rnW_run h1
   exact ⟨k,r,h1,h2⟩
 · rintro ⟨k,r,h1,h2⟩;exact ⟨r,runle_rnW k _ _ _ _ _ h1,h2⟩
end
end Go.Pw
end
section
namespace Go.Pw
open Go Go.Pav
inductive Frame where
 | sq (b:WCode)
 | bk (id:Nat) (a:Ann)
 | lp (a:Ann) (b:WCode)
def setE:Env→Nat→AV→Env
 | [],_,_=>[]
 | (k,v)::r,g,x=>if k=g then (k,x)::r else (k,v)::setE r g x
section
variable {β:Type}
noncomputable def RK (C:WProg) (base:Nat):List Frame→Ex × WSt→Option (Ex × WSt)
 | [],r=>some r
 | .sq b::k,r=>ob (evSeqW (CdW C base b) r) (RK C base k)
 | .bk id a::k,r=>ob (evBlockW base id a r) (RK C base k)
 | .lp a b::k,r=>ob (evSeqW (CdW C base (.loop a b)) r) (RK C base k)
noncomputable def CK (C:WProg) (base:Nat) (fin:Ex × WSt→Option β) (k:List Frame) (c:WCode) (s:WSt):Option β:=ob (CdW C base c s) fun r=>ob (RK C base k r) fin
noncomputable def NK (C:WProg) (base:Nat) (fin:Ex × WSt→Option β) (k:List Frame) (ex:Ex) (s:WSt):Option β:=ob (RK C base k (ex,s)) fin
noncomputable def AK (C:WProg) (base:Nat) (fin:Ex × WSt→Option β) (k:List Frame) (s:Option WSt):Option β:=ob s fun s=>NK C base fin k .norm s
noncomputable def LK (C:WProg) (base:Nat) (fin:Ex × WSt→Option β) (k:List Frame) (b:WCode) (s:Option WSt):Option β:=ob s fun s=>CK C base fin k b s
noncomputable def OK (C:WProg) (base:Nat) (fin:Ex × WSt→Option β) (k:List Frame) (a:Ann) (l:List COper) (s:WSt):Option β :=
 ob (evOpsW C (RnW C) l s) fun s=>AK C base fin k (canonF base a s)
noncomputable def SK (C:WProg) (base:Nat) (fin:Ex × WSt→Option β) (k:List Frame) (a:Ann) (l:List COper) (d:Option Nat) (e:Env) (h:WHeap) (n:Nat) (x:Option (AV × WUpd)):Option β :=
 ob x fun x=>OK C base fin k a l ⟨setD e d x.1,applyW h x.2,n⟩
noncomputable def condK (C:WProg) (base:Nat) (fin:Ex × WSt→Option β) (k:List Frame) (a b:WCode) (s:WSt) (v:AV):Option β :=
 match v with
 | .bool t=>if t=true then CK C base fin k a s else CK C base fin k b s
 | _=>none
noncomputable def GK (C:WProg) (base:Nat) (fin:Ex × WSt→Option β) (k:List Frame) (a:Ann) (l:List COper) (d:Option Nat) (op:COp) (g:Nat) (w:Bool) (e:Env) (h:WHeap) (n:Nat) (v:Option AV):Option β :=
 match v with
 | some (.bool b)=>if b=w then OK C base fin k a (⟨d,none,op⟩::l) ⟨setE e g (.bool w),h,n⟩ else OK C base fin k a l ⟨setD (setE e g (.bool (!w))) d (.tup []),h,n+1⟩
 | some (.tup [])=>OK C base fin k a l ⟨setD e d (.tup []),h,n+1⟩
 | _=>none
noncomputable def VK (C:WProg) (base:Nat) (fin:Ex × WSt→Option β) (k:List Frame) (a:Ann) (l:List COper) (d:Option Nat) (e:Env) (h:WHeap) (n:Nat) (args:List AV) (v:Option AV):Option β :=
 ob v fun v=>OK C base fin k a l ⟨setD e d v,applyW h (marksW h args v),n⟩
noncomputable def WK (C:WProg) (base:Nat) (fin:Ex × WSt→Option β) (k:List Frame) (a:Ann) (l:List COper) (d:Option Nat) (e:Env) (r:Option (AV × WHeap × Nat)):Option β :=
 ob r fun r=>OK C base fin k a l ⟨setD e d r.1,r.2.1,r.2.2⟩
noncomputable def PK (C:WProg) (base:Nat) (fin:Ex × WSt→Option β) (k:List Frame) (a:Ann) (l:List COper) (d:Option Nat) (e:Env) (h:WHeap) (n:Nat) (f:Nat) (args:List AV) (az:Option (List AV)):Option β :=
 ob az fun az=>VK C base fin k a l d e h n args (FnW C f az)
noncomputable def BSK (C:WProg) (base:Nat) (fin:Ex × WSt→Option β) (k:List Frame) (a:Ann) (l:List COper) (d:Option Nat) (e:Env) (h:WHeap) (n:Nat) (v:AV) (u:WUpd) (ok:Bool):Option β :=
 if ok=true then OK C base fin k a l ⟨setD e d v,applyW h u,n⟩ else none
noncomputable def FSK (C:WProg) (base:Nat) (fin:Ex × WSt→Option β) (k:List Frame) (a:Ann) (l:List COper) (d:Option Nat) (e:Env) (h:WHeap) (n:Nat) (br:Bool) (args:List AV) (x:Option (AV × WUpd)):Option β :=
 ob x fun x=>if br=true then BSK C base fin k a l d e h n x.1 x.2 (bareXW x) else OK C base fin k a l ⟨setD e d x.1,applyW h (markFrozenW h (args.flatMap (reachW h frzDepth))++x.2),n⟩
def over (n:Nat) (h1 h:WHeap):WHeap:=applyW h (upsW n h1)
noncomputable def HBK (C:WProg) (base:Nat) (fin:Ex × WSt→Option β) (k:List Frame) (a:Ann) (l:List COper) (d:Option Nat) (e:Env) (h:WHeap) (n:Nat) (v:AV) (h1:WHeap) (n1:Nat) (ok:Bool):Option β :=
 if ok=true then OK C base fin k a l ⟨setD e d v,over n (h1.filter fun x=>(reachW h1 frzDepth v).contains x.1) h,n1⟩ else none
noncomputable def HK (C:WProg) (base:Nat) (fin:Ex × WSt→Option β) (k:List Frame) (a:Ann) (l:List COper) (d:Option Nat) (e:Env) (h:WHeap) (n:Nat) (db:Bool) (args:List AV) (r:Option (AV × WHeap × Nat)):Option β :=
 ob r fun r=>if db=true then HBK C base fin k a l d e h n r.1 r.2.1 r.2.2 (keptXW r.2.1 r.1 (reachW r.2.1 frzDepth r.1)) else OK C base fin k a l ⟨setD e d r.1,over n r.2.1 (applyW h (markFrozenW h (args.flatMap (reachW h frzDepth)))),r.2.2⟩
noncomputable def TK (C:WProg) (base:Nat) (fin:Ex × WSt→Option β) (k:List Frame) (a:Ann) (l:List COper) (d:Option Nat) (e:Env) (h:WHeap) (n:Nat) (f:Nat) (args az:List AV) (dp:Bool):Option β :=
 if dp=true then HK C base fin k a l d e h n (isDb f) args (RnW C f az [] n) else FSK C base fin k a l d e h n (isBr f) args (freshCallW (RnW C) f az (n - 1))
noncomputable def FPK (C:WProg) (base:Nat) (fin:Ex × WSt→Option β) (k:List Frame) (a:Ann) (l:List COper) (d:Option Nat) (e:Env) (h:WHeap) (n:Nat) (f:Nat) (args:List AV) (az:Option (List AV)):Option β :=
 ob az fun az=>TK C base fin k a l d e h n f args az (isDp f)
noncomputable def IK (C:WProg) (base:Nat) (fin:Ex × WSt→Option β) (k:List Frame) (a:Ann) (l:List COper) (d:Option Nat) (e:Env) (h:WHeap) (n:Nat) (f:Nat) (args:List AV) (fr:Bool):Option β :=
 if fr=true then FPK C base fin k a l d e h n f args (mapO (frzW h frzDepth) args) else WK C base fin k a l d e (RnW C f args h n)
noncomputable def FK (C:WProg) (base:Nat) (fin:Ex × WSt→Option β) (k:List Frame) (a:Ann) (l:List COper) (d:Option Nat) (e:Env) (h:WHeap) (n:Nat) (f:Nat) (args:List AV) (inl ptr:Bool):Option β :=
 if inl=true then IK C base fin k a l d e h n f args (isFr f) else if ptr=true then WK C base fin k a l d e (RnW C f args h n) else PK C base fin k a l d e h n f args (mapO (frzW h frzDepth) args)
noncomputable def QK (C:WProg) (base:Nat) (fin:Ex × WSt→Option β) (k:List Frame) (a:Ann) (l:List COper) (d:Option Nat) (e:Env) (h:WHeap) (n:Nat) (args:List AV) (g:AV):Option β :=
 match g with
 | .fn f caps=>FK C base fin k a l d e h n f (args++caps) (C.inl f) (!C.pp f&&hasPtrL (args++caps))
 | _=>none
abbrev RW:=Bool × List Nat × List Nat
def rwOf (d:WDid):RW:=(d.bar,d.rd,d.wr)
def quietR (d:RW):Bool:=!d.1&&(d.2.2.isEmpty&&d.2.1.isEmpty)
def clashR (a b:RW):Bool:=!(quietR a||quietR b)&&(if a.1=true then b.1||hitL a.2.1 a.2.2 b.2.1 b.2.2 else if b.1=true then hitL b.2.1 b.2.2 a.2.1 a.2.2 else (meets a.2.2 b.2.2||(meets a.2.2 b.2.1||meets a.2.1 b.2.2)))
def apartR (ds:List RW) (p:Nat × Nat):Bool :=
 match ds[p.1]?,ds[p.2]? with
 | some a,some b=>!clashR a b
 | _,_=>false
noncomputable def EK (C:WProg) (base:Nat) (fin:Ex × WSt→Option β) (k:List Frame) (a:Ann) (s:WSt) (ok:Bool):Option β :=
 if ok=true then AK C base fin k (canonF base a s) else none
noncomputable def DK (C:WProg) (base:Nat) (fin:Ex × WSt→Option β) (k:List Frame) (a:Ann) (un:List (Nat × Nat)) (l:List COper) (nid:Nat) (s:WSt) (ds:List RW):Option β :=
 ob (evDrawW C (RnW C) l nid s []) fun r=>EK C base fin k a r.1 (un.all (apartR (ds++r.2.map rwOf)))
noncomputable def DSK (C:WProg) (base:Nat) (fin:Ex × WSt→Option β) (k:List Frame) (a:Ann) (un:List (Nat × Nat)) (l:List COper) (nid:Nat) (d:Option Nat) (e:Env) (h:WHeap) (n:Nat) (ds:List RW) (rd:List Nat) (x:Option (AV × WUpd)):Option β :=
 ob x fun x=>DK C base fin k a un l nid ⟨setD e d x.1,applyW h x.2,n⟩ (ds++[(false,rd,x.2.map (·.1))])
noncomputable def DGK (C:WProg) (base:Nat) (fin:Ex × WSt→Option β) (k:List Frame) (a:Ann) (un:List (Nat × Nat)) (l:List COper) (nid:Nat) (d:Option Nat) (op:COp) (g:Nat) (w:Bool) (e:Env) (h:WHeap) (n:Nat) (ds:List RW) (v:Option AV):Option β :=
 match v with
 | some (.bool b)=>if b=w then DK C base fin k a un (⟨d,none,op⟩::l) nid ⟨setE e g (.bool w),h,n⟩ ds else DK C base fin k a un l (nid+1) ⟨setD (setE e g (.bool (!w))) d (.tup []),h,n⟩ (ds++[(false,[],[])])
 | some (.tup [])=>DK C base fin k a un l (nid+1) ⟨setD e d (.tup []),h,n⟩ (ds++[(false,[],[])])
 | _=>none
noncomputable def DVK (C:WProg) (base:Nat) (fin:Ex × WSt→Option β) (k:List Frame) (a:Ann) (un:List (Nat × Nat)) (l:List COper) (nid:Nat) (d:Option Nat) (e:Env) (h:WHeap) (n:Nat) (ds:List RW) (args:List AV) (v:Option AV):Option β :=
 ob v fun v=>DK C base fin k a un l nid ⟨setD e d v,applyW h (marksW h args v),n⟩ (ds++[(false,args.flatMap (reachW h frzDepth),(marksW h args v).map (·.1))])
noncomputable def DWK (C:WProg) (base:Nat) (fin:Ex × WSt→Option β) (k:List Frame) (a:Ann) (un:List (Nat × Nat)) (l:List COper) (nid:Nat) (d:Option Nat) (e:Env) (ds:List RW) (r:Option (AV × WHeap × Nat)):Option β :=
 ob r fun r=>DK C base fin k a un l nid ⟨setD e d r.1,r.2.1,r.2.2⟩ (ds++[(true,[],[])])
noncomputable def DPK (C:WProg) (base:Nat) (fin:Ex × WSt→Option β) (k:List Frame) (a:Ann) (un:List (Nat × Nat)) (l:List COper) (nid:Nat) (d:Option Nat) (e:Env) (h:WHeap) (n:Nat) (ds:List RW) (f:Nat) (args:List AV) (az:Option (List AV)):Option β :=
 ob az fun az=>DVK C base fin k a un l nid d e h n ds args (FnW C f az)
noncomputable def DBSK (C:WProg) (base:Nat) (fin:Ex × WSt→Option β) (k:List Frame) (a:Ann) (un:List (Nat × Nat)) (l:List COper) (nid:Nat) (d:Option Nat) (e:Env) (h:WHeap) (n:Nat) (ds:List RW) (args:List AV) (v:AV) (u:WUpd) (ok:Bool):Option β :=
 if ok=true then DK C base fin k a un l nid ⟨setD e d v,applyW h u,n⟩ (ds++[(false,args.flatMap (reachW h frzDepth),u.map (·.1))]) else none
noncomputable def DFSK (C:WProg) (base:Nat) (fin:Ex × WSt→Option β) (k:List Frame) (a:Ann) (un:List (Nat × Nat)) (l:List COper) (nid:Nat) (d:Option Nat) (e:Env) (h:WHeap) (n:Nat) (ds:List RW) (br:Bool) (args:List AV) (x:Option (AV × WUpd)):Option β :=
 ob x fun x=>if br=true then DBSK C base fin k a un l nid d e h n ds args x.1 x.2 (bareXW x) else DK C base fin k a un l nid ⟨setD e d x.1,applyW h (markFrozenW h (args.flatMap (reachW h frzDepth))++x.2),n⟩ (ds++[(false,args.flatMap (reachW h frzDepth),(markFrozenW h (args.flatMap (reachW h frzDepth))++x.2).map (·.1))])
noncomputable def DHBK (C:WProg) (base:Nat) (fin:Ex × WSt→Option β) (k:List Frame) (a:Ann) (un:List (Nat × Nat)) (l:List COper) (nid:Nat) (d:Option Nat) (e:Env) (h:WHeap) (n:Nat) (ds:List RW) (args:List AV) (v:AV) (h1:WHeap) (n1:Nat) (ok:Bool):Option β :=
 if ok=true then DK C base fin k a un l nid ⟨setD e d v,over n (h1.filter fun x=>(reachW h1 frzDepth v).contains x.1) h,n1⟩ (ds++[(true,args.flatMap (reachW h frzDepth),[n])]) else none
noncomputable def DHK (C:WProg) (base:Nat) (fin:Ex × WSt→Option β) (k:List Frame) (a:Ann) (un:List (Nat × Nat)) (l:List COper) (nid:Nat) (d:Option Nat) (e:Env) (h:WHeap) (n:Nat) (ds:List RW) (db:Bool) (args:List AV) (r:Option (AV × WHeap × Nat)):Option β :=
 ob r fun r=>if db=true then DHBK C base fin k a un l nid d e h n ds args r.1 r.2.1 r.2.2 (keptXW r.2.1 r.1 (reachW r.2.1 frzDepth r.1)) else DK C base fin k a un l nid ⟨setD e d r.1,over n r.2.1 (applyW h (markFrozenW h (args.flatMap (reachW h frzDepth)))),r.2.2⟩ (ds++[(true,args.flatMap (reachW h frzDepth),n::(markFrozenW h (args.flatMap (reachW h frzDepth))).map (·.1))])
noncomputable def DTK (C:WProg) (base:Nat) (fin:Ex × WSt→Option β) (k:List Frame) (a:Ann) (un:List (Nat × Nat)) (l:List COper) (nid:Nat) (d:Option Nat) (e:Env) (h:WHeap) (n:Nat) (ds:List RW) (f:Nat) (args az:List AV) (dp:Bool):Option β :=
 if dp=true then DHK C base fin k a un l nid d e h n ds (isDb f) args (RnW C f az [] n) else DFSK C base fin k a un l nid d e h n ds (isBr f) args (freshCallW (RnW C) f az (nid - 1))
noncomputable def DFPK (C:WProg) (base:Nat) (fin:Ex × WSt→Option β) (k:List Frame) (a:Ann) (un:List (Nat × Nat)) (l:List COper) (nid:Nat) (d:Option Nat) (e:Env) (h:WHeap) (n:Nat) (ds:List RW) (f:Nat) (args:List AV) (az:Option (List AV)):Option β :=
 ob az fun az=>DTK C base fin k a un l nid d e h n ds f args az (isDp f)
noncomputable def DIK (C:WProg) (base:Nat) (fin:Ex × WSt→Option β) (k:List Frame) (a:Ann) (un:List (Nat × Nat)) (l:List COper) (nid:Nat) (d:Option Nat) (e:Env) (h:WHeap) (n:Nat) (ds:List RW) (f:Nat) (args:List AV) (fr:Bool):Option β :=
 if fr=true then DFPK C base fin k a un l nid d e h n ds f args (mapO (frzW h frzDepth) args) else DWK C base fin k a un l nid d e ds (RnW C f args h n)
noncomputable def DFK (C:WProg) (base:Nat) (fin:Ex × WSt→Option β) (k:List Frame) (a:Ann) (un:List (Nat × Nat)) (l:List COper) (nid:Nat) (d:Option Nat) (e:Env) (h:WHeap) (n:Nat) (ds:List RW) (f:Nat) (args:List AV) (inl ptr:Bool):Option β :=
 if inl=true then DIK C base fin k a un l nid d e h n ds f args (isFr f) else if ptr=true then DWK C base fin k a un l nid d e ds (RnW C f args h n) else DPK C base fin k a un l nid d e h n ds f args (mapO (frzW h frzDepth) args)
noncomputable def DQK (C:WProg) (base:Nat) (fin:Ex × WSt→Option β) (k:List Frame) (a:Ann) (un:List (Nat × Nat)) (l:List COper) (nid:Nat) (d:Option Nat) (e:Env) (h:WHeap) (n:Nat) (ds:List RW) (args:List AV) (g:AV):Option β :=
 match g with
 | .fn f caps=>DFK C base fin k a un l nid d e h n ds f (args++caps) (C.inl f) (!C.pp f&&hasPtrL (args++caps))
 | _=>none
def pureFin (res:List CRes) (r:Ex × WSt):Option AV:=ob (fnEndW res r) fun r=>frzW r.2.1 frzDepth r.1
end
section
variable {β:Type} {C:WProg} {base:Nat} {fin:Ex × WSt→Option β} {k:List Frame}
theorem ob_assoc {α γ δ:Type} (x:Option α) (f:α→Option γ) (g:γ→Option δ):ob (ob x f) g=ob x fun a=>ob (f a) g:=by cases x <;> rfl
theorem ob_om {α γ δ:Type} (x:Option α) (f:α→γ) (g:γ→Option δ):ob (om x f) g=ob x fun a=>g (f a):=by cases x <;> rfl
theorem ck_seq (a b:WCode) (s:WSt):CK C base fin k (.seq a b) s=CK C base fin (.sq b::k) a s:=by
 unfold CK;rw [cw_seq];simp only [RK,ob_assoc]
theorem ck_skip (s:WSt):CK C base fin k .skip s=NK C base fin k .norm s:=by unfold CK NK;rw [cw_skip];rfl
theorem ck_exit (i:Nat) (s:WSt):CK C base fin k (.exit i) s=NK C base fin k (.exit i) s:=by unfold CK NK;rw [cw_exit];rfl
theorem ck_prim (n:Nat) (s:WSt):CK C base fin k (.prim n) s=ob (primF n (primArgs (primN n) 0 s.env)) fun v=>NK C base fin k .ret ⟨putE s.env 9 v,s.heap,s.next⟩:=by
 unfold CK NK
 rw [cw_prim]
 cases primF n (primArgs (primN n) 0 s.env) <;> rfl
theorem ck_ret (s:WSt):CK C base fin k .ret s=NK C base fin k .ret s:=by unfold CK NK;rw [cw_ret];rfl
theorem ck_cond (c:Opd) (a b:WCode) (s:WSt):CK C base fin k (.cond c a b) s=condK C base fin k a b s (c.ev s.env):=by
 unfold CK condK;rw [cw_cond];unfold evCondW
 cases c.ev s.env <;> try rfl
 rename_i t;cases t <;> rfl
theorem ck_block (id:Nat) (b:WCode) (a:Ann) (s:WSt):CK C base fin k (.block id b a) s=CK C base fin (.bk id a::k) b s:=by
 unfold CK;rw [cw_block];simp only [RK,ob_assoc]
theorem ck_lp {L:WCode} {a:Ann} {b:WCode} {s:WSt} (hL:L=.loop a b):CK C base fin k L s=LK C base fin (.sq L::k) b (canon base a s):=by
 subst hL;unfold CK LK CK;rw [cw_loop];simp only [RK,ob_assoc]
theorem ck_unf {c c':WCode} {s:WSt} (hc:c=c'):CK C base fin k c s=CK C base fin k c' s:=by rw [hc]
theorem ck_ops (l:List COper) (a:Ann) (s:WSt):CK C base fin k (.ops l a) s=OK C base fin k a l s:=by
 unfold CK OK AK NK;rw [cw_ops];simp only [ob_assoc,ob_om]
theorem ck_draw (l:List COper) (un:List (Nat × Nat)) (a:Ann) (e:Env) (h:WHeap) (n:Nat):CK C base fin k (.draw l un a) ⟨e,h,n⟩=DK C base fin k a un l n ⟨e,h,n+l.length⟩ []:=by
 unfold CK DK EK AK NK;rw [cw_draw];simp only [ob_assoc]
 have:∀ r:WSt × List WDid,(ob (drawEndW base un a r) fun r=>ob (RK C base k r) fin)=(if (un.all (apartR ([]++r.2.map rwOf)))=true then ob (canonF base a r.1) fun s=>ob (RK C base k (.norm,s)) fin else none):=by
  rintro ⟨s,ds⟩
  have e1:un.all (apartW ds)=un.all (apartR ([]++ds.map rwOf)):=by
   congr 1
   funext p
   simp only [apartW,apartR,List.nil_append,List.getElem?_map]
   cases ds[p.1]? <;> cases ds[p.2]? <;> rfl
  simp only [drawEndW,e1]
  split
  · simp only [ob_om]
  · rfl
 simp only [this]
theorem nk_nil (ex:Ex) (s:WSt):NK C base fin [] ex s=fin (ex,s):=rfl
theorem nk_sq (b:WCode) (s:WSt):NK C base fin (.sq b::k) .norm s=CK C base fin k b s:=by unfold NK CK;simp only [RK,evSeqW,ob_assoc]
theorem nk_sq_exit (b:WCode) (i:Nat) (s:WSt):NK C base fin (.sq b::k) (.exit i) s=NK C base fin k (.exit i) s:=by unfold NK;simp only [RK,evSeqW,ob]
theorem nk_sq_ret (b:WCode) (s:WSt):NK C base fin (.sq b::k) .ret s=NK C base fin k .ret s:=by unfold NK;simp only [RK,evSeqW,ob]
theorem nk_lp_exit (a:Ann) (b:WCode) (i:Nat) (s:WSt):NK C base fin (.lp a b::k) (.exit i) s=NK C base fin k (.exit i) s:=by unfold NK;simp only [RK,evSeqW,ob]
theorem nk_lp_ret (a:Ann) (b:WCode) (s:WSt):NK C base fin (.lp a b::k) .ret s=NK C base fin k .ret s:=by unfold NK;simp only [RK,evSeqW,ob]
theorem nk_bk (id:Nat) (a:Ann) (s:WSt):NK C base fin (.bk id a::k) .norm s=AK C base fin k (canon base a s):=by unfold NK AK NK;simp only [RK,evBlockW,ob_assoc,ob_om]
theorem nk_bk_exit (id:Nat) (a:Ann) (i:Nat) (s:WSt):NK C base fin (.bk id a::k) (.exit i) s=if i=id then AK C base fin k (canon base a s) else NK C base fin k (.exit i) s:=by
 unfold NK AK NK;simp only [RK,evBlockW]
 split
 · simp only [ob_assoc,ob_om]
 · rfl
theorem nk_bk_ret (id:Nat) (a:Ann) (s:WSt):NK C base fin (.bk id a::k) .ret s=NK C base fin k .ret s:=by unfold NK;simp only [RK,evBlockW,ob]
theorem ak_some (s:WSt):AK C base fin k (some s)=NK C base fin k .norm s:=rfl
theorem lk_some (b:WCode) (s:WSt):LK C base fin k b (some s)=CK C base fin k b s:=rfl
theorem condK_true (a b:WCode) (s:WSt):condK C base fin k a b s (.bool true)=CK C base fin k a s:=rfl
theorem condK_false (a b:WCode) (s:WSt):condK C base fin k a b s (.bool false)=CK C base fin k b s:=rfl
theorem condK_bool (a b:WCode) (s:WSt) (t:Bool):condK C base fin k a b s (.bool t)=if t=true then CK C base fin k a s else CK C base fin k b s:=rfl
variable {a:Ann} {l:List COper} {d:Option Nat} {e:Env} {h:WHeap} {n:Nat}
theorem ok_nil (s:WSt):OK C base fin k a [] s=AK C base fin k (canonF base a s):=rfl
theorem ok_step {op:COp} (hc:callOf e op=some none):OK C base fin k a (⟨d,none,op⟩::l) ⟨e,h,n⟩=SK C base fin k a l d e h (n+1) (stepW op e h n):=by
 unfold OK SK OK
 simp only [evOpsW,evOpW,wants,evActW,hc]
 cases stepW op e h n <;> rfl
theorem sk_some (v:AV) (u:WUpd):SK C base fin k a l d e h n (some (v,u))=OK C base fin k a l ⟨setD e d v,applyW h u,n⟩:=rfl
theorem setE_same:∀ {e:Env} {g:Nat} {v:AV},get e g=some v→setE e g v=e:=by
 intro e
 induction e with
 | nil=>intro g v h;rfl
 | cons x e ih =>
  intro g v hg
  obtain ⟨j,u⟩:=x
  simp only [Pav.get] at hg
  simp only [setE]
  split at hg
  · rename_i hj;cases hg;rw [if_pos hj]
  · rename_i hj;rw [if_neg hj,ih hg]
theorem gk_bool {op:COp} {g:Nat} {w b:Bool}:GK C base fin k a l d op g w e h n (some (.bool b))=if b=w then OK C base fin k a (⟨d,none,op⟩::l) ⟨setE e g (.bool w),h,n⟩ else OK C base fin k a l ⟨setD (setE e g (.bool (!w))) d (.tup []),h,n+1⟩:=rfl
theorem gk_true_true {op:COp} {g:Nat}:GK C base fin k a l d op g true e h n (some (.bool true))=OK C base fin k a (⟨d,none,op⟩::l) ⟨setE e g (.bool true),h,n⟩:=rfl
theorem gk_false_false {op:COp} {g:Nat}:GK C base fin k a l d op g false e h n (some (.bool false))=OK C base fin k a (⟨d,none,op⟩::l) ⟨setE e g (.bool false),h,n⟩:=rfl
theorem gk_true_false {op:COp} {g:Nat}:GK C base fin k a l d op g true e h n (some (.bool false))=OK C base fin k a l ⟨setD (setE e g (.bool false)) d (.tup []),h,n+1⟩:=rfl
theorem gk_false_true {op:COp} {g:Nat}:GK C base fin k a l d op g false e h n (some (.bool true))=OK C base fin k a l ⟨setD (setE e g (.bool true)) d (.tup []),h,n+1⟩:=rfl
theorem gk_tup {op:COp} {g:Nat} {w:Bool}:GK C base fin k a l d op g w e h n (some (.tup []))=OK C base fin k a l ⟨setD e d (.tup []),h,n+1⟩:=rfl
theorem ok_guard {op:COp} {g:Nat} {w:Bool}:OK C base fin k a (⟨d,some (g,w),op⟩::l) ⟨e,h,n⟩=GK C base fin k a l d op g w e h n (get e g):=by
 unfold OK GK
 simp only [evOpsW,evOpW,wants]
 cases hg:get e g with
 | none=>rfl
 | some v =>
  cases v with
  | bool b =>
   simp only
   by_cases hw:b=w
   · subst hw
     rw [setE_same hg,if_pos rfl]
     simp only [OK,evOpsW,evOpW,wants,beq_self_eq_true]
   · have e1:(b == w)=false:=by simpa using hw
     have e2:(!w)=b:=by cases b <;> cases w <;> simp_all
     rw [if_neg hw,e2,setE_same hg]
     simp only [e1,ob,OK]
  | tup vs =>
   cases vs with
   | nil=>rfl
   | cons _ _=>rfl
  | _=>rfl
theorem vk_some {args:List AV} (v:AV):VK C base fin k a l d e h n args (some v)=OK C base fin k a l ⟨setD e d v,applyW h (marksW h args v),n⟩:=rfl
theorem wk_some (r:AV × WHeap × Nat):WK C base fin k a l d e (some r)=OK C base fin k a l ⟨setD e d r.1,r.2.1,r.2.2⟩:=rfl
theorem pk_some {f:Nat} {args:List AV} (az:List AV):PK C base fin k a l d e h n f args (some az)=VK C base fin k a l d e h n args (FnW C f az):=rfl
theorem fk_pure {f:Nat} {args:List AV}:FK C base fin k a l d e h n f args false false=PK C base fin k a l d e h n f args (mapO (frzW h frzDepth) args):=rfl
theorem fk_inl {f:Nat} {args:List AV} {p:Bool}:FK C base fin k a l d e h n f args true p=IK C base fin k a l d e h n f args (isFr f):=rfl
theorem ik_false {f:Nat} {args:List AV}:IK C base fin k a l d e h n f args false=WK C base fin k a l d e (RnW C f args h n):=rfl
theorem ik_true {f:Nat} {args:List AV}:IK C base fin k a l d e h n f args true=FPK C base fin k a l d e h n f args (mapO (frzW h frzDepth) args):=rfl
theorem fpk_some {f:Nat} {args:List AV} (az:List AV):FPK C base fin k a l d e h (n+1) f args (some az)=TK C base fin k a l d e h (n+1) f args az (isDp f):=rfl
theorem tk_false {f:Nat} {args az:List AV}:TK C base fin k a l d e h (n+1) f args az false=FSK C base fin k a l d e h (n+1) (isBr f) args (freshCallW (RnW C) f az n):=rfl
theorem tk_true {f:Nat} {args az:List AV}:TK C base fin k a l d e h n f args az true=HK C base fin k a l d e h n (isDb f) args (RnW C f az [] n):=rfl
theorem hbk_true (v:AV) (h1:WHeap) (n1:Nat):HBK C base fin k a l d e h n v h1 n1 true=OK C base fin k a l ⟨setD e d v,over n (h1.filter fun x=>(reachW h1 frzDepth v).contains x.1) h,n1⟩:=rfl
theorem hk_bare {args:List AV} (r:AV × WHeap × Nat):HK C base fin k a l d e h n true args (some r)=HBK C base fin k a l d e h n r.1 r.2.1 r.2.2 (keptXW r.2.1 r.1 (reachW r.2.1 frzDepth r.1)):=rfl
theorem hk_some {args:List AV} (r:AV × WHeap × Nat):HK C base fin k a l d e h n false args (some r)=OK C base fin k a l ⟨setD e d r.1,over n r.2.1 (applyW h (markFrozenW h (args.flatMap (reachW h frzDepth)))),r.2.2⟩:=rfl
theorem bsk_true (v:AV) (u:WUpd):BSK C base fin k a l d e h n v u true=OK C base fin k a l ⟨setD e d v,applyW h u,n⟩:=rfl
theorem fsk_bare {args:List AV} (v:AV) (u:WUpd):FSK C base fin k a l d e h n true args (some (v,u))=BSK C base fin k a l d e h n v u (bareXW (v,u)):=rfl
theorem fsk_some {args:List AV} (v:AV) (u:WUpd):FSK C base fin k a l d e h n false args (some (v,u))=OK C base fin k a l ⟨setD e d v,applyW h (markFrozenW h (args.flatMap (reachW h frzDepth))++u),n⟩:=rfl
theorem fk_ptr {f:Nat} {args:List AV}:FK C base fin k a l d e h n f args false true=WK C base fin k a l d e (RnW C f args h n):=rfl
theorem qk_fn {f:Nat} {args caps:List AV}:QK C base fin k a l d e h n args (.fn f caps)=FK C base fin k a l d e h n f (args++caps) (C.inl f) (!C.pp f&&hasPtrL (args++caps)):=rfl
theorem fk_eq {f:Nat} {args:List AV}:(ob (om (evCallW C (RnW C) f args h (n - 1) n) (doneCallW h n args)) fun r=>OK C base fin k a l ⟨setD e d r.v,r.h,r.n⟩)=FK C base fin k a l d e h n f args (C.inl f) (!C.pp f&&hasPtrL args):=by
 unfold FK evCallW IK FPK TK HK FSK WK PK VK FnW
 split
 · split
   · cases mapO (frzW h frzDepth) args with
     | none=>rfl
     | some az =>
      simp only [ob]
      by_cases hdp:isDp f=true
      · simp only [if_pos hdp]
        cases RnW C f az [] n with
        | none=>rfl
        | some r =>
         simp only [deepKeepW,deepUW]
         by_cases hdb:isDb f=true
         · simp only [if_pos hdb]
           unfold HBK
           by_cases hk:keptXW r.2.1 r.1 (reachW r.2.1 frzDepth r.1)=true
           · simp only [if_pos hk];rfl
           · simp only [if_neg hk];rfl
         · simp only [if_neg hdb];rfl
      simp only [if_neg hdp]
      cases freshCallW (RnW C) f az (n - 1) with
      | none=>rfl
      | some x =>
       dsimp only [ob]
       unfold freshEndW freshUW BSK
       cases isBr f
       · rfl
       · cases bareXW x <;> rfl
   · cases RnW C f args h n <;> rfl
 · split
   · cases RnW C f args h n <;> rfl
   · cases mapO (frzW h frzDepth) args with
     | none=>rfl
     | some az =>
      simp only [ob]
      cases pureCallW (RnW C) f az <;> rfl
theorem ok_call {f:Nat} {xs:List Opd}:OK C base fin k a (⟨d,none,.call f xs⟩::l) ⟨e,h,n⟩=FK C base fin k a l d e h (n+1) f (xs.map fun x=>x.ev e) (C.inl f) (!C.pp f&&hasPtrL (xs.map fun x=>x.ev e)):=by
 rw [← fk_eq]
 unfold OK
 simp only [evOpsW,evOpW,wants,evActW,callOf,ob_assoc,Nat.add_sub_cancel]
theorem ok_callv {g:Opd} {xs:List Opd}:OK C base fin k a (⟨d,none,.callv g xs⟩::l) ⟨e,h,n⟩=QK C base fin k a l d e h (n+1) (xs.map fun x=>x.ev e) (g.ev e):=by
 unfold QK
 cases hg:g.ev e with
 | fn f caps =>
  simp only
  rw [← fk_eq]
  unfold OK
  simp only [evOpsW,evOpW,wants,evActW,callOf,hg,ob_assoc,Nat.add_sub_cancel]
 | _ =>
  unfold OK
  simp only [evOpsW,evOpW,wants,evActW,callOf,hg]
  rfl
variable {un:List (Nat × Nat)} {nid:Nat} {ds:List RW}
theorem evDrawW_acc {r:WRun}:∀ (l:List COper) (nid:Nat) (s:WSt) (ds:List WDid),evDrawW C r l nid s ds=om (evDrawW C r l nid s []) fun x=>(x.1,ds++x.2):=by
 intro l
 induction l with
 | nil=>intro nid s ds;simp [evDrawW,om]
 | cons o l ih =>
  intro nid s ds
  simp only [evDrawW]
  cases evOpW C r o nid s.env s.heap s.next with
  | none=>rfl
  | some d =>
   simp only [ob]
   rw [ih,ih _ _ ([]++[d])]
   cases evDrawW C r l (nid+1) _ [] <;> simp [om]
theorem dk_nil (s:WSt):DK C base fin k a un [] nid s ds=EK C base fin k a s (un.all (apartR ds)):=by
 unfold DK;simp only [evDrawW,ob,List.map_nil,List.append_nil]
theorem ek_true (s:WSt):EK C base fin k a s true=AK C base fin k (canonF base a s):=rfl
theorem dk_cons {o:COper} {s:WSt}:DK C base fin k a un (o::l) nid s ds=ob (evOpW C (RnW C) o nid s.env s.heap s.next) fun x=>DK C base fin k a un l (nid+1) ⟨setD s.env o.dst x.v,x.h,x.n⟩ (ds++[rwOf x]):=by
 unfold DK
 simp only [evDrawW,ob_assoc]
 congr 1
 funext x
 rw [evDrawW_acc]
 simp only [ob_om,List.nil_append,List.map_append,List.map_cons,List.map_nil,List.append_assoc]
theorem dk_step {op:COp} (hc:callOf e op=some none):DK C base fin k a un (⟨d,none,op⟩::l) nid ⟨e,h,n⟩ ds=DSK C base fin k a un l (nid+1) d e h n ds (readsOf e op) (stepW op e h nid):=by
 rw [dk_cons]
 unfold DSK
 simp only [evOpW,wants,evActW,hc,ob_om]
 rfl
theorem dsk_some {rd:List Nat} (v:AV) (u:WUpd):DSK C base fin k a un l nid d e h n ds rd (some (v,u))=DK C base fin k a un l nid ⟨setD e d v,applyW h u,n⟩ (ds++[(false,rd,u.map (·.1))]):=rfl
theorem dgk_bool {op:COp} {g:Nat} {w b:Bool}:DGK C base fin k a un l nid d op g w e h n ds (some (.bool b))=if b=w then DK C base fin k a un (⟨d,none,op⟩::l) nid ⟨setE e g (.bool w),h,n⟩ ds else DK C base fin k a un l (nid+1) ⟨setD (setE e g (.bool (!w))) d (.tup []),h,n⟩ (ds++[(false,[],[])]):=rfl
theorem dgk_true_true {op:COp} {g:Nat}:DGK C base fin k a un l nid d op g true e h n ds (some (.bool true))=DK C base fin k a un (⟨d,none,op⟩::l) nid ⟨setE e g (.bool true),h,n⟩ ds:=rfl
theorem dgk_false_false {op:COp} {g:Nat}:DGK C base fin k a un l nid d op g false e h n ds (some (.bool false))=DK C base fin k a un (⟨d,none,op⟩::l) nid ⟨setE e g (.bool false),h,n⟩ ds:=rfl
theorem dgk_true_false {op:COp} {g:Nat}:DGK C base fin k a un l nid d op g true e h n ds (some (.bool false))=DK C base fin k a un l (nid+1) ⟨setD (setE e g (.bool false)) d (.tup []),h,n⟩ (ds++[(false,[],[])]):=rfl
theorem dgk_false_true {op:COp} {g:Nat}:DGK C base fin k a un l nid d op g false e h n ds (some (.bool true))=DK C base fin k a un l (nid+1) ⟨setD (setE e g (.bool true)) d (.tup []),h,n⟩ (ds++[(false,[],[])]):=rfl
theorem dgk_tup {op:COp} {g:Nat} {w:Bool}:DGK C base fin k a un l nid d op g w e h n ds (some (.tup []))=DK C base fin k a un l (nid+1) ⟨setD e d (.tup []),h,n⟩ (ds++[(false,[],[])]):=rfl
theorem dk_guard {op:COp} {g:Nat} {w:Bool}:DK C base fin k a un (⟨d,some (g,w),op⟩::l) nid ⟨e,h,n⟩ ds=DGK C base fin k a un l nid d op g w e h n ds (get e g):=by
 unfold DGK
 cases hg:get e g with
 | none=>rw [dk_cons];simp only [evOpW,wants,hg];rfl
 | some v =>
  cases v with
  | bool b =>
   simp only
   by_cases hw:b=w
   · subst hw
     rw [setE_same hg,if_pos rfl,dk_cons,dk_cons]
     simp only [evOpW,wants,hg,beq_self_eq_true]
   · have e1:(b == w)=false:=by simpa using hw
     have e2:(!w)=b:=by cases b <;> cases w <;> simp_all
     rw [if_neg hw,e2,setE_same hg,dk_cons]
     simp only [evOpW,wants,hg,e1,ob,rwOf]
  | tup vs =>
   cases vs with
   | nil=>rw [dk_cons];simp only [evOpW,wants,hg];rfl
   | cons _ _=>rw [dk_cons];simp only [evOpW,wants,hg];rfl
  | _=>rw [dk_cons];simp only [evOpW,wants,hg];rfl
theorem dvk_some {args:List AV} (v:AV):DVK C base fin k a un l nid d e h n ds args (some v)=DK C base fin k a un l nid ⟨setD e d v,applyW h (marksW h args v),n⟩ (ds++[(false,args.flatMap (reachW h frzDepth),(marksW h args v).map (·.1))]):=rfl
theorem dwk_some (r:AV × WHeap × Nat):DWK C base fin k a un l nid d e ds (some r)=DK C base fin k a un l nid ⟨setD e d r.1,r.2.1,r.2.2⟩ (ds++[(true,[],[])]):=rfl
theorem dpk_some {f:Nat} {args:List AV} (az:List AV):DPK C base fin k a un l nid d e h n ds f args (some az)=DVK C base fin k a un l nid d e h n ds args (FnW C f az):=rfl
theorem dfk_pure {f:Nat} {args:List AV}:DFK C base fin k a un l nid d e h n ds f args false false=DPK C base fin k a un l nid d e h n ds f args (mapO (frzW h frzDepth) args):=rfl
theorem dfk_inl {f:Nat} {args:List AV} {p:Bool}:DFK C base fin k a un l nid d e h n ds f args true p=DIK C base fin k a un l nid d e h n ds f args (isFr f):=rfl
theorem dik_false {f:Nat} {args:List AV}:DIK C base fin k a un l nid d e h n ds f args false=DWK C base fin k a un l nid d e ds (RnW C f args h n):=rfl
theorem dik_true {f:Nat} {args:List AV}:DIK C base fin k a un l nid d e h n ds f args true=DFPK C base fin k a un l nid d e h n ds f args (mapO (frzW h frzDepth) args):=rfl
theorem dfpk_some {f:Nat} {args:List AV} (az:List AV):DFPK C base fin k a un l nid d e h n ds f args (some az)=DTK C base fin k a un l nid d e h n ds f args az (isDp f):=rfl
theorem dtk_false {f:Nat} {args az:List AV}:DTK C base fin k a un l nid d e h n ds f args az false=DFSK C base fin k a un l nid d e h n ds (isBr f) args (freshCallW (RnW C) f az (nid - 1)):=rfl
theorem dtk_true {f:Nat} {args az:List AV}:DTK C base fin k a un l nid d e h n ds f args az true=DHK C base fin k a un l nid d e h n ds (isDb f) args (RnW C f az [] n):=rfl
theorem dhbk_true {args:List AV} (v:AV) (h1:WHeap) (n1:Nat):DHBK C base fin k a un l nid d e h n ds args v h1 n1 true=DK C base fin k a un l nid ⟨setD e d v,over n (h1.filter fun x=>(reachW h1 frzDepth v).contains x.1) h,n1⟩ (ds++[(true,args.flatMap (reachW h frzDepth),[n])]):=rfl
theorem dhk_bare {args:List AV} (r:AV × WHeap × Nat):DHK C base fin k a un l nid d e h n ds true args (some r)=DHBK C base fin k a un l nid d e h n ds args r.1 r.2.1 r.2.2 (keptXW r.2.1 r.1 (reachW r.2.1 frzDepth r.1)):=rfl
theorem dhk_some {args:List AV} (r:AV × WHeap × Nat):DHK C base fin k a un l nid d e h n ds false args (some r)=DK C base fin k a un l nid ⟨setD e d r.1,over n r.2.1 (applyW h (markFrozenW h (args.flatMap (reachW h frzDepth)))),r.2.2⟩ (ds++[(true,args.flatMap (reachW h frzDepth),n::(markFrozenW h (args.flatMap (reachW h frzDepth))).map (·.1))]):=rfl
theorem dbsk_true {args:List AV} (v:AV) (u:WUpd):DBSK C base fin k a un l nid d e h n ds args v u true=DK C base fin k a un l nid ⟨setD e d v,applyW h u,n⟩ (ds++[(false,args.flatMap (reachW h frzDepth),u.map (·.1))]):=rfl
theorem dfsk_bare {args:List AV} (v:AV) (u:WUpd):DFSK C base fin k a un l nid d e h n ds true args (some (v,u))=DBSK C base fin k a un l nid d e h n ds args v u (bareXW (v,u)):=rfl
theorem dfsk_some {args:List AV} (v:AV) (u:WUpd):DFSK C base fin k a un l nid d e h n ds false args (some (v,u))=DK C base fin k a un l nid ⟨setD e d v,applyW h (markFrozenW h (args.flatMap (reachW h frzDepth))++u),n⟩ (ds++[(false,args.flatMap (reachW h frzDepth),(markFrozenW h (args.flatMap (reachW h frzDepth))++u).map (·.1))]):=rfl
theorem dfk_ptr {f:Nat} {args:List AV}:DFK C base fin k a un l nid d e h n ds f args false true=DWK C base fin k a un l nid d e ds (RnW C f args h n):=rfl
theorem dqk_fn {f:Nat} {args caps:List AV}:DQK C base fin k a un l nid d e h n ds args (.fn f caps)=DFK C base fin k a un l nid d e h n ds f (args++caps) (C.inl f) (!C.pp f&&hasPtrL (args++caps)):=rfl
theorem dfk_eq {f:Nat} {args:List AV}:(ob (om (evCallW C (RnW C) f args h (nid - 1) n) (doneCallW h n args)) fun r=>DK C base fin k a un l nid ⟨setD e d r.v,r.h,r.n⟩ (ds++[rwOf r]))=DFK C base fin k a un l nid d e h n ds f args (C.inl f) (!C.pp f&&hasPtrL args):=by
 unfold DFK evCallW DIK DFPK DTK DHK DFSK DWK DPK DVK FnW
 split
 · split
   · cases mapO (frzW h frzDepth) args with
     | none=>rfl
     | some az =>
      simp only [ob]
      by_cases hdp:isDp f=true
      · simp only [if_pos hdp]
        cases RnW C f az [] n with
        | none=>rfl
        | some r =>
         simp only [deepKeepW,deepUW]
         by_cases hdb:isDb f=true
         · simp only [if_pos hdb]
           unfold DHBK
           by_cases hk:keptXW r.2.1 r.1 (reachW r.2.1 frzDepth r.1)=true
           · simp only [if_pos hk];rfl
           · simp only [if_neg hk];rfl
         · simp only [if_neg hdb];rfl
      simp only [if_neg hdp]
      cases freshCallW (RnW C) f az (nid - 1) with
      | none=>rfl
      | some x =>
       dsimp only [ob]
       unfold freshEndW freshUW DBSK
       cases isBr f
       · rfl
       · cases bareXW x <;> rfl
   · cases RnW C f args h n <;> rfl
 · split
   · cases RnW C f args h n <;> rfl
   · cases mapO (frzW h frzDepth) args with
     | none=>rfl
     | some az =>
      simp only [ob]
      cases pureCallW (RnW C) f az <;> rfl
theorem dk_call {f:Nat} {xs:List Opd}:DK C base fin k a un (⟨d,none,.call f xs⟩::l) nid ⟨e,h,n⟩ ds=DFK C base fin k a un l (nid+1) d e h n ds f (xs.map fun x=>x.ev e) (C.inl f) (!C.pp f&&hasPtrL (xs.map fun x=>x.ev e)):=by
 rw [← dfk_eq,dk_cons]
 simp only [evOpW,wants,evActW,callOf,Nat.add_sub_cancel]
theorem dk_callv {g:Opd} {xs:List Opd}:DK C base fin k a un (⟨d,none,.callv g xs⟩::l) nid ⟨e,h,n⟩ ds=DQK C base fin k a un l (nid+1) d e h n ds (xs.map fun x=>x.ev e) (g.ev e):=by
 unfold DQK
 rw [dk_cons]
 cases hg:g.ev e with
 | fn f caps =>
  simp only
  rw [← dfk_eq]
  simp only [evOpW,wants,evActW,callOf,hg,Nat.add_sub_cancel]
 | _ =>
  simp only [evOpW,wants,evActW,callOf,hg]
  rfl
theorem fnW_eq {f:Nat} {fn:WFn} (hf:C.fns.get f=some fn) {args:List AV} (hl:args.length=fn.np):FnW C f args=CK C 0 (pureFin fn.res) [] fn.body ⟨argW 0 args [],[],0⟩:=by
 unfold FnW pureCallW RnW runWithW CK pureFin
 rw [hf]
 simp only [ob,if_pos hl,RK]
 cases CdW C 0 fn.body ⟨argW 0 args [],[],0⟩ with
 | none=>rfl
 | some r=>rfl
theorem rnW_eq {f:Nat} {fn:WFn} (hf:C.fns.get f=some fn) {args:List AV} (hl:args.length=fn.np) (h:WHeap) (n:Nat):RnW C f args h n=CK C n (fnEndW fn.res) [] fn.body ⟨argW 0 args [],h,n⟩:=by
 unfold RnW runWithW CK
 rw [hf]
 simp only [ob,if_pos hl,RK]
end
end Go.Pw
end
section
namespace Go.Pw
open Go Go.Pav
attribute [simp] ck_prim primF primAfter primN primArgs ck_seq ck_skip ck_exit ck_ret ck_cond ck_block ck_ops ck_draw nk_nil nk_sq nk_sq_exit nk_sq_ret nk_lp_exit nk_lp_ret nk_bk nk_bk_exit nk_bk_ret ak_some lk_some
 ok_nil sk_some gk_tup ok_guard vk_some wk_some pk_some fk_pure fk_inl fk_ptr qk_fn ok_call ok_callv dk_nil ek_true dsk_some dgk_tup dk_guard dvk_some dwk_some dpk_some dfk_pure dfk_inl dfk_ptr dqk_fn dk_call dk_callv ik_false ik_true fpk_some fsk_some fsk_bare bsk_true dfsk_bare dbsk_true isBr bareXW bareOW bareV bareL dik_false dik_true dfpk_some dfsk_some isFr isDp tk_false tk_true hk_some hk_bare hbk_true dtk_false dtk_true dhk_some dhk_bare dhbk_true isDb keptXW keptOW keptV keptL
attribute [simp high] condK_true condK_false gk_true_true gk_false_false gk_true_false gk_false_true dgk_true_true dgk_false_false dgk_true_false dgk_false_true
attribute [simp low] condK_bool gk_bool dgk_bool
section
variable {β:Type} {C:WProg} {base:Nat} {fin:Ex × WSt→Option β} {k:List Frame} {a:Ann} {l:List COper} {d:Option Nat} {e:Env} {h:WHeap} {n:Nat} {un:List (Nat × Nat)} {nid:Nat} {ds:List RW}
@[simp] theorem ok_mv {x:Opd}:OK C base fin k a (⟨d,none,.mv x⟩::l) ⟨e,h,n⟩=OK C base fin k a l ⟨setD e d (x.ev e),h,n+1⟩:=by rw [ok_step rfl];rfl
@[simp] theorem ok_pick {c x y:Opd}:OK C base fin k a (⟨d,none,.pick c x y⟩::l) ⟨e,h,n⟩=SK C base fin k a l d e h (n+1) (stepW (.pick c x y) e h n):=ok_step rfl
@[simp] theorem ok_alloc {z:List AV}:OK C base fin k a (⟨d,none,.alloc z⟩::l) ⟨e,h,n⟩=SK C base fin k a l d e h (n+1) (stepW (.alloc z) e h n):=ok_step rfl
@[simp] theorem ok_box {x:Opd}:OK C base fin k a (⟨d,none,.box x⟩::l) ⟨e,h,n⟩=SK C base fin k a l d e h (n+1) (stepW (.box x) e h n):=ok_step rfl
@[simp] theorem ok_build {z:List AV} {ps:List (Nat × Nat × Opd)}:OK C base fin k a (⟨d,none,.build z ps⟩::l) ⟨e,h,n⟩=SK C base fin k a l d e h (n+1) (stepW (.build z ps) e h n):=ok_step rfl
@[simp] theorem ok_buildS {z:List AV} {m:Nat} {ps:List (Nat × Opd)}:OK C base fin k a (⟨d,none,.buildS z m ps⟩::l) ⟨e,h,n⟩=SK C base fin k a l d e h (n+1) (stepW (.buildS z m ps) e h n):=ok_step rfl
@[simp] theorem ok_load {m:Nat} {ag:Bool} {x:Opd}:OK C base fin k a (⟨d,none,.load m ag x⟩::l) ⟨e,h,n⟩=SK C base fin k a l d e h (n+1) (stepW (.load m ag x) e h n):=ok_step rfl
@[simp] theorem ok_store {m:Nat} {x y:Opd}:OK C base fin k a (⟨d,none,.store m x y⟩::l) ⟨e,h,n⟩=SK C base fin k a l d e h (n+1) (stepW (.store m x y) e h n):=ok_step rfl
@[simp] theorem ok_nilchk {x:Opd}:OK C base fin k a (⟨d,none,.nilchk x⟩::l) ⟨e,h,n⟩=SK C base fin k a l d e h (n+1) (stepW (.nilchk x) e h n):=ok_step rfl
@[simp] theorem ok_bin {op:BinOp} {x y:Opd}:OK C base fin k a (⟨d,none,.bin op x y⟩::l) ⟨e,h,n⟩=SK C base fin k a l d e h (n+1) (stepW (.bin op x y) e h n):=ok_step rfl
@[simp] theorem ok_eqv {kd:Nat} {ks:List Nat} {ne:Bool} {x y:Opd}:OK C base fin k a (⟨d,none,.eqv kd ks ne x y⟩::l) ⟨e,h,n⟩=SK C base fin k a l d e h (n+1) (stepW (.eqv kd ks ne x y) e h n):=ok_step rfl
@[simp] theorem ok_un {op:UnOp} {x:Opd}:OK C base fin k a (⟨d,none,.un op x⟩::l) ⟨e,h,n⟩=SK C base fin k a l d e h (n+1) (stepW (.un op x) e h n):=ok_step rfl
@[simp] theorem ok_cvt {kk:IntKind} {x:Opd}:OK C base fin k a (⟨d,none,.cvt kk x⟩::l) ⟨e,h,n⟩=SK C base fin k a l d e h (n+1) (stepW (.cvt kk x) e h n):=ok_step rfl
@[simp] theorem ok_cvs {x:Opd}:OK C base fin k a (⟨d,none,.cvs x⟩::l) ⟨e,h,n⟩=SK C base fin k a l d e h (n+1) (stepW (.cvs x) e h n):=ok_step rfl
@[simp] theorem ok_cvb {x:Opd}:OK C base fin k a (⟨d,none,.cvb x⟩::l) ⟨e,h,n⟩=SK C base fin k a l d e h (n+1) (stepW (.cvb x) e h n):=ok_step rfl
@[simp] theorem ok_mkfn {f:Nat} {xs:List Opd}:OK C base fin k a (⟨d,none,.mkfn f xs⟩::l) ⟨e,h,n⟩=SK C base fin k a l d e h (n+1) (stepW (.mkfn f xs) e h n):=ok_step rfl
@[simp] theorem ok_mkmap:OK C base fin k a (⟨d,none,.mkmap⟩::l) ⟨e,h,n⟩=SK C base fin k a l d e h (n+1) (stepW .mkmap e h n):=ok_step rfl
@[simp] theorem ok_mksl {z:List AV} {b:Nat} {x y:Opd}:OK C base fin k a (⟨d,none,.mksl z b x y⟩::l) ⟨e,h,n⟩=SK C base fin k a l d e h (n+1) (stepW (.mksl z b x y) e h n):=ok_step rfl
@[simp] theorem ok_slice {z:Nat} {x:Opd} {lo hi mx:Option Opd}:OK C base fin k a (⟨d,none,.slice z x lo hi mx⟩::l) ⟨e,h,n⟩=SK C base fin k a l d e h (n+1) (stepW (.slice z x lo hi mx) e h n):=ok_step rfl
@[simp] theorem ok_sliceA {z:Nat} {x:Opd} {lo hi:Option Opd}:OK C base fin k a (⟨d,none,.sliceA z x lo hi⟩::l) ⟨e,h,n⟩=SK C base fin k a l d e h (n+1) (stepW (.sliceA z x lo hi) e h n):=ok_step rfl
@[simp] theorem ok_fld {o:Nat} {x:Opd}:OK C base fin k a (⟨d,none,.fld o x⟩::l) ⟨e,h,n⟩=SK C base fin k a l d e h (n+1) (stepW (.fld o x) e h n):=ok_step rfl
@[simp] theorem ok_fldv {o m:Nat} {ag:Bool} {x:Opd}:OK C base fin k a (⟨d,none,.fldv o m ag x⟩::l) ⟨e,h,n⟩=SK C base fin k a l d e h (n+1) (stepW (.fldv o m ag x) e h n):=ok_step rfl
@[simp] theorem ok_idxs {z:Nat} {x y:Opd}:OK C base fin k a (⟨d,none,.idxs z x y⟩::l) ⟨e,h,n⟩=SK C base fin k a l d e h (n+1) (stepW (.idxs z x y) e h n):=ok_step rfl
@[simp] theorem ok_idxa {m z:Nat} {x y:Opd}:OK C base fin k a (⟨d,none,.idxa m z x y⟩::l) ⟨e,h,n⟩=SK C base fin k a l d e h (n+1) (stepW (.idxa m z x y) e h n):=ok_step rfl
@[simp] theorem ok_idxstr {x y:Opd}:OK C base fin k a (⟨d,none,.idxstr x y⟩::l) ⟨e,h,n⟩=SK C base fin k a l d e h (n+1) (stepW (.idxstr x y) e h n):=ok_step rfl
@[simp] theorem ok_idxv {m z:Nat} {ag:Bool} {x y:Opd}:OK C base fin k a (⟨d,none,.idxv m z ag x y⟩::l) ⟨e,h,n⟩=SK C base fin k a l d e h (n+1) (stepW (.idxv m z ag x y) e h n):=ok_step rfl
@[simp] theorem ok_look {kd:Nat} {z:AV} {ok:Bool} {x y:Opd}:OK C base fin k a (⟨d,none,.look kd z ok x y⟩::l) ⟨e,h,n⟩=SK C base fin k a l d e h (n+1) (stepW (.look kd z ok x y) e h n):=ok_step rfl
@[simp] theorem ok_upd {kd:Nat} {x y z:Opd}:OK C base fin k a (⟨d,none,.upd kd x y z⟩::l) ⟨e,h,n⟩=SK C base fin k a l d e h (n+1) (stepW (.upd kd x y z) e h n):=ok_step rfl
@[simp] theorem ok_range {x:Opd}:OK C base fin k a (⟨d,none,.range x⟩::l) ⟨e,h,n⟩=SK C base fin k a l d e h (n+1) (stepW (.range x) e h n):=ok_step rfl
@[simp] theorem ok_next {x:Opd}:OK C base fin k a (⟨d,none,.next x⟩::l) ⟨e,h,n⟩=SK C base fin k a l d e h (n+1) (stepW (.next x) e h n):=ok_step rfl
@[simp] theorem ok_ext {i:Nat} {x:Opd}:OK C base fin k a (⟨d,none,.ext i x⟩::l) ⟨e,h,n⟩=SK C base fin k a l d e h (n+1) (stepW (.ext i x) e h n):=ok_step rfl
@[simp] theorem ok_len {kd:Nat} {x:Opd}:OK C base fin k a (⟨d,none,.len kd x⟩::l) ⟨e,h,n⟩=SK C base fin k a l d e h (n+1) (stepW (.len kd x) e h n):=ok_step rfl
@[simp] theorem ok_cap {x:Opd}:OK C base fin k a (⟨d,none,.cap x⟩::l) ⟨e,h,n⟩=SK C base fin k a l d e h (n+1) (stepW (.cap x) e h n):=ok_step rfl
@[simp] theorem ok_app {z:List AV} {b:Nat} {zs:Bool} {x y:Opd}:OK C base fin k a (⟨d,none,.app z b zs x y⟩::l) ⟨e,h,n⟩=SK C base fin k a l d e h (n+1) (stepW (.app z b zs x y) e h n):=ok_step rfl
@[simp] theorem ok_cpy {z:Nat} {x y:Opd}:OK C base fin k a (⟨d,none,.cpy z x y⟩::l) ⟨e,h,n⟩=SK C base fin k a l d e h (n+1) (stepW (.cpy z x y) e h n):=ok_step rfl
@[simp] theorem ok_clr {z:List AV} {x:Opd}:OK C base fin k a (⟨d,none,.clr z x⟩::l) ⟨e,h,n⟩=SK C base fin k a l d e h (n+1) (stepW (.clr z x) e h n):=ok_step rfl
@[simp] theorem ok_mx {x y:Opd}:OK C base fin k a (⟨d,none,.mx x y⟩::l) ⟨e,h,n⟩=SK C base fin k a l d e h (n+1) (stepW (.mx x y) e h n):=ok_step rfl
@[simp] theorem ok_mn {x y:Opd}:OK C base fin k a (⟨d,none,.mn x y⟩::l) ⟨e,h,n⟩=SK C base fin k a l d e h (n+1) (stepW (.mn x y) e h n):=ok_step rfl
@[simp] theorem dk_mv {x:Opd}:DK C base fin k a un (⟨d,none,.mv x⟩::l) nid ⟨e,h,n⟩ ds=DSK C base fin k a un l (nid+1) d e h n ds (readsOf e (.mv x)) (stepW (.mv x) e h nid):=dk_step rfl
@[simp] theorem dk_pick {c x y:Opd}:DK C base fin k a un (⟨d,none,.pick c x y⟩::l) nid ⟨e,h,n⟩ ds=DSK C base fin k a un l (nid+1) d e h n ds (readsOf e (.pick c x y)) (stepW (.pick c x y) e h nid):=dk_step rfl
@[simp] theorem dk_alloc {z:List AV}:DK C base fin k a un (⟨d,none,.alloc z⟩::l) nid ⟨e,h,n⟩ ds=DSK C base fin k a un l (nid+1) d e h n ds (readsOf e (.alloc z)) (stepW (.alloc z) e h nid):=dk_step rfl
@[simp] theorem dk_box {x:Opd}:DK C base fin k a un (⟨d,none,.box x⟩::l) nid ⟨e,h,n⟩ ds=DSK C base fin k a un l (nid+1) d e h n ds (readsOf e (.box x)) (stepW (.box x) e h nid):=dk_step rfl
@[simp] theorem dk_build {z:List AV} {ps:List (Nat × Nat × Opd)}:DK C base fin k a un (⟨d,none,.build z ps⟩::l) nid ⟨e,h,n⟩ ds=DSK C base fin k a un l (nid+1) d e h n ds (readsOf e (.build z ps)) (stepW (.build z ps) e h nid):=dk_step rfl
@[simp] theorem dk_buildS {z:List AV} {m:Nat} {ps:List (Nat × Opd)}:DK C base fin k a un (⟨d,none,.buildS z m ps⟩::l) nid ⟨e,h,n⟩ ds=DSK C base fin k a un l (nid+1) d e h n ds (readsOf e (.buildS z m ps)) (stepW (.buildS z m ps) e h nid):=dk_step rfl
@[simp] theorem dk_load {m:Nat} {ag:Bool} {x:Opd}:DK C base fin k a un (⟨d,none,.load m ag x⟩::l) nid ⟨e,h,n⟩ ds=DSK C base fin k a un l (nid+1) d e h n ds (readsOf e (.load m ag x)) (stepW (.load m ag x) e h nid):=dk_step rfl
@[simp] theorem dk_store {m:Nat} {x y:Opd}:DK C base fin k a un (⟨d,none,.store m x y⟩::l) nid ⟨e,h,n⟩ ds=DSK C base fin k a un l (nid+1) d e h n ds (readsOf e (.store m x y)) (stepW (.store m x y) e h nid):=dk_step rfl
@[simp] theorem dk_nilchk {x:Opd}:DK C base fin k a un (⟨d,none,.nilchk x⟩::l) nid ⟨e,h,n⟩ ds=DSK C base fin k a un l (nid+1) d e h n ds (readsOf e (.nilchk x)) (stepW (.nilchk x) e h nid):=dk_step rfl
@[simp] theorem dk_bin {op:BinOp} {x y:Opd}:DK C base fin k a un (⟨d,none,.bin op x y⟩::l) nid ⟨e,h,n⟩ ds=DSK C base fin k a un l (nid+1) d e h n ds (readsOf e (.bin op x y)) (stepW (.bin op x y) e h nid):=dk_step rfl
@[simp] theorem dk_eqv {kd:Nat} {ks:List Nat} {ne:Bool} {x y:Opd}:DK C base fin k a un (⟨d,none,.eqv kd ks ne x y⟩::l) nid ⟨e,h,n⟩ ds=DSK C base fin k a un l (nid+1) d e h n ds (readsOf e (.eqv kd ks ne x y)) (stepW (.eqv kd ks ne x y) e h nid):=dk_step rfl
@[simp] theorem dk_un {op:UnOp} {x:Opd}:DK C base fin k a un (⟨d,none,.un op x⟩::l) nid ⟨e,h,n⟩ ds=DSK C base fin k a un l (nid+1) d e h n ds (readsOf e (.un op x)) (stepW (.un op x) e h nid):=dk_step rfl
@[simp] theorem dk_cvt {kk:IntKind} {x:Opd}:DK C base fin k a un (⟨d,none,.cvt kk x⟩::l) nid ⟨e,h,n⟩ ds=DSK C base fin k a un l (nid+1) d e h n ds (readsOf e (.cvt kk x)) (stepW (.cvt kk x) e h nid):=dk_step rfl
@[simp] theorem dk_cvs {x:Opd}:DK C base fin k a un (⟨d,none,.cvs x⟩::l) nid ⟨e,h,n⟩ ds=DSK C base fin k a un l (nid+1) d e h n ds (readsOf e (.cvs x)) (stepW (.cvs x) e h nid):=dk_step rfl
@[simp] theorem dk_cvb {x:Opd}:DK C base fin k a un (⟨d,none,.cvb x⟩::l) nid ⟨e,h,n⟩ ds=DSK C base fin k a un l (nid+1) d e h n ds (readsOf e (.cvb x)) (stepW (.cvb x) e h nid):=dk_step rfl
@[simp] theorem dk_mkfn {f:Nat} {xs:List Opd}:DK C base fin k a un (⟨d,none,.mkfn f xs⟩::l) nid ⟨e,h,n⟩ ds=DSK C base fin k a un l (nid+1) d e h n ds (readsOf e (.mkfn f xs)) (stepW (.mkfn f xs) e h nid):=dk_step rfl
@[simp] theorem dk_mkmap:DK C base fin k a un (⟨d,none,.mkmap⟩::l) nid ⟨e,h,n⟩ ds=DSK C base fin k a un l (nid+1) d e h n ds (readsOf e (.mkmap)) (stepW (.mkmap) e h nid):=dk_step rfl
@[simp] theorem dk_mksl {z:List AV} {b:Nat} {x y:Opd}:DK C base fin k a un (⟨d,none,.mksl z b x y⟩::l) nid ⟨e,h,n⟩ ds=DSK C base fin k a un l (nid+1) d e h n ds (readsOf e (.mksl z b x y)) (stepW (.mksl z b x y) e h nid):=dk_step rfl
@[simp] theorem dk_slice {z:Nat} {x:Opd} {lo hi mx:Option Opd}:DK C base fin k a un (⟨d,none,.slice z x lo hi mx⟩::l) nid ⟨e,h,n⟩ ds=DSK C base fin k a un l (nid+1) d e h n ds (readsOf e (.slice z x lo hi mx)) (stepW (.slice z x lo hi mx) e h nid):=dk_step rfl
@[simp] theorem dk_sliceA {z:Nat} {x:Opd} {lo hi:Option Opd}:DK C base fin k a un (⟨d,none,.sliceA z x lo hi⟩::l) nid ⟨e,h,n⟩ ds=DSK C base fin k a un l (nid+1) d e h n ds (readsOf e (.sliceA z x lo hi)) (stepW (.sliceA z x lo hi) e h nid):=dk_step rfl
@[simp] theorem dk_fld {o:Nat} {x:Opd}:DK C base fin k a un (⟨d,none,.fld o x⟩::l) nid ⟨e,h,n⟩ ds=DSK C base fin k a un l (nid+1) d e h n ds (readsOf e (.fld o x)) (stepW (.fld o x) e h nid):=dk_step rfl
@[simp] theorem dk_fldv {o m:Nat} {ag:Bool} {x:Opd}:DK C base fin k a un (⟨d,none,.fldv o m ag x⟩::l) nid ⟨e,h,n⟩ ds=DSK C base fin k a un l (nid+1) d e h n ds (readsOf e (.fldv o m ag x)) (stepW (.fldv o m ag x) e h nid):=dk_step rfl
@[simp] theorem dk_idxs {z:Nat} {x y:Opd}:DK C base fin k a un (⟨d,none,.idxs z x y⟩::l) nid ⟨e,h,n⟩ ds=DSK C base fin k a un l (nid+1) d e h n ds (readsOf e (.idxs z x y)) (stepW (.idxs z x y) e h nid):=dk_step rfl
@[simp] theorem dk_idxa {m z:Nat} {x y:Opd}:DK C base fin k a un (⟨d,none,.idxa m z x y⟩::l) nid ⟨e,h,n⟩ ds=DSK C base fin k a un l (nid+1) d e h n ds (readsOf e (.idxa m z x y)) (stepW (.idxa m z x y) e h nid):=dk_step rfl
@[simp] theorem dk_idxstr {x y:Opd}:DK C base fin k a un (⟨d,none,.idxstr x y⟩::l) nid ⟨e,h,n⟩ ds=DSK C base fin k a un l (nid+1) d e h n ds (readsOf e (.idxstr x y)) (stepW (.idxstr x y) e h nid):=dk_step rfl
@[simp] theorem dk_idxv {m z:Nat} {ag:Bool} {x y:Opd}:DK C base fin k a un (⟨d,none,.idxv m z ag x y⟩::l) nid ⟨e,h,n⟩ ds=DSK C base fin k a un l (nid+1) d e h n ds (readsOf e (.idxv m z ag x y)) (stepW (.idxv m z ag x y) e h nid):=dk_step rfl
@[simp] theorem dk_look {kd:Nat} {z:AV} {ok:Bool} {x y:Opd}:DK C base fin k a un (⟨d,none,.look kd z ok x y⟩::l) nid ⟨e,h,n⟩ ds=DSK C base fin k a un l (nid+1) d e h n ds (readsOf e (.look kd z ok x y)) (stepW (.look kd z ok x y) e h nid):=dk_step rfl
@[simp] theorem dk_upd {kd:Nat} {x y z:Opd}:DK C base fin k a un (⟨d,none,.upd kd x y z⟩::l) nid ⟨e,h,n⟩ ds=DSK C base fin k a un l (nid+1) d e h n ds (readsOf e (.upd kd x y z)) (stepW (.upd kd x y z) e h nid):=dk_step rfl
@[simp] theorem dk_range {x:Opd}:DK C base fin k a un (⟨d,none,.range x⟩::l) nid ⟨e,h,n⟩ ds=DSK C base fin k a un l (nid+1) d e h n ds (readsOf e (.range x)) (stepW (.range x) e h nid):=dk_step rfl
@[simp] theorem dk_next {x:Opd}:DK C base fin k a un (⟨d,none,.next x⟩::l) nid ⟨e,h,n⟩ ds=DSK C base fin k a un l (nid+1) d e h n ds (readsOf e (.next x)) (stepW (.next x) e h nid):=dk_step rfl
@[simp] theorem dk_ext {i:Nat} {x:Opd}:DK C base fin k a un (⟨d,none,.ext i x⟩::l) nid ⟨e,h,n⟩ ds=DSK C base fin k a un l (nid+1) d e h n ds (readsOf e (.ext i x)) (stepW (.ext i x) e h nid):=dk_step rfl
@[simp] theorem dk_len {kd:Nat} {x:Opd}:DK C base fin k a un (⟨d,none,.len kd x⟩::l) nid ⟨e,h,n⟩ ds=DSK C base fin k a un l (nid+1) d e h n ds (readsOf e (.len kd x)) (stepW (.len kd x) e h nid):=dk_step rfl
@[simp] theorem dk_cap {x:Opd}:DK C base fin k a un (⟨d,none,.cap x⟩::l) nid ⟨e,h,n⟩ ds=DSK C base fin k a un l (nid+1) d e h n ds (readsOf e (.cap x)) (stepW (.cap x) e h nid):=dk_step rfl
@[simp] theorem dk_app {z:List AV} {b:Nat} {zs:Bool} {x y:Opd}:DK C base fin k a un (⟨d,none,.app z b zs x y⟩::l) nid ⟨e,h,n⟩ ds=DSK C base fin k a un l (nid+1) d e h n ds (readsOf e (.app z b zs x y)) (stepW (.app z b zs x y) e h nid):=dk_step rfl
@[simp] theorem dk_cpy {z:Nat} {x y:Opd}:DK C base fin k a un (⟨d,none,.cpy z x y⟩::l) nid ⟨e,h,n⟩ ds=DSK C base fin k a un l (nid+1) d e h n ds (readsOf e (.cpy z x y)) (stepW (.cpy z x y) e h nid):=dk_step rfl
@[simp] theorem dk_clr {z:List AV} {x:Opd}:DK C base fin k a un (⟨d,none,.clr z x⟩::l) nid ⟨e,h,n⟩ ds=DSK C base fin k a un l (nid+1) d e h n ds (readsOf e (.clr z x)) (stepW (.clr z x) e h nid):=dk_step rfl
@[simp] theorem dk_mx {x y:Opd}:DK C base fin k a un (⟨d,none,.mx x y⟩::l) nid ⟨e,h,n⟩ ds=DSK C base fin k a un l (nid+1) d e h n ds (readsOf e (.mx x y)) (stepW (.mx x y) e h nid):=dk_step rfl
@[simp] theorem dk_mn {x y:Opd}:DK C base fin k a un (⟨d,none,.mn x y⟩::l) nid ⟨e,h,n⟩ ds=DSK C base fin k a un l (nid+1) d e h n ds (readsOf e (.mn x y)) (stepW (.mn x y) e h nid):=dk_step rfl
end
@[simp] theorem nat?_cast (n:Nat):nat? (n:Int)=some n:=rfl
@[simp] theorem nat?_zero:nat? 0=some 0:=rfl
@[simp] theorem nat?_one:nat? 1=some 1:=rfl
@[simp] theorem nat?_lit (n:Nat):nat? (no_index (OfNat.ofNat n):Int)=some n:=rfl
@[simp] theorem nat?_add (n m:Nat):nat? ((n:Int)+(m:Int))=some (n+m):=rfl
@[simp] theorem nat?_add_lit (n m:Nat):nat? ((n:Int)+(no_index (OfNat.ofNat m):Int))=some (n+m):=rfl
theorem wI64 {x:Int} (h1:-9223372036854775808≤x) (h2:x < 9223372036854775808):IntKind.i64.wrap x=x:=by
 show (if (true&&decide (x % 18446744073709551616 ≥ 9223372036854775808))=true then x % 18446744073709551616 - 18446744073709551616 else x % 18446744073709551616)=x
 simp only [Bool.true_and,decide_eq_true_eq]
 split <;> omega
theorem wU64 {x:Int} (h1:0≤x) (h2:x < 18446744073709551616):IntKind.u64.wrap x=x:=by
 show (if (false&&decide (x % 18446744073709551616 ≥ 9223372036854775808))=true then x % 18446744073709551616 - 18446744073709551616 else x % 18446744073709551616)=x
 simp only [Bool.false_and,Bool.false_eq_true,if_false]
 omega
theorem wU8 {x:Int} (h1:0≤x) (h2:x < 256):IntKind.u8.wrap x=x:=by
 show (if (false&&decide (x % 256 ≥ 128))=true then x % 256 - 256 else x % 256)=x
 simp only [Bool.false_and,Bool.false_eq_true,if_false]
 omega
@[simp ↓] theorem ob_s {α β:Type} (a:α) (f:α→Option β):ob (some a) f=f a:=rfl
@[simp] theorem resOf_tmp (e:Env) (h:WHeap) (t:Nat):resOfW e h (.tmp t)=Pav.get e t:=rfl
def cellOf (h:WHeap) (n:Nat) (ag:Bool):Option AV→Option AV
 | some (.ptr b i o)=>wLoadAt n ag o i (Pav.get h b)
 | _=>none
@[simp] theorem resOf_cell (e:Env) (h:WHeap) (t n:Nat) (ag:Bool):resOfW e h (.cell t n ag)=cellOf h n ag (Pav.get e t):=rfl
attribute [simp] cellOf
@[simp] theorem ev_t (s:Nat) (e:Env):(Opd.t s).ev e=(Pav.get e s).getD .undef:=rfl
@[simp] theorem ev_c (v:AV) (e:Env):(Opd.c v).ev e=v:=rfl
@[simp ↓] theorem ob_n {α β:Type} (f:α→Option β):ob none f=none:=rfl
@[simp ↓] theorem om_s {α β:Type} (a:α) (f:α→β):om (some a) f=some (f a):=rfl
@[simp ↓] theorem om_n {α β:Type} (f:α→β):om none f=none:=rfl
@[simp] theorem og_t {β:Type} (x:Option β):og true x=x:=rfl
@[simp] theorem og_f {β:Type} (x:Option β):og false x=none:=rfl
@[simp] theorem ov_s (v:AV):ov (some v)=some (v,[]):=rfl
@[simp] theorem ovW_s (v:AV):ovW (some v)=some (v,[]):=rfl
@[simp] theorem plainW_s (x:AV × Upd):plainW (some x)=some (x.1,[]):=rfl
def consO {α:Type}:Option α→Option (List α)→Option (List α)
 | some a,some l=>some (a::l)
 | _,_=>none
@[simp] theorem consO_s {α:Type} (a:α) (l:List α):consO (some a) (some l)=some (a::l):=rfl
@[simp] theorem mapO_nil {α β:Type} (f:α→Option β):mapO f []=some []:=rfl
@[simp] theorem mapO_cons {α β:Type} (f:α→Option β) (a:α) (r:List α):mapO f (a::r)=consO (f a) (mapO f r):=by
 simp only [mapO];cases f a <;> cases mapO f r <;> rfl
def consE (k:Nat):Option AV→Option Env→Option Env
 | some v,some r=>some ((k,v)::r)
 | _,_=>none
@[simp] theorem consE_s (k:Nat) (v:AV) (r:Env):consE k (some v) (some r)=some ((k,v)::r):=rfl
@[simp] theorem renEnv_nil (π:Nat→Option Nat):renEnv π []=some []:=rfl
@[simp] theorem renEnv_cons (π:Nat→Option Nat) (k:Nat) (v:AV) (r:Env):renEnv π ((k,v)::r)=consE k (ren π v) (renEnv π r):=by
 simp only [renEnv];cases ren π v <;> cases renEnv π r <;> rfl
def ptrO (i o:Nat):Option Nat→Option AV
 | some b=>some (.ptr b i o)
 | none=>none
def slO (z i l c:Nat) (ex:Bool):Option Nat→Option AV
 | some b=>some (.sl b z i l c ex)
 | none=>none
def mapV:Option Nat→Option AV
 | some b=>some (.map b)
 | none=>none
def fnO (f:Nat):Option (List AV)→Option AV
 | some cs=>some (.fn f cs)
 | none=>none
def aggO:Option (List AV)→Option AV
 | some cs=>some (.agg cs)
 | none=>none
def tupO:Option (List AV)→Option AV
 | some cs=>some (.tup cs)
 | none=>none
@[simp] theorem ptrO_s (i o b:Nat):ptrO i o (some b)=some (.ptr b i o):=rfl
@[simp] theorem slO_s (z i l c:Nat) (ex:Bool) (b:Nat):slO z i l c ex (some b)=some (.sl b z i l c ex):=rfl
@[simp] theorem mapV_s (b:Nat):mapV (some b)=some (.map b):=rfl
@[simp] theorem fnO_s (f:Nat) (cs:List AV):fnO f (some cs)=some (.fn f cs):=rfl
@[simp] theorem aggO_s (cs:List AV):aggO (some cs)=some (.agg cs):=rfl
@[simp] theorem tupO_s (cs:List AV):tupO (some cs)=some (.tup cs):=rfl
section
variable (π:Nat→Option Nat)
@[simp] theorem ren_ptr (b i o:Nat):ren π (.ptr b i o)=ptrO i o (π b):=by simp only [ren];cases π b <;> rfl
@[simp] theorem ren_sl (b z i l c:Nat) (ex:Bool):ren π (.sl b z i l c ex)=slO z i l c ex (π b):=by simp only [ren];cases π b <;> rfl
@[simp] theorem ren_map (b:Nat):ren π (.map b)=mapV (π b):=by simp only [ren];cases π b <;> rfl
@[simp] theorem ren_fn (f:Nat) (cs:List AV):ren π (.fn f cs)=fnO f (renL π cs):=by simp only [ren];cases renL π cs <;> rfl
@[simp] theorem ren_agg (cs:List AV):ren π (.agg cs)=aggO (renL π cs):=by simp only [ren];cases renL π cs <;> rfl
@[simp] theorem ren_tup (cs:List AV):ren π (.tup cs)=tupO (renL π cs):=by simp only [ren];cases renL π cs <;> rfl
@[simp] theorem ren_undef:ren π .undef=some .undef:=rfl
@[simp] theorem ren_bool (b:Bool):ren π (.bool b)=some (.bool b):=rfl
@[simp] theorem ren_int (k:IntKind) (n:Int):ren π (.int k n)=some (.int k n):=rfl
@[simp] theorem ren_str (s:List UInt8):ren π (.str s)=some (.str s):=rfl
@[simp] theorem ren_nilp:ren π .nilp=some .nilp:=rfl
@[simp] theorem ren_nils:ren π .nils=some .nils:=rfl
@[simp] theorem ren_nilm:ren π .nilm=some .nilm:=rfl
@[simp] theorem ren_nilf:ren π .nilf=some .nilf:=rfl
@[simp] theorem ren_ro (z:Nat) (es:List (List AV)) (ex:Bool):ren π (.ro z es ex)=some (.ro z es ex):=rfl
@[simp] theorem ren_rop (cs:List AV):ren π (.rop cs)=some (.rop cs):=rfl
@[simp] theorem renL_nil:renL π []=some []:=rfl
@[simp] theorem renL_cons (v:AV) (r:List AV):renL π (v::r)=consO (ren π v) (renL π r):=by simp only [renL];cases ren π v <;> cases renL π r <;> rfl
def cellsO (z:Nat) (mu dt:Bool):Option (List (List AV))→Option WObj
 | some es=>some (.cells z es mu dt)
 | none=>none
@[simp] theorem cellsO_s (z:Nat) (mu dt:Bool) (es:List (List AV)):cellsO z mu dt (some es)=some (.cells z es mu dt):=rfl
@[simp] theorem renObj_dt (z:Nat) (es:List (List AV)) (mu:Bool):renObj π (.cells z es mu true)=some (.cells z es mu true):=rfl
@[simp] theorem renObj_nd (z:Nat) (es:List (List AV)) (mu:Bool):renObj π (.cells z es mu false)=cellsO z mu false (mapO (renL π) es):=by simp only [renObj];cases mapO (renL π) es <;> rfl
@[simp] theorem renObj_map (es:List (AV × AV)):renObj π (.map es)=some (.map es):=rfl
@[simp] theorem renObj_iter (s:List UInt8) (p:Nat):renObj π (.iter s p)=some (.iter s p):=rfl
def consH (k:Nat):Option WObj→Option WHeap→Option WHeap
 | some v,some r=>some ((k,v)::r)
 | _,_=>none
@[simp] theorem consH_s (k:Nat) (v:WObj) (r:WHeap):consH k (some v) (some r)=some ((k,v)::r):=rfl
@[simp] theorem renOld_nil (base:Nat):renOld base π []=some []:=rfl
@[simp] theorem renOld_cons (base b:Nat) (o:WObj) (r:WHeap):renOld base π ((b,o)::r)=if b < base then consH b (renObj π o) (renOld base π r) else renOld base π r:=by
 simp only [renOld]
 split
 · cases renObj π o <;> cases renOld base π r <;> rfl
 · rfl
def newH (n:Nat) (π:Nat→Option Nat) (r:Option WHeap):Option WObj→Option WHeap
 | some o=>consH n (renObj π o) r
 | none=>r
@[simp] theorem newH_s (n:Nat) (r:Option WHeap) (o:WObj):newH n π r (some o)=consH n (renObj π o) r:=rfl
@[simp] theorem newH_n (n:Nat) (r:Option WHeap):newH n π r none=r:=rfl
@[simp] theorem renNew_nil (h:WHeap) (n:Nat):renNew π h n []=some []:=rfl
@[simp] theorem renNew_cons (h:WHeap) (n b:Nat) (r:List Nat):renNew π h n (b::r)=newH n π (renNew π h (n+1) r) (Pav.get h b):=by
 simp only [renNew,newH]
 cases Pav.get h b with
 | none=>rfl
 | some o=>simp only;cases renObj π o <;> cases renNew π h (n+1) r <;> rfl
end
def num3 (n:Nat):Option Env→Option WHeap→Option WHeap→Option WSt
 | some e,some h1,some h2=>some ⟨e,h1++h2,n⟩
 | _,_,_=>none
@[simp] theorem num3_s (n:Nat) (e:Env) (h1 h2:WHeap):num3 n (some e) (some h1) (some h2)=some ⟨e,h1++h2,n⟩:=rfl
@[simp] theorem renumber_eq (base:Nat) (s:WSt) (L:List Nat):renumber base s L=num3 (base+L.length) (renEnv (newNum base L) s.env) (renOld base (newNum base L) s.heap) (renNew (newNum base L) s.heap base L):=by
 simp only [renumber]
 cases renEnv (newNum base L) s.env <;> cases renOld base (newNum base L) s.heap <;> cases renNew (newNum base L) s.heap base L <;> rfl
def appK (h:WHeap) (nid zl bytes:Nat) (s:AV):Option (List (List AV) × Bool)→Option (AV × WUpd)
 | some (xs,d)=>wEvApp h nid zl bytes s xs d
 | none=>none
@[simp] theorem appK_s (h:WHeap) (nid zl bytes:Nat) (s:AV) (xs:List (List AV)) (d:Bool):appK h nid zl bytes s (some (xs,d))=wEvApp h nid zl bytes s xs d:=rfl
@[simp] theorem wApp_f (z:List AV) (bytes:Nat) (s x:Opd) (e:Env) (h:WHeap) (n:Nat) (hb:bytes < 1125899906842624):wApp z bytes false s x e h n=appK h n z.length bytes (s.ev e) (wElems h z.length (x.ev e)):=by
 simp only [wApp,Bool.false_eq_true,if_false,if_pos hb];cases wElems h z.length (x.ev e) <;> rfl
def zerosK (h:WHeap) (nid:Nat) (z:List AV) (bytes:Nat) (s:AV):AV→Option (AV × WUpd)
 | .int _ n=>ob (nat? n) fun n=>if n * (bytes+1)≤maxBytes then wEvApp h nid z.length bytes s (List.replicate n z) (z.all isC) else none
 | _=>none
@[simp] theorem wApp_t (z:List AV) (bytes:Nat) (s x:Opd) (e:Env) (h:WHeap) (n:Nat):wApp z bytes true s x e h n=zerosK h n z bytes (s.ev e) (x.ev e):=by
 simp only [wApp,if_true];cases x.ev e <;> rfl
def cpyK (h:WHeap) (z:Nat) (d:AV):Option (List (List AV) × Bool)→Option (AV × WUpd)
 | some (xs,b)=>wCopyIn h z xs b d
 | none=>none
@[simp] theorem cpyK_s (h:WHeap) (z:Nat) (d:AV) (xs:List (List AV)) (b:Bool):cpyK h z d (some (xs,b))=wCopyIn h z xs b d:=rfl
@[simp] theorem wCpy_eq (z:Nat) (d s:Opd) (e:Env) (h:WHeap) (n:Nat):wCpy z d s e h n=cpyK h z (d.ev e) (wElems h z (s.ev e)):=by
 simp only [wCpy];cases wElems h z (s.ev e) <;> rfl
attribute [simp] zerosK
@[simp] theorem ob_map {α β γ:Type} (x:Option α) (g:α→β) (f:β→Option γ):ob (Option.map g x) f=ob x fun a=>f (g a):=by cases x <;> rfl
section
variable (h:WHeap) (nid zl bytes:Nat) (xs:List (List AV)) (d:Bool)
@[simp] theorem wEvApp_nils:wEvApp h nid zl bytes .nils xs d=if xs.isEmpty=true then some (.nils,[]) else wNewRow nid zl xs.length bytes xs d:=by cases xs <;> rfl
@[simp] theorem wEvApp_ro (z:Nat) (es:List (List AV)) (ex:Bool):wEvApp h nid zl bytes (.ro z es ex) xs d =
 if z=zl then (if xs.isEmpty=true then some (.ro z es ex,[]) else if ex=true then wNewRow nid zl (es.length+xs.length) bytes (es++xs) d else none) else none:=by cases xs <;> rfl
@[simp] theorem wEvApp_sl (b z i len cap:Nat) (ex:Bool):wEvApp h nid zl bytes (.sl b z i len cap ex) xs d =
 if z=zl then (if xs.isEmpty=true then some (.sl b z i len cap ex,[]) else wAppSl (Pav.get h b) nid zl bytes b i len cap ex xs d (len+xs.length)) else none:=by cases xs <;> rfl
end
def frzS (h:WHeap) (n z i len cap:Nat) (ex:Bool):Option WObj→Option AV
 | some (.cells _ es _ true)=>og (decide (((es.drop i).take len).length=len)) (some (.ro z ((es.drop i).take len) (ex&&decide (cap=len))))
 | some (.cells _ es _ false)=>ob (mapO (mapO (frzW h n)) ((es.drop i).take len)) fun es'=>og (decide (es'.length=len)&&es'.all fun e=>e.all isC) (some (.ro z es' (ex&&decide (cap=len))))
 | _=>none
def frzP (h:WHeap) (n i o:Nat):Option WObj→Option AV
 | some (.cells _ es _ true)=>ob es[i]? fun cs=>some (.rop (cs.drop o))
 | some (.cells _ es _ false)=>ob es[i]? fun cs=>ob (mapO (frzW h n) (cs.drop o)) fun cs'=>some (.rop cs')
 | _=>none
def reachP (h:WHeap) (n i o:Nat):Option WObj→List Nat
 | some (.cells _ es _ false)=>((es[i]?.getD []).drop o).flatMap (reachW h n)
 | _=>[]
def reachS (h:WHeap) (n i len:Nat):Option WObj→List Nat
 | some (.cells _ es _ false)=>((es.drop i).take len).flatMap fun e=>e.flatMap (reachW h n)
 | _=>[]
section
variable (h:WHeap) (n:Nat)
@[simp] theorem frzW_bool (b:Bool):frzW h (n+1) (.bool b)=some (.bool b):=rfl
@[simp] theorem frzW_int (k:IntKind) (x:Int):frzW h (n+1) (.int k x)=some (.int k x):=rfl
@[simp] theorem frzW_str (s:List UInt8):frzW h (n+1) (.str s)=some (.str s):=rfl
@[simp] theorem frzW_nilp:frzW h (n+1) .nilp=some .nilp:=rfl
@[simp] theorem frzW_nils:frzW h (n+1) .nils=some .nils:=rfl
@[simp] theorem frzW_nilm:frzW h (n+1) .nilm=some .nilm:=rfl
@[simp] theorem frzW_nilf:frzW h (n+1) .nilf=some .nilf:=rfl
@[simp] theorem frzW_ro (z:Nat) (es:List (List AV)) (ex:Bool):frzW h (n+1) (.ro z es ex)=some (.ro z es ex):=rfl
@[simp] theorem frzW_rop (cs:List AV):frzW h (n+1) (.rop cs)=some (.rop cs):=rfl
@[simp] theorem frzW_fn (f:Nat) (cs:List AV):frzW h (n+1) (.fn f cs)=fnO f (mapO (frzW h n) cs):=by simp only [frzW];cases mapO (frzW h n) cs <;> rfl
@[simp] theorem frzW_agg (cs:List AV):frzW h (n+1) (.agg cs)=aggO (mapO (frzW h n) cs):=by simp only [frzW];cases mapO (frzW h n) cs <;> rfl
@[simp] theorem frzW_tup (cs:List AV):frzW h (n+1) (.tup cs)=tupO (mapO (frzW h n) cs):=by simp only [frzW];cases mapO (frzW h n) cs <;> rfl
@[simp] theorem frzW_sl (b z i len cap:Nat) (ex:Bool):frzW h (n+2) (.sl b z i len cap ex)=frzS h (n+1) z i len cap ex (Pav.get h b):=by
 simp only [frzW,frzS]
 split
 · rename_i hg
   rw [hg]
   rename_i dt
   cases dt <;> rfl
 · rename_i hg
   split
   · rename_i h1;exact absurd h1 (hg _ _ _ _)
   · rename_i h1;exact absurd h1 (hg _ _ _ _)
   · rfl
@[simp] theorem frzW_ptr (b i o:Nat):frzW h (n+2) (.ptr b i o)=frzP h (n+1) i o (Pav.get h b):=by
 simp only [frzW,frzP]
 split
 · rename_i hg
   rw [hg]
   rename_i es _ dt
   cases dt
   · simp only [Bool.false_eq_true,if_false]
     cases es[i]? with
     | none=>rfl
     | some cs=>simp only [ob];cases mapO (frzW h (n+1)) (cs.drop o) <;> rfl
   · rfl
 · rename_i hg
   split
   · rename_i h1;exact absurd h1 (hg _ _ _ _)
   · rename_i h1;exact absurd h1 (hg _ _ _ _)
   · rfl
@[simp] theorem reachW_ptr (b i o:Nat):reachW h (n+1) (.ptr b i o)=b::reachP h n i o (Pav.get h b):=by
 simp only [reachW,reachP]
 congr 1
 split
 · rename_i hg
   rw [hg]
   rename_i dt
   cases dt <;> rfl
 · rename_i hg
   split
   · rename_i h1;exact absurd h1 (hg _ _ _ _)
   · rfl
@[simp] theorem reachW_bool (b:Bool):reachW h (n+1) (.bool b)=[]:=rfl
@[simp] theorem reachW_int (k:IntKind) (x:Int):reachW h (n+1) (.int k x)=[]:=rfl
@[simp] theorem reachW_str (s:List UInt8):reachW h (n+1) (.str s)=[]:=rfl
@[simp] theorem reachW_nilp:reachW h (n+1) .nilp=[]:=rfl
@[simp] theorem reachW_nils:reachW h (n+1) .nils=[]:=rfl
@[simp] theorem reachW_nilm:reachW h (n+1) .nilm=[]:=rfl
@[simp] theorem reachW_nilf:reachW h (n+1) .nilf=[]:=rfl
@[simp] theorem reachW_ro (z:Nat) (es:List (List AV)) (ex:Bool):reachW h (n+1) (.ro z es ex)=[]:=rfl
@[simp] theorem reachW_rop (cs:List AV):reachW h (n+1) (.rop cs)=[]:=rfl
@[simp] theorem reachW_fn (f:Nat) (cs:List AV):reachW h (n+1) (.fn f cs)=cs.flatMap (reachW h n):=rfl
@[simp] theorem reachW_agg (cs:List AV):reachW h (n+1) (.agg cs)=cs.flatMap (reachW h n):=rfl
@[simp] theorem reachW_tup (cs:List AV):reachW h (n+1) (.tup cs)=cs.flatMap (reachW h n):=rfl
@[simp] theorem reachW_sl (b z i len cap:Nat) (ex:Bool):reachW h (n+1) (.sl b z i len cap ex)=b::reachS h n i len (Pav.get h b):=by
 simp only [reachW,reachS]
 congr 1
 split
 · rename_i hg
   rw [hg]
   rename_i dt
   cases dt <;> rfl
 · rename_i hg
   split
   · rename_i h1;exact absurd h1 (hg _ _ _ _)
   · rfl
@[simp] theorem hasRefW_bool (b:Bool):hasRefW (n+1) (.bool b)=false:=rfl
@[simp] theorem hasRefW_int (k:IntKind) (x:Int):hasRefW (n+1) (.int k x)=false:=rfl
@[simp] theorem hasRefW_str (s:List UInt8):hasRefW (n+1) (.str s)=false:=rfl
@[simp] theorem hasRefW_nilp:hasRefW (n+1) .nilp=false:=rfl
@[simp] theorem hasRefW_nils:hasRefW (n+1) .nils=false:=rfl
@[simp] theorem hasRefW_nilm:hasRefW (n+1) .nilm=false:=rfl
@[simp] theorem hasRefW_nilf:hasRefW (n+1) .nilf=false:=rfl
@[simp] theorem hasRefW_ro (z:Nat) (es:List (List AV)) (ex:Bool):hasRefW (n+1) (.ro z es ex)=true:=rfl
@[simp] theorem hasRefW_rop (cs:List AV):hasRefW (n+1) (.rop cs)=true:=rfl
@[simp] theorem hasRefW_fn (f:Nat) (cs:List AV):hasRefW (n+1) (.fn f cs)=cs.any (hasRefW n):=rfl
@[simp] theorem hasRefW_agg (cs:List AV):hasRefW (n+1) (.agg cs)=cs.any (hasRefW n):=rfl
@[simp] theorem hasRefW_tup (cs:List AV):hasRefW (n+1) (.tup cs)=cs.any (hasRefW n):=rfl
end
def imax (a b:Int):Int:=if b > a then b else a
def imin (a b:Int):Int:=if b < a then b else a
theorem imax_l {a b:Int} (h:b≤a):imax a b=a:=by unfold imax;rw [if_neg (by omega)]
theorem imax_r {a b:Int} (h:a≤b):imax a b=b:=by unfold imax;split <;> omega
theorem imin_l {a b:Int} (h:a≤b):imin a b=a:=by unfold imin;rw [if_neg (by omega)]
theorem imin_r {a b:Int} (h:b≤a):imin a b=b:=by unfold imin;split <;> omega
def mxV:AV→AV→Option (AV × Upd)
 | .int k a,.int k' b=>if k=k' then some (.int k (imax a b),[]) else none
 | _,_=>none
def mnV:AV→AV→Option (AV × Upd)
 | .int k a,.int k' b=>if k=k' then some (.int k (imin a b),[]) else none
 | _,_=>none
@[simp] theorem sMx_eq (x y:Opd) (e:Env) (h:Heap) (n:Nat):sMx x y e h n=mxV (x.ev e) (y.ev e):=rfl
@[simp] theorem sMn_eq (x y:Opd) (e:Env) (h:Heap) (n:Nat):sMn x y e h n=mnV (x.ev e) (y.ev e):=rfl
attribute [simp] mxV mnV
@[simp] theorem canonF_nil (base:Nat) (cn:Bool) (lv:List Nat) (s:WSt):canonF base ⟨cn,lv,[]⟩ s=canon base ⟨cn,lv,[]⟩ s:=rfl
@[simp] theorem canonF_cons (base:Nat) (cn:Bool) (lv:List Nat) (p:Nat × Nat) (r:List (Nat × Nat)) (s:WSt):canonF base ⟨cn,lv,p::r⟩ s=ob (frzSlotsW (frzOf (p::r)) s) (canon base ⟨cn,lv,p::r⟩):=rfl
attribute [simp] frzOf frzSlotsW frzSlotW
attribute [simp] List.getElem?_cons_zero frzS reachS frzP reachP
attribute [simp] stepW wAlloc wBox boxedW wBuildS fillS wLoad wLoadOf wLoadAt loadC wStore wStoreOf wStoreAt splice wMkmap wMksl wLook wLookIn found wUpd wUpdIn wRange wNext wNextIter wLen wEvLen wLenMap wElems wNewRow wAppSl
 wCopyTo wCopyIn wClr wClrIn wClrTo sMv sPick sBuild fillC sNilchk sBin evBin binInt binStr isShift shiftInt sEqv eqVals eqFn eqIf AV.isAg eqPtr eqMap eqAgg eqCells eqBool wEqSl keyOk eqCell sUn evUn sCvt sCvs sCvb evCvb sMkfn sSlice evSlice wSliceA wSliceOf wSliceAt sliceArr sliceRo sliceSl sliceNil sliceStr bound oev
 sFld sFldv sIdxs idxsAt sIdxa idxaAt sIdxstr sIdxv sExt sCap evCap AV.cells AV.cell isC isD Pav.get Pav.put setD setE applyW updOneW del readsOf ptrId canon noRen canonG growAll growOne keepL_nil keepL_cons keepN dropLt newNum place close
 envRefs oldRefs refs refsL objRefs markFrozenW marksW hasPtr hasPtrL resultsW tupled fnEndW pureFin argW frzDepth putE maxBytes mapGet mapPut apartR clashR quietR meets hitL
def rep {α:Type} (n:Nat) (a:α):List α:=List.replicate n a
section
variable {α β:Type} (n:Nat) (a:α)
@[simp] theorem rep_length:(rep n a).length=n:=List.length_replicate
@[simp] theorem rep_map (f:α→β):List.map f (rep n a)=rep n (f a):=List.map_replicate
@[simp] theorem rep_all (p:α→Bool):(rep (n+1) a).all p=p a:=by
 unfold rep;rw [List.all_replicate];simp
@[simp] theorem rep_getElem {i:Nat} (h:i < (rep n a).length):(rep n a)[i]=a:=by
 unfold rep;exact List.getElem_replicate _
@[simp] theorem rep_take_self:List.take n (rep n a)=rep n a:=List.take_of_length_le (by simp)
@[simp] theorem rep_cons (n:Nat):(rep (n+1) a).isEmpty=false:=rfl
end
end Go.Pw
end
section
namespace Go.Pw
open Go Go.Pav
inductive ZO where
 | p (d:Option (Option Nat)) (g:Option (Nat × Bool)) (x:COp)
def zt:List Nat→List Opd
 | []=>[]
 | a::r=>.t a::zt r
namespace Z
def y (s:Nat):ZO→ZO
 | .p d _ x=>.p d (some (s,true)) x
def z (s:Nat):ZO→ZO
 | .p d _ x=>.p d (some (s,false)) x
def d (k:Nat):ZO→ZO
 | .p _ g x=>.p (some (some k)) g x
def n:ZO→ZO
 | .p _ g x=>.p (some none) g x
def m (a:Nat):ZO:=.p none none (.mv (.t a))
def i (k:Int):ZO:=.p none none (.mv (.c (.int .i64 k)))
def l (k a:Nat):ZO:=.p none none (.load k false (.t a))
def h (k a:Nat):ZO:=.p none none (.load k true (.t a))
def f (o a:Nat):ZO:=.p none none (.fld o (.t a))
def po (a b:Nat):ZO:=.p none none (.pick (.t a) (.c (.bool true)) (.t b))
def pa (a b:Nat):ZO:=.p none none (.pick (.t a) (.t b) (.c (.bool false)))
def ln (k a:Nat):ZO:=.p none none (.len k (.t a))
def ix (k a b:Nat):ZO:=.p none none (.idxs k (.t a) (.t b))
def ex (k a:Nat):ZO:=.p none none (.ext k (.t a))
def nk (a:Nat):ZO:=.p none none (.nilchk (.t a))
def bx (a:Nat):ZO:=.p none none (.box (.t a))
def nt (a:Nat):ZO:=.p none none (.un .not (.t a))
def st (k a b:Nat):ZO:=.p none none (.store k (.t a) (.t b))
def E (x:COp):ZO:=.p none none x
def tt:ZO:=.p none none (.mv (.c (.bool true)))
def ff:ZO:=.p none none (.mv (.c (.bool false)))
def ca (g:Nat) (q:List Nat):ZO:=.p none none (.call g (zt q))
def eq (a b:Nat):ZO:=.p none none (.bin .eql (.t a) (.t b))
def eqi (a:Nat) (k:Int):ZO:=.p none none (.bin .eql (.t a) (.c (.int .i64 k)))
def ne (a b:Nat):ZO:=.p none none (.bin .neq (.t a) (.t b))
def nei (a:Nat) (k:Int):ZO:=.p none none (.bin .neq (.t a) (.c (.int .i64 k)))
def lt (a b:Nat):ZO:=.p none none (.bin .lss (.t a) (.t b))
def lti (a:Nat) (k:Int):ZO:=.p none none (.bin .lss (.t a) (.c (.int .i64 k)))
def le (a b:Nat):ZO:=.p none none (.bin .leq (.t a) (.t b))
def lei (a:Nat) (k:Int):ZO:=.p none none (.bin .leq (.t a) (.c (.int .i64 k)))
def gt (a b:Nat):ZO:=.p none none (.bin .gtr (.t a) (.t b))
def gti (a:Nat) (k:Int):ZO:=.p none none (.bin .gtr (.t a) (.c (.int .i64 k)))
def ge (a b:Nat):ZO:=.p none none (.bin .geq (.t a) (.t b))
def gei (a:Nat) (k:Int):ZO:=.p none none (.bin .geq (.t a) (.c (.int .i64 k)))
def ad (a b:Nat):ZO:=.p none none (.bin .add (.t a) (.t b))
def adi (a:Nat) (k:Int):ZO:=.p none none (.bin .add (.t a) (.c (.int .i64 k)))
def sb (a b:Nat):ZO:=.p none none (.bin .sub (.t a) (.t b))
def sbi (a:Nat) (k:Int):ZO:=.p none none (.bin .sub (.t a) (.c (.int .i64 k)))
end Z
def zo:Nat→List ZO→List COper
 | _,[]=>[]
 | k,.p none g x::r=>⟨some k,g,x⟩::zo (k+1) r
 | k,.p (some j) g x::r=>⟨j,g,x⟩::zo k r
inductive ZC where
 | O (k:Nat) (l:List ZO)
 | Q (k:Nat) (l:List ZO) (s:List Nat)
 | R (k:Nat) (l:List ZO) (a:Ann)
 | U (k:Nat) (l:List ZO) (u:List (Nat × Nat)) (s:List Nat)
 | V (k:Nat) (l:List ZO) (u:List (Nat × Nat)) (a:Ann)
 | s (a b:ZC)
 | r (a:ZC)
 | c (t:Nat) (a:ZC)
 | cc (t:Nat) (a b:ZC)
 | cd (x:Opd) (a b:ZC)
 | B (j:Nat) (a:ZC)
 | bk (j:Nat) (a:ZC) (x:Ann)
 | lp (x:Ann) (a:ZC)
 | ee (j:Nat)
 | w (x:WCode)
instance:Coe WCode ZC:=⟨.w⟩
def zc:ZC→WCode
 | .O k l=>.ops (zo k l) ⟨false,[],[]⟩
 | .Q k l s=>.ops (zo k l) ⟨true,s,[]⟩
 | .R k l a=>.ops (zo k l) a
 | .U k l u s=>.draw (zo k l) u ⟨true,s,[]⟩
 | .V k l u a=>.draw (zo k l) u a
 | .s a b=>.seq (zc a) (zc b)
 | .r a=>.seq (zc a) .ret
 | .c t a=>.cond (.t t) (zc a) .skip
 | .cc t a b=>.cond (.t t) (zc a) (zc b)
 | .cd x a b=>.cond x (zc a) (zc b)
 | .B j a=>.block j (zc a) ⟨false,[],[]⟩
 | .bk j a x=>.block j (zc a) x
 | .lp x a=>.loop x (zc a)
 | .ee j=>.exit j
 | .w x=>x
abbrev T (a:Nat):Opd:=.t a
abbrev N (n:Int):Opd:=.c (.int .i64 n)
abbrev zd (x:ZC) {y:WCode} (_h:zc x=y:=by dsimp only [zc,zo,zt,T,N,Z.y,Z.z,Z.d,Z.n,Z.m,Z.i,Z.l,Z.h,Z.f,Z.po,Z.pa,Z.ln,Z.ix,Z.ex,Z.nk,Z.bx,Z.nt,Z.st,Z.E,Z.tt,Z.ff,Z.ca,Z.eq,Z.eqi,Z.ne,Z.nei,Z.lt,Z.lti,Z.le,Z.lei,Z.gt,Z.gti,Z.ge,Z.gei,Z.ad,Z.adi,Z.sb,Z.sbi]):WCode:=y
abbrev ZL (L B:WCode) (a:Ann):Prop:=∀ {β:Type} {C:WProg} {b:Nat} {f:Ex × WSt→Option β} {k:List Pw.Frame} {s:WSt},CK C b f k L s=LK C b f (.sq L::k) B (canon b a s)
end Go.Pw
end
section
set_option maxRecDepth 100000
namespace P
open Go Go.Pav Go.Pw Go.Pw.Z Go.Pw.ZC
def w0:WFn:=⟨0,[],zd (O 0 [E .fail])⟩
def w84_c0:WCode:=zd (r (O 157 [ca 106 [],d 6 (m 157)]))
def w84_B0:WCode:=zd (s (s (O 100 [m 18,m 8,ln 1 101,lt 100 102]) (cc 103 (w .skip) (ee 4))) (s (B 5 (s (O 107 [m 9,m 2,E (.cvt .u64 (T 108)),m 18,E (.cvt .u64 (T 110)),ad 109 111,E (.bin .add (T 112) (.c (.int .u64 1))),ca 103 [107,113],d 106 (m 114),ex 0 106,ex 1 106,d 19 (m 115),d 20 (m 116)]) (s (s (Q 117 [m 20,nt 117] [118,20,19,18,9,8,7,2]) (c 118 (O 119 [m 8,m 18,ix 2 119 120,f 0 121,l 1 122,d 19 (m 123)]))) (s (O 125 [h 2 7,m 18,ca 104 [125,126],d 124 (m 127),ex 0 124,ex 1 124,d 21 (m 128),d 22 (m 129)]) (s (O 131 [h 2 7,m 18,ca 105 [131,132],d 130 (m 133),ex 0 130,ex 1 130,d 23 (m 134),d 24 (m 135)]) (s (Q 136 [m 22,m 24,ad 136 137,nei 138 0,m 139,z 140 (m 21),z 140 (m 19),z 140 (ne 141 142),po 140 143,m 144,z 145 (m 23),z 145 (m 20),z 145 (m 147),z 148 (m 8),z 148 (m 18),z 148 (ix 2 149 150),z 148 (f 1 151),z 148 (l 1 152),z 145 (po 148 153),z 145 (E (.eqv 5 [] true (T 146) (T 154))),po 145 155] [156,18,9,8,7,2]) (c 156 (r (O 6 [ff]))))))))) (O 104 [m 18,adi 104 1,d 18 (m 105)])))
def w84_L0:WCode:=.loop ⟨true,[18,9,8,7,2],[]⟩ w84_B0
def w84_c1:WCode:=zd (s (s (Q 82 [h 2 7,ca 98 [82],m 8,ln 1 84,ne 83 85,m 86,z 87 (m 10),z 87 (ca 1102 [88]),z 87 (m 8),z 87 (ln 1 90),z 87 (ne 89 91),po 87 92,m 93,z 94 (m 12),z 94 (m 9),z 94 (ln 1 96),z 94 (gt 95 97),po 94 98] [99,9,8,7,2]) (c 99 (r (O 6 [ff])))) (s (s (O 18 [i 0]) (bk 4 w84_L0 ⟨true,[],[]⟩)) w84_c0))
def w84_B1:WCode:=zd (s (s (O 48 [m 13,m 9,ln 1 49,lt 48 50]) (cc 51 (w .skip) (ee 2))) (s (B 3 (s (O 55 [m 10,m 9,m 13,ix 2 56 57,f 0 58,l 1 59,ca 1100 [55,60],d 54 (m 61),ex 0 54,ex 1 54,d 14 (m 62),d 15 (m 63)]) (s (s (O 64 [m 15,nt 64]) (c 65 (ee 3))) (s (U 67 [h 2 7,m 14,m 9,m 13,ix 2 69 70,f 1 71,l 1 72,E (.call 101 [T 67,T 68,T 73,.c (.bool true)]),d 66 (m 74),ex 0 66,ex 1 66,d 16 (E (.alloc [.nilp,.ro 2 [] true])),n (st 2 16 75),d 17 (m 76)] [(0,11),(6,11),(7,11)] [17,16,13,12,10,9,8,7,2]) (s (s (O 77 [m 17,nei 77 0]) (c 78 (r (O 6 [ff])))) (s (O 79 [h 2 16,n (st 2 7 79)]) (O 80 [m 12,adi 80 1,d 12 (m 81)]))))))) (O 52 [m 13,adi 52 1,d 13 (m 53)])))
def w84_L1:WCode:=.loop ⟨true,[13,12,10,9,8,7,2],[]⟩ w84_B1
def w84_c2:WCode:=zd (s (O 12 [i 0]) (s (s (O 13 [i 0]) (bk 2 w84_L1 ⟨true,[12,10,9,8,7,2],[]⟩)) w84_c1))
def w84_B2:WCode:=zd (s (s (O 32 [m 11,h 2 7,ca 98 [33],lt 32 34]) (cc 35 (w .skip) (ee 0))) (s (B 1 (s (O 38 [m 10,m 2,E (.cvt .u64 (T 39)),m 11,E (.cvt .u64 (T 41)),ad 40 42,E (.bin .add (T 43) (.c (.int .u64 1))),m 11,ca 99 [38,44,45],nei 46 0]) (c 47 (r (Q 6 [ff] [6]))))) (O 36 [m 11,adi 36 1,d 11 (m 37)])))
def w84_L2:WCode:=.loop ⟨true,[11,10,9,8,7,2],[]⟩ w84_B2
def w84:WFn:=⟨3,[.tmp 6],zd (s (O 3 [bx 0,bx 1,d 6 ff]) (s (Q 25 [h 2 3,ca 94 [25],d 7 (E (.alloc [.nilp,.ro 2 [] true])),n (st 2 7 26)] [7,4,3,2]) (s (O 27 [h 2 3,ca 95 [27],d 8 (m 28)]) (s (O 29 [h 1 4,ca 96 [29],d 9 (m 30)]) (s (O 31 [ca 2016 [],d 10 (m 31)]) (s (s (O 11 [i 0]) (bk 0 w84_L2 ⟨true,[10,9,8,7,2],[]⟩)) w84_c2))))))⟩
@[simp] theorem w84_E0:ZL w84_L0 w84_B0 ⟨true,[18,9,8,7,2],[]⟩:=ck_lp rfl
noncomputable abbrev w84_K0 (C:WProg) (s:WSt):Option AV:=CK C 0 (pureFin [.tmp 6]) [.sq w84_L0,.bk 4 ⟨true,[],[]⟩,.sq w84_c0] w84_B0 s
@[simp] theorem w84_E1:ZL w84_L1 w84_B1 ⟨true,[13,12,10,9,8,7,2],[]⟩:=ck_lp rfl
noncomputable abbrev w84_K1 (C:WProg) (s:WSt):Option AV:=CK C 0 (pureFin [.tmp 6]) [.sq w84_L1,.bk 2 ⟨true,[12,10,9,8,7,2],[]⟩,.sq w84_c1] w84_B1 s
@[simp] theorem w84_E2:ZL w84_L2 w84_B2 ⟨true,[11,10,9,8,7,2],[]⟩:=ck_lp rfl
noncomputable abbrev w84_K2 (C:WProg) (s:WSt):Option AV:=CK C 0 (pureFin [.tmp 6]) [.sq w84_L2,.bk 0 ⟨true,[10,9,8,7,2],[]⟩,.sq w84_c2] w84_B2 s
def w94_c0:WCode:=zd (r (O 38 [h 2 4,n (st 2 2 38)]))
def w94_B0:WCode:=zd (s (s (O 11 [m 5,m 3,ln 1 12,lt 11 13]) (cc 14 (w .skip) (ee 0))) (s (B 1 (s (U 18 [h 2 4,m 5,m 3,m 5,ix 2 20 21,f 0 22,l 1 23,E (.buildS [.int .i64 0] 1 [(0,T 24)]),m 3,m 5,ix 2 26 27,f 1 28,l 1 29,ca 188 [18,19,25,30],d 17 (m 31),ex 0 17,ex 1 17,d 6 (E (.alloc [.nilp,.ro 2 [] true])),n (st 2 6 32),d 7 (m 33)] [(0,7),(7,12),(0,17),(6,17),(7,17),(12,17),(13,17)] [7,6,5,4,3,2]) (s (s (O 34 [m 7,nei 34 0]) (c 35 (r (O 36 [ca 187 [],n (st 2 2 36)])))) (O 37 [h 2 6,n (st 2 4 37)])))) (O 15 [m 5,adi 15 1,d 5 (m 16)])))
def w94_L0:WCode:=.loop ⟨true,[5,4,3,2],[]⟩ w94_B0
def w94:WFn:=⟨1,[.cell 2 2 true],zd (s (O 1 [bx 0,E (.alloc [.nilp,.ro 2 [] true])]) (s (O 8 [h 2 1,ca 95 [8],d 3 (m 9)]) (s (O 10 [ca 187 [],d 4 (E (.alloc [.nilp,.ro 2 [] true])),n (st 2 4 10)]) (s (s (O 5 [i 0]) (bk 0 w94_L0 ⟨true,[4,2],[]⟩)) w94_c0))))⟩
@[simp] theorem w94_E0:ZL w94_L0 w94_B0 ⟨true,[5,4,3,2],[]⟩:=ck_lp rfl
noncomputable abbrev w94_K0 (C:WProg) (s:WSt):Option AV:=CK C 0 (pureFin [.cell 2 2 true]) [.sq w94_L0,.bk 0 ⟨true,[4,2],[]⟩,.sq w94_c0] w94_B0 s
def w95_c0:WCode:=zd (s (s (O 34 [f 1 1,l 1 34,m 35,y 36 (m 3),y 36 (ln 1 37),y 36 (gti 38 0),pa 36 39]) (c 40 (O 41 [m 3,E (.idxs 2 (T 41) (N 0)),f 0 42,n (E (.store 1 (T 43) (N 2305843009213693952)))]))) (r (O 44 [m 3,d 2 (m 44)])))
def w95_B0:WCode:=zd (s (s (O 5 [m 4,f 0 1,l 1 6,ln 1 7,lt 5 8,m 9,y 10 (m 4),y 10 (lti 11 60),pa 10 12]) (cc 13 (w .skip) (ee 0))) (s (B 1 (U 16 [m 3,f 0 1,l 1 17,m 4,ix 1 18 19,l 1 20,E (.bin .rem (T 21) (.c (.int .u8 16))),E (.cvt .i64 (T 22)),E (.bin .add (N 1) (T 23)),f 0 1,l 1 25,m 4,ix 1 26 27,l 1 28,E (.bin .gtr (T 29) (.c (.int .u8 127))),E (.build [.int .i64 0,.bool false] [(0,1,T 24),(1,1,T 30)]),E (.buildS [.int .i64 0,.bool false] 1 [(0,T 31)]),E (.app [.int .i64 0,.bool false] 16 false (T 16) (T 32)),d 3 (m 33)] [] [4,3,1])) (O 14 [m 4,adi 14 1,d 4 (m 15)])))
def w95_L0:WCode:=.loop ⟨true,[4,3,1],[]⟩ w95_B0
def w95:WFn:=⟨1,[.tmp 2],zd (s (O 1 [bx 0,E (.mv (.c (.ro 2 [] true)))]) (s (R 3 [E (.mv (.c (.ro 2 [] true)))] ⟨true,[3,1],[(3,2)]⟩) (s (s (O 4 [i 0]) (bk 0 w95_L0 ⟨true,[3,1],[]⟩)) w95_c0)))⟩
@[simp] theorem w95_E0:ZL w95_L0 w95_B0 ⟨true,[4,3,1],[]⟩:=ck_lp rfl
noncomputable abbrev w95_K0 (C:WProg) (s:WSt):Option AV:=CK C 0 (pureFin [.tmp 2]) [.sq w95_L0,.bk 0 ⟨true,[3,1],[]⟩,.sq w95_c0] w95_B0 s
def w96_c0:WCode:=zd (r (O 45 [m 3,d 2 (m 45)]))
def w96_B0:WCode:=zd (s (s (O 6 [m 4,f 0 1,l 1 7,ln 1 8,lt 6 9,m 10,y 11 (m 4),y 11 (lti 12 100),pa 11 13]) (cc 14 (w .skip) (ee 0))) (s (B 1 (s (U 17 [f 0 1,l 1 17,m 4,ix 2 18 19,E (.idxa 2 1 (T 20) (N 0)),l 1 21,E (.bin .rem (T 22) (.c (.int .u8 40))),E (.cvt .u64 (T 23)),E (.bin .add (.c (.int .u64 1)) (T 24)),f 0 1,l 1 26,m 4,ix 2 27 28,E (.idxa 2 1 (T 29) (N 1)),l 1 30,E (.bin .rem (T 31) (.c (.int .u8 40))),E (.cvt .i64 (T 32)),E (.bin .add (N 1) (T 33)),E (.build [.int .u64 0,.int .i64 0] [(0,1,T 25),(1,1,T 34)]),d 5 (E (.alloc [.int .u64 0,.int .i64 0])),n (st 2 5 35)] [(1,19),(5,19),(10,19),(14,19)] [5,4,3,1]) (s (O 36 [m 3,f 0 5,l 1 37,ca 189 [36,38],lti 39 0]) (c 40 (O 41 [m 3,h 2 5,E (.buildS [.int .u64 0,.int .i64 0] 1 [(0,T 42)]),E (.app [.int .u64 0,.int .i64 0] 16 false (T 41) (T 43)),d 3 (m 44)]))))) (O 15 [m 4,adi 15 1,d 4 (m 16)])))
def w96_L0:WCode:=.loop ⟨true,[4,3,1],[]⟩ w96_B0
def w96:WFn:=⟨1,[.tmp 2],zd (s (O 1 [bx 0,E (.mv (.c (.ro 2 [] true)))]) (s (R 3 [E (.mv (.c (.ro 2 [] true)))] ⟨true,[3,1],[(3,2)]⟩) (s (s (O 4 [i 0]) (bk 0 w96_L0 ⟨true,[3],[]⟩)) w96_c0)))⟩
@[simp] theorem w96_E0:ZL w96_L0 w96_B0 ⟨true,[4,3,1],[]⟩:=ck_lp rfl
noncomputable abbrev w96_K0 (C:WProg) (s:WSt):Option AV:=CK C 0 (pureFin [.tmp 2]) [.sq w96_L0,.bk 0 ⟨true,[3],[]⟩,.sq w96_c0] w96_B0 s
def w97:WFn:=⟨0,[.tmp 0],zd (s (O 0 [E (.mv (.c .nilp))]) (r (O 1 [E (.build [.ro 3 [] true,.int .i64 0,.int .i64 0] []),bx 1,d 0 (m 2)])))⟩
def w98:WFn:=⟨1,[.tmp 2],zd (s (O 1 [bx 0,i 0]) (r (O 3 [f 0 1,f 0 3,h 1 4,ca 190 [5],d 2 (m 6)])))⟩
def w99:WFn:=⟨3,[.tmp 6],zd (s (O 6 [i 0]) (s (B 0 (s (O 12 [m 0,E (.eqv 2 [] false (T 12) (.c .nilp)),d 11 (m 13)]) (cc 11 (r (O 6 [i 2])) (s (O 15 [m 1,E (.bin .eql (T 15) (.c (.int .u64 0))),d 14 (m 16)]) (c 14 (r (O 6 [i 9]))))))) (s (s (Q 17 [m 0,nk 17,f 0 18,l 1 19,ln 1 20,gti 21 0] [22,2,1,0]) (c 22 (s (O 24 [m 0,m 1,ca 1191 [24,25],d 23 (m 26),ex 0 23,ex 1 23,d 7 (m 27),d 8 (m 28)]) (s (O 29 [m 8]) (c 29 (s (O 30 [m 0,nk 30,f 0 31,l 1 32,m 7,m 2,ix 3 33 34,f 2 36,n (st 1 37 35)]) (r (O 6 [i 0])))))))) (s (s (Q 38 [m 0,nk 38,f 1 39,l 1 40,eqi 41 4096] [42,2,1,0]) (c 42 (r (O 6 [i 3])))) (s (s (V 43 [m 0,nk 43,f 1 44,l 1 45,m 0,nk 47,f 2 48,l 1 49,ad 46 50,adi 51 1,E (.bin .mul (N 4) (T 52)),m 0,nk 54,f 0 55,l 1 56,ln 1 57,E (.bin .mul (N 3) (T 58)),gt 53 59] [] ⟨false,[],[]⟩) (c 60 (Q 61 [m 0,m 0,nk 62,f 1 63,l 1 64,adi 65 1,ca 192 [61,66]] [2,1,0]))) (s (O 69 [m 0,m 1,ca 1191 [69,70],d 68 (m 71),ex 0 68,ex 1 68,d 9 (m 72),d 10 (m 73)]) (s (s (O 74 [m 0,nk 74,f 0 75,l 1 76,m 9,ix 3 77 78,f 0 79,l 1 80,E (.bin .eql (T 81) (.c (.int .u8 2)))]) (c 82 (Q 83 [m 0,nk 83,f 2 84,l 1 85,sbi 86 1,nk 83,f 2 88,n (st 1 89 87)] [9,2,1,0]))) (s (O 90 [m 0,nk 90,f 0 91,l 1 92,m 9,m 1,m 2,E (.build [.int .u8 0,.int .u64 0,.int .i64 0] [(0,1,.c (.int .u8 1)),(1,1,T 95),(2,1,T 96)]),ix 3 93 94,n (st 3 98 97)]) (s (O 99 [m 0,nk 99,f 1 100,l 1 101,adi 102 1,nk 99,f 1 104,n (st 1 105 103)]) (r (O 6 [i 0])))))))))))⟩
def w1100:WFn:=⟨2,[.tmp 4,.tmp 5],zd (s (O 4 [i 0,ff]) (s (s (O 7 [m 0,ca 1102 [7],eqi 8 0]) (c 9 (r (Q 4 [i 0,ff] [5,4])))) (s (O 11 [m 0,m 1,ca 1191 [11,12],d 10 (m 13),ex 0 10,ex 1 10,d 6 (m 14),d 5 (m 15)]) (s (s (O 16 [m 5,nt 16]) (c 17 (r (O 4 [i 0,ff])))) (r (O 18 [m 0,nk 18,f 0 19,l 1 20,m 6,ix 3 21 22,f 2 23,l 1 24,d 4 (m 25),d 5 tt]))))))⟩
def w101:WFn:=⟨4,[.cell 8 2 true,.tmp 9],zd (s (O 8 [d 4 (bx 0),E (.alloc [.nilp,.ro 2 [] true]),i 0]) (s (s (O 12 [m 1,gei 12 0,m 13,y 14 (m 1),y 14 (h 2 4),y 14 (ca 98 [16]),y 14 (lt 15 17),pa 14 18,m 19,y 20 (m 2),y 20 (ca 193 [21]),pa 20 22]) (c 23 (r (O 24 [E (.build [.nilp,.ro 2 [] true] []),n (st 2 8 24),d 9 (i 12)])))) (s (Q 26 [f 0 4,f 0 26,h 1 27,m 1,m 2,ca 194 [28,29,30],d 25 (m 31),ex 0 25,ex 1 25,d 10 (E (.alloc [.nilp])),n (st 1 10 32),d 11 (m 33)] [11,10,8,4,3,1]) (s (s (O 34 [m 11,nei 34 0]) (c 35 (r (O 36 [E (.build [.nilp,.ro 2 [] true] []),m 11,n (st 2 8 36),d 9 (m 37)])))) (r (V 38 [h 1 10,f 1 4,l 1 39,m 1,m 1,adi 42 1,m 3,ca 196 [40,41,43,44],E (.call 195 [T 38,T 45,N 0]),ex 0 46,ex 1 46,n (st 2 8 47),d 9 (m 48)] [(0,7)] ⟨false,[],[]⟩))))))⟩
def w102:WFn:=⟨1,[.tmp 2],zd (s (O 2 [i 0]) (s (s (O 3 [m 0,E (.eqv 2 [] false (T 3) (.c .nilp))]) (c 4 (r (O 2 [i 0])))) (r (O 5 [m 0,nk 5,f 1 6,l 1 7,d 2 (m 8)]))))⟩
def w103_c0:WCode:=zd (r (O 4 [i 0,ff]))
def w103_B0:WCode:=zd (s (O 11 [lt 10 9]) (s (cc 11 (w .skip) (ee 0)) (s (B 1 (s (O 12 [ix 2 8 10,h 2 12,d 7 (E (.alloc [.int .u64 0,.int .i64 0])),n (st 2 7 13)]) (s (O 14 [f 0 7,l 1 14,m 1,eq 15 16]) (c 17 (r (O 18 [f 1 7,l 1 18,d 4 (m 19),d 5 tt])))))) (O 20 [adi 10 1,d 10 (m 20)]))))
def w103_L0:WCode:=.loop ⟨true,[10,9,8,1],[]⟩ w103_B0
def w103:WFn:=⟨2,[.tmp 4,.tmp 5],zd (s (O 4 [i 0,ff]) (s (s (O 8 [m 0,ln 1 8,i 0]) (bk 0 w103_L0 ⟨true,[],[]⟩)) w103_c0))⟩
@[simp] theorem w103_E0:ZL w103_L0 w103_B0 ⟨true,[10,9,8,1],[]⟩:=ck_lp rfl
noncomputable abbrev w103_K0 (C:WProg) (s:WSt):Option AV:=CK C 0 (pureFin [.tmp 4,.tmp 5]) [.sq w103_L0,.bk 0 ⟨true,[],[]⟩,.sq w103_c0] w103_B0 s
def w104:WFn:=⟨2,[.tmp 4,.tmp 5],zd (s (O 4 [d 2 (bx 0),i 0,i 0]) (r (O 6 [f 0 2,f 0 6,h 1 7,m 1,ca 197 [8,9],ex 0 10,ex 1 10,d 4 (m 11),d 5 (m 12)])))⟩
def w105:WFn:=⟨2,[.tmp 4,.tmp 5],zd (s (O 4 [d 2 (bx 0),ff,i 0]) (s (s (O 6 [m 1,lti 6 0,m 7,z 8 (m 1),z 8 (h 2 2),z 8 (ca 98 [10]),z 8 (ge 9 11),po 8 12]) (c 13 (r (O 4 [ff,i 4])))) (r (O 14 [f 1 2,l 1 14,m 1,ca 198 [15,16],d 4 (m 17),d 5 (i 0)]))))⟩
def w106_c0:WCode:=zd (s (Q 113 [h 2 1,E (.call 202 [T 113,N 0,N 1,N 2]),d 112 (m 114),ex 0 112,ex 1 112,d 17 (E (.alloc [.nilp,.ro 2 [] true])),n (st 2 17 115),d 18 (m 116)] [18,17,11,4,3,2]) (s (O 117 [m 3,E (.call 203 [T 117,N 0,N 1,N 2]),d 19 (m 118)]) (s (O 120 [E (.call 62 [N 3,N 0,N 1,N 2]),d 119 (m 120),ex 0 119,ex 1 119,d 20 (E (.alloc [.int .i64 0,.ro 1 [] true])),n (st 2 20 121),d 21 (m 122)]) (s (O 124 [h 2 17,E (.call 204 [T 124,N 15]),d 123 (m 125),ex 0 123,ex 1 123,ex 2 123,d 22 (m 126),d 23 (m 127),d 24 (m 128)]) (s (s (Q 129 [m 2,m 4,ad 129 130,m 11,ad 131 132,m 18,ad 133 134,m 19,ad 135 136,m 21,ad 137 138,m 24,ad 139 140,nei 141 0,m 142,z 143 (m 22),z 143 (nei 144 2),po 143 145,m 146,z 147 (m 23),z 147 (nei 148 1),po 147 149,m 150,z 151 (f 0 17),z 151 (f 0 152),z 151 (h 1 153),z 151 (ca 205 [154]),z 151 (nei 155 17),po 151 156,m 157,z 158 (f 1 20),z 158 (l 1 159),z 158 (ln 1 160),z 158 (nei 161 3),po 158 162,m 163,z 164 (f 1 20),z 164 (l 1 165),z 164 (E (.idxs 1 (T 166) (N 2))),z 164 (l 1 167),z 164 (nei 168 0),po 164 169] [170,22,3]) (c 170 (r (Q 0 [ff] [0])))) (s (O 172 [m 3,m 22,ca 200 [172,173],d 171 (m 174),ex 0 171,ex 1 171,d 25 (m 175),d 26 (m 176)]) (s (O 178 [E (.buildS [.int .i64 0] 3 [(0,N 10),(1,N 4),(2,N 3)]),ca 206 [178],d 177 (m 179),ex 0 177,ex 1 177,d 27 (m 180),d 28 (m 181)]) (s (O 183 [E (.buildS [.int .i64 0] 3 [(0,N 10),(1,N 4),(2,N 3)]),ca 207 [183],d 182 (m 184),ex 0 182,ex 1 182,d 29 (E (.alloc [.nilp])),n (st 1 29 185),d 30 (m 186)]) (s (Q 188 [E (.buildS [.int .i64 0] 3 [(0,N 10),(1,N 4),(2,N 3)]),ca 208 [188],d 187 (m 189),ex 0 187,ex 1 187,d 31 (m 190),d 32 (m 191)] [32,31,30,29,28,27,26,25]) (s (O 193 [E (.call 2209 [N 3]),d 192 (m 193),ex 0 192,ex 1 192,d 33 (m 194),d 34 (m 195)]) (s (O 197 [E (.buildS [.int .i64 0] 2 [(0,N 1),(1,N 2)]),ca 210 [197],d 196 (m 198),ex 0 196,ex 1 196,d 35 (m 199),d 36 (m 200)]) (s (O 202 [E (.buildS [.int .i64 0] 3 [(0,N 7),(1,N 8),(2,N 9)]),E (.buildS [.int .i64 0] 3 [(0,N 8),(1,N 9),(2,N 7)]),ca 211 [202,203],d 201 (m 204),ex 0 201,ex 1 201,d 37 (m 205),d 38 (m 206)]) (r (Q 207 [m 26,m 28,ad 207 208,m 30,ad 209 210,m 32,ad 211 212,m 34,ad 213 214,m 36,ad 215 216,m 38,ad 217 218,eqi 219 0,m 220,y 221 (m 25),y 221 (E (.bin .eql (T 222) (.c (.int .u64 7)))),pa 221 223,m 224,y 225 (m 27),y 225 (m 27),y 225 (ln 1 227),y 225 (sbi 228 1),y 225 (ix 1 226 229),y 225 (l 1 230),y 225 (eqi 231 17),pa 225 232,m 233,y 234 (h 1 29),y 234 (ca 205 [235]),y 234 (eqi 236 17),pa 234 237,m 238,y 239 (m 31),y 239 (ca 212 [240]),y 239 (eqi 241 17),pa 239 242,m 243,y 244 (m 33),y 244 (E (.call 213 [T 245,N 1,.c (.bool true)])),y 244 (eqi 246 0),pa 244 247,m 248,y 249 (m 33),y 249 (ca 214 [250]),y 249 (eqi 251 1),pa 249 252,m 253,y 254 (m 35),y 254 (ca 215 [255]),y 254 (eqi 256 2),pa 254 257,m 258,y 259 (m 37),y 259 (ln 1 260),y 259 (eqi 261 1),pa 259 262,m 263,y 264 (m 37),y 264 (E (.idxs 2 (T 265) (N 0))),y 264 (f 0 266),y 264 (l 1 267),y 264 (eqi 268 7),pa 264 269,d 0 (m 270)] [0]))))))))))))))
def w106_B0:WCode:=zd (s (s (O 78 [m 12,m 9,ln 1 79,lt 78 80]) (cc 81 (w .skip) (ee 2))) (s (B 3 (s (O 85 [m 5,m 9,m 12,ix 2 86 87,f 0 88,l 1 89,ca 1100 [85,90],d 84 (m 91),ex 0 84,ex 1 84,d 13 (m 92),d 14 (m 93)]) (s (U 95 [h 2 1,m 13,m 9,m 12,ix 2 97 98,f 1 99,l 1 100,E (.call 101 [T 95,T 96,T 101,.c (.bool true)]),d 94 (m 102),ex 0 94,ex 1 94,d 15 (E (.alloc [.nilp,.ro 2 [] true])),n (st 2 15 103),d 16 (m 104)] [(0,11),(6,11),(7,11)] [16,15,14,12,11,9,5,4,3,2,1]) (s (s (O 105 [m 14,nt 105,m 106,z 107 (m 16),z 107 (nei 108 0),po 107 109]) (c 110 (r (O 0 [ff])))) (O 111 [h 2 15,n (st 2 1 111)]))))) (O 82 [m 12,adi 82 1,d 12 (m 83)])))
def w106_L0:WCode:=.loop ⟨true,[12,11,9,5,4,3,2,1],[]⟩ w106_B0
def w106_c1:WCode:=zd (s (O 70 [E (.build [.int .u64 0,.int .i64 0] [(0,1,.c (.int .u64 9)),(1,1,N 4)]),E (.build [.int .u64 0,.int .i64 0] [(0,1,.c (.int .u64 7)),(1,1,N 3)]),E (.buildS [.int .u64 0,.int .i64 0] 2 [(0,T 70),(1,T 71)]),d 9 (m 72)]) (s (Q 74 [m 9,E (.call 201 [T 74,N 1]),d 73 (m 75),ex 0 73,ex 1 73,d 10 (m 76),d 11 (m 77)] [11,9,5,4,3,2,1]) (s (s (O 12 [i 0]) (bk 2 w106_L0 ⟨true,[11,4,3,2,1],[]⟩)) w106_c0)))
def w106_B1:WCode:=zd (s (s (O 51 [m 6,lti 51 3]) (cc 52 (w .skip) (ee 0))) (s (B 1 (s (Q 56 [m 3,m 6,ca 200 [56,57],d 55 (m 58),ex 0 55,ex 1 55,d 7 (m 59),d 8 (m 60)] [8,7,6,5,4,3,2,1]) (s (O 61 [m 8,nei 61 0,m 62,z 63 (m 5),z 63 (m 7),z 63 (m 6),z 63 (ca 99 [64,65,66]),z 63 (nei 67 0),po 63 68]) (c 69 (r (O 0 [ff])))))) (O 53 [m 6,adi 53 1,d 6 (m 54)])))
def w106_L1:WCode:=.loop ⟨true,[6,5,4,3,2,1],[]⟩ w106_B1
def w106:WFn:=⟨0,[.tmp 0],zd (s (O 0 [ff]) (s (O 40 [ca 187 [],E (.buildS [.int .i64 0] 3 [(0,N 10),(1,N 10),(2,N 10)]),E (.call 188 [T 40,N 0,T 41,.c (.bool false)]),d 39 (m 42),ex 0 39,ex 1 39,d 1 (E (.alloc [.nilp,.ro 2 [] true])),n (st 2 1 43),d 2 (m 44)]) (s (O 46 [E (.buildS [.int .u64 0] 3 [(0,.c (.int .u64 7)),(1,.c (.int .u64 8)),(2,.c (.int .u64 9))]),ca 2199 [46],d 45 (m 47),ex 0 45,ex 1 45,d 3 (m 48),d 4 (m 49)]) (s (O 50 [ca 2016 [],d 5 (m 50)]) (s (s (O 6 [i 0]) (bk 0 w106_L1 ⟨true,[5,4,3,2,1],[]⟩)) w106_c1)))))⟩
@[simp] theorem w106_E0:ZL w106_L0 w106_B0 ⟨true,[12,11,9,5,4,3,2,1],[]⟩:=ck_lp rfl
@[simp] theorem w106_E1:ZL w106_L1 w106_B1 ⟨true,[6,5,4,3,2,1],[]⟩:=ck_lp rfl
def w187:WFn:=⟨0,[.cell 0 2 true],zd (s (O 0 [E (.alloc [.nilp,.ro 2 [] true])]) (r (O 1 [E (.build [.nilp,.ro 2 [] true] []),n (st 2 0 1)])))⟩
def w188_c0:WCode:=zd (s (O 55 [f 0 4,f 0 55,h 1 56,m 1,m 2,ca 364 [57,58,59],d 54 (m 60),ex 0 54,ex 1 54,d 13 (E (.alloc [.nilp])),n (st 1 13 61),d 14 (m 62)]) (s (s (O 63 [m 14,nei 63 0]) (c 64 (r (O 65 [E (.build [.nilp,.ro 2 [] true] []),m 14,n (st 2 8 65),d 9 (m 66)])))) (s (Q 68 [f 1 4,l 1 68,m 1,m 2,ln 1 71,ca 365 [69,70,72],d 67 (m 73),ex 0 67,ex 1 67,d 15 (m 74),d 14 (m 75)] [15,14,13,8,3,2,1]) (r (V 76 [h 1 13,m 15,m 1,m 1,m 2,ln 1 80,ad 79 81,m 3,ca 196 [77,78,82,83],m 14,ca 195 [76,84,85],ex 0 86,ex 1 86,n (st 2 8 87),d 9 (m 88)] [(0,8)] ⟨false,[],[]⟩)))))
def w188_B0:WCode:=zd (s (O 37 [lt 36 35]) (s (cc 37 (w .skip) (ee 1)) (s (B 2 (s (O 38 [m 36,ix 1 34 36,l 1 39,d 10 (m 38),d 11 (m 40)]) (s (s (O 41 [m 11,ca 193 [41]]) (c 42 (r (O 43 [E (.build [.nilp,.ro 2 [] true] []),n (st 2 8 43),d 9 (i 12)])))) (s (O 44 [m 2,m 10,adi 45 1,E (.slice 1 (T 44) none (some (T 46)) none),ca 363 [47],d 12 (m 48)]) (s (O 49 [m 12,nei 49 0]) (c 50 (r (Q 51 [E (.build [.nilp,.ro 2 [] true] []),m 12,n (st 2 8 51),d 9 (m 52)] [9,8])))))))) (O 53 [adi 36 1,d 36 (m 53)]))))
def w188_L0:WCode:=.loop ⟨true,[36,35,34,8,4,3,2,1],[]⟩ w188_B0
def w188:WFn:=⟨4,[.cell 8 2 true,.tmp 9],zd (s (O 8 [d 4 (bx 0),E (.alloc [.nilp,.ro 2 [] true]),i 0]) (s (B 0 (s (O 17 [m 1,lti 17 0,m 18,z 19 (m 1),z 19 (h 2 4),z 19 (ca 98 [21]),z 19 (gt 20 22),po 19 23,d 16 (m 24)]) (cc 16 (r (Q 25 [E (.build [.nilp,.ro 2 [] true] []),n (st 2 8 25),d 9 (i 4)] [9,8])) (s (O 27 [m 2,ln 1 27,h 2 4,ca 98 [29],E (.bin .sub (N 1024) (T 30)),gt 28 31,d 26 (m 32)]) (c 26 (r (O 33 [E (.build [.nilp,.ro 2 [] true] []),n (st 2 8 33),d 9 (i 3)]))))))) (s (s (O 34 [m 2,ln 1 34,i 0]) (bk 1 w188_L0 ⟨true,[8,4,3,2,1],[]⟩)) w188_c0)))⟩
@[simp] theorem w188_E0:ZL w188_L0 w188_B0 ⟨true,[36,35,34,8,4,3,2,1],[]⟩:=ck_lp rfl
def w189_c0:WCode:=zd (r (O 4 [i (-1)]))
def w189_B0:WCode:=zd (s (s (O 6 [m 5,m 0,ln 1 7,lt 6 8]) (cc 9 (w .skip) (ee 0))) (s (B 1 (s (O 12 [m 0,m 5,ix 2 12 13,f 0 14,l 1 15,m 1,eq 16 17]) (c 18 (r (O 19 [m 5,d 4 (m 19)]))))) (O 10 [m 5,adi 10 1,d 5 (m 11)])))
def w189_L0:WCode:=.loop ⟨true,[5,1,0],[]⟩ w189_B0
def w189:WFn:=⟨2,[.tmp 4],zd (s (O 4 [i 0]) (s (s (O 5 [i 0]) (bk 0 w189_L0 ⟨true,[],[]⟩)) w189_c0))⟩
@[simp] theorem w189_E0:ZL w189_L0 w189_B0 ⟨true,[5,1,0],[]⟩:=ck_lp rfl
noncomputable abbrev w189_K0 (C:WProg) (s:WSt):Option AV:=CK C 0 (pureFin [.tmp 4]) [.sq w189_L0,.bk 0 ⟨true,[],[]⟩,.sq w189_c0] w189_B0 s
def w190:WFn:=⟨1,[.tmp 2],zd (s (O 1 [bx 0,i 0]) (r (O 3 [f 0 1,l 1 3,ca 366 [4],d 2 (m 5)])))⟩
def w191_B0:WCode:=zd (B 1000000 (s (s (s (Q 18 [m 0,nk 18,f 0 19,l 1 20,m 4,ix 3 21 22,h 3 23,d 7 (E (.alloc [.int .u8 0,.int .u64 0,.int .i64 0])),n (st 3 7 24)] [7,6,4,1,0]) (B 0 (s (O 26 [f 0 7,l 1 26,E (.bin .eql (T 27) (.c (.int .u8 1))),m 28,y 29 (f 1 7),y 29 (l 1 30),y 29 (m 1),y 29 (eq 31 32),pa 29 33,d 25 (m 34)]) (cc 25 (r (O 4 [d 35 (m 4),m 35,tt])) (s (O 37 [f 0 7,l 1 37,E (.bin .eql (T 38) (.c (.int .u8 0))),m 39,y 40 (m 6),y 40 (gei 41 0),pa 40 42,d 36 (m 43)]) (cc 36 (r (O 4 [d 44 (m 6),m 44,ff])) (s (O 46 [f 0 7,l 1 46,E (.bin .eql (T 47) (.c (.int .u8 0))),d 45 (m 48)]) (cc 45 (r (O 4 [d 49 (m 4),m 49,ff])) (s (Q 51 [f 0 7,l 1 51,E (.bin .eql (T 52) (.c (.int .u8 2))),m 53,y 54 (m 6),y 54 (lti 55 0),pa 54 56,d 50 (m 57)] [50,6,4,1,0]) (c 50 (O 58 [m 4,d 6 (m 58)]))))))))))) (s (O 59 [m 4,adi 59 1,m 0,nk 61,f 0 62,l 1 63,ln 1 64,E (.bin .rem (T 60) (T 65)),d 4 (m 66)]) (ee 1000000))) (ee 1000001)))
def w191_L0:WCode:=.loop ⟨true,[6,4,1,0],[]⟩ w191_B0
def w191:WFn:=⟨2,[.tmp 4,.tmp 5],zd (s (O 4 [i 0,ff]) (s (O 6 [i (-1)]) (s (V 8 [m 1,ca 367 [8],m 0,nk 10,f 0 11,l 1 12,ln 1 13,E (.cvt .u64 (T 14)),E (.bin .rem (T 9) (T 15)),E (.cvt .i64 (T 16)),d 4 (m 17)] [(1,5),(1,6)] ⟨false,[],[]⟩) (bk 1000001 w191_L0 ⟨true,[5,4],[]⟩))))⟩
@[simp] theorem w191_E0:ZL w191_L0 w191_B0 ⟨true,[6,4,1,0],[]⟩:=ck_lp rfl
noncomputable abbrev w191_K0 (C:WProg) (s:WSt):Option AV:=CK C 0 (pureFin [.tmp 4,.tmp 5]) [.sq w191_L0,.bk 1000001 ⟨true,[5,4],[]⟩] w191_B0 s
def w192_B0:WCode:=zd (s (O 31 [lt 30 29]) (s (cc 31 (w .skip) (ee 2)) (s (B 3 (s (Q 32 [ix 3 28 30,h 3 32,d 7 (E (.alloc [.int .u8 0,.int .u64 0,.int .i64 0])),n (st 3 7 33)] [30,29,28,7,0]) (s (O 34 [f 0 7,l 1 34,E (.bin .eql (T 35) (.c (.int .u8 1)))]) (c 36 (s (O 38 [m 0,f 1 7,l 1 39,ca 1191 [38,40],d 37 (m 41),ex 0 37,ex 1 37,d 8 (m 42),d 9 (m 43)]) (V 44 [m 0,nk 44,f 0 45,l 1 46,m 8,h 3 7,ix 3 47 48,n (st 3 50 49)] [] ⟨false,[],[]⟩)))))) (O 51 [adi 30 1,d 30 (m 51)]))))
def w192_L0:WCode:=.loop ⟨true,[30,29,28,0],[]⟩ w192_B0
def w192_c0:WCode:=zd (s (O 16 [m 0,nk 16,f 0 17,l 1 18,d 5 (m 19)]) (s (O 20 [m 0,m 4,E (.mksl [.int .u8 0,.int .u64 0,.int .i64 0] 24 (T 21) (T 21)),nk 20,f 0 23,n (st 1 24 22)]) (s (O 25 [m 0,nk 25,f 2 26,n (E (.store 1 (T 27) (N 0)))]) (s (O 28 [m 5,ln 1 28,i 0]) (bk 2 w192_L0 ⟨true,[],[]⟩)))))
def w192_B1:WCode:=zd (s (s (Q 10 [m 4,m 1,E (.bin .mul (N 2) (T 11)),lt 10 12] [13,4,1,0]) (cc 13 (w .skip) (ee 0))) (B 1 (O 14 [m 4,E (.bin .mul (T 14) (N 2)),d 4 (m 15)])))
def w192_L1:WCode:=.loop ⟨true,[4,1,0],[]⟩ w192_B1
def w192:WFn:=⟨2,[],zd (s (O 4 [i 8]) (s (bk 0 w192_L1 ⟨true,[4,0],[]⟩) w192_c0))⟩
@[simp] theorem w192_E0:ZL w192_L0 w192_B0 ⟨true,[30,29,28,0],[]⟩:=ck_lp rfl
@[simp] theorem w192_E1:ZL w192_L1 w192_B1 ⟨true,[4,1,0],[]⟩:=ck_lp rfl
def w193:WFn:=⟨1,[.tmp 2],zd (s (O 2 [ff]) (r (O 3 [m 0,lti 3 1,m 4,z 5 (m 0),z 5 (gti 6 2305843009213693952),po 5 7,d 2 (m 8)])))⟩
def w194:WFn:=⟨3,[.cell 6 1 true,.tmp 7],zd (s (O 6 [d 3 (bx 0),E (.alloc [.nilp]),i 0]) (s (O 13 [h 1 3,m 1,ca 197 [13,14],d 12 (m 15),ex 0 12,ex 1 12,d 8 (m 16),d 9 (m 17)]) (s (B 0 (s (Q 19 [m 9,nei 19 0,d 18 (m 20)] [18,9,8,6,3,2,1]) (cc 18 (r (Q 21 [E (.build [.nilp] []),m 9,n (st 1 6 21),d 7 (m 22)] [7,6])) (s (O 24 [m 2,lti 24 0,m 25,z 26 (m 2),z 26 (gti 27 2305843009213693952),po 26 28,d 23 (m 29)]) (cc 23 (r (O 30 [E (.build [.nilp] []),n (st 1 6 30),d 7 (i 12)])) (s (O 32 [m 2,h 1 3,ca 205 [33],m 8,sb 34 35,E (.bin .sub (N 4611686018427387904) (T 36)),gt 32 37,d 31 (m 38)]) (c 31 (r (O 39 [E (.build [.nilp] []),n (st 1 6 39),d 7 (i 13)]))))))))) (s (O 41 [f 0 3,l 1 41,m 1,ca 368 [42,43],d 40 (m 44),ex 0 40,ex 1 40,d 10 (m 45),d 11 (m 46)]) (s (O 48 [m 11,E (.call 368 [T 48,N 1]),d 47 (m 49),ex 0 47,ex 1 47,d 11 (m 51)]) (r (O 52 [m 10,m 2,m 11,ca 369 [52,53,54],E (.build [.nilp] [(0,1,T 55)]),n (st 1 6 56),d 7 (i 0)])))))))⟩
def w195:WFn:=⟨3,[.cell 6 2 true,.tmp 7],zd (s (O 6 [d 3 (bx 0),E (.alloc [.nilp,.ro 2 [] true]),i 0]) (s (s (O 8 [m 2,nei 8 0]) (c 9 (r (O 10 [E (.build [.nilp,.ro 2 [] true] []),m 2,n (st 2 6 10),d 7 (m 11)])))) (r (O 12 [h 1 3,E (.build [.nilp] [(0,1,T 12)]),m 1,E (.build [.nilp,.ro 2 [] true] [(0,1,T 13),(1,1,T 14)]),n (st 2 6 15),d 7 (i 0)]))))⟩
def w196:WFn:=⟨4,[.tmp 8],zd (s (O 8 [E (.mv (.c (.ro 2 [] true)))]) (s (s (Q 13 [m 1,m 2,eq 13 14] [15,3,2,1,0]) (c 15 (r (O 16 [m 0,d 8 (m 16)])))) (s (O 17 [m 1,m 2,E (.build [.int .i64 0,.int .i64 0] [(0,1,T 17),(1,1,T 18)]),E (.buildS [.int .i64 0,.int .i64 0] 1 [(0,T 19)]),d 9 (m 20)]) (s (O 10 [E (.mv (.c (.fn 370 [])))]) (s (s (O 21 [m 3]) (c 21 (O 10 [E (.mv (.c (.fn 371 [])))]))) (s (O 23 [m 10,m 0,m 9,E (.callv (T 23) [T 24,T 25]),d 22 (m 26),ex 0 22,ex 1 22,d 11 (m 27),d 12 (m 28)]) (r (O 29 [m 11,d 8 (m 29)]))))))))⟩
def w197:WFn:=⟨2,[.tmp 4,.tmp 5],zd (s (O 4 [d 2 (bx 0),i 0,i 0]) (s (s (O 6 [m 1,lti 6 0,m 7,z 8 (m 1),z 8 (h 1 2),z 8 (ca 190 [10]),z 8 (ge 9 11),po 8 12]) (c 13 (r (O 4 [i 0,i 4])))) (r (O 14 [f 0 2,l 1 14,m 1,ca 372 [15,16],nk 17,f 2 18,l 1 19,d 4 (m 20),d 5 (i 0)]))))⟩
def w198:WFn:=⟨2,[.tmp 4],zd (s (O 3 [bx 1,ff]) (r (O 5 [m 0,ca 373 [5],eqi 6 0,m 7,y 8 (m 0),y 8 (E (.mkfn 375 [T 3])),y 8 (ca 374 [9,10]),pa 8 11,d 4 (m 12)])))⟩
def w199:WFn:=⟨1,[.tmp 2,.tmp 3],zd (s (O 2 [E (.mv (.c .nilp)),i 0]) (s (O 6 [E (.build [.ro 1 [] true,.int .i64 0,.int .i64 0] []),bx 6,d 4 (m 7)]) (s (s (O 8 [m 4,m 0,E (.call 376 [T 8,N 0,T 9]),d 5 (m 10)]) (s (O 11 [m 5,nei 11 0]) (c 12 (r (O 2 [d 13 (m 5),E (.mv (.c .nilp)),m 13]))))) (r (O 2 [d 14 (m 4),m 14,i 0])))))⟩
def w200:WFn:=⟨2,[.tmp 4,.tmp 5],zd (s (Q 4 [E (.mv (.c (.int .u64 0))),i 0] [1,0]) (s (s (O 8 [m 0,m 1,E (.call 377 [T 8,T 9,N 1]),d 6 (m 10)]) (s (O 11 [m 6,nei 11 0]) (c 12 (s (O 7 [E (.mv (.c (.int .u64 0)))]) (r (O 13 [m 7,m 6,d 4 (m 13),d 5 (m 14)])))))) (r (V 15 [m 0,nk 15,f 0 16,l 1 17,m 0,m 1,ca 1378 [19,20],ix 1 18 21,l 1 22,d 4 (m 23),d 5 (i 0)] [(3,6)] ⟨false,[],[]⟩))))⟩
def w201_c0:WCode:=zd (r (O 4 [i 0,i 0]))
def w201_B0:WCode:=zd (s (O 25 [lt 24 23]) (s (cc 25 (w .skip) (ee 1)) (s (B 2 (s (O 26 [m 24,ix 2 22 24,h 2 27,d 8 (E (.alloc [.int .u64 0,.int .i64 0])),d 7 (m 26),n (st 2 8 28)]) (s (O 29 [h 2 8,m 1,m 6,ca 379 [29,30,31],d 9 (m 32)]) (s (O 33 [m 9,nei 33 0]) (c 34 (r (O 35 [m 7,m 9,d 4 (m 35),d 5 (m 36)]))))))) (O 37 [adi 24 1,d 24 (m 37)]))))
def w201_L0:WCode:=.loop ⟨true,[24,23,22,6,1],[]⟩ w201_B0
def w201:WFn:=⟨2,[.tmp 4,.tmp 5],zd (s (O 4 [i 0,i 0]) (s (B 0 (s (O 11 [m 1,lti 11 1,m 12,z 13 (m 1),z 13 (gti 14 2305843009213693952),po 13 15,d 10 (m 16)]) (cc 10 (r (O 4 [i 0,i 1])) (s (O 18 [m 0,ln 1 18,gti 19 256,d 17 (m 20)]) (c 17 (r (O 4 [i 0,i 3]))))))) (s (O 21 [ca 2016 [],d 6 (m 21)]) (s (s (Q 22 [m 0,ln 1 22,i 0] [24,23,22,6,1]) (bk 1 w201_L0 ⟨true,[],[]⟩)) w201_c0))))⟩
@[simp] theorem w201_E0:ZL w201_L0 w201_B0 ⟨true,[24,23,22,6,1],[]⟩:=ck_lp rfl
def w202:WFn:=primW 3
def w203_c0:WCode:=zd (s (O 53 [m 0,m 1,m 2,ca 384 [53,54,55]]) (r (O 57 [m 0,m 3,m 10,ca 376 [57,58,59],d 8 (m 60)])))
def w203_B0:WCode:=zd (s (O 36 [lt 35 34]) (s (cc 36 (w .skip) (ee 0)) (s (B 1 (s (O 37 [m 35,d 11 (m 37)]) (U 38 [m 10,m 11,m 0,nk 40,f 0 41,l 1 42,m 0,m 1,m 11,ad 45 46,ca 1378 [44,47],ix 1 43 48,l 1 49,ix 1 38 39,n (st 1 51 50)] [(5,10)] [35,34,10,3,2,1,0]))) (O 52 [adi 35 1,d 35 (m 52)]))))
def w203_L0:WCode:=.loop ⟨true,[35,34,10,3,2,1,0],[]⟩ w203_B0
def w203:WFn:=⟨4,[.tmp 8],zd (s (O 8 [i 0]) (s (s (O 12 [m 0,m 1,m 2,ca 377 [12,13,14],d 9 (m 15)]) (s (O 16 [m 9,nei 16 0]) (c 17 (r (Q 18 [m 9,d 8 (m 18)] [8]))))) (s (s (O 19 [m 3,lti 19 0,m 20,z 21 (m 3),z 21 (m 0),z 21 (ca 383 [23]),z 21 (m 2),z 21 (sb 24 25),z 21 (gt 22 26),po 21 27]) (c 28 (r (O 8 [i 4])))) (s (s (O 29 [m 2,eqi 29 0]) (c 30 (r (O 8 [i 0])))) (s (O 31 [m 2,E (.mksl [.int .u64 0] 8 (T 31) (T 31)),d 10 (m 32)]) (s (s (O 33 [m 10,ln 1 33,i 0]) (bk 0 w203_L0 ⟨true,[10,3,2,1,0],[]⟩)) w203_c0))))))⟩
@[simp] theorem w203_E0:ZL w203_L0 w203_B0 ⟨true,[35,34,10,3,2,1,0],[]⟩:=ck_lp rfl
def w62:WFn:=⟨4,[.cell 8 2 true,.tmp 9],zd (s (O 5 [bx 1,bx 2,bx 3,E (.alloc [.int .i64 0,.ro 1 [] true]),i 0]) (s (s (Q 11 [m 0,ca 77 [11],m 12,z 13 (m 0),z 13 (l 1 5),z 13 (l 1 6),z 13 (ca 78 [14,15,16]),po 13 17,m 18,z 19 (l 1 7),z 19 (lti 20 0),po 19 21,m 22,z 23 (l 1 7),z 23 (m 0),z 23 (l 1 6),z 23 (sb 25 26),z 23 (gt 24 27),po 23 28] [29,8,7,6,5,0]) (c 29 (r (O 30 [E (.build [.int .i64 0,.ro 1 [] true] []),n (st 2 8 30),d 9 (i 4)])))) (s (O 31 [E (.mkfn 79 [T 5,T 6]),d 10 (E (.alloc [.nilf])),n (st 1 10 31)]) (r (O 32 [m 0,m 0,E (.mkfn 80 [T 7,T 10,T 6,T 5]),ca 1073 [32,33,34],ex 0 35,ex 1 35,n (st 2 8 36),d 9 (m 37)])))))⟩
def w204:WFn:=⟨2,[.tmp 4,.tmp 5,.tmp 6],zd (s (O 4 [d 2 (bx 0),i 0,i 0,i 0]) (r (O 7 [f 0 2,f 0 7,h 1 8,m 1,ca 385 [9,10],ex 0 11,ex 1 11,ex 2 11,d 4 (m 12),d 5 (m 13),d 6 (m 14)])))⟩
def w205:WFn:=⟨1,[.tmp 2],zd (s (O 1 [bx 0,i 0]) (r (O 3 [f 0 1,l 1 3,ca 386 [4],d 2 (m 5)])))⟩
def w206_c0:WCode:=zd (r (O 2 [d 47 (m 4),m 47,i 0]))
def w206_B0:WCode:=zd (s (O 17 [lt 16 15]) (s (cc 17 (w .skip) (ee 0)) (s (B 1 (s (O 18 [m 16,ix 1 14 16,l 1 19,d 5 (m 18),d 6 (m 20)]) (s (B 2 (s (O 22 [m 6,lti 22 0,m 23,z 24 (m 6),z 24 (gti 25 2305843009213693952),po 24 26,d 21 (m 27)]) (cc 21 (r (O 2 [E (.mv (.c (.ro 1 [] true))),i 12])) (s (Q 29 [m 6,m 4,m 5,ix 1 30 31,l 1 32,E (.bin .sub (N 4611686018427387904) (T 33)),gt 29 34,d 28 (m 35)] [28,16,15,14,6,5,4]) (c 28 (r (O 2 [E (.mv (.c (.ro 1 [] true))),i 13]))))))) (O 36 [m 4,m 5,adi 37 1,m 4,m 5,ix 1 39 40,l 1 41,m 6,ad 42 43,ix 1 36 38,n (st 1 45 44)])))) (O 46 [adi 16 1,d 16 (m 46)]))))
def w206_L0:WCode:=.loop ⟨true,[16,15,14,4],[]⟩ w206_B0
def w206:WFn:=⟨1,[.tmp 2,.tmp 3],zd (s (O 2 [E (.mv (.c (.ro 1 [] true))),i 0]) (s (s (Q 7 [m 0,ln 1 7,gti 8 4096] [9,0]) (c 9 (r (O 2 [E (.mv (.c (.ro 1 [] true))),i 3])))) (s (O 10 [m 0,ln 1 10,adi 11 1,E (.mksl [.int .i64 0] 8 (T 12) (T 12)),d 4 (m 13)]) (s (s (O 14 [m 0,ln 1 14,i 0]) (bk 0 w206_L0 ⟨true,[4],[]⟩)) w206_c0))))⟩
@[simp] theorem w206_E0:ZL w206_L0 w206_B0 ⟨true,[16,15,14,4],[]⟩:=ck_lp rfl
def w207:WFn:=⟨1,[.cell 2 1 true,.tmp 3],zd (s (O 2 [E (.alloc [.nilp]),i 0]) (s (s (O 5 [m 0,ca 363 [5],d 4 (m 6)]) (s (O 7 [m 4,nei 7 0]) (c 8 (r (O 9 [E (.build [.nilp] []),m 4,n (st 1 2 9),d 3 (m 10)]))))) (r (O 11 [m 0,ca 387 [11],E (.build [.nilp] [(0,1,T 12)]),n (st 1 2 13),d 3 (i 0)]))))⟩
def w208_c0:WCode:=zd (r (O 2 [d 34 (m 5),m 34,i 0]))
def w208_B0:WCode:=zd (s (O 25 [lt 24 23]) (s (cc 25 (w .skip) (ee 0)) (s (B 1 (s (O 26 [m 24,ix 1 22 24,l 1 27,d 6 (m 26),d 7 (m 28)]) (O 29 [m 5,m 6,m 7,ca 388 [29,30,31]]))) (O 33 [adi 24 1,d 24 (m 33)]))))
def w208_L0:WCode:=.loop ⟨true,[24,23,22,5],[]⟩ w208_B0
def w208:WFn:=⟨1,[.tmp 2,.tmp 3],zd (s (O 2 [E (.mv (.c .nilp)),i 0]) (s (s (O 8 [m 0,ca 363 [8],d 4 (m 9)]) (s (O 10 [m 4,nei 10 0]) (c 11 (r (O 2 [d 12 (m 4),E (.mv (.c .nilp)),m 12]))))) (s (U 13 [m 0,ln 1 13,E (.mksl [.int .i64 0] 8 (T 14) (T 14)),m 0,ln 1 16,adi 17 1,E (.mksl [.int .i64 0] 8 (T 18) (T 18)),E (.build [.bool false,.ro 1 [] true,.ro 1 [] true,.int .i64 0] [(0,1,.c (.bool true)),(1,1,T 15),(2,1,T 19)]),bx 20,d 5 (m 21)] [(2,4),(1,6),(2,6)] [5,0]) (s (s (O 22 [m 0,ln 1 22,i 0]) (bk 0 w208_L0 ⟨true,[5],[]⟩)) w208_c0))))⟩
@[simp] theorem w208_E0:ZL w208_L0 w208_B0 ⟨true,[24,23,22,5],[]⟩:=ck_lp rfl
def w209:WFn:=⟨1,[.tmp 2,.tmp 3],zd (s (O 2 [E (.mv (.c .nilp)),i 0]) (s (B 0 (s (O 5 [m 0,lti 5 0,d 4 (m 6)]) (cc 4 (r (O 2 [E (.mv (.c .nilp)),i 4])) (s (O 8 [m 0,gti 8 4096,d 7 (m 9)]) (c 7 (r (O 2 [E (.mv (.c .nilp)),i 3]))))))) (r (O 10 [m 0,E (.build [.int .i64 0,.int .i64 0,.int .u64 0,.int .u64 0,.int .u64 0,.int .u64 0,.int .u64 0,.int .u64 0,.int .u64 0,.int .u64 0,.int .u64 0,.int .u64 0,.int .u64 0,.int .u64 0,.int .u64 0,.int .u64 0,.int .u64 0,.int .u64 0,.int .u64 0,.int .u64 0,.int .u64 0,.int .u64 0,.int .u64 0,.int .u64 0,.int .u64 0,.int .u64 0,.int .u64 0,.int .u64 0,.int .u64 0,.int .u64 0,.int .u64 0,.int .u64 0,.int .u64 0,.int .u64 0,.int .u64 0,.int .u64 0,.int .u64 0,.int .u64 0,.int .u64 0,.int .u64 0,.int .u64 0,.int .u64 0,.int .u64 0,.int .u64 0,.int .u64 0,.int .u64 0,.int .u64 0,.int .u64 0,.int .u64 0,.int .u64 0,.int .u64 0,.int .u64 0,.int .u64 0,.int .u64 0,.int .u64 0,.int .u64 0,.int .u64 0,.int .u64 0,.int .u64 0,.int .u64 0,.int .u64 0,.int .u64 0,.int .u64 0,.int .u64 0,.int .u64 0,.int .u64 0] [(0,1,T 10)]),bx 11,d 2 (m 12),d 3 (i 0)]))))⟩
def w210_c0:WCode:=zd (r (O 41 [m 5,ca 392 [41],ex 0 42,ex 1 42,d 2 (m 43),d 3 (m 44)]))
def w210_B0:WCode:=zd (s (O 32 [lt 31 30]) (s (cc 32 (w .skip) (ee 0)) (s (B 1 (s (O 33 [ix 1 29 31,l 1 33,d 7 (m 34)]) (O 35 [m 5,m 7,m 7,adi 37 1,ca 2391 [35,36,38],d 5 (m 39)]))) (O 40 [adi 31 1,d 31 (m 40)]))))
def w210_L0:WCode:=.loop ⟨true,[31,30,29,5],[]⟩ w210_B0
def w210:WFn:=⟨1,[.tmp 2,.tmp 3],zd (s (Q 2 [E (.mv (.c (.ro 2 [] true))),i 0] [0]) (s (O 8 [m 0,ca 390 [8],ca 389 [9],d 4 (m 10)]) (s (s (O 11 [m 4,ln 1 11,gti 12 0,m 13,y 14 (m 4),y 14 (E (.idxs 1 (T 15) (N 0))),y 14 (l 1 16),y 14 (lti 17 0),y 14 (m 18),z 19 (m 4),z 19 (m 4),z 19 (ln 1 21),z 19 (sbi 22 1),z 19 (ix 1 20 23),z 19 (l 1 24),z 19 (gei 25 1073741824),y 14 (po 19 26),pa 14 27]) (c 28 (r (Q 2 [E (.mv (.c (.ro 2 [] true))),i 4] [3,2])))) (s (O 5 [E (.mv (.c (.ro 2 [] true)))]) (s (s (O 29 [m 4,ln 1 29,i 0]) (bk 0 w210_L0 ⟨true,[5],[]⟩)) w210_c0)))))⟩
@[simp] theorem w210_E0:ZL w210_L0 w210_B0 ⟨true,[31,30,29,5],[]⟩:=ck_lp rfl
def w211:WFn:=primW 2
def w212:WFn:=⟨1,[.tmp 2],zd (s (O 2 [i 0]) (s (s (O 3 [m 0,ca 395 [3]]) (c 4 (r (O 2 [i 0])))) (r (O 5 [m 0,nk 5,f 3 6,l 1 7,d 2 (m 8)]))))⟩
def w213:WFn:=⟨3,[.tmp 6],zd (s (O 6 [i 0]) (s (s (O 8 [m 0,m 1,E (.call 396 [T 8,T 9,N 1]),d 7 (m 10)]) (s (O 11 [m 7,nei 11 0]) (c 12 (r (O 13 [m 7,d 6 (m 13)]))))) (s (O 14 [m 0,m 1,m 2,ca 397 [14,15,16]]) (r (O 6 [i 0])))))⟩
def w214:WFn:=⟨1,[.tmp 2],zd (s (O 2 [i 0]) (s (s (O 3 [m 0,E (.eqv 2 [] false (T 3) (.c .nilp))]) (c 4 (r (O 2 [i 0])))) (r (O 5 [m 0,nk 5,f 1 6,l 1 7,d 2 (m 8)]))))⟩
def w215_c0:WCode:=zd (r (O 23 [m 3,d 2 (m 23)]))
def w215_B0:WCode:=zd (s (O 12 [lt 11 10]) (s (cc 12 (w .skip) (ee 0)) (s (B 1 (s (O 13 [ix 2 9 11,h 2 13,d 5 (E (.alloc [.int .i64 0,.int .i64 0])),n (st 2 5 14)]) (O 15 [m 3,f 1 5,l 1 16,f 0 5,l 1 18,sb 17 19,ad 15 20,d 3 (m 21)]))) (O 22 [adi 11 1,d 11 (m 22)]))))
def w215_L0:WCode:=.loop ⟨true,[11,10,9,3],[]⟩ w215_B0
def w215:WFn:=⟨1,[.tmp 2],zd (s (O 2 [i 0]) (s (Q 3 [i 0] [3,0]) (s (s (O 6 [m 0,ca 373 [6],eqi 7 0]) (c 8 (s (O 9 [m 0,ln 1 9,i 0]) (bk 0 w215_L0 ⟨true,[3],[]⟩)))) w215_c0)))⟩
@[simp] theorem w215_E0:ZL w215_L0 w215_B0 ⟨true,[11,10,9,3],[]⟩:=ck_lp rfl
def w363_c0:WCode:=zd (r (O 2 [i 0]))
def w363_B0:WCode:=zd (s (O 12 [lt 11 10]) (s (cc 12 (w .skip) (ee 0)) (s (B 1 (s (Q 13 [ix 1 9 11,l 1 13,d 5 (m 14)] [11,10,9,5,3]) (s (B 2 (s (O 16 [m 5,lti 16 0,m 17,z 18 (m 5),z 18 (gti 19 2305843009213693952),po 18 20,d 15 (m 21)]) (cc 15 (r (O 2 [i 12])) (s (O 23 [m 5,m 3,E (.bin .sub (N 4611686018427387904) (T 24)),gt 23 25,d 22 (m 26)]) (c 22 (r (O 2 [i 13]))))))) (O 27 [m 3,m 5,ad 27 28,d 3 (m 29)])))) (O 30 [adi 11 1,d 11 (m 30)]))))
def w363_L0:WCode:=.loop ⟨true,[11,10,9,3],[]⟩ w363_B0
def w363:WFn:=⟨1,[.tmp 2],zd (s (O 2 [i 0]) (s (s (O 6 [m 0,ln 1 6,gti 7 4096]) (c 8 (r (O 2 [i 3])))) (s (O 3 [i 0]) (s (s (O 9 [m 0,ln 1 9,i 0]) (bk 0 w363_L0 ⟨true,[],[]⟩)) w363_c0))))⟩
@[simp] theorem w363_E0:ZL w363_L0 w363_B0 ⟨true,[11,10,9,3],[]⟩:=ck_lp rfl
def w364:WFn:=⟨3,[.cell 6 1 true,.tmp 7],zd (s (O 6 [d 3 (bx 0),E (.alloc [.nilp]),i 0]) (s (Q 15 [h 1 3,m 1,ca 470 [15,16],d 14 (m 17),ex 0 14,ex 1 14,ex 2 14,d 8 (E (.alloc [.nilp])),d 9 (E (.alloc [.nilp])),n (st 1 8 18),n (st 1 9 19),d 10 (m 20)] [10,9,8,6,3,2]) (s (s (O 21 [m 10,nei 21 0]) (c 22 (r (O 23 [E (.build [.nilp] []),m 10,n (st 1 6 23),d 7 (m 24)])))) (s (O 26 [m 2,ca 207 [26],d 25 (m 27),ex 0 25,ex 1 25,d 11 (E (.alloc [.nilp])),n (st 1 11 28),d 10 (m 29)]) (s (s (O 30 [m 10,nei 30 0]) (c 31 (r (O 32 [E (.build [.nilp] []),m 10,n (st 1 6 32),d 7 (m 33)])))) (s (s (Q 35 [h 1 3,h 1 11,ca 471 [35,36],d 34 (m 37),ex 0 34,ex 1 34,d 12 (E (.alloc [.nilp])),n (st 1 12 38),d 13 (m 39)] [13,11,9,8,6]) (s (O 40 [m 13,nei 40 0]) (c 41 (r (O 42 [E (.build [.nilp] []),m 13,n (st 1 6 42),d 7 (m 43)]))))) (r (V 44 [f 0 8,l 1 44,f 0 11,l 1 46,ca 472 [45,47],f 0 9,l 1 49,ca 472 [48,50],E (.build [.nilp] [(0,1,T 51)]),n (st 1 6 52),d 7 (i 0)] [(4,6)] ⟨false,[],[]⟩))))))))⟩
def w365_c0:WCode:=zd (r (O 71 [m 10,ca 392 [71],ex 0 72,ex 1 72,d 6 (m 73),d 7 (m 74)]))
def w365_B0:WCode:=zd (s (O 47 [lt 46 45]) (s (cc 47 (w .skip) (ee 0)) (s (B 1 (s (O 48 [ix 2 44 46,h 2 48,d 12 (E (.alloc [.int .i64 0,.int .i64 0])),n (st 2 12 49)]) (s (Q 50 [m 10,f 0 12,l 1 51,f 1 12,l 1 53,m 1,E (.mn (T 54) (T 55)),ca 2391 [50,52,56],d 10 (m 57)] [46,45,44,12,10,2,1]) (O 58 [m 10,f 0 12,l 1 59,m 1,E (.mx (T 60) (T 61)),m 2,ad 62 63,f 1 12,l 1 65,m 2,ad 66 67,ca 2391 [58,64,68],d 10 (m 69)])))) (O 70 [adi 46 1,d 46 (m 70)]))))
def w365_L0:WCode:=.loop ⟨true,[46,45,44,10,2,1],[]⟩ w365_B0
def w365:WFn:=⟨3,[.tmp 6,.tmp 7],zd (s (O 6 [E (.mv (.c (.ro 2 [] true))),i 0]) (s (s (O 13 [m 0,m 1,m 2,ca 473 [13,14,15],d 8 (m 16)]) (s (O 17 [m 8,nei 17 0]) (c 18 (r (O 6 [d 19 (m 8),E (.mv (.c (.ro 2 [] true))),m 19]))))) (s (s (O 20 [m 0,ln 1 20,sbi 21 1,d 9 (m 22)]) (s (Q 23 [m 9,gei 23 0,m 24,y 25 (m 0),y 25 (m 9),y 25 (ix 2 26 27),y 25 (f 1 28),y 25 (l 1 29),y 25 (m 1),y 25 (gt 30 31),pa 25 32,m 33,y 34 (m 0),y 34 (m 9),y 34 (ix 2 35 36),y 34 (f 1 37),y 34 (l 1 38),y 34 (m 2),y 34 (ad 39 40),y 34 (gti 41 1073741824),pa 34 42] [43,2,1,0]) (c 43 (r (O 6 [E (.mv (.c (.ro 2 [] true))),i 4]))))) (s (O 10 [E (.mv (.c (.ro 2 [] true)))]) (s (s (O 44 [m 0,ln 1 44,i 0]) (bk 0 w365_L0 ⟨true,[10],[]⟩)) w365_c0)))))⟩
@[simp] theorem w365_E0:ZL w365_L0 w365_B0 ⟨true,[46,45,44,10,2,1],[]⟩:=ck_lp rfl
noncomputable abbrev w365_K0 (C:WProg) (s:WSt):Option AV:=CK C 0 (pureFin [.tmp 6,.tmp 7]) [.sq w365_L0,.bk 0 ⟨true,[10],[]⟩,.sq w365_c0] w365_B0 s
def w366:WFn:=⟨1,[.tmp 2],zd (s (O 2 [i 0]) (s (s (O 3 [m 0,E (.eqv 2 [] false (T 3) (.c .nilp))]) (c 4 (r (O 2 [i 0])))) (r (O 5 [m 0,nk 5,f 3 6,l 1 7,d 2 (m 8)]))))⟩
def w367:WFn:=⟨1,[.tmp 2],zd (s (O 2 [E (.mv (.c (.int .u64 0)))]) (s (O 3 [m 0,m 0,E (.bin .shr (T 4) (.c (.int .u64 30))),E (.bin .xor (T 3) (T 5)),E (.bin .mul (T 6) (.c (.int .u64 13787848793156543929))),d 0 (m 7)]) (s (O 8 [m 0,m 0,E (.bin .shr (T 9) (.c (.int .u64 27))),E (.bin .xor (T 8) (T 10)),E (.bin .mul (T 11) (.c (.int .u64 10723151780598845931))),d 0 (m 12)]) (r (O 13 [m 0,m 0,E (.bin .shr (T 14) (.c (.int .u64 31))),E (.bin .xor (T 13) (T 15)),d 2 (m 16)])))))⟩
def w368:WFn:=⟨2,[.tmp 4,.tmp 5],zd (s (O 4 [E (.mv (.c .nilp)),E (.mv (.c .nilp))]) (s (s (O 7 [m 0,E (.eqv 2 [] false (T 7) (.c .nilp))]) (c 8 (r (O 4 [E (.mv (.c .nilp)),E (.mv (.c .nilp))])))) (s (s (O 9 [m 0,nk 9,f 0 10,l 1 11,ca 366 [12],d 6 (m 13)]) (s (O 14 [m 1,m 6,gt 14 15]) (c 16 (s (Q 18 [m 0,nk 18,f 1 19,l 1 20,m 1,m 6,sb 22 23,sbi 24 1,ca 368 [21,25],d 17 (m 26),ex 0 17,ex 1 17,d 4 (m 27),d 5 (m 28)] [5,4,0]) (r (V 29 [m 0,nk 29,f 0 30,l 1 31,m 0,nk 33,f 2 34,l 1 35,m 4,ca 369 [32,36,37],m 5,d 4 (m 38),d 5 (m 39)] [] ⟨false,[],[]⟩)))))) (s (Q 41 [m 0,nk 41,f 0 42,l 1 43,m 1,ca 368 [44,45],d 40 (m 46),ex 0 40,ex 1 40,d 4 (m 47),d 5 (m 48)] [5,4,0]) (r (V 49 [m 4,m 5,m 0,nk 51,f 2 52,l 1 53,m 0,nk 55,f 1 56,l 1 57,ca 369 [50,54,58],d 4 (m 49),d 5 (m 59)] [] ⟨false,[],[]⟩))))))⟩
def w369:WFn:=⟨3,[.tmp 6],zd (s (O 6 [E (.mv (.c .nilp))]) (s (B 0 (s (O 8 [m 0,ca 474 [8],m 2,ca 474 [10],adi 11 1,gt 9 12,d 7 (m 13)]) (cc 7 (r (V 14 [m 0,nk 14,f 0 15,l 1 16,m 0,nk 18,f 2 19,l 1 20,m 0,nk 22,f 1 23,l 1 24,m 1,m 2,ca 369 [25,26,27],ca 475 [17,21,28],d 6 (m 29)] [(3,14),(7,14)] ⟨false,[],[]⟩)) (s (O 31 [m 2,ca 474 [31],m 0,ca 474 [33],adi 34 1,gt 32 35,d 30 (m 36)]) (c 30 (r (U 37 [m 0,m 1,m 2,nk 39,f 0 40,l 1 41,ca 369 [37,38,42],m 2,nk 44,f 2 45,l 1 46,m 2,nk 48,f 1 49,l 1 50,ca 475 [43,47,51],d 6 (m 52)] [(6,10),(6,14)] [6]))))))) (r (O 53 [m 0,m 1,m 2,ca 476 [53,54,55],d 6 (m 56)]))))⟩
def w370:WFn:=⟨2,[.tmp 4,.tmp 5],zd (s (O 4 [E (.mv (.c (.ro 2 [] true))),i 0]) (r (O 6 [m 0,m 1,E (.call 477 [T 6,T 7,.c (.fn 478 [])]),ex 0 8,ex 1 8,d 4 (m 9),d 5 (m 10)])))⟩
def w371:WFn:=⟨2,[.tmp 4,.tmp 5],zd (s (O 4 [E (.mv (.c (.ro 2 [] true))),i 0]) (r (O 6 [m 0,m 1,E (.call 477 [T 6,T 7,.c (.fn 479 [])]),ex 0 8,ex 1 8,d 4 (m 9),d 5 (m 10)])))⟩
def w372:WFn:=⟨2,[.tmp 4],zd (s (O 4 [E (.mv (.c .nilp))]) (s (s (O 6 [m 0,nk 6,f 0 7,l 1 8,ca 366 [9],d 5 (m 10)]) (B 0 (s (Q 12 [m 1,m 5,lt 12 13,d 11 (m 14)] [11,5,1,0]) (cc 11 (r (O 15 [m 0,nk 15,f 0 16,l 1 17,m 1,ca 372 [18,19],d 4 (m 20)])) (s (O 22 [m 1,m 5,gt 22 23,d 21 (m 24)]) (c 21 (r (O 25 [m 0,nk 25,f 1 26,l 1 27,m 1,m 5,sb 29 30,sbi 31 1,ca 372 [28,32],d 4 (m 33)])))))))) (r (O 34 [m 0,d 4 (m 34)]))))⟩
def w373_c0:WCode:=zd (r (O 2 [i 0]))
def w373_B0:WCode:=zd (s (O 12 [lt 11 10]) (s (cc 12 (w .skip) (ee 0)) (s (B 1 (s (O 13 [ix 2 9 11,h 2 13,d 5 (E (.alloc [.int .i64 0,.int .i64 0])),n (st 2 5 14)]) (s (B 2 (s (Q 16 [f 0 5,l 1 16,lti 17 0,m 18,z 19 (f 0 5),z 19 (l 1 20),z 19 (f 1 5),z 19 (l 1 22),z 19 (ge 21 23),po 19 24,m 25,z 26 (f 1 5),z 26 (l 1 27),z 26 (gti 28 1073741824),po 26 29,d 15 (m 30)] [15,11,10,9,5,3]) (cc 15 (r (O 2 [i 1])) (s (O 32 [f 0 5,l 1 32,m 3,le 33 34,d 31 (m 35)]) (c 31 (r (O 2 [i 16]))))))) (O 36 [f 1 5,l 1 36,d 3 (m 37)])))) (O 38 [adi 11 1,d 11 (m 38)]))))
def w373_L0:WCode:=.loop ⟨true,[11,10,9,3],[]⟩ w373_B0
def w373:WFn:=⟨1,[.tmp 2],zd (s (O 2 [i 0]) (s (s (O 6 [m 0,ln 1 6,gti 7 4096]) (c 8 (r (O 2 [i 3])))) (s (O 3 [i (-1)]) (s (s (O 9 [m 0,ln 1 9,i 0]) (bk 0 w373_L0 ⟨true,[],[]⟩)) w373_c0))))⟩
@[simp] theorem w373_E0:ZL w373_L0 w373_B0 ⟨true,[11,10,9,3],[]⟩:=ck_lp rfl
noncomputable abbrev w373_K0 (C:WProg) (s:WSt):Option AV:=CK C 0 (pureFin [.tmp 2]) [.sq w373_L0,.bk 0 ⟨true,[],[]⟩,.sq w373_c0] w373_B0 s
def w374:WFn:=⟨2,[.tmp 4],zd (s (O 4 [ff]) (r (O 5 [m 0,m 1,ca 480 [5,6],gei 7 0,d 4 (m 8)])))⟩
def w375:WFn:=⟨2,[.tmp 3],zd (s (O 2 [bx 0,ff]) (r (O 4 [f 0 2,l 1 4,l 1 1,le 5 6,m 7,y 8 (l 1 1),y 8 (f 1 2),y 8 (l 1 10),y 8 (lt 9 11),pa 8 12,d 3 (m 13)])))⟩
def w376:WFn:=⟨3,[.tmp 6],zd (s (O 6 [i 0]) (s (s (Q 8 [m 0,m 1,E (.call 377 [T 8,T 9,N 0]),d 7 (m 10)] [7,2,1,0]) (s (O 11 [m 7,nei 11 0]) (c 12 (r (O 13 [m 7,d 6 (m 13)]))))) (s (s (O 14 [m 2,ln 1 14,m 0,ca 383 [16],E (.bin .sub (N 4096) (T 17)),gt 15 18]) (c 19 (r (O 6 [i 3])))) (s (s (O 20 [m 2,ln 1 20,eqi 21 0]) (c 22 (r (O 6 [i 0])))) (s (O 23 [m 0,m 1,ca 481 [23,24]]) (s (O 26 [m 0,m 2,ln 1 27,ca 482 [26,28]]) (s (U 30 [m 0,nk 30,f 1 31,l 1 32,m 0,nk 34,f 0 35,l 1 36,m 0,nk 38,f 1 39,l 1 40,E (.slice 1 (T 37) (some (T 41)) none none),m 2,E (.cpy 1 (T 42) (T 43)),ad 33 44,nk 30,f 1 46,n (st 1 47 45)] [(3,14)] [2,0]) (s (O 48 [m 0,nk 48,f 2 49,l 1 50,m 2,ln 1 52,sb 51 53,nk 48,f 2 55,n (st 1 56 54)]) (r (O 6 [i 0]))))))))))⟩
def w377:WFn:=⟨3,[.tmp 6],zd (s (O 6 [i 0]) (s (B 0 (s (O 8 [m 0,E (.eqv 2 [] false (T 8) (.c .nilp)),d 7 (m 9)]) (cc 7 (r (O 6 [i 2])) (s (Q 11 [m 1,lti 11 0,m 12,z 13 (m 2),z 13 (lti 14 0),po 13 15,m 16,z 17 (m 1),z 17 (m 0),z 17 (ca 383 [19]),z 17 (gt 18 20),po 17 21,m 22,z 23 (m 2),z 23 (m 0),z 23 (ca 383 [25]),z 23 (m 1),z 23 (sb 26 27),z 23 (gt 24 28),po 23 29,d 10 (m 30)] [10]) (c 10 (r (O 6 [i 4]))))))) (r (O 6 [i 0]))))⟩
def w378:WFn:=⟨2,[.tmp 4],zd (s (O 4 [i 0]) (s (s (O 5 [m 1,m 0,nk 6,f 1 7,l 1 8,ge 5 9]) (c 10 (r (O 11 [m 1,m 0,nk 12,f 2 13,l 1 14,ad 11 15,d 4 (m 16)])))) (r (O 17 [m 1,d 4 (m 17)]))))⟩
def w379:WFn:=⟨3,[.tmp 6],zd (s (O 6 [d 3 (bx 0),i 0]) (s (O 10 [m 2,f 0 3,l 1 11,ca 1100 [10,12],d 9 (m 13),ex 0 9,ex 1 9,d 7 (m 14),d 8 (m 15)]) (s (B 0 (s (Q 17 [f 0 3,l 1 17,E (.bin .eql (T 18) (.c (.int .u64 0))),d 16 (m 19)] [16,8,3,2,1]) (cc 16 (r (O 6 [i 9])) (s (O 21 [f 1 3,l 1 21,m 1,lt 22 23,m 24,z 25 (f 1 3),z 25 (l 1 26),z 25 (gti 27 2305843009213693952),po 25 28,d 20 (m 29)]) (cc 20 (r (O 6 [i 12])) (s (O 31 [m 8,d 30 (m 31)]) (c 30 (r (O 6 [i 8]))))))))) (r (O 32 [m 2,f 0 3,l 1 33,E (.call 99 [T 32,T 34,N 0]),d 6 (m 35)])))))⟩
def w383:WFn:=⟨1,[.tmp 2],zd (s (O 2 [i 0]) (s (s (O 3 [m 0,E (.eqv 2 [] false (T 3) (.c .nilp))]) (c 4 (r (O 2 [i 0])))) (r (V 5 [m 0,nk 5,f 0 6,l 1 7,ln 1 8,m 0,nk 10,f 2 11,l 1 12,sb 9 13,d 2 (m 14)] [] ⟨false,[],[]⟩))))⟩
def w384:WFn:=⟨3,[.tmp 6],zd (s (O 6 [i 0]) (s (s (O 8 [m 0,m 1,m 2,ca 377 [8,9,10],d 7 (m 11)]) (s (O 12 [m 7,nei 12 0,m 13,z 14 (m 2),z 14 (eqi 15 0),po 14 16]) (c 17 (r (O 18 [m 7,d 6 (m 18)]))))) (s (O 19 [m 0,m 1,ca 481 [19,20]]) (s (U 22 [m 0,nk 22,f 0 23,l 1 24,m 1,m 0,nk 27,f 2 28,l 1 29,ad 26 30,m 1,m 0,nk 33,f 2 34,l 1 35,ad 32 36,m 2,ad 37 38,E (.slice 1 (T 25) (some (T 31)) (some (T 39)) none),n (E (.clr [.int .u64 0] (T 40)))] [] [2,0]) (s (O 41 [m 0,nk 41,f 2 42,l 1 43,m 2,ad 44 45,nk 41,f 2 47,n (st 1 48 46)]) (r (O 6 [i 0])))))))⟩
def w77:WFn:=⟨1,[.tmp 2],zd (s (O 2 [ff]) (r (O 3 [m 0,lti 3 0,m 4,z 5 (m 0),z 5 (gti 6 4096),po 5 7,d 2 (m 8)])))⟩
def w78:WFn:=⟨3,[.tmp 6],zd (s (O 6 [ff]) (r (O 7 [m 1,lti 7 0,m 8,z 9 (m 2),z 9 (lti 10 0),po 9 11,m 12,z 13 (m 1),z 13 (m 0),z 13 (gt 14 15),po 13 16,m 17,z 18 (m 2),z 18 (m 0),z 18 (m 1),z 18 (sb 20 21),z 18 (gt 19 22),po 18 23,d 6 (m 24)])))⟩
def w79:WFn:=⟨3,[.tmp 4],zd (s (O 4 [i 0]) (s (s (O 5 [m 0,l 1 1,lt 5 6]) (c 7 (r (O 8 [m 0,d 4 (m 8)])))) (r (O 9 [m 0,l 1 2,ad 9 10,d 4 (m 11)]))))⟩
def w73_c0:WCode:=zd (r (O 31 [h 2 8,n (st 2 6 31),d 7 (i 0)]))
def w73_B0:WCode:=zd (s (O 21 [lt 20 19]) (s (cc 21 (w .skip) (ee 0)) (s (B 1 (s (O 22 [m 20,d 9 (m 22)]) (V 23 [f 1 8,l 1 23,m 9,m 2,m 9,E (.callv (T 26) [T 27]),ix 1 24 25,n (st 1 29 28)] [(1,5)] ⟨false,[],[]⟩))) (O 30 [adi 20 1,d 20 (m 30)]))))
def w73_L0:WCode:=.loop ⟨true,[20,19,8,6,2],[]⟩ w73_B0
def w73:WFn:=⟨3,[.cell 6 2 true,.tmp 7],zd (s (O 6 [E (.alloc [.int .i64 0,.ro 1 [] true]),i 0]) (s (O 10 [m 0,E (.build [.int .i64 0,.ro 1 [] true] [(0,1,T 10)]),d 8 (E (.alloc [.int .i64 0,.ro 1 [] true])),n (st 2 8 11)]) (s (s (O 12 [m 1,gti 12 0]) (c 13 (Q 14 [m 1,E (.mksl [.int .i64 0] 8 (T 14) (T 14)),f 1 8,n (st 1 16 15)] [8,6,2]))) (s (s (O 17 [f 1 8,l 1 17,ln 1 18,i 0]) (bk 0 w73_L0 ⟨true,[8,6],[]⟩)) w73_c0))))⟩
@[simp] theorem w73_E0:ZL w73_L0 w73_B0 ⟨true,[20,19,8,6,2],[]⟩:=ck_lp rfl
def w80:WFn:=⟨5,[.tmp 6],zd (s (O 6 [i 0]) (s (B 0 (s (Q 8 [m 0,l 1 1,lt 8 9,d 7 (m 10)] [7,4,3,2,1,0]) (cc 7 (r (O 11 [l 1 2,m 0,E (.callv (T 11) [T 12]),d 6 (m 13)])) (s (O 15 [m 0,l 1 1,l 1 3,ad 16 17,lt 15 18,d 14 (m 19)]) (c 14 (r (O 20 [l 1 4,m 0,ad 20 21,l 1 1,sb 22 23,d 6 (m 24)]))))))) (r (O 25 [l 1 2,m 0,l 1 3,sb 26 27,E (.callv (T 25) [T 28]),d 6 (m 29)]))))⟩
def w385_c0:WCode:=zd (r (O 4 [i 0,i 0,i 4]))
def w385_B0:WCode:=zd (s (s (O 20 [m 7,E (.eqv 2 [] true (T 20) (.c .nilp))]) (cc 21 (w .skip) (ee 0))) (B 1 (s (O 22 [m 7,nk 22,f 0 23,l 1 24,ca 386 [25],d 8 (m 26)]) (B 2 (s (O 48 [m 5,m 8,lt 48 49,d 47 (m 50)]) (cc 47 (O 51 [m 7,nk 51,f 0 52,l 1 53,d 7 (m 54)]) (s (Q 56 [m 5,m 8,m 7,nk 58,f 2 59,l 1 60,ad 57 61,lt 56 62,d 55 (m 63)] [55,8,7,5,4]) (cc 55 (r (O 64 [m 4,m 7,nk 65,f 0 66,l 1 67,ca 366 [68],ad 64 69,m 5,m 8,sb 71 72,d 4 (m 70),d 5 (m 73),d 6 (i 0)])) (s (O 27 [m 5,m 8,m 7,nk 29,f 2 30,l 1 31,ad 28 32,sb 27 33,d 5 (m 34)]) (s (O 35 [m 4,m 7,nk 36,f 0 37,l 1 38,ca 366 [39],adi 40 1,ad 35 41,d 4 (m 42)]) (Q 43 [m 7,nk 43,f 1 44,l 1 45,d 7 (m 46)] [7,5,4])))))))))))
def w385_L0:WCode:=.loop ⟨true,[7,5,4],[]⟩ w385_B0
def w385:WFn:=⟨2,[.tmp 4,.tmp 5,.tmp 6],zd (s (O 4 [d 2 (bx 0),i 0,i 0,i 0]) (s (s (Q 9 [m 1,lti 9 0,m 10,z 11 (m 1),z 11 (h 1 2),z 11 (ca 205 [13]),z 11 (ge 12 14),po 11 15] [16,4,2,1]) (c 16 (r (O 4 [i 0,i 0,i 4])))) (s (O 17 [m 1,d 5 (m 17)]) (s (s (O 18 [f 0 2,l 1 18,d 7 (m 19)]) (bk 0 w385_L0 ⟨true,[],[]⟩)) w385_c0))))⟩
@[simp] theorem w385_E0:ZL w385_L0 w385_B0 ⟨true,[7,5,4],[]⟩:=ck_lp rfl
def w386:WFn:=⟨1,[.tmp 2],zd (s (O 2 [i 0]) (s (s (O 3 [m 0,E (.eqv 2 [] false (T 3) (.c .nilp))]) (c 4 (r (O 2 [i 0])))) (r (O 5 [m 0,nk 5,f 4 6,l 1 7,d 2 (m 8)]))))⟩
def w387:WFn:=⟨1,[.tmp 2],zd (s (Q 2 [E (.mv (.c .nilp))] [0]) (s (s (O 4 [m 0,ln 1 4,eqi 5 0]) (c 6 (r (O 2 [E (.mv (.c .nilp))])))) (s (O 7 [m 0,ln 1 7,E (.bin .quo (T 8) (N 2)),d 3 (m 9)]) (r (V 10 [m 0,m 3,E (.slice 1 (T 10) none (some (T 11)) none),ca 387 [12],m 0,m 3,ix 1 14 15,l 1 16,m 0,m 3,adi 19 1,E (.slice 1 (T 18) (some (T 20)) none none),ca 387 [21],ca 476 [13,17,22],d 2 (m 23)] [(3,7),(7,12)] ⟨false,[],[]⟩)))))⟩
def w388_B0:WCode:=zd (s (s (O 28 [m 7,m 0,nk 29,f 2 30,l 1 31,ln 1 32,lt 28 33]) (cc 34 (w .skip) (ee 0))) (s (B 1 (O 38 [m 0,nk 38,f 2 39,l 1 40,m 7,ix 1 41 42,l 1 43,m 2,ad 44 45,ix 1 41 42,n (st 1 47 46)])) (O 35 [m 6,m 7,E (.callv (T 35) [T 36]),d 7 (m 37)])))
def w388_L0:WCode:=.loop ⟨true,[7,6,2,0],[]⟩ w388_B0
def w388:WFn:=⟨3,[],zd (s (O 8 [m 0,nk 8,f 1 9,l 1 10,m 1,ix 1 11 12,l 1 13,m 2,ad 14 15,ix 1 11 12,n (st 1 17 16)]) (s (O 18 [m 0,nk 18,f 3 19,l 1 20,m 2,ad 21 22,nk 18,f 3 24,n (st 1 25 23)]) (s (O 6 [E (.mv (.c (.fn 485 [])))]) (s (Q 26 [m 1,adi 26 1,d 7 (m 27)] [7,6,2,0]) (bk 0 w388_L0 ⟨true,[],[]⟩)))))⟩
@[simp] theorem w388_E0:ZL w388_L0 w388_B0 ⟨true,[7,6,2,0],[]⟩:=ck_lp rfl
def w389:WFn:=primW 1
def w390:WFn:=⟨1,[.tmp 2],zd (s (O 1 [bx 0,E (.mv (.c .nilf))]) (r (O 3 [E (.mkfn 488 [T 1]),d 2 (m 3)])))⟩
def w391:WFn:=⟨3,[.tmp 6],zd (s (O 6 [E (.mv (.c (.ro 2 [] true)))]) (s (s (O 8 [m 0,ln 1 8,d 7 (m 9)]) (B 0 (s (O 17 [m 1,m 2,ge 17 18,d 16 (m 19)]) (cc 16 (w .skip) (s (Q 21 [m 7,gti 21 0,m 22,y 23 (m 0),y 23 (m 7),y 23 (sbi 25 1),y 23 (ix 2 24 26),y 23 (f 1 27),y 23 (l 1 28),y 23 (m 1),y 23 (ge 29 30),pa 23 31,d 20 (m 32)] [20,7,2,1,0]) (cc 20 (O 33 [m 0,m 7,sbi 34 1,m 0,m 7,sbi 37 1,ix 2 36 38,f 1 39,l 1 40,m 2,E (.mx (T 41) (T 42)),ix 2 33 35,f 1 44,n (st 1 45 43)]) (O 10 [m 0,m 1,m 2,E (.build [.int .i64 0,.int .i64 0] [(0,1,T 11),(1,1,T 12)]),E (.buildS [.int .i64 0,.int .i64 0] 1 [(0,T 13)]),E (.app [.int .i64 0,.int .i64 0] 16 false (T 10) (T 14)),d 0 (m 15)]))))))) (r (O 46 [m 0,d 6 (m 46)]))))⟩
def w392:WFn:=⟨1,[.tmp 2,.tmp 3],zd (s (O 2 [E (.mv (.c (.ro 2 [] true))),i 0]) (s (s (O 4 [m 0,ln 1 4,gti 5 4096]) (c 6 (r (O 2 [E (.mv (.c (.ro 2 [] true))),i 3])))) (r (O 7 [m 0,ca 489 [7],d 2 (m 8),d 3 (i 0)]))))⟩
def w395:WFn:=⟨1,[.tmp 2],zd (s (O 2 [ff]) (r (O 3 [m 0,E (.eqv 2 [] false (T 3) (.c .nilp)),m 4,z 5 (m 0),z 5 (nk 6),z 5 (f 0 7),z 5 (l 1 8),z 5 (nt 9),po 5 10,d 2 (m 11)])))⟩
def w396:WFn:=⟨3,[.tmp 6],zd (s (O 6 [i 0]) (s (B 0 (s (O 8 [m 0,E (.eqv 2 [] false (T 8) (.c .nilp)),d 7 (m 9)]) (cc 7 (r (O 6 [i 2])) (s (Q 11 [m 1,lti 11 0,m 12,z 13 (m 2),z 13 (lti 14 0),po 13 15,m 16,z 17 (m 1),z 17 (m 0),z 17 (nk 19),z 17 (f 0 20),z 17 (l 1 21),z 17 (gt 18 22),po 17 23,m 24,z 25 (m 2),z 25 (m 0),z 25 (nk 27),z 25 (f 0 28),z 25 (l 1 29),z 25 (m 1),z 25 (sb 30 31),z 25 (gt 26 32),po 25 33,d 10 (m 34)] [10]) (c 10 (r (O 6 [i 4]))))))) (r (O 6 [i 0]))))⟩
def w397:WFn:=⟨3,[],zd (s (O 6 [m 0,m 1,ca 493 [6,7],m 2,E (.eqv 5 [] true (T 8) (T 9))]) (c 10 (s (U 11 [m 0,m 1,E (.bin .quo (T 12) (N 64)),nk 11,f 2 14,E (.idxa 64 1 (T 15) (T 13)),l 1 16,m 1,E (.bin .rem (T 18) (N 64)),E (.bin .shl (.c (.int .u64 1)) (T 19)),E (.bin .xor (T 17) (T 20)),nk 11,f 2 22,E (.idxa 64 1 (T 23) (T 13)),n (st 1 24 21)] [] [2,0]) (s (O 25 [m 2]) (cc 25 (O 26 [m 0,nk 26,f 1 27,l 1 28,adi 29 1,nk 26,f 1 31,n (st 1 32 30)]) (O 33 [m 0,nk 33,f 1 34,l 1 35,sbi 36 1,nk 33,f 1 38,n (st 1 39 37)]))))))⟩
def w470:WFn:=⟨2,[.cell 4 1 true,.cell 5 1 true,.tmp 6],zd (s (O 4 [d 2 (bx 0),E (.alloc [.nilp]),E (.alloc [.nilp]),i 0]) (s (s (Q 9 [m 1,lti 9 0,m 10,z 11 (m 1),z 11 (h 1 2),z 11 (ca 190 [13]),z 11 (gt 12 14),po 11 15] [16,5,4,2,1]) (c 16 (r (O 17 [E (.build [.nilp] []),E (.build [.nilp] []),n (st 1 4 17),n (st 1 5 18),d 6 (i 4)])))) (s (O 20 [f 0 2,l 1 20,m 1,ca 368 [21,22],d 19 (m 23),ex 0 19,ex 1 19,d 7 (m 24),d 8 (m 25)]) (r (O 26 [m 7,E (.build [.nilp] [(0,1,T 26)]),m 8,E (.build [.nilp] [(0,1,T 28)]),n (st 1 4 27),n (st 1 5 29),d 6 (i 0)])))))⟩
def w471:WFn:=⟨2,[.cell 4 1 true,.tmp 5],zd (s (O 2 [bx 0,bx 1,E (.alloc [.nilp]),i 0]) (s (B 0 (s (U 7 [h 1 2,ca 190 [7],h 1 3,ca 190 [9],ad 8 10,gti 11 4096,d 6 (m 12)] [(1,2)] [6,4,3,2]) (cc 6 (r (O 13 [E (.build [.nilp] []),n (st 1 4 13),d 5 (i 3)])) (s (V 15 [h 1 2,ca 205 [15],h 1 3,ca 205 [17],E (.bin .sub (N 4611686018427387904) (T 18)),gt 16 19,d 14 (m 20)] [(1,2)] ⟨false,[],[]⟩) (c 14 (r (O 21 [E (.build [.nilp] []),n (st 1 4 21),d 5 (i 13)]))))))) (r (O 22 [f 0 2,l 1 22,f 0 3,l 1 24,ca 472 [23,25],E (.build [.nilp] [(0,1,T 26)]),n (st 1 4 27),d 5 (i 0)]))))⟩
def w472:WFn:=⟨2,[.tmp 4],zd (s (O 4 [E (.mv (.c .nilp))]) (s (s (O 7 [m 1,E (.eqv 2 [] false (T 7) (.c .nilp))]) (c 8 (r (O 9 [m 0,d 4 (m 9)])))) (s (O 11 [m 1,E (.call 368 [T 11,N 1]),d 10 (m 12),ex 0 10,ex 1 10,d 5 (m 13),d 6 (m 14)]) (r (O 15 [m 0,m 5,nk 16,f 2 17,l 1 18,m 6,ca 369 [15,19,20],d 4 (m 21)])))))⟩
def w473:WFn:=⟨3,[.tmp 6],zd (s (Q 6 [i 0] [2,1,0]) (s (s (O 8 [m 0,ca 373 [8],d 7 (m 9)]) (s (O 10 [m 7,nei 10 0]) (c 11 (r (O 12 [m 7,d 6 (m 12)]))))) (s (s (O 13 [m 1,lti 13 0,m 14,z 15 (m 1),z 15 (gti 16 1073741824),po 15 17,m 18,z 19 (m 2),z 19 (lti 20 0),po 19 21,m 22,z 23 (m 2),z 23 (gti 24 1073741824),po 23 25]) (c 26 (r (O 6 [i 4])))) (r (O 6 [i 0])))))⟩
def w474:WFn:=⟨1,[.tmp 2],zd (s (O 2 [i 0]) (s (s (O 3 [m 0,E (.eqv 2 [] false (T 3) (.c .nilp))]) (c 4 (r (O 2 [i 0])))) (r (O 5 [m 0,nk 5,f 5 6,l 1 7,d 2 (m 8)]))))⟩
def w475:WFn:=⟨3,[.tmp 6],zd (s (O 3 [bx 0,bx 1,bx 2,E (.mv (.c .nilp))]) (s (O 12 [E (.mkfn 533 [T 3,T 4,T 5]),d 7 (m 12)]) (s (Q 13 [E (.mkfn 534 [T 5,T 3,T 4]),d 8 (m 13)] [8,7,5,4,3]) (s (O 14 [E (.mkfn 535 [T 3,T 4,T 5]),d 9 (m 14)]) (s (O 15 [m 7,d 10 (m 15)]) (s (s (V 16 [l 1 5,ca 474 [16],l 1 3,ca 474 [18],sb 17 19,d 11 (m 20)] [(1,2)] ⟨false,[],[]⟩) (B 0 (s (O 22 [m 11,gti 22 1,d 21 (m 23)]) (cc 21 (O 24 [m 8,d 10 (m 24)]) (s (O 26 [m 11,lti 26 (-1),d 25 (m 27)]) (c 25 (O 28 [m 9,d 10 (m 28)]))))))) (r (O 29 [m 10,E (.callv (T 29) []),d 6 (m 30)]))))))))⟩
def w476:WFn:=⟨3,[.tmp 6],zd (s (O 6 [E (.mv (.c .nilp))]) (r (Q 7 [m 0,m 2,m 1,m 0,ca 366 [10],m 2,ca 366 [12],ad 11 13,adi 14 1,m 0,ca 386 [16],m 1,ad 17 18,m 2,ca 386 [20],ad 19 21,m 0,ca 474 [23],m 2,ca 474 [25],E (.mx (T 24) (T 26)),adi 27 1,E (.build [.nilp,.nilp,.int .i64 0,.int .i64 0,.int .i64 0,.int .i64 0] [(0,1,T 7),(1,1,T 8),(2,1,T 9),(3,1,T 15),(4,1,T 22),(5,1,T 28)]),bx 29,d 6 (m 30)] [6])))⟩
def w477_c0:WCode:=zd (r (O 109 [m 9,ca 392 [109],ex 0 110,ex 1 110,d 6 (m 111),d 7 (m 112)]))
def w477_c1:WCode:=zd (s (O 13 [i 1073741824]) (s (O 14 [ff,ff]) (s (s (O 52 [m 11,m 0,ln 1 53,lt 52 54]) (c 55 (s (O 56 [m 0,m 11,ix 2 56 57,f 0 58,l 1 59,m 10,le 60 61,d 14 (m 62)]) (Q 63 [m 13,m 0,m 11,ix 2 64 65,h 2 66,m 10,ca 537 [67,68],E (.mn (T 63) (T 69)),d 13 (m 70)] [15,14,13,12,11,10,9,2,1,0])))) (s (s (O 71 [m 12,m 1,ln 1 72,lt 71 73]) (c 74 (s (O 75 [m 1,m 12,ix 2 75 76,f 0 77,l 1 78,m 10,le 79 80,d 15 (m 81)]) (O 82 [m 13,m 1,m 12,ix 2 83 84,h 2 85,m 10,ca 537 [86,87],E (.mn (T 82) (T 88)),d 13 (m 89)])))) (s (s (Q 90 [m 11,m 0,ln 1 91,eq 90 92,m 93,y 94 (m 12),y 94 (m 1),y 94 (ln 1 96),y 94 (eq 95 97),pa 94 98] [99,15,14,13,12,11,10,9,2,1,0]) (c 99 (ee 0))) (s (s (O 100 [m 2,m 14,m 15,E (.callv (T 100) [T 101,T 102])]) (c 103 (O 104 [m 9,m 10,m 13,ca 2391 [104,105,106],d 9 (m 107)]))) (O 108 [m 13,d 10 (m 108)])))))))
def w477_B1:WCode:=zd (s (s (Q 37 [m 12,m 1,ln 1 38,lt 37 39,m 40,y 41 (m 1),y 41 (m 12),y 41 (ix 2 42 43),y 41 (f 1 44),y 41 (l 1 45),y 41 (m 10),y 41 (le 46 47),pa 41 48] [49,12,11,10,9,2,1,0]) (cc 49 (w .skip) (ee 4))) (B 5 (O 50 [m 12,adi 50 1,d 12 (m 51)])))
def w477_L1:WCode:=.loop ⟨true,[12,11,10,9,2,1,0],[]⟩ w477_B1
def w477_c2:WCode:=zd (s (bk 4 w477_L1 ⟨true,[12,11,10,9,2,1,0],[]⟩) w477_c1)
def w477_B2:WCode:=zd (s (s (O 22 [m 11,m 0,ln 1 23,lt 22 24,m 25,y 26 (m 0),y 26 (m 11),y 26 (ix 2 27 28),y 26 (f 1 29),y 26 (l 1 30),y 26 (m 10),y 26 (le 31 32),pa 26 33]) (cc 34 (w .skip) (ee 2))) (B 3 (O 35 [m 11,adi 35 1,d 11 (m 36)])))
def w477_L2:WCode:=.loop ⟨true,[12,11,10,9,2,1,0],[]⟩ w477_B2
def w477_B0:WCode:=zd (bk 1 (s (bk 2 w477_L2 ⟨true,[12,11,10,9,2,1,0],[]⟩) w477_c2) ⟨true,[12,11,10,9,2,1,0],[]⟩)
def w477_L0:WCode:=.loop ⟨true,[12,11,10,9,2,1,0],[]⟩ w477_B0
def w477:WFn:=⟨3,[.tmp 6,.tmp 7],zd (s (O 6 [E (.mv (.c (.ro 2 [] true))),i 0]) (s (s (s (O 16 [m 0,m 1,ca 536 [16,17],d 8 (m 18)]) (s (Q 19 [m 8,nei 19 0] [20,8,2,1,0]) (c 20 (r (O 6 [d 21 (m 8),E (.mv (.c (.ro 2 [] true))),m 21]))))) (s (O 9 [E (.mv (.c (.ro 2 [] true)))]) (s (O 10 [i 0]) (s (O 11 [i 0,i 0]) (s (w .skip) (s (bk 0 w477_L0 ⟨true,[9],[]⟩) w477_c0)))))) (w .skip)))⟩
@[simp] theorem w477_E1:ZL w477_L1 w477_B1 ⟨true,[12,11,10,9,2,1,0],[]⟩:=ck_lp rfl
noncomputable abbrev w477_K1 (C:WProg) (s:WSt):Option AV:=CK C 0 (pureFin [.tmp 6,.tmp 7]) [.sq w477_L1,.bk 4 ⟨true,[12,11,10,9,2,1,0],[]⟩,.sq w477_c1,.bk 1 ⟨true,[12,11,10,9,2,1,0],[]⟩,.sq w477_L0,.bk 0 ⟨true,[9],[]⟩,.sq w477_c0,.sq .skip] w477_B1 s
@[simp] theorem w477_E2:ZL w477_L2 w477_B2 ⟨true,[12,11,10,9,2,1,0],[]⟩:=ck_lp rfl
noncomputable abbrev w477_K2 (C:WProg) (s:WSt):Option AV:=CK C 0 (pureFin [.tmp 6,.tmp 7]) [.sq w477_L2,.bk 2 ⟨true,[12,11,10,9,2,1,0],[]⟩,.sq w477_c2,.bk 1 ⟨true,[12,11,10,9,2,1,0],[]⟩,.sq w477_L0,.bk 0 ⟨true,[9],[]⟩,.sq w477_c0,.sq .skip] w477_B2 s
@[simp] theorem w477_E0:ZL w477_L0 w477_B0 ⟨true,[12,11,10,9,2,1,0],[]⟩:=ck_lp rfl
noncomputable abbrev w477_K0 (C:WProg) (s:WSt):Option AV:=CK C 0 (pureFin [.tmp 6,.tmp 7]) [.sq w477_L0,.bk 0 ⟨true,[9],[]⟩,.sq w477_c0,.sq .skip] w477_B0 s
def w478:WFn:=⟨2,[.tmp 4],zd (s (O 4 [ff]) (r (O 5 [m 0,m 5,y 6 (m 1),y 6 (nt 7),pa 6 8,d 4 (m 9)])))⟩
def w479:WFn:=⟨2,[.tmp 4],zd (s (O 4 [ff]) (r (O 5 [m 0,m 5,z 6 (m 1),po 6 7,d 4 (m 8)])))⟩
def w480_c0:WCode:=zd (r (O 4 [i (-1)]))
def w480_B0:WCode:=zd (s (O 9 [lt 8 7]) (s (cc 9 (w .skip) (ee 0)) (s (B 1 (s (O 10 [m 8,d 5 (m 10)]) (s (O 11 [m 1,m 0,m 5,ix 2 12 13,h 2 14,E (.callv (T 11) [T 15])]) (c 16 (r (O 17 [m 5,d 4 (m 17)])))))) (O 18 [adi 8 1,d 8 (m 18)]))))
def w480_L0:WCode:=.loop ⟨true,[8,7,1,0],[]⟩ w480_B0
def w480:WFn:=⟨2,[.tmp 4],zd (s (O 4 [i 0]) (s (s (O 6 [m 0,ln 1 6,i 0]) (bk 0 w480_L0 ⟨true,[],[]⟩)) w480_c0))⟩
@[simp] theorem w480_E0:ZL w480_L0 w480_B0 ⟨true,[8,7,1,0],[]⟩:=ck_lp rfl
noncomputable abbrev w480_K0 (C:WProg) (s:WSt):Option AV:=CK C 0 (pureFin [.tmp 4]) [.sq w480_L0,.bk 0 ⟨true,[],[]⟩,.sq w480_c0] w480_B0 s
def w481:WFn:=⟨2,[],zd (s (s (O 4 [m 1,m 0,nk 5,f 1 6,l 1 7,lt 4 8]) (cc 9 (U 10 [m 0,nk 10,f 0 11,l 1 12,m 1,m 0,nk 15,f 2 16,l 1 17,ad 14 18,E (.slice 1 (T 13) (some (T 19)) none none),m 0,nk 21,f 0 22,l 1 23,m 1,m 0,nk 26,f 1 27,l 1 28,E (.slice 1 (T 24) (some (T 25)) (some (T 29)) none),E (.cpy 1 (T 20) (T 30))] [] [1,0]) (U 32 [m 0,nk 32,f 0 33,l 1 34,m 0,nk 36,f 1 37,l 1 38,E (.slice 1 (T 35) (some (T 39)) none none),m 0,nk 41,f 0 42,l 1 43,m 0,nk 45,f 1 46,l 1 47,m 0,nk 49,f 2 50,l 1 51,ad 48 52,m 1,m 0,nk 55,f 2 56,l 1 57,ad 54 58,E (.slice 1 (T 44) (some (T 53)) (some (T 59)) none),E (.cpy 1 (T 40) (T 60))] [] [1,0]))) (s (O 62 [m 0,m 1,nk 62,f 1 64,n (st 1 65 63)]) (V 66 [m 0,nk 66,f 0 67,l 1 68,m 1,m 1,m 0,nk 72,f 2 73,l 1 74,ad 71 75,E (.slice 1 (T 69) (some (T 70)) (some (T 76)) none),n (E (.clr [.int .u64 0] (T 77)))] [] ⟨false,[],[]⟩)))⟩
def w482:WFn:=⟨2,[],zd (s (s (O 6 [m 1,m 0,nk 7,f 2 8,l 1 9,le 6 10]) (c 11 (w .ret))) (s (Q 12 [m 1,m 0,nk 13,f 0 14,l 1 15,ln 1 16,E (.bin .quo (T 17) (N 2)),ad 12 18,adi 19 8,d 4 (m 20)] [4,0]) (s (O 21 [m 0,ca 383 [21],m 4,ad 22 23,E (.mksl [.int .u64 0] 8 (T 24) (T 24)),d 5 (m 25)]) (s (V 26 [m 5,m 0,nk 27,f 0 28,l 1 29,m 0,nk 31,f 1 32,l 1 33,E (.slice 1 (T 30) none (some (T 34)) none),E (.cpy 1 (T 26) (T 35))] [] ⟨false,[],[]⟩) (s (U 37 [m 5,m 0,nk 38,f 1 39,l 1 40,m 4,ad 41 42,E (.slice 1 (T 37) (some (T 43)) none none),m 0,nk 45,f 0 46,l 1 47,m 0,nk 49,f 1 50,l 1 51,m 0,nk 53,f 2 54,l 1 55,ad 52 56,E (.slice 1 (T 48) (some (T 57)) none none),E (.cpy 1 (T 44) (T 58))] [] [5,4,0]) (O 60 [m 0,m 0,m 5,m 4,nk 60,f 0 64,n (st 1 65 62),nk 61,f 2 66,n (st 1 67 63)]))))))⟩
def w485:WFn:=⟨1,[.tmp 2],zd (s (O 2 [i 0]) (r (O 3 [m 0,m 0,m 0,E (.un .neg (T 5)),E (.bin .and (T 4) (T 6)),ad 3 7,d 2 (m 8)])))⟩
def w488_B0:WCode:=zd (s (O 8 [lt 7 6]) (s (cc 8 (w .skip) (ee 0)) (s (B 1 (s (O 9 [ix 1 5 7,l 1 9,d 4 (m 10)]) (s (O 11 [m 0,m 4,E (.callv (T 11) [T 12]),nt 13]) (c 14 (w .ret))))) (O 15 [adi 7 1,d 7 (m 15)]))))
def w488_L0:WCode:=.loop ⟨true,[7,6,5,0],[]⟩ w488_B0
def w488:WFn:=⟨2,[],zd (s (O 5 [l 1 1,ln 1 5,i 0]) (bk 0 w488_L0 ⟨true,[],[]⟩))⟩
@[simp] theorem w488_E0:ZL w488_L0 w488_B0 ⟨true,[7,6,5,0],[]⟩:=ck_lp rfl
def w489:WFn:=⟨1,[.tmp 2],zd (s (O 2 [E (.mv (.c (.ro 2 [] true)))]) (r (O 3 [m 0,m 0,ln 1 4,m 0,ln 1 6,E (.slice 2 (T 3) none (some (T 5)) (some (T 7))),d 2 (m 8)])))⟩
def w493:WFn:=⟨2,[.tmp 4],zd (s (O 4 [ff]) (r (O 5 [m 0,m 1,E (.bin .quo (T 6) (N 64)),nk 5,f 2 8,E (.idxa 64 1 (T 9) (T 7)),l 1 10,m 1,E (.bin .rem (T 12) (N 64)),E (.bin .shr (T 11) (T 13)),E (.bin .and (T 14) (.c (.int .u64 1))),E (.bin .eql (T 15) (.c (.int .u64 1))),d 4 (m 16)])))⟩
def w533:WFn:=⟨3,[.tmp 3],zd (s (O 3 [E (.mv (.c .nilp))]) (r (O 4 [l 1 0,l 1 1,l 1 2,ca 476 [4,5,6],d 3 (m 7)])))⟩
def w534:WFn:=⟨3,[.tmp 3],zd (s (O 3 [E (.mv (.c .nilp))]) (s (s (V 5 [l 1 0,nk 5,f 0 6,l 1 7,ca 474 [8],l 1 0,nk 10,f 1 11,l 1 12,ca 474 [13],gt 9 14] [(4,5),(4,8)] ⟨false,[],[]⟩) (c 15 (s (O 16 [l 1 0,nk 16,f 0 17,l 1 18,d 4 (m 19)]) (r (U 20 [l 1 1,l 1 2,m 4,nk 22,f 0 23,l 1 24,ca 476 [20,21,25],m 4,nk 27,f 2 28,l 1 29,m 4,nk 31,f 1 32,l 1 33,l 1 0,nk 35,f 2 36,l 1 37,l 1 0,nk 39,f 1 40,l 1 41,ca 476 [34,38,42],ca 476 [26,30,43],d 3 (m 44)] [(6,10),(6,14),(6,15),(6,18),(6,19),(6,22),(10,23)] [3]))))) (r (V 45 [l 1 1,l 1 2,l 1 0,nk 47,f 0 48,l 1 49,ca 476 [45,46,50],l 1 0,nk 52,f 2 53,l 1 54,l 1 0,nk 56,f 1 57,l 1 58,ca 476 [51,55,59],d 3 (m 60)] [(6,7),(6,10),(6,11),(6,14)] ⟨false,[],[]⟩))))⟩
def w535:WFn:=⟨3,[.tmp 3],zd (s (O 3 [E (.mv (.c .nilp))]) (s (s (V 5 [l 1 0,nk 5,f 1 6,l 1 7,ca 474 [8],l 1 0,nk 10,f 0 11,l 1 12,ca 474 [13],gt 9 14] [(4,5),(4,8)] ⟨false,[],[]⟩) (c 15 (s (O 16 [l 1 0,nk 16,f 1 17,l 1 18,d 4 (m 19)]) (r (U 20 [l 1 0,nk 20,f 0 21,l 1 22,l 1 0,nk 24,f 2 25,l 1 26,m 4,nk 28,f 0 29,l 1 30,ca 476 [23,27,31],m 4,nk 33,f 2 34,l 1 35,m 4,nk 37,f 1 38,l 1 39,l 1 1,l 1 2,ca 476 [40,41,42],ca 476 [32,36,43],d 3 (m 44)] [(12,16),(12,20),(12,21),(12,22),(16,23)] [3]))))) (r (V 45 [l 1 0,nk 45,f 0 46,l 1 47,l 1 0,nk 49,f 2 50,l 1 51,l 1 0,nk 53,f 1 54,l 1 55,l 1 1,l 1 2,ca 476 [56,57,58],ca 476 [48,52,59],d 3 (m 60)] [(0,14),(3,14),(4,14),(7,14)] ⟨false,[],[]⟩))))⟩
def w536:WFn:=⟨2,[.tmp 4],zd (s (O 4 [i 0]) (s (s (O 6 [m 0,ca 373 [6],d 5 (m 7)]) (s (O 8 [m 5,nei 8 0]) (c 9 (r (O 10 [m 5,d 4 (m 10)]))))) (r (O 11 [m 1,ca 373 [11],d 4 (m 12)]))))⟩
def w537:WFn:=⟨2,[.tmp 4],zd (s (O 4 [d 2 (bx 0),i 0]) (s (s (O 5 [f 0 2,l 1 5,m 1,gt 6 7]) (c 8 (r (O 9 [f 0 2,l 1 9,d 4 (m 10)])))) (r (O 11 [f 1 2,l 1 11,d 4 (m 12)]))))⟩
def tree:WTree:=(.node (.node (.node (.node (.node (.node (.node .leaf 0 w0 .leaf) 62 w62 (.node .leaf 77 w77 .leaf)) 78 w78 (.node (.node .leaf 79 w79 .leaf) 80 w80 .leaf)) 84 w84 (.node (.node (.node .leaf 94 w94 .leaf) 95 w95 (.node .leaf 96 w96 .leaf)) 97 w97 (.node (.node .leaf 98 w98 .leaf) 99 w99 .leaf))) 101 w101 (.node (.node (.node (.node .leaf 102 w102 .leaf) 103 w103 (.node .leaf 104 w104 .leaf)) 105 w105 (.node (.node .leaf 106 w106 .leaf) 187 w187 .leaf)) 188 w188 (.node (.node (.node .leaf 189 w189 .leaf) 190 w190 .leaf) 191 w191 (.node (.node .leaf 192 w192 .leaf) 193 w193 .leaf)))) 194 w194 (.node (.node (.node (.node (.node .leaf 195 w195 .leaf) 196 w196 (.node .leaf 197 w197 .leaf)) 198 w198 (.node (.node .leaf 200 w200 .leaf) 201 w201 .leaf)) 202 w202 (.node (.node (.node .leaf 203 w203 .leaf) 204 w204 (.node .leaf 205 w205 .leaf)) 206 w206 (.node (.node .leaf 207 w207 .leaf) 208 w208 .leaf))) 210 w210 (.node (.node (.node (.node .leaf 211 w211 .leaf) 212 w212 (.node .leaf 213 w213 .leaf)) 214 w214 (.node (.node .leaf 215 w215 .leaf) 363 w363 .leaf)) 364 w364 (.node (.node (.node .leaf 365 w365 .leaf) 366 w366 .leaf) 367 w367 (.node (.node .leaf 368 w368 .leaf) 369 w369 .leaf))))) 370 w370 (.node (.node (.node (.node (.node (.node .leaf 371 w371 .leaf) 372 w372 (.node .leaf 373 w373 .leaf)) 374 w374 (.node (.node .leaf 375 w375 .leaf) 376 w376 .leaf)) 377 w377 (.node (.node (.node .leaf 379 w379 .leaf) 383 w383 (.node .leaf 384 w384 .leaf)) 385 w385 (.node (.node .leaf 386 w386 .leaf) 387 w387 .leaf))) 388 w388 (.node (.node (.node (.node .leaf 389 w389 .leaf) 390 w390 (.node .leaf 391 w391 .leaf)) 392 w392 (.node (.node .leaf 395 w395 .leaf) 396 w396 .leaf)) 397 w397 (.node (.node (.node .leaf 470 w470 .leaf) 471 w471 .leaf) 472 w472 (.node (.node .leaf 473 w473 .leaf) 474 w474 .leaf)))) 475 w475 (.node (.node (.node (.node (.node .leaf 476 w476 .leaf) 477 w477 (.node .leaf 478 w478 .leaf)) 479 w479 (.node (.node .leaf 480 w480 .leaf) 481 w481 .leaf)) 482 w482 (.node (.node (.node .leaf 485 w485 .leaf) 488 w488 .leaf) 489 w489 (.node (.node .leaf 493 w493 .leaf) 533 w533 .leaf))) 534 w534 (.node (.node (.node (.node .leaf 535 w535 .leaf) 536 w536 (.node .leaf 537 w537 .leaf)) 1073 w73 (.node (.node .leaf 1100 w1100 .leaf) 1102 w102 .leaf)) 1191 w191 (.node (.node (.node .leaf 1378 w378 .leaf) 2016 w97 .leaf) 2199 w199 (.node (.node .leaf 2209 w209 .leaf) 2391 w391 .leaf))))))
def ids:List (Nat × Nat):=[(0,2),(62,34),(77,69),(78,70),(79,71),(80,73),(84,3),(94,4),(95,5),(96,6),(97,7),(98,8),(99,9),(101,11),(102,12),(103,13),(104,14),(105,15),(106,16),(187,17),(188,18),(189,19),(190,20),(191,21),(192,22),(193,23),(194,24),(195,25),(196,26),(197,27),(198,28),(200,30),(201,31),(202,32),(203,33),(204,35),(205,36),(206,37),(207,38),(208,39),(210,41),(211,42),(212,43),(213,44),(214,45),(215,46),(363,47),(364,48),(365,49),(366,50),(367,51),(368,52),(369,53),(370,54),(371,55),(372,56),(373,57),(374,58),(375,59),(376,60),(377,61),(379,63),(383,67),(384,68),(385,74),(386,75),(387,76),(388,77),(389,78),(390,79),(391,80),(392,81),(395,84),(396,85),(397,86),(470,87),(471,88),(472,89),(473,90),(474,91),(475,92),(476,93),(477,94),(478,95),(479,96),(480,97),(481,98),(482,99),(485,102),(488,105),(489,106),(493,110),(533,111),(534,112),(535,113),(536,114),(537,115),(2016,7),(1102,12),(1191,21),(1100,10),(2199,29),(2209,40),(1378,62),(1073,72),(2391,80)]
def alts:List (Nat × Nat × Nat):=[(201,7,2016),(1100,12,1102),(1100,21,1191),(379,10,1100),(84,10,1100),(106,10,1100),(84,12,1102),(99,21,1191),(192,21,1191),(84,7,2016),(106,7,2016),(106,29,2199),(106,40,2209),(200,62,1378),(203,62,1378),(62,72,1073),(477,80,2391),(365,80,2391),(210,80,2391)]
end P
end
section
namespace Go.Pw
open Go Go.Pav
@[simp] def eI (x:Int):List AV:=[.int .i64 x]
@[simp] def eU8 (x:Int):List AV:=[.int .u8 x]
@[simp] def eU64 (x:Int):List AV:=[.int .u64 x]
@[simp] def eS (x:List UInt8):List AV:=[.str x]
@[simp] def eB (x:Bool):List AV:=[.bool x]
abbrev L1 (xs:List Int) (e:Bool):AV:=.ro 1 (xs.map eI) e
attribute [simp] Int.natCast_inj
attribute [-simp] List.getElem_cons_drop
section
variable (a n:Nat)
@[simp] theorem lit_lt_cast:((no_index (OfNat.ofNat a):Int) < (n:Int))=((no_index (OfNat.ofNat a):Nat) < n):=propext (Int.ofNat_lt (n:=(OfNat.ofNat a:Nat)) (m:=n))
@[simp] theorem cast_lt_lit:((n:Int) < (no_index (OfNat.ofNat a):Int))=(n < (no_index (OfNat.ofNat a):Nat)):=propext (Int.ofNat_lt (m:=(OfNat.ofNat a:Nat)) (n:=n))
@[simp] theorem lit_le_cast:((no_index (OfNat.ofNat a):Int)≤(n:Int))=((no_index (OfNat.ofNat a):Nat)≤n):=propext (Int.ofNat_le (m:=(OfNat.ofNat a:Nat)) (n:=n))
@[simp] theorem cast_le_lit:((n:Int)≤(no_index (OfNat.ofNat a):Int))=(n≤(no_index (OfNat.ofNat a):Nat)):=propext (Int.ofNat_le (n:=(OfNat.ofNat a:Nat)) (m:=n))
end
@[simp] theorem app_le (a b:Nat):(a+(b+1)≤a)=False:=eq_false (by omega)
theorem drop_cons {α:Type} {l:List α} {i:Nat} (h:i < l.length):l.drop i=l[i]::l.drop (i+1):=List.drop_eq_getElem_cons h
theorem mapO_self {α:Type} {g:α→Option α}:∀ {l:List α},(∀ x ∈ l,g x=some x)→mapO g l=some l
 | [],_=>rfl
 | a::l,h=>by simp only [mapO,h a List.mem_cons_self,ob,mapO_self fun x hx=>h x (List.mem_cons_of_mem _ hx),om]
@[simp] theorem frz_ints (h:WHeap) (n:Nat) (k:IntKind) (l:List Int):mapO (frzW h (n+1)) (List.map (AV.int k) l)=some (List.map (AV.int k) l) :=
 mapO_self fun x hx=>by obtain ⟨y,_,rfl⟩:=List.mem_map.1 hx;rfl
@[simp] theorem all_isC_int (k:IntKind) (l:List Int):l.all (isC ∘ AV.int k)=true:=by simp [isC]
@[simp] theorem all_isC_bool (l:List Bool):l.all (isC ∘ AV.bool)=true:=by simp [isC]
attribute [simp] isLeaf
@[simp] theorem comp_eI:((fun x:AV=>[x]) ∘ AV.int .i64)=eI:=rfl
@[simp] theorem add_le_self' (a b:Nat):(a+b≤a)=(b=0):=propext (by omega)
end Go.Pw
end
