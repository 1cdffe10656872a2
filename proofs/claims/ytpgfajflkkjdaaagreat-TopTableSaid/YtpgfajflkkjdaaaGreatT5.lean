/- Part of the theory that the claims of this work use: PwCanon, PwPrim, PwCode, PwDen, PwCk, PwSimp, PwZip. No conditions of its own. -/
import Derived.Test.YtpgfajflkkjdaaaGreatT4
set_option linter.unusedVariables false
set_option linter.unusedSimpArgs false
section
namespace Go.Pw
open Go Go.Pav
def Srt (e:Env):Prop:=e.Pairwise fun a b=>b.1 < a.1
theorem Srt.put {e:Env} (h:Srt e) (k:Nat) (v:AV):Srt (putE e k v):=by
 have mem:∀ (e:Env) x,x ∈ putE e k v→x=(k,v)∨x ∈ e:=by
  intro e
  induction e with
  | nil=>intro x hx;simp [putE] at hx;exact .inl hx
  | cons y e ih =>
   intro x hx
   obtain ⟨j,u⟩:=y
   simp only [putE] at hx
   split at hx
   · rcases List.mem_cons.1 hx with q | q
     · exact .inl q
     · exact .inr q
   · split at hx
     · rcases List.mem_cons.1 hx with q | q
       · exact .inl q
       · exact .inr (List.mem_cons_of_mem _ q)
     · rcases List.mem_cons.1 hx with q | q
       · exact .inr (q ▸ List.mem_cons_self)
       · rcases ih x q with q | q
         · exact .inl q
         · exact .inr (List.mem_cons_of_mem _ q)
 induction e with
 | nil=>exact List.pairwise_singleton _ _
 | cons y e ih =>
  obtain ⟨j,u⟩:=y
  have h1:∀ x ∈ e,x.1 < j:=fun x hx=>(List.pairwise_cons.1 h).1 x hx
  have h2:Srt e:=(List.pairwise_cons.1 h).2
  simp only [putE]
  split
  · rename_i hk
    refine List.pairwise_cons.2 ⟨fun x hx=>?_,h⟩
    rcases List.mem_cons.1 hx with rfl | q
    · exact hk
    · have:=h1 x q;simp only;omega
  · rename_i hk
    split
    · rename_i hj;subst hj;exact List.pairwise_cons.2 ⟨h1,h2⟩
    · rename_i hj
      refine List.pairwise_cons.2 ⟨fun x hx=>?_,ih h2⟩
      rcases mem e x hx with rfl | q
      · simp only;omega
      · exact h1 x q
theorem Srt.setDst {e:Env} (h:Srt e) (d:Option Nat) (v:AV):Srt (setD e d v):=by
 cases d with
 | none=>exact h
 | some d=>exact h.put d v
theorem argW_eq:∀ (l:List AV) (k:Nat) (acc:Env),argW k l acc=(argEnv k l).reverse++acc:=by
 intro l
 induction l with
 | nil=>intro k acc;rfl
 | cons v l ih=>intro k acc;simp [argW,argEnv,ih]
theorem srt_arg0:∀ (l:List AV) (k:Nat),(argEnv k l).Pairwise (fun a b=>a.1 < b.1)∧∀ x ∈ argEnv k l,k≤x.1:=by
 intro l
 induction l with
 | nil=>intro k;exact ⟨List.Pairwise.nil,fun x hx=>by simp [argEnv] at hx⟩
 | cons v l ih =>
  intro k
  obtain ⟨h1,h2⟩:=ih (k+1)
  refine ⟨List.pairwise_cons.2 ⟨fun x hx=>by have:=h2 x hx;simp only;omega,h1⟩,fun x hx=>?_⟩
  rcases List.mem_cons.1 hx with rfl | q
  · exact Nat.le_refl _
  · have:=h2 x q;omega
theorem srt_arg (l:List AV) (k:Nat):Srt (argW k l []):=by
 rw [argW_eq,List.append_nil]
 exact List.pairwise_reverse.2 (srt_arg0 l k).1
theorem Srt.get {e:Env} (h:Srt e) {k:Nat} {v:AV} (hm:(k,v) ∈ e):Pav.get e k=some v:=by
 induction e with
 | nil=>cases hm
 | cons y e ih =>
  obtain ⟨j,u⟩:=y
  have h1:∀ x ∈ e,x.1 < j:=fun x hx=>(List.pairwise_cons.1 h).1 x hx
  simp only [Pav.get]
  rcases List.mem_cons.1 hm with q | q
  · cases q;simp
  · have:=h1 _ q
    simp only at this
    rw [if_neg (by omega)]
    exact ih (List.pairwise_cons.1 h).2 q
theorem dropLt_mem {k a:Nat}:∀ {l:List Nat},a ∈ dropLt k l→a ∈ l:=by
 intro l
 induction l with
 | nil=>intro h;exact h
 | cons b l ih =>
  intro h
  simp only [dropLt] at h
  split at h
  · exact List.mem_cons_of_mem _ (ih h)
  · exact h
theorem keepL_sub:∀ (e:Env) (live:List Nat),(keepL live e).Sublist e∧∀ x ∈ keepL live e,x.1 ∈ live:=by
 intro e
 induction e with
 | nil=>intro live;simp [keepL_nil]
 | cons y e ih =>
  obtain ⟨j,u⟩:=y
  intro live
  simp only [keepL_cons]
  have hsub:∀ a ∈ dropLt j live,a ∈ live:=fun a ha=>dropLt_mem ha
  cases hd:dropLt j live with
  | nil=>simp [keepN]
  | cons a l =>
   rw [hd] at hsub
   simp only [keepN]
   split
   · rename_i ha
     obtain ⟨h1,h2⟩:=ih l
     refine ⟨h1.cons_cons _,fun x hx=>?_⟩
     rcases List.mem_cons.1 hx with rfl | q
     · simp only;subst ha;exact hsub _ (by simp)
     · exact hsub _ (List.mem_cons_of_mem _ (h2 x q))
   · obtain ⟨h1,h2⟩:=ih (a::l)
     exact ⟨h1.cons _,fun x hx=>hsub _ (h2 x hx)⟩
structure Sim (ρ:Nat→Nat) (V A:Nat→Prop) (s:WSt) (s':St):Prop where
 srt:Srt s.env
 env:EW ρ V A s.env s'.env
 heap:HW ρ V A s.heap s'.heap
 lt:Lts ρ V A s.next s'.next
def Old (base:Nat) (ρ:Nat→Nat) (V A:Nat→Prop) (ρ':Nat→Nat) (V' A':Nat→Prop):Prop:=∀ b,b < base→(A b→A' b∧ρ' b=ρ b∧(V' b↔V b))∧(A' b→A b)
theorem Old.refl (base:Nat) (ρ:Nat→Nat) (V A:Nat→Prop):Old base ρ V A ρ V A:=fun _ _=>⟨fun h=>⟨h,rfl,Iff.rfl⟩,id⟩
theorem Old.trans {base:Nat} {ρ ρ1 ρ2:Nat→Nat} {V A V1 A1 V2 A2:Nat→Prop} (h:Old base ρ V A ρ1 V1 A1) (k:Old base ρ1 V1 A1 ρ2 V2 A2):Old base ρ V A ρ2 V2 A2:=fun b hb =>
 ⟨fun ha=>by
  obtain ⟨h1,h2,h3⟩:=(h b hb).1 ha
  obtain ⟨k1,k2,k3⟩:=(k b hb).1 h1
  exact ⟨k1,k2.trans h2,k3.trans h3⟩,fun ha=>(h b hb).2 ((k b hb).2 ha)⟩
section
variable {ρ:Nat→Nat} {V A:Nat→Prop} {n m:Nat} {h:WHeap} {h':Heap} {e e':Env}
theorem close_ok {base:Nat} {h:WHeap}:∀ (n:Nat) (w acc:List Nat),acc.Nodup→(∀ x ∈ acc,base≤x)→(close base h n w acc).Nodup∧∀ x ∈ close base h n w acc,base≤x:=by
 intro n
 induction n with
 | zero=>intro w acc h1 h2;exact ⟨h1,h2⟩
 | succ n ih =>
  intro w acc h1 h2
  cases w with
  | nil=>exact ⟨h1,h2⟩
  | cons b w =>
   simp only [close]
   split
   · exact ih w acc h1 h2
   · rename_i hb
     split
     · exact ih w acc h1 h2
     · rename_i hc
       refine ih _ _ ?_ ?_
       · have hc:b ∉ acc:=by simpa using hc
         rw [List.nodup_append]
         exact ⟨h1,by simp,fun x hx y hy=>by simp at hy;subst hy;rintro rfl;exact hc hx⟩
       · intro x hx
         rcases List.mem_append.1 hx with q | q
         · exact h2 x q
         · simp at q;subst q;omega
def pre (base:Nat) (L:List Nat) (b:Nat):Nat:=if b < base then b else L.getD (b - base) 0
theorem place_some:∀ {L:List Nat} {n b c:Nat},place n L b=some c→n≤c∧L[c - n]?=some b:=by
 intro L
 induction L with
 | nil=>intro n b c h;simp [place] at h
 | cons a L ih =>
  intro n b c h
  simp only [place] at h
  split at h
  · rename_i hb;cases h;subst hb;simp
  · obtain ⟨h1,h2⟩:=ih h
    refine ⟨by omega,?_⟩
    have:c - n=(c - (n+1))+1:=by omega
    rw [this];simpa using h2
theorem place_at:∀ {L:List Nat} {n i b:Nat},L.Nodup→L[i]?=some b→place n L b=some (n+i):=by
 intro L
 induction L with
 | nil=>intro n i b _ h;simp at h
 | cons a L ih =>
  intro n i b hd h
  cases i with
  | zero=>simp at h;subst h;simp [place]
  | succ i =>
   simp only [List.getElem?_cons_succ] at h
   simp only [List.nodup_cons] at hd
   simp only [place]
   rw [if_neg]
   · rw [ih hd.2 h];congr 1;omega
   · rintro rfl;exact hd.1 (List.mem_of_getElem? h)
theorem newNum_pre {base:Nat} {L:List Nat} {b c:Nat} (h:newNum base L b=some c):pre base L c=b∧(c < base↔b < base)∧(c < base→c=b)∧(c < base∨c < base+L.length):=by
 unfold newNum at h
 split at h
 · rename_i hb;cases h;exact ⟨by simp [pre,hb],Iff.rfl,fun _=>rfl,.inl hb⟩
 · rename_i hb
   obtain ⟨h1,h2⟩:=place_some h
   have hlt:=(List.getElem?_eq_some_iff.1 h2).1
   refine ⟨?_,⟨fun q=>by omega,fun q=>absurd q hb⟩,fun q=>by omega,.inr (by omega)⟩
   unfold pre
   rw [if_neg (by omega),List.getD_eq_getElem?_getD,h2];rfl
theorem ren_vw {ρ':Nat→Nat} {V' A':Nat→Prop} {π:Nat→Option Nat} (hπ:∀ b c,A b→π b=some c→A' c∧ρ' c=ρ b∧(V' c↔V b)) (v:AV) :
 ∀ (u v':AV),VW ρ V A v u→ren π v=some v'→VW ρ' V' A' v' u:=by
 refine AV.rec (motive_1:=fun v=>∀ (u v':AV),VW ρ V A v u→ren π v=some v'→VW ρ' V' A' v' u) (motive_2:=fun _=>True)
  (motive_3:=fun l=>∀ (l' r:List AV),Rel2 (VW ρ V A) l l'→renL π l=some r→Rel2 (VW ρ' V' A') r l') ?_ ?_ ?_ ?_ ?_ ?_ ?_ ?_ ?_ ?_ ?_ ?_ ?_ ?_ ?_ ?_ ?_ ?_ ?_ ?_ v
 · intro u v' _ h;simp only [ren,Option.some.injEq] at h;subst h;exact .undef _
 · intro b u v' hu h;simp only [ren,Option.some.injEq] at h;subst h;rw [hu.bool_inv];exact .bool _
 · intro b c u v' hu h;simp only [ren,Option.some.injEq] at h;subst h;rw [hu.int_inv];exact .int _ _
 · intro b u v' hu h;simp only [ren,Option.some.injEq] at h;subst h;rw [hu.str_inv];exact .str _
 · intro u v' hu h;simp only [ren,Option.some.injEq] at h;subst h;exact hu.isC rfl
 · intro u v' hu h;simp only [ren,Option.some.injEq] at h;subst h;exact hu.isC rfl
 · intro u v' hu h;simp only [ren,Option.some.injEq] at h;subst h;exact hu.isC rfl
 · intro u v' hu h;simp only [ren,Option.some.injEq] at h;subst h;exact hu.isC rfl
 · intro z es ex _ u v' hu h;simp only [ren,Option.some.injEq] at h;subst h;exact hu.isC rfl
 · intro z _ u v' hu h;simp only [ren,Option.some.injEq] at h;subst h;exact hu.isC rfl
 · intro b i o u v' hu h
   obtain ⟨rfl,hA,hV⟩:=hu.ptr_inv
   simp only [ren] at h
   obtain ⟨c,h1,rfl⟩:=om_some h
   obtain ⟨q1,q2,q3⟩:=hπ b c hA h1
   rw [← q2]
   exact .ptr c i o q1 (fun q=>hV (q3.1 q))
 · intro b z i len cap ex u v' hu h
   simp only [ren] at h
   obtain ⟨c,h1,rfl⟩:=om_some h
   rcases hu.sl_inv with ⟨hA,hV,ex',rfl,hx⟩ | ⟨hA,hV,rfl,rfl,rfl,hv⟩
   · obtain ⟨q1,q2,q3⟩:=hπ b c hA h1
     rw [← q2]
     exact .sl c z i len cap ex ex' q1 (fun q=>hV (q3.1 q)) hx
   · obtain ⟨q1,q2,q3⟩:=hπ b c hA h1
     exact .slv c z ex u q1 (q3.2 hV) hv
 · intro b u v' hu h
   obtain ⟨rfl,hA,hV⟩:=hu.map_inv
   simp only [ren] at h
   obtain ⟨c,h1,rfl⟩:=om_some h
   obtain ⟨q1,q2,q3⟩:=hπ b c hA h1
   rw [← q2]
   exact .map c q1 (fun q=>hV (q3.1 q))
 · intro f cs ih u v' hu h
   obtain ⟨cs',rfl,hr⟩:=hu.fn_inv
   simp only [ren] at h
   obtain ⟨r,h1,rfl⟩:=om_some h
   exact VW.mkfn (ih cs' r hr h1)
 · intro cs ih u v' hu h
   obtain ⟨cs',rfl,hr⟩:=hu.agg_inv
   simp only [ren] at h
   obtain ⟨r,h1,rfl⟩:=om_some h
   exact VW.mkagg (ih cs' r hr h1)
 · intro cs ih u v' hu h
   obtain ⟨cs',rfl,hr⟩:=hu.tup_inv
   simp only [ren] at h
   obtain ⟨r,h1,rfl⟩:=om_some h
   exact VW.mktup (ih cs' r hr h1)
 · trivial
 · intros;trivial
 · intro l' r hr h
   simp only [renL,Option.some.injEq] at h;subst h
   rw [hr.inv_nil];exact .nil
 · intro v l ih1 ih2 l' r hr h
   obtain ⟨u,t,rfl,h1,h2⟩:=hr.inv_cons
   simp only [renL] at h
   obtain ⟨v',h3,h⟩:=ob_some h
   obtain ⟨r',h4,rfl⟩:=om_some h
   exact .cons (ih1 u v' h1 h3) (ih2 t r' h2 h4)
theorem renL_vw {ρ':Nat→Nat} {V' A':Nat→Prop} {π:Nat→Option Nat} (hπ:∀ b c,A b→π b=some c→A' c∧ρ' c=ρ b∧(V' c↔V b)):∀ (l l' r:List AV),Rel2 (VW ρ V A) l l'→renL π l=some r→Rel2 (VW ρ' V' A') r l':=by
 intro l
 induction l with
 | nil=>intro l' r hr h;simp only [renL,Option.some.injEq] at h;subst h;rw [hr.inv_nil];exact .nil
 | cons v l ih =>
  intro l' r hr h
  obtain ⟨u,t,rfl,h1,h2⟩:=hr.inv_cons
  simp only [renL] at h
  obtain ⟨v',h3,h⟩:=ob_some h
  obtain ⟨r',h4,rfl⟩:=om_some h
  exact .cons (ren_vw hπ v u v' h1 h3) (ih t r' h2 h4)
theorem renEnv_ew {ρ':Nat→Nat} {V' A':Nat→Prop} {π:Nat→Option Nat} (_hπ:∀ b c,A b→π b=some c→A' c∧ρ' c=ρ b∧(V' c↔V b)):∀ (e:Env) (r:Env),renEnv π e=some r→∀ k v',get r k=some v'→∃ v,get e k=some v∧ren π v=some v':=by
 intro e
 induction e with
 | nil=>intro r h k v' hk;simp only [renEnv,Option.some.injEq] at h;subst h;simp [Pav.get] at hk
 | cons x e ih =>
  obtain ⟨j,v⟩:=x
  intro r h k v' hk
  simp only [renEnv] at h
  obtain ⟨w,h1,h⟩:=ob_some h
  obtain ⟨r',h2,rfl⟩:=om_some h
  simp only [Pav.get] at hk ⊢
  split at hk
  · rename_i hj;rw [if_pos hj];cases hk;exact ⟨v,rfl,h1⟩
  · rename_i hj;rw [if_neg hj];exact ih r' h2 k v' hk
theorem renEnv_keys {π:Nat→Option Nat}:∀ (e r:Env),renEnv π e=some r→r.map (·.1)=e.map (·.1):=by
 intro e
 induction e with
 | nil=>intro r h;simp only [renEnv,Option.some.injEq] at h;subst h;rfl
 | cons x e ih =>
  obtain ⟨j,v⟩:=x
  intro r h
  simp only [renEnv] at h
  obtain ⟨w,h1,h⟩:=ob_some h
  obtain ⟨r',h2,rfl⟩:=om_some h
  simp only [List.map_cons,ih r' h2]
theorem Srt.keys {e r:Env} (h:Srt e) (hk:r.map (·.1)=e.map (·.1)):Srt r:=by
 have h1:(e.map (·.1)).Pairwise (fun a b=>b < a):=List.pairwise_map.2 h
 rw [← hk] at h1
 exact List.pairwise_map.1 h1
theorem renOld_get {base:Nat} {π:Nat→Option Nat}:∀ (h r:WHeap),renOld base π h=some r→∀ k o',get r k=some o'→k < base∧∃ o,get h k=some o∧renObj π o=some o':=by
 intro h
 induction h with
 | nil=>intro r h k v' hk;simp only [renOld,Option.some.injEq] at h;subst h;simp [Pav.get] at hk
 | cons x h ih =>
  obtain ⟨j,v⟩:=x
  intro r h k o' hk
  simp only [renOld] at h
  split at h
  · rename_i hj
    obtain ⟨w,h1,h⟩:=ob_some h
    obtain ⟨r',h2,rfl⟩:=om_some h
    simp only [Pav.get] at hk ⊢
    split at hk
    · rename_i hjk;rw [if_pos hjk];cases hk;exact ⟨hjk ▸ hj,v,rfl,h1⟩
    · rename_i hjk;rw [if_neg hjk];exact ih r' h2 k o' hk
  · rename_i hj
    obtain ⟨q1,o,q2,q3⟩:=ih r h k o' hk
    refine ⟨q1,o,?_,q3⟩
    simp only [Pav.get]
    rw [if_neg (by omega)];exact q2
theorem renNew_get {π:Nat→Option Nat} {h:WHeap}:∀ (L:List Nat) (n:Nat) (r:WHeap),renNew π h n L=some r→∀ k o',get r k=some o'→∃ i b o,k=n+i∧L[i]?=some b∧get h b=some o∧renObj π o=some o':=by
 intro L
 induction L with
 | nil=>intro n r h k v' hk;simp only [renNew,Option.some.injEq] at h;subst h;simp [Pav.get] at hk
 | cons b L ih =>
  intro n r h k o' hk
  simp only [renNew] at h
  split at h
  · rename_i o ho
    obtain ⟨w,h1,h⟩:=ob_some h
    obtain ⟨r',h2,rfl⟩:=om_some h
    simp only [Pav.get] at hk
    split at hk
    · rename_i hjk;cases hk;exact ⟨0,b,o,by omega,by simp,ho,h1⟩
    · obtain ⟨i,b',o2,q1,q2,q3,q4⟩:=ih (n+1) r' h2 k o' hk
      exact ⟨i+1,b',o2,by omega,by simpa using q2,q3,q4⟩
  · obtain ⟨i,b',o2,q1,q2,q3,q4⟩:=ih (n+1) r h k o' hk
    exact ⟨i+1,b',o2,by omega,by simpa using q2,q3,q4⟩
theorem get_append {α:Type}:∀ (l r:List (Nat × α)) (k:Nat),get (l++r) k=match get l k with | some x=>some x | none=>get r k:=by
 intro l
 induction l with
 | nil=>intro r k;rfl
 | cons x l ih =>
  intro r k
  obtain ⟨j,v⟩:=x
  simp only [List.cons_append,Pav.get]
  split
  · rfl
  · exact ih r k
theorem mapO_ren {ρ':Nat→Nat} {V' A':Nat→Prop} {π:Nat→Option Nat} (hπ:∀ b c,A b→π b=some c→A' c∧ρ' c=ρ b∧(V' c↔V b)):∀ (es es' r:List (List AV)),Rel2 (Rel2 (VW ρ V A)) es es'→mapO (renL π) es=some r→Rel2 (Rel2 (VW ρ' V' A')) r es':=by
 intro es
 induction es with
 | nil=>intro l' r hr h;simp only [mapO,Option.some.injEq] at h;subst h;rw [hr.inv_nil];exact .nil
 | cons v l ih =>
  intro l' r hr h
  obtain ⟨u,t,rfl,h1,h2⟩:=hr.inv_cons
  simp only [mapO] at h
  obtain ⟨v',h3,h⟩:=ob_some h
  obtain ⟨r',h4,rfl⟩:=om_some h
  exact .cons (renL_vw hπ v u v' h1 h3) (ih t r' h2 h4)
theorem renObj_ow {ρ':Nat→Nat} {V' A':Nat→Prop} {π:Nat→Option Nat} (hπ:∀ b c,A b→π b=some c→A' c∧ρ' c=ρ b∧(V' c↔V b)) {o o2:WObj} {o':AObj} (ho:OW ρ V A o o') (hr:renObj π o=some o2):OW ρ' V' A' o2 o':=by
 cases o with
 | cells z es mu dt =>
  obtain ⟨es',mu',rfl,h2,h3,h4⟩:=ho
  simp only [renObj] at hr
  split at hr
  · rename_i hd
    cases hr
    exact ⟨es',mu',rfl,h2,h3.mono fun e e' he hee=>hee.mono fun x x' hx hxx=>hxx.isC (h4 hd e he x hx),h4⟩
  · rename_i hd
    obtain ⟨es2,h5,rfl⟩:=om_some hr
    exact ⟨es',mu',rfl,h2,mapO_ren hπ es es' es2 h3 h5,fun q=>absurd q hd⟩
 | map es =>
  simp only [renObj,Option.some.injEq] at hr;subst hr
  obtain ⟨es',rfl,h2⟩:=ho
  exact ⟨es',rfl,h2.mono fun x y _ hxy=>⟨hxy.1,hxy.2.data⟩⟩
 | iter s p =>
  simp only [renObj,Option.some.injEq] at hr;subst hr
  exact ho
theorem renumber_sim {base:Nat} {s s2:WSt} {s':St} (S:Sim ρ V A s s') {L:List Nat} (hL:L.Nodup) (hLb:∀ x ∈ L,base≤x) (hr:renumber base s L=some s2) :
 ∃ ρ' V' A',Sim ρ' V' A' s2 s'∧base≤s2.next∧Old base ρ V A ρ' V' A'∧(∀ b,A' b→¬ V' b→∃ c,A c∧¬ V c∧ρ' b=ρ c∧(base≤b→base≤c)):=by
 unfold renumber at hr
 obtain ⟨e,h1,hr⟩:=ob_some hr
 obtain ⟨h1',h2,hr⟩:=ob_some hr
 obtain ⟨h2',h3,rfl⟩:=om_some hr
 let ρ':=fun c=>ρ (pre base L c)
 let A':=fun c=>∃ b,A b∧newNum base L b=some c
 let V':=fun c=>V (pre base L c)∧A' c
 have hπ:∀ b c,A b→newNum base L b=some c→A' c∧ρ' c=ρ b∧(V' c↔V b):=by
  intro b c hb hc
  have:=(newNum_pre hc).1
  exact ⟨⟨b,hb,hc⟩,by show ρ (pre base L c)=ρ b;rw [this],by show V (pre base L c)∧A' c↔V b;rw [this];exact ⟨fun q=>q.1,fun q=>⟨q,b,hb,hc⟩⟩⟩
 have hgetH:∀ c o2,get (h1'++h2') c=some o2→∃ b o,newNum base L b=some c∧get s.heap b=some o∧renObj (newNum base L) o=some o2:=by
  intro c o2 hc
  rw [get_append] at hc
  split at hc
  · rename_i x hx
    cases hc
    obtain ⟨q1,o,q2,q3⟩:=renOld_get _ _ h2 c o2 hx
    exact ⟨c,o,by simp [newNum,q1],q2,q3⟩
  · obtain ⟨i,b,o,rfl,q2,q3,q4⟩:=renNew_get _ _ _ h3 c o2 hc
    refine ⟨b,o,?_,q3,q4⟩
    unfold newNum
    rw [if_neg (by have:=hLb b (List.mem_of_getElem? q2);omega)]
    exact place_at hL q2
 refine ⟨ρ',V',A',⟨S.srt.keys (renEnv_keys _ _ h1),?_,?_,?_⟩,Nat.le_add_right _ _,?_,?_⟩
 · intro k v' hk
   obtain ⟨v,q1,q2⟩:=renEnv_ew (ρ':=ρ') (V':=V') (A':=A') hπ _ _ h1 k v' hk
   obtain ⟨u,q3,q4⟩:=S.env k v q1
   exact ⟨u,q3,ren_vw hπ v u v' q4 q2⟩
 · refine ⟨fun c o hc=>?_,fun c o hc hv=>?_,fun c o hc hv=>?_,?_,?_⟩
   · obtain ⟨b,o1,q1,q2,q3⟩:=hgetH c o hc
     exact ⟨b,S.heap.dom b o1 q2,q1⟩
   · obtain ⟨b,o1,q1,q2,q3⟩:=hgetH c o hc
     have hvb:V b:=((hπ b c (S.heap.dom b o1 q2) q1).2.2).1 hv
     obtain ⟨z,mu,dt,rfl⟩:=S.heap.virt b o1 q2 hvb
     simp only [renObj,mapO,om] at q3
     split at q3 <;> cases q3 <;> exact ⟨_,_,_,rfl⟩
   · obtain ⟨b,o1,q1,q2,q3⟩:=hgetH c o hc
     obtain ⟨p1,p2,p3⟩:=hπ b c (S.heap.dom b o1 q2) q1
     obtain ⟨o',q4,q5⟩:=S.heap.obj b o1 q2 (fun q=>hv (p3.2 q))
     exact ⟨o',by rw [p2];exact q4,renObj_ow hπ q5 q3⟩
   · exact fun c hc=>hc.2
   · rintro c d ⟨b,hb,hbc⟩ ⟨a,ha,had⟩ vc vd hcd
     obtain ⟨_,p2,p3⟩:=hπ b c hb hbc
     obtain ⟨_,r2,r3⟩:=hπ a d ha had
     rw [p2,r2] at hcd
     have:=S.heap.inj b a hb ha (fun q=>vc (p3.2 q)) (fun q=>vd (r3.2 q)) hcd
     subst this
     rw [hbc] at had;cases had;rfl
 · refine ⟨?_,?_⟩
   · rintro c ⟨b,hb,hbc⟩
     rcases (newNum_pre hbc).2.2.2 with q | q
     · exact Nat.lt_of_lt_of_le q (Nat.le_add_right _ _)
     · exact q
   · rintro c ⟨b,hb,hbc⟩ hv
     obtain ⟨_,p2,p3⟩:=hπ b c hb hbc
     rw [p2]
     exact S.lt.p b hb (fun q=>hv (p3.2 q))
 · intro b hb
   have hnb:newNum base L b=some b:=by simp [newNum,hb]
   refine ⟨fun ha=>hπ b b ha hnb,?_⟩
   rintro ⟨c,hc,hcb⟩
   have:=(newNum_pre hcb).2.2.1 hb
   rw [this];exact hc
 · rintro c ⟨b,hb,hbc⟩ hv
   obtain ⟨_,p2,p3⟩:=hπ b c hb hbc
   exact ⟨b,hb,fun q=>hv (p3.2 q),p2,fun q=>by have:=(newNum_pre hbc).2.1;omega⟩
theorem grow_sim {base:Nat}:∀ (g:List (Nat × Nat)) (s:WSt) (s':St) (ρ:Nat→Nat) (V A:Nat→Prop),Sim ρ V A s s'→base≤s.next →
 ∃ V' A',Sim ρ V' A' (growAll g s) s'∧base≤(growAll g s).next∧Old base ρ V A ρ V' A'∧∀ b,A' b→¬ V' b→A b∧¬ V b:=by
 intro g
 induction g with
 | nil=>intro s s' ρ V A S hb;exact ⟨V,A,S,hb,Old.refl base ρ V A,fun b h1 h2=>⟨h1,h2⟩⟩
 | cons x g ih =>
  intro s s' ρ V A S hb
  obtain ⟨k,z⟩:=x
  simp only [growAll]
  split
  · rename_i v hk
    have key:∃ V' A',Sim ρ V' A' (growOne s k z v) s'∧base≤(growOne s k z v).next∧Old base ρ V A ρ V' A'∧∀ b,A' b→¬ V' b→A b∧¬ V b:=by
     unfold growOne
     split
     · rename_i z'
       split
       · rename_i hz
         subst hz
         obtain ⟨v',h1,h2⟩:=S.env k _ hk
         have hn:¬ A s.next:=fun q=>Nat.lt_irrefl _ (S.lt.w _ q)
         have hu:∀ b,A b→addN A s.next b∧ρ b=ρ b∧((V b∨b=s.next)↔V b):=fun b hb=>⟨.inl hb,rfl,⟨fun q=>q.elim id fun e=>absurd (e ▸ hb) hn,.inl⟩⟩
         have hv':v'=.nils∨v'=.ro z' [] true:=by
          rcases h2.ro_inv with ⟨_,rfl⟩ | ⟨es',ex',rfl,hx,hr,_⟩
          · exact .inl rfl
          · rw [hr.inv_nil,hx rfl];exact .inr rfl
         refine ⟨fun b=>V b∨b=s.next,addN A s.next,⟨S.srt.put _ _,?_,?_,?_⟩,by simp only;omega,?_,?_⟩
         · intro j u hj
           simp only at hj
           rw [get_putE] at hj
           split at hj
           · rename_i hkj
             cases hj;subst hkj
             exact ⟨v',h1,.slv _ _ _ _ (.inr rfl) (.inr rfl) hv'⟩
           · exact (S.env.mono hu) j u hj
         · have H:=S.heap
           refine ⟨fun b o hb=>?_,fun b o hb hv=>?_,fun b o hb hv=>?_,?_,?_⟩
           · rw [get_put] at hb
             split at hb
             · rename_i q;exact .inr q.symm
             · exact .inl (H.dom b o hb)
           · rw [get_put] at hb
             split at hb
             · cases hb;exact ⟨_,_,_,rfl⟩
             · rename_i q
               rcases hv with hv | hv
               · exact H.virt b o hb hv
               · exact absurd hv.symm q
           · rw [get_put] at hb
             split at hb
             · rename_i q;exact absurd (.inr q.symm) hv
             · obtain ⟨o',q1,q2⟩:=H.obj b o hb (fun q=>hv (.inl q))
               exact ⟨o',q1,q2.mono hu⟩
           · rintro b (hb | hb)
             · exact .inl (H.sub b hb)
             · exact .inr hb
           · rintro b c (hb | hb) (hc | hc) vb vc hbc
             · exact H.inj b c hb hc (fun q=>vb (.inl q)) (fun q=>vc (.inl q)) hbc
             · exact absurd (.inr hc) vc
             · exact absurd (.inr hb) vb
             · exact absurd (.inr hb) vb
         · refine ⟨?_,?_⟩
           · rintro b (hb | rfl)
             · exact Nat.lt_succ_of_lt (S.lt.w b hb)
             · exact Nat.lt_succ_self _
           · rintro b (hb | rfl) hv
             · exact S.lt.p b hb (fun q=>hv (.inl q))
             · exact absurd (.inr rfl) hv
         · intro b hbb
           exact ⟨hu b,fun q=>q.elim id fun e=>by omega⟩
         · rintro b (hb | rfl) hv
           · exact ⟨hb,fun q=>hv (.inl q)⟩
           · exact absurd (.inr rfl) hv
       · exact ⟨V,A,S,hb,Old.refl base ρ V A,fun b h1 h2=>⟨h1,h2⟩⟩
     · exact ⟨V,A,S,hb,Old.refl base ρ V A,fun b h1 h2=>⟨h1,h2⟩⟩
    obtain ⟨V1,A1,S1,b1,o1,n1⟩:=key
    obtain ⟨V2,A2,S2,b2,o2,n2⟩:=ih _ s' ρ V1 A1 S1 b1
    exact ⟨V2,A2,S2,b2,o1.trans o2,fun b q1 q2=>by obtain ⟨q3,q4⟩:=n2 b q1 q2;exact n1 b q3 q4⟩
  · exact ih s s' ρ V A S hb
theorem testBit_bitsOf (k:Nat):∀ l:List Nat,(bitsOf l).testBit k=l.contains k:=by
 intro l
 induction l with
 | nil=>simp [bitsOf]
 | cons a l ih =>
  simp only [bitsOf,Nat.testBit_or,ih,Nat.testBit_two_pow,List.contains_cons]
  congr 1
  by_cases h:a=k
  · subst h;simp
  · have:(k == a)=false:=by simpa using Ne.symm h
    rw [this];simpa using h
theorem canon_sim {base:Nat} {a:Ann} {s s2:WSt} {s':St} (S:Sim ρ V A s s') (hb:base≤s.next) (hc:canon base a s=some s2) {s1:St} (hs1:s1=s'∨s1=dropEnv (maskOf a) s') :
 ∃ ρ' V' A',Sim ρ' V' A' s2 s1∧base≤s2.next∧Old base ρ V A ρ' V' A'∧∀ b,A' b→¬ V' b→∃ c,A c∧¬ V c∧ρ' b=ρ c∧(base≤b→base≤c):=by
 cases hcn:a.cn with
 | false =>
  have e1:maskOf a=0:=by simp only [maskOf,hcn]
  simp only [canon,hcn,Option.some.injEq] at hc
  subst hc
  have e2:s1=s':=by
   rcases hs1 with h | h
   · exact h
   · rw [h,e1];rfl
  subst e2
  exact ⟨ρ,V,A,S,hb,Old.refl base ρ V A,fun b h1 h2=>⟨b,h1,h2,rfl,id⟩⟩
 | true =>
 have S0:Sim ρ V A ⟨keepL a.live s.env,s.heap,s.next⟩ s1:=by
  have ek:∀ k v,get (keepL a.live s.env) k=some v→get s.env k=some v∧a.live.contains k=true:=by
   intro k v hk
   obtain ⟨q1,q2⟩:=keepL_sub s.env a.live
   have hm:=get_mem hk
   exact ⟨S.srt.get (q1.subset hm),by simpa using q2 _ hm⟩
  have ks:Srt (keepL a.live s.env):=S.srt.sublist (keepL_sub s.env a.live).1
  rcases hs1 with rfl | rfl
  · exact ⟨ks,fun k v hk=>S.env k v (ek k v hk).1,S.heap,S.lt⟩
  · refine ⟨ks,fun k v hk=>?_,S.heap,S.lt⟩
    obtain ⟨h1,h2⟩:=ek k v hk
    obtain ⟨v',h3,h4⟩:=S.env k v h1
    refine ⟨v',?_,h4⟩
    simp only [dropEnv,maskOf,hcn]
    split
    · exact h3
    · rw [get_keep,testBit_bitsOf,h2,if_pos rfl];exact h3
 obtain ⟨V1,A1,S1,b1,o1,n1⟩:=grow_sim (base:=base) a.grow _ s1 ρ V A S0 hb
 simp only [canon,hcn] at hc
 cases hnr:noRen a.grow with
 | true =>
  rw [hnr] at hc
  simp only [Option.some.injEq] at hc
  subst hc
  exact ⟨ρ,V1,A1,S1,b1,o1,fun b h1 h2=>by
   obtain ⟨c4,c5⟩:=n1 b h1 h2
   exact ⟨b,c4,c5,rfl,id⟩⟩
 | false =>
 rw [hnr] at hc
 simp only [canonG] at hc
 obtain ⟨q1,q2⟩:=close_ok (base:=base) (h:=(growAll a.grow ⟨keepL a.live s.env,s.heap,s.next⟩).heap) 1000 (envRefs (growAll a.grow ⟨keepL a.live s.env,s.heap,s.next⟩).env++oldRefs base (growAll a.grow ⟨keepL a.live s.env,s.heap,s.next⟩).heap) [] (by simp) (fun x hx=>by cases hx)
 obtain ⟨ρ',V',A',S2,b2,o2,n2⟩:=renumber_sim S1 q1 q2 hc
 exact ⟨ρ',V',A',S2,b2,o1.trans o2,fun b h1 h2=>by
  obtain ⟨c,c1,c2,c3⟩:=n2 b h1 h2
  obtain ⟨c4,c5⟩:=n1 c c1 c2
  exact ⟨c,c4,c5,c3⟩⟩
end
end Go.Pw
end
section
namespace Go.Pw
open Go Go.Pav
variable {ρ:Nat→Nat} {V A:Nat→Prop}
theorem markRow_vw {a b:List AV} (hl:a.length=b.length) (hr:∀ (j:Nat) (x x':AV),a[j]?=some x→b[j]?=some x'→VW ρ V A x x') (h:markRow a=true):markRow b=true:=by
 unfold markRow at h
 split at h
 · match b,hl with
   | [y],_ =>
    have:=hr 0 _ y rfl rfl
    cases this;rfl
 · cases h
theorem marks_vw {x u:AV} (h:VW ρ V A x u) (hx:marksOk x=true):marksOk u=true:=by
 cases h with
 | nils=>rfl
 | ronil=>rfl
 | ro z es es' ex ex' hc hl hxx he hr =>
  simp only [marksOk,Bool.and_eq_true,decide_eq_true_eq,List.all_eq_true] at hx ⊢
  refine ⟨hx.1,fun e' he'=>?_⟩
  obtain ⟨i,hi,rfl⟩:=List.mem_iff_getElem.1 he'
  have hi2:i < es.length:=by omega
  exact markRow_vw (he i _ _ (List.getElem?_eq_getElem hi2) (List.getElem?_eq_getElem hi)) (fun j x x' h1 h2=>hr i _ _ j x x' (List.getElem?_eq_getElem hi2) (List.getElem?_eq_getElem hi) h1 h2) (hx.2 _ (List.getElem_mem hi2))
 | _=>simp [marksOk] at hx
theorem rowKey_vw {a b:List AV} {k:Int} (hl:a.length=b.length) (hr:∀ (j:Nat) (x x':AV),a[j]?=some x→b[j]?=some x'→VW ρ V A x x') (h:rowKey a=some k):rowKey b=some k:=by
 unfold rowKey at h
 split at h
 · match b,hl with
   | [y0,y1,y2,y3,y4,y5],_ =>
    have h0:=hr 0 _ y0 rfl rfl
    have h1:=hr 1 _ y1 rfl rfl
    have h2:=hr 2 _ y2 rfl rfl
    have h3:=hr 3 _ y3 rfl rfl
    have h4:=hr 4 _ y4 rfl rfl
    have h5:=hr 5 _ y5 rfl rfl
    cases h0;cases h1;cases h2;cases h4;cases h5
    split at h
    · rename_i hm
      simp only [rowKey,marks_vw h3 hm,if_true]
      exact h
    · cases h
 · cases h
theorem mapO_vw:∀ {es es':List (List AV)} {l:List Int},es.length=es'.length→(∀ (i:Nat) (e e':List AV),es[i]?=some e→es'[i]?=some e'→e.length=e'.length) →
 (∀ (i:Nat) (e e':List AV) (j:Nat) (x x':AV),es[i]?=some e→es'[i]?=some e'→e[j]?=some x→e'[j]?=some x'→VW ρ V A x x')→mapO rowKey es=some l→mapO rowKey es'=some l
 | [],[],_,_,_,_,h=>h
 | a::es,b::es',l,hl,he,hr,h=>by
  simp only [mapO] at h ⊢
  obtain ⟨k,h1,h⟩:=ob_some h
  obtain ⟨r,h2,h⟩:=om_some h
  rw [rowKey_vw (he 0 a b rfl rfl) (fun j x x'=>hr 0 a b j x x' rfl rfl) h1,ob,mapO_vw (by simpa using hl) (fun i e e' h1 h2=>he (i+1) e e' (by simpa using h1) (by simpa using h2)) (fun i e e' j x x' h1 h2=>hr (i+1) e e' j x x' (by simpa using h1) (by simpa using h2)) h2,om,h]
 | [],_::_,_,hl,_,_,_=>by simp at hl
 | _::_,[],_,hl,_,_,_=>by simp at hl
theorem aftKeys_vw {x u:AV} {l:List Int} (h:VW ρ V A x u) (hx:aftKeys x=some l):aftKeys u=some l:=by
 cases h with
 | agg cs cs' hl hr =>
  unfold aftKeys at hx
  split at hx
  · rename_i e;cases e
    match cs',hl with
    | [y],_ =>
     have:=hr 0 _ y rfl rfl
     cases this;exact hx
  · rename_i z es ex e;cases e
    match cs',hl with
    | [y],_ =>
     have:=hr 0 _ y rfl rfl
     split at hx
     · rename_i hz
       cases this with
       | ronil=>simpa [aftKeys,mapO] using hx
       | ro z es es' ex ex' hc hl2 hxx he2 hr2 =>
        simp only [aftKeys]
        rw [if_pos ⟨hz.1,by omega⟩]
        exact mapO_vw hl2 he2 hr2 hx
     · cases hx
  · cases hx
 | _=>simp [aftKeys] at hx
theorem primAfter_vw {a b:List AV} (hl:a.length=b.length) (hr:∀ (j:Nat) (x x':AV),a[j]?=some x→b[j]?=some x'→VW ρ V A x x') {v:AV} (h:primAfter a=some v):primAfter b=some v∧VW ρ V A v v:=by
 unfold primAfter at h
 split at h
 · match b,hl with
   | [y0,y1,y2],_ =>
    have h0:=hr 0 _ y0 rfl rfl
    have h1:=hr 1 _ y1 rfl rfl
    have h2:=hr 2 _ y2 rfl rfl
    obtain ⟨kb,q1,h⟩:=ob_some h
    obtain ⟨kn,q2,h⟩:=om_some h
    subst h
    cases h2 with
    | agg cs cs' hl2 hr2 =>
     match cs',hl2 with
     | [z0,z1],_ =>
      have g0:=hr2 0 _ z0 rfl rfl
      have g1:=hr2 1 _ z1 rfl rfl
      cases g0;cases g1
      refine ⟨by simp only [primAfter,aftKeys_vw h0 q1,aftKeys_vw h1 q2,ob,om],.agg _ _ rfl fun j x x' e1 e2=>?_⟩
      match j with
      | 0=>cases e1;cases e2;exact .int _ _
      | 1=>cases e1;cases e2;exact .int _ _
      | j+2=>simp at e1
 · cases h
mutual
theorem same_vw:∀ {a b u:AV} {A:Nat→Prop},VW ρ V A a u→same a b=true→same u b=true
 | .nilp,b,u,A,hv,h=>by cases hv;exact h
 | .bool _,b,u,A,hv,h=>by cases hv;exact h
 | .int _ _,b,u,A,hv,h=>by cases hv;exact h
 | .rop cs,.rop bs,u,A,hv,h=>by
  cases hv with
  | rop _ cs' hl hr =>
   simp only [same] at h ⊢
   exact sameL_vw hl hr h
 | .agg cs,.agg bs,u,A,hv,h=>by
  cases hv with
  | agg _ cs' hl hr =>
   simp only [same] at h ⊢
   exact sameL_vw hl hr h
 | .fn f cs,.fn g bs,u,A,hv,h=>by
  cases hv with
  | fn _ _ cs' hl hr =>
   simp only [same,Bool.and_eq_true] at h ⊢
   exact ⟨h.1,sameL_vw hl hr h.2⟩
 | .ro z es ex,.ro z' bs ex',u,A,hv,h=>by
  simp only [same,Bool.and_eq_true] at h
  cases hv with
  | ronil=>simp at h
  | ro _ _ es' _ ex2 hc hl hx he hr =>
   simp only [same,Bool.and_eq_true]
   refine ⟨h.1,hx h.2.1,h.2.2.1,?_,sameR_vw hl he hr h.2.2.2.2⟩
   cases es' with
   | nil =>
    obtain rfl:es=[]:=List.length_eq_zero_iff.1 hl
    simp at h
   | cons _ _=>rfl
 | .rop _,.undef,_,_,_,h | .rop _,.bool _,_,_,_,h | .rop _,.int _ _,_,_,_,h | .rop _,.str _,_,_,_,h | .rop _,.nilp,_,_,_,h | .rop _,.nils,_,_,_,h | .rop _,.nilm,_,_,_,h | .rop _,.nilf,_,_,_,h | .rop _,.ro _ _ _,_,_,_,h | .rop _,.ptr _ _ _,_,_,_,h | .rop _,.sl _ _ _ _ _ _,_,_,_,h | .rop _,.map _,_,_,_,h | .rop _,.fn _ _,_,_,_,h | .rop _,.agg _,_,_,_,h | .rop _,.tup _,_,_,_,h=>by simp [same] at h
 | .agg _,.undef,_,_,_,h | .agg _,.bool _,_,_,_,h | .agg _,.int _ _,_,_,_,h | .agg _,.str _,_,_,_,h | .agg _,.nilp,_,_,_,h | .agg _,.nils,_,_,_,h | .agg _,.nilm,_,_,_,h | .agg _,.nilf,_,_,_,h | .agg _,.ro _ _ _,_,_,_,h | .agg _,.ptr _ _ _,_,_,_,h | .agg _,.sl _ _ _ _ _ _,_,_,_,h | .agg _,.map _,_,_,_,h | .agg _,.fn _ _,_,_,_,h | .agg _,.rop _,_,_,_,h | .agg _,.tup _,_,_,_,h=>by simp [same] at h
 | .fn _ _,.undef,_,_,_,h | .fn _ _,.bool _,_,_,_,h | .fn _ _,.int _ _,_,_,_,h | .fn _ _,.str _,_,_,_,h | .fn _ _,.nilp,_,_,_,h | .fn _ _,.nils,_,_,_,h | .fn _ _,.nilm,_,_,_,h | .fn _ _,.nilf,_,_,_,h | .fn _ _,.ro _ _ _,_,_,_,h | .fn _ _,.ptr _ _ _,_,_,_,h | .fn _ _,.sl _ _ _ _ _ _,_,_,_,h | .fn _ _,.map _,_,_,_,h | .fn _ _,.agg _,_,_,_,h | .fn _ _,.rop _,_,_,_,h | .fn _ _,.tup _,_,_,_,h=>by simp [same] at h
 | .ro _ _ _,.undef,_,_,_,h | .ro _ _ _,.bool _,_,_,_,h | .ro _ _ _,.int _ _,_,_,_,h | .ro _ _ _,.str _,_,_,_,h | .ro _ _ _,.nilp,_,_,_,h | .ro _ _ _,.nils,_,_,_,h | .ro _ _ _,.nilm,_,_,_,h | .ro _ _ _,.nilf,_,_,_,h | .ro _ _ _,.fn _ _,_,_,_,h | .ro _ _ _,.ptr _ _ _,_,_,_,h | .ro _ _ _,.sl _ _ _ _ _ _,_,_,_,h | .ro _ _ _,.map _,_,_,_,h | .ro _ _ _,.agg _,_,_,_,h | .ro _ _ _,.rop _,_,_,_,h | .ro _ _ _,.tup _,_,_,_,h=>by simp [same] at h
 | .undef,b,_,_,_,h | .str _,b,_,_,_,h | .nils,b,_,_,_,h | .nilm,b,_,_,_,h | .nilf,b,_,_,_,h | .ptr _ _ _,b,_,_,_,h | .sl _ _ _ _ _ _,b,_,_,_,h | .map _,b,_,_,_,h | .tup _,b,_,_,_,h=>by cases b <;> simp [same] at h
theorem sameL_vw:∀ {a b u:List AV} {A:Nat→Prop},a.length=u.length→(∀ (j:Nat) (x x':AV),a[j]?=some x→u[j]?=some x'→VW ρ V A x x')→sameL a b=true→sameL u b=true
 | [],[],[],_,_,_,_=>rfl
 | x::a,y::b,z::u,A,hl,hr,h=>by
  simp only [sameL,Bool.and_eq_true] at h ⊢
  exact ⟨same_vw (hr 0 x z rfl rfl) h.1,sameL_vw (by simpa using hl) (fun j x x' h1 h2=>hr (j+1) x x' (by simpa using h1) (by simpa using h2)) h.2⟩
 | [],_::_,_,_,_,_,h=>by simp [sameL] at h
 | _::_,[],_,_,_,_,h=>by simp [sameL] at h
 | [],[],_::_,_,hl,_,_=>by simp at hl
 | _::_,_::_,[],_,hl,_,_=>by simp at hl
theorem sameR_vw:∀ {a b u:List (List AV)} {A:Nat→Prop},a.length=u.length→(∀ (i:Nat) (e e':List AV),a[i]?=some e→u[i]?=some e'→e.length=e'.length) →
 (∀ (i:Nat) (e e':List AV) (j:Nat) (x x':AV),a[i]?=some e→u[i]?=some e'→e[j]?=some x→e'[j]?=some x'→VW ρ V A x x')→sameR a b=true→sameR u b=true
 | [],[],[],_,_,_,_,_=>rfl
 | x::a,y::b,z::u,A,hl,he,hr,h=>by
  simp only [sameR,Bool.and_eq_true] at h ⊢
  exact ⟨sameL_vw (he 0 x z rfl rfl) (fun j p p' h1 h2=>hr 0 x z j p p' rfl rfl h1 h2) h.1,sameR_vw (by simpa using hl) (fun i e e' h1 h2=>he (i+1) e e' (by simpa using h1) (by simpa using h2)) (fun i e e' j x x' h1 h2=>hr (i+1) e e' j x x' (by simpa using h1) (by simpa using h2)) h.2⟩
 | [],_::_,_,_,_,_,_,h=>by simp [sameR] at h
 | _::_,[],_,_,_,_,_,h=>by simp [sameR] at h
 | [],[],_::_,_,hl,_,_,_=>by simp at hl
 | _::_,_::_,[],_,hl,_,_,_=>by simp at hl
end
theorem VW.aggs {l:List AV} (h:∀ x ∈ l,VW ρ V A x x):VW ρ V A (.agg l) (.agg l):=.agg _ _ rfl fun j x x' h1 h2=>by rw [h1] at h2;cases h2;exact h x (List.mem_of_getElem? h1)
theorem VW.tups {l:List AV} (h:∀ x ∈ l,VW ρ V A x x):VW ρ V A (.tup l) (.tup l):=.tup _ _ rfl fun j x x' h1 h2=>by rw [h1] at h2;cases h2;exact h x (List.mem_of_getElem? h1)
theorem VW.rops {l:List AV} (h:∀ x ∈ l,VW ρ V (fun _=>False) x x):VW ρ V A (.rop l) (.rop l):=.rop _ _ rfl fun j x x' h1 h2=>by rw [h1] at h2;cases h2;exact h x (List.mem_of_getElem? h1)
theorem VW.ros {z:Nat} {l:List (List AV)} {ex:Bool} (h:∀ e ∈ l,∀ x ∈ e,Pw.isC x=true∧VW ρ V (fun _=>False) x x):VW ρ V A (.ro z l ex) (.ro z l ex) :=
 .ro _ _ _ _ _ (fun e he x hx=>(h e he x hx).1) rfl id (fun i e e' h1 h2=>by rw [h1] at h2;cases h2;rfl)
  (fun i e e' j x x' h1 h2 h3 h4=>by rw [h1] at h2;cases h2;rw [h3] at h4;cases h4;exact (h e (List.mem_of_getElem? h1) x (List.mem_of_getElem? h3)).2)
theorem ints_vw {l:List Int}:∀ x ∈ l.map (AV.int .i64),isC x=true∧VW ρ V A x x:=by
 intro x hx
 obtain ⟨n,_,rfl⟩:=List.mem_map.1 hx
 exact ⟨rfl,.int _ _⟩
theorem leaf_vw (a b c d:Int):VW ρ V A (.rop [.nilp,.nilp,.int .i64 a,.int .i64 b,.int .i64 c,.int .i64 d]) (.rop [.nilp,.nilp,.int .i64 a,.int .i64 b,.int .i64 c,.int .i64 d]):=by
 refine .rops fun x hx=>?_
 simp only [List.mem_cons,List.not_mem_nil,or_false] at hx
 rcases hx with rfl | rfl | rfl | rfl | rfl | rfl
 · exact .nilp
 · exact .nilp
 all_goals exact .int _ _
theorem pRes_vw (k:Nat):VW ρ V A (pRes k) (pRes k):=by
 unfold pRes
 split
 · refine .ros fun e he=>?_
   simp only [List.mem_cons,List.not_mem_nil,or_false] at he
   rcases he with rfl | rfl
   · exact ints_vw (l:=[1])
   · exact ints_vw (l:=[2])
 · split
   · refine .tups fun x hx=>?_
     simp only [List.mem_cons,List.not_mem_nil,or_false] at hx
     rcases hx with rfl | rfl
     · refine .ros fun e he=>?_
       simp only [List.mem_cons,List.not_mem_nil,or_false] at he
       subst he
       exact ints_vw (l:=[7,-1])
     · exact .int _ _
   · refine .tups fun x hx=>?_
     simp only [List.mem_cons,List.not_mem_nil,or_false] at hx
     rcases hx with rfl | rfl
     · refine .aggs fun x hx=>?_
       simp only [List.mem_cons,List.not_mem_nil,or_false] at hx
       rcases hx with rfl | rfl
       · refine .rops fun x hx=>?_
         simp only [List.mem_cons,List.not_mem_nil,or_false] at hx
         rcases hx with rfl | rfl | rfl | rfl | rfl | rfl
         · exact leaf_vw _ _ _ _
         · exact leaf_vw _ _ _ _
         all_goals exact .int _ _
       · refine .ros fun e he=>?_
         simp only [List.mem_cons,List.not_mem_nil,or_false] at he
         subst he
         exact ints_vw (l:=[1,3])
     · exact .int _ _
theorem primArgs_len:∀ (n i:Nat) (e:Env),(primArgs n i e).length=n
 | 0,_,_=>rfl
 | n+1,i,e=>by simp only [primArgs,List.length_cons,primArgs_len n]
theorem primArgs_get:∀ (n i j:Nat) (e:Env),j < n→(primArgs n i e)[j]?=some ((get e (i+j)).getD .undef)
 | 0,_,_,_,h=>by omega
 | n+1,i,0,e,_=>rfl
 | n+1,i,j+1,e,h=>by
  simp only [primArgs,List.getElem?_cons_succ]
  rw [primArgs_get n (i+1) j e (by omega)]
  congr 3;omega
theorem prim_vw {e e':Env} (he:EW ρ V A e e') {k:Nat} {v:AV} (h:primF k (primArgs (primN k) 0 e)=some v):primF k (primArgs (primN k) 0 e')=some v∧VW ρ V A v v:=by
 unfold primF at h ⊢
 split at h
 · rename_i hk
   rw [if_pos hk]
   refine primAfter_vw (by rw [primArgs_len,primArgs_len]) (fun j x x' h1 h2=>?_) h
   have hj:j < primN k:=by have:=(List.getElem?_eq_some_iff.1 h1).1;rwa [primArgs_len] at this
   rw [primArgs_get _ _ _ _ hj] at h1 h2
   cases h1;cases h2
   cases hg:get e (0+j) with
   | none=>exact .undef _
   | some y =>
    obtain ⟨u,q1,q2⟩:=he _ _ hg
    rw [q1];exact q2
 · rename_i hk
   rw [if_neg hk]
   split at h
   · rename_i hs
     cases h
     have hh:=sameL_vw (ρ:=ρ) (V:=V) (A:=A) (a:=primArgs (primN k) 0 e) (u:=primArgs (primN k) 0 e') (by rw [primArgs_len,primArgs_len]) (fun j x x' h1 h2=>by
      have hj:j < primN k:=by have:=(List.getElem?_eq_some_iff.1 h1).1;rwa [primArgs_len] at this
      rw [primArgs_get _ _ _ _ hj] at h1 h2
      cases h1;cases h2
      cases hg:get e (0+j) with
      | none=>exact .undef _
      | some y =>
       obtain ⟨u,q1,q2⟩:=he _ _ hg
       rw [q1];exact q2) hs
     rw [if_pos hh]
     exact ⟨rfl,pRes_vw k⟩
   · cases h
end Go.Pw
end
section
namespace Go.Pw
open Go Go.Pav
def Hi (base m0:Nat) (ρ:Nat→Nat) (V A:Nat→Prop):Prop:=∀ b,A b→¬ V b→base≤b→m0≤ρ b
structure Res (base m0:Nat) (ρ:Nat→Nat) (V A:Nat→Prop) (s1:WSt) (s1':St) (ρ':Nat→Nat) (V' A':Nat→Prop):Prop where
 sim:Sim ρ' V' A' s1 s1'
 base_le:base≤s1.next
 old:Old base ρ V A ρ' V' A'
 hi:Hi base m0 ρ' V' A'
section
variable {C:WProg} {run:WRun} {run':Run} {base m0:Nat}
theorem Res.canon {ρ:Nat→Nat} {V A:Nat→Prop} {s1 s2:WSt} {s1' s2':St} {ρ':Nat→Nat} {V' A':Nat→Prop} (R:Res base m0 ρ V A s1 s1' ρ' V' A') {a:Ann} (hc:canon base a s1=some s2)
 (hs:s2'=s1'∨s2'=dropEnv (maskOf a) s1'):∃ ρ' V' A',Res base m0 ρ V A s2 s2' ρ' V' A':=by
 obtain ⟨ρ2,V2,A2,S2,b2,o2,n2⟩:=canon_sim R.sim R.base_le hc hs
 refine ⟨ρ2,V2,A2,S2,b2,R.old.trans o2,fun b h1 h2 h3=>?_⟩
 obtain ⟨c,c1,c2,c3,c4⟩:=n2 b h1 h2
 rw [c3]
 exact R.hi c c1 c2 (c4 h3)
theorem Res.frz {ρ:Nat→Nat} {V A:Nat→Prop} {k:Nat} {s1 s2:WSt} {s1':St} {ρ':Nat→Nat} {V' A':Nat→Prop} (R:Res base m0 ρ V A s1 s1' ρ' V' A') (hc:frzSlotW k s1=some s2) :
 ∃ s2',frzSlot k s1'=some s2'∧s2'.next=s1'.next∧Res base m0 ρ V A s2 s2' ρ' V' A':=by
 obtain ⟨v,hv,hc⟩:=ob_some hc
 obtain ⟨x,hx,rfl⟩:=om_some hc
 obtain ⟨u,hu,hr⟩:=R.sim.env k v hv
 obtain ⟨y,hy,hd⟩:=frz_vw R.sim.heap _ _ _ _ hr hx
 have hm:=marks_ok R.sim.heap (reachW s1.heap frzDepth v) (reach s1'.heap frzDepth u) (fun b' hb'=>reach_vw R.sim.heap _ _ _ _ hr hx b' hb')
 refine ⟨⟨setDst s1'.env (some k) y,applyUpd s1'.heap (markFrozen s1'.heap (reach s1'.heap frzDepth u)),s1'.next⟩,by simp only [frzSlot,hu,ob,hy,om],rfl,⟨?_,R.base_le,R.old,R.hi⟩⟩
 exact ⟨R.sim.srt.setDst (some k) x,R.sim.env.setDst (d:=some k) (hd.mono fun _ q=>q.elim),hm.1,R.sim.lt⟩
theorem Res.frzs {ρ:Nat→Nat} {V A:Nat→Prop} {ρ':Nat→Nat} {V' A':Nat→Prop}:∀ (l:List Nat) {s1 s2:WSt} {s1':St},Res base m0 ρ V A s1 s1' ρ' V' A'→frzSlotsW l s1=some s2 →
 ∃ s2',frzSlots l s1'=some s2'∧s2'.next=s1'.next∧Res base m0 ρ V A s2 s2' ρ' V' A'
 | [],s1,s2,s1',R,h=>by simp only [frzSlotsW,Option.some.injEq] at h;subst h;exact ⟨s1',rfl,rfl,R⟩
 | k::l,s1,s2,s1',R,h=>by
  simp only [frzSlotsW] at h
  obtain ⟨s3,h1,h2⟩:=ob_some h
  obtain ⟨s3',h3,e3,R3⟩:=R.frz h1
  obtain ⟨s2',h4,e4,R4⟩:=Res.frzs l R3 h2
  exact ⟨s2',by simp only [frzSlots,h3,ob];exact h4,e4.trans e3,R4⟩
theorem Keeps.old {ρ:Nat→Nat} {V A:Nat→Prop} {ρ':Nat→Nat} {V' A':Nat→Prop} (k:Keeps ρ V A ρ' V' A') (hn:∀ b,b < base→A' b→A b):Old base ρ V A ρ' V' A':=fun b hb=>⟨k b,hn b hb⟩
theorem ops_sim (hr:RunSim run run'):∀ (l:List COper) (s s1:WSt),(l.all fun o=>okOp o.op)=true→evOpsW C run l s=some s1→∀ (s':St) (ρ:Nat→Nat) (V A:Nat→Prop),Sim ρ V A s s'→base≤s.next→Hi base m0 ρ V A→m0≤s'.next →
 ∃ s1' ρ' V' A',evOps (erProg C) run' (l.map erOper) s'=some s1'∧Res base m0 ρ V A s1 s1' ρ' V' A'∧m0≤s1'.next:=by
 intro l
 induction l with
 | nil =>
  intro s s1 _ he s' ρ V A S hb hi hm
  simp only [evOpsW,Option.some.injEq] at he;subst he
  exact ⟨s',ρ,V,A,rfl,⟨S,hb,Old.refl base ρ V A,hi⟩,hm⟩
 | cons o l ih =>
  intro s s1 hok he s' ρ V A S hb hi hm
  simp only [List.all_cons,Bool.and_eq_true] at hok
  simp only [evOpsW] at he
  obtain ⟨d,h1,he⟩:=ob_some he
  have lt':Lts ρ V A (s.next+1) (s'.next+1):=⟨fun b hb=>Nat.lt_succ_of_lt (S.lt.w b hb),fun b hb hv=>Nat.lt_succ_of_lt (S.lt.p b hb hv)⟩
  obtain ⟨d',ρ1,V1,A1,h2,O⟩:=op_sim hr S.env S.heap lt' (nid:=s.next) (mid:=s'.next) (fun q=>Nat.lt_irrefl _ (S.lt.w _ q)) (Nat.lt_succ_self _) (fun b hb hv=>Nat.ne_of_lt (S.lt.p b hb hv)) (Nat.lt_succ_self _) hok.1 h1
  have S1:Sim ρ1 V1 A1 ⟨setD s.env o.dst d.v,d.h,d.n⟩ ⟨setDst s'.env o.dst d'.v,d'.h,d'.n⟩:=⟨S.srt.setDst _ _,(S.env.mono O.keeps).setDst O.v,O.h,O.lt⟩
  have hi1:Hi base m0 ρ1 V1 A1:=by
   intro b q1 q2 q3
   rcases O.newp b q1 q2 with ⟨q4,q5⟩ | q4 | q4
   · rw [q5];exact hi b q4 (fun q=>q2 ((O.keeps b q4).2.2.2 q)) q3
   · omega
   · omega
  have hb1:base≤d.n:=by have:=O.next;omega
  have hm1:m0≤d'.n:=by have:=O.nextp;omega
  obtain ⟨s1',ρ2,V2,A2,h3,R,h4⟩:=ih ⟨setD s.env o.dst d.v,d.h,d.n⟩ s1 hok.2 he _ ρ1 V1 A1 S1 hb1 hi1 hm1
  have o1:Old base ρ V A ρ1 V1 A1:=Keeps.old O.keeps fun b hbb hA=>by
   rcases O.new b hA with q | q | q
   · exact q
   · omega
   · omega
  refine ⟨s1',ρ2,V2,A2,?_,⟨R.sim,R.base_le,o1.trans R.old,R.hi⟩,h4⟩
  simp only [List.map_cons,evOps]
  have:(erOper o).dst=o.dst:=rfl
  rw [h2]
  simp only [ob,this]
  exact h3
def DidRel (ρ:Nat→Nat) (V A:Nat→Prop) (m1 m2:Nat) (d:WDid) (d':Did):Prop :=
 (d'.bar=true→d.bar=true∧d.wr=[])∧(∀ b ∈ d'.rd,∃ c ∈ d.rd,b=ρ c∧¬ V c∧A c)∧(∀ b ∈ d'.wr,(∃ c ∈ wrOf d,b=ρ c∧¬ V c∧A c)∨∃ k w,d.bar=true∧d.wr=k::w∧m1≤b∧b < m2∧∀ c,A c→¬ V c→ρ c=b→k≤c)
theorem DidRel.mono {ρ ρ':Nat→Nat} {V A V' A':Nat→Prop} {m1 m2 m2' mid:Nat} {d:WDid} {d':Did} (h:DidRel ρ V A m1 m2 d d') (k:Keeps ρ V A ρ' V' A') (hm:m2≤m2') (hmid:mid < m1)
 (hnew:∀ b,A' b→¬ V' b→(A b∧ρ' b=ρ b)∨ρ' b=mid∨m2≤ρ' b):DidRel ρ' V' A' m1 m2' d d':=by
 refine ⟨h.1,fun b hb=>?_,fun b hb=>?_⟩
 · obtain ⟨c,h1,h2,h3,h4⟩:=h.2.1 b hb
   obtain ⟨k1,k2,k3⟩:=k c h4
   exact ⟨c,h1,by rw [k2];exact h2,fun q=>h3 (k3.1 q),k1⟩
 · rcases h.2.2 b hb with ⟨c,h1,h2,h3,h4⟩ | ⟨j,w,h1,h2,h3,h4,h5⟩
   · obtain ⟨k1,k2,k3⟩:=k c h4
     exact .inl ⟨c,h1,by rw [k2];exact h2,fun q=>h3 (k3.1 q),k1⟩
   · refine .inr ⟨j,w,h1,h2,h3,by omega,fun c hA hV hc=>?_⟩
     rcases hnew c hA hV with ⟨q1,q2⟩ | q | q
     · exact h5 c q1 (fun q=>hV ((k c q1).2.2.2 q)) (by rw [← q2];exact hc)
     · omega
     · omega
theorem meets_vw {ρ:Nat→Nat} {V A:Nat→Prop} (inj:∀ b c,A b→A c→¬ V b→¬ V c→ρ b=ρ c→b=c) {a b:List Nat} {a' b':List Nat}
 (ha:∀ x ∈ a',∃ c ∈ a,x=ρ c∧¬ V c∧A c) (hb:∀ x ∈ b',∃ c ∈ b,x=ρ c∧¬ V c∧A c) (h:meets a' b'=true):meets a b=true:=by
 simp only [meets,List.any_eq_true,decide_eq_true_eq] at h ⊢
 obtain ⟨x,hx,y,hy,rfl⟩:=h
 obtain ⟨c,h1,h2,h3,h4⟩:=ha x hx
 obtain ⟨d,h5,h6,h7,h8⟩:=hb x hy
 have:=inj c d h4 h8 h3 h7 (h2.symm.trans h6)
 subst this
 exact ⟨c,h1,c,h5,rfl⟩
theorem clash_vw {ρ:Nat→Nat} {V A:Nat→Prop} (inj:∀ b c,A b→A c→¬ V b→¬ V c→ρ b=ρ c→b=c) {m1 m2:Nat} {a b:WDid} {a' b':Did} (ha:DidRel ρ V A m1 m2 a a') (hb:DidRel ρ V A m1 m2 b b') (h:clashW a b=false):clash a' b'=false:=by
 have nt:∀ {x y:Bool},(x=true→y=true)→y=false→x=false:=by
  intro x y q1 q2;cases x <;> simp_all
 have plain:∀ {d:WDid} {d':Did},DidRel ρ V A m1 m2 d d'→d.bar=false→d'.bar=false∧∀ b ∈ d'.wr,∃ c ∈ d.wr,b=ρ c∧¬ V c∧A c:=by
  intro d d' hd hq
  refine ⟨?_,fun b hb=>?_⟩
  · cases q:d'.bar with
    | false=>rfl
    | true=>rw [(hd.1 q).1] at hq;cases hq
  · rcases hd.2.2 b hb with ⟨c,q1,q2⟩ | ⟨_,_,q,_⟩
    · unfold wrOf at q1
      rw [hq] at q1
      exact ⟨c,q1,q2⟩
    · rw [hq] at q;cases q
 have deep:∀ {d e:WDid} {d' e':Did},DidRel ρ V A m1 m2 d d'→DidRel ρ V A m1 m2 e e'→d.bar=true→e.bar=false→hitL d.rd d.wr e.rd e.wr=false →
  d'.bar=false∧e'.bar=false∧meets d'.wr e'.wr=false∧meets d'.wr e'.rd=false∧meets d'.rd e'.wr=false:=by
  intro d e d' e' hd he hdb heb hh
  unfold hitL at hh
  cases hw:d.wr with
  | nil=>rw [hw] at hh;cases hh
  | cons k w =>
   rw [hw] at hh
   simp only [Bool.or_eq_false_iff] at hh
   obtain ⟨g1,g2,g3,g4⟩:=hh
   obtain ⟨p1,p2⟩:=plain he heb
   have g1':∀ c ∈ e.rd++e.wr,¬ k≤c:=by
    intro c hc q
    have:=List.any_eq_false.1 g1 c hc
    simp [q] at this
   have key:∀ (l l':List Nat),(∀ x ∈ l',∃ c ∈ l,x=ρ c∧¬ V c∧A c)→(∀ c ∈ l,¬ k≤c)→meets w l=false→meets d'.wr l'=false:=by
    intro l l' h1 h2 h3
    cases q:meets d'.wr l' with
    | false=>rfl
    | true =>
     exfalso
     simp only [meets,List.any_eq_true,decide_eq_true_eq] at q
     obtain ⟨x,hx,y,hy,rfl⟩:=q
     obtain ⟨c,c1,c2,c3,c4⟩:=h1 x hy
     rcases hd.2.2 x hx with ⟨c',q1,q2,q3,q4⟩ | ⟨k',w',q1,q2,q3,q4,q5⟩
     · unfold wrOf at q1
       rw [hdb,hw] at q1
       simp only [List.tail_cons] at q1
       have:=inj c c' c4 q4 c3 q3 (c2.symm.trans q2)
       subst this
       have:meets w l=true:=by
        simp only [meets,List.any_eq_true,decide_eq_true_eq]
        exact ⟨c,q1,c,c1,rfl⟩
       rw [h3] at this;cases this
     · rw [hw] at q2
       cases q2
       exact h2 c c1 (q5 c c4 c3 c2.symm)
   refine ⟨?_,p1,key _ _ p2 (fun c hc=>g1' c (by simp [hc])) g2,key _ _ he.2.1 (fun c hc=>g1' c (by simp [hc])) g3,?_⟩
   · cases q:d'.bar with
     | false=>rfl
     | true=>rw [(hd.1 q).2] at hw;cases hw
   · cases q:meets d'.rd e'.wr with
     | false=>rfl
     | true=>rw [meets_vw inj hd.2.1 p2 q] at g4;cases g4
 have msym:∀ a b:List Nat,meets a b=meets b a:=by
  intro a b
  cases q:meets a b with
  | true =>
   symm
   simp only [meets,List.any_eq_true,decide_eq_true_eq] at q ⊢
   obtain ⟨x,h1,y,h2,h3⟩:=q
   exact ⟨y,h2,x,h1,h3.symm⟩
  | false =>
   symm
   cases p:meets b a with
   | false=>rfl
   | true =>
    exfalso
    simp only [meets,List.any_eq_true,decide_eq_true_eq] at p
    obtain ⟨x,h1,y,h2,h3⟩:=p
    have:meets a b=true:=by
     simp only [meets,List.any_eq_true,decide_eq_true_eq]
     exact ⟨y,h2,x,h1,h3.symm⟩
    rw [q] at this;cases this
 have qt:∀ {d:WDid} {d':Did},DidRel ρ V A m1 m2 d d'→quietW d=true→quiet d'=true:=by
  intro d d' hd hq
  simp only [quietW,Bool.and_eq_true,Bool.not_eq_true',List.isEmpty_iff] at hq
  simp only [quiet,Bool.and_eq_true,Bool.not_eq_true',List.isEmpty_iff]
  refine ⟨(plain hd hq.1).1,?_,?_⟩
  · cases hw:d'.wr with
    | nil=>rfl
    | cons b r =>
     obtain ⟨c,h1,_⟩:=(plain hd hq.1).2 b (by rw [hw];exact List.mem_cons_self)
     rw [hq.2.1] at h1;cases h1
  · cases hw:d'.rd with
    | nil=>rfl
    | cons b r =>
     obtain ⟨c,h1,_⟩:=hd.2.1 b (by rw [hw];exact List.mem_cons_self)
     rw [hq.2.2] at h1;cases h1
 unfold clashW at h
 unfold clash
 cases qa:quietW a with
 | true=>rw [qt ha qa];simp
 | false =>
  cases qb:quietW b with
  | true=>rw [qt hb qb];simp
  | false =>
   rw [qa,qb] at h
   simp only [Bool.or_self,Bool.not_false,Bool.true_and] at h
   cases ab:a.bar with
   | true =>
    rw [ab,if_pos rfl,Bool.or_eq_false_iff] at h
    obtain ⟨d1,d2,d3,d4,d5⟩:=deep ha hb ab h.1 h.2
    rw [d1,d2,d3,d4,d5];simp
   | false =>
   cases bb:b.bar with
   | true =>
    rw [ab,bb,if_neg (by simp),if_pos rfl] at h
    obtain ⟨d1,d2,d3,d4,d5⟩:=deep hb ha bb ab h
    rw [d1,d2,msym,d3,msym a'.wr,d5,msym a'.rd,d4];simp
   | false =>
   rw [ab,bb,if_neg (by simp),if_neg (by simp)] at h
   simp only [Bool.or_eq_false_iff] at h
   obtain ⟨h3,h4,h5⟩:=h
   obtain ⟨h1,ha2⟩:=plain ha ab
   obtain ⟨h2,hb2⟩:=plain hb bb
   have e:(a'.bar||(b'.bar||(meets a'.wr b'.wr||(meets a'.wr b'.rd||meets a'.rd b'.wr))))=false:=by
    simp only [Bool.or_eq_false_iff]
    exact ⟨h1,h2,nt (meets_vw inj ha2 hb2) h3,nt (meets_vw inj ha2 hb.2.1) h4,nt (meets_vw inj ha.2.1 hb2) h5⟩
   rw [e,Bool.and_false]
theorem draw_sim (hr:RunSim run run'):∀ (l:List COper) (nid:Nat) (s s1:WSt) (ds ds1:List WDid),(l.all fun o=>okOp o.op)=true→evDrawW C run l nid s ds=some (s1,ds1) →
 ∀ (mid:Nat) (s':St) (ds':List Did) (ρ:Nat→Nat) (V A:Nat→Prop),Sim ρ V A s s'→base≤nid→nid+l.length≤s.next→(∀ b,A b→b < nid∨nid+l.length≤b)→Hi base m0 ρ V A→m0≤mid→mid+l.length≤s'.next →
  (∀ b,A b→¬ V b→ρ b < mid∨mid+l.length≤ρ b)→∀ R:Nat,mid+l.length≤R→R≤s'.next→Rel2 (DidRel ρ V A R s'.next) ds ds' →
 ∃ s1' ds1' ρ' V' A',evDraw (erProg C) run' (l.map erOper) mid s' ds'=some (s1',ds1')∧Res base m0 ρ V A s1 s1' ρ' V' A'∧m0≤s1'.next∧Rel2 (DidRel ρ' V' A' R s1'.next) ds1 ds1':=by
 intro l
 induction l with
 | nil =>
  intro nid s s1 ds ds1 _ he mid s' ds' ρ V A S hb hnl _ hi hm hml _ R hR1 hR2 hds
  simp only [evDrawW,Option.some.injEq,Prod.mk.injEq] at he
  obtain ⟨rfl,rfl⟩:=he
  simp only [List.length_nil] at hnl hml
  exact ⟨s',ds',ρ,V,A,rfl,⟨S,by omega,Old.refl base ρ V A,hi⟩,by omega,hds⟩
 | cons o l ih =>
  intro nid s s1 ds ds1 hok he mid s' ds' ρ V A S hb hnl hgap hi hm hml hgap' R hR1 hR2 hds
  simp only [List.all_cons,Bool.and_eq_true] at hok
  simp only [List.length_cons] at hnl hml hgap hgap' hR1
  simp only [evDrawW] at he
  obtain ⟨d,h1,he⟩:=ob_some he
  have hn:¬ A nid:=fun q=>by rcases hgap nid q with q | q <;> omega
  obtain ⟨d',ρ1,V1,A1,h2,O⟩:=op_sim hr S.env S.heap S.lt (nid:=nid) (mid:=mid) hn (by omega) (fun b hbb hv=>by rcases hgap' b hbb hv with q | q <;> omega) (by omega) hok.1 h1
  have S1:Sim ρ1 V1 A1 ⟨setD s.env o.dst d.v,d.h,d.n⟩ ⟨setDst s'.env o.dst d'.v,d'.h,d'.n⟩:=⟨S.srt.setDst _ _,(S.env.mono O.keeps).setDst O.v,O.h,O.lt⟩
  have hi1:Hi base m0 ρ1 V1 A1:=by
   intro b q1 q2 q3
   rcases O.newp b q1 q2 with ⟨q4,q5⟩ | q4 | q4
   · rw [q5];exact hi b q4 (fun q=>q2 ((O.keeps b q4).2.2.2 q)) q3
   · omega
   · omega
  have hds1:Rel2 (DidRel ρ1 V1 A1 R d'.n) (ds++[d]) (ds'++[d']):=(hds.mono fun x y _ hxy=>hxy.mono O.keeps O.nextp (by omega) O.newp).append (.cons ⟨O.bar,O.rd,fun b hb=>by
   rcases O.wr b hb with q | ⟨k,w,q1,q2,q3,q4,q5⟩
   · exact .inl q
   · exact .inr ⟨k,w,q1,q2,by omega,q4,q5⟩⟩ .nil)
  obtain ⟨s1',ds1',ρ2,V2,A2,h3,R,h4,h5⟩:=ih (nid+1) ⟨setD s.env o.dst d.v,d.h,d.n⟩ s1 (ds++[d]) ds1 hok.2 he (mid+1) _ (ds'++[d']) ρ1 V1 A1 S1 (by omega) (by have:=O.next;simp only;omega)
   (fun b hbb=>by
    rcases O.new b hbb with q | q | q
    · rcases hgap b q with q | q <;> omega
    · omega
    · omega) hi1 (by omega) (by have:=O.nextp;simp only;omega)
   (fun b hbb hv=>by
    rcases O.newp b hbb hv with ⟨q,q5⟩ | q | q
    · rw [q5];rcases hgap' b q (fun q6=>hv ((O.keeps b q).2.2.2 q6)) with q | q <;> omega
    · omega
    · omega) R (by omega) (by have:=O.nextp;simp only;omega) hds1
  have o1:Old base ρ V A ρ1 V1 A1:=Keeps.old O.keeps fun b hbb hA=>by
   rcases O.new b hA with q | q | q
   · exact q
   · omega
   · omega
  refine ⟨s1',ds1',ρ2,V2,A2,?_,⟨R.sim,R.base_le,o1.trans R.old,R.hi⟩,h4,h5⟩
  simp only [List.map_cons,evDraw]
  have:(erOper o).dst=o.dst:=rfl
  rw [h2]
  simp only [ob,this]
  exact h3
theorem apart_vw {ρ:Nat→Nat} {V A:Nat→Prop} (inj:∀ b c,A b→A c→¬ V b→¬ V c→ρ b=ρ c→b=c) {m1 m2:Nat} {ds:List WDid} {ds':List Did} (h:Rel2 (DidRel ρ V A m1 m2) ds ds') {p:Nat × Nat} (ha:apartW ds p=true):apart ds' p=true:=by
 unfold apartW at ha
 split at ha
 · rename_i a b h1 h2
   obtain ⟨a',h3,h4⟩:=h.get h1
   obtain ⟨b',h5,h6⟩:=h.get h2
   unfold apart
   rw [h3,h5]
   simp only [Bool.not_eq_true'] at ha ⊢
   exact clash_vw inj h4 h6 ha
 · cases ha
def CodeSim (C:WProg) (k:Nat):Prop :=
 ∀ (base:Nat) (c:WCode) (s:WSt) (ex:Ex) (s1:WSt),okC c=true→evW C k base c s=some (ex,s1)→∀ (m0:Nat) (s':St) (ρ:Nat→Nat) (V A:Nat→Prop),Sim ρ V A s s'→base≤s.next→Hi base m0 ρ V A→m0≤s'.next →
  ∃ s1' ρ' V' A',evC (erProg C) k (erC c) s'=some (ex,s1')∧Res base m0 ρ V A s1 s1' ρ' V' A'∧m0≤s1'.next
theorem erL_len:∀ l:List AV,(erL l).length=l.length
 | []=>rfl
 | _::r=>by simp only [erL,List.length_cons,erL_len r]
theorem cln_sim {j:Nat} {s:WSt} {s':St} {ρ:Nat→Nat} {V A:Nat→Prop} (S:Sim ρ V A s s') (hb:base≤s.next) (hi:Hi base m0 ρ V A) (hm:m0≤s'.next) {z b:Nat} {xe:Bool} {zz:List AV} {u:AV} (hu:get s'.env 0=some u) (hr:VW ρ V A (.ro z [] xe) u) (hl:zz.length=z) :
 ∃ s1' ρ' V' A',evC (erProg C) (j+8+1) (clnE zz b) s'=some (.ret,s1') ∧
  Res base m0 ρ V A ⟨[(2,.sl s.next z 0 0 0 true)],put s.heap s.next (.cells z [] true true),s.next+1⟩ s1' ρ' V' A'∧m0≤s1'.next:=by
 have hn:¬ A s.next:=fun q=>Nat.lt_irrefl _ (S.lt.w _ q)
 obtain ⟨e0,h0,m⟩:=s'
 simp only at hu hm
 have hmo:∀ b,A b→addN A s.next b∧ρ b=ρ b∧((V b∨b=s.next)↔V b):=fun b q=>⟨.inl q,rfl,⟨fun h=>h.elim id fun e=>absurd (e ▸ q) hn,.inl⟩⟩
 cases hr with
 | ronil =>
  refine ⟨⟨put (put (put (put e0 2 .nils) 3 .nils) 4 (.bool true)) 2 .nils,h0,m+4⟩,ρ,fun b=>V b∨b=s.next,addN A s.next,?_,⟨⟨by simp [Srt],?_,⟨?_,?_,?_,?_,?_⟩,⟨?_,?_⟩⟩,Nat.le_succ_of_le hb,?_,?_⟩,Nat.le_trans hm (Nat.le_add_right _ _)⟩
  · simp [clnE,evC,evOps,evOp,wants,evAct,callOf,stepOp,sMv,sEqv,eqVals,eqSl,Opd.ev,ob,om,get_put,setDst,hu,endOps,frzSlots,dropEnv,evSeq,evCond,applyUpd]
  · intro k v hk
    simp only [Pav.get] at hk
    split at hk
    · rename_i e;subst e;cases hk
      exact ⟨.nils,by simp [get_put],.slv _ _ _ _ (.inr rfl) (.inr rfl) (.inl rfl)⟩
    · cases hk
  · intro b o hbo
    rw [get_put] at hbo
    split at hbo
    · rename_i e;exact .inr e.symm
    · exact .inl (S.heap.dom b o hbo)
  · intro b o hbo hv
    rw [get_put] at hbo
    split at hbo
    · cases hbo;exact ⟨z,true,true,rfl⟩
    · rename_i e
      exact S.heap.virt b o hbo (hv.resolve_right fun q=>e q.symm)
  · intro b o hbo hv
    rw [get_put] at hbo
    split at hbo
    · rename_i e;exact absurd (.inr e.symm) hv
    · obtain ⟨o',h1,h2⟩:=S.heap.obj b o hbo (fun q=>hv (.inl q))
      exact ⟨o',h1,h2.mono hmo⟩
  · rintro b (q | q)
    · exact .inl (S.heap.sub b q)
    · exact .inr q
  · rintro b c hb hc vb vc
    exact S.heap.inj b c (hb.resolve_right fun q=>vb (.inr q)) (hc.resolve_right fun q=>vc (.inr q)) (fun q=>vb (.inl q)) (fun q=>vc (.inl q))
  · rintro b (q | q)
    · exact Nat.lt_succ_of_lt (S.lt.w b q)
    · subst q;exact Nat.lt_succ_self _
  · intro b q v
    have:=S.lt.p b (q.resolve_right fun e=>v (.inr e)) (fun e=>v (.inl e))
    simp only at this ⊢;omega
  · intro b hbb
    have hne:b≠s.next:=by omega
    exact ⟨fun q=>hmo b q,fun q=>q.resolve_right hne⟩
  · intro b q v hbb
    exact hi b (q.resolve_right fun e=>v (.inr e)) (fun e=>v (.inl e)) hbb
 | ro _ _ es' _ ex' hc hl2 hx he hr =>
  have:es'=[]:=List.length_eq_zero_iff.1 hl2.symm
  subst this
  have hne:∀ b,A b→¬ V b→ρ b≠m+3:=fun b q v e=>by have:=S.lt.p b q v;simp only at this;omega
  refine ⟨⟨put (put (put (put (put (put (put e0 2 .nils) 3 (.ro z [] ex')) 4 (.bool false)) 5 (.sl (m+3) z 0 0 0 true)) 6 (.ro z [] ex')) 7 (.sl (m+3) z 0 0 0 true)) 2 (.sl (m+3) z 0 0 0 true),put h0 (m+3) (.cells z [] true),m+7⟩,up ρ s.next (m+3),V,addN A s.next,?_,
   ⟨⟨by simp [Srt],?_,new_ok S.heap hn hne ⟨[],true,rfl,fun h=>h,.nil,fun _ e he=>by cases he⟩,⟨?_,?_⟩⟩,Nat.le_succ_of_le hb,?_,?_⟩,Nat.le_trans hm (Nat.le_add_right _ _)⟩
  · have hbf:b % 1125899906842624 < frzBytes:=Nat.mod_lt _ (by decide)
    simp [hbf,clnE,evC,evOps,evOp,wants,evAct,callOf,stepOp,sMv,sEqv,eqVals,eqSl,sBuildS,fillS,sApp,elems,evApp,updOne,Opd.ev,ob,om,get_put,setDst,hu,hl,endOps,frzSlots,dropEnv,evSeq,evCond,applyUpd]
  · intro k v hk
    simp only [Pav.get] at hk
    split at hk
    · rename_i e;subst e;cases hk
      refine ⟨.sl (m+3) z 0 0 0 true,by simp [get_put],?_⟩
      have:up ρ s.next (m+3) s.next=m+3:=by simp [up]
      have key:=VW.sl (ρ:=up ρ s.next (m+3)) (V:=V) (A:=addN A s.next) s.next z 0 0 0 true true (.inr rfl) (fun q=>hn (S.heap.sub _ q)) (fun h=>h)
      rw [this] at key
      exact key
    · cases hk
  · rintro b (q | q)
    · exact Nat.lt_succ_of_lt (S.lt.w b q)
    · subst q;exact Nat.lt_succ_self _
  · intro b q v
    unfold up
    split
    · simp
    · rename_i e
      have:=S.lt.p b (q.resolve_right e) v
      simp only at this ⊢;omega
  · intro b hbb
    have hne2:b≠s.next:=by omega
    exact ⟨fun q=>up_mono hn b q,fun q=>q.resolve_right hne2⟩
  · intro b q v hbb
    unfold up
    split
    · omega
    · rename_i e
      exact hi b (q.resolve_right e) v hbb
theorem lastOk_er (ap:COper) (post:List COper):lastOk (erOper ap) (post.map erOper)=lastOk ap post:=by
 have e:∀ o:COper,(erOper o).op.isMk=o.op.isMk:=fun o=>by
  obtain ⟨d,g,op⟩:=o
  cases op <;> rfl
 unfold lastOk
 rw [List.getLast?_map]
 cases post.getLast? with
 | none=>simp only [Option.map_none,e]
 | some o=>simp only [Option.map_some,e]
theorem plain_vw {ρ:Nat→Nat} {V A:Nat→Prop} {x x':AV} (h:VW ρ V A x x') (hp:plainV x=true):x'=x:=by
 cases h <;> first | rfl | (simp [plainV] at hp)
theorem isoVal_vw {ρ ρ':Nat→Nat} {V A V' A':Nat→Prop} {e e':Env} (h:EW ρ V A e e') (k:Nat):VW ρ' V' A' (isoVal e k) (isoVal e' k):=by
 unfold isoVal
 cases hg:get e k with
 | none=>exact .undef _
 | some v =>
  obtain ⟨v',hg',hv⟩:=h k v hg
  simp only [hg']
  by_cases hp:plainV v=true
  · have e1:=plain_vw hv hp
    subst e1
    rw [if_pos hp]
    cases v' <;> first | (simp [plainV] at hp;done) | constructor
  · rw [if_neg hp];exact .undef _
theorem isoEnv_vw {ρ ρ':Nat→Nat} {V A V' A':Nat→Prop} {e2 e2':Env} (h:EW ρ V A e2 e2'):∀ (L:List Nat) {e e':Env},EW ρ' V' A' e e'→EW ρ' V' A' (isoEnvW e2 L e) (isoEnv e2' L e')
 | [],_,_,he=>he
 | k::r,_,_,he=>isoEnv_vw h r (he.put (isoVal_vw h k))
theorem isoEnv_srt (e2:Env):∀ (L:List Nat) {e:Env},Srt e→Srt (isoEnvW e2 L e)
 | [],_,h=>h
 | k::r,_,h=>isoEnv_srt e2 r (h.put k _)
theorem snap_vw {ρ:Nat→Nat} {V A:Nat→Prop} {h:WHeap} {h':Heap} {e e':Env} (he:EW ρ V A e e') (H:HW ρ V A h h') {o:COper} (hok:okOp o.op=true) {v:AV} (hs:evSnapW o e h=some v) :
 ∃ v',evSnap (erOper o) e' h'=some v'∧VW ρ V A v v':=by
 unfold evSnapW at hs
 split at hs
 case h_2=>cases hs
 rename_i hw
 have hw':wants e' (erOper o).guard=some true:=wants_sim he hw
 unfold evSnap
 rw [hw']
 simp only
 obtain ⟨d,g,op⟩:=o
 simp only [erOper] at *
 cases op <;> simp only [snapOpW] at hs <;> try (cases hs;done)
 rename_i z bytes zeros s x
 split at hs
 · cases hs
 rename_i hz
 obtain ⟨⟨xs,d⟩,h1,h2⟩:=ob_some hs
 simp only [okOp,Bool.and_eq_true] at hok
 obtain ⟨xs',q1,q2,q3⟩:=elems_vw H (he.opd hok.2.2) h1
 have hl:(erL z).length=z.length:=erL_len z
 simp only at h2
 split at h2
 case isFalse=>cases h2
 rename_i hd
 simp only [erOp,snapOp,if_neg hz,hl,q1,ob]
 obtain ⟨b,len,cap,ex,ex',es,es',e1,e2,hg,ho',hV,hA,hR,hD,hlen,hlen',hbb,hfl,rfl,hvw⟩:=snapOf_vw H (he.opd hok.2.1) q2 (q3 hd) h2
 refine ⟨_,?_,hvw⟩
 rw [e2]
 simp only [snapOf,ho']
 rw [if_pos ⟨trivial,trivial,trivial,trivial,hlen',hbb,hfl⟩]
theorem iso_sim (hr:RunSim run run') {pre:List COper} {ap:COper} {post:List COper} {s s2:WSt} (hok:okC (.iso pre ap post ⟨false,[],[]⟩)=true) (he:evIsoW C run pre ap post s=some s2) {s':St} {ρ:Nat→Nat} {V A:Nat→Prop}
 (S:Sim ρ V A s s') (hb:base≤s.next) (hi:Hi base m0 ρ V A) (hm:m0≤s'.next) :
 ∃ s2' ρ' V' A',evIso (erProg C) run' (pre.map erOper) (erOper ap) (post.map erOper) s'=some s2'∧Res base m0 ρ V A s2 s2' ρ' V' A'∧m0≤s2'.next:=by
 simp only [okC,Bool.and_eq_true] at hok
 unfold evIsoW at he
 split at he
 case isFalse=>cases he
 rename_i hlast
 obtain ⟨s1,h1,he⟩:=ob_some he
 obtain ⟨v,h2,he⟩:=ob_some he
 obtain ⟨t,h3,he⟩:=om_some he
 obtain ⟨s1',ρ1,V1,A1,g1,R,g2⟩:=ops_sim hr pre s s1 hok.1 h1 s' ρ V A S hb hi hm
 obtain ⟨v',g3,g4⟩:=snap_vw R.sim.env R.sim.heap hok.2.1 h2
 have S1:Sim ρ1 V1 A1 ⟨setD s1.env ap.dst v,[],s1.next⟩ ⟨setDst s1'.env ap.dst v',[],s1'.next⟩ :=
  ⟨R.sim.srt.setDst _ _,R.sim.env.setDst g4,⟨fun b o hb=>by simp [Pav.get] at hb,fun b o hb=>by simp [Pav.get] at hb,fun b o hb=>by simp [Pav.get] at hb,R.sim.heap.sub,R.sim.heap.inj⟩,R.sim.lt⟩
 obtain ⟨t',ρ2,V2,A2,g5,R2,g6⟩:=ops_sim (base:=s1.next) (m0:=s1'.next) hr post _ t hok.2.2 h3 _ ρ1 V1 A1 S1 (Nat.le_refl _) (fun b q _ q3=>absurd (R.sim.lt.w b q) (by omega)) (Nat.le_refl _)
 subst he
 have hd:((erOper ap::post.map erOper).filterMap (·.dst))=(ap::post).filterMap (·.dst):=by
  rw [← List.map_cons,List.filterMap_map]
  rfl
 refine ⟨⟨isoEnv t'.env ((erOper ap::post.map erOper).filterMap (·.dst)) s1'.env,s1'.heap,t'.next⟩,ρ1,V1,A1,?_,⟨⟨isoEnv_srt _ _ R.sim.srt,?_,R.sim.heap,?_⟩,Nat.le_trans R.base_le R2.base_le,R.old,R.hi⟩,Nat.le_trans g2 g6⟩
 · unfold evIso
   rw [lastOk_er,if_pos hlast]
   simp only [g1,ob,g3,om,show (erOper ap).dst=ap.dst from rfl,g5]
 · rw [hd]
   exact isoEnv_vw R2.sim.env _ R.sim.env
 · exact ⟨fun b q=>Nat.lt_of_lt_of_le (R.sim.lt.w b q) R2.base_le,fun b q q2=>Nat.lt_of_lt_of_le (R.sim.lt.p b q q2) g6⟩
theorem code_sim {k:Nat} (ih:CodeSim C k) (hr:RunSim (runWithW C (evW C k)) (runWith (erProg C) (evC (erProg C) k))):CodeSim C (k+1):=by
 intro base c s ex s1 hok he m0 s' ρ V A S hb hi hm
 cases c with
 | skip=>simp only [evW,Option.some.injEq,Prod.mk.injEq] at he;obtain ⟨rfl,rfl⟩:=he;exact ⟨s',ρ,V,A,rfl,⟨S,hb,Old.refl base ρ V A,hi⟩,hm⟩
 | exit id=>simp only [evW,Option.some.injEq,Prod.mk.injEq] at he;obtain ⟨rfl,rfl⟩:=he;exact ⟨s',ρ,V,A,rfl,⟨S,hb,Old.refl base ρ V A,hi⟩,hm⟩
 | ret=>simp only [evW,Option.some.injEq,Prod.mk.injEq] at he;obtain ⟨rfl,rfl⟩:=he;exact ⟨s',ρ,V,A,rfl,⟨S,hb,Old.refl base ρ V A,hi⟩,hm⟩
 | fail=>simp [evW] at he
 | prim k0 =>
  simp only [evW] at he
  obtain ⟨v,h1,he⟩:=om_some he
  simp only [Prod.mk.injEq] at he
  obtain ⟨rfl,rfl⟩:=he
  obtain ⟨h2,hv⟩:=prim_vw S.env h1
  exact ⟨⟨put s'.env 9 v,s'.heap,s'.next⟩,ρ,V,A,by simp only [erC,evC,h2,om],⟨⟨S.srt.put _ _,S.env.put hv,S.heap,S.lt⟩,hb,Old.refl base ρ V A,hi⟩,hm⟩
 | cln zz z b =>
  simp only [evW] at he
  split at he
  · rename_i z' hz
    split at he
    · rename_i hc
      obtain ⟨rfl,hzz,hk⟩:=hc
      simp only [Option.some.injEq,Prod.mk.injEq] at he
      obtain ⟨rfl,rfl⟩:=he
      obtain ⟨x,hx,hx2⟩:=Option.bind_eq_some_iff.1 hz
      obtain ⟨j,rfl⟩:∃ j,k=j+8:=⟨k - 8,by omega⟩
      obtain ⟨u,hu,hr⟩:=S.env 0 x hx
      obtain ⟨xe,hxe⟩:∃ e,x=.ro z' [] e:=by
       unfold isEmptyRo at hx2
       split at hx2
       · cases hx2;exact ⟨_,rfl⟩
       · cases hx2
      subst hxe
      have hl:(erL zz).length=z':=by rw [erL_len];exact hzz
      exact cln_sim S hb hi hm hu hr hl
    · cases he
  · obtain ⟨s1',ρ1,V1,A1,h3,R,h4⟩:=ih base (clnC zz z b) s ex s1 (by simpa [okC,clnC,okOp,okO,okV,okL] using hok) he m0 s' ρ V A S hb hi hm
    exact ⟨s1',ρ1,V1,A1,evC_mono k (k+1) (Nat.le_succ k) _ _ _ h3,R,h4⟩
 | ops l a =>
  simp only [evW] at he
  obtain ⟨s2,h1,he⟩:=ob_some he
  obtain ⟨s3,h2,he⟩:=om_some he
  cases he
  obtain ⟨s1',ρ1,V1,A1,h3,R,h4⟩:=ops_sim hr l s s2 hok h1 s' ρ V A S hb hi hm
  obtain ⟨s2b,h2b,h2⟩:=ob_some h2
  obtain ⟨s2b',h5,e5,R5⟩:=R.frzs _ h2b
  obtain ⟨ρ2,V2,A2,R2⟩:=R5.canon h2 (.inr rfl)
  exact ⟨_,ρ2,V2,A2,by simp only [erC,evC,h3,ob,endOps,h5,om],R2,by rw [← e5] at h4;exact h4⟩
 | iso pre ap post a =>
  simp only [evW] at he
  obtain ⟨s2,h1,he⟩:=ob_some he
  obtain ⟨s3,h2,he⟩:=om_some he
  cases he
  obtain ⟨s1',ρ1,V1,A1,h3,R,h4⟩:=iso_sim hr hok h1 S hb hi hm
  obtain ⟨s2b,h2b,h2⟩:=ob_some h2
  obtain ⟨s2b',h5,e5,R5⟩:=R.frzs _ h2b
  obtain ⟨ρ2,V2,A2,R2⟩:=R5.canon h2 (.inr rfl)
  exact ⟨_,ρ2,V2,A2,by simp only [erC,evC,h3,ob,endOps,h5,om],R2,by rw [← e5] at h4;exact h4⟩
 | draw l un a =>
  simp only [evW] at he
  obtain ⟨⟨s2,ds⟩,h1,he⟩:=ob_some he
  unfold drawEndW at he
  split at he
  · rename_i hap
    obtain ⟨s3,h2,he⟩:=om_some he
    cases he
    have S0:Sim ρ V A ⟨s.env,s.heap,s.next+l.length⟩ ⟨s'.env,s'.heap,s'.next+l.length⟩:=⟨S.srt,S.env,S.heap,fun b q=>Nat.lt_of_lt_of_le (S.lt.w b q) (Nat.le_add_right _ _),fun b q v=>Nat.lt_of_lt_of_le (S.lt.p b q v) (Nat.le_add_right _ _)⟩
    obtain ⟨s1',ds1',ρ1,V1,A1,h3,R,h4,h5⟩:=draw_sim hr l s.next _ s2 [] ds hok h1 s'.next _ [] ρ V A S0 hb (Nat.le_refl _) (fun b q=>.inl (S.lt.w b q)) hi hm (Nat.le_refl _) (fun b q v=>.inl (S.lt.p b q v)) (s'.next+l.length) (Nat.le_refl _) (Nat.le_refl _) .nil
    obtain ⟨s2b,h2b,h2⟩:=ob_some h2
    obtain ⟨s2b',h6,e6,R6⟩:=R.frzs _ h2b
    obtain ⟨ρ2,V2,A2,R2⟩:=R6.canon h2 (.inr rfl)
    refine ⟨_,ρ2,V2,A2,?_,R2,by rw [← e6] at h4;exact h4⟩
    simp only [erC,evC,List.length_map]
    rw [h3]
    simp only [ob,drawEnd,endOps,h6,om]
    rw [if_pos]
    simp only [List.all_eq_true] at hap ⊢
    exact fun p hp=>apart_vw R.sim.heap.inj h5 (hap p hp)
  · cases he
 | seq a b =>
  simp only [okC,Bool.and_eq_true] at hok
  simp only [evW] at he
  obtain ⟨⟨e1,s2⟩,h1,he⟩:=ob_some he
  obtain ⟨s1',ρ1,V1,A1,h3,R,h4⟩:=ih base a s e1 s2 hok.1 h1 m0 s' ρ V A S hb hi hm
  cases e1 with
  | norm =>
   simp only [evSeqW] at he
   obtain ⟨s2',ρ2,V2,A2,h5,R2,h6⟩:=ih base b s2 ex s1 hok.2 he m0 s1' ρ1 V1 A1 R.sim R.base_le R.hi h4
   exact ⟨s2',ρ2,V2,A2,by simp only [erC,evC,h3,ob,evSeq,h5],⟨R2.sim,R2.base_le,R.old.trans R2.old,R2.hi⟩,h6⟩
  | exit id=>simp only [evSeqW,Option.some.injEq,Prod.mk.injEq] at he;obtain ⟨rfl,rfl⟩:=he;exact ⟨s1',ρ1,V1,A1,by simp only [erC,evC,h3,ob,evSeq],R,h4⟩
  | ret=>simp only [evSeqW,Option.some.injEq,Prod.mk.injEq] at he;obtain ⟨rfl,rfl⟩:=he;exact ⟨s1',ρ1,V1,A1,by simp only [erC,evC,h3,ob,evSeq],R,h4⟩
 | cond c a b =>
  simp only [okC,Bool.and_eq_true] at hok
  simp only [evW] at he
  have hc:=S.env.opd hok.1
  unfold evCondW at he
  split at he
  · rename_i t ht
    rw [ht] at hc
    cases t with
    | true =>
     simp only [if_true] at he
     obtain ⟨s1',ρ1,V1,A1,h3,R,h4⟩:=ih base a s ex s1 hok.2.1 he m0 s' ρ V A S hb hi hm
     exact ⟨s1',ρ1,V1,A1,by simp only [erC,evC,hc.bool_inv,evCond,if_true];exact h3,R,h4⟩
    | false =>
     simp only [Bool.false_eq_true,if_false] at he
     obtain ⟨s1',ρ1,V1,A1,h3,R,h4⟩:=ih base b s ex s1 hok.2.2 he m0 s' ρ V A S hb hi hm
     exact ⟨s1',ρ1,V1,A1,by simp only [erC,evC,hc.bool_inv,evCond,Bool.false_eq_true,if_false];exact h3,R,h4⟩
  · cases he
 | block id b a =>
  simp only [okC] at hok
  simp only [evW] at he
  obtain ⟨⟨e1,s2⟩,h1,he⟩:=ob_some he
  obtain ⟨s1',ρ1,V1,A1,h3,R,h4⟩:=ih base b s e1 s2 hok h1 m0 s' ρ V A S hb hi hm
  cases e1 with
  | norm =>
   simp only [evBlockW] at he
   obtain ⟨s3,h5,he⟩:=om_some he
   cases he
   obtain ⟨ρ2,V2,A2,R2⟩:=R.canon h5 (.inl rfl)
   exact ⟨s1',ρ2,V2,A2,by simp only [erC,evC,h3,om,evBlock],R2,h4⟩
  | exit i =>
   simp only [evBlockW] at he
   split at he
   · rename_i hid
     obtain ⟨s3,h5,he⟩:=om_some he
     cases he
     obtain ⟨ρ2,V2,A2,R2⟩:=R.canon h5 (.inl rfl)
     exact ⟨s1',ρ2,V2,A2,by simp only [erC,evC,h3,om,evBlock,if_pos hid],R2,h4⟩
   · rename_i hid
     simp only [Option.some.injEq,Prod.mk.injEq] at he;obtain ⟨rfl,rfl⟩:=he
     exact ⟨s1',ρ1,V1,A1,by simp only [erC,evC,h3,om,evBlock,if_neg hid],R,h4⟩
  | ret =>
   simp only [evBlockW,Option.some.injEq,Prod.mk.injEq] at he;obtain ⟨rfl,rfl⟩:=he
   exact ⟨s1',ρ1,V1,A1,by simp only [erC,evC,h3,om,evBlock],R,h4⟩
 | loop a b =>
  have hok':okC b=true:=hok
  simp only [evW] at he
  obtain ⟨s0,h0,he⟩:=ob_some he
  obtain ⟨⟨e1,s2⟩,h1,he⟩:=ob_some he
  obtain ⟨ρ0,V0,A0,R0⟩:=(⟨S,hb,Old.refl base ρ V A,hi⟩:Res base m0 ρ V A s s' ρ V A).canon h0 (s2':=dropEnv (maskOf a) s') (.inr rfl)
  obtain ⟨s1',ρ1,V1,A1,h3,R,h4⟩:=ih base b s0 e1 s2 hok' h1 m0 _ ρ0 V0 A0 R0.sim R0.base_le R0.hi hm
  have R':Res base m0 ρ V A s2 s1' ρ1 V1 A1:=⟨R.sim,R.base_le,R0.old.trans R.old,R.hi⟩
  cases e1 with
  | norm =>
   simp only [evSeqW] at he
   obtain ⟨s2',ρ2,V2,A2,h5,R2,h6⟩:=ih base (.loop a b) s2 ex s1 hok he m0 s1' ρ1 V1 A1 R.sim R.base_le R.hi h4
   exact ⟨s2',ρ2,V2,A2,by simp only [erC,evC,h3,ob,evSeq];exact h5,⟨R2.sim,R2.base_le,R'.old.trans R2.old,R2.hi⟩,h6⟩
  | exit id=>simp only [evSeqW,Option.some.injEq,Prod.mk.injEq] at he;obtain ⟨rfl,rfl⟩:=he;exact ⟨s1',ρ1,V1,A1,by simp only [erC,evC,h3,ob,evSeq],R',h4⟩
  | ret=>simp only [evSeqW,Option.some.injEq,Prod.mk.injEq] at he;obtain ⟨rfl,rfl⟩:=he;exact ⟨s1',ρ1,V1,A1,by simp only [erC,evC,h3,ob,evSeq],R',h4⟩
theorem results_vw {ρ:Nat→Nat} {V A:Nat→Prop} {e:Env} {e':Env} {h:WHeap} {h':Heap} (he:EW ρ V A e e') (H:HW ρ V A h h') {rs:List CRes} {v:AV} (hv:resultsW e h rs=some v):∃ v',Pav.results e' h' rs=some v'∧VW ρ V A v v':=by
 obtain ⟨vs,h1,rfl⟩:=om_some hv
 have one:∀ r x,resOfW e h r=some x→∃ x',resOf e' h' r=some x'∧VW ρ V A x x':=by
  intro r x hx
  cases r with
  | tmp t=>exact he t x hx
  | cell t k ag =>
   simp only [resOfW] at hx
   split at hx
   · rename_i b i o hg
     obtain ⟨p,h2,h3⟩:=he t _ hg
     obtain ⟨rfl,hA,hV⟩:=h3.ptr_inv
     unfold wLoadAt at hx
     split at hx
     · rename_i z es mu dt hgb
       obtain ⟨cs,h4,h5⟩:=ob_some hx
       obtain ⟨o',g1,es',mu',rfl,_,ge,_⟩:=H.obj b _ hgb hV
       obtain ⟨cs',h6,h7⟩:=ge.get h4
       obtain ⟨v',h8,h9⟩:=loadC_vw (h7.drop o) h5
       exact ⟨v',by simp only [resOf,h2,g1,loadAt,h6,ob];exact h8,h9⟩
     · cases hx
   · cases hx
 have lst:∀ (rs:List CRes) (vs:List AV),mapO (resOfW e h) rs=some vs→∃ vs',mapO (resOf e' h') rs=some vs'∧Rel2 (VW ρ V A) vs vs':=by
  intro rs
  induction rs with
  | nil=>intro vs hq;simp only [mapO,Option.some.injEq] at hq;subst hq;exact ⟨[],rfl,.nil⟩
  | cons r rs ih =>
   intro vs hq
   simp only [mapO] at hq ⊢
   obtain ⟨x,h2,hq⟩:=ob_some hq
   obtain ⟨xs,h3,rfl⟩:=om_some hq
   obtain ⟨x',h4,h5⟩:=one r x h2
   obtain ⟨xs',h6,h7⟩:=ih xs h3
   exact ⟨x'::xs',by rw [h4,h6];rfl,.cons h5 h7⟩
 obtain ⟨vs',h2,h3⟩:=lst rs vs h1
 refine ⟨tupled vs',by simp only [Pav.results,h2,om],?_⟩
 cases vs with
 | nil=>rw [h3.inv_nil];exact VW.mktup .nil
 | cons a r =>
  obtain ⟨b,t,rfl,h4,h5⟩:=h3.inv_cons
  cases r with
  | nil=>rw [h5.inv_nil];exact h4
  | cons a2 r2 =>
   obtain ⟨b2,t2,rfl,h6,h7⟩:=h5.inv_cons
   exact VW.mktup (.cons h4 (.cons h6 h7))
theorem argEnv_get:∀ (l:List AV) (k j:Nat),get (argEnv k l) j=if j < k then none else l[j - k]?:=by
 intro l
 induction l with
 | nil=>intro k j;simp [argEnv,Pav.get]
 | cons a l ih =>
  intro k j
  simp only [argEnv,Pav.get]
  by_cases h1:k=j
  · subst h1;simp
  · rw [if_neg h1,ih]
    by_cases h2:j < k
    · rw [if_pos (by omega),if_pos h2]
    · rw [if_neg (by omega),if_neg h2]
      have:j - k=(j - (k+1))+1:=by omega
      rw [this];simp
theorem erTree_get:∀ (t:WTree) (g:Nat),(erTree t).get g=(t.get g).map erFn:=by
 intro t
 induction t with
 | leaf=>intro g;rfl
 | node l k f r ihl ihr =>
  intro g
  simp only [erTree,Tree.get,WTree.get]
  split
  · rfl
  · split
    · exact ihl g
    · exact ihr g
theorem okTree_get:∀ (t:WTree) (g:Nat) (f:WFn),okTree t=true→t.get g=some f→okC f.body=true:=by
 intro t
 induction t with
 | leaf=>intro g f _ h;simp [WTree.get] at h
 | node l k f r ihl ihr =>
  intro g f' hok h
  simp only [okTree,Bool.and_eq_true] at hok
  simp only [WTree.get] at h
  split at h
  · cases h;exact hok.2.1
  · split at h
    · exact ihl g f' hok.1 h
    · exact ihr g f' hok.2.2 h
theorem run_sim (hok:okTree C.fns=true) {k:Nat} (hc:CodeSim C k):RunSim (runWithW C (evW C k)) (runWith (erProg C) (evC (erProg C) k)):=by
 intro f args h n v h1 n1 hrun ρ V A args' h' m ha H lt
 unfold runWithW at hrun
 obtain ⟨fn,hf,hrun⟩:=ob_some hrun
 split at hrun
 · rename_i hl
   obtain ⟨⟨ex,s1⟩,h2,h3⟩:=ob_some hrun
   have S:Sim ρ V A ⟨argW 0 args [],h,n⟩ ⟨argEnv 0 args',h',m⟩:=by
    refine ⟨srt_arg args 0,fun j x hj=>?_,H,lt⟩
    have hj2:get (argEnv 0 args) j=some x:=by
     have hm:=get_mem hj
     rw [argW_eq,List.append_nil] at hm
     have hm2:=List.mem_reverse.1 hm
     have key:∀ (l:List AV) (k:Nat),(j,x) ∈ argEnv k l→get (argEnv k l) j=some x:=by
      intro l
      induction l with
      | nil=>intro k hq;simp [argEnv] at hq
      | cons v l ih =>
       intro k hq
       simp only [argEnv,Pav.get]
       rcases List.mem_cons.1 hq with q | q
       · cases q;simp
       · have:=(srt_arg0 l (k+1)).2 _ q
         simp only at this
         rw [if_neg (by omega)]
         exact ih (k+1) q
     exact key args 0 hm2
    simp only [argEnv_get,Nat.not_lt_zero,if_false,Nat.sub_zero] at hj2 ⊢
    exact ha.get hj2
   obtain ⟨s1',ρ1,V1,A1,h4,R,h5⟩:=hc n fn.body _ ex s1 (okTree_get _ _ _ hok hf) h2 m ⟨argEnv 0 args',h',m⟩ ρ V A S (Nat.le_refl _) (fun b hb _ hn=>absurd (lt.w b hb) (by omega)) (Nat.le_refl _)
   have fin:∃ v',Pav.results s1'.env s1'.heap fn.res=some v'∧VW ρ1 V1 A1 v v'∧s1.heap=h1∧s1.next=n1∧∀ i,ex≠.exit i:=by
    unfold fnEndW at h3
    cases ex with
    | exit i=>cases h3
    | norm =>
     obtain ⟨w,q1,q2⟩:=om_some h3
     cases q2
     obtain ⟨v',q3,q4⟩:=results_vw R.sim.env R.sim.heap q1
     exact ⟨v',q3,q4,rfl,rfl,fun i e=>by cases e⟩
    | ret =>
     obtain ⟨w,q1,q2⟩:=om_some h3
     cases q2
     obtain ⟨v',q3,q4⟩:=results_vw R.sim.env R.sim.heap q1
     exact ⟨v',q3,q4,rfl,rfl,fun i e=>by cases e⟩
   obtain ⟨v',h6,h7,rfl,rfl,h8⟩:=fin
   refine ⟨v',s1'.heap,s1'.next,ρ1,V1,A1,?_,h7,R.sim.heap,R.sim.lt,fun b hb=>(R.old b (lt.w b hb)).1 hb,fun b hb=>?_,fun b hb hv=>?_,R.base_le,h5⟩
   · unfold runWith
     have:(erProg C).fns.get f=some (erFn fn):=by
      show (erTree C.fns).get f=_
      rw [erTree_get,hf];rfl
     rw [this]
     have hnp:args'.length=(erFn fn).np:=by rw [← ha.1];exact hl
     simp only [ob]
     rw [if_pos hnp,show (erFn fn).body=erC fn.body from rfl,h4]
     cases ex with
     | exit i=>exact absurd rfl (h8 i)
     | norm=>simp only [fnEnd,show (erFn fn).res=fn.res from rfl,h6,om]
     | ret=>simp only [fnEnd,show (erFn fn).res=fn.res from rfl,h6,om]
   · rcases Nat.lt_or_ge b n with q | q
     · exact .inl ((R.old b q).2 hb)
     · exact .inr q
   · rcases Nat.lt_or_ge b n with q | q
     · have:=(R.old b q).2 hb
       exact .inl ⟨this,((R.old b q).1 this).2.1⟩
     · exact .inr (R.hi b hb hv q)
 · cases hrun
theorem all_sim (hok:okTree C.fns=true):∀ k,CodeSim C k:=by
 intro k
 induction k with
 | zero=>intro base c s ex s1 _ he;simp [evW] at he
 | succ k ih=>exact code_sim ih (run_sim hok ih)
theorem callW_ok (hok:okTree C.fns=true) {k f:Nat} {args args':List AV} {v:AV} (ha:Rel2 (VD id fun _=>False) args args') (hc:callW C k f args=some v):∃ v',callF (erProg C) k f args'=some v'∧VD id (fun _=>False) v v' :=
 pure_sim (run_sim hok (all_sim hok k)) ha hc
end
end Go.Pw
end
section
namespace Go.Pw
open Go Go.Pav
def RunLeW (r r':WRun):Prop:=∀ f args h n x,r f args h n=some x→r' f args h n=some x
section
variable {C:WProg} {r r':WRun}
theorem evCallW_mono (hr:RunLeW r r') {f:Nat} {args:List AV} {h:WHeap} {nid n:Nat} {c:WCalled} (hc:evCallW C r f args h nid n=some c):evCallW C r' f args h nid n=some c:=by
 unfold evCallW at hc ⊢
 split
 · rename_i hi
   rw [if_pos hi] at hc
   split
   · rename_i hf
     rw [if_pos hf] at hc
     refine ob_mono hc (fun x hx=>hx) fun az has=>?_
     by_cases hdp:isDp f=true
     · rw [if_pos hdp] at has ⊢
       exact ob_mono has (fun x hx=>hr _ _ _ _ _ hx) fun x hx=>hx
     · rw [if_neg hdp] at has ⊢
       exact ob_mono has (fun v hv=>ob_mono hv (fun x hx=>hr _ _ _ _ _ hx) fun x hx=>hx) fun x hx=>hx
   · rename_i hf
     rw [if_neg hf] at hc
     exact om_mono hc fun x hx=>hr _ _ _ _ _ hx
 · rename_i hi
   rw [if_neg hi] at hc
   split
   · rename_i hp;rw [if_pos hp] at hc;exact om_mono hc fun x hx=>hr _ _ _ _ _ hx
   · rename_i hp
     rw [if_neg hp] at hc
     exact ob_mono hc (fun x hx=>hx) fun az has=>om_mono has fun v hv=>ob_mono hv (fun x hx=>hr _ _ _ _ _ hx) fun x hx=>hx
theorem evActW_mono (hr:RunLeW r r') {op:COp} {nid:Nat} {e:Env} {h:WHeap} {n:Nat} {d:WDid} (hd:evActW C r op nid e h n=some d):evActW C r' op nid e h n=some d:=by
 unfold evActW at hd ⊢
 split
 · rename_i hc;rw [hc] at hd;cases hd
 · rename_i hc;rw [hc] at hd;exact om_mono hd fun c hc=>evCallW_mono hr hc
 · rename_i hc;rw [hc] at hd;exact hd
theorem evOpW_mono (hr:RunLeW r r') {o:COper} {nid:Nat} {e:Env} {h:WHeap} {n:Nat} {d:WDid} (hd:evOpW C r o nid e h n=some d):evOpW C r' o nid e h n=some d:=by
 unfold evOpW at hd ⊢
 split
 · rename_i hc;rw [hc] at hd;cases hd
 · rename_i hc;rw [hc] at hd;exact hd
 · rename_i hc;rw [hc] at hd;exact evActW_mono hr hd
theorem evOpsW_mono (hr:RunLeW r r'):∀ (l:List COper) (s s':WSt),evOpsW C r l s=some s'→evOpsW C r' l s=some s':=by
 intro l
 induction l with
 | nil=>intro s s' h;exact h
 | cons o l ih=>intro s s' h;exact ob_mono h (fun d hd=>evOpW_mono hr hd) fun d hd=>ih _ _ hd
theorem evDrawW_mono (hr:RunLeW r r'):∀ (l:List COper) (nid:Nat) (s:WSt) (ds:List WDid) (x:WSt × List WDid),evDrawW C r l nid s ds=some x→evDrawW C r' l nid s ds=some x:=by
 intro l
 induction l with
 | nil=>intro nid s ds x h;exact h
 | cons o l ih=>intro nid s ds x h;exact ob_mono h (fun d hd=>evOpW_mono hr hd) fun d hd=>ih _ _ _ _ hd
theorem runWithW_mono {ev ev':WEv} (he:∀ b c s x,ev b c s=some x→ev' b c s=some x):RunLeW (runWithW C ev) (runWithW C ev'):=by
 intro f args h n x hx
 refine ob_mono hx (fun a ha=>ha) fun fn hfn=>?_
 split
 · rename_i hl
   rw [if_pos hl] at hfn
   exact ob_mono hfn (fun a ha=>he _ _ _ _ ha) fun a ha=>ha
 · rename_i hl
   rw [if_neg hl] at hfn;cases hfn
theorem evSeqW_mono {b b':WSt→Option (Ex × WSt)} (h:∀ s x,b s=some x→b' s=some x) {r:Ex × WSt} {x:Ex × WSt} (hx:evSeqW b r=some x):evSeqW b' r=some x:=by
 unfold evSeqW at hx ⊢
 split
 · rename_i hr;rw [hr] at hx;exact h _ _ hx
 · split at hx
   · rename_i h1 _ h2;exact absurd h2 h1
   · exact hx
theorem evIsoW_mono (hr:RunLeW r r') {pre:List COper} {ap:COper} {post:List COper} {s s':WSt} (h:evIsoW C r pre ap post s=some s'):evIsoW C r' pre ap post s=some s':=by
 unfold evIsoW at h ⊢
 split
 · rename_i hl
   rw [if_pos hl] at h
   exact ob_mono h (fun s1 h1=>evOpsW_mono hr _ _ _ h1) fun s1 h1=>ob_mono h1 (fun v hv=>hv) fun v hv=>om_mono hv fun s2 h2=>evOpsW_mono hr _ _ _ h2
 · rename_i hl
   rw [if_neg hl] at h
   cases h
theorem evW_mono:∀ (n m:Nat),n≤m→∀ (base:Nat) (c:WCode) (s:WSt) (x:Ex × WSt),evW C n base c s=some x→evW C m base c s=some x:=by
 intro n
 induction n with
 | zero=>intro m _ base c s x h;simp only [evW] at h;cases h
 | succ n ih =>
  intro m hm base c s x h
  obtain ⟨m,rfl⟩:∃ k,m=k+1:=⟨m - 1,by omega⟩
  have ih':=ih m (by omega)
  have hr:RunLeW (runWithW C (evW C n)) (runWithW C (evW C m)):=runWithW_mono ih'
  cases c with
  | skip=>exact h
  | exit id=>exact h
  | ret=>exact h
  | fail=>exact h
  | prim k=>exact h
  | cln zz z b =>
   simp only [evW] at h ⊢
   split
   · rename_i z' hz
     rw [hz] at h
     simp only at h
     split at h
     · rename_i hc;rw [if_pos ⟨hc.1,hc.2.1,by omega⟩];exact h
     · cases h
   · rename_i hz
     rw [hz] at h
     exact ih' _ _ _ _ h
  | ops l a=>simp only [evW] at h ⊢;exact ob_mono h (fun s' hs=>evOpsW_mono hr l s s' hs) fun x hx=>hx
  | iso pre ap post a=>simp only [evW] at h ⊢;exact ob_mono h (fun s' hs=>evIsoW_mono hr hs) fun x hx=>hx
  | draw l un a=>simp only [evW] at h ⊢;exact ob_mono h (fun x hx=>evDrawW_mono hr l _ _ _ x hx) fun x hx=>hx
  | seq a b=>simp only [evW] at h ⊢;exact ob_mono h (fun x hx=>ih' _ _ _ _ hx) fun x hx=>evSeqW_mono (fun s x hx=>ih' _ _ _ _ hx) hx
  | cond c a b =>
   simp only [evW] at h ⊢
   unfold evCondW at h ⊢
   split
   · rename_i t hv
     rw [hv] at h
     cases t with
     | true=>exact ih' _ _ _ _ h
     | false=>exact ih' _ _ _ _ h
   · split at h
     · rename_i h1 _ t hv;exact absurd hv (h1 t)
     · cases h
  | block id b a=>simp only [evW] at h ⊢;exact ob_mono h (fun x hx=>ih' _ _ _ _ hx) fun x hx=>hx
  | loop a b=>simp only [evW] at h ⊢;exact ob_mono h (fun x hx=>hx) fun s hs=>ob_mono hs (fun x hx=>ih' _ _ _ _ hx) fun x hx=>evSeqW_mono (fun s x hx=>ih' _ _ _ _ hx) hx
theorem runW_mono {n m:Nat} (h:n≤m):RunLeW (runW C n) (runW C m):=runWithW_mono (evW_mono n m h)
end
section
variable (C:WProg)
noncomputable def CdW:WEv:=fun base c s=>lim fun n=>evW C n base c s
noncomputable def RnW:WRun:=runWithW C (CdW C)
noncomputable def FnW (f:Nat) (args:List AV):Option AV:=pureCallW (RnW C) f args
end
section
variable {C:WProg} {base:Nat}
theorem mono_W (base:Nat) (c:WCode) (s:WSt):Mono fun n=>evW C n base c s:=fun n m h a ha=>evW_mono n m h base c s a ha
theorem cdW_iff {c:WCode} {s:WSt} {x:Ex × WSt}:CdW C base c s=some x↔∃ n,evW C n base c s=some x:=lim_iff (mono_W base c s)
theorem evW_cd {n:Nat} {c:WCode} {s:WSt} {x:Ex × WSt} (h:evW C n base c s=some x):CdW C base c s=some x:=cdW_iff.2 ⟨n,h⟩
theorem runle_rnW (n:Nat):RunLeW (runW C n) (RnW C):=runWithW_mono fun _ _ _ _ h=>evW_cd h
theorem rnW_run {f:Nat} {args:List AV} {h:WHeap} {n:Nat} {x:AV × WHeap × Nat} (hx:RnW C f args h n=some x):∃ k,runW C k f args h n=some x:=by
 unfold RnW runWithW at hx
 obtain ⟨fn,hf,hx⟩:=ob_some hx
 split at hx
 · rename_i hl
   obtain ⟨y,hc,hx⟩:=ob_some hx
   obtain ⟨k,hk⟩:=cdW_iff.1 hc
   refine ⟨k,?_⟩
   unfold runW runWithW
   rw [hf]
   simp only [ob,if_pos hl,hk]
   exact hx
 · cases hx
theorem evCallW_cont {f:Nat} {args:List AV} {h:WHeap} {nid n:Nat} {c:WCalled} (hc:evCallW C (RnW C) f args h nid n=some c):∃ k,evCallW C (runW C k) f args h nid n=some c:=by
 unfold evCallW at hc ⊢
 split
 · rename_i hi
   rw [if_pos hi] at hc
   split
   · rename_i hf
     rw [if_pos hf] at hc
     obtain ⟨az,h1,hc⟩:=ob_some hc
     by_cases hdp:isDp f=true
     · rw [if_pos hdp] at hc
       obtain ⟨r,h3,hc⟩:=ob_some hc
       obtain ⟨k,hk⟩:=rnW_run h3
       refine ⟨k,?_⟩
       rw [h1]
       simp only [ob,if_pos hdp,hk]
       exact hc
     rw [if_neg hdp] at hc
     obtain ⟨x,h2,hend⟩:=ob_some hc
     obtain ⟨r,h3,h4⟩:=ob_some h2
     obtain ⟨k,hk⟩:=rnW_run h3
     refine ⟨k,?_⟩
     rw [h1]
     simp only [ob,if_neg hdp]
     unfold freshCallW
     simp only [ob,hk]
     rw [h4]
     exact hend
   · rename_i hf
     rw [if_neg hf] at hc
     obtain ⟨r,h1,rfl⟩:=om_some hc
     obtain ⟨k,hk⟩:=rnW_run h1
     exact ⟨k,by rw [hk];rfl⟩
 · rename_i hi
   rw [if_neg hi] at hc
   split
   · rename_i hp
     rw [if_pos hp] at hc
     obtain ⟨r,h1,rfl⟩:=om_some hc
     obtain ⟨k,hk⟩:=rnW_run h1
     exact ⟨k,by rw [hk];rfl⟩
   · rename_i hp
     rw [if_neg hp] at hc
     obtain ⟨az,h1,hc⟩:=ob_some hc
     obtain ⟨v,h2,rfl⟩:=om_some hc
     obtain ⟨r,h3,h4⟩:=ob_some h2
     obtain ⟨k,hk⟩:=rnW_run h3
     exact ⟨k,by rw [h1];simp only [ob,pureCallW,hk,h4];rfl⟩
theorem evOpW_cont {o:COper} {nid:Nat} {e:Env} {h:WHeap} {n:Nat} {d:WDid} (hd:evOpW C (RnW C) o nid e h n=some d):∃ k,evOpW C (runW C k) o nid e h n=some d:=by
 unfold evOpW at hd ⊢
 split
 · rename_i hc;rw [hc] at hd;cases hd
 · rename_i hc;rw [hc] at hd;exact ⟨0,hd⟩
 · rename_i hc
   rw [hc] at hd
   simp only at hd
   unfold evActW at hd ⊢
   split
   · rename_i hc;rw [hc] at hd;cases hd
   · rename_i hc
     rw [hc] at hd
     simp only at hd
     obtain ⟨r,h1,rfl⟩:=om_some hd
     obtain ⟨k,hk⟩:=evCallW_cont h1
     exact ⟨k,by rw [hk];rfl⟩
   · rename_i hc;rw [hc] at hd;exact ⟨0,hd⟩
theorem evOpsW_cont:∀ (l:List COper) (s s':WSt),evOpsW C (RnW C) l s=some s'→∃ k,evOpsW C (runW C k) l s=some s':=by
 intro l
 induction l with
 | nil=>intro s s' h;exact ⟨0,h⟩
 | cons o l ih =>
  intro s s' h
  simp only [evOpsW] at h ⊢
  obtain ⟨d,hd,h⟩:=ob_some h
  obtain ⟨k1,h1⟩:=evOpW_cont hd
  obtain ⟨k2,h2⟩:=ih _ _ h
  refine ⟨max k1 k2,?_⟩
  rw [evOpW_mono (runW_mono (Nat.le_max_left k1 k2)) h1]
  exact evOpsW_mono (runW_mono (Nat.le_max_right k1 k2)) _ _ _ h2
theorem evDrawW_cont:∀ (l:List COper) (nid:Nat) (s:WSt) (ds:List WDid) (x:WSt × List WDid),evDrawW C (RnW C) l nid s ds=some x→∃ k,evDrawW C (runW C k) l nid s ds=some x:=by
 intro l
 induction l with
 | nil=>intro nid s ds x h;exact ⟨0,h⟩
 | cons o l ih =>
  intro nid s ds x h
  simp only [evDrawW] at h ⊢
  obtain ⟨d,hd,h⟩:=ob_some h
  obtain ⟨k1,h1⟩:=evOpW_cont hd
  obtain ⟨k2,h2⟩:=ih _ _ _ _ h
  refine ⟨max k1 k2,?_⟩
  rw [evOpW_mono (runW_mono (Nat.le_max_left k1 k2)) h1]
  exact evDrawW_mono (runW_mono (Nat.le_max_right k1 k2)) _ _ _ _ _ h2
theorem cw_skip (s:WSt):CdW C base .skip s=some (.norm,s):=evW_cd (n:=1) rfl
theorem cw_exit (id:Nat) (s:WSt):CdW C base (.exit id) s=some (.exit id,s):=evW_cd (n:=1) rfl
theorem cw_prim (k:Nat) (s:WSt):CdW C base (.prim k) s=om (primF k (primArgs (primN k) 0 s.env)) fun v=>(.ret,⟨putE s.env 9 v,s.heap,s.next⟩):=by
 cases h:om (primF k (primArgs (primN k) 0 s.env)) fun v=>((.ret,⟨putE s.env 9 v,s.heap,s.next⟩):Ex × WSt) with
 | some x=>exact evW_cd (n:=1) h
 | none =>
  cases h2:CdW C base (.prim k) s with
  | none=>rfl
  | some x =>
   obtain ⟨n,hn⟩:=cdW_iff.1 h2
   cases n with
   | zero=>simp only [evW] at hn;cases hn
   | succ n=>simp only [evW] at hn;rw [h] at hn;cases hn
theorem cw_ret (s:WSt):CdW C base .ret s=some (.ret,s):=evW_cd (n:=1) rfl
theorem cw_succ {c:WCode} {s:WSt} {x:Ex × WSt}:CdW C base c s=some x↔∃ n,evW C (n+1) base c s=some x:=by
 rw [cdW_iff]
 constructor
 · rintro ⟨n,h⟩;exact ⟨n,evW_mono n (n+1) (Nat.le_succ n) base c s x h⟩
 · rintro ⟨n,h⟩;exact ⟨_,h⟩
theorem evSeqW_iff {b:WCode} {r x:Ex × WSt}:evSeqW (CdW C base b) r=some x↔∃ n,evSeqW (evW C n base b) r=some x:=by
 obtain ⟨ex,s⟩:=r
 cases ex with
 | norm=>simp only [evSeqW];exact cdW_iff
 | exit id=>simp [evSeqW]
 | ret=>simp [evSeqW]
theorem cw_seq (a b:WCode) (s:WSt):CdW C base (.seq a b) s=ob (CdW C base a s) (evSeqW (CdW C base b)):=by
 refine opt_ext fun x=>?_
 rw [cw_succ,ob_iff]
 simp only [evW,ob_iff]
 constructor
 · rintro ⟨n,r,h1,h2⟩;exact ⟨r,evW_cd h1,evSeqW_iff.2 ⟨n,h2⟩⟩
 · rintro ⟨r,h1,h2⟩
   obtain ⟨n,h1⟩:=cdW_iff.1 h1
   obtain ⟨m,h2⟩:=evSeqW_iff.1 h2
   exact ⟨max n m,r,evW_mono _ _ (Nat.le_max_left n m) _ _ _ _ h1,evSeqW_mono (fun s x hx=>evW_mono _ _ (Nat.le_max_right n m) _ _ _ _ hx) h2⟩
theorem cw_loop (a:Ann) (b:WCode) (s:WSt):CdW C base (.loop a b) s=ob (canon base a s) fun s=>ob (CdW C base b s) (evSeqW (CdW C base (.loop a b))):=by
 refine opt_ext fun x=>?_
 rw [cw_succ,ob_iff]
 simp only [evW,ob_iff]
 constructor
 · rintro ⟨n,s0,h0,r,h1,h2⟩;exact ⟨s0,h0,r,evW_cd h1,evSeqW_iff.2 ⟨n,h2⟩⟩
 · rintro ⟨s0,h0,r,h1,h2⟩
   obtain ⟨n,h1⟩:=cdW_iff.1 h1
   obtain ⟨m,h2⟩:=evSeqW_iff.1 h2
   exact ⟨max n m,s0,h0,r,evW_mono _ _ (Nat.le_max_left n m) _ _ _ _ h1,evSeqW_mono (fun s x hx=>evW_mono _ _ (Nat.le_max_right n m) _ _ _ _ hx) h2⟩
theorem cw_block (id:Nat) (b:WCode) (a:Ann) (s:WSt):CdW C base (.block id b a) s=ob (CdW C base b s) (evBlockW base id a):=by
 refine opt_ext fun x=>?_
 rw [cw_succ,ob_iff]
 simp only [evW,ob_iff]
 constructor
 · rintro ⟨n,r,h1,h2⟩;exact ⟨r,evW_cd h1,h2⟩
 · rintro ⟨r,h1,h2⟩
   obtain ⟨n,h1⟩:=cdW_iff.1 h1
   exact ⟨n,r,h1,h2⟩
theorem cw_cond (c:Opd) (a b:WCode) (s:WSt):CdW C base (.cond c a b) s=evCondW (CdW C base a) (CdW C base b) (c.ev s.env) s:=by
 refine opt_ext fun x=>?_
 rw [cw_succ]
 simp only [evW]
 unfold evCondW
 split
 · rename_i t _
   cases t with
   | true=>exact cdW_iff.symm
   | false=>exact cdW_iff.symm
 · simp
theorem cw_ops (l:List COper) (a:Ann) (s:WSt):CdW C base (.ops l a) s=ob (evOpsW C (RnW C) l s) fun s=>om (canonF base a s) fun s=>(.norm,s):=by
 refine opt_ext fun x=>?_
 rw [cw_succ,ob_iff]
 simp only [evW,ob_iff]
 constructor
 · rintro ⟨n,r,h1,h2⟩;exact ⟨r,evOpsW_mono (runle_rnW n) _ _ _ h1,h2⟩
 · rintro ⟨r,h1,h2⟩
   obtain ⟨n,h1⟩:=evOpsW_cont _ _ _ h1
   exact ⟨n,r,h1,h2⟩
theorem cw_draw (l:List COper) (un:List (Nat × Nat)) (a:Ann) (s:WSt):CdW C base (.draw l un a) s=ob (evDrawW C (RnW C) l s.next ⟨s.env,s.heap,s.next+l.length⟩ []) (drawEndW base un a):=by
 refine opt_ext fun x=>?_
 rw [cw_succ,ob_iff]
 simp only [evW,ob_iff]
 constructor
 · rintro ⟨n,r,h1,h2⟩;exact ⟨r,evDrawW_mono (runle_rnW n) _ _ _ _ _ h1,h2⟩
 · rintro ⟨r,h1,h2⟩
   obtain ⟨n,h1⟩:=evDrawW_cont _ _ _ _ _ h1
   exact ⟨n,r,h1,h2⟩
theorem fnW_call {f:Nat} {args:List AV} {v:AV}:FnW C f args=some v↔∃ n,callW C n f args=some v:=by
 unfold FnW callW pureCallW
 simp only [ob_iff]
 constructor
 · rintro ⟨r,h1,h2⟩
   obtain ⟨k,h1⟩:=rnW_run h1
   exact ⟨k,r,h1,h2⟩
 · rintro ⟨k,r,h1,h2⟩;exact ⟨r,runle_rnW k _ _ _ _ _ h1,h2⟩
end
end Go.Pw
end
section
namespace Go.Pw
open Go Go.Pav
inductive Frame where
 | sq (b:WCode)
 | bk (id:Nat) (a:Ann)
 | lp (a:Ann) (b:WCode)
def setE:Env→Nat→AV→Env
 | [],_,_=>[]
 | (k,v)::r,g,x=>if k=g then (k,x)::r else (k,v)::setE r g x
section
variable {β:Type}
noncomputable def RK (C:WProg) (base:Nat):List Frame→Ex × WSt→Option (Ex × WSt)
 | [],r=>some r
 | .sq b::k,r=>ob (evSeqW (CdW C base b) r) (RK C base k)
 | .bk id a::k,r=>ob (evBlockW base id a r) (RK C base k)
 | .lp a b::k,r=>ob (evSeqW (CdW C base (.loop a b)) r) (RK C base k)
noncomputable def CK (C:WProg) (base:Nat) (fin:Ex × WSt→Option β) (k:List Frame) (c:WCode) (s:WSt):Option β:=ob (CdW C base c s) fun r=>ob (RK C base k r) fin
noncomputable def NK (C:WProg) (base:Nat) (fin:Ex × WSt→Option β) (k:List Frame) (ex:Ex) (s:WSt):Option β:=ob (RK C base k (ex,s)) fin
noncomputable def AK (C:WProg) (base:Nat) (fin:Ex × WSt→Option β) (k:List Frame) (s:Option WSt):Option β:=ob s fun s=>NK C base fin k .norm s
noncomputable def LK (C:WProg) (base:Nat) (fin:Ex × WSt→Option β) (k:List Frame) (b:WCode) (s:Option WSt):Option β:=ob s fun s=>CK C base fin k b s
noncomputable def OK (C:WProg) (base:Nat) (fin:Ex × WSt→Option β) (k:List Frame) (a:Ann) (l:List COper) (s:WSt):Option β :=
 ob (evOpsW C (RnW C) l s) fun s=>AK C base fin k (canonF base a s)
noncomputable def SK (C:WProg) (base:Nat) (fin:Ex × WSt→Option β) (k:List Frame) (a:Ann) (l:List COper) (d:Option Nat) (e:Env) (h:WHeap) (n:Nat) (x:Option (AV × WUpd)):Option β :=
 ob x fun x=>OK C base fin k a l ⟨setD e d x.1,applyW h x.2,n⟩
noncomputable def condK (C:WProg) (base:Nat) (fin:Ex × WSt→Option β) (k:List Frame) (a b:WCode) (s:WSt) (v:AV):Option β :=
 match v with
 | .bool t=>if t=true then CK C base fin k a s else CK C base fin k b s
 | _=>none
noncomputable def GK (C:WProg) (base:Nat) (fin:Ex × WSt→Option β) (k:List Frame) (a:Ann) (l:List COper) (d:Option Nat) (op:COp) (g:Nat) (w:Bool) (e:Env) (h:WHeap) (n:Nat) (v:Option AV):Option β :=
 match v with
 | some (.bool b)=>if b=w then OK C base fin k a (⟨d,none,op⟩::l) ⟨setE e g (.bool w),h,n⟩ else OK C base fin k a l ⟨setD (setE e g (.bool (!w))) d (.tup []),h,n+1⟩
 | some (.tup [])=>OK C base fin k a l ⟨setD e d (.tup []),h,n+1⟩
 | _=>none
noncomputable def VK (C:WProg) (base:Nat) (fin:Ex × WSt→Option β) (k:List Frame) (a:Ann) (l:List COper) (d:Option Nat) (e:Env) (h:WHeap) (n:Nat) (args:List AV) (v:Option AV):Option β :=
 ob v fun v=>OK C base fin k a l ⟨setD e d v,applyW h (marksW h args v),n⟩
noncomputable def WK (C:WProg) (base:Nat) (fin:Ex × WSt→Option β) (k:List Frame) (a:Ann) (l:List COper) (d:Option Nat) (e:Env) (r:Option (AV × WHeap × Nat)):Option β :=
 ob r fun r=>OK C base fin k a l ⟨setD e d r.1,r.2.1,r.2.2⟩
noncomputable def PK (C:WProg) (base:Nat) (fin:Ex × WSt→Option β) (k:List Frame) (a:Ann) (l:List COper) (d:Option Nat) (e:Env) (h:WHeap) (n:Nat) (f:Nat) (args:List AV) (az:Option (List AV)):Option β :=
 ob az fun az=>VK C base fin k a l d e h n args (FnW C f az)
noncomputable def BSK (C:WProg) (base:Nat) (fin:Ex × WSt→Option β) (k:List Frame) (a:Ann) (l:List COper) (d:Option Nat) (e:Env) (h:WHeap) (n:Nat) (v:AV) (u:WUpd) (ok:Bool):Option β :=
 if ok=true then OK C base fin k a l ⟨setD e d v,applyW h u,n⟩ else none
noncomputable def FSK (C:WProg) (base:Nat) (fin:Ex × WSt→Option β) (k:List Frame) (a:Ann) (l:List COper) (d:Option Nat) (e:Env) (h:WHeap) (n:Nat) (br:Bool) (args:List AV) (x:Option (AV × WUpd)):Option β :=
 ob x fun x=>if br=true then BSK C base fin k a l d e h n x.1 x.2 (bareXW x) else OK C base fin k a l ⟨setD e d x.1,applyW h (markFrozenW h (args.flatMap (reachW h frzDepth))++x.2),n⟩
def over (n:Nat) (h1 h:WHeap):WHeap:=applyW h (upsW n h1)
noncomputable def HBK (C:WProg) (base:Nat) (fin:Ex × WSt→Option β) (k:List Frame) (a:Ann) (l:List COper) (d:Option Nat) (e:Env) (h:WHeap) (n:Nat) (v:AV) (h1:WHeap) (n1:Nat) (ok:Bool):Option β :=
 if ok=true then OK C base fin k a l ⟨setD e d v,over n (h1.filter fun x=>(reachW h1 frzDepth v).contains x.1) h,n1⟩ else none
noncomputable def HK (C:WProg) (base:Nat) (fin:Ex × WSt→Option β) (k:List Frame) (a:Ann) (l:List COper) (d:Option Nat) (e:Env) (h:WHeap) (n:Nat) (db:Bool) (args:List AV) (r:Option (AV × WHeap × Nat)):Option β :=
 ob r fun r=>if db=true then HBK C base fin k a l d e h n r.1 r.2.1 r.2.2 (keptXW r.2.1 r.1 (reachW r.2.1 frzDepth r.1)) else OK C base fin k a l ⟨setD e d r.1,over n r.2.1 (applyW h (markFrozenW h (args.flatMap (reachW h frzDepth)))),r.2.2⟩
noncomputable def TK (C:WProg) (base:Nat) (fin:Ex × WSt→Option β) (k:List Frame) (a:Ann) (l:List COper) (d:Option Nat) (e:Env) (h:WHeap) (n:Nat) (f:Nat) (args az:List AV) (dp:Bool):Option β :=
 if dp=true then HK C base fin k a l d e h n (isDb f) args (RnW C f az [] n) else FSK C base fin k a l d e h n (isBr f) args (freshCallW (RnW C) f az (n - 1))
noncomputable def FPK (C:WProg) (base:Nat) (fin:Ex × WSt→Option β) (k:List Frame) (a:Ann) (l:List COper) (d:Option Nat) (e:Env) (h:WHeap) (n:Nat) (f:Nat) (args:List AV) (az:Option (List AV)):Option β :=
 ob az fun az=>TK C base fin k a l d e h n f args az (isDp f)
noncomputable def IK (C:WProg) (base:Nat) (fin:Ex × WSt→Option β) (k:List Frame) (a:Ann) (l:List COper) (d:Option Nat) (e:Env) (h:WHeap) (n:Nat) (f:Nat) (args:List AV) (fr:Bool):Option β :=
 if fr=true then FPK C base fin k a l d e h n f args (mapO (frzW h frzDepth) args) else WK C base fin k a l d e (RnW C f args h n)
noncomputable def FK (C:WProg) (base:Nat) (fin:Ex × WSt→Option β) (k:List Frame) (a:Ann) (l:List COper) (d:Option Nat) (e:Env) (h:WHeap) (n:Nat) (f:Nat) (args:List AV) (inl ptr:Bool):Option β :=
 if inl=true then IK C base fin k a l d e h n f args (isFr f) else if ptr=true then WK C base fin k a l d e (RnW C f args h n) else PK C base fin k a l d e h n f args (mapO (frzW h frzDepth) args)
noncomputable def QK (C:WProg) (base:Nat) (fin:Ex × WSt→Option β) (k:List Frame) (a:Ann) (l:List COper) (d:Option Nat) (e:Env) (h:WHeap) (n:Nat) (args:List AV) (g:AV):Option β :=
 match g with
 | .fn f caps=>FK C base fin k a l d e h n f (args++caps) (C.inl f) (!C.pp f&&hasPtrL (args++caps))
 | _=>none
abbrev RW:=Bool × List Nat × List Nat
def rwOf (d:WDid):RW:=(d.bar,d.rd,d.wr)
def quietR (d:RW):Bool:=!d.1&&(d.2.2.isEmpty&&d.2.1.isEmpty)
def clashR (a b:RW):Bool:=!(quietR a||quietR b)&&(if a.1=true then b.1||hitL a.2.1 a.2.2 b.2.1 b.2.2 else if b.1=true then hitL b.2.1 b.2.2 a.2.1 a.2.2 else (meets a.2.2 b.2.2||(meets a.2.2 b.2.1||meets a.2.1 b.2.2)))
def apartR (ds:List RW) (p:Nat × Nat):Bool :=
 match ds[p.1]?,ds[p.2]? with
 | some a,some b=>!clashR a b
 | _,_=>false
noncomputable def EK (C:WProg) (base:Nat) (fin:Ex × WSt→Option β) (k:List Frame) (a:Ann) (s:WSt) (ok:Bool):Option β :=
 if ok=true then AK C base fin k (canonF base a s) else none
noncomputable def DK (C:WProg) (base:Nat) (fin:Ex × WSt→Option β) (k:List Frame) (a:Ann) (un:List (Nat × Nat)) (l:List COper) (nid:Nat) (s:WSt) (ds:List RW):Option β :=
 ob (evDrawW C (RnW C) l nid s []) fun r=>EK C base fin k a r.1 (un.all (apartR (ds++r.2.map rwOf)))
noncomputable def DSK (C:WProg) (base:Nat) (fin:Ex × WSt→Option β) (k:List Frame) (a:Ann) (un:List (Nat × Nat)) (l:List COper) (nid:Nat) (d:Option Nat) (e:Env) (h:WHeap) (n:Nat) (ds:List RW) (rd:List Nat) (x:Option (AV × WUpd)):Option β :=
 ob x fun x=>DK C base fin k a un l nid ⟨setD e d x.1,applyW h x.2,n⟩ (ds++[(false,rd,x.2.map (·.1))])
noncomputable def DGK (C:WProg) (base:Nat) (fin:Ex × WSt→Option β) (k:List Frame) (a:Ann) (un:List (Nat × Nat)) (l:List COper) (nid:Nat) (d:Option Nat) (op:COp) (g:Nat) (w:Bool) (e:Env) (h:WHeap) (n:Nat) (ds:List RW) (v:Option AV):Option β :=
 match v with
 | some (.bool b)=>if b=w then DK C base fin k a un (⟨d,none,op⟩::l) nid ⟨setE e g (.bool w),h,n⟩ ds else DK C base fin k a un l (nid+1) ⟨setD (setE e g (.bool (!w))) d (.tup []),h,n⟩ (ds++[(false,[],[])])
 | some (.tup [])=>DK C base fin k a un l (nid+1) ⟨setD e d (.tup []),h,n⟩ (ds++[(false,[],[])])
 | _=>none
noncomputable def DVK (C:WProg) (base:Nat) (fin:Ex × WSt→Option β) (k:List Frame) (a:Ann) (un:List (Nat × Nat)) (l:List COper) (nid:Nat) (d:Option Nat) (e:Env) (h:WHeap) (n:Nat) (ds:List RW) (args:List AV) (v:Option AV):Option β :=
 ob v fun v=>DK C base fin k a un l nid ⟨setD e d v,applyW h (marksW h args v),n⟩ (ds++[(false,args.flatMap (reachW h frzDepth),(marksW h args v).map (·.1))])
noncomputable def DWK (C:WProg) (base:Nat) (fin:Ex × WSt→Option β) (k:List Frame) (a:Ann) (un:List (Nat × Nat)) (l:List COper) (nid:Nat) (d:Option Nat) (e:Env) (ds:List RW) (r:Option (AV × WHeap × Nat)):Option β :=
 ob r fun r=>DK C base fin k a un l nid ⟨setD e d r.1,r.2.1,r.2.2⟩ (ds++[(true,[],[])])
noncomputable def DPK (C:WProg) (base:Nat) (fin:Ex × WSt→Option β) (k:List Frame) (a:Ann) (un:List (Nat × Nat)) (l:List COper) (nid:Nat) (d:Option Nat) (e:Env) (h:WHeap) (n:Nat) (ds:List RW) (f:Nat) (args:List AV) (az:Option (List AV)):Option β :=
 ob az fun az=>DVK C base fin k a un l nid d e h n ds args (FnW C f az)
noncomputable def DBSK (C:WProg) (base:Nat) (fin:Ex × WSt→Option β) (k:List Frame) (a:Ann) (un:List (Nat × Nat)) (l:List COper) (nid:Nat) (d:Option Nat) (e:Env) (h:WHeap) (n:Nat) (ds:List RW) (args:List AV) (v:AV) (u:WUpd) (ok:Bool):Option β :=
 if ok=true then DK C base fin k a un l nid ⟨setD e d v,applyW h u,n⟩ (ds++[(false,args.flatMap (reachW h frzDepth),u.map (·.1))]) else none
noncomputable def DFSK (C:WProg) (base:Nat) (fin:Ex × WSt→Option β) (k:List Frame) (a:Ann) (un:List (Nat × Nat)) (l:List COper) (nid:Nat) (d:Option Nat) (e:Env) (h:WHeap) (n:Nat) (ds:List RW) (br:Bool) (args:List AV) (x:Option (AV × WUpd)):Option β :=
 ob x fun x=>if br=true then DBSK C base fin k a un l nid d e h n ds args x.1 x.2 (bareXW x) else DK C base fin k a un l nid ⟨setD e d x.1,applyW h (markFrozenW h (args.flatMap (reachW h frzDepth))++x.2),n⟩ (ds++[(false,args.flatMap (reachW h frzDepth),(markFrozenW h (args.flatMap (reachW h frzDepth))++x.2).map (·.1))])
noncomputable def DHBK (C:WProg) (base:Nat) (fin:Ex × WSt→Option β) (k:List Frame) (a:Ann) (un:List (Nat × Nat)) (l:List COper) (nid:Nat) (d:Option Nat) (e:Env) (h:WHeap) (n:Nat) (ds:List RW) (args:List AV) (v:AV) (h1:WHeap) (n1:Nat) (ok:Bool):Option β :=
 if ok=true then DK C base fin k a un l nid ⟨setD e d v,over n (h1.filter fun x=>(reachW h1 frzDepth v).contains x.1) h,n1⟩ (ds++[(true,args.flatMap (reachW h frzDepth),[n])]) else none
noncomputable def DHK (C:WProg) (base:Nat) (fin:Ex × WSt→Option β) (k:List Frame) (a:Ann) (un:List (Nat × Nat)) (l:List COper) (nid:Nat) (d:Option Nat) (e:Env) (h:WHeap) (n:Nat) (ds:List RW) (db:Bool) (args:List AV) (r:Option (AV × WHeap × Nat)):Option β :=
 ob r fun r=>if db=true then DHBK C base fin k a un l nid d e h n ds args r.1 r.2.1 r.2.2 (keptXW r.2.1 r.1 (reachW r.2.1 frzDepth r.1)) else DK C base fin k a un l nid ⟨setD e d r.1,over n r.2.1 (applyW h (markFrozenW h (args.flatMap (reachW h frzDepth)))),r.2.2⟩ (ds++[(true,args.flatMap (reachW h frzDepth),n::(markFrozenW h (args.flatMap (reachW h frzDepth))).map (·.1))])
noncomputable def DTK (C:WProg) (base:Nat) (fin:Ex × WSt→Option β) (k:List Frame) (a:Ann) (un:List (Nat × Nat)) (l:List COper) (nid:Nat) (d:Option Nat) (e:Env) (h:WHeap) (n:Nat) (ds:List RW) (f:Nat) (args az:List AV) (dp:Bool):Option β :=
 if dp=true then DHK C base fin k a un l nid d e h n ds (isDb f) args (RnW C f az [] n) else DFSK C base fin k a un l nid d e h n ds (isBr f) args (freshCallW (RnW C) f az (nid - 1))
noncomputable def DFPK (C:WProg) (base:Nat) (fin:Ex × WSt→Option β) (k:List Frame) (a:Ann) (un:List (Nat × Nat)) (l:List COper) (nid:Nat) (d:Option Nat) (e:Env) (h:WHeap) (n:Nat) (ds:List RW) (f:Nat) (args:List AV) (az:Option (List AV)):Option β :=
 ob az fun az=>DTK C base fin k a un l nid d e h n ds f args az (isDp f)
noncomputable def DIK (C:WProg) (base:Nat) (fin:Ex × WSt→Option β) (k:List Frame) (a:Ann) (un:List (Nat × Nat)) (l:List COper) (nid:Nat) (d:Option Nat) (e:Env) (h:WHeap) (n:Nat) (ds:List RW) (f:Nat) (args:List AV) (fr:Bool):Option β :=
 if fr=true then DFPK C base fin k a un l nid d e h n ds f args (mapO (frzW h frzDepth) args) else DWK C base fin k a un l nid d e ds (RnW C f args h n)
noncomputable def DFK (C:WProg) (base:Nat) (fin:Ex × WSt→Option β) (k:List Frame) (a:Ann) (un:List (Nat × Nat)) (l:List COper) (nid:Nat) (d:Option Nat) (e:Env) (h:WHeap) (n:Nat) (ds:List RW) (f:Nat) (args:List AV) (inl ptr:Bool):Option β :=
 if inl=true then DIK C base fin k a un l nid d e h n ds f args (isFr f) else if ptr=true then DWK C base fin k a un l nid d e ds (RnW C f args h n) else DPK C base fin k a un l nid d e h n ds f args (mapO (frzW h frzDepth) args)
noncomputable def DQK (C:WProg) (base:Nat) (fin:Ex × WSt→Option β) (k:List Frame) (a:Ann) (un:List (Nat × Nat)) (l:List COper) (nid:Nat) (d:Option Nat) (e:Env) (h:WHeap) (n:Nat) (ds:List RW) (args:List AV) (g:AV):Option β :=
 match g with
 | .fn f caps=>DFK C base fin k a un l nid d e h n ds f (args++caps) (C.inl f) (!C.pp f&&hasPtrL (args++caps))
 | _=>none
def pureFin (res:List CRes) (r:Ex × WSt):Option AV:=ob (fnEndW res r) fun r=>frzW r.2.1 frzDepth r.1
end
section
variable {β:Type} {C:WProg} {base:Nat} {fin:Ex × WSt→Option β} {k:List Frame}
theorem ob_assoc {α γ δ:Type} (x:Option α) (f:α→Option γ) (g:γ→Option δ):ob (ob x f) g=ob x fun a=>ob (f a) g:=by cases x <;> rfl
theorem ob_om {α γ δ:Type} (x:Option α) (f:α→γ) (g:γ→Option δ):ob (om x f) g=ob x fun a=>g (f a):=by cases x <;> rfl
theorem ck_seq (a b:WCode) (s:WSt):CK C base fin k (.seq a b) s=CK C base fin (.sq b::k) a s:=by
 unfold CK;rw [cw_seq];simp only [RK,ob_assoc]
theorem ck_skip (s:WSt):CK C base fin k .skip s=NK C base fin k .norm s:=by unfold CK NK;rw [cw_skip];rfl
theorem ck_exit (i:Nat) (s:WSt):CK C base fin k (.exit i) s=NK C base fin k (.exit i) s:=by unfold CK NK;rw [cw_exit];rfl
theorem ck_prim (n:Nat) (s:WSt):CK C base fin k (.prim n) s=ob (primF n (primArgs (primN n) 0 s.env)) fun v=>NK C base fin k .ret ⟨putE s.env 9 v,s.heap,s.next⟩:=by
 unfold CK NK
 rw [cw_prim]
 cases primF n (primArgs (primN n) 0 s.env) <;> rfl
theorem ck_ret (s:WSt):CK C base fin k .ret s=NK C base fin k .ret s:=by unfold CK NK;rw [cw_ret];rfl
theorem ck_cond (c:Opd) (a b:WCode) (s:WSt):CK C base fin k (.cond c a b) s=condK C base fin k a b s (c.ev s.env):=by
 unfold CK condK;rw [cw_cond];unfold evCondW
 cases c.ev s.env <;> try rfl
 rename_i t;cases t <;> rfl
theorem ck_block (id:Nat) (b:WCode) (a:Ann) (s:WSt):CK C base fin k (.block id b a) s=CK C base fin (.bk id a::k) b s:=by
 unfold CK;rw [cw_block];simp only [RK,ob_assoc]
theorem ck_lp {L:WCode} {a:Ann} {b:WCode} {s:WSt} (hL:L=.loop a b):CK C base fin k L s=LK C base fin (.sq L::k) b (canon base a s):=by
 subst hL;unfold CK LK CK;rw [cw_loop];simp only [RK,ob_assoc]
theorem ck_unf {c c':WCode} {s:WSt} (hc:c=c'):CK C base fin k c s=CK C base fin k c' s:=by rw [hc]
theorem ck_ops (l:List COper) (a:Ann) (s:WSt):CK C base fin k (.ops l a) s=OK C base fin k a l s:=by
 unfold CK OK AK NK;rw [cw_ops];simp only [ob_assoc,ob_om]
theorem ck_draw (l:List COper) (un:List (Nat × Nat)) (a:Ann) (e:Env) (h:WHeap) (n:Nat):CK C base fin k (.draw l un a) ⟨e,h,n⟩=DK C base fin k a un l n ⟨e,h,n+l.length⟩ []:=by
 unfold CK DK EK AK NK;rw [cw_draw];simp only [ob_assoc]
 have:∀ r:WSt × List WDid,(ob (drawEndW base un a r) fun r=>ob (RK C base k r) fin)=(if (un.all (apartR ([]++r.2.map rwOf)))=true then ob (canonF base a r.1) fun s=>ob (RK C base k (.norm,s)) fin else none):=by
  rintro ⟨s,ds⟩
  have e1:un.all (apartW ds)=un.all (apartR ([]++ds.map rwOf)):=by
   congr 1
   funext p
   simp only [apartW,apartR,List.nil_append,List.getElem?_map]
   cases ds[p.1]? <;> cases ds[p.2]? <;> rfl
  simp only [drawEndW,e1]
  split
  · simp only [ob_om]
  · rfl
 simp only [this]
theorem nk_nil (ex:Ex) (s:WSt):NK C base fin [] ex s=fin (ex,s):=rfl
theorem nk_sq (b:WCode) (s:WSt):NK C base fin (.sq b::k) .norm s=CK C base fin k b s:=by unfold NK CK;simp only [RK,evSeqW,ob_assoc]
theorem nk_sq_exit (b:WCode) (i:Nat) (s:WSt):NK C base fin (.sq b::k) (.exit i) s=NK C base fin k (.exit i) s:=by unfold NK;simp only [RK,evSeqW,ob]
theorem nk_sq_ret (b:WCode) (s:WSt):NK C base fin (.sq b::k) .ret s=NK C base fin k .ret s:=by unfold NK;simp only [RK,evSeqW,ob]
theorem nk_lp_exit (a:Ann) (b:WCode) (i:Nat) (s:WSt):NK C base fin (.lp a b::k) (.exit i) s=NK C base fin k (.exit i) s:=by unfold NK;simp only [RK,evSeqW,ob]
theorem nk_lp_ret (a:Ann) (b:WCode) (s:WSt):NK C base fin (.lp a b::k) .ret s=NK C base fin k .ret s:=by unfold NK;simp only [RK,evSeqW,ob]
theorem nk_bk (id:Nat) (a:Ann) (s:WSt):NK C base fin (.bk id a::k) .norm s=AK C base fin k (canon base a s):=by unfold NK AK NK;simp only [RK,evBlockW,ob_assoc,ob_om]
theorem nk_bk_exit (id:Nat) (a:Ann) (i:Nat) (s:WSt):NK C base fin (.bk id a::k) (.exit i) s=if i=id then AK C base fin k (canon base a s) else NK C base fin k (.exit i) s:=by
 unfold NK AK NK;simp only [RK,evBlockW]
 split
 · simp only [ob_assoc,ob_om]
 · rfl
theorem nk_bk_ret (id:Nat) (a:Ann) (s:WSt):NK C base fin (.bk id a::k) .ret s=NK C base fin k .ret s:=by unfold NK;simp only [RK,evBlockW,ob]
theorem ak_some (s:WSt):AK C base fin k (some s)=NK C base fin k .norm s:=rfl
theorem lk_some (b:WCode) (s:WSt):LK C base fin k b (some s)=CK C base fin k b s:=rfl
theorem condK_true (a b:WCode) (s:WSt):condK C base fin k a b s (.bool true)=CK C base fin k a s:=rfl
theorem condK_false (a b:WCode) (s:WSt):condK C base fin k a b s (.bool false)=CK C base fin k b s:=rfl
theorem condK_bool (a b:WCode) (s:WSt) (t:Bool):condK C base fin k a b s (.bool t)=if t=true then CK C base fin k a s else CK C base fin k b s:=rfl
variable {a:Ann} {l:List COper} {d:Option Nat} {e:Env} {h:WHeap} {n:Nat}
theorem ok_nil (s:WSt):OK C base fin k a [] s=AK C base fin k (canonF base a s):=rfl
theorem ok_step {op:COp} (hc:callOf e op=some none):OK C base fin k a (⟨d,none,op⟩::l) ⟨e,h,n⟩=SK C base fin k a l d e h (n+1) (stepW op e h n):=by
 unfold OK SK OK
 simp only [evOpsW,evOpW,wants,evActW,hc]
 cases stepW op e h n <;> rfl
theorem sk_some (v:AV) (u:WUpd):SK C base fin k a l d e h n (some (v,u))=OK C base fin k a l ⟨setD e d v,applyW h u,n⟩:=rfl
theorem setE_same:∀ {e:Env} {g:Nat} {v:AV},get e g=some v→setE e g v=e:=by
 intro e
 induction e with
 | nil=>intro g v h;rfl
 | cons x e ih =>
  intro g v hg
  obtain ⟨j,u⟩:=x
  simp only [Pav.get] at hg
  simp only [setE]
  split at hg
  · rename_i hj;cases hg;rw [if_pos hj]
  · rename_i hj;rw [if_neg hj,ih hg]
theorem gk_bool {op:COp} {g:Nat} {w b:Bool}:GK C base fin k a l d op g w e h n (some (.bool b))=if b=w then OK C base fin k a (⟨d,none,op⟩::l) ⟨setE e g (.bool w),h,n⟩ else OK C base fin k a l ⟨setD (setE e g (.bool (!w))) d (.tup []),h,n+1⟩:=rfl
theorem gk_true_true {op:COp} {g:Nat}:GK C base fin k a l d op g true e h n (some (.bool true))=OK C base fin k a (⟨d,none,op⟩::l) ⟨setE e g (.bool true),h,n⟩:=rfl
theorem gk_false_false {op:COp} {g:Nat}:GK C base fin k a l d op g false e h n (some (.bool false))=OK C base fin k a (⟨d,none,op⟩::l) ⟨setE e g (.bool false),h,n⟩:=rfl
theorem gk_true_false {op:COp} {g:Nat}:GK C base fin k a l d op g true e h n (some (.bool false))=OK C base fin k a l ⟨setD (setE e g (.bool false)) d (.tup []),h,n+1⟩:=rfl
theorem gk_false_true {op:COp} {g:Nat}:GK C base fin k a l d op g false e h n (some (.bool true))=OK C base fin k a l ⟨setD (setE e g (.bool true)) d (.tup []),h,n+1⟩:=rfl
theorem gk_tup {op:COp} {g:Nat} {w:Bool}:GK C base fin k a l d op g w e h n (some (.tup []))=OK C base fin k a l ⟨setD e d (.tup []),h,n+1⟩:=rfl
theorem ok_guard {op:COp} {g:Nat} {w:Bool}:OK C base fin k a (⟨d,some (g,w),op⟩::l) ⟨e,h,n⟩=GK C base fin k a l d op g w e h n (get e g):=by
 unfold OK GK
 simp only [evOpsW,evOpW,wants]
 cases hg:get e g with
 | none=>rfl
 | some v =>
  cases v with
  | bool b =>
   simp only
   by_cases hw:b=w
   · subst hw
     rw [setE_same hg,if_pos rfl]
     simp only [OK,evOpsW,evOpW,wants,beq_self_eq_true]
   · have e1:(b == w)=false:=by simpa using hw
     have e2:(!w)=b:=by cases b <;> cases w <;> simp_all
     rw [if_neg hw,e2,setE_same hg]
     simp only [e1,ob,OK]
  | tup vs =>
   cases vs with
   | nil=>rfl
   | cons _ _=>rfl
  | _=>rfl
theorem vk_some {args:List AV} (v:AV):VK C base fin k a l d e h n args (some v)=OK C base fin k a l ⟨setD e d v,applyW h (marksW h args v),n⟩:=rfl
theorem wk_some (r:AV × WHeap × Nat):WK C base fin k a l d e (some r)=OK C base fin k a l ⟨setD e d r.1,r.2.1,r.2.2⟩:=rfl
theorem pk_some {f:Nat} {args:List AV} (az:List AV):PK C base fin k a l d e h n f args (some az)=VK C base fin k a l d e h n args (FnW C f az):=rfl
theorem fk_pure {f:Nat} {args:List AV}:FK C base fin k a l d e h n f args false false=PK C base fin k a l d e h n f args (mapO (frzW h frzDepth) args):=rfl
theorem fk_inl {f:Nat} {args:List AV} {p:Bool}:FK C base fin k a l d e h n f args true p=IK C base fin k a l d e h n f args (isFr f):=rfl
theorem ik_false {f:Nat} {args:List AV}:IK C base fin k a l d e h n f args false=WK C base fin k a l d e (RnW C f args h n):=rfl
theorem ik_true {f:Nat} {args:List AV}:IK C base fin k a l d e h n f args true=FPK C base fin k a l d e h n f args (mapO (frzW h frzDepth) args):=rfl
theorem fpk_some {f:Nat} {args:List AV} (az:List AV):FPK C base fin k a l d e h (n+1) f args (some az)=TK C base fin k a l d e h (n+1) f args az (isDp f):=rfl
theorem tk_false {f:Nat} {args az:List AV}:TK C base fin k a l d e h (n+1) f args az false=FSK C base fin k a l d e h (n+1) (isBr f) args (freshCallW (RnW C) f az n):=rfl
theorem tk_true {f:Nat} {args az:List AV}:TK C base fin k a l d e h n f args az true=HK C base fin k a l d e h n (isDb f) args (RnW C f az [] n):=rfl
theorem hbk_true (v:AV) (h1:WHeap) (n1:Nat):HBK C base fin k a l d e h n v h1 n1 true=OK C base fin k a l ⟨setD e d v,over n (h1.filter fun x=>(reachW h1 frzDepth v).contains x.1) h,n1⟩:=rfl
theorem hk_bare {args:List AV} (r:AV × WHeap × Nat):HK C base fin k a l d e h n true args (some r)=HBK C base fin k a l d e h n r.1 r.2.1 r.2.2 (keptXW r.2.1 r.1 (reachW r.2.1 frzDepth r.1)):=rfl
theorem hk_some {args:List AV} (r:AV × WHeap × Nat):HK C base fin k a l d e h n false args (some r)=OK C base fin k a l ⟨setD e d r.1,over n r.2.1 (applyW h (markFrozenW h (args.flatMap (reachW h frzDepth)))),r.2.2⟩:=rfl
theorem bsk_true (v:AV) (u:WUpd):BSK C base fin k a l d e h n v u true=OK C base fin k a l ⟨setD e d v,applyW h u,n⟩:=rfl
theorem fsk_bare {args:List AV} (v:AV) (u:WUpd):FSK C base fin k a l d e h n true args (some (v,u))=BSK C base fin k a l d e h n v u (bareXW (v,u)):=rfl
theorem fsk_some {args:List AV} (v:AV) (u:WUpd):FSK C base fin k a l d e h n false args (some (v,u))=OK C base fin k a l ⟨setD e d v,applyW h (markFrozenW h (args.flatMap (reachW h frzDepth))++u),n⟩:=rfl
theorem fk_ptr {f:Nat} {args:List AV}:FK C base fin k a l d e h n f args false true=WK C base fin k a l d e (RnW C f args h n):=rfl
theorem qk_fn {f:Nat} {args caps:List AV}:QK C base fin k a l d e h n args (.fn f caps)=FK C base fin k a l d e h n f (args++caps) (C.inl f) (!C.pp f&&hasPtrL (args++caps)):=rfl
theorem fk_eq {f:Nat} {args:List AV}:(ob (om (evCallW C (RnW C) f args h (n - 1) n) (doneCallW h n args)) fun r=>OK C base fin k a l ⟨setD e d r.v,r.h,r.n⟩)=FK C base fin k a l d e h n f args (C.inl f) (!C.pp f&&hasPtrL args):=by
 unfold FK evCallW IK FPK TK HK FSK WK PK VK FnW
 split
 · split
   · cases mapO (frzW h frzDepth) args with
     | none=>rfl
     | some az =>
      simp only [ob]
      by_cases hdp:isDp f=true
      · simp only [if_pos hdp]
        cases RnW C f az [] n with
        | none=>rfl
        | some r =>
         simp only [deepKeepW,deepUW]
         by_cases hdb:isDb f=true
         · simp only [if_pos hdb]
           unfold HBK
           by_cases hk:keptXW r.2.1 r.1 (reachW r.2.1 frzDepth r.1)=true
           · simp only [if_pos hk];rfl
           · simp only [if_neg hk];rfl
         · simp only [if_neg hdb];rfl
      simp only [if_neg hdp]
      cases freshCallW (RnW C) f az (n - 1) with
      | none=>rfl
      | some x =>
       dsimp only [ob]
       unfold freshEndW freshUW BSK
       cases isBr f
       · rfl
       · cases bareXW x <;> rfl
   · cases RnW C f args h n <;> rfl
 · split
   · cases RnW C f args h n <;> rfl
   · cases mapO (frzW h frzDepth) args with
     | none=>rfl
     | some az =>
      simp only [ob]
      cases pureCallW (RnW C) f az <;> rfl
theorem ok_call {f:Nat} {xs:List Opd}:OK C base fin k a (⟨d,none,.call f xs⟩::l) ⟨e,h,n⟩=FK C base fin k a l d e h (n+1) f (xs.map fun x=>x.ev e) (C.inl f) (!C.pp f&&hasPtrL (xs.map fun x=>x.ev e)):=by
 rw [← fk_eq]
 unfold OK
 simp only [evOpsW,evOpW,wants,evActW,callOf,ob_assoc,Nat.add_sub_cancel]
theorem ok_callv {g:Opd} {xs:List Opd}:OK C base fin k a (⟨d,none,.callv g xs⟩::l) ⟨e,h,n⟩=QK C base fin k a l d e h (n+1) (xs.map fun x=>x.ev e) (g.ev e):=by
 unfold QK
 cases hg:g.ev e with
 | fn f caps =>
  simp only
  rw [← fk_eq]
  unfold OK
  simp only [evOpsW,evOpW,wants,evActW,callOf,hg,ob_assoc,Nat.add_sub_cancel]
 | _ =>
  unfold OK
  simp only [evOpsW,evOpW,wants,evActW,callOf,hg]
  rfl
variable {un:List (Nat × Nat)} {nid:Nat} {ds:List RW}
theorem evDrawW_acc {r:WRun}:∀ (l:List COper) (nid:Nat) (s:WSt) (ds:List WDid),evDrawW C r l nid s ds=om (evDrawW C r l nid s []) fun x=>(x.1,ds++x.2):=by
 intro l
 induction l with
 | nil=>intro nid s ds;simp [evDrawW,om]
 | cons o l ih =>
  intro nid s ds
  simp only [evDrawW]
  cases evOpW C r o nid s.env s.heap s.next with
  | none=>rfl
  | some d =>
   simp only [ob]
   rw [ih,ih _ _ ([]++[d])]
   cases evDrawW C r l (nid+1) _ [] <;> simp [om]
theorem dk_nil (s:WSt):DK C base fin k a un [] nid s ds=EK C base fin k a s (un.all (apartR ds)):=by
 unfold DK;simp only [evDrawW,ob,List.map_nil,List.append_nil]
theorem ek_true (s:WSt):EK C base fin k a s true=AK C base fin k (canonF base a s):=rfl
theorem dk_cons {o:COper} {s:WSt}:DK C base fin k a un (o::l) nid s ds=ob (evOpW C (RnW C) o nid s.env s.heap s.next) fun x=>DK C base fin k a un l (nid+1) ⟨setD s.env o.dst x.v,x.h,x.n⟩ (ds++[rwOf x]):=by
 unfold DK
 simp only [evDrawW,ob_assoc]
 congr 1
 funext x
 rw [evDrawW_acc]
 simp only [ob_om,List.nil_append,List.map_append,List.map_cons,List.map_nil,List.append_assoc]
theorem dk_step {op:COp} (hc:callOf e op=some none):DK C base fin k a un (⟨d,none,op⟩::l) nid ⟨e,h,n⟩ ds=DSK C base fin k a un l (nid+1) d e h n ds (readsOf e op) (stepW op e h nid):=by
 rw [dk_cons]
 unfold DSK
 simp only [evOpW,wants,evActW,hc,ob_om]
 rfl
theorem dsk_some {rd:List Nat} (v:AV) (u:WUpd):DSK C base fin k a un l nid d e h n ds rd (some (v,u))=DK C base fin k a un l nid ⟨setD e d v,applyW h u,n⟩ (ds++[(false,rd,u.map (·.1))]):=rfl
theorem dgk_bool {op:COp} {g:Nat} {w b:Bool}:DGK C base fin k a un l nid d op g w e h n ds (some (.bool b))=if b=w then DK C base fin k a un (⟨d,none,op⟩::l) nid ⟨setE e g (.bool w),h,n⟩ ds else DK C base fin k a un l (nid+1) ⟨setD (setE e g (.bool (!w))) d (.tup []),h,n⟩ (ds++[(false,[],[])]):=rfl
theorem dgk_true_true {op:COp} {g:Nat}:DGK C base fin k a un l nid d op g true e h n ds (some (.bool true))=DK C base fin k a un (⟨d,none,op⟩::l) nid ⟨setE e g (.bool true),h,n⟩ ds:=rfl
theorem dgk_false_false {op:COp} {g:Nat}:DGK C base fin k a un l nid d op g false e h n ds (some (.bool false))=DK C base fin k a un (⟨d,none,op⟩::l) nid ⟨setE e g (.bool false),h,n⟩ ds:=rfl
theorem dgk_true_false {op:COp} {g:Nat}:DGK C base fin k a un l nid d op g true e h n ds (some (.bool false))=DK C base fin k a un l (nid+1) ⟨setD (setE e g (.bool false)) d (.tup []),h,n⟩ (ds++[(false,[],[])]):=rfl
theorem dgk_false_true {op:COp} {g:Nat}:DGK C base fin k a un l nid d op g false e h n ds (some (.bool true))=DK C base fin k a un l (nid+1) ⟨setD (setE e g (.bool true)) d (.tup []),h,n⟩ (ds++[(false,[],[])]):=rfl
theorem dgk_tup {op:COp} {g:Nat} {w:Bool}:DGK C base fin k a un l nid d op g w e h n ds (some (.tup []))=DK C base fin k a un l (nid+1) ⟨setD e d (.tup []),h,n⟩ (ds++[(false,[],[])]):=rfl
theorem dk_guard {op:COp} {g:Nat} {w:Bool}:DK C base fin k a un (⟨d,some (g,w),op⟩::l) nid ⟨e,h,n⟩ ds=DGK C base fin k a un l nid d op g w e h n ds (get e g):=by
 unfold DGK
 cases hg:get e g with
 | none=>rw [dk_cons];simp only [evOpW,wants,hg];rfl
 | some v =>
  cases v with
  | bool b =>
   simp only
   by_cases hw:b=w
   · subst hw
     rw [setE_same hg,if_pos rfl,dk_cons,dk_cons]
     simp only [evOpW,wants,hg,beq_self_eq_true]
   · have e1:(b == w)=false:=by simpa using hw
     have e2:(!w)=b:=by cases b <;> cases w <;> simp_all
     rw [if_neg hw,e2,setE_same hg,dk_cons]
     simp only [evOpW,wants,hg,e1,ob,rwOf]
  | tup vs =>
   cases vs with
   | nil=>rw [dk_cons];simp only [evOpW,wants,hg];rfl
   | cons _ _=>rw [dk_cons];simp only [evOpW,wants,hg];rfl
  | _=>rw [dk_cons];simp only [evOpW,wants,hg];rfl
theorem dvk_some {args:List AV} (v:AV):DVK C base fin k a un l nid d e h n ds args (some v)=DK C base fin k a un l nid ⟨setD e d v,applyW h (marksW h args v),n⟩ (ds++[(false,args.flatMap (reachW h frzDepth),(marksW h args v).map (·.1))]):=rfl
theorem dwk_some (r:AV × WHeap × Nat):DWK C base fin k a un l nid d e ds (some r)=DK C base fin k a un l nid ⟨setD e d r.1,r.2.1,r.2.2⟩ (ds++[(true,[],[])]):=rfl
theorem dpk_some {f:Nat} {args:List AV} (az:List AV):DPK C base fin k a un l nid d e h n ds f args (some az)=DVK C base fin k a un l nid d e h n ds args (FnW C f az):=rfl
theorem dfk_pure {f:Nat} {args:List AV}:DFK C base fin k a un l nid d e h n ds f args false false=DPK C base fin k a un l nid d e h n ds f args (mapO (frzW h frzDepth) args):=rfl
theorem dfk_inl {f:Nat} {args:List AV} {p:Bool}:DFK C base fin k a un l nid d e h n ds f args true p=DIK C base fin k a un l nid d e h n ds f args (isFr f):=rfl
theorem dik_false {f:Nat} {args:List AV}:DIK C base fin k a un l nid d e h n ds f args false=DWK C base fin k a un l nid d e ds (RnW C f args h n):=rfl
theorem dik_true {f:Nat} {args:List AV}:DIK C base fin k a un l nid d e h n ds f args true=DFPK C base fin k a un l nid d e h n ds f args (mapO (frzW h frzDepth) args):=rfl
theorem dfpk_some {f:Nat} {args:List AV} (az:List AV):DFPK C base fin k a un l nid d e h n ds f args (some az)=DTK C base fin k a un l nid d e h n ds f args az (isDp f):=rfl
theorem dtk_false {f:Nat} {args az:List AV}:DTK C base fin k a un l nid d e h n ds f args az false=DFSK C base fin k a un l nid d e h n ds (isBr f) args (freshCallW (RnW C) f az (nid - 1)):=rfl
theorem dtk_true {f:Nat} {args az:List AV}:DTK C base fin k a un l nid d e h n ds f args az true=DHK C base fin k a un l nid d e h n ds (isDb f) args (RnW C f az [] n):=rfl
theorem dhbk_true {args:List AV} (v:AV) (h1:WHeap) (n1:Nat):DHBK C base fin k a un l nid d e h n ds args v h1 n1 true=DK C base fin k a un l nid ⟨setD e d v,over n (h1.filter fun x=>(reachW h1 frzDepth v).contains x.1) h,n1⟩ (ds++[(true,args.flatMap (reachW h frzDepth),[n])]):=rfl
theorem dhk_bare {args:List AV} (r:AV × WHeap × Nat):DHK C base fin k a un l nid d e h n ds true args (some r)=DHBK C base fin k a un l nid d e h n ds args r.1 r.2.1 r.2.2 (keptXW r.2.1 r.1 (reachW r.2.1 frzDepth r.1)):=rfl
theorem dhk_some {args:List AV} (r:AV × WHeap × Nat):DHK C base fin k a un l nid d e h n ds false args (some r)=DK C base fin k a un l nid ⟨setD e d r.1,over n r.2.1 (applyW h (markFrozenW h (args.flatMap (reachW h frzDepth)))),r.2.2⟩ (ds++[(true,args.flatMap (reachW h frzDepth),n::(markFrozenW h (args.flatMap (reachW h frzDepth))).map (·.1))]):=rfl
theorem dbsk_true {args:List AV} (v:AV) (u:WUpd):DBSK C base fin k a un l nid d e h n ds args v u true=DK C base fin k a un l nid ⟨setD e d v,applyW h u,n⟩ (ds++[(false,args.flatMap (reachW h frzDepth),u.map (·.1))]):=rfl
theorem dfsk_bare {args:List AV} (v:AV) (u:WUpd):DFSK C base fin k a un l nid d e h n ds true args (some (v,u))=DBSK C base fin k a un l nid d e h n ds args v u (bareXW (v,u)):=rfl
theorem dfsk_some {args:List AV} (v:AV) (u:WUpd):DFSK C base fin k a un l nid d e h n ds false args (some (v,u))=DK C base fin k a un l nid ⟨setD e d v,applyW h (markFrozenW h (args.flatMap (reachW h frzDepth))++u),n⟩ (ds++[(false,args.flatMap (reachW h frzDepth),(markFrozenW h (args.flatMap (reachW h frzDepth))++u).map (·.1))]):=rfl
theorem dfk_ptr {f:Nat} {args:List AV}:DFK C base fin k a un l nid d e h n ds f args false true=DWK C base fin k a un l nid d e ds (RnW C f args h n):=rfl
theorem dqk_fn {f:Nat} {args caps:List AV}:DQK C base fin k a un l nid d e h n ds args (.fn f caps)=DFK C base fin k a un l nid d e h n ds f (args++caps) (C.inl f) (!C.pp f&&hasPtrL (args++caps)):=rfl
theorem dfk_eq {f:Nat} {args:List AV}:(ob (om (evCallW C (RnW C) f args h (nid - 1) n) (doneCallW h n args)) fun r=>DK C base fin k a un l nid ⟨setD e d r.v,r.h,r.n⟩ (ds++[rwOf r]))=DFK C base fin k a un l nid d e h n ds f args (C.inl f) (!C.pp f&&hasPtrL args):=by
 unfold DFK evCallW DIK DFPK DTK DHK DFSK DWK DPK DVK FnW
 split
 · split
   · cases mapO (frzW h frzDepth) args with
     | none=>rfl
     | some az =>
      simp only [ob]
      by_cases hdp:isDp f=true
      · simp only [if_pos hdp]
        cases RnW C f az [] n with
        | none=>rfl
        | some r =>
         simp only [deepKeepW,deepUW]
         by_cases hdb:isDb f=true
         · simp only [if_pos hdb]
           unfold DHBK
           by_cases hk:keptXW r.2.1 r.1 (reachW r.2.1 frzDepth r.1)=true
           · simp only [if_pos hk];rfl
           · simp only [if_neg hk];rfl
         · simp only [if_neg hdb];rfl
      simp only [if_neg hdp]
      cases freshCallW (RnW C) f az (nid - 1) with
      | none=>rfl
      | some x =>
       dsimp only [ob]
       unfold freshEndW freshUW DBSK
       cases isBr f
       · rfl
       · cases bareXW x <;> rfl
   · cases RnW C f args h n <;> rfl
 · split
   · cases RnW C f args h n <;> rfl
   · cases mapO (frzW h frzDepth) args with
     | none=>rfl
     | some az =>
      simp only [ob]
      cases pureCallW (RnW C) f az <;> rfl
theorem dk_call {f:Nat} {xs:List Opd}:DK C base fin k a un (⟨d,none,.call f xs⟩::l) nid ⟨e,h,n⟩ ds=DFK C base fin k a un l (nid+1) d e h n ds f (xs.map fun x=>x.ev e) (C.inl f) (!C.pp f&&hasPtrL (xs.map fun x=>x.ev e)):=by
 rw [← dfk_eq,dk_cons]
 simp only [evOpW,wants,evActW,callOf,Nat.add_sub_cancel]
theorem dk_callv {g:Opd} {xs:List Opd}:DK C base fin k a un (⟨d,none,.callv g xs⟩::l) nid ⟨e,h,n⟩ ds=DQK C base fin k a un l (nid+1) d e h n ds (xs.map fun x=>x.ev e) (g.ev e):=by
 unfold DQK
 rw [dk_cons]
 cases hg:g.ev e with
 | fn f caps =>
  simp only
  rw [← dfk_eq]
  simp only [evOpW,wants,evActW,callOf,hg,Nat.add_sub_cancel]
 | _ =>
  simp only [evOpW,wants,evActW,callOf,hg]
  rfl
theorem fnW_eq {f:Nat} {fn:WFn} (hf:C.fns.get f=some fn) {args:List AV} (hl:args.length=fn.np):FnW C f args=CK C 0 (pureFin fn.res) [] fn.body ⟨argW 0 args [],[],0⟩:=by
 unfold FnW pureCallW RnW runWithW CK pureFin
 rw [hf]
 simp only [ob,if_pos hl,RK]
 cases CdW C 0 fn.body ⟨argW 0 args [],[],0⟩ with
 | none=>rfl
 | some r=>rfl
theorem rnW_eq {f:Nat} {fn:WFn} (hf:C.fns.get f=some fn) {args:List AV} (hl:args.length=fn.np) (h:WHeap) (n:Nat):RnW C f args h n=CK C n (fnEndW fn.res) [] fn.body ⟨argW 0 args [],h,n⟩:=by
 unfold RnW runWithW CK
 rw [hf]
 simp only [ob,if_pos hl,RK]
end
end Go.Pw
end
section
namespace Go.Pw
open Go Go.Pav
attribute [simp] ck_prim primF primAfter primN primArgs ck_seq ck_skip ck_exit ck_ret ck_cond ck_block ck_ops ck_draw nk_nil nk_sq nk_sq_exit nk_sq_ret nk_lp_exit nk_lp_ret nk_bk nk_bk_exit nk_bk_ret ak_some lk_some
 ok_nil sk_some gk_tup ok_guard vk_some wk_some pk_some fk_pure fk_inl fk_ptr qk_fn ok_call ok_callv dk_nil ek_true dsk_some dgk_tup dk_guard dvk_some dwk_some dpk_some dfk_pure dfk_inl dfk_ptr dqk_fn dk_call dk_callv ik_false ik_true fpk_some fsk_some fsk_bare bsk_true dfsk_bare dbsk_true isBr bareXW bareOW bareV bareL dik_false dik_true dfpk_some dfsk_some isFr isDp tk_false tk_true hk_some hk_bare hbk_true dtk_false dtk_true dhk_some dhk_bare dhbk_true isDb keptXW keptOW keptV keptL
attribute [simp high] condK_true condK_false gk_true_true gk_false_false gk_true_false gk_false_true dgk_true_true dgk_false_false dgk_true_false dgk_false_true
attribute [simp low] condK_bool gk_bool dgk_bool
section
variable {β:Type} {C:WProg} {base:Nat} {fin:Ex × WSt→Option β} {k:List Frame} {a:Ann} {l:List COper} {d:Option Nat} {e:Env} {h:WHeap} {n:Nat} {un:List (Nat × Nat)} {nid:Nat} {ds:List RW}
@[simp] theorem ok_mv {x:Opd}:OK C base fin k a (⟨d,none,.mv x⟩::l) ⟨e,h,n⟩=OK C base fin k a l ⟨setD e d (x.ev e),h,n+1⟩:=by rw [ok_step rfl];rfl
@[simp] theorem ok_pick {c x y:Opd}:OK C base fin k a (⟨d,none,.pick c x y⟩::l) ⟨e,h,n⟩=SK C base fin k a l d e h (n+1) (stepW (.pick c x y) e h n):=ok_step rfl
@[simp] theorem ok_alloc {z:List AV}:OK C base fin k a (⟨d,none,.alloc z⟩::l) ⟨e,h,n⟩=SK C base fin k a l d e h (n+1) (stepW (.alloc z) e h n):=ok_step rfl
@[simp] theorem ok_box {x:Opd}:OK C base fin k a (⟨d,none,.box x⟩::l) ⟨e,h,n⟩=SK C base fin k a l d e h (n+1) (stepW (.box x) e h n):=ok_step rfl
@[simp] theorem ok_build {z:List AV} {ps:List (Nat × Nat × Opd)}:OK C base fin k a (⟨d,none,.build z ps⟩::l) ⟨e,h,n⟩=SK C base fin k a l d e h (n+1) (stepW (.build z ps) e h n):=ok_step rfl
@[simp] theorem ok_buildS {z:List AV} {m:Nat} {ps:List (Nat × Opd)}:OK C base fin k a (⟨d,none,.buildS z m ps⟩::l) ⟨e,h,n⟩=SK C base fin k a l d e h (n+1) (stepW (.buildS z m ps) e h n):=ok_step rfl
@[simp] theorem ok_load {m:Nat} {ag:Bool} {x:Opd}:OK C base fin k a (⟨d,none,.load m ag x⟩::l) ⟨e,h,n⟩=SK C base fin k a l d e h (n+1) (stepW (.load m ag x) e h n):=ok_step rfl
@[simp] theorem ok_store {m:Nat} {x y:Opd}:OK C base fin k a (⟨d,none,.store m x y⟩::l) ⟨e,h,n⟩=SK C base fin k a l d e h (n+1) (stepW (.store m x y) e h n):=ok_step rfl
@[simp] theorem ok_nilchk {x:Opd}:OK C base fin k a (⟨d,none,.nilchk x⟩::l) ⟨e,h,n⟩=SK C base fin k a l d e h (n+1) (stepW (.nilchk x) e h n):=ok_step rfl
@[simp] theorem ok_bin {op:BinOp} {x y:Opd}:OK C base fin k a (⟨d,none,.bin op x y⟩::l) ⟨e,h,n⟩=SK C base fin k a l d e h (n+1) (stepW (.bin op x y) e h n):=ok_step rfl
@[simp] theorem ok_eqv {kd:Nat} {ks:List Nat} {ne:Bool} {x y:Opd}:OK C base fin k a (⟨d,none,.eqv kd ks ne x y⟩::l) ⟨e,h,n⟩=SK C base fin k a l d e h (n+1) (stepW (.eqv kd ks ne x y) e h n):=ok_step rfl
@[simp] theorem ok_un {op:UnOp} {x:Opd}:OK C base fin k a (⟨d,none,.un op x⟩::l) ⟨e,h,n⟩=SK C base fin k a l d e h (n+1) (stepW (.un op x) e h n):=ok_step rfl
@[simp] theorem ok_cvt {kk:IntKind} {x:Opd}:OK C base fin k a (⟨d,none,.cvt kk x⟩::l) ⟨e,h,n⟩=SK C base fin k a l d e h (n+1) (stepW (.cvt kk x) e h n):=ok_step rfl
@[simp] theorem ok_cvs {x:Opd}:OK C base fin k a (⟨d,none,.cvs x⟩::l) ⟨e,h,n⟩=SK C base fin k a l d e h (n+1) (stepW (.cvs x) e h n):=ok_step rfl
@[simp] theorem ok_cvb {x:Opd}:OK C base fin k a (⟨d,none,.cvb x⟩::l) ⟨e,h,n⟩=SK C base fin k a l d e h (n+1) (stepW (.cvb x) e h n):=ok_step rfl
@[simp] theorem ok_mkfn {f:Nat} {xs:List Opd}:OK C base fin k a (⟨d,none,.mkfn f xs⟩::l) ⟨e,h,n⟩=SK C base fin k a l d e h (n+1) (stepW (.mkfn f xs) e h n):=ok_step rfl
@[simp] theorem ok_mkmap:OK C base fin k a (⟨d,none,.mkmap⟩::l) ⟨e,h,n⟩=SK C base fin k a l d e h (n+1) (stepW .mkmap e h n):=ok_step rfl
@[simp] theorem ok_mksl {z:List AV} {b:Nat} {x y:Opd}:OK C base fin k a (⟨d,none,.mksl z b x y⟩::l) ⟨e,h,n⟩=SK C base fin k a l d e h (n+1) (stepW (.mksl z b x y) e h n):=ok_step rfl
@[simp] theorem ok_slice {z:Nat} {x:Opd} {lo hi mx:Option Opd}:OK C base fin k a (⟨d,none,.slice z x lo hi mx⟩::l) ⟨e,h,n⟩=SK C base fin k a l d e h (n+1) (stepW (.slice z x lo hi mx) e h n):=ok_step rfl
@[simp] theorem ok_sliceA {z:Nat} {x:Opd} {lo hi:Option Opd}:OK C base fin k a (⟨d,none,.sliceA z x lo hi⟩::l) ⟨e,h,n⟩=SK C base fin k a l d e h (n+1) (stepW (.sliceA z x lo hi) e h n):=ok_step rfl
@[simp] theorem ok_fld {o:Nat} {x:Opd}:OK C base fin k a (⟨d,none,.fld o x⟩::l) ⟨e,h,n⟩=SK C base fin k a l d e h (n+1) (stepW (.fld o x) e h n):=ok_step rfl
@[simp] theorem ok_fldv {o m:Nat} {ag:Bool} {x:Opd}:OK C base fin k a (⟨d,none,.fldv o m ag x⟩::l) ⟨e,h,n⟩=SK C base fin k a l d e h (n+1) (stepW (.fldv o m ag x) e h n):=ok_step rfl
@[simp] theorem ok_idxs {z:Nat} {x y:Opd}:OK C base fin k a (⟨d,none,.idxs z x y⟩::l) ⟨e,h,n⟩=SK C base fin k a l d e h (n+1) (stepW (.idxs z x y) e h n):=ok_step rfl
@[simp] theorem ok_idxa {m z:Nat} {x y:Opd}:OK C base fin k a (⟨d,none,.idxa m z x y⟩::l) ⟨e,h,n⟩=SK C base fin k a l d e h (n+1) (stepW (.idxa m z x y) e h n):=ok_step rfl
@[simp] theorem ok_idxstr {x y:Opd}:OK C base fin k a (⟨d,none,.idxstr x y⟩::l) ⟨e,h,n⟩=SK C base fin k a l d e h (n+1) (stepW (.idxstr x y) e h n):=ok_step rfl
@[simp] theorem ok_idxv {m z:Nat} {ag:Bool} {x y:Opd}:OK C base fin k a (⟨d,none,.idxv m z ag x y⟩::l) ⟨e,h,n⟩=SK C base fin k a l d e h (n+1) (stepW (.idxv m z ag x y) e h n):=ok_step rfl
@[simp] theorem ok_look {kd:Nat} {z:AV} {ok:Bool} {x y:Opd}:OK C base fin k a (⟨d,none,.look kd z ok x y⟩::l) ⟨e,h,n⟩=SK C base fin k a l d e h (n+1) (stepW (.look kd z ok x y) e h n):=ok_step rfl
@[simp] theorem ok_upd {kd:Nat} {x y z:Opd}:OK C base fin k a (⟨d,none,.upd kd x y z⟩::l) ⟨e,h,n⟩=SK C base fin k a l d e h (n+1) (stepW (.upd kd x y z) e h n):=ok_step rfl
@[simp] theorem ok_range {x:Opd}:OK C base fin k a (⟨d,none,.range x⟩::l) ⟨e,h,n⟩=SK C base fin k a l d e h (n+1) (stepW (.range x) e h n):=ok_step rfl
@[simp] theorem ok_next {x:Opd}:OK C base fin k a (⟨d,none,.next x⟩::l) ⟨e,h,n⟩=SK C base fin k a l d e h (n+1) (stepW (.next x) e h n):=ok_step rfl
@[simp] theorem ok_ext {i:Nat} {x:Opd}:OK C base fin k a (⟨d,none,.ext i x⟩::l) ⟨e,h,n⟩=SK C base fin k a l d e h (n+1) (stepW (.ext i x) e h n):=ok_step rfl
@[simp] theorem ok_len {kd:Nat} {x:Opd}:OK C base fin k a (⟨d,none,.len kd x⟩::l) ⟨e,h,n⟩=SK C base fin k a l d e h (n+1) (stepW (.len kd x) e h n):=ok_step rfl
@[simp] theorem ok_cap {x:Opd}:OK C base fin k a (⟨d,none,.cap x⟩::l) ⟨e,h,n⟩=SK C base fin k a l d e h (n+1) (stepW (.cap x) e h n):=ok_step rfl
@[simp] theorem ok_app {z:List AV} {b:Nat} {zs:Bool} {x y:Opd}:OK C base fin k a (⟨d,none,.app z b zs x y⟩::l) ⟨e,h,n⟩=SK C base fin k a l d e h (n+1) (stepW (.app z b zs x y) e h n):=ok_step rfl
@[simp] theorem ok_cpy {z:Nat} {x y:Opd}:OK C base fin k a (⟨d,none,.cpy z x y⟩::l) ⟨e,h,n⟩=SK C base fin k a l d e h (n+1) (stepW (.cpy z x y) e h n):=ok_step rfl
@[simp] theorem ok_clr {z:List AV} {x:Opd}:OK C base fin k a (⟨d,none,.clr z x⟩::l) ⟨e,h,n⟩=SK C base fin k a l d e h (n+1) (stepW (.clr z x) e h n):=ok_step rfl
@[simp] theorem ok_mx {x y:Opd}:OK C base fin k a (⟨d,none,.mx x y⟩::l) ⟨e,h,n⟩=SK C base fin k a l d e h (n+1) (stepW (.mx x y) e h n):=ok_step rfl
@[simp] theorem ok_mn {x y:Opd}:OK C base fin k a (⟨d,none,.mn x y⟩::l) ⟨e,h,n⟩=SK C base fin k a l d e h (n+1) (stepW (.mn x y) e h n):=ok_step rfl
@[simp] theorem dk_mv {x:Opd}:DK C base fin k a un (⟨d,none,.mv x⟩::l) nid ⟨e,h,n⟩ ds=DSK C base fin k a un l (nid+1) d e h n ds (readsOf e (.mv x)) (stepW (.mv x) e h nid):=dk_step rfl
@[simp] theorem dk_pick {c x y:Opd}:DK C base fin k a un (⟨d,none,.pick c x y⟩::l) nid ⟨e,h,n⟩ ds=DSK C base fin k a un l (nid+1) d e h n ds (readsOf e (.pick c x y)) (stepW (.pick c x y) e h nid):=dk_step rfl
@[simp] theorem dk_alloc {z:List AV}:DK C base fin k a un (⟨d,none,.alloc z⟩::l) nid ⟨e,h,n⟩ ds=DSK C base fin k a un l (nid+1) d e h n ds (readsOf e (.alloc z)) (stepW (.alloc z) e h nid):=dk_step rfl
@[simp] theorem dk_box {x:Opd}:DK C base fin k a un (⟨d,none,.box x⟩::l) nid ⟨e,h,n⟩ ds=DSK C base fin k a un l (nid+1) d e h n ds (readsOf e (.box x)) (stepW (.box x) e h nid):=dk_step rfl
@[simp] theorem dk_build {z:List AV} {ps:List (Nat × Nat × Opd)}:DK C base fin k a un (⟨d,none,.build z ps⟩::l) nid ⟨e,h,n⟩ ds=DSK C base fin k a un l (nid+1) d e h n ds (readsOf e (.build z ps)) (stepW (.build z ps) e h nid):=dk_step rfl
@[simp] theorem dk_buildS {z:List AV} {m:Nat} {ps:List (Nat × Opd)}:DK C base fin k a un (⟨d,none,.buildS z m ps⟩::l) nid ⟨e,h,n⟩ ds=DSK C base fin k a un l (nid+1) d e h n ds (readsOf e (.buildS z m ps)) (stepW (.buildS z m ps) e h nid):=dk_step rfl
@[simp] theorem dk_load {m:Nat} {ag:Bool} {x:Opd}:DK C base fin k a un (⟨d,none,.load m ag x⟩::l) nid ⟨e,h,n⟩ ds=DSK C base fin k a un l (nid+1) d e h n ds (readsOf e (.load m ag x)) (stepW (.load m ag x) e h nid):=dk_step rfl
@[simp] theorem dk_store {m:Nat} {x y:Opd}:DK C base fin k a un (⟨d,none,.store m x y⟩::l) nid ⟨e,h,n⟩ ds=DSK C base fin k a un l (nid+1) d e h n ds (readsOf e (.store m x y)) (stepW (.store m x y) e h nid):=dk_step rfl
@[simp] theorem dk_nilchk {x:Opd}:DK C base fin k a un (⟨d,none,.nilchk x⟩::l) nid ⟨e,h,n⟩ ds=DSK C base fin k a un l (nid+1) d e h n ds (readsOf e (.nilchk x)) (stepW (.nilchk x) e h nid):=dk_step rfl
@[simp] theorem dk_bin {op:BinOp} {x y:Opd}:DK C base fin k a un (⟨d,none,.bin op x y⟩::l) nid ⟨e,h,n⟩ ds=DSK C base fin k a un l (nid+1) d e h n ds (readsOf e (.bin op x y)) (stepW (.bin op x y) e h nid):=dk_step rfl
@[simp] theorem dk_eqv {kd:Nat} {ks:List Nat} {ne:Bool} {x y:Opd}:DK C base fin k a un (⟨d,none,.eqv kd ks ne x y⟩::l) nid ⟨e,h,n⟩ ds=DSK C base fin k a un l (nid+1) d e h n ds (readsOf e (.eqv kd ks ne x y)) (stepW (.eqv kd ks ne x y) e h nid):=dk_step rfl
@[simp] theorem dk_un {op:UnOp} {x:Opd}:DK C base fin k a un (⟨d,none,.un op x⟩::l) nid ⟨e,h,n⟩ ds=DSK C base fin k a un l (nid+1) d e h n ds (readsOf e (.un op x)) (stepW (.un op x) e h nid):=dk_step rfl
@[simp] theorem dk_cvt {kk:IntKind} {x:Opd}:DK C base fin k a un (⟨d,none,.cvt kk x⟩::l) nid ⟨e,h,n⟩ ds=DSK C base fin k a un l (nid+1) d e h n ds (readsOf e (.cvt kk x)) (stepW (.cvt kk x) e h nid):=dk_step rfl
@[simp] theorem dk_cvs {x:Opd}:DK C base fin k a un (⟨d,none,.cvs x⟩::l) nid ⟨e,h,n⟩ ds=DSK C base fin k a un l (nid+1) d e h n ds (readsOf e (.cvs x)) (stepW (.cvs x) e h nid):=dk_step rfl
@[simp] theorem dk_cvb {x:Opd}:DK C base fin k a un (⟨d,none,.cvb x⟩::l) nid ⟨e,h,n⟩ ds=DSK C base fin k a un l (nid+1) d e h n ds (readsOf e (.cvb x)) (stepW (.cvb x) e h nid):=dk_step rfl
@[simp] theorem dk_mkfn {f:Nat} {xs:List Opd}:DK C base fin k a un (⟨d,none,.mkfn f xs⟩::l) nid ⟨e,h,n⟩ ds=DSK C base fin k a un l (nid+1) d e h n ds (readsOf e (.mkfn f xs)) (stepW (.mkfn f xs) e h nid):=dk_step rfl
@[simp] theorem dk_mkmap:DK C base fin k a un (⟨d,none,.mkmap⟩::l) nid ⟨e,h,n⟩ ds=DSK C base fin k a un l (nid+1) d e h n ds (readsOf e (.mkmap)) (stepW (.mkmap) e h nid):=dk_step rfl
@[simp] theorem dk_mksl {z:List AV} {b:Nat} {x y:Opd}:DK C base fin k a un (⟨d,none,.mksl z b x y⟩::l) nid ⟨e,h,n⟩ ds=DSK C base fin k a un l (nid+1) d e h n ds (readsOf e (.mksl z b x y)) (stepW (.mksl z b x y) e h nid):=dk_step rfl
@[simp] theorem dk_slice {z:Nat} {x:Opd} {lo hi mx:Option Opd}:DK C base fin k a un (⟨d,none,.slice z x lo hi mx⟩::l) nid ⟨e,h,n⟩ ds=DSK C base fin k a un l (nid+1) d e h n ds (readsOf e (.slice z x lo hi mx)) (stepW (.slice z x lo hi mx) e h nid):=dk_step rfl
@[simp] theorem dk_sliceA {z:Nat} {x:Opd} {lo hi:Option Opd}:DK C base fin k a un (⟨d,none,.sliceA z x lo hi⟩::l) nid ⟨e,h,n⟩ ds=DSK C base fin k a un l (nid+1) d e h n ds (readsOf e (.sliceA z x lo hi)) (stepW (.sliceA z x lo hi) e h nid):=dk_step rfl
@[simp] theorem dk_fld {o:Nat} {x:Opd}:DK C base fin k a un (⟨d,none,.fld o x⟩::l) nid ⟨e,h,n⟩ ds=DSK C base fin k a un l (nid+1) d e h n ds (readsOf e (.fld o x)) (stepW (.fld o x) e h nid):=dk_step rfl
@[simp] theorem dk_fldv {o m:Nat} {ag:Bool} {x:Opd}:DK C base fin k a un (⟨d,none,.fldv o m ag x⟩::l) nid ⟨e,h,n⟩ ds=DSK C base fin k a un l (nid+1) d e h n ds (readsOf e (.fldv o m ag x)) (stepW (.fldv o m ag x) e h nid):=dk_step rfl
@[simp] theorem dk_idxs {z:Nat} {x y:Opd}:DK C base fin k a un (⟨d,none,.idxs z x y⟩::l) nid ⟨e,h,n⟩ ds=DSK C base fin k a un l (nid+1) d e h n ds (readsOf e (.idxs z x y)) (stepW (.idxs z x y) e h nid):=dk_step rfl
@[simp] theorem dk_idxa {m z:Nat} {x y:Opd}:DK C base fin k a un (⟨d,none,.idxa m z x y⟩::l) nid ⟨e,h,n⟩ ds=DSK C base fin k a un l (nid+1) d e h n ds (readsOf e (.idxa m z x y)) (stepW (.idxa m z x y) e h nid):=dk_step rfl
@[simp] theorem dk_idxstr {x y:Opd}:DK C base fin k a un (⟨d,none,.idxstr x y⟩::l) nid ⟨e,h,n⟩ ds=DSK C base fin k a un l (nid+1) d e h n ds (readsOf e (.idxstr x y)) (stepW (.idxstr x y) e h nid):=dk_step rfl
@[simp] theorem dk_idxv {m z:Nat} {ag:Bool} {x y:Opd}:DK C base fin k a un (⟨d,none,.idxv m z ag x y⟩::l) nid ⟨e,h,n⟩ ds=DSK C base fin k a un l (nid+1) d e h n ds (readsOf e (.idxv m z ag x y)) (stepW (.idxv m z ag x y) e h nid):=dk_step rfl
@[simp] theorem dk_look {kd:Nat} {z:AV} {ok:Bool} {x y:Opd}:DK C base fin k a un (⟨d,none,.look kd z ok x y⟩::l) nid ⟨e,h,n⟩ ds=DSK C base fin k a un l (nid+1) d e h n ds (readsOf e (.look kd z ok x y)) (stepW (.look kd z ok x y) e h nid):=dk_step rfl
@[simp] theorem dk_upd {kd:Nat} {x y z:Opd}:DK C base fin k a un (⟨d,none,.upd kd x y z⟩::l) nid ⟨e,h,n⟩ ds=DSK C base fin k a un l (nid+1) d e h n ds (readsOf e (.upd kd x y z)) (stepW (.upd kd x y z) e h nid):=dk_step rfl
@[simp] theorem dk_range {x:Opd}:DK C base fin k a un (⟨d,none,.range x⟩::l) nid ⟨e,h,n⟩ ds=DSK C base fin k a un l (nid+1) d e h n ds (readsOf e (.range x)) (stepW (.range x) e h nid):=dk_step rfl
@[simp] theorem dk_next {x:Opd}:DK C base fin k a un (⟨d,none,.next x⟩::l) nid ⟨e,h,n⟩ ds=DSK C base fin k a un l (nid+1) d e h n ds (readsOf e (.next x)) (stepW (.next x) e h nid):=dk_step rfl
@[simp] theorem dk_ext {i:Nat} {x:Opd}:DK C base fin k a un (⟨d,none,.ext i x⟩::l) nid ⟨e,h,n⟩ ds=DSK C base fin k a un l (nid+1) d e h n ds (readsOf e (.ext i x)) (stepW (.ext i x) e h nid):=dk_step rfl
@[simp] theorem dk_len {kd:Nat} {x:Opd}:DK C base fin k a un (⟨d,none,.len kd x⟩::l) nid ⟨e,h,n⟩ ds=DSK C base fin k a un l (nid+1) d e h n ds (readsOf e (.len kd x)) (stepW (.len kd x) e h nid):=dk_step rfl
@[simp] theorem dk_cap {x:Opd}:DK C base fin k a un (⟨d,none,.cap x⟩::l) nid ⟨e,h,n⟩ ds=DSK C base fin k a un l (nid+1) d e h n ds (readsOf e (.cap x)) (stepW (.cap x) e h nid):=dk_step rfl
@[simp] theorem dk_app {z:List AV} {b:Nat} {zs:Bool} {x y:Opd}:DK C base fin k a un (⟨d,none,.app z b zs x y⟩::l) nid ⟨e,h,n⟩ ds=DSK C base fin k a un l (nid+1) d e h n ds (readsOf e (.app z b zs x y)) (stepW (.app z b zs x y) e h nid):=dk_step rfl
@[simp] theorem dk_cpy {z:Nat} {x y:Opd}:DK C base fin k a un (⟨d,none,.cpy z x y⟩::l) nid ⟨e,h,n⟩ ds=DSK C base fin k a un l (nid+1) d e h n ds (readsOf e (.cpy z x y)) (stepW (.cpy z x y) e h nid):=dk_step rfl
@[simp] theorem dk_clr {z:List AV} {x:Opd}:DK C base fin k a un (⟨d,none,.clr z x⟩::l) nid ⟨e,h,n⟩ ds=DSK C base fin k a un l (nid+1) d e h n ds (readsOf e (.clr z x)) (stepW (.clr z x) e h nid):=dk_step rfl
@[simp] theorem dk_mx {x y:Opd}:DK C base fin k a un (⟨d,none,.mx x y⟩::l) nid ⟨e,h,n⟩ ds=DSK C base fin k a un l (nid+1) d e h n ds (readsOf e (.mx x y)) (stepW (.mx x y) e h nid):=dk_step rfl
@[simp] theorem dk_mn {x y:Opd}:DK C base fin k a un (⟨d,none,.mn x y⟩::l) nid ⟨e,h,n⟩ ds=DSK C base fin k a un l (nid+1) d e h n ds (readsOf e (.mn x y)) (stepW (.mn x y) e h nid):=dk_step rfl
end
@[simp] theorem nat?_cast (n:Nat):nat? (n:Int)=some n:=rfl
@[simp] theorem nat?_zero:nat? 0=some 0:=rfl
@[simp] theorem nat?_one:nat? 1=some 1:=rfl
@[simp] theorem nat?_lit (n:Nat):nat? (no_index (OfNat.ofNat n):Int)=some n:=rfl
@[simp] theorem nat?_add (n m:Nat):nat? ((n:Int)+(m:Int))=some (n+m):=rfl
@[simp] theorem nat?_add_lit (n m:Nat):nat? ((n:Int)+(no_index (OfNat.ofNat m):Int))=some (n+m):=rfl
theorem wI64 {x:Int} (h1:-9223372036854775808≤x) (h2:x < 9223372036854775808):IntKind.i64.wrap x=x:=by
 show (if (true&&decide (x % 18446744073709551616 ≥ 9223372036854775808))=true then x % 18446744073709551616 - 18446744073709551616 else x % 18446744073709551616)=x
 simp only [Bool.true_and,decide_eq_true_eq]
 split <;> omega
theorem wU64 {x:Int} (h1:0≤x) (h2:x < 18446744073709551616):IntKind.u64.wrap x=x:=by
 show (if (false&&decide (x % 18446744073709551616 ≥ 9223372036854775808))=true then x % 18446744073709551616 - 18446744073709551616 else x % 18446744073709551616)=x
 simp only [Bool.false_and,Bool.false_eq_true,if_false]
 omega
theorem wU8 {x:Int} (h1:0≤x) (h2:x < 256):IntKind.u8.wrap x=x:=by
 show (if (false&&decide (x % 256 ≥ 128))=true then x % 256 - 256 else x % 256)=x
 simp only [Bool.false_and,Bool.false_eq_true,if_false]
 omega
@[simp ↓] theorem ob_s {α β:Type} (a:α) (f:α→Option β):ob (some a) f=f a:=rfl
@[simp] theorem resOf_tmp (e:Env) (h:WHeap) (t:Nat):resOfW e h (.tmp t)=Pav.get e t:=rfl
def cellOf (h:WHeap) (n:Nat) (ag:Bool):Option AV→Option AV
 | some (.ptr b i o)=>wLoadAt n ag o i (Pav.get h b)
 | _=>none
@[simp] theorem resOf_cell (e:Env) (h:WHeap) (t n:Nat) (ag:Bool):resOfW e h (.cell t n ag)=cellOf h n ag (Pav.get e t):=rfl
attribute [simp] cellOf
@[simp] theorem ev_t (s:Nat) (e:Env):(Opd.t s).ev e=(Pav.get e s).getD .undef:=rfl
@[simp] theorem ev_c (v:AV) (e:Env):(Opd.c v).ev e=v:=rfl
@[simp ↓] theorem ob_n {α β:Type} (f:α→Option β):ob none f=none:=rfl
@[simp ↓] theorem om_s {α β:Type} (a:α) (f:α→β):om (some a) f=some (f a):=rfl
@[simp ↓] theorem om_n {α β:Type} (f:α→β):om none f=none:=rfl
@[simp] theorem og_t {β:Type} (x:Option β):og true x=x:=rfl
@[simp] theorem og_f {β:Type} (x:Option β):og false x=none:=rfl
@[simp] theorem ov_s (v:AV):ov (some v)=some (v,[]):=rfl
@[simp] theorem ovW_s (v:AV):ovW (some v)=some (v,[]):=rfl
@[simp] theorem plainW_s (x:AV × Upd):plainW (some x)=some (x.1,[]):=rfl
def consO {α:Type}:Option α→Option (List α)→Option (List α)
 | some a,some l=>some (a::l)
 | _,_=>none
@[simp] theorem consO_s {α:Type} (a:α) (l:List α):consO (some a) (some l)=some (a::l):=rfl
@[simp] theorem mapO_nil {α β:Type} (f:α→Option β):mapO f []=some []:=rfl
@[simp] theorem mapO_cons {α β:Type} (f:α→Option β) (a:α) (r:List α):mapO f (a::r)=consO (f a) (mapO f r):=by
 simp only [mapO];cases f a <;> cases mapO f r <;> rfl
def consE (k:Nat):Option AV→Option Env→Option Env
 | some v,some r=>some ((k,v)::r)
 | _,_=>none
@[simp] theorem consE_s (k:Nat) (v:AV) (r:Env):consE k (some v) (some r)=some ((k,v)::r):=rfl
@[simp] theorem renEnv_nil (π:Nat→Option Nat):renEnv π []=some []:=rfl
@[simp] theorem renEnv_cons (π:Nat→Option Nat) (k:Nat) (v:AV) (r:Env):renEnv π ((k,v)::r)=consE k (ren π v) (renEnv π r):=by
 simp only [renEnv];cases ren π v <;> cases renEnv π r <;> rfl
def ptrO (i o:Nat):Option Nat→Option AV
 | some b=>some (.ptr b i o)
 | none=>none
def slO (z i l c:Nat) (ex:Bool):Option Nat→Option AV
 | some b=>some (.sl b z i l c ex)
 | none=>none
def mapV:Option Nat→Option AV
 | some b=>some (.map b)
 | none=>none
def fnO (f:Nat):Option (List AV)→Option AV
 | some cs=>some (.fn f cs)
 | none=>none
def aggO:Option (List AV)→Option AV
 | some cs=>some (.agg cs)
 | none=>none
def tupO:Option (List AV)→Option AV
 | some cs=>some (.tup cs)
 | none=>none
@[simp] theorem ptrO_s (i o b:Nat):ptrO i o (some b)=some (.ptr b i o):=rfl
@[simp] theorem slO_s (z i l c:Nat) (ex:Bool) (b:Nat):slO z i l c ex (some b)=some (.sl b z i l c ex):=rfl
@[simp] theorem mapV_s (b:Nat):mapV (some b)=some (.map b):=rfl
@[simp] theorem fnO_s (f:Nat) (cs:List AV):fnO f (some cs)=some (.fn f cs):=rfl
@[simp] theorem aggO_s (cs:List AV):aggO (some cs)=some (.agg cs):=rfl
@[simp] theorem tupO_s (cs:List AV):tupO (some cs)=some (.tup cs):=rfl
section
variable (π:Nat→Option Nat)
@[simp] theorem ren_ptr (b i o:Nat):ren π (.ptr b i o)=ptrO i o (π b):=by simp only [ren];cases π b <;> rfl
@[simp] theorem ren_sl (b z i l c:Nat) (ex:Bool):ren π (.sl b z i l c ex)=slO z i l c ex (π b):=by simp only [ren];cases π b <;> rfl
@[simp] theorem ren_map (b:Nat):ren π (.map b)=mapV (π b):=by simp only [ren];cases π b <;> rfl
@[simp] theorem ren_fn (f:Nat) (cs:List AV):ren π (.fn f cs)=fnO f (renL π cs):=by simp only [ren];cases renL π cs <;> rfl
@[simp] theorem ren_agg (cs:List AV):ren π (.agg cs)=aggO (renL π cs):=by simp only [ren];cases renL π cs <;> rfl
@[simp] theorem ren_tup (cs:List AV):ren π (.tup cs)=tupO (renL π cs):=by simp only [ren];cases renL π cs <;> rfl
@[simp] theorem ren_undef:ren π .undef=some .undef:=rfl
@[simp] theorem ren_bool (b:Bool):ren π (.bool b)=some (.bool b):=rfl
@[simp] theorem ren_int (k:IntKind) (n:Int):ren π (.int k n)=some (.int k n):=rfl
@[simp] theorem ren_str (s:List UInt8):ren π (.str s)=some (.str s):=rfl
@[simp] theorem ren_nilp:ren π .nilp=some .nilp:=rfl
@[simp] theorem ren_nils:ren π .nils=some .nils:=rfl
@[simp] theorem ren_nilm:ren π .nilm=some .nilm:=rfl
@[simp] theorem ren_nilf:ren π .nilf=some .nilf:=rfl
@[simp] theorem ren_ro (z:Nat) (es:List (List AV)) (ex:Bool):ren π (.ro z es ex)=some (.ro z es ex):=rfl
@[simp] theorem ren_rop (cs:List AV):ren π (.rop cs)=some (.rop cs):=rfl
@[simp] theorem renL_nil:renL π []=some []:=rfl
@[simp] theorem renL_cons (v:AV) (r:List AV):renL π (v::r)=consO (ren π v) (renL π r):=by simp only [renL];cases ren π v <;> cases renL π r <;> rfl
def cellsO (z:Nat) (mu dt:Bool):Option (List (List AV))→Option WObj
 | some es=>some (.cells z es mu dt)
 | none=>none
@[simp] theorem cellsO_s (z:Nat) (mu dt:Bool) (es:List (List AV)):cellsO z mu dt (some es)=some (.cells z es mu dt):=rfl
@[simp] theorem renObj_dt (z:Nat) (es:List (List AV)) (mu:Bool):renObj π (.cells z es mu true)=some (.cells z es mu true):=rfl
@[simp] theorem renObj_nd (z:Nat) (es:List (List AV)) (mu:Bool):renObj π (.cells z es mu false)=cellsO z mu false (mapO (renL π) es):=by simp only [renObj];cases mapO (renL π) es <;> rfl
@[simp] theorem renObj_map (es:List (AV × AV)):renObj π (.map es)=some (.map es):=rfl
@[simp] theorem renObj_iter (s:List UInt8) (p:Nat):renObj π (.iter s p)=some (.iter s p):=rfl
def consH (k:Nat):Option WObj→Option WHeap→Option WHeap
 | some v,some r=>some ((k,v)::r)
 | _,_=>none
@[simp] theorem consH_s (k:Nat) (v:WObj) (r:WHeap):consH k (some v) (some r)=some ((k,v)::r):=rfl
@[simp] theorem renOld_nil (base:Nat):renOld base π []=some []:=rfl
@[simp] theorem renOld_cons (base b:Nat) (o:WObj) (r:WHeap):renOld base π ((b,o)::r)=if b < base then consH b (renObj π o) (renOld base π r) else renOld base π r:=by
 simp only [renOld]
 split
 · cases renObj π o <;> cases renOld base π r <;> rfl
 · rfl
def newH (n:Nat) (π:Nat→Option Nat) (r:Option WHeap):Option WObj→Option WHeap
 | some o=>consH n (renObj π o) r
 | none=>r
@[simp] theorem newH_s (n:Nat) (r:Option WHeap) (o:WObj):newH n π r (some o)=consH n (renObj π o) r:=rfl
@[simp] theorem newH_n (n:Nat) (r:Option WHeap):newH n π r none=r:=rfl
@[simp] theorem renNew_nil (h:WHeap) (n:Nat):renNew π h n []=some []:=rfl
@[simp] theorem renNew_cons (h:WHeap) (n b:Nat) (r:List Nat):renNew π h n (b::r)=newH n π (renNew π h (n+1) r) (Pav.get h b):=by
 simp only [renNew,newH]
 cases Pav.get h b with
 | none=>rfl
 | some o=>simp only;cases renObj π o <;> cases renNew π h (n+1) r <;> rfl
end
def num3 (n:Nat):Option Env→Option WHeap→Option WHeap→Option WSt
 | some e,some h1,some h2=>some ⟨e,h1++h2,n⟩
 | _,_,_=>none
@[simp] theorem num3_s (n:Nat) (e:Env) (h1 h2:WHeap):num3 n (some e) (some h1) (some h2)=some ⟨e,h1++h2,n⟩:=rfl
@[simp] theorem renumber_eq (base:Nat) (s:WSt) (L:List Nat):renumber base s L=num3 (base+L.length) (renEnv (newNum base L) s.env) (renOld base (newNum base L) s.heap) (renNew (newNum base L) s.heap base L):=by
 simp only [renumber]
 cases renEnv (newNum base L) s.env <;> cases renOld base (newNum base L) s.heap <;> cases renNew (newNum base L) s.heap base L <;> rfl
def appK (h:WHeap) (nid zl bytes:Nat) (s:AV):Option (List (List AV) × Bool)→Option (AV × WUpd)
 | some (xs,d)=>wEvApp h nid zl bytes s xs d
 | none=>none
@[simp] theorem appK_s (h:WHeap) (nid zl bytes:Nat) (s:AV) (xs:List (List AV)) (d:Bool):appK h nid zl bytes s (some (xs,d))=wEvApp h nid zl bytes s xs d:=rfl
@[simp] theorem wApp_f (z:List AV) (bytes:Nat) (s x:Opd) (e:Env) (h:WHeap) (n:Nat) (hb:bytes < 1125899906842624):wApp z bytes false s x e h n=appK h n z.length bytes (s.ev e) (wElems h z.length (x.ev e)):=by
 simp only [wApp,Bool.false_eq_true,if_false,if_pos hb];cases wElems h z.length (x.ev e) <;> rfl
def zerosK (h:WHeap) (nid:Nat) (z:List AV) (bytes:Nat) (s:AV):AV→Option (AV × WUpd)
 | .int _ n=>ob (nat? n) fun n=>if n * (bytes+1)≤maxBytes then wEvApp h nid z.length bytes s (List.replicate n z) (z.all isC) else none
 | _=>none
@[simp] theorem wApp_t (z:List AV) (bytes:Nat) (s x:Opd) (e:Env) (h:WHeap) (n:Nat):wApp z bytes true s x e h n=zerosK h n z bytes (s.ev e) (x.ev e):=by
 simp only [wApp,if_true];cases x.ev e <;> rfl
def cpyK (h:WHeap) (z:Nat) (d:AV):Option (List (List AV) × Bool)→Option (AV × WUpd)
 | some (xs,b)=>wCopyIn h z xs b d
 | none=>none
@[simp] theorem cpyK_s (h:WHeap) (z:Nat) (d:AV) (xs:List (List AV)) (b:Bool):cpyK h z d (some (xs,b))=wCopyIn h z xs b d:=rfl
@[simp] theorem wCpy_eq (z:Nat) (d s:Opd) (e:Env) (h:WHeap) (n:Nat):wCpy z d s e h n=cpyK h z (d.ev e) (wElems h z (s.ev e)):=by
 simp only [wCpy];cases wElems h z (s.ev e) <;> rfl
attribute [simp] zerosK
@[simp] theorem ob_map {α β γ:Type} (x:Option α) (g:α→β) (f:β→Option γ):ob (Option.map g x) f=ob x fun a=>f (g a):=by cases x <;> rfl
section
variable (h:WHeap) (nid zl bytes:Nat) (xs:List (List AV)) (d:Bool)
@[simp] theorem wEvApp_nils:wEvApp h nid zl bytes .nils xs d=if xs.isEmpty=true then some (.nils,[]) else wNewRow nid zl xs.length bytes xs d:=by cases xs <;> rfl
@[simp] theorem wEvApp_ro (z:Nat) (es:List (List AV)) (ex:Bool):wEvApp h nid zl bytes (.ro z es ex) xs d =
 if z=zl then (if xs.isEmpty=true then some (.ro z es ex,[]) else if ex=true then wNewRow nid zl (es.length+xs.length) bytes (es++xs) d else none) else none:=by cases xs <;> rfl
@[simp] theorem wEvApp_sl (b z i len cap:Nat) (ex:Bool):wEvApp h nid zl bytes (.sl b z i len cap ex) xs d =
 if z=zl then (if xs.isEmpty=true then some (.sl b z i len cap ex,[]) else wAppSl (Pav.get h b) nid zl bytes b i len cap ex xs d (len+xs.length)) else none:=by cases xs <;> rfl
end
def frzS (h:WHeap) (n z i len cap:Nat) (ex:Bool):Option WObj→Option AV
 | some (.cells _ es _ true)=>og (decide (((es.drop i).take len).length=len)) (some (.ro z ((es.drop i).take len) (ex&&decide (cap=len))))
 | some (.cells _ es _ false)=>ob (mapO (mapO (frzW h n)) ((es.drop i).take len)) fun es'=>og (decide (es'.length=len)&&es'.all fun e=>e.all isC) (some (.ro z es' (ex&&decide (cap=len))))
 | _=>none
def frzP (h:WHeap) (n i o:Nat):Option WObj→Option AV
 | some (.cells _ es _ true)=>ob es[i]? fun cs=>some (.rop (cs.drop o))
 | some (.cells _ es _ false)=>ob es[i]? fun cs=>ob (mapO (frzW h n) (cs.drop o)) fun cs'=>some (.rop cs')
 | _=>none
def reachP (h:WHeap) (n i o:Nat):Option WObj→List Nat
 | some (.cells _ es _ false)=>((es[i]?.getD []).drop o).flatMap (reachW h n)
 | _=>[]
def reachS (h:WHeap) (n i len:Nat):Option WObj→List Nat
 | some (.cells _ es _ false)=>((es.drop i).take len).flatMap fun e=>e.flatMap (reachW h n)
 | _=>[]
section
variable (h:WHeap) (n:Nat)
@[simp] theorem frzW_bool (b:Bool):frzW h (n+1) (.bool b)=some (.bool b):=rfl
@[simp] theorem frzW_int (k:IntKind) (x:Int):frzW h (n+1) (.int k x)=some (.int k x):=rfl
@[simp] theorem frzW_str (s:List UInt8):frzW h (n+1) (.str s)=some (.str s):=rfl
@[simp] theorem frzW_nilp:frzW h (n+1) .nilp=some .nilp:=rfl
@[simp] theorem frzW_nils:frzW h (n+1) .nils=some .nils:=rfl
@[simp] theorem frzW_nilm:frzW h (n+1) .nilm=some .nilm:=rfl
@[simp] theorem frzW_nilf:frzW h (n+1) .nilf=some .nilf:=rfl
@[simp] theorem frzW_ro (z:Nat) (es:List (List AV)) (ex:Bool):frzW h (n+1) (.ro z es ex)=some (.ro z es ex):=rfl
@[simp] theorem frzW_rop (cs:List AV):frzW h (n+1) (.rop cs)=some (.rop cs):=rfl
@[simp] theorem frzW_fn (f:Nat) (cs:List AV):frzW h (n+1) (.fn f cs)=fnO f (mapO (frzW h n) cs):=by simp only [frzW];cases mapO (frzW h n) cs <;> rfl
@[simp] theorem frzW_agg (cs:List AV):frzW h (n+1) (.agg cs)=aggO (mapO (frzW h n) cs):=by simp only [frzW];cases mapO (frzW h n) cs <;> rfl
@[simp] theorem frzW_tup (cs:List AV):frzW h (n+1) (.tup cs)=tupO (mapO (frzW h n) cs):=by simp only [frzW];cases mapO (frzW h n) cs <;> rfl
@[simp] theorem frzW_sl (b z i len cap:Nat) (ex:Bool):frzW h (n+2) (.sl b z i len cap ex)=frzS h (n+1) z i len cap ex (Pav.get h b):=by
 simp only [frzW,frzS]
 split
 · rename_i hg
   rw [hg]
   rename_i dt
   cases dt <;> rfl
 · rename_i hg
   split
   · rename_i h1;exact absurd h1 (hg _ _ _ _)
   · rename_i h1;exact absurd h1 (hg _ _ _ _)
   · rfl
@[simp] theorem frzW_ptr (b i o:Nat):frzW h (n+2) (.ptr b i o)=frzP h (n+1) i o (Pav.get h b):=by
 simp only [frzW,frzP]
 split
 · rename_i hg
   rw [hg]
   rename_i es _ dt
   cases dt
   · simp only [Bool.false_eq_true,if_false]
     cases es[i]? with
     | none=>rfl
     | some cs=>simp only [ob];cases mapO (frzW h (n+1)) (cs.drop o) <;> rfl
   · rfl
 · rename_i hg
   split
   · rename_i h1;exact absurd h1 (hg _ _ _ _)
   · rename_i h1;exact absurd h1 (hg _ _ _ _)
   · rfl
@[simp] theorem reachW_ptr (b i o:Nat):reachW h (n+1) (.ptr b i o)=b::reachP h n i o (Pav.get h b):=by
 simp only [reachW,reachP]
 congr 1
 split
 · rename_i hg
   rw [hg]
   rename_i dt
   cases dt <;> rfl
 · rename_i hg
   split
   · rename_i h1;exact absurd h1 (hg _ _ _ _)
   · rfl
@[simp] theorem reachW_bool (b:Bool):reachW h (n+1) (.bool b)=[]:=rfl
@[simp] theorem reachW_int (k:IntKind) (x:Int):reachW h (n+1) (.int k x)=[]:=rfl
@[simp] theorem reachW_str (s:List UInt8):reachW h (n+1) (.str s)=[]:=rfl
@[simp] theorem reachW_nilp:reachW h (n+1) .nilp=[]:=rfl
@[simp] theorem reachW_nils:reachW h (n+1) .nils=[]:=rfl
@[simp] theorem reachW_nilm:reachW h (n+1) .nilm=[]:=rfl
@[simp] theorem reachW_nilf:reachW h (n+1) .nilf=[]:=rfl
@[simp] theorem reachW_ro (z:Nat) (es:List (List AV)) (ex:Bool):reachW h (n+1) (.ro z es ex)=[]:=rfl
@[simp] theorem reachW_rop (cs:List AV):reachW h (n+1) (.rop cs)=[]:=rfl
@[simp] theorem reachW_fn (f:Nat) (cs:List AV):reachW h (n+1) (.fn f cs)=cs.flatMap (reachW h n):=rfl
@[simp] theorem reachW_agg (cs:List AV):reachW h (n+1) (.agg cs)=cs.flatMap (reachW h n):=rfl
@[simp] theorem reachW_tup (cs:List AV):reachW h (n+1) (.tup cs)=cs.flatMap (reachW h n):=rfl
@[simp] theorem reachW_sl (b z i len cap:Nat) (ex:Bool):reachW h (n+1) (.sl b z i len cap ex)=b::reachS h n i len (Pav.get h b):=by
 simp only [reachW,reachS]
 congr 1
 split
 · rename_i hg
   rw [hg]
   rename_i dt
   cases dt <;> rfl
 · rename_i hg
   split
   · rename_i h1;exact absurd h1 (hg _ _ _ _)
   · rfl
@[simp] theorem hasRefW_bool (b:Bool):hasRefW (n+1) (.bool b)=false:=rfl
@[simp] theorem hasRefW_int (k:IntKind) (x:Int):hasRefW (n+1) (.int k x)=false:=rfl
@[simp] theorem hasRefW_str (s:List UInt8):hasRefW (n+1) (.str s)=false:=rfl
@[simp] theorem hasRefW_nilp:hasRefW (n+1) .nilp=false:=rfl
@[simp] theorem hasRefW_nils:hasRefW (n+1) .nils=false:=rfl
@[simp] theorem hasRefW_nilm:hasRefW (n+1) .nilm=false:=rfl
@[simp] theorem hasRefW_nilf:hasRefW (n+1) .nilf=false:=rfl
@[simp] theorem hasRefW_ro (z:Nat) (es:List (List AV)) (ex:Bool):hasRefW (n+1) (.ro z es ex)=true:=rfl
@[simp] theorem hasRefW_rop (cs:List AV):hasRefW (n+1) (.rop cs)=true:=rfl
@[simp] theorem hasRefW_fn (f:Nat) (cs:List AV):hasRefW (n+1) (.fn f cs)=cs.any (hasRefW n):=rfl
@[simp] theorem hasRefW_agg (cs:List AV):hasRefW (n+1) (.agg cs)=cs.any (hasRefW n):=rfl
@[simp] theorem hasRefW_tup (cs:List AV):hasRefW (n+1) (.tup cs)=cs.any (hasRefW n):=rfl
end
def imax (a b:Int):Int:=if b > a then b else a
def imin (a b:Int):Int:=if b < a then b else a
theorem imax_l {a b:Int} (h:b≤a):imax a b=a:=by unfold imax;rw [if_neg (by omega)]
theorem imax_r {a b:Int} (h:a≤b):imax a b=b:=by unfold imax;split <;> omega
theorem imin_l {a b:Int} (h:a≤b):imin a b=a:=by unfold imin;rw [if_neg (by omega)]
theorem imin_r {a b:Int} (h:b≤a):imin a b=b:=by unfold imin;split <;> omega
def mxV:AV→AV→Option (AV × Upd)
 | .int k a,.int k' b=>if k=k' then some (.int k (imax a b),[]) else none
 | _,_=>none
def mnV:AV→AV→Option (AV × Upd)
 | .int k a,.int k' b=>if k=k' then some (.int k (imin a b),[]) else none
 | _,_=>none
@[simp] theorem sMx_eq (x y:Opd) (e:Env) (h:Heap) (n:Nat):sMx x y e h n=mxV (x.ev e) (y.ev e):=rfl
@[simp] theorem sMn_eq (x y:Opd) (e:Env) (h:Heap) (n:Nat):sMn x y e h n=mnV (x.ev e) (y.ev e):=rfl
attribute [simp] mxV mnV
@[simp] theorem canonF_nil (base:Nat) (cn:Bool) (lv:List Nat) (s:WSt):canonF base ⟨cn,lv,[]⟩ s=canon base ⟨cn,lv,[]⟩ s:=rfl
@[simp] theorem canonF_cons (base:Nat) (cn:Bool) (lv:List Nat) (p:Nat × Nat) (r:List (Nat × Nat)) (s:WSt):canonF base ⟨cn,lv,p::r⟩ s=ob (frzSlotsW (frzOf (p::r)) s) (canon base ⟨cn,lv,p::r⟩):=rfl
attribute [simp] frzOf frzSlotsW frzSlotW
attribute [simp] List.getElem?_cons_zero frzS reachS frzP reachP
attribute [simp] stepW wAlloc wBox boxedW wBuildS fillS wLoad wLoadOf wLoadAt loadC wStore wStoreOf wStoreAt splice wMkmap wMksl wLook wLookIn found wUpd wUpdIn wRange wNext wNextIter wLen wEvLen wLenMap wElems wNewRow wAppSl
 wCopyTo wCopyIn wClr wClrIn wClrTo sMv sPick sBuild fillC sNilchk sBin evBin binInt binStr isShift shiftInt sEqv eqVals eqFn eqIf AV.isAg eqPtr eqMap eqAgg eqCells eqBool wEqSl keyOk eqCell sUn evUn sCvt sCvs sCvb evCvb sMkfn sSlice evSlice wSliceA wSliceOf wSliceAt sliceArr sliceRo sliceSl sliceNil sliceStr bound oev
 sFld sFldv sIdxs idxsAt sIdxa idxaAt sIdxstr sIdxv sExt sCap evCap AV.cells AV.cell isC isD Pav.get Pav.put setD setE applyW updOneW del readsOf ptrId canon noRen canonG growAll growOne keepL_nil keepL_cons keepN dropLt newNum place close
 envRefs oldRefs refs refsL objRefs markFrozenW marksW hasPtr hasPtrL resultsW tupled fnEndW pureFin argW frzDepth putE maxBytes mapGet mapPut apartR clashR quietR meets hitL
def rep {α:Type} (n:Nat) (a:α):List α:=List.replicate n a
section
variable {α β:Type} (n:Nat) (a:α)
@[simp] theorem rep_length:(rep n a).length=n:=List.length_replicate
@[simp] theorem rep_map (f:α→β):List.map f (rep n a)=rep n (f a):=List.map_replicate
@[simp] theorem rep_all (p:α→Bool):(rep (n+1) a).all p=p a:=by
 unfold rep;rw [List.all_replicate];simp
@[simp] theorem rep_getElem {i:Nat} (h:i < (rep n a).length):(rep n a)[i]=a:=by
 unfold rep;exact List.getElem_replicate _
@[simp] theorem rep_take_self:List.take n (rep n a)=rep n a:=List.take_of_length_le (by simp)
@[simp] theorem rep_cons (n:Nat):(rep (n+1) a).isEmpty=false:=rfl
end
end Go.Pw
end
section
namespace Go.Pw
open Go Go.Pav
inductive ZO where
 | p (d:Option (Option Nat)) (g:Option (Nat × Bool)) (x:COp)
def zt:List Nat→List Opd
 | []=>[]
 | a::r=>.t a::zt r
namespace Z
def y (s:Nat):ZO→ZO
 | .p d _ x=>.p d (some (s,true)) x
def z (s:Nat):ZO→ZO
 | .p d _ x=>.p d (some (s,false)) x
def d (k:Nat):ZO→ZO
 | .p _ g x=>.p (some (some k)) g x
def n:ZO→ZO
 | .p _ g x=>.p (some none) g x
def m (a:Nat):ZO:=.p none none (.mv (.t a))
def i (k:Int):ZO:=.p none none (.mv (.c (.int .i64 k)))
def l (k a:Nat):ZO:=.p none none (.load k false (.t a))
def h (k a:Nat):ZO:=.p none none (.load k true (.t a))
def f (o a:Nat):ZO:=.p none none (.fld o (.t a))
def po (a b:Nat):ZO:=.p none none (.pick (.t a) (.c (.bool true)) (.t b))
def pa (a b:Nat):ZO:=.p none none (.pick (.t a) (.t b) (.c (.bool false)))
def ln (k a:Nat):ZO:=.p none none (.len k (.t a))
def ix (k a b:Nat):ZO:=.p none none (.idxs k (.t a) (.t b))
def ex (k a:Nat):ZO:=.p none none (.ext k (.t a))
def nk (a:Nat):ZO:=.p none none (.nilchk (.t a))
def bx (a:Nat):ZO:=.p none none (.box (.t a))
def nt (a:Nat):ZO:=.p none none (.un .not (.t a))
def st (k a b:Nat):ZO:=.p none none (.store k (.t a) (.t b))
def E (x:COp):ZO:=.p none none x
def tt:ZO:=.p none none (.mv (.c (.bool true)))
def ff:ZO:=.p none none (.mv (.c (.bool false)))
def ca (g:Nat) (q:List Nat):ZO:=.p none none (.call g (zt q))
def eq (a b:Nat):ZO:=.p none none (.bin .eql (.t a) (.t b))
def eqi (a:Nat) (k:Int):ZO:=.p none none (.bin .eql (.t a) (.c (.int .i64 k)))
def ne (a b:Nat):ZO:=.p none none (.bin .neq (.t a) (.t b))
def nei (a:Nat) (k:Int):ZO:=.p none none (.bin .neq (.t a) (.c (.int .i64 k)))
def lt (a b:Nat):ZO:=.p none none (.bin .lss (.t a) (.t b))
def lti (a:Nat) (k:Int):ZO:=.p none none (.bin .lss (.t a) (.c (.int .i64 k)))
def le (a b:Nat):ZO:=.p none none (.bin .leq (.t a) (.t b))
def lei (a:Nat) (k:Int):ZO:=.p none none (.bin .leq (.t a) (.c (.int .i64 k)))
def gt (a b:Nat):ZO:=.p none none (.bin .gtr (.t a) (.t b))
def gti (a:Nat) (k:Int):ZO:=.p none none (.bin .gtr (.t a) (.c (.int .i64 k)))
def ge (a b:Nat):ZO:=.p none none (.bin .geq (.t a) (.t b))
def gei (a:Nat) (k:Int):ZO:=.p none none (.bin .geq (.t a) (.c (.int .i64 k)))
def ad (a b:Nat):ZO:=.p none none (.bin .add (.t a) (.t b))
def adi (a:Nat) (k:Int):ZO:=.p none none (.bin .add (.t a) (.c (.int .i64 k)))
def sb (a b:Nat):ZO:=.p none none (.bin .sub (.t a) (.t b))
def sbi (a:Nat) (k:Int):ZO:=.p none none (.bin .sub (.t a) (.c (.int .i64 k)))
end Z
def zo:Nat→List ZO→List COper
 | _,[]=>[]
 | k,.p none g x::r=>⟨some k,g,x⟩::zo (k+1) r
 | k,.p (some j) g x::r=>⟨j,g,x⟩::zo k r
inductive ZC where
 | O (k:Nat) (l:List ZO)
 | Q (k:Nat) (l:List ZO) (s:List Nat)
 | R (k:Nat) (l:List ZO) (a:Ann)
 | U (k:Nat) (l:List ZO) (u:List (Nat × Nat)) (s:List Nat)
 | V (k:Nat) (l:List ZO) (u:List (Nat × Nat)) (a:Ann)
 | s (a b:ZC)
 | r (a:ZC)
 | c (t:Nat) (a:ZC)
 | cc (t:Nat) (a b:ZC)
 | cd (x:Opd) (a b:ZC)
 | B (j:Nat) (a:ZC)
 | bk (j:Nat) (a:ZC) (x:Ann)
 | lp (x:Ann) (a:ZC)
 | ee (j:Nat)
 | w (x:WCode)
instance:Coe WCode ZC:=⟨.w⟩
def zc:ZC→WCode
 | .O k l=>.ops (zo k l) ⟨false,[],[]⟩
 | .Q k l s=>.ops (zo k l) ⟨true,s,[]⟩
 | .R k l a=>.ops (zo k l) a
 | .U k l u s=>.draw (zo k l) u ⟨true,s,[]⟩
 | .V k l u a=>.draw (zo k l) u a
 | .s a b=>.seq (zc a) (zc b)
 | .r a=>.seq (zc a) .ret
 | .c t a=>.cond (.t t) (zc a) .skip
 | .cc t a b=>.cond (.t t) (zc a) (zc b)
 | .cd x a b=>.cond x (zc a) (zc b)
 | .B j a=>.block j (zc a) ⟨false,[],[]⟩
 | .bk j a x=>.block j (zc a) x
 | .lp x a=>.loop x (zc a)
 | .ee j=>.exit j
 | .w x=>x
abbrev T (a:Nat):Opd:=.t a
abbrev N (n:Int):Opd:=.c (.int .i64 n)
abbrev zd (x:ZC) {y:WCode} (_h:zc x=y:=by dsimp only [zc,zo,zt,T,N,Z.y,Z.z,Z.d,Z.n,Z.m,Z.i,Z.l,Z.h,Z.f,Z.po,Z.pa,Z.ln,Z.ix,Z.ex,Z.nk,Z.bx,Z.nt,Z.st,Z.E,Z.tt,Z.ff,Z.ca,Z.eq,Z.eqi,Z.ne,Z.nei,Z.lt,Z.lti,Z.le,Z.lei,Z.gt,Z.gti,Z.ge,Z.gei,Z.ad,Z.adi,Z.sb,Z.sbi]):WCode:=y
abbrev ZL (L B:WCode) (a:Ann):Prop:=∀ {β:Type} {C:WProg} {b:Nat} {f:Ex × WSt→Option β} {k:List Pw.Frame} {s:WSt},CK C b f k L s=LK C b f (.sq L::k) B (canon b a s)
end Go.Pw
end
