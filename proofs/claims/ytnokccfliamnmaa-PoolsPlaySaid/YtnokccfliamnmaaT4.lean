/- Part of the theory that the claims of this work use: PwCode, PwDen, PwCk, PwSimp, PwP21, PavLink, L21, PwLib, C21. No conditions of its own. -/
import Derived.Test.YtnokccfliamnmaaT3
import Derived.Test.YtnokccfliamnmaaChecked
import Derived.KernelRfl
section
set_option linter.unusedSimpArgs false
set_option linter.unusedVariables false
namespace Go.Pw
open Go Go.Pav
def Hi (base m0:Nat) (ρ:Nat→Nat) (V A:Nat→Prop):Prop:=∀ b,A b→¬ V b→base≤b→m0≤ρ b
structure Res (base m0:Nat) (ρ:Nat→Nat) (V A:Nat→Prop) (s1:WSt) (s1':St) (ρ':Nat→Nat) (V' A':Nat→Prop):Prop where
 sim:Sim ρ' V' A' s1 s1'
 base_le:base≤s1.next
 old:Old base ρ V A ρ' V' A'
 hi:Hi base m0 ρ' V' A'
section
variable {C:WProg} {run:WRun} {run':Run} {base m0:Nat}
theorem Res.canon {ρ:Nat→Nat} {V A:Nat→Prop} {s1 s2:WSt} {s1' s2':St} {ρ':Nat→Nat} {V' A':Nat→Prop} (R:Res base m0 ρ V A s1 s1' ρ' V' A') {a:Ann} (hc:canon base a s1=some s2)
 (hs:s2'=s1'∨s2'=dropEnv (maskOf a) s1'):∃ ρ' V' A',Res base m0 ρ V A s2 s2' ρ' V' A':=by
 obtain ⟨ρ2,V2,A2,S2,b2,o2,n2⟩:=canon_sim R.sim R.base_le hc hs
 refine ⟨ρ2,V2,A2,S2,b2,R.old.trans o2,fun b h1 h2 h3=>?_⟩
 obtain ⟨c,c1,c2,c3,c4⟩:=n2 b h1 h2
 rw [c3]
 exact R.hi c c1 c2 (c4 h3)
theorem Res.frz {ρ:Nat→Nat} {V A:Nat→Prop} {k:Nat} {s1 s2:WSt} {s1':St} {ρ':Nat→Nat} {V' A':Nat→Prop} (R:Res base m0 ρ V A s1 s1' ρ' V' A') (hc:frzSlotW k s1=some s2) :
 ∃ s2',frzSlot k s1'=some s2'∧s2'.next=s1'.next∧Res base m0 ρ V A s2 s2' ρ' V' A':=by
 obtain ⟨v,hv,hc⟩:=ob_some hc
 obtain ⟨x,hx,rfl⟩:=om_some hc
 obtain ⟨u,hu,hr⟩:=R.sim.env k v hv
 obtain ⟨y,hy,hd⟩:=frz_vw R.sim.heap _ _ _ _ hr hx
 have hm:=marks_ok R.sim.heap (reachW s1.heap frzDepth v) (reach s1'.heap frzDepth u) (fun b' hb'=>reach_vw R.sim.heap _ _ _ _ hr hx b' hb')
 refine ⟨⟨setDst s1'.env (some k) y,applyUpd s1'.heap (markFrozen s1'.heap (reach s1'.heap frzDepth u)),s1'.next⟩,by simp only [frzSlot,hu,ob,hy,om],rfl,⟨?_,R.base_le,R.old,R.hi⟩⟩
 exact ⟨R.sim.srt.setDst (some k) x,R.sim.env.setDst (d:=some k) (hd.mono fun _ q=>q.elim),hm.1,R.sim.lt⟩
theorem Res.frzs {ρ:Nat→Nat} {V A:Nat→Prop} {ρ':Nat→Nat} {V' A':Nat→Prop}:∀ (l:List Nat) {s1 s2:WSt} {s1':St},Res base m0 ρ V A s1 s1' ρ' V' A'→frzSlotsW l s1=some s2 →
 ∃ s2',frzSlots l s1'=some s2'∧s2'.next=s1'.next∧Res base m0 ρ V A s2 s2' ρ' V' A'
 | [],s1,s2,s1',R,h=>by simp only [frzSlotsW,Option.some.injEq] at h;subst h;exact ⟨s1',rfl,rfl,R⟩
 | k::l,s1,s2,s1',R,h=>by
  simp only [frzSlotsW] at h
  obtain ⟨s3,h1,h2⟩:=ob_some h
  obtain ⟨s3',h3,e3,R3⟩:=R.frz h1
  obtain ⟨s2',h4,e4,R4⟩:=Res.frzs l R3 h2
  exact ⟨s2',by simp only [frzSlots,h3,ob];exact h4,e4.trans e3,R4⟩
theorem Keeps.old {ρ:Nat→Nat} {V A:Nat→Prop} {ρ':Nat→Nat} {V' A':Nat→Prop} (k:Keeps ρ V A ρ' V' A') (hn:∀ b,b < base→A' b→A b):Old base ρ V A ρ' V' A':=fun b hb=>⟨k b,hn b hb⟩
theorem ops_sim (hr:RunSim run run'):∀ (l:List COper) (s s1:WSt),(l.all fun o=>okOp o.op)=true→evOpsW C run l s=some s1→∀ (s':St) (ρ:Nat→Nat) (V A:Nat→Prop),Sim ρ V A s s'→base≤s.next→Hi base m0 ρ V A→m0≤s'.next →
 ∃ s1' ρ' V' A',evOps (erProg C) run' (l.map erOper) s'=some s1'∧Res base m0 ρ V A s1 s1' ρ' V' A'∧m0≤s1'.next:=by
 intro l
 induction l with
 | nil =>
  intro s s1 _ he s' ρ V A S hb hi hm
  simp only [evOpsW,Option.some.injEq] at he;subst he
  exact ⟨s',ρ,V,A,rfl,⟨S,hb,Old.refl base ρ V A,hi⟩,hm⟩
 | cons o l ih =>
  intro s s1 hok he s' ρ V A S hb hi hm
  simp only [List.all_cons,Bool.and_eq_true] at hok
  simp only [evOpsW] at he
  obtain ⟨d,h1,he⟩:=ob_some he
  have lt':Lts ρ V A (s.next+1) (s'.next+1):=⟨fun b hb=>Nat.lt_succ_of_lt (S.lt.w b hb),fun b hb hv=>Nat.lt_succ_of_lt (S.lt.p b hb hv)⟩
  obtain ⟨d',ρ1,V1,A1,h2,O⟩:=op_sim hr S.env S.heap lt' (nid:=s.next) (mid:=s'.next) (fun q=>Nat.lt_irrefl _ (S.lt.w _ q)) (Nat.lt_succ_self _) (fun b hb hv=>Nat.ne_of_lt (S.lt.p b hb hv)) (Nat.lt_succ_self _) hok.1 h1
  have S1:Sim ρ1 V1 A1 ⟨setD s.env o.dst d.v,d.h,d.n⟩ ⟨setDst s'.env o.dst d'.v,d'.h,d'.n⟩:=⟨S.srt.setDst _ _,(S.env.mono O.keeps).setDst O.v,O.h,O.lt⟩
  have hi1:Hi base m0 ρ1 V1 A1:=by
   intro b q1 q2 q3
   rcases O.newp b q1 q2 with ⟨q4,q5⟩ | q4 | q4
   · rw [q5];exact hi b q4 (fun q=>q2 ((O.keeps b q4).2.2.2 q)) q3
   · omega
   · omega
  have hb1:base≤d.n:=by have:=O.next;omega
  have hm1:m0≤d'.n:=by have:=O.nextp;omega
  obtain ⟨s1',ρ2,V2,A2,h3,R,h4⟩:=ih ⟨setD s.env o.dst d.v,d.h,d.n⟩ s1 hok.2 he _ ρ1 V1 A1 S1 hb1 hi1 hm1
  have o1:Old base ρ V A ρ1 V1 A1:=Keeps.old O.keeps fun b hbb hA=>by
   rcases O.new b hA with q | q | q
   · exact q
   · omega
   · omega
  refine ⟨s1',ρ2,V2,A2,?_,⟨R.sim,R.base_le,o1.trans R.old,R.hi⟩,h4⟩
  simp only [List.map_cons,evOps]
  have:(erOper o).dst=o.dst:=rfl
  rw [h2]
  simp only [ob,this]
  exact h3
def DidRel (ρ:Nat→Nat) (V A:Nat→Prop) (d:WDid) (d':Did):Prop :=
 (d'.bar=true→d.bar=true)∧(∀ b ∈ d'.rd,∃ c ∈ d.rd,b=ρ c∧¬ V c∧A c)∧(∀ b ∈ d'.wr,∃ c ∈ d.wr,b=ρ c∧¬ V c∧A c)
theorem DidRel.mono {ρ ρ':Nat→Nat} {V A V' A':Nat→Prop} {d:WDid} {d':Did} (h:DidRel ρ V A d d') (k:Keeps ρ V A ρ' V' A'):DidRel ρ' V' A' d d':=by
 refine ⟨h.1,fun b hb=>?_,fun b hb=>?_⟩
 · obtain ⟨c,h1,h2,h3,h4⟩:=h.2.1 b hb
   obtain ⟨k1,k2,k3⟩:=k c h4
   exact ⟨c,h1,by rw [k2];exact h2,fun q=>h3 (k3.1 q),k1⟩
 · obtain ⟨c,h1,h2,h3,h4⟩:=h.2.2 b hb
   obtain ⟨k1,k2,k3⟩:=k c h4
   exact ⟨c,h1,by rw [k2];exact h2,fun q=>h3 (k3.1 q),k1⟩
theorem meets_vw {ρ:Nat→Nat} {V A:Nat→Prop} (inj:∀ b c,A b→A c→¬ V b→¬ V c→ρ b=ρ c→b=c) {a b:List Nat} {a' b':List Nat}
 (ha:∀ x ∈ a',∃ c ∈ a,x=ρ c∧¬ V c∧A c) (hb:∀ x ∈ b',∃ c ∈ b,x=ρ c∧¬ V c∧A c) (h:meets a' b'=true):meets a b=true:=by
 simp only [meets,List.any_eq_true,decide_eq_true_eq] at h ⊢
 obtain ⟨x,hx,y,hy,rfl⟩:=h
 obtain ⟨c,h1,h2,h3,h4⟩:=ha x hx
 obtain ⟨d,h5,h6,h7,h8⟩:=hb x hy
 have:=inj c d h4 h8 h3 h7 (h2.symm.trans h6)
 subst this
 exact ⟨c,h1,c,h5,rfl⟩
theorem clash_vw {ρ:Nat→Nat} {V A:Nat→Prop} (inj:∀ b c,A b→A c→¬ V b→¬ V c→ρ b=ρ c→b=c) {a b:WDid} {a' b':Did} (ha:DidRel ρ V A a a') (hb:DidRel ρ V A b b') (h:clashW a b=false):clash a' b'=false:=by
 have nt:∀ {x y:Bool},(x=true→y=true)→y=false→x=false:=by
  intro x y q1 q2;cases x <;> simp_all
 have qt:∀ {d:WDid} {d':Did},DidRel ρ V A d d'→quietW d=true→quiet d'=true:=by
  intro d d' hd hq
  simp only [quietW,Bool.and_eq_true,Bool.not_eq_true',List.isEmpty_iff] at hq
  simp only [quiet,Bool.and_eq_true,Bool.not_eq_true',List.isEmpty_iff]
  refine ⟨nt hd.1 hq.1,?_,?_⟩
  · cases hw:d'.wr with
    | nil=>rfl
    | cons b r =>
     obtain ⟨c,h1,_⟩:=hd.2.2 b (by rw [hw];exact List.mem_cons_self)
     rw [hq.2.1] at h1;cases h1
  · cases hw:d'.rd with
    | nil=>rfl
    | cons b r =>
     obtain ⟨c,h1,_⟩:=hd.2.1 b (by rw [hw];exact List.mem_cons_self)
     rw [hq.2.2] at h1;cases h1
 unfold clashW at h
 unfold clash
 cases qa:quietW a with
 | true=>rw [qt ha qa];simp
 | false =>
  cases qb:quietW b with
  | true=>rw [qt hb qb];simp
  | false =>
   rw [qa,qb] at h
   simp only [Bool.or_self,Bool.not_false,Bool.true_and,Bool.or_eq_false_iff] at h
   obtain ⟨h1,h2,h3,h4,h5⟩:=h
   have e:(a'.bar||(b'.bar||(meets a'.wr b'.wr||(meets a'.wr b'.rd||meets a'.rd b'.wr))))=false:=by
    simp only [Bool.or_eq_false_iff]
    exact ⟨nt ha.1 h1,nt hb.1 h2,nt (meets_vw inj ha.2.2 hb.2.2) h3,nt (meets_vw inj ha.2.2 hb.2.1) h4,nt (meets_vw inj ha.2.1 hb.2.2) h5⟩
   rw [e,Bool.and_false]
theorem draw_sim (hr:RunSim run run'):∀ (l:List COper) (nid:Nat) (s s1:WSt) (ds ds1:List WDid),(l.all fun o=>okOp o.op)=true→evDrawW C run l nid s ds=some (s1,ds1) →
 ∀ (mid:Nat) (s':St) (ds':List Did) (ρ:Nat→Nat) (V A:Nat→Prop),Sim ρ V A s s'→base≤nid→nid+l.length≤s.next→(∀ b,A b→b < nid∨nid+l.length≤b)→Hi base m0 ρ V A→m0≤mid→mid+l.length≤s'.next →
  (∀ b,A b→¬ V b→ρ b < mid∨mid+l.length≤ρ b)→Rel2 (DidRel ρ V A) ds ds' →
 ∃ s1' ds1' ρ' V' A',evDraw (erProg C) run' (l.map erOper) mid s' ds'=some (s1',ds1')∧Res base m0 ρ V A s1 s1' ρ' V' A'∧m0≤s1'.next∧Rel2 (DidRel ρ' V' A') ds1 ds1':=by
 intro l
 induction l with
 | nil =>
  intro nid s s1 ds ds1 _ he mid s' ds' ρ V A S hb hnl _ hi hm hml _ hds
  simp only [evDrawW,Option.some.injEq,Prod.mk.injEq] at he
  obtain ⟨rfl,rfl⟩:=he
  simp only [List.length_nil] at hnl hml
  exact ⟨s',ds',ρ,V,A,rfl,⟨S,by omega,Old.refl base ρ V A,hi⟩,by omega,hds⟩
 | cons o l ih =>
  intro nid s s1 ds ds1 hok he mid s' ds' ρ V A S hb hnl hgap hi hm hml hgap' hds
  simp only [List.all_cons,Bool.and_eq_true] at hok
  simp only [List.length_cons] at hnl hml hgap hgap'
  simp only [evDrawW] at he
  obtain ⟨d,h1,he⟩:=ob_some he
  have hn:¬ A nid:=fun q=>by rcases hgap nid q with q | q <;> omega
  obtain ⟨d',ρ1,V1,A1,h2,O⟩:=op_sim hr S.env S.heap S.lt (nid:=nid) (mid:=mid) hn (by omega) (fun b hbb hv=>by rcases hgap' b hbb hv with q | q <;> omega) (by omega) hok.1 h1
  have S1:Sim ρ1 V1 A1 ⟨setD s.env o.dst d.v,d.h,d.n⟩ ⟨setDst s'.env o.dst d'.v,d'.h,d'.n⟩:=⟨S.srt.setDst _ _,(S.env.mono O.keeps).setDst O.v,O.h,O.lt⟩
  have hi1:Hi base m0 ρ1 V1 A1:=by
   intro b q1 q2 q3
   rcases O.newp b q1 q2 with ⟨q4,q5⟩ | q4 | q4
   · rw [q5];exact hi b q4 (fun q=>q2 ((O.keeps b q4).2.2.2 q)) q3
   · omega
   · omega
  have hds1:Rel2 (DidRel ρ1 V1 A1) (ds++[d]) (ds'++[d']):=(hds.mono fun x y _ hxy=>hxy.mono O.keeps).append (.cons ⟨O.bar,O.rd,O.wr⟩ .nil)
  obtain ⟨s1',ds1',ρ2,V2,A2,h3,R,h4,h5⟩:=ih (nid+1) ⟨setD s.env o.dst d.v,d.h,d.n⟩ s1 (ds++[d]) ds1 hok.2 he (mid+1) _ (ds'++[d']) ρ1 V1 A1 S1 (by omega) (by have:=O.next;simp only;omega)
   (fun b hbb=>by
    rcases O.new b hbb with q | q | q
    · rcases hgap b q with q | q <;> omega
    · omega
    · omega) hi1 (by omega) (by have:=O.nextp;simp only;omega)
   (fun b hbb hv=>by
    rcases O.newp b hbb hv with ⟨q,q5⟩ | q | q
    · rw [q5];rcases hgap' b q (fun q6=>hv ((O.keeps b q).2.2.2 q6)) with q | q <;> omega
    · omega
    · omega) hds1
  have o1:Old base ρ V A ρ1 V1 A1:=Keeps.old O.keeps fun b hbb hA=>by
   rcases O.new b hA with q | q | q
   · exact q
   · omega
   · omega
  refine ⟨s1',ds1',ρ2,V2,A2,?_,⟨R.sim,R.base_le,o1.trans R.old,R.hi⟩,h4,h5⟩
  simp only [List.map_cons,evDraw]
  have:(erOper o).dst=o.dst:=rfl
  rw [h2]
  simp only [ob,this]
  exact h3
theorem apart_vw {ρ:Nat→Nat} {V A:Nat→Prop} (inj:∀ b c,A b→A c→¬ V b→¬ V c→ρ b=ρ c→b=c) {ds:List WDid} {ds':List Did} (h:Rel2 (DidRel ρ V A) ds ds') {p:Nat × Nat} (ha:apartW ds p=true):apart ds' p=true:=by
 unfold apartW at ha
 split at ha
 · rename_i a b h1 h2
   obtain ⟨a',h3,h4⟩:=h.get h1
   obtain ⟨b',h5,h6⟩:=h.get h2
   unfold apart
   rw [h3,h5]
   simp only [Bool.not_eq_true'] at ha ⊢
   exact clash_vw inj h4 h6 ha
 · cases ha
def CodeSim (C:WProg) (k:Nat):Prop :=
 ∀ (base:Nat) (c:WCode) (s:WSt) (ex:Ex) (s1:WSt),okC c=true→evW C k base c s=some (ex,s1)→∀ (m0:Nat) (s':St) (ρ:Nat→Nat) (V A:Nat→Prop),Sim ρ V A s s'→base≤s.next→Hi base m0 ρ V A→m0≤s'.next →
  ∃ s1' ρ' V' A',evC (erProg C) k (erC c) s'=some (ex,s1')∧Res base m0 ρ V A s1 s1' ρ' V' A'∧m0≤s1'.next
theorem erL_len:∀ l:List AV,(erL l).length=l.length
 | []=>rfl
 | _::r=>by simp only [erL,List.length_cons,erL_len r]
theorem cln_sim {j:Nat} {s:WSt} {s':St} {ρ:Nat→Nat} {V A:Nat→Prop} (S:Sim ρ V A s s') (hb:base≤s.next) (hi:Hi base m0 ρ V A) (hm:m0≤s'.next) {z b:Nat} {xe:Bool} {zz:List AV} {u:AV} (hu:get s'.env 0=some u) (hr:VW ρ V A (.ro z [] xe) u) (hl:zz.length=z) :
 ∃ s1' ρ' V' A',evC (erProg C) (j+8+1) (clnE zz b) s'=some (.ret,s1') ∧
  Res base m0 ρ V A ⟨[(2,.sl s.next z 0 0 0 true)],put s.heap s.next (.cells z [] true true),s.next+1⟩ s1' ρ' V' A'∧m0≤s1'.next:=by
 have hn:¬ A s.next:=fun q=>Nat.lt_irrefl _ (S.lt.w _ q)
 obtain ⟨e0,h0,m⟩:=s'
 simp only at hu hm
 have hmo:∀ b,A b→addN A s.next b∧ρ b=ρ b∧((V b∨b=s.next)↔V b):=fun b q=>⟨.inl q,rfl,⟨fun h=>h.elim id fun e=>absurd (e ▸ q) hn,.inl⟩⟩
 cases hr with
 | ronil =>
  refine ⟨⟨put (put (put (put e0 2 .nils) 3 .nils) 4 (.bool true)) 2 .nils,h0,m+4⟩,ρ,fun b=>V b∨b=s.next,addN A s.next,?_,⟨⟨by simp [Srt],?_,⟨?_,?_,?_,?_,?_⟩,⟨?_,?_⟩⟩,Nat.le_succ_of_le hb,?_,?_⟩,Nat.le_trans hm (Nat.le_add_right _ _)⟩
  · simp [clnE,evC,evOps,evOp,wants,evAct,callOf,stepOp,sMv,sEqv,eqVals,eqSl,Opd.ev,ob,om,get_put,setDst,hu,endOps,frzSlots,dropEnv,evSeq,evCond,applyUpd]
  · intro k v hk
    simp only [Pav.get] at hk
    split at hk
    · rename_i e;subst e;cases hk
      exact ⟨.nils,by simp [get_put],.slv _ _ _ _ (.inr rfl) (.inr rfl) (.inl rfl)⟩
    · cases hk
  · intro b o hbo
    rw [get_put] at hbo
    split at hbo
    · rename_i e;exact .inr e.symm
    · exact .inl (S.heap.dom b o hbo)
  · intro b o hbo hv
    rw [get_put] at hbo
    split at hbo
    · cases hbo;exact ⟨z,true,true,rfl⟩
    · rename_i e
      exact S.heap.virt b o hbo (hv.resolve_right fun q=>e q.symm)
  · intro b o hbo hv
    rw [get_put] at hbo
    split at hbo
    · rename_i e;exact absurd (.inr e.symm) hv
    · obtain ⟨o',h1,h2⟩:=S.heap.obj b o hbo (fun q=>hv (.inl q))
      exact ⟨o',h1,h2.mono hmo⟩
  · rintro b (q | q)
    · exact .inl (S.heap.sub b q)
    · exact .inr q
  · rintro b c hb hc vb vc
    exact S.heap.inj b c (hb.resolve_right fun q=>vb (.inr q)) (hc.resolve_right fun q=>vc (.inr q)) (fun q=>vb (.inl q)) (fun q=>vc (.inl q))
  · rintro b (q | q)
    · exact Nat.lt_succ_of_lt (S.lt.w b q)
    · subst q;exact Nat.lt_succ_self _
  · intro b q v
    have:=S.lt.p b (q.resolve_right fun e=>v (.inr e)) (fun e=>v (.inl e))
    simp only at this ⊢;omega
  · intro b hbb
    have hne:b≠s.next:=by omega
    exact ⟨fun q=>hmo b q,fun q=>q.resolve_right hne⟩
  · intro b q v hbb
    exact hi b (q.resolve_right fun e=>v (.inr e)) (fun e=>v (.inl e)) hbb
 | ro _ _ es' _ ex' hc hl2 hx he hr =>
  have:es'=[]:=List.length_eq_zero_iff.1 hl2.symm
  subst this
  have hne:∀ b,A b→¬ V b→ρ b≠m+3:=fun b q v e=>by have:=S.lt.p b q v;simp only at this;omega
  refine ⟨⟨put (put (put (put (put (put (put e0 2 .nils) 3 (.ro z [] ex')) 4 (.bool false)) 5 (.sl (m+3) z 0 0 0 true)) 6 (.ro z [] ex')) 7 (.sl (m+3) z 0 0 0 true)) 2 (.sl (m+3) z 0 0 0 true),put h0 (m+3) (.cells z [] true),m+7⟩,up ρ s.next (m+3),V,addN A s.next,?_,
   ⟨⟨by simp [Srt],?_,new_ok S.heap hn hne ⟨[],true,rfl,fun h=>h,.nil,fun _ e he=>by cases he⟩,⟨?_,?_⟩⟩,Nat.le_succ_of_le hb,?_,?_⟩,Nat.le_trans hm (Nat.le_add_right _ _)⟩
  · simp [clnE,evC,evOps,evOp,wants,evAct,callOf,stepOp,sMv,sEqv,eqVals,eqSl,sBuildS,fillS,sApp,elems,evApp,updOne,Opd.ev,ob,om,get_put,setDst,hu,hl,endOps,frzSlots,dropEnv,evSeq,evCond,applyUpd]
  · intro k v hk
    simp only [Pav.get] at hk
    split at hk
    · rename_i e;subst e;cases hk
      refine ⟨.sl (m+3) z 0 0 0 true,by simp [get_put],?_⟩
      have:up ρ s.next (m+3) s.next=m+3:=by simp [up]
      have key:=VW.sl (ρ:=up ρ s.next (m+3)) (V:=V) (A:=addN A s.next) s.next z 0 0 0 true true (.inr rfl) (fun q=>hn (S.heap.sub _ q)) (fun h=>h)
      rw [this] at key
      exact key
    · cases hk
  · rintro b (q | q)
    · exact Nat.lt_succ_of_lt (S.lt.w b q)
    · subst q;exact Nat.lt_succ_self _
  · intro b q v
    unfold up
    split
    · simp
    · rename_i e
      have:=S.lt.p b (q.resolve_right e) v
      simp only at this ⊢;omega
  · intro b hbb
    have hne2:b≠s.next:=by omega
    exact ⟨fun q=>up_mono hn b q,fun q=>q.resolve_right hne2⟩
  · intro b q v hbb
    unfold up
    split
    · omega
    · rename_i e
      exact hi b (q.resolve_right e) v hbb
theorem code_sim {k:Nat} (ih:CodeSim C k) (hr:RunSim (runWithW C (evW C k)) (runWith (erProg C) (evC (erProg C) k))):CodeSim C (k+1):=by
 intro base c s ex s1 hok he m0 s' ρ V A S hb hi hm
 cases c with
 | skip=>simp only [evW,Option.some.injEq,Prod.mk.injEq] at he;obtain ⟨rfl,rfl⟩:=he;exact ⟨s',ρ,V,A,rfl,⟨S,hb,Old.refl base ρ V A,hi⟩,hm⟩
 | exit id=>simp only [evW,Option.some.injEq,Prod.mk.injEq] at he;obtain ⟨rfl,rfl⟩:=he;exact ⟨s',ρ,V,A,rfl,⟨S,hb,Old.refl base ρ V A,hi⟩,hm⟩
 | ret=>simp only [evW,Option.some.injEq,Prod.mk.injEq] at he;obtain ⟨rfl,rfl⟩:=he;exact ⟨s',ρ,V,A,rfl,⟨S,hb,Old.refl base ρ V A,hi⟩,hm⟩
 | fail=>simp [evW] at he
 | cln zz z b =>
  simp only [evW] at he
  split at he
  · rename_i z' hz
    split at he
    · rename_i hc
      obtain ⟨rfl,hzz,hk⟩:=hc
      simp only [Option.some.injEq,Prod.mk.injEq] at he
      obtain ⟨rfl,rfl⟩:=he
      obtain ⟨x,hx,hx2⟩:=Option.bind_eq_some_iff.1 hz
      obtain ⟨j,rfl⟩:∃ j,k=j+8:=⟨k - 8,by omega⟩
      obtain ⟨u,hu,hr⟩:=S.env 0 x hx
      obtain ⟨xe,hxe⟩:∃ e,x=.ro z' [] e:=by
       unfold isEmptyRo at hx2
       split at hx2
       · cases hx2;exact ⟨_,rfl⟩
       · cases hx2
      subst hxe
      have hl:(erL zz).length=z':=by rw [erL_len];exact hzz
      exact cln_sim S hb hi hm hu hr hl
    · cases he
  · obtain ⟨s1',ρ1,V1,A1,h3,R,h4⟩:=ih base (clnC zz z b) s ex s1 (by simpa [okC,clnC,okOp,okO,okV,okL] using hok) he m0 s' ρ V A S hb hi hm
    exact ⟨s1',ρ1,V1,A1,evC_mono k (k+1) (Nat.le_succ k) _ _ _ h3,R,h4⟩
 | ops l a =>
  simp only [evW] at he
  obtain ⟨s2,h1,he⟩:=ob_some he
  obtain ⟨s3,h2,he⟩:=om_some he
  cases he
  obtain ⟨s1',ρ1,V1,A1,h3,R,h4⟩:=ops_sim hr l s s2 hok h1 s' ρ V A S hb hi hm
  obtain ⟨s2b,h2b,h2⟩:=ob_some h2
  obtain ⟨s2b',h5,e5,R5⟩:=R.frzs _ h2b
  obtain ⟨ρ2,V2,A2,R2⟩:=R5.canon h2 (.inr rfl)
  exact ⟨_,ρ2,V2,A2,by simp only [erC,evC,h3,ob,endOps,h5,om],R2,by rw [← e5] at h4;exact h4⟩
 | draw l un a =>
  simp only [evW] at he
  obtain ⟨⟨s2,ds⟩,h1,he⟩:=ob_some he
  unfold drawEndW at he
  split at he
  · rename_i hap
    obtain ⟨s3,h2,he⟩:=om_some he
    cases he
    have S0:Sim ρ V A ⟨s.env,s.heap,s.next+l.length⟩ ⟨s'.env,s'.heap,s'.next+l.length⟩:=⟨S.srt,S.env,S.heap,fun b q=>Nat.lt_of_lt_of_le (S.lt.w b q) (Nat.le_add_right _ _),fun b q v=>Nat.lt_of_lt_of_le (S.lt.p b q v) (Nat.le_add_right _ _)⟩
    obtain ⟨s1',ds1',ρ1,V1,A1,h3,R,h4,h5⟩:=draw_sim hr l s.next _ s2 [] ds hok h1 s'.next _ [] ρ V A S0 hb (Nat.le_refl _) (fun b q=>.inl (S.lt.w b q)) hi hm (Nat.le_refl _) (fun b q v=>.inl (S.lt.p b q v)) .nil
    obtain ⟨s2b,h2b,h2⟩:=ob_some h2
    obtain ⟨s2b',h6,e6,R6⟩:=R.frzs _ h2b
    obtain ⟨ρ2,V2,A2,R2⟩:=R6.canon h2 (.inr rfl)
    refine ⟨_,ρ2,V2,A2,?_,R2,by rw [← e6] at h4;exact h4⟩
    simp only [erC,evC,List.length_map]
    rw [h3]
    simp only [ob,drawEnd,endOps,h6,om]
    rw [if_pos]
    simp only [List.all_eq_true] at hap ⊢
    exact fun p hp=>apart_vw R.sim.heap.inj h5 (hap p hp)
  · cases he
 | seq a b =>
  simp only [okC,Bool.and_eq_true] at hok
  simp only [evW] at he
  obtain ⟨⟨e1,s2⟩,h1,he⟩:=ob_some he
  obtain ⟨s1',ρ1,V1,A1,h3,R,h4⟩:=ih base a s e1 s2 hok.1 h1 m0 s' ρ V A S hb hi hm
  cases e1 with
  | norm =>
   simp only [evSeqW] at he
   obtain ⟨s2',ρ2,V2,A2,h5,R2,h6⟩:=ih base b s2 ex s1 hok.2 he m0 s1' ρ1 V1 A1 R.sim R.base_le R.hi h4
   exact ⟨s2',ρ2,V2,A2,by simp only [erC,evC,h3,ob,evSeq,h5],⟨R2.sim,R2.base_le,R.old.trans R2.old,R2.hi⟩,h6⟩
  | exit id=>simp only [evSeqW,Option.some.injEq,Prod.mk.injEq] at he;obtain ⟨rfl,rfl⟩:=he;exact ⟨s1',ρ1,V1,A1,by simp only [erC,evC,h3,ob,evSeq],R,h4⟩
  | ret=>simp only [evSeqW,Option.some.injEq,Prod.mk.injEq] at he;obtain ⟨rfl,rfl⟩:=he;exact ⟨s1',ρ1,V1,A1,by simp only [erC,evC,h3,ob,evSeq],R,h4⟩
 | cond c a b =>
  simp only [okC,Bool.and_eq_true] at hok
  simp only [evW] at he
  have hc:=S.env.opd hok.1
  unfold evCondW at he
  split at he
  · rename_i t ht
    rw [ht] at hc
    cases t with
    | true =>
     simp only [if_true] at he
     obtain ⟨s1',ρ1,V1,A1,h3,R,h4⟩:=ih base a s ex s1 hok.2.1 he m0 s' ρ V A S hb hi hm
     exact ⟨s1',ρ1,V1,A1,by simp only [erC,evC,hc.bool_inv,evCond,if_true];exact h3,R,h4⟩
    | false =>
     simp only [Bool.false_eq_true,if_false] at he
     obtain ⟨s1',ρ1,V1,A1,h3,R,h4⟩:=ih base b s ex s1 hok.2.2 he m0 s' ρ V A S hb hi hm
     exact ⟨s1',ρ1,V1,A1,by simp only [erC,evC,hc.bool_inv,evCond,Bool.false_eq_true,if_false];exact h3,R,h4⟩
  · cases he
 | block id b a =>
  simp only [okC] at hok
  simp only [evW] at he
  obtain ⟨⟨e1,s2⟩,h1,he⟩:=ob_some he
  obtain ⟨s1',ρ1,V1,A1,h3,R,h4⟩:=ih base b s e1 s2 hok h1 m0 s' ρ V A S hb hi hm
  cases e1 with
  | norm =>
   simp only [evBlockW] at he
   obtain ⟨s3,h5,he⟩:=om_some he
   cases he
   obtain ⟨ρ2,V2,A2,R2⟩:=R.canon h5 (.inl rfl)
   exact ⟨s1',ρ2,V2,A2,by simp only [erC,evC,h3,om,evBlock],R2,h4⟩
  | exit i =>
   simp only [evBlockW] at he
   split at he
   · rename_i hid
     obtain ⟨s3,h5,he⟩:=om_some he
     cases he
     obtain ⟨ρ2,V2,A2,R2⟩:=R.canon h5 (.inl rfl)
     exact ⟨s1',ρ2,V2,A2,by simp only [erC,evC,h3,om,evBlock,if_pos hid],R2,h4⟩
   · rename_i hid
     simp only [Option.some.injEq,Prod.mk.injEq] at he;obtain ⟨rfl,rfl⟩:=he
     exact ⟨s1',ρ1,V1,A1,by simp only [erC,evC,h3,om,evBlock,if_neg hid],R,h4⟩
  | ret =>
   simp only [evBlockW,Option.some.injEq,Prod.mk.injEq] at he;obtain ⟨rfl,rfl⟩:=he
   exact ⟨s1',ρ1,V1,A1,by simp only [erC,evC,h3,om,evBlock],R,h4⟩
 | loop a b =>
  have hok':okC b=true:=hok
  simp only [evW] at he
  obtain ⟨s0,h0,he⟩:=ob_some he
  obtain ⟨⟨e1,s2⟩,h1,he⟩:=ob_some he
  obtain ⟨ρ0,V0,A0,R0⟩:=(⟨S,hb,Old.refl base ρ V A,hi⟩:Res base m0 ρ V A s s' ρ V A).canon h0 (s2':=dropEnv (maskOf a) s') (.inr rfl)
  obtain ⟨s1',ρ1,V1,A1,h3,R,h4⟩:=ih base b s0 e1 s2 hok' h1 m0 _ ρ0 V0 A0 R0.sim R0.base_le R0.hi hm
  have R':Res base m0 ρ V A s2 s1' ρ1 V1 A1:=⟨R.sim,R.base_le,R0.old.trans R.old,R.hi⟩
  cases e1 with
  | norm =>
   simp only [evSeqW] at he
   obtain ⟨s2',ρ2,V2,A2,h5,R2,h6⟩:=ih base (.loop a b) s2 ex s1 hok he m0 s1' ρ1 V1 A1 R.sim R.base_le R.hi h4
   exact ⟨s2',ρ2,V2,A2,by simp only [erC,evC,h3,ob,evSeq];exact h5,⟨R2.sim,R2.base_le,R'.old.trans R2.old,R2.hi⟩,h6⟩
  | exit id=>simp only [evSeqW,Option.some.injEq,Prod.mk.injEq] at he;obtain ⟨rfl,rfl⟩:=he;exact ⟨s1',ρ1,V1,A1,by simp only [erC,evC,h3,ob,evSeq],R',h4⟩
  | ret=>simp only [evSeqW,Option.some.injEq,Prod.mk.injEq] at he;obtain ⟨rfl,rfl⟩:=he;exact ⟨s1',ρ1,V1,A1,by simp only [erC,evC,h3,ob,evSeq],R',h4⟩
theorem results_vw {ρ:Nat→Nat} {V A:Nat→Prop} {e:Env} {e':Env} {h:WHeap} {h':Heap} (he:EW ρ V A e e') (H:HW ρ V A h h') {rs:List CRes} {v:AV} (hv:resultsW e h rs=some v):∃ v',Pav.results e' h' rs=some v'∧VW ρ V A v v':=by
 obtain ⟨vs,h1,rfl⟩:=om_some hv
 have one:∀ r x,resOfW e h r=some x→∃ x',resOf e' h' r=some x'∧VW ρ V A x x':=by
  intro r x hx
  cases r with
  | tmp t=>exact he t x hx
  | cell t k ag =>
   simp only [resOfW] at hx
   split at hx
   · rename_i b i o hg
     obtain ⟨p,h2,h3⟩:=he t _ hg
     obtain ⟨rfl,hA,hV⟩:=h3.ptr_inv
     unfold wLoadAt at hx
     split at hx
     · rename_i z es mu dt hgb
       obtain ⟨cs,h4,h5⟩:=ob_some hx
       obtain ⟨o',g1,es',mu',rfl,_,ge,_⟩:=H.obj b _ hgb hV
       obtain ⟨cs',h6,h7⟩:=ge.get h4
       obtain ⟨v',h8,h9⟩:=loadC_vw (h7.drop o) h5
       exact ⟨v',by simp only [resOf,h2,g1,loadAt,h6,ob];exact h8,h9⟩
     · cases hx
   · cases hx
 have lst:∀ (rs:List CRes) (vs:List AV),mapO (resOfW e h) rs=some vs→∃ vs',mapO (resOf e' h') rs=some vs'∧Rel2 (VW ρ V A) vs vs':=by
  intro rs
  induction rs with
  | nil=>intro vs hq;simp only [mapO,Option.some.injEq] at hq;subst hq;exact ⟨[],rfl,.nil⟩
  | cons r rs ih =>
   intro vs hq
   simp only [mapO] at hq ⊢
   obtain ⟨x,h2,hq⟩:=ob_some hq
   obtain ⟨xs,h3,rfl⟩:=om_some hq
   obtain ⟨x',h4,h5⟩:=one r x h2
   obtain ⟨xs',h6,h7⟩:=ih xs h3
   exact ⟨x'::xs',by rw [h4,h6];rfl,.cons h5 h7⟩
 obtain ⟨vs',h2,h3⟩:=lst rs vs h1
 refine ⟨tupled vs',by simp only [Pav.results,h2,om],?_⟩
 cases vs with
 | nil=>rw [h3.inv_nil];exact VW.mktup .nil
 | cons a r =>
  obtain ⟨b,t,rfl,h4,h5⟩:=h3.inv_cons
  cases r with
  | nil=>rw [h5.inv_nil];exact h4
  | cons a2 r2 =>
   obtain ⟨b2,t2,rfl,h6,h7⟩:=h5.inv_cons
   exact VW.mktup (.cons h4 (.cons h6 h7))
theorem argEnv_get:∀ (l:List AV) (k j:Nat),get (argEnv k l) j=if j < k then none else l[j - k]?:=by
 intro l
 induction l with
 | nil=>intro k j;simp [argEnv,Pav.get]
 | cons a l ih =>
  intro k j
  simp only [argEnv,Pav.get]
  by_cases h1:k=j
  · subst h1;simp
  · rw [if_neg h1,ih]
    by_cases h2:j < k
    · rw [if_pos (by omega),if_pos h2]
    · rw [if_neg (by omega),if_neg h2]
      have:j - k=(j - (k+1))+1:=by omega
      rw [this];simp
theorem erTree_get:∀ (t:WTree) (g:Nat),(erTree t).get g=(t.get g).map erFn:=by
 intro t
 induction t with
 | leaf=>intro g;rfl
 | node l k f r ihl ihr =>
  intro g
  simp only [erTree,Tree.get,WTree.get]
  split
  · rfl
  · split
    · exact ihl g
    · exact ihr g
theorem okTree_get:∀ (t:WTree) (g:Nat) (f:WFn),okTree t=true→t.get g=some f→okC f.body=true:=by
 intro t
 induction t with
 | leaf=>intro g f _ h;simp [WTree.get] at h
 | node l k f r ihl ihr =>
  intro g f' hok h
  simp only [okTree,Bool.and_eq_true] at hok
  simp only [WTree.get] at h
  split at h
  · cases h;exact hok.2.1
  · split at h
    · exact ihl g f' hok.1 h
    · exact ihr g f' hok.2.2 h
theorem run_sim (hok:okTree C.fns=true) {k:Nat} (hc:CodeSim C k):RunSim (runWithW C (evW C k)) (runWith (erProg C) (evC (erProg C) k)):=by
 intro f args h n v h1 n1 hrun ρ V A args' h' m ha H lt
 unfold runWithW at hrun
 obtain ⟨fn,hf,hrun⟩:=ob_some hrun
 split at hrun
 · rename_i hl
   obtain ⟨⟨ex,s1⟩,h2,h3⟩:=ob_some hrun
   have S:Sim ρ V A ⟨argW 0 args [],h,n⟩ ⟨argEnv 0 args',h',m⟩:=by
    refine ⟨srt_arg args 0,fun j x hj=>?_,H,lt⟩
    have hj2:get (argEnv 0 args) j=some x:=by
     have hm:=get_mem hj
     rw [argW_eq,List.append_nil] at hm
     have hm2:=List.mem_reverse.1 hm
     have key:∀ (l:List AV) (k:Nat),(j,x) ∈ argEnv k l→get (argEnv k l) j=some x:=by
      intro l
      induction l with
      | nil=>intro k hq;simp [argEnv] at hq
      | cons v l ih =>
       intro k hq
       simp only [argEnv,Pav.get]
       rcases List.mem_cons.1 hq with q | q
       · cases q;simp
       · have:=(srt_arg0 l (k+1)).2 _ q
         simp only at this
         rw [if_neg (by omega)]
         exact ih (k+1) q
     exact key args 0 hm2
    simp only [argEnv_get,Nat.not_lt_zero,if_false,Nat.sub_zero] at hj2 ⊢
    exact ha.get hj2
   obtain ⟨s1',ρ1,V1,A1,h4,R,h5⟩:=hc n fn.body _ ex s1 (okTree_get _ _ _ hok hf) h2 m ⟨argEnv 0 args',h',m⟩ ρ V A S (Nat.le_refl _) (fun b hb _ hn=>absurd (lt.w b hb) (by omega)) (Nat.le_refl _)
   have fin:∃ v',Pav.results s1'.env s1'.heap fn.res=some v'∧VW ρ1 V1 A1 v v'∧s1.heap=h1∧s1.next=n1∧∀ i,ex≠.exit i:=by
    unfold fnEndW at h3
    cases ex with
    | exit i=>cases h3
    | norm =>
     obtain ⟨w,q1,q2⟩:=om_some h3
     cases q2
     obtain ⟨v',q3,q4⟩:=results_vw R.sim.env R.sim.heap q1
     exact ⟨v',q3,q4,rfl,rfl,fun i e=>by cases e⟩
    | ret =>
     obtain ⟨w,q1,q2⟩:=om_some h3
     cases q2
     obtain ⟨v',q3,q4⟩:=results_vw R.sim.env R.sim.heap q1
     exact ⟨v',q3,q4,rfl,rfl,fun i e=>by cases e⟩
   obtain ⟨v',h6,h7,rfl,rfl,h8⟩:=fin
   refine ⟨v',s1'.heap,s1'.next,ρ1,V1,A1,?_,h7,R.sim.heap,R.sim.lt,fun b hb=>(R.old b (lt.w b hb)).1 hb,fun b hb=>?_,fun b hb hv=>?_,R.base_le,h5⟩
   · unfold runWith
     have:(erProg C).fns.get f=some (erFn fn):=by
      show (erTree C.fns).get f=_
      rw [erTree_get,hf];rfl
     rw [this]
     have hnp:args'.length=(erFn fn).np:=by rw [← ha.1];exact hl
     simp only [ob]
     rw [if_pos hnp,show (erFn fn).body=erC fn.body from rfl,h4]
     cases ex with
     | exit i=>exact absurd rfl (h8 i)
     | norm=>simp only [fnEnd,show (erFn fn).res=fn.res from rfl,h6,om]
     | ret=>simp only [fnEnd,show (erFn fn).res=fn.res from rfl,h6,om]
   · rcases Nat.lt_or_ge b n with q | q
     · exact .inl ((R.old b q).2 hb)
     · exact .inr q
   · rcases Nat.lt_or_ge b n with q | q
     · have:=(R.old b q).2 hb
       exact .inl ⟨this,((R.old b q).1 this).2.1⟩
     · exact .inr (R.hi b hb hv q)
 · cases hrun
theorem all_sim (hok:okTree C.fns=true):∀ k,CodeSim C k:=by
 intro k
 induction k with
 | zero=>intro base c s ex s1 _ he;simp [evW] at he
 | succ k ih=>exact code_sim ih (run_sim hok ih)
theorem callW_ok (hok:okTree C.fns=true) {k f:Nat} {args args':List AV} {v:AV} (ha:Rel2 (VD id fun _=>False) args args') (hc:callW C k f args=some v):∃ v',callF (erProg C) k f args'=some v'∧VD id (fun _=>False) v v' :=
 pure_sim (run_sim hok (all_sim hok k)) ha hc
end
end Go.Pw
end
section
set_option linter.unusedSimpArgs false
set_option linter.unusedVariables false
namespace Go.Pw
open Go Go.Pav
def RunLeW (r r':WRun):Prop:=∀ f args h n x,r f args h n=some x→r' f args h n=some x
section
variable {C:WProg} {r r':WRun}
theorem evCallW_mono (hr:RunLeW r r') {f:Nat} {args:List AV} {h:WHeap} {nid n:Nat} {c:WCalled} (hc:evCallW C r f args h nid n=some c):evCallW C r' f args h nid n=some c:=by
 unfold evCallW at hc ⊢
 split
 · rename_i hi
   rw [if_pos hi] at hc
   split
   · rename_i hf
     rw [if_pos hf] at hc
     exact ob_mono hc (fun x hx=>hx) fun az has=>ob_mono has (fun v hv=>ob_mono hv (fun x hx=>hr _ _ _ _ _ hx) fun x hx=>hx) fun x hx=>hx
   · rename_i hf
     rw [if_neg hf] at hc
     exact om_mono hc fun x hx=>hr _ _ _ _ _ hx
 · rename_i hi
   rw [if_neg hi] at hc
   split
   · rename_i hp;rw [if_pos hp] at hc;exact om_mono hc fun x hx=>hr _ _ _ _ _ hx
   · rename_i hp
     rw [if_neg hp] at hc
     exact ob_mono hc (fun x hx=>hx) fun az has=>om_mono has fun v hv=>ob_mono hv (fun x hx=>hr _ _ _ _ _ hx) fun x hx=>hx
theorem evActW_mono (hr:RunLeW r r') {op:COp} {nid:Nat} {e:Env} {h:WHeap} {n:Nat} {d:WDid} (hd:evActW C r op nid e h n=some d):evActW C r' op nid e h n=some d:=by
 unfold evActW at hd ⊢
 split
 · rename_i hc;rw [hc] at hd;cases hd
 · rename_i hc;rw [hc] at hd;exact om_mono hd fun c hc=>evCallW_mono hr hc
 · rename_i hc;rw [hc] at hd;exact hd
theorem evOpW_mono (hr:RunLeW r r') {o:COper} {nid:Nat} {e:Env} {h:WHeap} {n:Nat} {d:WDid} (hd:evOpW C r o nid e h n=some d):evOpW C r' o nid e h n=some d:=by
 unfold evOpW at hd ⊢
 split
 · rename_i hc;rw [hc] at hd;cases hd
 · rename_i hc;rw [hc] at hd;exact hd
 · rename_i hc;rw [hc] at hd;exact evActW_mono hr hd
theorem evOpsW_mono (hr:RunLeW r r'):∀ (l:List COper) (s s':WSt),evOpsW C r l s=some s'→evOpsW C r' l s=some s':=by
 intro l
 induction l with
 | nil=>intro s s' h;exact h
 | cons o l ih=>intro s s' h;exact ob_mono h (fun d hd=>evOpW_mono hr hd) fun d hd=>ih _ _ hd
theorem evDrawW_mono (hr:RunLeW r r'):∀ (l:List COper) (nid:Nat) (s:WSt) (ds:List WDid) (x:WSt × List WDid),evDrawW C r l nid s ds=some x→evDrawW C r' l nid s ds=some x:=by
 intro l
 induction l with
 | nil=>intro nid s ds x h;exact h
 | cons o l ih=>intro nid s ds x h;exact ob_mono h (fun d hd=>evOpW_mono hr hd) fun d hd=>ih _ _ _ _ hd
theorem runWithW_mono {ev ev':WEv} (he:∀ b c s x,ev b c s=some x→ev' b c s=some x):RunLeW (runWithW C ev) (runWithW C ev'):=by
 intro f args h n x hx
 refine ob_mono hx (fun a ha=>ha) fun fn hfn=>?_
 split
 · rename_i hl
   rw [if_pos hl] at hfn
   exact ob_mono hfn (fun a ha=>he _ _ _ _ ha) fun a ha=>ha
 · rename_i hl
   rw [if_neg hl] at hfn;cases hfn
theorem evSeqW_mono {b b':WSt→Option (Ex × WSt)} (h:∀ s x,b s=some x→b' s=some x) {r:Ex × WSt} {x:Ex × WSt} (hx:evSeqW b r=some x):evSeqW b' r=some x:=by
 unfold evSeqW at hx ⊢
 split
 · rename_i hr;rw [hr] at hx;exact h _ _ hx
 · split at hx
   · rename_i h1 _ h2;exact absurd h2 h1
   · exact hx
theorem evW_mono:∀ (n m:Nat),n≤m→∀ (base:Nat) (c:WCode) (s:WSt) (x:Ex × WSt),evW C n base c s=some x→evW C m base c s=some x:=by
 intro n
 induction n with
 | zero=>intro m _ base c s x h;simp only [evW] at h;cases h
 | succ n ih =>
  intro m hm base c s x h
  obtain ⟨m,rfl⟩:∃ k,m=k+1:=⟨m - 1,by omega⟩
  have ih':=ih m (by omega)
  have hr:RunLeW (runWithW C (evW C n)) (runWithW C (evW C m)):=runWithW_mono ih'
  cases c with
  | skip=>exact h
  | exit id=>exact h
  | ret=>exact h
  | fail=>exact h
  | cln zz z b =>
   simp only [evW] at h ⊢
   split
   · rename_i z' hz
     rw [hz] at h
     simp only at h
     split at h
     · rename_i hc;rw [if_pos ⟨hc.1,hc.2.1,by omega⟩];exact h
     · cases h
   · rename_i hz
     rw [hz] at h
     exact ih' _ _ _ _ h
  | ops l a=>simp only [evW] at h ⊢;exact ob_mono h (fun s' hs=>evOpsW_mono hr l s s' hs) fun x hx=>hx
  | draw l un a=>simp only [evW] at h ⊢;exact ob_mono h (fun x hx=>evDrawW_mono hr l _ _ _ x hx) fun x hx=>hx
  | seq a b=>simp only [evW] at h ⊢;exact ob_mono h (fun x hx=>ih' _ _ _ _ hx) fun x hx=>evSeqW_mono (fun s x hx=>ih' _ _ _ _ hx) hx
  | cond c a b =>
   simp only [evW] at h ⊢
   unfold evCondW at h ⊢
   split
   · rename_i t hv
     rw [hv] at h
     cases t with
     | true=>exact ih' _ _ _ _ h
     | false=>exact ih' _ _ _ _ h
   · split at h
     · rename_i h1 _ t hv;exact absurd hv (h1 t)
     · cases h
  | block id b a=>simp only [evW] at h ⊢;exact ob_mono h (fun x hx=>ih' _ _ _ _ hx) fun x hx=>hx
  | loop a b=>simp only [evW] at h ⊢;exact ob_mono h (fun x hx=>hx) fun s hs=>ob_mono hs (fun x hx=>ih' _ _ _ _ hx) fun x hx=>evSeqW_mono (fun s x hx=>ih' _ _ _ _ hx) hx
theorem runW_mono {n m:Nat} (h:n≤m):RunLeW (runW C n) (runW C m):=runWithW_mono (evW_mono n m h)
end
section
variable (C:WProg)
noncomputable def CdW:WEv:=fun base c s=>lim fun n=>evW C n base c s
noncomputable def RnW:WRun:=runWithW C (CdW C)
noncomputable def FnW (f:Nat) (args:List AV):Option AV:=pureCallW (RnW C) f args
end
section
variable {C:WProg} {base:Nat}
theorem mono_W (base:Nat) (c:WCode) (s:WSt):Mono fun n=>evW C n base c s:=fun n m h a ha=>evW_mono n m h base c s a ha
theorem cdW_iff {c:WCode} {s:WSt} {x:Ex × WSt}:CdW C base c s=some x↔∃ n,evW C n base c s=some x:=lim_iff (mono_W base c s)
theorem evW_cd {n:Nat} {c:WCode} {s:WSt} {x:Ex × WSt} (h:evW C n base c s=some x):CdW C base c s=some x:=cdW_iff.2 ⟨n,h⟩
theorem runle_rnW (n:Nat):RunLeW (runW C n) (RnW C):=runWithW_mono fun _ _ _ _ h=>evW_cd h
theorem rnW_run {f:Nat} {args:List AV} {h:WHeap} {n:Nat} {x:AV × WHeap × Nat} (hx:RnW C f args h n=some x):∃ k,runW C k f args h n=some x:=by
 unfold RnW runWithW at hx
 obtain ⟨fn,hf,hx⟩:=ob_some hx
 split at hx
 · rename_i hl
   obtain ⟨y,hc,hx⟩:=ob_some hx
   obtain ⟨k,hk⟩:=cdW_iff.1 hc
   refine ⟨k,?_⟩
   unfold runW runWithW
   rw [hf]
   simp only [ob,if_pos hl,hk]
   exact hx
 · cases hx
theorem evCallW_cont {f:Nat} {args:List AV} {h:WHeap} {nid n:Nat} {c:WCalled} (hc:evCallW C (RnW C) f args h nid n=some c):∃ k,evCallW C (runW C k) f args h nid n=some c:=by
 unfold evCallW at hc ⊢
 split
 · rename_i hi
   rw [if_pos hi] at hc
   split
   · rename_i hf
     rw [if_pos hf] at hc
     obtain ⟨az,h1,hc⟩:=ob_some hc
     obtain ⟨x,h2,hend⟩:=ob_some hc
     obtain ⟨r,h3,h4⟩:=ob_some h2
     obtain ⟨k,hk⟩:=rnW_run h3
     refine ⟨k,?_⟩
     rw [h1]
     unfold freshCallW
     simp only [ob,hk]
     rw [h4]
     exact hend
   · rename_i hf
     rw [if_neg hf] at hc
     obtain ⟨r,h1,rfl⟩:=om_some hc
     obtain ⟨k,hk⟩:=rnW_run h1
     exact ⟨k,by rw [hk];rfl⟩
 · rename_i hi
   rw [if_neg hi] at hc
   split
   · rename_i hp
     rw [if_pos hp] at hc
     obtain ⟨r,h1,rfl⟩:=om_some hc
     obtain ⟨k,hk⟩:=rnW_run h1
     exact ⟨k,by rw [hk];rfl⟩
   · rename_i hp
     rw [if_neg hp] at hc
     obtain ⟨az,h1,hc⟩:=ob_some hc
     obtain ⟨v,h2,rfl⟩:=om_some hc
     obtain ⟨r,h3,h4⟩:=ob_some h2
     obtain ⟨k,hk⟩:=rnW_run h3
     exact ⟨k,by rw [h1];simp only [ob,pureCallW,hk,h4];rfl⟩
theorem evOpW_cont {o:COper} {nid:Nat} {e:Env} {h:WHeap} {n:Nat} {d:WDid} (hd:evOpW C (RnW C) o nid e h n=some d):∃ k,evOpW C (runW C k) o nid e h n=some d:=by
 unfold evOpW at hd ⊢
 split
 · rename_i hc;rw [hc] at hd;cases hd
 · rename_i hc;rw [hc] at hd;exact ⟨0,hd⟩
 · rename_i hc
   rw [hc] at hd
   simp only at hd
   unfold evActW at hd ⊢
   split
   · rename_i hc;rw [hc] at hd;cases hd
   · rename_i hc
     rw [hc] at hd
     simp only at hd
     obtain ⟨r,h1,rfl⟩:=om_some hd
     obtain ⟨k,hk⟩:=evCallW_cont h1
     exact ⟨k,by rw [hk];rfl⟩
   · rename_i hc;rw [hc] at hd;exact ⟨0,hd⟩
theorem evOpsW_cont:∀ (l:List COper) (s s':WSt),evOpsW C (RnW C) l s=some s'→∃ k,evOpsW C (runW C k) l s=some s':=by
 intro l
 induction l with
 | nil=>intro s s' h;exact ⟨0,h⟩
 | cons o l ih =>
  intro s s' h
  simp only [evOpsW] at h ⊢
  obtain ⟨d,hd,h⟩:=ob_some h
  obtain ⟨k1,h1⟩:=evOpW_cont hd
  obtain ⟨k2,h2⟩:=ih _ _ h
  refine ⟨max k1 k2,?_⟩
  rw [evOpW_mono (runW_mono (Nat.le_max_left k1 k2)) h1]
  exact evOpsW_mono (runW_mono (Nat.le_max_right k1 k2)) _ _ _ h2
theorem evDrawW_cont:∀ (l:List COper) (nid:Nat) (s:WSt) (ds:List WDid) (x:WSt × List WDid),evDrawW C (RnW C) l nid s ds=some x→∃ k,evDrawW C (runW C k) l nid s ds=some x:=by
 intro l
 induction l with
 | nil=>intro nid s ds x h;exact ⟨0,h⟩
 | cons o l ih =>
  intro nid s ds x h
  simp only [evDrawW] at h ⊢
  obtain ⟨d,hd,h⟩:=ob_some h
  obtain ⟨k1,h1⟩:=evOpW_cont hd
  obtain ⟨k2,h2⟩:=ih _ _ _ _ h
  refine ⟨max k1 k2,?_⟩
  rw [evOpW_mono (runW_mono (Nat.le_max_left k1 k2)) h1]
  exact evDrawW_mono (runW_mono (Nat.le_max_right k1 k2)) _ _ _ _ _ h2
theorem cw_skip (s:WSt):CdW C base .skip s=some (.norm,s):=evW_cd (n:=1) rfl
theorem cw_exit (id:Nat) (s:WSt):CdW C base (.exit id) s=some (.exit id,s):=evW_cd (n:=1) rfl
theorem cw_ret (s:WSt):CdW C base .ret s=some (.ret,s):=evW_cd (n:=1) rfl
theorem cw_succ {c:WCode} {s:WSt} {x:Ex × WSt}:CdW C base c s=some x↔∃ n,evW C (n+1) base c s=some x:=by
 rw [cdW_iff]
 constructor
 · rintro ⟨n,h⟩;exact ⟨n,evW_mono n (n+1) (Nat.le_succ n) base c s x h⟩
 · rintro ⟨n,h⟩;exact ⟨_,h⟩
theorem evSeqW_iff {b:WCode} {r x:Ex × WSt}:evSeqW (CdW C base b) r=some x↔∃ n,evSeqW (evW C n base b) r=some x:=by
 obtain ⟨ex,s⟩:=r
 cases ex with
 | norm=>simp only [evSeqW];exact cdW_iff
 | exit id=>simp [evSeqW]
 | ret=>simp [evSeqW]
theorem cw_seq (a b:WCode) (s:WSt):CdW C base (.seq a b) s=ob (CdW C base a s) (evSeqW (CdW C base b)):=by
 refine opt_ext fun x=>?_
 rw [cw_succ,ob_iff]
 simp only [evW,ob_iff]
 constructor
 · rintro ⟨n,r,h1,h2⟩;exact ⟨r,evW_cd h1,evSeqW_iff.2 ⟨n,h2⟩⟩
 · rintro ⟨r,h1,h2⟩
   obtain ⟨n,h1⟩:=cdW_iff.1 h1
   obtain ⟨m,h2⟩:=evSeqW_iff.1 h2
   exact ⟨max n m,r,evW_mono _ _ (Nat.le_max_left n m) _ _ _ _ h1,evSeqW_mono (fun s x hx=>evW_mono _ _ (Nat.le_max_right n m) _ _ _ _ hx) h2⟩
theorem cw_loop (a:Ann) (b:WCode) (s:WSt):CdW C base (.loop a b) s=ob (canon base a s) fun s=>ob (CdW C base b s) (evSeqW (CdW C base (.loop a b))):=by
 refine opt_ext fun x=>?_
 rw [cw_succ,ob_iff]
 simp only [evW,ob_iff]
 constructor
 · rintro ⟨n,s0,h0,r,h1,h2⟩;exact ⟨s0,h0,r,evW_cd h1,evSeqW_iff.2 ⟨n,h2⟩⟩
 · rintro ⟨s0,h0,r,h1,h2⟩
   obtain ⟨n,h1⟩:=cdW_iff.1 h1
   obtain ⟨m,h2⟩:=evSeqW_iff.1 h2
   exact ⟨max n m,s0,h0,r,evW_mono _ _ (Nat.le_max_left n m) _ _ _ _ h1,evSeqW_mono (fun s x hx=>evW_mono _ _ (Nat.le_max_right n m) _ _ _ _ hx) h2⟩
theorem cw_block (id:Nat) (b:WCode) (a:Ann) (s:WSt):CdW C base (.block id b a) s=ob (CdW C base b s) (evBlockW base id a):=by
 refine opt_ext fun x=>?_
 rw [cw_succ,ob_iff]
 simp only [evW,ob_iff]
 constructor
 · rintro ⟨n,r,h1,h2⟩;exact ⟨r,evW_cd h1,h2⟩
 · rintro ⟨r,h1,h2⟩
   obtain ⟨n,h1⟩:=cdW_iff.1 h1
   exact ⟨n,r,h1,h2⟩
theorem cw_cond (c:Opd) (a b:WCode) (s:WSt):CdW C base (.cond c a b) s=evCondW (CdW C base a) (CdW C base b) (c.ev s.env) s:=by
 refine opt_ext fun x=>?_
 rw [cw_succ]
 simp only [evW]
 unfold evCondW
 split
 · rename_i t _
   cases t with
   | true=>exact cdW_iff.symm
   | false=>exact cdW_iff.symm
 · simp
theorem cw_ops (l:List COper) (a:Ann) (s:WSt):CdW C base (.ops l a) s=ob (evOpsW C (RnW C) l s) fun s=>om (canonF base a s) fun s=>(.norm,s):=by
 refine opt_ext fun x=>?_
 rw [cw_succ,ob_iff]
 simp only [evW,ob_iff]
 constructor
 · rintro ⟨n,r,h1,h2⟩;exact ⟨r,evOpsW_mono (runle_rnW n) _ _ _ h1,h2⟩
 · rintro ⟨r,h1,h2⟩
   obtain ⟨n,h1⟩:=evOpsW_cont _ _ _ h1
   exact ⟨n,r,h1,h2⟩
theorem cw_draw (l:List COper) (un:List (Nat × Nat)) (a:Ann) (s:WSt):CdW C base (.draw l un a) s=ob (evDrawW C (RnW C) l s.next ⟨s.env,s.heap,s.next+l.length⟩ []) (drawEndW base un a):=by
 refine opt_ext fun x=>?_
 rw [cw_succ,ob_iff]
 simp only [evW,ob_iff]
 constructor
 · rintro ⟨n,r,h1,h2⟩;exact ⟨r,evDrawW_mono (runle_rnW n) _ _ _ _ _ h1,h2⟩
 · rintro ⟨r,h1,h2⟩
   obtain ⟨n,h1⟩:=evDrawW_cont _ _ _ _ _ h1
   exact ⟨n,r,h1,h2⟩
theorem fnW_call {f:Nat} {args:List AV} {v:AV}:FnW C f args=some v↔∃ n,callW C n f args=some v:=by
 unfold FnW callW pureCallW
 simp only [ob_iff]
 constructor
 · rintro ⟨r,h1,h2⟩
   obtain ⟨k,h1⟩:=rnW_run h1
   exact ⟨k,r,h1,h2⟩
 · rintro ⟨k,r,h1,h2⟩;exact ⟨r,runle_rnW k _ _ _ _ _ h1,h2⟩
end
end Go.Pw
end
section
set_option linter.unusedSimpArgs false
set_option linter.unusedVariables false
namespace Go.Pw
open Go Go.Pav
inductive Frame where
 | sq (b:WCode)
 | bk (id:Nat) (a:Ann)
 | lp (a:Ann) (b:WCode)
def setE:Env→Nat→AV→Env
 | [],_,_=>[]
 | (k,v)::r,g,x=>if k=g then (k,x)::r else (k,v)::setE r g x
section
variable {β:Type}
noncomputable def RK (C:WProg) (base:Nat):List Frame→Ex × WSt→Option (Ex × WSt)
 | [],r=>some r
 | .sq b::k,r=>ob (evSeqW (CdW C base b) r) (RK C base k)
 | .bk id a::k,r=>ob (evBlockW base id a r) (RK C base k)
 | .lp a b::k,r=>ob (evSeqW (CdW C base (.loop a b)) r) (RK C base k)
noncomputable def CK (C:WProg) (base:Nat) (fin:Ex × WSt→Option β) (k:List Frame) (c:WCode) (s:WSt):Option β:=ob (CdW C base c s) fun r=>ob (RK C base k r) fin
noncomputable def NK (C:WProg) (base:Nat) (fin:Ex × WSt→Option β) (k:List Frame) (ex:Ex) (s:WSt):Option β:=ob (RK C base k (ex,s)) fin
noncomputable def AK (C:WProg) (base:Nat) (fin:Ex × WSt→Option β) (k:List Frame) (s:Option WSt):Option β:=ob s fun s=>NK C base fin k .norm s
noncomputable def LK (C:WProg) (base:Nat) (fin:Ex × WSt→Option β) (k:List Frame) (b:WCode) (s:Option WSt):Option β:=ob s fun s=>CK C base fin k b s
noncomputable def OK (C:WProg) (base:Nat) (fin:Ex × WSt→Option β) (k:List Frame) (a:Ann) (l:List COper) (s:WSt):Option β :=
 ob (evOpsW C (RnW C) l s) fun s=>AK C base fin k (canonF base a s)
noncomputable def SK (C:WProg) (base:Nat) (fin:Ex × WSt→Option β) (k:List Frame) (a:Ann) (l:List COper) (d:Option Nat) (e:Env) (h:WHeap) (n:Nat) (x:Option (AV × WUpd)):Option β :=
 ob x fun x=>OK C base fin k a l ⟨setD e d x.1,applyW h x.2,n⟩
noncomputable def condK (C:WProg) (base:Nat) (fin:Ex × WSt→Option β) (k:List Frame) (a b:WCode) (s:WSt) (v:AV):Option β :=
 match v with
 | .bool t=>if t=true then CK C base fin k a s else CK C base fin k b s
 | _=>none
noncomputable def GK (C:WProg) (base:Nat) (fin:Ex × WSt→Option β) (k:List Frame) (a:Ann) (l:List COper) (d:Option Nat) (op:COp) (g:Nat) (w:Bool) (e:Env) (h:WHeap) (n:Nat) (v:Option AV):Option β :=
 match v with
 | some (.bool b)=>if b=w then OK C base fin k a (⟨d,none,op⟩::l) ⟨setE e g (.bool w),h,n⟩ else OK C base fin k a l ⟨setD (setE e g (.bool (!w))) d (.tup []),h,n+1⟩
 | some (.tup [])=>OK C base fin k a l ⟨setD e d (.tup []),h,n+1⟩
 | _=>none
noncomputable def VK (C:WProg) (base:Nat) (fin:Ex × WSt→Option β) (k:List Frame) (a:Ann) (l:List COper) (d:Option Nat) (e:Env) (h:WHeap) (n:Nat) (args:List AV) (v:Option AV):Option β :=
 ob v fun v=>OK C base fin k a l ⟨setD e d v,applyW h (marksW h args v),n⟩
noncomputable def WK (C:WProg) (base:Nat) (fin:Ex × WSt→Option β) (k:List Frame) (a:Ann) (l:List COper) (d:Option Nat) (e:Env) (r:Option (AV × WHeap × Nat)):Option β :=
 ob r fun r=>OK C base fin k a l ⟨setD e d r.1,r.2.1,r.2.2⟩
noncomputable def PK (C:WProg) (base:Nat) (fin:Ex × WSt→Option β) (k:List Frame) (a:Ann) (l:List COper) (d:Option Nat) (e:Env) (h:WHeap) (n:Nat) (f:Nat) (args:List AV) (az:Option (List AV)):Option β :=
 ob az fun az=>VK C base fin k a l d e h n args (FnW C f az)
noncomputable def BSK (C:WProg) (base:Nat) (fin:Ex × WSt→Option β) (k:List Frame) (a:Ann) (l:List COper) (d:Option Nat) (e:Env) (h:WHeap) (n:Nat) (v:AV) (u:WUpd) (ok:Bool):Option β :=
 if ok=true then OK C base fin k a l ⟨setD e d v,applyW h u,n⟩ else none
noncomputable def FSK (C:WProg) (base:Nat) (fin:Ex × WSt→Option β) (k:List Frame) (a:Ann) (l:List COper) (d:Option Nat) (e:Env) (h:WHeap) (n:Nat) (br:Bool) (args:List AV) (x:Option (AV × WUpd)):Option β :=
 ob x fun x=>if br=true then BSK C base fin k a l d e h n x.1 x.2 (bareXW x) else OK C base fin k a l ⟨setD e d x.1,applyW h (markFrozenW h (args.flatMap (reachW h frzDepth))++x.2),n⟩
noncomputable def FPK (C:WProg) (base:Nat) (fin:Ex × WSt→Option β) (k:List Frame) (a:Ann) (l:List COper) (d:Option Nat) (e:Env) (h:WHeap) (n:Nat) (f:Nat) (args:List AV) (az:Option (List AV)):Option β :=
 ob az fun az=>FSK C base fin k a l d e h n (isBr f) args (freshCallW (RnW C) f az (n - 1))
noncomputable def IK (C:WProg) (base:Nat) (fin:Ex × WSt→Option β) (k:List Frame) (a:Ann) (l:List COper) (d:Option Nat) (e:Env) (h:WHeap) (n:Nat) (f:Nat) (args:List AV) (fr:Bool):Option β :=
 if fr=true then FPK C base fin k a l d e h n f args (mapO (frzW h frzDepth) args) else WK C base fin k a l d e (RnW C f args h n)
noncomputable def FK (C:WProg) (base:Nat) (fin:Ex × WSt→Option β) (k:List Frame) (a:Ann) (l:List COper) (d:Option Nat) (e:Env) (h:WHeap) (n:Nat) (f:Nat) (args:List AV) (inl ptr:Bool):Option β :=
 if inl=true then IK C base fin k a l d e h n f args (isFr f) else if ptr=true then WK C base fin k a l d e (RnW C f args h n) else PK C base fin k a l d e h n f args (mapO (frzW h frzDepth) args)
noncomputable def QK (C:WProg) (base:Nat) (fin:Ex × WSt→Option β) (k:List Frame) (a:Ann) (l:List COper) (d:Option Nat) (e:Env) (h:WHeap) (n:Nat) (args:List AV) (g:AV):Option β :=
 match g with
 | .fn f caps=>FK C base fin k a l d e h n f (args++caps) (C.inl f) (!C.pp f&&hasPtrL (args++caps))
 | _=>none
abbrev RW:=Bool × List Nat × List Nat
def rwOf (d:WDid):RW:=(d.bar,d.rd,d.wr)
def quietR (d:RW):Bool:=!d.1&&(d.2.2.isEmpty&&d.2.1.isEmpty)
def clashR (a b:RW):Bool:=!(quietR a||quietR b)&&(a.1||(b.1||(meets a.2.2 b.2.2||(meets a.2.2 b.2.1||meets a.2.1 b.2.2))))
def apartR (ds:List RW) (p:Nat × Nat):Bool :=
 match ds[p.1]?,ds[p.2]? with
 | some a,some b=>!clashR a b
 | _,_=>false
noncomputable def EK (C:WProg) (base:Nat) (fin:Ex × WSt→Option β) (k:List Frame) (a:Ann) (s:WSt) (ok:Bool):Option β :=
 if ok=true then AK C base fin k (canonF base a s) else none
noncomputable def DK (C:WProg) (base:Nat) (fin:Ex × WSt→Option β) (k:List Frame) (a:Ann) (un:List (Nat × Nat)) (l:List COper) (nid:Nat) (s:WSt) (ds:List RW):Option β :=
 ob (evDrawW C (RnW C) l nid s []) fun r=>EK C base fin k a r.1 (un.all (apartR (ds++r.2.map rwOf)))
noncomputable def DSK (C:WProg) (base:Nat) (fin:Ex × WSt→Option β) (k:List Frame) (a:Ann) (un:List (Nat × Nat)) (l:List COper) (nid:Nat) (d:Option Nat) (e:Env) (h:WHeap) (n:Nat) (ds:List RW) (rd:List Nat) (x:Option (AV × WUpd)):Option β :=
 ob x fun x=>DK C base fin k a un l nid ⟨setD e d x.1,applyW h x.2,n⟩ (ds++[(false,rd,x.2.map (·.1))])
noncomputable def DGK (C:WProg) (base:Nat) (fin:Ex × WSt→Option β) (k:List Frame) (a:Ann) (un:List (Nat × Nat)) (l:List COper) (nid:Nat) (d:Option Nat) (op:COp) (g:Nat) (w:Bool) (e:Env) (h:WHeap) (n:Nat) (ds:List RW) (v:Option AV):Option β :=
 match v with
 | some (.bool b)=>if b=w then DK C base fin k a un (⟨d,none,op⟩::l) nid ⟨setE e g (.bool w),h,n⟩ ds else DK C base fin k a un l (nid+1) ⟨setD (setE e g (.bool (!w))) d (.tup []),h,n⟩ (ds++[(false,[],[])])
 | some (.tup [])=>DK C base fin k a un l (nid+1) ⟨setD e d (.tup []),h,n⟩ (ds++[(false,[],[])])
 | _=>none
noncomputable def DVK (C:WProg) (base:Nat) (fin:Ex × WSt→Option β) (k:List Frame) (a:Ann) (un:List (Nat × Nat)) (l:List COper) (nid:Nat) (d:Option Nat) (e:Env) (h:WHeap) (n:Nat) (ds:List RW) (args:List AV) (v:Option AV):Option β :=
 ob v fun v=>DK C base fin k a un l nid ⟨setD e d v,applyW h (marksW h args v),n⟩ (ds++[(false,args.flatMap (reachW h frzDepth),(marksW h args v).map (·.1))])
noncomputable def DWK (C:WProg) (base:Nat) (fin:Ex × WSt→Option β) (k:List Frame) (a:Ann) (un:List (Nat × Nat)) (l:List COper) (nid:Nat) (d:Option Nat) (e:Env) (ds:List RW) (r:Option (AV × WHeap × Nat)):Option β :=
 ob r fun r=>DK C base fin k a un l nid ⟨setD e d r.1,r.2.1,r.2.2⟩ (ds++[(true,[],[])])
noncomputable def DPK (C:WProg) (base:Nat) (fin:Ex × WSt→Option β) (k:List Frame) (a:Ann) (un:List (Nat × Nat)) (l:List COper) (nid:Nat) (d:Option Nat) (e:Env) (h:WHeap) (n:Nat) (ds:List RW) (f:Nat) (args:List AV) (az:Option (List AV)):Option β :=
 ob az fun az=>DVK C base fin k a un l nid d e h n ds args (FnW C f az)
noncomputable def DBSK (C:WProg) (base:Nat) (fin:Ex × WSt→Option β) (k:List Frame) (a:Ann) (un:List (Nat × Nat)) (l:List COper) (nid:Nat) (d:Option Nat) (e:Env) (h:WHeap) (n:Nat) (ds:List RW) (args:List AV) (v:AV) (u:WUpd) (ok:Bool):Option β :=
 if ok=true then DK C base fin k a un l nid ⟨setD e d v,applyW h u,n⟩ (ds++[(false,args.flatMap (reachW h frzDepth),u.map (·.1))]) else none
noncomputable def DFSK (C:WProg) (base:Nat) (fin:Ex × WSt→Option β) (k:List Frame) (a:Ann) (un:List (Nat × Nat)) (l:List COper) (nid:Nat) (d:Option Nat) (e:Env) (h:WHeap) (n:Nat) (ds:List RW) (br:Bool) (args:List AV) (x:Option (AV × WUpd)):Option β :=
 ob x fun x=>if br=true then DBSK C base fin k a un l nid d e h n ds args x.1 x.2 (bareXW x) else DK C base fin k a un l nid ⟨setD e d x.1,applyW h (markFrozenW h (args.flatMap (reachW h frzDepth))++x.2),n⟩ (ds++[(false,args.flatMap (reachW h frzDepth),(markFrozenW h (args.flatMap (reachW h frzDepth))++x.2).map (·.1))])
noncomputable def DFPK (C:WProg) (base:Nat) (fin:Ex × WSt→Option β) (k:List Frame) (a:Ann) (un:List (Nat × Nat)) (l:List COper) (nid:Nat) (d:Option Nat) (e:Env) (h:WHeap) (n:Nat) (ds:List RW) (f:Nat) (args:List AV) (az:Option (List AV)):Option β :=
 ob az fun az=>DFSK C base fin k a un l nid d e h n ds (isBr f) args (freshCallW (RnW C) f az (nid - 1))
noncomputable def DIK (C:WProg) (base:Nat) (fin:Ex × WSt→Option β) (k:List Frame) (a:Ann) (un:List (Nat × Nat)) (l:List COper) (nid:Nat) (d:Option Nat) (e:Env) (h:WHeap) (n:Nat) (ds:List RW) (f:Nat) (args:List AV) (fr:Bool):Option β :=
 if fr=true then DFPK C base fin k a un l nid d e h n ds f args (mapO (frzW h frzDepth) args) else DWK C base fin k a un l nid d e ds (RnW C f args h n)
noncomputable def DFK (C:WProg) (base:Nat) (fin:Ex × WSt→Option β) (k:List Frame) (a:Ann) (un:List (Nat × Nat)) (l:List COper) (nid:Nat) (d:Option Nat) (e:Env) (h:WHeap) (n:Nat) (ds:List RW) (f:Nat) (args:List AV) (inl ptr:Bool):Option β :=
 if inl=true then DIK C base fin k a un l nid d e h n ds f args (isFr f) else if ptr=true then DWK C base fin k a un l nid d e ds (RnW C f args h n) else DPK C base fin k a un l nid d e h n ds f args (mapO (frzW h frzDepth) args)
noncomputable def DQK (C:WProg) (base:Nat) (fin:Ex × WSt→Option β) (k:List Frame) (a:Ann) (un:List (Nat × Nat)) (l:List COper) (nid:Nat) (d:Option Nat) (e:Env) (h:WHeap) (n:Nat) (ds:List RW) (args:List AV) (g:AV):Option β :=
 match g with
 | .fn f caps=>DFK C base fin k a un l nid d e h n ds f (args++caps) (C.inl f) (!C.pp f&&hasPtrL (args++caps))
 | _=>none
def pureFin (res:List CRes) (r:Ex × WSt):Option AV:=ob (fnEndW res r) fun r=>frzW r.2.1 frzDepth r.1
end
section
variable {β:Type} {C:WProg} {base:Nat} {fin:Ex × WSt→Option β} {k:List Frame}
theorem ob_assoc {α γ δ:Type} (x:Option α) (f:α→Option γ) (g:γ→Option δ):ob (ob x f) g=ob x fun a=>ob (f a) g:=by cases x <;> rfl
theorem ob_om {α γ δ:Type} (x:Option α) (f:α→γ) (g:γ→Option δ):ob (om x f) g=ob x fun a=>g (f a):=by cases x <;> rfl
theorem ck_seq (a b:WCode) (s:WSt):CK C base fin k (.seq a b) s=CK C base fin (.sq b::k) a s:=by
 unfold CK;rw [cw_seq];simp only [RK,ob_assoc]
theorem ck_skip (s:WSt):CK C base fin k .skip s=NK C base fin k .norm s:=by unfold CK NK;rw [cw_skip];rfl
theorem ck_exit (i:Nat) (s:WSt):CK C base fin k (.exit i) s=NK C base fin k (.exit i) s:=by unfold CK NK;rw [cw_exit];rfl
theorem ck_ret (s:WSt):CK C base fin k .ret s=NK C base fin k .ret s:=by unfold CK NK;rw [cw_ret];rfl
theorem ck_cond (c:Opd) (a b:WCode) (s:WSt):CK C base fin k (.cond c a b) s=condK C base fin k a b s (c.ev s.env):=by
 unfold CK condK;rw [cw_cond];unfold evCondW
 cases c.ev s.env <;> try rfl
 rename_i t;cases t <;> rfl
theorem ck_block (id:Nat) (b:WCode) (a:Ann) (s:WSt):CK C base fin k (.block id b a) s=CK C base fin (.bk id a::k) b s:=by
 unfold CK;rw [cw_block];simp only [RK,ob_assoc]
theorem ck_lp {L:WCode} {a:Ann} {b:WCode} {s:WSt} (hL:L=.loop a b):CK C base fin k L s=LK C base fin (.sq L::k) b (canon base a s):=by
 subst hL;unfold CK LK CK;rw [cw_loop];simp only [RK,ob_assoc]
theorem ck_unf {c c':WCode} {s:WSt} (hc:c=c'):CK C base fin k c s=CK C base fin k c' s:=by rw [hc]
theorem ck_ops (l:List COper) (a:Ann) (s:WSt):CK C base fin k (.ops l a) s=OK C base fin k a l s:=by
 unfold CK OK AK NK;rw [cw_ops];simp only [ob_assoc,ob_om]
theorem ck_draw (l:List COper) (un:List (Nat × Nat)) (a:Ann) (e:Env) (h:WHeap) (n:Nat):CK C base fin k (.draw l un a) ⟨e,h,n⟩=DK C base fin k a un l n ⟨e,h,n+l.length⟩ []:=by
 unfold CK DK EK AK NK;rw [cw_draw];simp only [ob_assoc]
 have:∀ r:WSt × List WDid,(ob (drawEndW base un a r) fun r=>ob (RK C base k r) fin)=(if (un.all (apartR ([]++r.2.map rwOf)))=true then ob (canonF base a r.1) fun s=>ob (RK C base k (.norm,s)) fin else none):=by
  rintro ⟨s,ds⟩
  have e1:un.all (apartW ds)=un.all (apartR ([]++ds.map rwOf)):=by
   congr 1
   funext p
   simp only [apartW,apartR,List.nil_append,List.getElem?_map]
   cases ds[p.1]? <;> cases ds[p.2]? <;> rfl
  simp only [drawEndW,e1]
  split
  · simp only [ob_om]
  · rfl
 simp only [this]
theorem nk_nil (ex:Ex) (s:WSt):NK C base fin [] ex s=fin (ex,s):=rfl
theorem nk_sq (b:WCode) (s:WSt):NK C base fin (.sq b::k) .norm s=CK C base fin k b s:=by unfold NK CK;simp only [RK,evSeqW,ob_assoc]
theorem nk_sq_exit (b:WCode) (i:Nat) (s:WSt):NK C base fin (.sq b::k) (.exit i) s=NK C base fin k (.exit i) s:=by unfold NK;simp only [RK,evSeqW,ob]
theorem nk_sq_ret (b:WCode) (s:WSt):NK C base fin (.sq b::k) .ret s=NK C base fin k .ret s:=by unfold NK;simp only [RK,evSeqW,ob]
theorem nk_lp_exit (a:Ann) (b:WCode) (i:Nat) (s:WSt):NK C base fin (.lp a b::k) (.exit i) s=NK C base fin k (.exit i) s:=by unfold NK;simp only [RK,evSeqW,ob]
theorem nk_lp_ret (a:Ann) (b:WCode) (s:WSt):NK C base fin (.lp a b::k) .ret s=NK C base fin k .ret s:=by unfold NK;simp only [RK,evSeqW,ob]
theorem nk_bk (id:Nat) (a:Ann) (s:WSt):NK C base fin (.bk id a::k) .norm s=AK C base fin k (canon base a s):=by unfold NK AK NK;simp only [RK,evBlockW,ob_assoc,ob_om]
theorem nk_bk_exit (id:Nat) (a:Ann) (i:Nat) (s:WSt):NK C base fin (.bk id a::k) (.exit i) s=if i=id then AK C base fin k (canon base a s) else NK C base fin k (.exit i) s:=by
 unfold NK AK NK;simp only [RK,evBlockW]
 split
 · simp only [ob_assoc,ob_om]
 · rfl
theorem nk_bk_ret (id:Nat) (a:Ann) (s:WSt):NK C base fin (.bk id a::k) .ret s=NK C base fin k .ret s:=by unfold NK;simp only [RK,evBlockW,ob]
theorem ak_some (s:WSt):AK C base fin k (some s)=NK C base fin k .norm s:=rfl
theorem lk_some (b:WCode) (s:WSt):LK C base fin k b (some s)=CK C base fin k b s:=rfl
theorem condK_true (a b:WCode) (s:WSt):condK C base fin k a b s (.bool true)=CK C base fin k a s:=rfl
theorem condK_false (a b:WCode) (s:WSt):condK C base fin k a b s (.bool false)=CK C base fin k b s:=rfl
theorem condK_bool (a b:WCode) (s:WSt) (t:Bool):condK C base fin k a b s (.bool t)=if t=true then CK C base fin k a s else CK C base fin k b s:=rfl
variable {a:Ann} {l:List COper} {d:Option Nat} {e:Env} {h:WHeap} {n:Nat}
theorem ok_nil (s:WSt):OK C base fin k a [] s=AK C base fin k (canonF base a s):=rfl
theorem ok_step {op:COp} (hc:callOf e op=some none):OK C base fin k a (⟨d,none,op⟩::l) ⟨e,h,n⟩=SK C base fin k a l d e h (n+1) (stepW op e h n):=by
 unfold OK SK OK
 simp only [evOpsW,evOpW,wants,evActW,hc]
 cases stepW op e h n <;> rfl
theorem sk_some (v:AV) (u:WUpd):SK C base fin k a l d e h n (some (v,u))=OK C base fin k a l ⟨setD e d v,applyW h u,n⟩:=rfl
theorem setE_same:∀ {e:Env} {g:Nat} {v:AV},get e g=some v→setE e g v=e:=by
 intro e
 induction e with
 | nil=>intro g v h;rfl
 | cons x e ih =>
  intro g v hg
  obtain ⟨j,u⟩:=x
  simp only [Pav.get] at hg
  simp only [setE]
  split at hg
  · rename_i hj;cases hg;rw [if_pos hj]
  · rename_i hj;rw [if_neg hj,ih hg]
theorem gk_bool {op:COp} {g:Nat} {w b:Bool}:GK C base fin k a l d op g w e h n (some (.bool b))=if b=w then OK C base fin k a (⟨d,none,op⟩::l) ⟨setE e g (.bool w),h,n⟩ else OK C base fin k a l ⟨setD (setE e g (.bool (!w))) d (.tup []),h,n+1⟩:=rfl
theorem gk_true_true {op:COp} {g:Nat}:GK C base fin k a l d op g true e h n (some (.bool true))=OK C base fin k a (⟨d,none,op⟩::l) ⟨setE e g (.bool true),h,n⟩:=rfl
theorem gk_false_false {op:COp} {g:Nat}:GK C base fin k a l d op g false e h n (some (.bool false))=OK C base fin k a (⟨d,none,op⟩::l) ⟨setE e g (.bool false),h,n⟩:=rfl
theorem gk_true_false {op:COp} {g:Nat}:GK C base fin k a l d op g true e h n (some (.bool false))=OK C base fin k a l ⟨setD (setE e g (.bool false)) d (.tup []),h,n+1⟩:=rfl
theorem gk_false_true {op:COp} {g:Nat}:GK C base fin k a l d op g false e h n (some (.bool true))=OK C base fin k a l ⟨setD (setE e g (.bool true)) d (.tup []),h,n+1⟩:=rfl
theorem gk_tup {op:COp} {g:Nat} {w:Bool}:GK C base fin k a l d op g w e h n (some (.tup []))=OK C base fin k a l ⟨setD e d (.tup []),h,n+1⟩:=rfl
theorem ok_guard {op:COp} {g:Nat} {w:Bool}:OK C base fin k a (⟨d,some (g,w),op⟩::l) ⟨e,h,n⟩=GK C base fin k a l d op g w e h n (get e g):=by
 unfold OK GK
 simp only [evOpsW,evOpW,wants]
 cases hg:get e g with
 | none=>rfl
 | some v =>
  cases v with
  | bool b =>
   simp only
   by_cases hw:b=w
   · subst hw
     rw [setE_same hg,if_pos rfl]
     simp only [OK,evOpsW,evOpW,wants,beq_self_eq_true]
   · have e1:(b == w)=false:=by simpa using hw
     have e2:(!w)=b:=by cases b <;> cases w <;> simp_all
     rw [if_neg hw,e2,setE_same hg]
     simp only [e1,ob,OK]
  | tup vs =>
   cases vs with
   | nil=>rfl
   | cons _ _=>rfl
  | _=>rfl
theorem vk_some {args:List AV} (v:AV):VK C base fin k a l d e h n args (some v)=OK C base fin k a l ⟨setD e d v,applyW h (marksW h args v),n⟩:=rfl
theorem wk_some (r:AV × WHeap × Nat):WK C base fin k a l d e (some r)=OK C base fin k a l ⟨setD e d r.1,r.2.1,r.2.2⟩:=rfl
theorem pk_some {f:Nat} {args:List AV} (az:List AV):PK C base fin k a l d e h n f args (some az)=VK C base fin k a l d e h n args (FnW C f az):=rfl
theorem fk_pure {f:Nat} {args:List AV}:FK C base fin k a l d e h n f args false false=PK C base fin k a l d e h n f args (mapO (frzW h frzDepth) args):=rfl
theorem fk_inl {f:Nat} {args:List AV} {p:Bool}:FK C base fin k a l d e h n f args true p=IK C base fin k a l d e h n f args (isFr f):=rfl
theorem ik_false {f:Nat} {args:List AV}:IK C base fin k a l d e h n f args false=WK C base fin k a l d e (RnW C f args h n):=rfl
theorem ik_true {f:Nat} {args:List AV}:IK C base fin k a l d e h n f args true=FPK C base fin k a l d e h n f args (mapO (frzW h frzDepth) args):=rfl
theorem fpk_some {f:Nat} {args:List AV} (az:List AV):FPK C base fin k a l d e h (n+1) f args (some az)=FSK C base fin k a l d e h (n+1) (isBr f) args (freshCallW (RnW C) f az n):=rfl
theorem bsk_true (v:AV) (u:WUpd):BSK C base fin k a l d e h n v u true=OK C base fin k a l ⟨setD e d v,applyW h u,n⟩:=rfl
theorem fsk_bare {args:List AV} (v:AV) (u:WUpd):FSK C base fin k a l d e h n true args (some (v,u))=BSK C base fin k a l d e h n v u (bareXW (v,u)):=rfl
theorem fsk_some {args:List AV} (v:AV) (u:WUpd):FSK C base fin k a l d e h n false args (some (v,u))=OK C base fin k a l ⟨setD e d v,applyW h (markFrozenW h (args.flatMap (reachW h frzDepth))++u),n⟩:=rfl
theorem fk_ptr {f:Nat} {args:List AV}:FK C base fin k a l d e h n f args false true=WK C base fin k a l d e (RnW C f args h n):=rfl
theorem qk_fn {f:Nat} {args caps:List AV}:QK C base fin k a l d e h n args (.fn f caps)=FK C base fin k a l d e h n f (args++caps) (C.inl f) (!C.pp f&&hasPtrL (args++caps)):=rfl
theorem fk_eq {f:Nat} {args:List AV}:(ob (om (evCallW C (RnW C) f args h (n - 1) n) (doneCallW h n args)) fun r=>OK C base fin k a l ⟨setD e d r.v,r.h,r.n⟩)=FK C base fin k a l d e h n f args (C.inl f) (!C.pp f&&hasPtrL args):=by
 unfold FK evCallW IK FPK FSK WK PK VK FnW
 split
 · split
   · cases mapO (frzW h frzDepth) args with
     | none=>rfl
     | some az =>
      simp only [ob]
      cases freshCallW (RnW C) f az (n - 1) with
      | none=>rfl
      | some x =>
       simp only [ob]
       unfold freshEndW freshUW BSK
       cases isBr f
       · rfl
       · cases bareXW x <;> rfl
   · cases RnW C f args h n <;> rfl
 · split
   · cases RnW C f args h n <;> rfl
   · cases mapO (frzW h frzDepth) args with
     | none=>rfl
     | some az =>
      simp only [ob]
      cases pureCallW (RnW C) f az <;> rfl
theorem ok_call {f:Nat} {xs:List Opd}:OK C base fin k a (⟨d,none,.call f xs⟩::l) ⟨e,h,n⟩=FK C base fin k a l d e h (n+1) f (xs.map fun x=>x.ev e) (C.inl f) (!C.pp f&&hasPtrL (xs.map fun x=>x.ev e)):=by
 rw [← fk_eq]
 unfold OK
 simp only [evOpsW,evOpW,wants,evActW,callOf,ob_assoc,Nat.add_sub_cancel]
theorem ok_callv {g:Opd} {xs:List Opd}:OK C base fin k a (⟨d,none,.callv g xs⟩::l) ⟨e,h,n⟩=QK C base fin k a l d e h (n+1) (xs.map fun x=>x.ev e) (g.ev e):=by
 unfold QK
 cases hg:g.ev e with
 | fn f caps =>
  simp only
  rw [← fk_eq]
  unfold OK
  simp only [evOpsW,evOpW,wants,evActW,callOf,hg,ob_assoc,Nat.add_sub_cancel]
 | _ =>
  unfold OK
  simp only [evOpsW,evOpW,wants,evActW,callOf,hg]
  rfl
variable {un:List (Nat × Nat)} {nid:Nat} {ds:List RW}
theorem evDrawW_acc {r:WRun}:∀ (l:List COper) (nid:Nat) (s:WSt) (ds:List WDid),evDrawW C r l nid s ds=om (evDrawW C r l nid s []) fun x=>(x.1,ds++x.2):=by
 intro l
 induction l with
 | nil=>intro nid s ds;simp [evDrawW,om]
 | cons o l ih =>
  intro nid s ds
  simp only [evDrawW]
  cases evOpW C r o nid s.env s.heap s.next with
  | none=>rfl
  | some d =>
   simp only [ob]
   rw [ih,ih _ _ ([]++[d])]
   cases evDrawW C r l (nid+1) _ [] <;> simp [om]
theorem dk_nil (s:WSt):DK C base fin k a un [] nid s ds=EK C base fin k a s (un.all (apartR ds)):=by
 unfold DK;simp only [evDrawW,ob,List.map_nil,List.append_nil]
theorem ek_true (s:WSt):EK C base fin k a s true=AK C base fin k (canonF base a s):=rfl
theorem dk_cons {o:COper} {s:WSt}:DK C base fin k a un (o::l) nid s ds=ob (evOpW C (RnW C) o nid s.env s.heap s.next) fun x=>DK C base fin k a un l (nid+1) ⟨setD s.env o.dst x.v,x.h,x.n⟩ (ds++[rwOf x]):=by
 unfold DK
 simp only [evDrawW,ob_assoc]
 congr 1
 funext x
 rw [evDrawW_acc]
 simp only [ob_om,List.nil_append,List.map_append,List.map_cons,List.map_nil,List.append_assoc]
theorem dk_step {op:COp} (hc:callOf e op=some none):DK C base fin k a un (⟨d,none,op⟩::l) nid ⟨e,h,n⟩ ds=DSK C base fin k a un l (nid+1) d e h n ds (readsOf e op) (stepW op e h nid):=by
 rw [dk_cons]
 unfold DSK
 simp only [evOpW,wants,evActW,hc,ob_om]
 rfl
theorem dsk_some {rd:List Nat} (v:AV) (u:WUpd):DSK C base fin k a un l nid d e h n ds rd (some (v,u))=DK C base fin k a un l nid ⟨setD e d v,applyW h u,n⟩ (ds++[(false,rd,u.map (·.1))]):=rfl
theorem dgk_bool {op:COp} {g:Nat} {w b:Bool}:DGK C base fin k a un l nid d op g w e h n ds (some (.bool b))=if b=w then DK C base fin k a un (⟨d,none,op⟩::l) nid ⟨setE e g (.bool w),h,n⟩ ds else DK C base fin k a un l (nid+1) ⟨setD (setE e g (.bool (!w))) d (.tup []),h,n⟩ (ds++[(false,[],[])]):=rfl
theorem dgk_true_true {op:COp} {g:Nat}:DGK C base fin k a un l nid d op g true e h n ds (some (.bool true))=DK C base fin k a un (⟨d,none,op⟩::l) nid ⟨setE e g (.bool true),h,n⟩ ds:=rfl
theorem dgk_false_false {op:COp} {g:Nat}:DGK C base fin k a un l nid d op g false e h n ds (some (.bool false))=DK C base fin k a un (⟨d,none,op⟩::l) nid ⟨setE e g (.bool false),h,n⟩ ds:=rfl
theorem dgk_true_false {op:COp} {g:Nat}:DGK C base fin k a un l nid d op g true e h n ds (some (.bool false))=DK C base fin k a un l (nid+1) ⟨setD (setE e g (.bool false)) d (.tup []),h,n⟩ (ds++[(false,[],[])]):=rfl
theorem dgk_false_true {op:COp} {g:Nat}:DGK C base fin k a un l nid d op g false e h n ds (some (.bool true))=DK C base fin k a un l (nid+1) ⟨setD (setE e g (.bool true)) d (.tup []),h,n⟩ (ds++[(false,[],[])]):=rfl
theorem dgk_tup {op:COp} {g:Nat} {w:Bool}:DGK C base fin k a un l nid d op g w e h n ds (some (.tup []))=DK C base fin k a un l (nid+1) ⟨setD e d (.tup []),h,n⟩ (ds++[(false,[],[])]):=rfl
theorem dk_guard {op:COp} {g:Nat} {w:Bool}:DK C base fin k a un (⟨d,some (g,w),op⟩::l) nid ⟨e,h,n⟩ ds=DGK C base fin k a un l nid d op g w e h n ds (get e g):=by
 unfold DGK
 cases hg:get e g with
 | none=>rw [dk_cons];simp only [evOpW,wants,hg];rfl
 | some v =>
  cases v with
  | bool b =>
   simp only
   by_cases hw:b=w
   · subst hw
     rw [setE_same hg,if_pos rfl,dk_cons,dk_cons]
     simp only [evOpW,wants,hg,beq_self_eq_true]
   · have e1:(b == w)=false:=by simpa using hw
     have e2:(!w)=b:=by cases b <;> cases w <;> simp_all
     rw [if_neg hw,e2,setE_same hg,dk_cons]
     simp only [evOpW,wants,hg,e1,ob,rwOf]
  | tup vs =>
   cases vs with
   | nil=>rw [dk_cons];simp only [evOpW,wants,hg];rfl
   | cons _ _=>rw [dk_cons];simp only [evOpW,wants,hg];rfl
  | _=>rw [dk_cons];simp only [evOpW,wants,hg];rfl
theorem dvk_some {args:List AV} (v:AV):DVK C base fin k a un l nid d e h n ds args (some v)=DK C base fin k a un l nid ⟨setD e d v,applyW h (marksW h args v),n⟩ (ds++[(false,args.flatMap (reachW h frzDepth),(marksW h args v).map (·.1))]):=rfl
theorem dwk_some (r:AV × WHeap × Nat):DWK C base fin k a un l nid d e ds (some r)=DK C base fin k a un l nid ⟨setD e d r.1,r.2.1,r.2.2⟩ (ds++[(true,[],[])]):=rfl
theorem dpk_some {f:Nat} {args:List AV} (az:List AV):DPK C base fin k a un l nid d e h n ds f args (some az)=DVK C base fin k a un l nid d e h n ds args (FnW C f az):=rfl
theorem dfk_pure {f:Nat} {args:List AV}:DFK C base fin k a un l nid d e h n ds f args false false=DPK C base fin k a un l nid d e h n ds f args (mapO (frzW h frzDepth) args):=rfl
theorem dfk_inl {f:Nat} {args:List AV} {p:Bool}:DFK C base fin k a un l nid d e h n ds f args true p=DIK C base fin k a un l nid d e h n ds f args (isFr f):=rfl
theorem dik_false {f:Nat} {args:List AV}:DIK C base fin k a un l nid d e h n ds f args false=DWK C base fin k a un l nid d e ds (RnW C f args h n):=rfl
theorem dik_true {f:Nat} {args:List AV}:DIK C base fin k a un l nid d e h n ds f args true=DFPK C base fin k a un l nid d e h n ds f args (mapO (frzW h frzDepth) args):=rfl
theorem dfpk_some {f:Nat} {args:List AV} (az:List AV):DFPK C base fin k a un l nid d e h n ds f args (some az)=DFSK C base fin k a un l nid d e h n ds (isBr f) args (freshCallW (RnW C) f az (nid - 1)):=rfl
theorem dbsk_true {args:List AV} (v:AV) (u:WUpd):DBSK C base fin k a un l nid d e h n ds args v u true=DK C base fin k a un l nid ⟨setD e d v,applyW h u,n⟩ (ds++[(false,args.flatMap (reachW h frzDepth),u.map (·.1))]):=rfl
theorem dfsk_bare {args:List AV} (v:AV) (u:WUpd):DFSK C base fin k a un l nid d e h n ds true args (some (v,u))=DBSK C base fin k a un l nid d e h n ds args v u (bareXW (v,u)):=rfl
theorem dfsk_some {args:List AV} (v:AV) (u:WUpd):DFSK C base fin k a un l nid d e h n ds false args (some (v,u))=DK C base fin k a un l nid ⟨setD e d v,applyW h (markFrozenW h (args.flatMap (reachW h frzDepth))++u),n⟩ (ds++[(false,args.flatMap (reachW h frzDepth),(markFrozenW h (args.flatMap (reachW h frzDepth))++u).map (·.1))]):=rfl
theorem dfk_ptr {f:Nat} {args:List AV}:DFK C base fin k a un l nid d e h n ds f args false true=DWK C base fin k a un l nid d e ds (RnW C f args h n):=rfl
theorem dqk_fn {f:Nat} {args caps:List AV}:DQK C base fin k a un l nid d e h n ds args (.fn f caps)=DFK C base fin k a un l nid d e h n ds f (args++caps) (C.inl f) (!C.pp f&&hasPtrL (args++caps)):=rfl
theorem dfk_eq {f:Nat} {args:List AV}:(ob (om (evCallW C (RnW C) f args h (nid - 1) n) (doneCallW h n args)) fun r=>DK C base fin k a un l nid ⟨setD e d r.v,r.h,r.n⟩ (ds++[rwOf r]))=DFK C base fin k a un l nid d e h n ds f args (C.inl f) (!C.pp f&&hasPtrL args):=by
 unfold DFK evCallW DIK DFPK DFSK DWK DPK DVK FnW
 split
 · split
   · cases mapO (frzW h frzDepth) args with
     | none=>rfl
     | some az =>
      simp only [ob]
      cases freshCallW (RnW C) f az (nid - 1) with
      | none=>rfl
      | some x =>
       simp only [ob]
       unfold freshEndW freshUW DBSK
       cases isBr f
       · rfl
       · cases bareXW x <;> rfl
   · cases RnW C f args h n <;> rfl
 · split
   · cases RnW C f args h n <;> rfl
   · cases mapO (frzW h frzDepth) args with
     | none=>rfl
     | some az =>
      simp only [ob]
      cases pureCallW (RnW C) f az <;> rfl
theorem dk_call {f:Nat} {xs:List Opd}:DK C base fin k a un (⟨d,none,.call f xs⟩::l) nid ⟨e,h,n⟩ ds=DFK C base fin k a un l (nid+1) d e h n ds f (xs.map fun x=>x.ev e) (C.inl f) (!C.pp f&&hasPtrL (xs.map fun x=>x.ev e)):=by
 rw [← dfk_eq,dk_cons]
 simp only [evOpW,wants,evActW,callOf,Nat.add_sub_cancel]
theorem dk_callv {g:Opd} {xs:List Opd}:DK C base fin k a un (⟨d,none,.callv g xs⟩::l) nid ⟨e,h,n⟩ ds=DQK C base fin k a un l (nid+1) d e h n ds (xs.map fun x=>x.ev e) (g.ev e):=by
 unfold DQK
 rw [dk_cons]
 cases hg:g.ev e with
 | fn f caps =>
  simp only
  rw [← dfk_eq]
  simp only [evOpW,wants,evActW,callOf,hg,Nat.add_sub_cancel]
 | _ =>
  simp only [evOpW,wants,evActW,callOf,hg]
  rfl
theorem fnW_eq {f:Nat} {fn:WFn} (hf:C.fns.get f=some fn) {args:List AV} (hl:args.length=fn.np):FnW C f args=CK C 0 (pureFin fn.res) [] fn.body ⟨argW 0 args [],[],0⟩:=by
 unfold FnW pureCallW RnW runWithW CK pureFin
 rw [hf]
 simp only [ob,if_pos hl,RK]
 cases CdW C 0 fn.body ⟨argW 0 args [],[],0⟩ with
 | none=>rfl
 | some r=>rfl
theorem rnW_eq {f:Nat} {fn:WFn} (hf:C.fns.get f=some fn) {args:List AV} (hl:args.length=fn.np) (h:WHeap) (n:Nat):RnW C f args h n=CK C n (fnEndW fn.res) [] fn.body ⟨argW 0 args [],h,n⟩:=by
 unfold RnW runWithW CK
 rw [hf]
 simp only [ob,if_pos hl,RK]
end
end Go.Pw
end
section
set_option linter.unusedSimpArgs false
set_option linter.unusedVariables false
namespace Go.Pw
open Go Go.Pav
attribute [simp] ck_seq ck_skip ck_exit ck_ret ck_cond ck_block ck_ops ck_draw nk_nil nk_sq nk_sq_exit nk_sq_ret nk_lp_exit nk_lp_ret nk_bk nk_bk_exit nk_bk_ret ak_some lk_some
 ok_nil sk_some gk_tup ok_guard vk_some wk_some pk_some fk_pure fk_inl fk_ptr qk_fn ok_call ok_callv dk_nil ek_true dsk_some dgk_tup dk_guard dvk_some dwk_some dpk_some dfk_pure dfk_inl dfk_ptr dqk_fn dk_call dk_callv ik_false ik_true fpk_some fsk_some fsk_bare bsk_true dfsk_bare dbsk_true isBr bareXW bareOW bareV bareL dik_false dik_true dfpk_some dfsk_some isFr
attribute [simp high] condK_true condK_false gk_true_true gk_false_false gk_true_false gk_false_true dgk_true_true dgk_false_false dgk_true_false dgk_false_true
attribute [simp low] condK_bool gk_bool dgk_bool
section
variable {β:Type} {C:WProg} {base:Nat} {fin:Ex × WSt→Option β} {k:List Frame} {a:Ann} {l:List COper} {d:Option Nat} {e:Env} {h:WHeap} {n:Nat} {un:List (Nat × Nat)} {nid:Nat} {ds:List RW}
@[simp] theorem ok_mv {x:Opd}:OK C base fin k a (⟨d,none,.mv x⟩::l) ⟨e,h,n⟩=OK C base fin k a l ⟨setD e d (x.ev e),h,n+1⟩:=by rw [ok_step rfl];rfl
@[simp] theorem ok_pick {c x y:Opd}:OK C base fin k a (⟨d,none,.pick c x y⟩::l) ⟨e,h,n⟩=SK C base fin k a l d e h (n+1) (stepW (.pick c x y) e h n):=ok_step rfl
@[simp] theorem ok_alloc {z:List AV}:OK C base fin k a (⟨d,none,.alloc z⟩::l) ⟨e,h,n⟩=SK C base fin k a l d e h (n+1) (stepW (.alloc z) e h n):=ok_step rfl
@[simp] theorem ok_box {x:Opd}:OK C base fin k a (⟨d,none,.box x⟩::l) ⟨e,h,n⟩=SK C base fin k a l d e h (n+1) (stepW (.box x) e h n):=ok_step rfl
@[simp] theorem ok_build {z:List AV} {ps:List (Nat × Nat × Opd)}:OK C base fin k a (⟨d,none,.build z ps⟩::l) ⟨e,h,n⟩=SK C base fin k a l d e h (n+1) (stepW (.build z ps) e h n):=ok_step rfl
@[simp] theorem ok_buildS {z:List AV} {m:Nat} {ps:List (Nat × Opd)}:OK C base fin k a (⟨d,none,.buildS z m ps⟩::l) ⟨e,h,n⟩=SK C base fin k a l d e h (n+1) (stepW (.buildS z m ps) e h n):=ok_step rfl
@[simp] theorem ok_load {m:Nat} {ag:Bool} {x:Opd}:OK C base fin k a (⟨d,none,.load m ag x⟩::l) ⟨e,h,n⟩=SK C base fin k a l d e h (n+1) (stepW (.load m ag x) e h n):=ok_step rfl
@[simp] theorem ok_store {m:Nat} {x y:Opd}:OK C base fin k a (⟨d,none,.store m x y⟩::l) ⟨e,h,n⟩=SK C base fin k a l d e h (n+1) (stepW (.store m x y) e h n):=ok_step rfl
@[simp] theorem ok_nilchk {x:Opd}:OK C base fin k a (⟨d,none,.nilchk x⟩::l) ⟨e,h,n⟩=SK C base fin k a l d e h (n+1) (stepW (.nilchk x) e h n):=ok_step rfl
@[simp] theorem ok_bin {op:BinOp} {x y:Opd}:OK C base fin k a (⟨d,none,.bin op x y⟩::l) ⟨e,h,n⟩=SK C base fin k a l d e h (n+1) (stepW (.bin op x y) e h n):=ok_step rfl
@[simp] theorem ok_eqv {kd:Nat} {ks:List Nat} {ne:Bool} {x y:Opd}:OK C base fin k a (⟨d,none,.eqv kd ks ne x y⟩::l) ⟨e,h,n⟩=SK C base fin k a l d e h (n+1) (stepW (.eqv kd ks ne x y) e h n):=ok_step rfl
@[simp] theorem ok_un {op:UnOp} {x:Opd}:OK C base fin k a (⟨d,none,.un op x⟩::l) ⟨e,h,n⟩=SK C base fin k a l d e h (n+1) (stepW (.un op x) e h n):=ok_step rfl
@[simp] theorem ok_cvt {kk:IntKind} {x:Opd}:OK C base fin k a (⟨d,none,.cvt kk x⟩::l) ⟨e,h,n⟩=SK C base fin k a l d e h (n+1) (stepW (.cvt kk x) e h n):=ok_step rfl
@[simp] theorem ok_cvs {x:Opd}:OK C base fin k a (⟨d,none,.cvs x⟩::l) ⟨e,h,n⟩=SK C base fin k a l d e h (n+1) (stepW (.cvs x) e h n):=ok_step rfl
@[simp] theorem ok_cvb {x:Opd}:OK C base fin k a (⟨d,none,.cvb x⟩::l) ⟨e,h,n⟩=SK C base fin k a l d e h (n+1) (stepW (.cvb x) e h n):=ok_step rfl
@[simp] theorem ok_mkfn {f:Nat} {xs:List Opd}:OK C base fin k a (⟨d,none,.mkfn f xs⟩::l) ⟨e,h,n⟩=SK C base fin k a l d e h (n+1) (stepW (.mkfn f xs) e h n):=ok_step rfl
@[simp] theorem ok_mkmap:OK C base fin k a (⟨d,none,.mkmap⟩::l) ⟨e,h,n⟩=SK C base fin k a l d e h (n+1) (stepW .mkmap e h n):=ok_step rfl
@[simp] theorem ok_mksl {z:List AV} {b:Nat} {x y:Opd}:OK C base fin k a (⟨d,none,.mksl z b x y⟩::l) ⟨e,h,n⟩=SK C base fin k a l d e h (n+1) (stepW (.mksl z b x y) e h n):=ok_step rfl
@[simp] theorem ok_slice {z:Nat} {x:Opd} {lo hi mx:Option Opd}:OK C base fin k a (⟨d,none,.slice z x lo hi mx⟩::l) ⟨e,h,n⟩=SK C base fin k a l d e h (n+1) (stepW (.slice z x lo hi mx) e h n):=ok_step rfl
@[simp] theorem ok_sliceA {z:Nat} {x:Opd} {lo hi:Option Opd}:OK C base fin k a (⟨d,none,.sliceA z x lo hi⟩::l) ⟨e,h,n⟩=SK C base fin k a l d e h (n+1) (stepW (.sliceA z x lo hi) e h n):=ok_step rfl
@[simp] theorem ok_fld {o:Nat} {x:Opd}:OK C base fin k a (⟨d,none,.fld o x⟩::l) ⟨e,h,n⟩=SK C base fin k a l d e h (n+1) (stepW (.fld o x) e h n):=ok_step rfl
@[simp] theorem ok_fldv {o m:Nat} {ag:Bool} {x:Opd}:OK C base fin k a (⟨d,none,.fldv o m ag x⟩::l) ⟨e,h,n⟩=SK C base fin k a l d e h (n+1) (stepW (.fldv o m ag x) e h n):=ok_step rfl
@[simp] theorem ok_idxs {z:Nat} {x y:Opd}:OK C base fin k a (⟨d,none,.idxs z x y⟩::l) ⟨e,h,n⟩=SK C base fin k a l d e h (n+1) (stepW (.idxs z x y) e h n):=ok_step rfl
@[simp] theorem ok_idxa {m z:Nat} {x y:Opd}:OK C base fin k a (⟨d,none,.idxa m z x y⟩::l) ⟨e,h,n⟩=SK C base fin k a l d e h (n+1) (stepW (.idxa m z x y) e h n):=ok_step rfl
@[simp] theorem ok_idxstr {x y:Opd}:OK C base fin k a (⟨d,none,.idxstr x y⟩::l) ⟨e,h,n⟩=SK C base fin k a l d e h (n+1) (stepW (.idxstr x y) e h n):=ok_step rfl
@[simp] theorem ok_idxv {m z:Nat} {ag:Bool} {x y:Opd}:OK C base fin k a (⟨d,none,.idxv m z ag x y⟩::l) ⟨e,h,n⟩=SK C base fin k a l d e h (n+1) (stepW (.idxv m z ag x y) e h n):=ok_step rfl
@[simp] theorem ok_look {kd:Nat} {z:AV} {ok:Bool} {x y:Opd}:OK C base fin k a (⟨d,none,.look kd z ok x y⟩::l) ⟨e,h,n⟩=SK C base fin k a l d e h (n+1) (stepW (.look kd z ok x y) e h n):=ok_step rfl
@[simp] theorem ok_upd {kd:Nat} {x y z:Opd}:OK C base fin k a (⟨d,none,.upd kd x y z⟩::l) ⟨e,h,n⟩=SK C base fin k a l d e h (n+1) (stepW (.upd kd x y z) e h n):=ok_step rfl
@[simp] theorem ok_range {x:Opd}:OK C base fin k a (⟨d,none,.range x⟩::l) ⟨e,h,n⟩=SK C base fin k a l d e h (n+1) (stepW (.range x) e h n):=ok_step rfl
@[simp] theorem ok_next {x:Opd}:OK C base fin k a (⟨d,none,.next x⟩::l) ⟨e,h,n⟩=SK C base fin k a l d e h (n+1) (stepW (.next x) e h n):=ok_step rfl
@[simp] theorem ok_ext {i:Nat} {x:Opd}:OK C base fin k a (⟨d,none,.ext i x⟩::l) ⟨e,h,n⟩=SK C base fin k a l d e h (n+1) (stepW (.ext i x) e h n):=ok_step rfl
@[simp] theorem ok_len {kd:Nat} {x:Opd}:OK C base fin k a (⟨d,none,.len kd x⟩::l) ⟨e,h,n⟩=SK C base fin k a l d e h (n+1) (stepW (.len kd x) e h n):=ok_step rfl
@[simp] theorem ok_cap {x:Opd}:OK C base fin k a (⟨d,none,.cap x⟩::l) ⟨e,h,n⟩=SK C base fin k a l d e h (n+1) (stepW (.cap x) e h n):=ok_step rfl
@[simp] theorem ok_app {z:List AV} {b:Nat} {zs:Bool} {x y:Opd}:OK C base fin k a (⟨d,none,.app z b zs x y⟩::l) ⟨e,h,n⟩=SK C base fin k a l d e h (n+1) (stepW (.app z b zs x y) e h n):=ok_step rfl
@[simp] theorem ok_cpy {z:Nat} {x y:Opd}:OK C base fin k a (⟨d,none,.cpy z x y⟩::l) ⟨e,h,n⟩=SK C base fin k a l d e h (n+1) (stepW (.cpy z x y) e h n):=ok_step rfl
@[simp] theorem ok_clr {z:List AV} {x:Opd}:OK C base fin k a (⟨d,none,.clr z x⟩::l) ⟨e,h,n⟩=SK C base fin k a l d e h (n+1) (stepW (.clr z x) e h n):=ok_step rfl
@[simp] theorem ok_mx {x y:Opd}:OK C base fin k a (⟨d,none,.mx x y⟩::l) ⟨e,h,n⟩=SK C base fin k a l d e h (n+1) (stepW (.mx x y) e h n):=ok_step rfl
@[simp] theorem ok_mn {x y:Opd}:OK C base fin k a (⟨d,none,.mn x y⟩::l) ⟨e,h,n⟩=SK C base fin k a l d e h (n+1) (stepW (.mn x y) e h n):=ok_step rfl
@[simp] theorem dk_mv {x:Opd}:DK C base fin k a un (⟨d,none,.mv x⟩::l) nid ⟨e,h,n⟩ ds=DSK C base fin k a un l (nid+1) d e h n ds (readsOf e (.mv x)) (stepW (.mv x) e h nid):=dk_step rfl
@[simp] theorem dk_pick {c x y:Opd}:DK C base fin k a un (⟨d,none,.pick c x y⟩::l) nid ⟨e,h,n⟩ ds=DSK C base fin k a un l (nid+1) d e h n ds (readsOf e (.pick c x y)) (stepW (.pick c x y) e h nid):=dk_step rfl
@[simp] theorem dk_alloc {z:List AV}:DK C base fin k a un (⟨d,none,.alloc z⟩::l) nid ⟨e,h,n⟩ ds=DSK C base fin k a un l (nid+1) d e h n ds (readsOf e (.alloc z)) (stepW (.alloc z) e h nid):=dk_step rfl
@[simp] theorem dk_box {x:Opd}:DK C base fin k a un (⟨d,none,.box x⟩::l) nid ⟨e,h,n⟩ ds=DSK C base fin k a un l (nid+1) d e h n ds (readsOf e (.box x)) (stepW (.box x) e h nid):=dk_step rfl
@[simp] theorem dk_build {z:List AV} {ps:List (Nat × Nat × Opd)}:DK C base fin k a un (⟨d,none,.build z ps⟩::l) nid ⟨e,h,n⟩ ds=DSK C base fin k a un l (nid+1) d e h n ds (readsOf e (.build z ps)) (stepW (.build z ps) e h nid):=dk_step rfl
@[simp] theorem dk_buildS {z:List AV} {m:Nat} {ps:List (Nat × Opd)}:DK C base fin k a un (⟨d,none,.buildS z m ps⟩::l) nid ⟨e,h,n⟩ ds=DSK C base fin k a un l (nid+1) d e h n ds (readsOf e (.buildS z m ps)) (stepW (.buildS z m ps) e h nid):=dk_step rfl
@[simp] theorem dk_load {m:Nat} {ag:Bool} {x:Opd}:DK C base fin k a un (⟨d,none,.load m ag x⟩::l) nid ⟨e,h,n⟩ ds=DSK C base fin k a un l (nid+1) d e h n ds (readsOf e (.load m ag x)) (stepW (.load m ag x) e h nid):=dk_step rfl
@[simp] theorem dk_store {m:Nat} {x y:Opd}:DK C base fin k a un (⟨d,none,.store m x y⟩::l) nid ⟨e,h,n⟩ ds=DSK C base fin k a un l (nid+1) d e h n ds (readsOf e (.store m x y)) (stepW (.store m x y) e h nid):=dk_step rfl
@[simp] theorem dk_nilchk {x:Opd}:DK C base fin k a un (⟨d,none,.nilchk x⟩::l) nid ⟨e,h,n⟩ ds=DSK C base fin k a un l (nid+1) d e h n ds (readsOf e (.nilchk x)) (stepW (.nilchk x) e h nid):=dk_step rfl
@[simp] theorem dk_bin {op:BinOp} {x y:Opd}:DK C base fin k a un (⟨d,none,.bin op x y⟩::l) nid ⟨e,h,n⟩ ds=DSK C base fin k a un l (nid+1) d e h n ds (readsOf e (.bin op x y)) (stepW (.bin op x y) e h nid):=dk_step rfl
@[simp] theorem dk_eqv {kd:Nat} {ks:List Nat} {ne:Bool} {x y:Opd}:DK C base fin k a un (⟨d,none,.eqv kd ks ne x y⟩::l) nid ⟨e,h,n⟩ ds=DSK C base fin k a un l (nid+1) d e h n ds (readsOf e (.eqv kd ks ne x y)) (stepW (.eqv kd ks ne x y) e h nid):=dk_step rfl
@[simp] theorem dk_un {op:UnOp} {x:Opd}:DK C base fin k a un (⟨d,none,.un op x⟩::l) nid ⟨e,h,n⟩ ds=DSK C base fin k a un l (nid+1) d e h n ds (readsOf e (.un op x)) (stepW (.un op x) e h nid):=dk_step rfl
@[simp] theorem dk_cvt {kk:IntKind} {x:Opd}:DK C base fin k a un (⟨d,none,.cvt kk x⟩::l) nid ⟨e,h,n⟩ ds=DSK C base fin k a un l (nid+1) d e h n ds (readsOf e (.cvt kk x)) (stepW (.cvt kk x) e h nid):=dk_step rfl
@[simp] theorem dk_cvs {x:Opd}:DK C base fin k a un (⟨d,none,.cvs x⟩::l) nid ⟨e,h,n⟩ ds=DSK C base fin k a un l (nid+1) d e h n ds (readsOf e (.cvs x)) (stepW (.cvs x) e h nid):=dk_step rfl
@[simp] theorem dk_cvb {x:Opd}:DK C base fin k a un (⟨d,none,.cvb x⟩::l) nid ⟨e,h,n⟩ ds=DSK C base fin k a un l (nid+1) d e h n ds (readsOf e (.cvb x)) (stepW (.cvb x) e h nid):=dk_step rfl
@[simp] theorem dk_mkfn {f:Nat} {xs:List Opd}:DK C base fin k a un (⟨d,none,.mkfn f xs⟩::l) nid ⟨e,h,n⟩ ds=DSK C base fin k a un l (nid+1) d e h n ds (readsOf e (.mkfn f xs)) (stepW (.mkfn f xs) e h nid):=dk_step rfl
@[simp] theorem dk_mkmap:DK C base fin k a un (⟨d,none,.mkmap⟩::l) nid ⟨e,h,n⟩ ds=DSK C base fin k a un l (nid+1) d e h n ds (readsOf e (.mkmap)) (stepW (.mkmap) e h nid):=dk_step rfl
@[simp] theorem dk_mksl {z:List AV} {b:Nat} {x y:Opd}:DK C base fin k a un (⟨d,none,.mksl z b x y⟩::l) nid ⟨e,h,n⟩ ds=DSK C base fin k a un l (nid+1) d e h n ds (readsOf e (.mksl z b x y)) (stepW (.mksl z b x y) e h nid):=dk_step rfl
@[simp] theorem dk_slice {z:Nat} {x:Opd} {lo hi mx:Option Opd}:DK C base fin k a un (⟨d,none,.slice z x lo hi mx⟩::l) nid ⟨e,h,n⟩ ds=DSK C base fin k a un l (nid+1) d e h n ds (readsOf e (.slice z x lo hi mx)) (stepW (.slice z x lo hi mx) e h nid):=dk_step rfl
@[simp] theorem dk_sliceA {z:Nat} {x:Opd} {lo hi:Option Opd}:DK C base fin k a un (⟨d,none,.sliceA z x lo hi⟩::l) nid ⟨e,h,n⟩ ds=DSK C base fin k a un l (nid+1) d e h n ds (readsOf e (.sliceA z x lo hi)) (stepW (.sliceA z x lo hi) e h nid):=dk_step rfl
@[simp] theorem dk_fld {o:Nat} {x:Opd}:DK C base fin k a un (⟨d,none,.fld o x⟩::l) nid ⟨e,h,n⟩ ds=DSK C base fin k a un l (nid+1) d e h n ds (readsOf e (.fld o x)) (stepW (.fld o x) e h nid):=dk_step rfl
@[simp] theorem dk_fldv {o m:Nat} {ag:Bool} {x:Opd}:DK C base fin k a un (⟨d,none,.fldv o m ag x⟩::l) nid ⟨e,h,n⟩ ds=DSK C base fin k a un l (nid+1) d e h n ds (readsOf e (.fldv o m ag x)) (stepW (.fldv o m ag x) e h nid):=dk_step rfl
@[simp] theorem dk_idxs {z:Nat} {x y:Opd}:DK C base fin k a un (⟨d,none,.idxs z x y⟩::l) nid ⟨e,h,n⟩ ds=DSK C base fin k a un l (nid+1) d e h n ds (readsOf e (.idxs z x y)) (stepW (.idxs z x y) e h nid):=dk_step rfl
@[simp] theorem dk_idxa {m z:Nat} {x y:Opd}:DK C base fin k a un (⟨d,none,.idxa m z x y⟩::l) nid ⟨e,h,n⟩ ds=DSK C base fin k a un l (nid+1) d e h n ds (readsOf e (.idxa m z x y)) (stepW (.idxa m z x y) e h nid):=dk_step rfl
@[simp] theorem dk_idxstr {x y:Opd}:DK C base fin k a un (⟨d,none,.idxstr x y⟩::l) nid ⟨e,h,n⟩ ds=DSK C base fin k a un l (nid+1) d e h n ds (readsOf e (.idxstr x y)) (stepW (.idxstr x y) e h nid):=dk_step rfl
@[simp] theorem dk_idxv {m z:Nat} {ag:Bool} {x y:Opd}:DK C base fin k a un (⟨d,none,.idxv m z ag x y⟩::l) nid ⟨e,h,n⟩ ds=DSK C base fin k a un l (nid+1) d e h n ds (readsOf e (.idxv m z ag x y)) (stepW (.idxv m z ag x y) e h nid):=dk_step rfl
@[simp] theorem dk_look {kd:Nat} {z:AV} {ok:Bool} {x y:Opd}:DK C base fin k a un (⟨d,none,.look kd z ok x y⟩::l) nid ⟨e,h,n⟩ ds=DSK C base fin k a un l (nid+1) d e h n ds (readsOf e (.look kd z ok x y)) (stepW (.look kd z ok x y) e h nid):=dk_step rfl
@[simp] theorem dk_upd {kd:Nat} {x y z:Opd}:DK C base fin k a un (⟨d,none,.upd kd x y z⟩::l) nid ⟨e,h,n⟩ ds=DSK C base fin k a un l (nid+1) d e h n ds (readsOf e (.upd kd x y z)) (stepW (.upd kd x y z) e h nid):=dk_step rfl
@[simp] theorem dk_range {x:Opd}:DK C base fin k a un (⟨d,none,.range x⟩::l) nid ⟨e,h,n⟩ ds=DSK C base fin k a un l (nid+1) d e h n ds (readsOf e (.range x)) (stepW (.range x) e h nid):=dk_step rfl
@[simp] theorem dk_next {x:Opd}:DK C base fin k a un (⟨d,none,.next x⟩::l) nid ⟨e,h,n⟩ ds=DSK C base fin k a un l (nid+1) d e h n ds (readsOf e (.next x)) (stepW (.next x) e h nid):=dk_step rfl
@[simp] theorem dk_ext {i:Nat} {x:Opd}:DK C base fin k a un (⟨d,none,.ext i x⟩::l) nid ⟨e,h,n⟩ ds=DSK C base fin k a un l (nid+1) d e h n ds (readsOf e (.ext i x)) (stepW (.ext i x) e h nid):=dk_step rfl
@[simp] theorem dk_len {kd:Nat} {x:Opd}:DK C base fin k a un (⟨d,none,.len kd x⟩::l) nid ⟨e,h,n⟩ ds=DSK C base fin k a un l (nid+1) d e h n ds (readsOf e (.len kd x)) (stepW (.len kd x) e h nid):=dk_step rfl
@[simp] theorem dk_cap {x:Opd}:DK C base fin k a un (⟨d,none,.cap x⟩::l) nid ⟨e,h,n⟩ ds=DSK C base fin k a un l (nid+1) d e h n ds (readsOf e (.cap x)) (stepW (.cap x) e h nid):=dk_step rfl
@[simp] theorem dk_app {z:List AV} {b:Nat} {zs:Bool} {x y:Opd}:DK C base fin k a un (⟨d,none,.app z b zs x y⟩::l) nid ⟨e,h,n⟩ ds=DSK C base fin k a un l (nid+1) d e h n ds (readsOf e (.app z b zs x y)) (stepW (.app z b zs x y) e h nid):=dk_step rfl
@[simp] theorem dk_cpy {z:Nat} {x y:Opd}:DK C base fin k a un (⟨d,none,.cpy z x y⟩::l) nid ⟨e,h,n⟩ ds=DSK C base fin k a un l (nid+1) d e h n ds (readsOf e (.cpy z x y)) (stepW (.cpy z x y) e h nid):=dk_step rfl
@[simp] theorem dk_clr {z:List AV} {x:Opd}:DK C base fin k a un (⟨d,none,.clr z x⟩::l) nid ⟨e,h,n⟩ ds=DSK C base fin k a un l (nid+1) d e h n ds (readsOf e (.clr z x)) (stepW (.clr z x) e h nid):=dk_step rfl
@[simp] theorem dk_mx {x y:Opd}:DK C base fin k a un (⟨d,none,.mx x y⟩::l) nid ⟨e,h,n⟩ ds=DSK C base fin k a un l (nid+1) d e h n ds (readsOf e (.mx x y)) (stepW (.mx x y) e h nid):=dk_step rfl
@[simp] theorem dk_mn {x y:Opd}:DK C base fin k a un (⟨d,none,.mn x y⟩::l) nid ⟨e,h,n⟩ ds=DSK C base fin k a un l (nid+1) d e h n ds (readsOf e (.mn x y)) (stepW (.mn x y) e h nid):=dk_step rfl
end
theorem nat?_of {x:Int} (h:0≤x):nat? x=some x.toNat:=by
 cases x with
 | ofNat n=>rfl
 | negSucc n=>omega
@[simp] theorem nat?_cast (n:Nat):nat? (n:Int)=some n:=rfl
@[simp] theorem nat?_zero:nat? 0=some 0:=rfl
@[simp] theorem nat?_one:nat? 1=some 1:=rfl
@[simp] theorem nat?_lit (n:Nat):nat? (no_index (OfNat.ofNat n):Int)=some n:=rfl
@[simp] theorem nat?_add (n m:Nat):nat? ((n:Int)+(m:Int))=some (n+m):=rfl
@[simp] theorem nat?_add_lit (n m:Nat):nat? ((n:Int)+(no_index (OfNat.ofNat m):Int))=some (n+m):=rfl
theorem wI64 {x:Int} (h1:-9223372036854775808≤x) (h2:x < 9223372036854775808):IntKind.i64.wrap x=x:=by
 show (if (true&&decide (x % 18446744073709551616 ≥ 9223372036854775808))=true then x % 18446744073709551616 - 18446744073709551616 else x % 18446744073709551616)=x
 simp only [Bool.true_and,decide_eq_true_eq]
 split <;> omega
theorem fits {n c:Nat} (h:n * c≤35184372088832):(n * c≤35184372088832)=True:=eq_true h
@[simp ↓] theorem ob_s {α β:Type} (a:α) (f:α→Option β):ob (some a) f=f a:=rfl
@[simp] theorem resOf_tmp (e:Env) (h:WHeap) (t:Nat):resOfW e h (.tmp t)=Pav.get e t:=rfl
def cellOf (h:WHeap) (n:Nat) (ag:Bool):Option AV→Option AV
 | some (.ptr b i o)=>wLoadAt n ag o i (Pav.get h b)
 | _=>none
@[simp] theorem resOf_cell (e:Env) (h:WHeap) (t n:Nat) (ag:Bool):resOfW e h (.cell t n ag)=cellOf h n ag (Pav.get e t):=rfl
attribute [simp] cellOf
@[simp] theorem ev_t (s:Nat) (e:Env):(Opd.t s).ev e=(Pav.get e s).getD .undef:=rfl
@[simp] theorem ev_c (v:AV) (e:Env):(Opd.c v).ev e=v:=rfl
@[simp ↓] theorem ob_n {α β:Type} (f:α→Option β):ob none f=none:=rfl
@[simp ↓] theorem om_s {α β:Type} (a:α) (f:α→β):om (some a) f=some (f a):=rfl
@[simp ↓] theorem om_n {α β:Type} (f:α→β):om none f=none:=rfl
@[simp] theorem og_t {β:Type} (x:Option β):og true x=x:=rfl
@[simp] theorem og_f {β:Type} (x:Option β):og false x=none:=rfl
@[simp] theorem ov_s (v:AV):ov (some v)=some (v,[]):=rfl
@[simp] theorem ovW_s (v:AV):ovW (some v)=some (v,[]):=rfl
@[simp] theorem plainW_s (x:AV × Upd):plainW (some x)=some (x.1,[]):=rfl
def consO {α:Type}:Option α→Option (List α)→Option (List α)
 | some a,some l=>some (a::l)
 | _,_=>none
@[simp] theorem consO_s {α:Type} (a:α) (l:List α):consO (some a) (some l)=some (a::l):=rfl
@[simp] theorem mapO_nil {α β:Type} (f:α→Option β):mapO f []=some []:=rfl
@[simp] theorem mapO_cons {α β:Type} (f:α→Option β) (a:α) (r:List α):mapO f (a::r)=consO (f a) (mapO f r):=by
 simp only [mapO];cases f a <;> cases mapO f r <;> rfl
def consE (k:Nat):Option AV→Option Env→Option Env
 | some v,some r=>some ((k,v)::r)
 | _,_=>none
@[simp] theorem consE_s (k:Nat) (v:AV) (r:Env):consE k (some v) (some r)=some ((k,v)::r):=rfl
@[simp] theorem renEnv_nil (π:Nat→Option Nat):renEnv π []=some []:=rfl
@[simp] theorem renEnv_cons (π:Nat→Option Nat) (k:Nat) (v:AV) (r:Env):renEnv π ((k,v)::r)=consE k (ren π v) (renEnv π r):=by
 simp only [renEnv];cases ren π v <;> cases renEnv π r <;> rfl
def ptrO (i o:Nat):Option Nat→Option AV
 | some b=>some (.ptr b i o)
 | none=>none
def slO (z i l c:Nat) (ex:Bool):Option Nat→Option AV
 | some b=>some (.sl b z i l c ex)
 | none=>none
def mapV:Option Nat→Option AV
 | some b=>some (.map b)
 | none=>none
def fnO (f:Nat):Option (List AV)→Option AV
 | some cs=>some (.fn f cs)
 | none=>none
def aggO:Option (List AV)→Option AV
 | some cs=>some (.agg cs)
 | none=>none
def tupO:Option (List AV)→Option AV
 | some cs=>some (.tup cs)
 | none=>none
@[simp] theorem ptrO_s (i o b:Nat):ptrO i o (some b)=some (.ptr b i o):=rfl
@[simp] theorem slO_s (z i l c:Nat) (ex:Bool) (b:Nat):slO z i l c ex (some b)=some (.sl b z i l c ex):=rfl
@[simp] theorem mapV_s (b:Nat):mapV (some b)=some (.map b):=rfl
@[simp] theorem fnO_s (f:Nat) (cs:List AV):fnO f (some cs)=some (.fn f cs):=rfl
@[simp] theorem aggO_s (cs:List AV):aggO (some cs)=some (.agg cs):=rfl
@[simp] theorem tupO_s (cs:List AV):tupO (some cs)=some (.tup cs):=rfl
section
variable (π:Nat→Option Nat)
@[simp] theorem ren_ptr (b i o:Nat):ren π (.ptr b i o)=ptrO i o (π b):=by simp only [ren];cases π b <;> rfl
@[simp] theorem ren_sl (b z i l c:Nat) (ex:Bool):ren π (.sl b z i l c ex)=slO z i l c ex (π b):=by simp only [ren];cases π b <;> rfl
@[simp] theorem ren_map (b:Nat):ren π (.map b)=mapV (π b):=by simp only [ren];cases π b <;> rfl
@[simp] theorem ren_fn (f:Nat) (cs:List AV):ren π (.fn f cs)=fnO f (renL π cs):=by simp only [ren];cases renL π cs <;> rfl
@[simp] theorem ren_agg (cs:List AV):ren π (.agg cs)=aggO (renL π cs):=by simp only [ren];cases renL π cs <;> rfl
@[simp] theorem ren_tup (cs:List AV):ren π (.tup cs)=tupO (renL π cs):=by simp only [ren];cases renL π cs <;> rfl
@[simp] theorem ren_undef:ren π .undef=some .undef:=rfl
@[simp] theorem ren_bool (b:Bool):ren π (.bool b)=some (.bool b):=rfl
@[simp] theorem ren_int (k:IntKind) (n:Int):ren π (.int k n)=some (.int k n):=rfl
@[simp] theorem ren_str (s:List UInt8):ren π (.str s)=some (.str s):=rfl
@[simp] theorem ren_nilp:ren π .nilp=some .nilp:=rfl
@[simp] theorem ren_nils:ren π .nils=some .nils:=rfl
@[simp] theorem ren_nilm:ren π .nilm=some .nilm:=rfl
@[simp] theorem ren_nilf:ren π .nilf=some .nilf:=rfl
@[simp] theorem ren_ro (z:Nat) (es:List (List AV)) (ex:Bool):ren π (.ro z es ex)=some (.ro z es ex):=rfl
@[simp] theorem ren_rop (cs:List AV):ren π (.rop cs)=some (.rop cs):=rfl
@[simp] theorem renL_nil:renL π []=some []:=rfl
@[simp] theorem renL_cons (v:AV) (r:List AV):renL π (v::r)=consO (ren π v) (renL π r):=by simp only [renL];cases ren π v <;> cases renL π r <;> rfl
def cellsO (z:Nat) (mu dt:Bool):Option (List (List AV))→Option WObj
 | some es=>some (.cells z es mu dt)
 | none=>none
@[simp] theorem cellsO_s (z:Nat) (mu dt:Bool) (es:List (List AV)):cellsO z mu dt (some es)=some (.cells z es mu dt):=rfl
@[simp] theorem renObj_dt (z:Nat) (es:List (List AV)) (mu:Bool):renObj π (.cells z es mu true)=some (.cells z es mu true):=rfl
@[simp] theorem renObj_nd (z:Nat) (es:List (List AV)) (mu:Bool):renObj π (.cells z es mu false)=cellsO z mu false (mapO (renL π) es):=by simp only [renObj];cases mapO (renL π) es <;> rfl
@[simp] theorem renObj_map (es:List (AV × AV)):renObj π (.map es)=some (.map es):=rfl
@[simp] theorem renObj_iter (s:List UInt8) (p:Nat):renObj π (.iter s p)=some (.iter s p):=rfl
def consH (k:Nat):Option WObj→Option WHeap→Option WHeap
 | some v,some r=>some ((k,v)::r)
 | _,_=>none
@[simp] theorem consH_s (k:Nat) (v:WObj) (r:WHeap):consH k (some v) (some r)=some ((k,v)::r):=rfl
@[simp] theorem renOld_nil (base:Nat):renOld base π []=some []:=rfl
@[simp] theorem renOld_cons (base b:Nat) (o:WObj) (r:WHeap):renOld base π ((b,o)::r)=if b < base then consH b (renObj π o) (renOld base π r) else renOld base π r:=by
 simp only [renOld]
 split
 · cases renObj π o <;> cases renOld base π r <;> rfl
 · rfl
def newH (n:Nat) (π:Nat→Option Nat) (r:Option WHeap):Option WObj→Option WHeap
 | some o=>consH n (renObj π o) r
 | none=>r
@[simp] theorem newH_s (n:Nat) (r:Option WHeap) (o:WObj):newH n π r (some o)=consH n (renObj π o) r:=rfl
@[simp] theorem newH_n (n:Nat) (r:Option WHeap):newH n π r none=r:=rfl
@[simp] theorem renNew_nil (h:WHeap) (n:Nat):renNew π h n []=some []:=rfl
@[simp] theorem renNew_cons (h:WHeap) (n b:Nat) (r:List Nat):renNew π h n (b::r)=newH n π (renNew π h (n+1) r) (Pav.get h b):=by
 simp only [renNew,newH]
 cases Pav.get h b with
 | none=>rfl
 | some o=>simp only;cases renObj π o <;> cases renNew π h (n+1) r <;> rfl
end
def num3 (n:Nat):Option Env→Option WHeap→Option WHeap→Option WSt
 | some e,some h1,some h2=>some ⟨e,h1++h2,n⟩
 | _,_,_=>none
@[simp] theorem num3_s (n:Nat) (e:Env) (h1 h2:WHeap):num3 n (some e) (some h1) (some h2)=some ⟨e,h1++h2,n⟩:=rfl
@[simp] theorem renumber_eq (base:Nat) (s:WSt) (L:List Nat):renumber base s L=num3 (base+L.length) (renEnv (newNum base L) s.env) (renOld base (newNum base L) s.heap) (renNew (newNum base L) s.heap base L):=by
 simp only [renumber]
 cases renEnv (newNum base L) s.env <;> cases renOld base (newNum base L) s.heap <;> cases renNew (newNum base L) s.heap base L <;> rfl
def appK (h:WHeap) (nid zl bytes:Nat) (s:AV):Option (List (List AV) × Bool)→Option (AV × WUpd)
 | some (xs,d)=>wEvApp h nid zl bytes s xs d
 | none=>none
@[simp] theorem appK_s (h:WHeap) (nid zl bytes:Nat) (s:AV) (xs:List (List AV)) (d:Bool):appK h nid zl bytes s (some (xs,d))=wEvApp h nid zl bytes s xs d:=rfl
@[simp] theorem wApp_f (z:List AV) (bytes:Nat) (s x:Opd) (e:Env) (h:WHeap) (n:Nat):wApp z bytes false s x e h n=appK h n z.length bytes (s.ev e) (wElems h z.length (x.ev e)):=by
 simp only [wApp,Bool.false_eq_true,if_false];cases wElems h z.length (x.ev e) <;> rfl
def zerosK (h:WHeap) (nid:Nat) (z:List AV) (bytes:Nat) (s:AV):AV→Option (AV × WUpd)
 | .int _ n=>ob (nat? n) fun n=>if n * (bytes+1)≤maxBytes then wEvApp h nid z.length bytes s (List.replicate n z) (z.all isC) else none
 | _=>none
@[simp] theorem wApp_t (z:List AV) (bytes:Nat) (s x:Opd) (e:Env) (h:WHeap) (n:Nat):wApp z bytes true s x e h n=zerosK h n z bytes (s.ev e) (x.ev e):=by
 simp only [wApp,if_true];cases x.ev e <;> rfl
def cpyK (h:WHeap) (z:Nat) (d:AV):Option (List (List AV) × Bool)→Option (AV × WUpd)
 | some (xs,b)=>wCopyIn h z xs b d
 | none=>none
@[simp] theorem cpyK_s (h:WHeap) (z:Nat) (d:AV) (xs:List (List AV)) (b:Bool):cpyK h z d (some (xs,b))=wCopyIn h z xs b d:=rfl
@[simp] theorem wCpy_eq (z:Nat) (d s:Opd) (e:Env) (h:WHeap) (n:Nat):wCpy z d s e h n=cpyK h z (d.ev e) (wElems h z (s.ev e)):=by
 simp only [wCpy];cases wElems h z (s.ev e) <;> rfl
attribute [simp] zerosK
@[simp] theorem ob_map {α β γ:Type} (x:Option α) (g:α→β) (f:β→Option γ):ob (Option.map g x) f=ob x fun a=>f (g a):=by cases x <;> rfl
section
variable (h:WHeap) (nid zl bytes:Nat) (xs:List (List AV)) (d:Bool)
@[simp] theorem wEvApp_nils:wEvApp h nid zl bytes .nils xs d=if xs.isEmpty=true then some (.nils,[]) else wNewRow nid zl xs.length bytes xs d:=by cases xs <;> rfl
@[simp] theorem wEvApp_ro (z:Nat) (es:List (List AV)) (ex:Bool):wEvApp h nid zl bytes (.ro z es ex) xs d =
 if z=zl then (if xs.isEmpty=true then some (.ro z es ex,[]) else if ex=true then wNewRow nid zl (es.length+xs.length) bytes (es++xs) d else none) else none:=by cases xs <;> rfl
@[simp] theorem wEvApp_sl (b z i len cap:Nat) (ex:Bool):wEvApp h nid zl bytes (.sl b z i len cap ex) xs d =
 if z=zl then (if xs.isEmpty=true then some (.sl b z i len cap ex,[]) else wAppSl (Pav.get h b) nid zl bytes b i len cap ex xs d (len+xs.length)) else none:=by cases xs <;> rfl
end
def frzS (h:WHeap) (n z i len cap:Nat) (ex:Bool):Option WObj→Option AV
 | some (.cells _ es _ true)=>og (decide (((es.drop i).take len).length=len)) (some (.ro z ((es.drop i).take len) (ex&&decide (cap=len))))
 | some (.cells _ es _ false)=>ob (mapO (mapO (frzW h n)) ((es.drop i).take len)) fun es'=>og (decide (es'.length=len)&&es'.all fun e=>e.all isC) (some (.ro z es' (ex&&decide (cap=len))))
 | _=>none
def frzP (h:WHeap) (n i o:Nat):Option WObj→Option AV
 | some (.cells _ es _ true)=>ob es[i]? fun cs=>some (.rop (cs.drop o))
 | some (.cells _ es _ false)=>ob es[i]? fun cs=>ob (mapO (frzW h n) (cs.drop o)) fun cs'=>some (.rop cs')
 | _=>none
def reachP (h:WHeap) (n i o:Nat):Option WObj→List Nat
 | some (.cells _ es _ false)=>((es[i]?.getD []).drop o).flatMap (reachW h n)
 | _=>[]
def reachS (h:WHeap) (n i len:Nat):Option WObj→List Nat
 | some (.cells _ es _ false)=>((es.drop i).take len).flatMap fun e=>e.flatMap (reachW h n)
 | _=>[]
section
variable (h:WHeap) (n:Nat)
@[simp] theorem frzW_bool (b:Bool):frzW h (n+1) (.bool b)=some (.bool b):=rfl
@[simp] theorem frzW_int (k:IntKind) (x:Int):frzW h (n+1) (.int k x)=some (.int k x):=rfl
@[simp] theorem frzW_str (s:List UInt8):frzW h (n+1) (.str s)=some (.str s):=rfl
@[simp] theorem frzW_nilp:frzW h (n+1) .nilp=some .nilp:=rfl
@[simp] theorem frzW_nils:frzW h (n+1) .nils=some .nils:=rfl
@[simp] theorem frzW_nilm:frzW h (n+1) .nilm=some .nilm:=rfl
@[simp] theorem frzW_nilf:frzW h (n+1) .nilf=some .nilf:=rfl
@[simp] theorem frzW_ro (z:Nat) (es:List (List AV)) (ex:Bool):frzW h (n+1) (.ro z es ex)=some (.ro z es ex):=rfl
@[simp] theorem frzW_rop (cs:List AV):frzW h (n+1) (.rop cs)=some (.rop cs):=rfl
@[simp] theorem frzW_fn (f:Nat) (cs:List AV):frzW h (n+1) (.fn f cs)=fnO f (mapO (frzW h n) cs):=by simp only [frzW];cases mapO (frzW h n) cs <;> rfl
@[simp] theorem frzW_agg (cs:List AV):frzW h (n+1) (.agg cs)=aggO (mapO (frzW h n) cs):=by simp only [frzW];cases mapO (frzW h n) cs <;> rfl
@[simp] theorem frzW_tup (cs:List AV):frzW h (n+1) (.tup cs)=tupO (mapO (frzW h n) cs):=by simp only [frzW];cases mapO (frzW h n) cs <;> rfl
@[simp] theorem frzW_sl (b z i len cap:Nat) (ex:Bool):frzW h (n+2) (.sl b z i len cap ex)=frzS h (n+1) z i len cap ex (Pav.get h b):=by
 simp only [frzW,frzS]
 split
 · rename_i hg
   rw [hg]
   rename_i dt
   cases dt <;> rfl
 · rename_i hg
   split
   · rename_i h1;exact absurd h1 (hg _ _ _ _)
   · rename_i h1;exact absurd h1 (hg _ _ _ _)
   · rfl
@[simp] theorem frzW_ptr (b i o:Nat):frzW h (n+2) (.ptr b i o)=frzP h (n+1) i o (Pav.get h b):=by
 simp only [frzW,frzP]
 split
 · rename_i hg
   rw [hg]
   rename_i es _ dt
   cases dt
   · simp only [Bool.false_eq_true,if_false]
     cases es[i]? with
     | none=>rfl
     | some cs=>simp only [ob];cases mapO (frzW h (n+1)) (cs.drop o) <;> rfl
   · rfl
 · rename_i hg
   split
   · rename_i h1;exact absurd h1 (hg _ _ _ _)
   · rename_i h1;exact absurd h1 (hg _ _ _ _)
   · rfl
@[simp] theorem reachW_ptr (b i o:Nat):reachW h (n+1) (.ptr b i o)=b::reachP h n i o (Pav.get h b):=by
 simp only [reachW,reachP]
 congr 1
 split
 · rename_i hg
   rw [hg]
   rename_i dt
   cases dt <;> rfl
 · rename_i hg
   split
   · rename_i h1;exact absurd h1 (hg _ _ _ _)
   · rfl
@[simp] theorem reachW_bool (b:Bool):reachW h (n+1) (.bool b)=[]:=rfl
@[simp] theorem reachW_int (k:IntKind) (x:Int):reachW h (n+1) (.int k x)=[]:=rfl
@[simp] theorem reachW_str (s:List UInt8):reachW h (n+1) (.str s)=[]:=rfl
@[simp] theorem reachW_nilp:reachW h (n+1) .nilp=[]:=rfl
@[simp] theorem reachW_nils:reachW h (n+1) .nils=[]:=rfl
@[simp] theorem reachW_nilm:reachW h (n+1) .nilm=[]:=rfl
@[simp] theorem reachW_nilf:reachW h (n+1) .nilf=[]:=rfl
@[simp] theorem reachW_ro (z:Nat) (es:List (List AV)) (ex:Bool):reachW h (n+1) (.ro z es ex)=[]:=rfl
@[simp] theorem reachW_rop (cs:List AV):reachW h (n+1) (.rop cs)=[]:=rfl
@[simp] theorem reachW_fn (f:Nat) (cs:List AV):reachW h (n+1) (.fn f cs)=cs.flatMap (reachW h n):=rfl
@[simp] theorem reachW_agg (cs:List AV):reachW h (n+1) (.agg cs)=cs.flatMap (reachW h n):=rfl
@[simp] theorem reachW_tup (cs:List AV):reachW h (n+1) (.tup cs)=cs.flatMap (reachW h n):=rfl
@[simp] theorem reachW_sl (b z i len cap:Nat) (ex:Bool):reachW h (n+1) (.sl b z i len cap ex)=b::reachS h n i len (Pav.get h b):=by
 simp only [reachW,reachS]
 congr 1
 split
 · rename_i hg
   rw [hg]
   rename_i dt
   cases dt <;> rfl
 · rename_i hg
   split
   · rename_i h1;exact absurd h1 (hg _ _ _ _)
   · rfl
@[simp] theorem hasRefW_bool (b:Bool):hasRefW (n+1) (.bool b)=false:=rfl
@[simp] theorem hasRefW_int (k:IntKind) (x:Int):hasRefW (n+1) (.int k x)=false:=rfl
@[simp] theorem hasRefW_str (s:List UInt8):hasRefW (n+1) (.str s)=false:=rfl
@[simp] theorem hasRefW_nilp:hasRefW (n+1) .nilp=false:=rfl
@[simp] theorem hasRefW_nils:hasRefW (n+1) .nils=false:=rfl
@[simp] theorem hasRefW_nilm:hasRefW (n+1) .nilm=false:=rfl
@[simp] theorem hasRefW_nilf:hasRefW (n+1) .nilf=false:=rfl
@[simp] theorem hasRefW_ro (z:Nat) (es:List (List AV)) (ex:Bool):hasRefW (n+1) (.ro z es ex)=true:=rfl
@[simp] theorem hasRefW_rop (cs:List AV):hasRefW (n+1) (.rop cs)=true:=rfl
@[simp] theorem hasRefW_fn (f:Nat) (cs:List AV):hasRefW (n+1) (.fn f cs)=cs.any (hasRefW n):=rfl
@[simp] theorem hasRefW_agg (cs:List AV):hasRefW (n+1) (.agg cs)=cs.any (hasRefW n):=rfl
@[simp] theorem hasRefW_tup (cs:List AV):hasRefW (n+1) (.tup cs)=cs.any (hasRefW n):=rfl
end
def imax (a b:Int):Int:=if b > a then b else a
def imin (a b:Int):Int:=if b < a then b else a
theorem imax_l {a b:Int} (h:b≤a):imax a b=a:=by unfold imax;rw [if_neg (by omega)]
theorem imax_r {a b:Int} (h:a≤b):imax a b=b:=by unfold imax;split <;> omega
def mxV:AV→AV→Option (AV × Upd)
 | .int k a,.int k' b=>if k=k' then some (.int k (imax a b),[]) else none
 | _,_=>none
def mnV:AV→AV→Option (AV × Upd)
 | .int k a,.int k' b=>if k=k' then some (.int k (imin a b),[]) else none
 | _,_=>none
@[simp] theorem sMx_eq (x y:Opd) (e:Env) (h:Heap) (n:Nat):sMx x y e h n=mxV (x.ev e) (y.ev e):=rfl
@[simp] theorem sMn_eq (x y:Opd) (e:Env) (h:Heap) (n:Nat):sMn x y e h n=mnV (x.ev e) (y.ev e):=rfl
attribute [simp] mxV mnV
@[simp] theorem canonF_nil (base:Nat) (cn:Bool) (lv:List Nat) (s:WSt):canonF base ⟨cn,lv,[]⟩ s=canon base ⟨cn,lv,[]⟩ s:=rfl
@[simp] theorem canonF_cons (base:Nat) (cn:Bool) (lv:List Nat) (p:Nat × Nat) (r:List (Nat × Nat)) (s:WSt):canonF base ⟨cn,lv,p::r⟩ s=ob (frzSlotsW (frzOf (p::r)) s) (canon base ⟨cn,lv,p::r⟩):=rfl
attribute [simp] frzOf frzSlotsW frzSlotW
attribute [simp] List.getElem?_cons_zero frzS reachS frzP reachP
attribute [simp] stepW wAlloc wBox boxedW wBuildS fillS wLoad wLoadOf wLoadAt loadC wStore wStoreOf wStoreAt splice wMkmap wMksl wLook wLookIn found wUpd wUpdIn wRange wNext wNextIter wLen wEvLen wLenMap wElems wNewRow wAppSl
 wCopyTo wCopyIn wClr wClrIn wClrTo sMv sPick sBuild fillC sNilchk sBin evBin binInt binStr isShift shiftInt sEqv eqVals eqFn eqPtr eqMap eqAgg eqCells eqBool wEqSl keyOk eqCell sUn evUn sCvt sCvs sCvb evCvb sMkfn sSlice evSlice wSliceA wSliceOf wSliceAt sliceArr sliceRo sliceSl sliceNil sliceStr bound oev
 sFld sFldv sIdxs idxsAt sIdxa idxaAt sIdxstr sIdxv sExt sCap evCap AV.cells AV.cell isC isD Pav.get Pav.put setD setE applyW updOneW del readsOf ptrId canon noRen canonG growAll growOne keepL_nil keepL_cons keepN dropLt newNum place close
 envRefs oldRefs refs refsL objRefs markFrozenW marksW hasPtr hasPtrL resultsW tupled fnEndW pureFin argW frzDepth putE maxBytes mapGet mapPut apartR clashR quietR meets
def rep {α:Type} (n:Nat) (a:α):List α:=List.replicate n a
section
variable {α β:Type} (n:Nat) (a:α)
@[simp] theorem rep_length:(rep n a).length=n:=List.length_replicate
@[simp] theorem rep_map (f:α→β):List.map f (rep n a)=rep n (f a):=List.map_replicate
@[simp] theorem rep_all (p:α→Bool):(rep (n+1) a).all p=p a:=by
 unfold rep;rw [List.all_replicate];simp
@[simp] theorem rep_getElem {i:Nat} (h:i < (rep n a).length):(rep n a)[i]=a:=by
 unfold rep;exact List.getElem_replicate _
@[simp] theorem rep_take_self:List.take n (rep n a)=rep n a:=List.take_of_length_le (by simp)
@[simp] theorem rep_cons (n:Nat):(rep (n+1) a).isEmpty=false:=rfl
end
end Go.Pw
end
section
set_option linter.unusedSimpArgs false
set_option linter.unusedVariables false
set_option maxRecDepth 100000
namespace P21
open Go Go.Pav Go.Pw
def w0:WFn:=⟨0,[],
 (.ops [
  ⟨(some 0),none,.fail⟩] ⟨false,[],[]⟩)⟩
def w1_c0:WCode:=(.seq (.ops [
 ⟨(some 180),none,(.call 18 [])⟩,
 ⟨(some 2),none,(.mv (.t 180))⟩] ⟨false,[],[]⟩)
 .ret)
def w1_B0:WCode:=(.seq (.seq (.ops [
 ⟨(some 40),none,(.mv (.t 6))⟩,
 ⟨(some 41),none,(.fld 1 (.t 1))⟩,
 ⟨(some 42),none,(.load 1 false (.t 41))⟩,
 ⟨(some 43),none,(.len 1 (.t 42))⟩,
 ⟨(some 44),none,(.bin .lss (.t 40) (.t 43))⟩,
 ⟨(some 45),none,(.mv (.t 44))⟩,
 ⟨(some 46),(some (45,true)),(.mv (.t 6))⟩,
 ⟨(some 47),(some (45,true)),(.bin .lss (.t 46) (.c (.int .i64 30)))⟩,
 ⟨(some 48),none,(.pick (.t 45) (.t 47) (.c (.bool false)))⟩] ⟨true,[48,6,5,3,1],[]⟩)
 (.cond (.t 48) .skip
  (.exit 0)))
 (.seq (.block 1 (.seq (.ops [
  ⟨(some 51),none,(.fld 1 (.t 1))⟩,
  ⟨(some 52),none,(.load 1 false (.t 51))⟩,
  ⟨(some 53),none,(.mv (.t 6))⟩,
  ⟨(some 54),none,(.idxs 3 (.t 52) (.t 53))⟩,
  ⟨(some 55),none,(.load 3 true (.t 54))⟩,
  ⟨(some 7),none,(.alloc [(.int .u8 0),(.int .u8 0),(.int .u8 0)])⟩,
  ⟨none,none,(.store 3 (.t 7) (.t 55))⟩] ⟨false,[],[]⟩)
  (.seq (.ops [
   ⟨(some 56),none,(.fld 1 (.t 7))⟩,
   ⟨(some 57),none,(.load 1 false (.t 56))⟩,
   ⟨(some 58),none,(.cvt .i64 (.t 57))⟩,
   ⟨(some 59),none,(.fld 0 (.t 5))⟩,
   ⟨(some 60),none,(.load 1 false (.t 59))⟩,
   ⟨(some 61),none,(.len 1 (.t 60))⟩,
   ⟨(some 62),none,(.bin .rem (.t 58) (.t 61))⟩,
   ⟨(some 8),none,(.mv (.t 62))⟩] ⟨false,[],[]⟩)
  (.seq (.draw [
   ⟨(some 63),none,(.load 2 true (.t 3))⟩,
   ⟨(some 64),none,(.load 2 true (.t 5))⟩,
   ⟨(some 9),none,(.alloc [(.ro 1 [] true),(.ro 1 [] true)])⟩,
   ⟨(some 10),none,(.alloc [(.ro 1 [] true),(.ro 1 [] true)])⟩,
   ⟨none,none,(.store 2 (.t 9) (.t 63))⟩,
   ⟨none,none,(.store 2 (.t 10) (.t 64))⟩] [(0,2),(1,2),(0,3),(1,3),(2,3),(1,4)] ⟨false,[],[]⟩)
  (.seq (.ops [
   ⟨(some 11),none,(.mv (.c (.int .i64 0)))⟩] ⟨false,[],[]⟩)
  (.seq (.ops [
   ⟨(some 12),none,(.mv (.c (.bool false)))⟩] ⟨false,[],[]⟩)
  (.seq (.ops [
   ⟨(some 66),none,(.load 2 true (.t 5))⟩,
   ⟨(some 67),none,(.load 3 true (.t 7))⟩,
   ⟨(some 68),none,(.call 9 [(.t 66),(.t 67)])⟩,
   ⟨(some 65),none,(.mv (.t 68))⟩,
   ⟨(some 69),none,(.ext 0 (.t 65))⟩,
   ⟨(some 70),none,(.ext 1 (.t 65))⟩,
   ⟨(some 71),none,(.ext 2 (.t 65))⟩,
   ⟨(some 13),none,(.alloc [(.ro 1 [] true),(.ro 1 [] true)])⟩,
   ⟨none,none,(.store 2 (.t 13) (.t 69))⟩,
   ⟨(some 14),none,(.mv (.t 70))⟩,
   ⟨(some 15),none,(.mv (.t 71))⟩] ⟨true,[15,14,13,12,11,10,9,8,7,6,5,3,1],[]⟩)
  (.seq (.ops [
   ⟨(some 72),none,(.load 2 true (.t 13))⟩,
   ⟨none,none,(.store 2 (.t 5) (.t 72))⟩] ⟨false,[],[]⟩)
  (.seq (.block 2 (.seq (.ops [
   ⟨(some 97),none,(.fld 0 (.t 7))⟩,
   ⟨(some 98),none,(.load 1 false (.t 97))⟩,
   ⟨(some 99),none,(.bin .rem (.t 98) (.c (.int .u8 8)))⟩,
   ⟨(some 100),none,(.bin .lss (.t 99) (.c (.int .u8 4)))⟩,
   ⟨(some 96),none,(.mv (.t 100))⟩] ⟨false,[],[]⟩)
   (.cond (.t 96) (.ops [
    ⟨(some 102),none,(.load 2 true (.t 3))⟩,
    ⟨(some 103),none,(.mv (.t 8))⟩,
    ⟨(some 104),none,(.fld 2 (.t 7))⟩,
    ⟨(some 105),none,(.load 1 false (.t 104))⟩,
    ⟨(some 106),none,(.cvt .i64 (.t 105))⟩,
    ⟨(some 107),none,(.call 10 [(.t 102),(.t 103),(.t 106)])⟩,
    ⟨(some 101),none,(.mv (.t 107))⟩,
    ⟨(some 108),none,(.ext 0 (.t 101))⟩,
    ⟨(some 109),none,(.ext 1 (.t 101))⟩,
    ⟨(some 110),none,(.ext 2 (.t 101))⟩,
    ⟨none,none,(.store 2 (.t 3) (.t 108))⟩,
    ⟨(some 12),none,(.mv (.t 109))⟩,
    ⟨(some 4),none,(.mv (.t 110))⟩] ⟨false,[],[]⟩)
    (.seq (.ops [
     ⟨(some 112),none,(.fld 0 (.t 7))⟩,
     ⟨(some 113),none,(.load 1 false (.t 112))⟩,
     ⟨(some 114),none,(.bin .rem (.t 113) (.c (.int .u8 8)))⟩,
     ⟨(some 115),none,(.bin .lss (.t 114) (.c (.int .u8 7)))⟩,
     ⟨(some 111),none,(.mv (.t 115))⟩] ⟨false,[],[]⟩)
     (.cond (.t 111) (.ops [
      ⟨(some 117),none,(.load 2 true (.t 3))⟩,
      ⟨(some 118),none,(.mv (.t 8))⟩,
      ⟨(some 119),none,(.call 11 [(.t 117),(.t 118)])⟩,
      ⟨(some 116),none,(.mv (.t 119))⟩,
      ⟨(some 120),none,(.ext 0 (.t 116))⟩,
      ⟨(some 121),none,(.ext 1 (.t 116))⟩,
      ⟨(some 122),none,(.ext 2 (.t 116))⟩,
      ⟨(some 123),none,(.ext 3 (.t 116))⟩,
      ⟨none,none,(.store 2 (.t 3) (.t 120))⟩,
      ⟨(some 11),none,(.mv (.t 121))⟩,
      ⟨(some 12),none,(.mv (.t 122))⟩,
      ⟨(some 4),none,(.mv (.t 123))⟩] ⟨true,[15,14,12,11,10,9,8,6,5,4,3,1],[]⟩)
      (.seq (.ops [
       ⟨(some 16),none,(.mv (.c (.ro 1 [] true)))⟩] ⟨false,[],[]⟩)
       (.seq (.ops [
        ⟨(some 74),none,(.load 2 true (.t 3))⟩,
        ⟨(some 75),none,(.fld 2 (.t 7))⟩,
        ⟨(some 76),none,(.load 1 false (.t 75))⟩,
        ⟨(some 77),none,(.bin .rem (.t 76) (.c (.int .u8 4)))⟩,
        ⟨(some 78),none,(.cvt .i64 (.t 77))⟩,
        ⟨(some 79),none,(.call 12 [(.t 74),(.t 78)])⟩,
        ⟨(some 73),none,(.mv (.t 79))⟩,
        ⟨(some 80),none,(.ext 0 (.t 73))⟩,
        ⟨(some 81),none,(.ext 1 (.t 73))⟩,
        ⟨(some 82),none,(.ext 2 (.t 73))⟩,
        ⟨none,none,(.store 2 (.t 3) (.t 80))⟩,
        ⟨(some 16),none,(.mv (.t 81))⟩,
        ⟨(some 4),none,(.mv (.t 82))⟩] ⟨true,[16,15,14,12,11,10,9,8,7,6,5,4,3,1],[]⟩)
       (.seq (.ops [
        ⟨(some 84),none,(.load 2 true (.t 10))⟩,
        ⟨(some 85),none,(.fld 2 (.t 7))⟩,
        ⟨(some 86),none,(.load 1 false (.t 85))⟩,
        ⟨(some 87),none,(.bin .rem (.t 86) (.c (.int .u8 4)))⟩,
        ⟨(some 88),none,(.cvt .i64 (.t 87))⟩,
        ⟨(some 89),none,(.call 13 [(.t 84),(.t 88)])⟩,
        ⟨(some 83),none,(.mv (.t 89))⟩,
        ⟨(some 90),none,(.ext 0 (.t 83))⟩,
        ⟨(some 91),none,(.ext 1 (.t 83))⟩,
        ⟨(some 17),none,(.alloc [(.ro 1 [] true),(.ro 1 [] true)])⟩,
        ⟨none,none,(.store 2 (.t 17) (.t 90))⟩,
        ⟨(some 18),none,(.mv (.t 91))⟩] ⟨false,[],[]⟩)
       (.seq (.ops [
        ⟨(some 92),none,(.mv (.t 16))⟩,
        ⟨(some 93),none,(.mv (.t 18))⟩,
        ⟨(some 94),none,(.call 14 [(.t 92),(.t 93)])⟩,
        ⟨(some 95),none,(.bin .eql (.t 94) (.c (.int .i64 0)))⟩] ⟨false,[],[]⟩)
       (.cond (.t 95) (.seq (.ops [
        ⟨(some 2),none,(.mv (.c (.bool false)))⟩] ⟨false,[],[]⟩)
        .ret)
        .skip))))))))) ⟨false,[],[]⟩)
  (.seq (.seq (.ops [
   ⟨(some 124),none,(.mv (.t 4))⟩,
   ⟨(some 125),none,(.bin .neq (.t 124) (.c (.int .i64 0)))⟩,
   ⟨(some 126),none,(.mv (.t 125))⟩,
   ⟨(some 127),(some (126,false)),(.mv (.t 11))⟩,
   ⟨(some 128),(some (126,false)),(.mv (.t 14))⟩,
   ⟨(some 129),(some (126,false)),(.bin .neq (.t 127) (.t 128))⟩,
   ⟨(some 130),none,(.pick (.t 126) (.c (.bool true)) (.t 129))⟩,
   ⟨(some 131),none,(.mv (.t 130))⟩,
   ⟨(some 132),(some (131,false)),(.mv (.t 12))⟩,
   ⟨(some 133),(some (131,false)),(.mv (.t 15))⟩,
   ⟨(some 134),(some (131,false)),(.eqv 5 [] true (.t 132) (.t 133))⟩,
   ⟨(some 135),none,(.pick (.t 131) (.c (.bool true)) (.t 134))⟩,
   ⟨(some 136),none,(.mv (.t 135))⟩,
   ⟨(some 137),(some (136,false)),(.load 2 true (.t 3))⟩,
   ⟨(some 138),(some (136,false)),(.load 2 true (.t 5))⟩,
   ⟨(some 139),(some (136,false)),(.call 8 [(.t 137),(.t 138)])⟩,
   ⟨(some 140),(some (136,false)),(.bin .eql (.t 139) (.c (.int .i64 0)))⟩,
   ⟨(some 141),none,(.pick (.t 136) (.c (.bool true)) (.t 140))⟩,
   ⟨(some 142),none,(.mv (.t 141))⟩,
   ⟨(some 143),(some (142,false)),(.load 2 true (.t 9))⟩,
   ⟨(some 144),(some (142,false)),(.load 2 true (.t 10))⟩,
   ⟨(some 145),(some (142,false)),(.call 8 [(.t 143),(.t 144)])⟩,
   ⟨(some 146),(some (142,false)),(.bin .eql (.t 145) (.c (.int .i64 0)))⟩,
   ⟨(some 147),none,(.pick (.t 142) (.c (.bool true)) (.t 146))⟩] ⟨true,[147,8,6,5,3,1],[]⟩)
   (.cond (.t 147) (.seq (.ops [
    ⟨(some 2),none,(.mv (.c (.bool false)))⟩] ⟨false,[],[]⟩)
    .ret)
    .skip))
  (.seq (.ops [
   ⟨(some 149),none,(.load 2 true (.t 3))⟩,
   ⟨(some 150),none,(.mv (.t 8))⟩,
   ⟨(some 151),none,(.call 15 [(.t 149),(.t 150)])⟩,
   ⟨(some 148),none,(.mv (.t 151))⟩,
   ⟨(some 152),none,(.ext 0 (.t 148))⟩,
   ⟨(some 153),none,(.ext 1 (.t 148))⟩,
   ⟨(some 19),none,(.mv (.t 152))⟩,
   ⟨(some 20),none,(.mv (.t 153))⟩] ⟨false,[],[]⟩)
  (.seq (.ops [
   ⟨(some 155),none,(.load 2 true (.t 3))⟩,
   ⟨(some 156),none,(.call 16 [(.t 155)])⟩,
   ⟨(some 154),none,(.mv (.t 156))⟩,
   ⟨(some 157),none,(.ext 0 (.t 154))⟩,
   ⟨(some 158),none,(.ext 1 (.t 154))⟩,
   ⟨(some 21),none,(.mv (.t 157))⟩,
   ⟨(some 22),none,(.mv (.t 158))⟩] ⟨false,[],[]⟩)
  (.seq (.ops [
   ⟨(some 159),none,(.mv (.t 20))⟩,
   ⟨(some 160),none,(.mv (.t 22))⟩,
   ⟨(some 161),none,(.bin .add (.t 159) (.t 160))⟩,
   ⟨(some 162),none,(.bin .neq (.t 161) (.c (.int .i64 0)))⟩,
   ⟨(some 163),none,(.mv (.t 162))⟩,
   ⟨(some 164),(some (163,false)),(.mv (.t 19))⟩,
   ⟨(some 165),(some (163,false)),(.fld 1 (.t 5))⟩,
   ⟨(some 166),(some (163,false)),(.load 1 false (.t 165))⟩,
   ⟨(some 167),(some (163,false)),(.mv (.t 8))⟩,
   ⟨(some 168),(some (163,false)),(.idxs 1 (.t 166) (.t 167))⟩,
   ⟨(some 169),(some (163,false)),(.load 1 false (.t 168))⟩,
   ⟨(some 170),(some (163,false)),(.len 1 (.t 169))⟩,
   ⟨(some 171),(some (163,false)),(.bin .neq (.t 164) (.t 170))⟩,
   ⟨(some 172),none,(.pick (.t 163) (.c (.bool true)) (.t 171))⟩,
   ⟨(some 173),none,(.mv (.t 172))⟩,
   ⟨(some 174),(some (173,false)),(.mv (.t 21))⟩,
   ⟨(some 175),(some (173,false)),(.load 2 true (.t 5))⟩,
   ⟨(some 176),(some (173,false)),(.call 17 [(.t 175)])⟩,
   ⟨(some 177),(some (173,false)),(.call 14 [(.t 174),(.t 176)])⟩,
   ⟨(some 178),(some (173,false)),(.bin .eql (.t 177) (.c (.int .i64 0)))⟩,
   ⟨(some 179),none,(.pick (.t 173) (.c (.bool true)) (.t 178))⟩] ⟨true,[179,6,5,3,1],[]⟩)
  (.cond (.t 179) (.seq (.ops [
   ⟨(some 2),none,(.mv (.c (.bool false)))⟩] ⟨false,[],[]⟩)
   .ret)
   .skip))))))))))))) ⟨false,[],[]⟩)
 (.ops [
  ⟨(some 49),none,(.mv (.t 6))⟩,
  ⟨(some 50),none,(.bin .add (.t 49) (.c (.int .i64 1)))⟩,
  ⟨(some 6),none,(.mv (.t 50))⟩] ⟨false,[],[]⟩)))
def w1_L0:WCode:=.loop ⟨true,[6,5,3,1],[]⟩ w1_B0
def w1:WFn:=⟨1,[.tmp 2],
 (.seq (.ops [
  ⟨(some 1),none,(.box (.t 0))⟩,
  ⟨(some 2),none,(.mv (.c (.bool false)))⟩] ⟨false,[],[]⟩)
  (.seq (.ops [
   ⟨(some 24),none,(.load 2 true (.t 1))⟩,
   ⟨(some 25),none,(.call 6 [(.t 24)])⟩,
   ⟨(some 26),none,(.call 5 [(.t 25)])⟩,
   ⟨(some 23),none,(.mv (.t 26))⟩,
   ⟨(some 27),none,(.ext 0 (.t 23))⟩,
   ⟨(some 28),none,(.ext 1 (.t 23))⟩,
   ⟨(some 3),none,(.alloc [(.ro 1 [] true),(.ro 1 [] true)])⟩,
   ⟨none,none,(.store 2 (.t 3) (.t 27))⟩,
   ⟨(some 4),none,(.mv (.t 28))⟩] ⟨true,[4,3,1],[]⟩)
  (.seq (.ops [
   ⟨(some 29),none,(.load 2 true (.t 1))⟩,
   ⟨(some 30),none,(.call 6 [(.t 29)])⟩,
   ⟨(some 31),none,(.call 7 [(.t 30)])⟩,
   ⟨(some 5),none,(.alloc [(.ro 1 [] true),(.ro 1 [] true)])⟩,
   ⟨none,none,(.store 2 (.t 5) (.t 31))⟩] ⟨false,[],[]⟩)
  (.seq (.seq (.ops [
   ⟨(some 32),none,(.mv (.t 4))⟩,
   ⟨(some 33),none,(.bin .neq (.t 32) (.c (.int .i64 0)))⟩,
   ⟨(some 34),none,(.mv (.t 33))⟩,
   ⟨(some 35),(some (34,false)),(.load 2 true (.t 3))⟩,
   ⟨(some 36),(some (34,false)),(.load 2 true (.t 5))⟩,
   ⟨(some 37),(some (34,false)),(.call 8 [(.t 35),(.t 36)])⟩,
   ⟨(some 38),(some (34,false)),(.bin .eql (.t 37) (.c (.int .i64 0)))⟩,
   ⟨(some 39),none,(.pick (.t 34) (.c (.bool true)) (.t 38))⟩] ⟨false,[],[]⟩)
   (.cond (.t 39) (.seq (.ops [
    ⟨(some 2),none,(.mv (.c (.bool false)))⟩] ⟨false,[],[]⟩)
    .ret)
    .skip))
  (.seq (.seq (.ops [
   ⟨(some 6),none,(.mv (.c (.int .i64 0)))⟩] ⟨false,[],[]⟩)
   (.block 0 w1_L0 ⟨true,[],[]⟩))
  w1_c0)))))⟩
@[simp] theorem w1_E0 {β:Type} {C:WProg} {b:Nat} {f:Ex × WSt→Option β} {k:List Pw.Frame} {s:WSt}:CK C b f k w1_L0 s=LK C b f (.sq w1_L0::k) w1_B0 (canon b ⟨true,[6,5,3,1],[]⟩ s):=ck_lp rfl
noncomputable abbrev w1_K0 (C:WProg) (s:WSt):Option AV:=CK C 0 (pureFin [.tmp 2]) [.sq w1_L0,.bk 0 ⟨true,[],[]⟩,.sq w1_c0] w1_B0 s
def w5:WFn:=⟨1,[.cell 2 2 true,.tmp 3],
 (.seq (.ops [
  ⟨(some 2),none,(.alloc [(.ro 1 [] true),(.ro 1 [] true)])⟩,
  ⟨(some 3),none,(.mv (.c (.int .i64 0)))⟩] ⟨false,[],[]⟩)
  (.seq (.seq (.ops [
   ⟨(some 6),none,(.mv (.t 0))⟩,
   ⟨(some 7),none,(.len 1 (.t 6))⟩,
   ⟨(some 8),none,(.bin .gtr (.t 7) (.c (.int .i64 8)))⟩] ⟨true,[8,2,0],[]⟩)
   (.cond (.t 8) (.seq (.ops [
    ⟨(some 9),none,(.build [(.ro 1 [] true),(.ro 1 [] true)] [])⟩,
    ⟨none,none,(.store 2 (.t 2) (.t 9))⟩,
    ⟨(some 3),none,(.mv (.c (.int .i64 1)))⟩] ⟨false,[],[]⟩)
    .ret)
    .skip))
  (.seq (.draw [
   ⟨(some 10),none,(.mv (.t 0))⟩,
   ⟨(some 11),none,(.call 21 [(.t 10)])⟩,
   ⟨(some 12),none,(.mv (.t 0))⟩,
   ⟨(some 13),none,(.len 1 (.t 12))⟩,
   ⟨(some 14),none,(.mksl [(.ro 1 [] true)] 24 (.t 13) (.t 13))⟩,
   ⟨(some 15),none,(.build [(.ro 1 [] true),(.ro 1 [] true)] [(0,1,(.t 11)),(1,1,(.t 14))])⟩,
   ⟨(some 4),none,(.alloc [(.ro 1 [] true),(.ro 1 [] true)])⟩,
   ⟨none,none,(.store 2 (.t 4) (.t 15))⟩] [(1,3),(1,4),(1,6),(3,6),(4,6)] ⟨false,[],[]⟩)
  (.seq (.seq (.ops [
   ⟨(some 16),none,(.load 2 true (.t 4))⟩,
   ⟨(some 17),none,(.call 20 [(.t 16)])⟩,
   ⟨(some 5),none,(.mv (.t 17))⟩] ⟨false,[],[]⟩)
   (.seq (.ops [
    ⟨(some 18),none,(.mv (.t 5))⟩,
    ⟨(some 19),none,(.bin .neq (.t 18) (.c (.int .i64 0)))⟩] ⟨false,[],[]⟩)
   (.cond (.t 19) (.seq (.ops [
    ⟨(some 20),none,(.build [(.ro 1 [] true),(.ro 1 [] true)] [])⟩,
    ⟨(some 21),none,(.mv (.t 5))⟩,
    ⟨none,none,(.store 2 (.t 2) (.t 20))⟩,
    ⟨(some 3),none,(.mv (.t 21))⟩] ⟨false,[],[]⟩)
    .ret)
    .skip)))
  (.seq (.ops [
   ⟨(some 22),none,(.load 2 true (.t 4))⟩,
   ⟨none,none,(.store 2 (.t 2) (.t 22))⟩,
   ⟨(some 3),none,(.mv (.c (.int .i64 0)))⟩] ⟨false,[],[]⟩)
  .ret)))))⟩
def w6_c0:WCode:=(.seq (.ops [
 ⟨(some 27),none,(.mv (.t 3))⟩,
 ⟨(some 2),none,(.mv (.t 27))⟩] ⟨false,[],[]⟩)
 .ret)
def w6_B0:WCode:=(.seq (.seq (.ops [
 ⟨(some 6),none,(.mv (.t 4))⟩,
 ⟨(some 7),none,(.fld 0 (.t 1))⟩,
 ⟨(some 8),none,(.load 1 false (.t 7))⟩,
 ⟨(some 9),none,(.len 1 (.t 8))⟩,
 ⟨(some 10),none,(.bin .lss (.t 6) (.t 9))⟩,
 ⟨(some 11),none,(.mv (.t 10))⟩,
 ⟨(some 12),(some (11,true)),(.mv (.t 4))⟩,
 ⟨(some 13),(some (11,true)),(.bin .lss (.t 12) (.c (.int .i64 3)))⟩,
 ⟨(some 14),none,(.pick (.t 11) (.t 13) (.c (.bool false)))⟩] ⟨true,[14,4,3,1],[]⟩)
 (.cond (.t 14) .skip
  (.exit 0)))
 (.seq (.block 1 (.ops [
  ⟨(some 17),none,(.mv (.t 3))⟩,
  ⟨(some 18),none,(.fld 0 (.t 1))⟩,
  ⟨(some 19),none,(.load 1 false (.t 18))⟩,
  ⟨(some 20),none,(.mv (.t 4))⟩,
  ⟨(some 21),none,(.idxs 1 (.t 19) (.t 20))⟩,
  ⟨(some 22),none,(.load 1 false (.t 21))⟩,
  ⟨(some 23),none,(.bin .rem (.t 22) (.c (.int .u8 4)))⟩,
  ⟨(some 24),none,(.cvt .i64 (.t 23))⟩,
  ⟨(some 25),none,(.buildS [(.int .i64 0)] 1 [(0,(.t 24))])⟩,
  ⟨(some 26),none,(.app [(.int .i64 0)] 8 false (.t 17) (.t 25))⟩,
  ⟨(some 3),none,(.mv (.t 26))⟩] ⟨false,[],[]⟩) ⟨false,[],[]⟩)
 (.ops [
  ⟨(some 15),none,(.mv (.t 4))⟩,
  ⟨(some 16),none,(.bin .add (.t 15) (.c (.int .i64 1)))⟩,
  ⟨(some 4),none,(.mv (.t 16))⟩] ⟨false,[],[]⟩)))
def w6_L0:WCode:=.loop ⟨true,[4,3,1],[]⟩ w6_B0
def w6:WFn:=⟨1,[.tmp 2],
 (.seq (.ops [
  ⟨(some 1),none,(.box (.t 0))⟩,
  ⟨(some 2),none,(.mv (.c (.ro 1 [] true)))⟩] ⟨false,[],[]⟩)
  (.seq (.ops [
   ⟨(some 5),none,(.buildS [(.int .i64 0)] 1 [(0,(.c (.int .i64 2)))])⟩,
   ⟨(some 3),none,(.mv (.t 5))⟩] ⟨false,[],[]⟩)
  (.seq (.seq (.ops [
   ⟨(some 4),none,(.mv (.c (.int .i64 0)))⟩] ⟨false,[],[]⟩)
   (.block 0 w6_L0 ⟨true,[3],[]⟩))
  w6_c0)))⟩
@[simp] theorem w6_E0 {β:Type} {C:WProg} {b:Nat} {f:Ex × WSt→Option β} {k:List Pw.Frame} {s:WSt}:CK C b f k w6_L0 s=LK C b f (.sq w6_L0::k) w6_B0 (canon b ⟨true,[4,3,1],[]⟩ s):=ck_lp rfl
def w7:WFn:=⟨1,[.cell 2 2 true],
 (.seq (.ops [
  ⟨(some 2),none,(.alloc [(.ro 1 [] true),(.ro 1 [] true)])⟩] ⟨false,[],[]⟩)
  (.seq (.draw [
   ⟨(some 3),none,(.mv (.t 0))⟩,
   ⟨(some 4),none,(.app [(.int .i64 0)] 8 false (.c (.ro 1 [] true)) (.t 3))⟩,
   ⟨(some 5),none,(.mv (.t 0))⟩,
   ⟨(some 6),none,(.len 1 (.t 5))⟩,
   ⟨(some 7),none,(.mksl [(.ro 1 [] true)] 24 (.t 6) (.t 6))⟩,
   ⟨(some 8),none,(.build [(.ro 1 [] true),(.ro 1 [] true)] [(0,1,(.t 4)),(1,1,(.t 7))])⟩,
   ⟨none,none,(.store 2 (.t 2) (.t 8))⟩] [(1,3),(1,4)] ⟨false,[],[]⟩)
  .ret))⟩
def w8_c0:WCode:=(.seq (.ops [
 ⟨(some 4),none,(.mv (.c (.int .i64 1)))⟩] ⟨false,[],[]⟩)
 .ret)
def w8_B0:WCode:=(.seq (.seq (.ops [
 ⟨(some 30),none,(.mv (.t 5))⟩,
 ⟨(some 31),none,(.fld 1 (.t 2))⟩,
 ⟨(some 32),none,(.load 1 false (.t 31))⟩,
 ⟨(some 33),none,(.len 1 (.t 32))⟩,
 ⟨(some 34),none,(.bin .lss (.t 30) (.t 33))⟩] ⟨false,[],[]⟩)
 (.cond (.t 34) .skip
  (.exit 0)))
 (.seq (.block 1 (.seq (.draw [
  ⟨(some 37),none,(.fld 1 (.t 2))⟩,
  ⟨(some 38),none,(.load 1 false (.t 37))⟩,
  ⟨(some 39),none,(.mv (.t 5))⟩,
  ⟨(some 40),none,(.idxs 1 (.t 38) (.t 39))⟩,
  ⟨(some 41),none,(.load 1 false (.t 40))⟩,
  ⟨(some 42),none,(.fld 1 (.t 3))⟩,
  ⟨(some 43),none,(.load 1 false (.t 42))⟩,
  ⟨(some 44),none,(.mv (.t 5))⟩,
  ⟨(some 45),none,(.idxs 1 (.t 43) (.t 44))⟩,
  ⟨(some 46),none,(.load 1 false (.t 45))⟩,
  ⟨(some 47),none,(.call 14 [(.t 41),(.t 46)])⟩,
  ⟨(some 48),none,(.bin .eql (.t 47) (.c (.int .i64 0)))⟩] [] ⟨false,[],[]⟩)
  (.cond (.t 48) (.seq (.ops [
   ⟨(some 4),none,(.mv (.c (.int .i64 0)))⟩] ⟨false,[],[]⟩)
   .ret)
   .skip)) ⟨false,[],[]⟩)
 (.ops [
  ⟨(some 35),none,(.mv (.t 5))⟩,
  ⟨(some 36),none,(.bin .add (.t 35) (.c (.int .i64 1)))⟩,
  ⟨(some 5),none,(.mv (.t 36))⟩] ⟨false,[],[]⟩)))
def w8_L0:WCode:=.loop ⟨true,[5,3,2],[]⟩ w8_B0
def w8:WFn:=⟨2,[.tmp 4],
 (.seq (.ops [
  ⟨(some 2),none,(.box (.t 0))⟩,
  ⟨(some 3),none,(.box (.t 1))⟩,
  ⟨(some 4),none,(.mv (.c (.int .i64 0)))⟩] ⟨false,[],[]⟩)
  (.seq (.seq (.ops [
   ⟨(some 6),none,(.fld 0 (.t 2))⟩,
   ⟨(some 7),none,(.load 1 false (.t 6))⟩,
   ⟨(some 8),none,(.fld 0 (.t 3))⟩,
   ⟨(some 9),none,(.load 1 false (.t 8))⟩,
   ⟨(some 10),none,(.call 14 [(.t 7),(.t 9)])⟩,
   ⟨(some 11),none,(.bin .eql (.t 10) (.c (.int .i64 0)))⟩,
   ⟨(some 12),none,(.mv (.t 11))⟩,
   ⟨(some 13),(some (12,false)),(.fld 1 (.t 2))⟩,
   ⟨(some 14),(some (12,false)),(.load 1 false (.t 13))⟩,
   ⟨(some 15),(some (12,false)),(.len 1 (.t 14))⟩,
   ⟨(some 16),(some (12,false)),(.fld 1 (.t 3))⟩,
   ⟨(some 17),(some (12,false)),(.load 1 false (.t 16))⟩,
   ⟨(some 18),(some (12,false)),(.len 1 (.t 17))⟩,
   ⟨(some 19),(some (12,false)),(.bin .neq (.t 15) (.t 18))⟩,
   ⟨(some 20),none,(.pick (.t 12) (.c (.bool true)) (.t 19))⟩,
   ⟨(some 21),none,(.mv (.t 20))⟩,
   ⟨(some 22),(some (21,false)),(.fld 1 (.t 2))⟩,
   ⟨(some 23),(some (21,false)),(.load 1 false (.t 22))⟩,
   ⟨(some 24),(some (21,false)),(.cap (.t 23))⟩,
   ⟨(some 25),(some (21,false)),(.fld 1 (.t 2))⟩,
   ⟨(some 26),(some (21,false)),(.load 1 false (.t 25))⟩,
   ⟨(some 27),(some (21,false)),(.len 1 (.t 26))⟩,
   ⟨(some 28),(some (21,false)),(.bin .neq (.t 24) (.t 27))⟩,
   ⟨(some 29),none,(.pick (.t 21) (.c (.bool true)) (.t 28))⟩] ⟨true,[29,3,2],[]⟩)
   (.cond (.t 29) (.seq (.ops [
    ⟨(some 4),none,(.mv (.c (.int .i64 0)))⟩] ⟨true,[4],[]⟩)
    .ret)
    .skip))
  (.seq (.seq (.ops [
   ⟨(some 5),none,(.mv (.c (.int .i64 0)))⟩] ⟨false,[],[]⟩)
   (.block 0 w8_L0 ⟨true,[],[]⟩))
  w8_c0)))⟩
@[simp] theorem w8_E0 {β:Type} {C:WProg} {b:Nat} {f:Ex × WSt→Option β} {k:List Pw.Frame} {s:WSt}:CK C b f k w8_L0 s=LK C b f (.sq w8_L0::k) w8_B0 (canon b ⟨true,[5,3,2],[]⟩ s):=ck_lp rfl
noncomputable abbrev w8_K0 (C:WProg) (s:WSt):Option AV:=CK C 0 (pureFin [.tmp 4]) [.sq w8_L0,.bk 0 ⟨true,[],[]⟩,.sq w8_c0] w8_B0 s
def w9:WFn:=⟨2,[.cell 4 2 true,.tmp 5,.tmp 6],
 (.seq (.ops [
  ⟨(some 2),none,(.box (.t 0))⟩,
  ⟨(some 3),none,(.box (.t 1))⟩,
  ⟨(some 4),none,(.alloc [(.ro 1 [] true),(.ro 1 [] true)])⟩,
  ⟨(some 5),none,(.mv (.c (.int .i64 0)))⟩,
  ⟨(some 6),none,(.mv (.c (.bool false)))⟩] ⟨false,[],[]⟩)
  (.seq (.ops [
   ⟨(some 12),none,(.fld 1 (.t 3))⟩,
   ⟨(some 13),none,(.load 1 false (.t 12))⟩,
   ⟨(some 14),none,(.cvt .i64 (.t 13))⟩,
   ⟨(some 15),none,(.fld 0 (.t 2))⟩,
   ⟨(some 16),none,(.load 1 false (.t 15))⟩,
   ⟨(some 17),none,(.len 1 (.t 16))⟩,
   ⟨(some 18),none,(.bin .rem (.t 14) (.t 17))⟩,
   ⟨(some 7),none,(.mv (.t 18))⟩] ⟨true,[7,4,3,2],[]⟩)
  (.seq (.block 0 (.seq (.ops [
   ⟨(some 20),none,(.fld 0 (.t 3))⟩,
   ⟨(some 21),none,(.load 1 false (.t 20))⟩,
   ⟨(some 22),none,(.bin .rem (.t 21) (.c (.int .u8 8)))⟩,
   ⟨(some 23),none,(.bin .lss (.t 22) (.c (.int .u8 4)))⟩,
   ⟨(some 19),none,(.mv (.t 23))⟩] ⟨false,[],[]⟩)
   (.cond (.t 19) (.seq (.ops [
    ⟨(some 25),none,(.load 2 true (.t 2))⟩,
    ⟨(some 26),none,(.mv (.t 7))⟩,
    ⟨(some 27),none,(.fld 2 (.t 3))⟩,
    ⟨(some 28),none,(.load 1 false (.t 27))⟩,
    ⟨(some 29),none,(.cvt .i64 (.t 28))⟩,
    ⟨(some 30),none,(.call 22 [(.t 25),(.t 26),(.t 29)])⟩,
    ⟨(some 24),none,(.mv (.t 30))⟩,
    ⟨(some 31),none,(.ext 0 (.t 24))⟩,
    ⟨(some 32),none,(.ext 1 (.t 24))⟩,
    ⟨(some 8),none,(.alloc [(.ro 1 [] true),(.ro 1 [] true)])⟩,
    ⟨none,none,(.store 2 (.t 8) (.t 31))⟩,
    ⟨(some 9),none,(.mv (.t 32))⟩] ⟨true,[9,8,4],[]⟩)
    (.seq (.ops [
     ⟨(some 33),none,(.load 2 true (.t 8))⟩,
     ⟨(some 34),none,(.mv (.t 9))⟩,
     ⟨none,none,(.store 2 (.t 4) (.t 33))⟩,
     ⟨(some 5),none,(.mv (.c (.int .i64 0)))⟩,
     ⟨(some 6),none,(.mv (.t 34))⟩] ⟨false,[],[]⟩)
    .ret))
    (.seq (.ops [
     ⟨(some 36),none,(.fld 0 (.t 3))⟩,
     ⟨(some 37),none,(.load 1 false (.t 36))⟩,
     ⟨(some 38),none,(.bin .rem (.t 37) (.c (.int .u8 8)))⟩,
     ⟨(some 39),none,(.bin .lss (.t 38) (.c (.int .u8 7)))⟩,
     ⟨(some 35),none,(.mv (.t 39))⟩] ⟨false,[],[]⟩)
     (.cond (.t 35) (.seq (.ops [
      ⟨(some 40),none,(.load 2 true (.t 2))⟩,
      ⟨(some 41),none,(.mv (.t 7))⟩,
      ⟨(some 42),none,(.call 23 [(.t 40),(.t 41)])⟩,
      ⟨(some 43),none,(.ext 0 (.t 42))⟩,
      ⟨(some 44),none,(.ext 1 (.t 42))⟩,
      ⟨(some 45),none,(.ext 2 (.t 42))⟩,
      ⟨none,none,(.store 2 (.t 4) (.t 43))⟩,
      ⟨(some 5),none,(.mv (.t 44))⟩,
      ⟨(some 6),none,(.mv (.t 45))⟩] ⟨false,[],[]⟩)
      .ret)
      .skip)))) ⟨false,[],[]⟩)
  (.seq (.ops [
   ⟨(some 47),none,(.load 2 true (.t 2))⟩,
   ⟨(some 48),none,(.fld 2 (.t 3))⟩,
   ⟨(some 49),none,(.load 1 false (.t 48))⟩,
   ⟨(some 50),none,(.bin .rem (.t 49) (.c (.int .u8 4)))⟩,
   ⟨(some 51),none,(.cvt .i64 (.t 50))⟩,
   ⟨(some 52),none,(.call 13 [(.t 47),(.t 51)])⟩,
   ⟨(some 46),none,(.mv (.t 52))⟩,
   ⟨(some 53),none,(.ext 0 (.t 46))⟩,
   ⟨(some 54),none,(.ext 1 (.t 46))⟩,
   ⟨(some 10),none,(.alloc [(.ro 1 [] true),(.ro 1 [] true)])⟩,
   ⟨none,none,(.store 2 (.t 10) (.t 53))⟩,
   ⟨(some 11),none,(.mv (.t 54))⟩] ⟨false,[],[]⟩)
  (.seq (.ops [
   ⟨(some 55),none,(.load 2 true (.t 10))⟩,
   ⟨none,none,(.store 2 (.t 4) (.t 55))⟩,
   ⟨(some 5),none,(.mv (.c (.int .i64 0)))⟩,
   ⟨(some 6),none,(.mv (.c (.bool false)))⟩] ⟨false,[],[]⟩)
  .ret)))))⟩
def w10:WFn:=⟨3,[.cell 6 2 true,.tmp 7,.tmp 8],
 (.seq (.ops [
  ⟨(some 3),none,(.box (.t 0))⟩,
  ⟨(some 6),none,(.alloc [(.ro 1 [] true),(.ro 1 [] true)])⟩,
  ⟨(some 7),none,(.mv (.c (.bool false)))⟩,
  ⟨(some 8),none,(.mv (.c (.int .i64 0)))⟩] ⟨false,[],[]⟩)
  (.seq (.seq (.ops [
   ⟨(some 11),none,(.load 2 true (.t 3))⟩,
   ⟨(some 12),none,(.mv (.t 1))⟩,
   ⟨(some 13),none,(.call 24 [(.t 11),(.t 12)])⟩,
   ⟨(some 9),none,(.mv (.t 13))⟩] ⟨false,[],[]⟩)
   (.seq (.ops [
    ⟨(some 14),none,(.mv (.t 9))⟩,
    ⟨(some 15),none,(.bin .neq (.t 14) (.c (.int .i64 0)))⟩] ⟨false,[],[]⟩)
   (.cond (.t 15) (.seq (.ops [
    ⟨(some 16),none,(.build [(.ro 1 [] true),(.ro 1 [] true)] [])⟩,
    ⟨(some 17),none,(.mv (.t 9))⟩,
    ⟨none,none,(.store 2 (.t 6) (.t 16))⟩,
    ⟨(some 7),none,(.mv (.c (.bool false)))⟩,
    ⟨(some 8),none,(.mv (.t 17))⟩] ⟨false,[],[]⟩)
    .ret)
    .skip)))
  (.seq (.ops [
   ⟨(some 18),none,(.fld 1 (.t 3))⟩,
   ⟨(some 19),none,(.load 1 false (.t 18))⟩,
   ⟨(some 20),none,(.mv (.t 1))⟩,
   ⟨(some 21),none,(.idxs 1 (.t 19) (.t 20))⟩,
   ⟨(some 22),none,(.load 1 false (.t 21))⟩,
   ⟨(some 10),none,(.mv (.t 22))⟩] ⟨false,[],[]⟩)
  (.seq (.seq (.ops [
   ⟨(some 23),none,(.mv (.t 10))⟩,
   ⟨(some 24),none,(.len 1 (.t 23))⟩,
   ⟨(some 25),none,(.fld 0 (.t 3))⟩,
   ⟨(some 26),none,(.load 1 false (.t 25))⟩,
   ⟨(some 27),none,(.mv (.t 1))⟩,
   ⟨(some 28),none,(.idxs 1 (.t 26) (.t 27))⟩,
   ⟨(some 29),none,(.load 1 false (.t 28))⟩,
   ⟨(some 30),none,(.bin .eql (.t 24) (.t 29))⟩] ⟨true,[30,10,6,3,2,1],[]⟩)
   (.cond (.t 30) (.seq (.ops [
    ⟨(some 31),none,(.load 2 true (.t 3))⟩,
    ⟨(some 32),none,(.mv (.t 1))⟩,
    ⟨(some 33),none,(.mv (.t 10))⟩,
    ⟨(some 34),none,(.call 25 [(.t 31),(.t 32),(.t 33)])⟩,
    ⟨none,none,(.store 2 (.t 6) (.t 34))⟩,
    ⟨(some 7),none,(.mv (.c (.bool true)))⟩,
    ⟨(some 8),none,(.mv (.c (.int .i64 0)))⟩] ⟨false,[],[]⟩)
    .ret)
    .skip))
  (.seq (.draw [
   ⟨(some 35),none,(.load 2 true (.t 3))⟩,
   ⟨(some 36),none,(.mv (.t 1))⟩,
   ⟨(some 37),none,(.mv (.t 10))⟩,
   ⟨(some 38),none,(.call 26 [(.t 37)])⟩,
   ⟨(some 39),none,(.mv (.t 2))⟩,
   ⟨(some 40),none,(.buildS [(.int .i64 0)] 1 [(0,(.t 39))])⟩,
   ⟨(some 41),none,(.app [(.int .i64 0)] 8 false (.t 38) (.t 40))⟩,
   ⟨(some 42),none,(.call 25 [(.t 35),(.t 36),(.t 41)])⟩,
   ⟨none,none,(.store 2 (.t 6) (.t 42))⟩,
   ⟨(some 7),none,(.mv (.c (.bool false)))⟩,
   ⟨(some 8),none,(.mv (.c (.int .i64 0)))⟩] [(0,3),(0,5),(3,5),(0,6)] ⟨false,[],[]⟩)
  .ret)))))⟩
def w11:WFn:=⟨2,[.cell 4 2 true,.tmp 5,.tmp 6,.tmp 7],
 (.seq (.ops [
  ⟨(some 2),none,(.box (.t 0))⟩,
  ⟨(some 4),none,(.alloc [(.ro 1 [] true),(.ro 1 [] true)])⟩,
  ⟨(some 5),none,(.mv (.c (.int .i64 0)))⟩,
  ⟨(some 6),none,(.mv (.c (.bool false)))⟩,
  ⟨(some 7),none,(.mv (.c (.int .i64 0)))⟩] ⟨true,[5,4,2,1],[]⟩)
  (.seq (.seq (.ops [
   ⟨(some 11),none,(.load 2 true (.t 2))⟩,
   ⟨(some 12),none,(.mv (.t 1))⟩,
   ⟨(some 13),none,(.call 24 [(.t 11),(.t 12)])⟩,
   ⟨(some 8),none,(.mv (.t 13))⟩] ⟨false,[],[]⟩)
   (.seq (.ops [
    ⟨(some 14),none,(.mv (.t 8))⟩,
    ⟨(some 15),none,(.bin .neq (.t 14) (.c (.int .i64 0)))⟩] ⟨false,[],[]⟩)
   (.cond (.t 15) (.seq (.ops [
    ⟨(some 16),none,(.build [(.ro 1 [] true),(.ro 1 [] true)] [])⟩,
    ⟨(some 17),none,(.mv (.t 5))⟩,
    ⟨(some 18),none,(.mv (.t 8))⟩,
    ⟨none,none,(.store 2 (.t 4) (.t 16))⟩,
    ⟨(some 5),none,(.mv (.t 17))⟩,
    ⟨(some 6),none,(.mv (.c (.bool false)))⟩,
    ⟨(some 7),none,(.mv (.t 18))⟩] ⟨false,[],[]⟩)
    .ret)
    .skip)))
  (.seq (.ops [
   ⟨(some 19),none,(.fld 1 (.t 2))⟩,
   ⟨(some 20),none,(.load 1 false (.t 19))⟩,
   ⟨(some 21),none,(.mv (.t 1))⟩,
   ⟨(some 22),none,(.idxs 1 (.t 20) (.t 21))⟩,
   ⟨(some 23),none,(.load 1 false (.t 22))⟩,
   ⟨(some 9),none,(.mv (.t 23))⟩] ⟨false,[],[]⟩)
  (.seq (.ops [
   ⟨(some 24),none,(.mv (.t 9))⟩,
   ⟨(some 25),none,(.len 1 (.t 24))⟩,
   ⟨(some 26),none,(.bin .sub (.t 25) (.c (.int .i64 1)))⟩,
   ⟨(some 10),none,(.mv (.t 26))⟩] ⟨false,[],[]⟩)
  (.seq (.seq (.ops [
   ⟨(some 27),none,(.mv (.t 10))⟩,
   ⟨(some 28),none,(.bin .lss (.t 27) (.c (.int .i64 0)))⟩] ⟨true,[28,10,9,5,4,2,1],[]⟩)
   (.cond (.t 28) (.seq (.ops [
    ⟨(some 29),none,(.load 2 true (.t 2))⟩,
    ⟨(some 30),none,(.mv (.t 1))⟩,
    ⟨(some 31),none,(.mv (.t 9))⟩,
    ⟨(some 32),none,(.call 25 [(.t 29),(.t 30),(.t 31)])⟩,
    ⟨(some 33),none,(.mv (.t 5))⟩,
    ⟨none,none,(.store 2 (.t 4) (.t 32))⟩,
    ⟨(some 5),none,(.mv (.t 33))⟩,
    ⟨(some 6),none,(.mv (.c (.bool false)))⟩,
    ⟨(some 7),none,(.mv (.c (.int .i64 0)))⟩] ⟨false,[],[]⟩)
    .ret)
    .skip))
  (.seq (.draw [
   ⟨(some 34),none,(.load 2 true (.t 2))⟩,
   ⟨(some 35),none,(.mv (.t 1))⟩,
   ⟨(some 36),none,(.mv (.t 9))⟩,
   ⟨(some 37),none,(.mv (.t 10))⟩,
   ⟨(some 38),none,(.slice 1 (.t 36) none (some (.t 37)) none)⟩,
   ⟨(some 39),none,(.call 25 [(.t 34),(.t 35),(.t 38)])⟩,
   ⟨(some 40),none,(.mv (.t 9))⟩,
   ⟨(some 41),none,(.mv (.t 10))⟩,
   ⟨(some 42),none,(.idxs 1 (.t 40) (.t 41))⟩,
   ⟨(some 43),none,(.load 1 false (.t 42))⟩,
   ⟨none,none,(.store 2 (.t 4) (.t 39))⟩,
   ⟨(some 5),none,(.mv (.t 43))⟩,
   ⟨(some 6),none,(.mv (.c (.bool true)))⟩,
   ⟨(some 7),none,(.mv (.c (.int .i64 0)))⟩] [(5,9),(9,10)] ⟨false,[],[]⟩)
  .ret))))))⟩
def w12_c0:WCode:=(.seq (.draw [
 ⟨(some 46),none,(.load 2 true (.t 4))⟩,
 ⟨(some 47),none,(.mv (.t 5))⟩,
 ⟨(some 48),none,(.call 26 [(.t 47)])⟩,
 ⟨none,none,(.store 2 (.t 4) (.t 46))⟩,
 ⟨(some 5),none,(.mv (.t 48))⟩,
 ⟨(some 6),none,(.mv (.c (.int .i64 0)))⟩] [(0,2)] ⟨false,[],[]⟩)
 .ret)
def w12_B0:WCode:=(.seq (.ops [
 ⟨(some 25),none,(.bin .lss (.t 24) (.t 23))⟩] ⟨false,[],[]⟩)
 (.seq (.cond (.t 25) .skip
  (.exit 0))
 (.seq (.block 1 (.seq (.ops [
  ⟨(some 26),none,(.mv (.t 24))⟩,
  ⟨(some 27),none,(.idxs 1 (.t 22) (.t 24))⟩,
  ⟨(some 28),none,(.load 1 false (.t 27))⟩,
  ⟨(some 8),none,(.mv (.t 26))⟩,
  ⟨(some 9),none,(.mv (.t 28))⟩] ⟨false,[],[]⟩)
  (.seq (.ops [
   ⟨(some 29),none,(.mv (.t 9))⟩,
   ⟨(some 30),none,(.len 1 (.t 29))⟩,
   ⟨(some 31),none,(.mv (.t 1))⟩,
   ⟨(some 32),none,(.bin .sub (.t 30) (.t 31))⟩,
   ⟨(some 33),none,(.mx (.t 32) (.c (.int .i64 0)))⟩,
   ⟨(some 10),none,(.mv (.t 33))⟩] ⟨true,[24,23,22,10,9,8,5,4,1],[]⟩)
  (.seq (.ops [
   ⟨(some 34),none,(.mv (.t 5))⟩,
   ⟨(some 35),none,(.mv (.t 9))⟩,
   ⟨(some 36),none,(.mv (.t 10))⟩,
   ⟨(some 37),none,(.slice 1 (.t 35) none (some (.t 36)) none)⟩,
   ⟨(some 38),none,(.app [(.int .i64 0)] 8 false (.t 34) (.t 37))⟩,
   ⟨(some 5),none,(.mv (.t 38))⟩] ⟨false,[],[]⟩)
  (.draw [
   ⟨(some 39),none,(.load 2 true (.t 4))⟩,
   ⟨(some 40),none,(.mv (.t 8))⟩,
   ⟨(some 41),none,(.mv (.t 9))⟩,
   ⟨(some 42),none,(.mv (.t 10))⟩,
   ⟨(some 43),none,(.slice 1 (.t 41) (some (.t 42)) none none)⟩,
   ⟨(some 44),none,(.call 25 [(.t 39),(.t 40),(.t 43)])⟩,
   ⟨none,none,(.store 2 (.t 4) (.t 44))⟩] [] ⟨false,[],[]⟩)))) ⟨false,[],[]⟩)
 (.ops [
  ⟨(some 45),none,(.bin .add (.t 24) (.c (.int .i64 1)))⟩,
  ⟨(some 24),none,(.mv (.t 45))⟩] ⟨false,[],[]⟩))))
def w12_L0:WCode:=.loop ⟨true,[24,23,22,5,4,1],[]⟩ w12_B0
def w12:WFn:=⟨2,[.cell 4 2 true,.tmp 5,.tmp 6],
 (.seq (.ops [
  ⟨(some 2),none,(.box (.t 0))⟩,
  ⟨(some 4),none,(.alloc [(.ro 1 [] true),(.ro 1 [] true)])⟩,
  ⟨(some 5),none,(.mv (.c (.ro 1 [] true)))⟩,
  ⟨(some 6),none,(.mv (.c (.int .i64 0)))⟩] ⟨true,[5,4,2,1],[(5,1)]⟩)
  (.seq (.seq (.ops [
   ⟨(some 11),none,(.load 2 true (.t 2))⟩,
   ⟨(some 12),none,(.call 20 [(.t 11)])⟩,
   ⟨(some 7),none,(.mv (.t 12))⟩] ⟨false,[],[]⟩)
   (.seq (.ops [
    ⟨(some 13),none,(.mv (.t 7))⟩,
    ⟨(some 14),none,(.bin .neq (.t 13) (.c (.int .i64 0)))⟩] ⟨true,[14,7,5,4,2,1],[]⟩)
   (.cond (.t 14) (.seq (.ops [
    ⟨(some 15),none,(.build [(.ro 1 [] true),(.ro 1 [] true)] [])⟩,
    ⟨(some 16),none,(.mv (.t 7))⟩,
    ⟨none,none,(.store 2 (.t 4) (.t 15))⟩,
    ⟨(some 5),none,(.mv (.c (.ro 1 [] true)))⟩,
    ⟨(some 6),none,(.mv (.t 16))⟩] ⟨false,[],[]⟩)
    .ret)
    .skip)))
  (.seq (.seq (.ops [
   ⟨(some 17),none,(.mv (.t 1))⟩,
   ⟨(some 18),none,(.bin .lss (.t 17) (.c (.int .i64 0)))⟩] ⟨false,[],[]⟩)
   (.cond (.t 18) (.seq (.ops [
    ⟨(some 19),none,(.build [(.ro 1 [] true),(.ro 1 [] true)] [])⟩,
    ⟨none,none,(.store 2 (.t 4) (.t 19))⟩,
    ⟨(some 5),none,(.mv (.c (.ro 1 [] true)))⟩,
    ⟨(some 6),none,(.mv (.c (.int .i64 4)))⟩] ⟨false,[],[]⟩)
    .ret)
    .skip))
  (.seq (.ops [
   ⟨(some 20),none,(.load 2 true (.t 2))⟩,
   ⟨none,none,(.store 2 (.t 4) (.t 20))⟩] ⟨false,[],[]⟩)
  (.seq (.seq (.ops [
   ⟨(some 21),none,(.fld 1 (.t 2))⟩,
   ⟨(some 22),none,(.load 1 false (.t 21))⟩,
   ⟨(some 23),none,(.len 1 (.t 22))⟩,
   ⟨(some 24),none,(.mv (.c (.int .i64 0)))⟩] ⟨false,[],[]⟩)
   (.block 0 w12_L0 ⟨true,[5,4],[]⟩))
  w12_c0)))))⟩
@[simp] theorem w12_E0 {β:Type} {C:WProg} {b:Nat} {f:Ex × WSt→Option β} {k:List Pw.Frame} {s:WSt}:CK C b f k w12_L0 s=LK C b f (.sq w12_L0::k) w12_B0 (canon b ⟨true,[24,23,22,5,4,1],[]⟩ s):=ck_lp rfl
noncomputable abbrev w12_K0 (C:WProg) (s:WSt):Option AV:=CK C 0 (pureFin [.cell 4 2 true,.tmp 5,.tmp 6]) [.sq w12_L0,.bk 0 ⟨true,[5,4],[]⟩,.sq w12_c0] w12_B0 s
def w13_c0:WCode:=(.seq (.ops [
 ⟨(some 46),none,(.load 2 true (.t 6))⟩,
 ⟨(some 47),none,(.mv (.t 7))⟩,
 ⟨none,none,(.store 2 (.t 4) (.t 46))⟩,
 ⟨(some 5),none,(.mv (.t 47))⟩] ⟨false,[],[]⟩)
 .ret)
def w13_c1:WCode:=(.ops [
 ⟨(some 16),none,(.mv (.t 8))⟩,
 ⟨(some 17),none,(.bin .add (.t 16) (.c (.int .i64 1)))⟩,
 ⟨(some 8),none,(.mv (.t 17))⟩] ⟨false,[],[]⟩)
def w13_B1:WCode:=(.seq (.seq (.ops [
 ⟨(some 18),none,(.fld 1 (.t 6))⟩,
 ⟨(some 19),none,(.load 1 false (.t 18))⟩,
 ⟨(some 20),none,(.mv (.t 8))⟩,
 ⟨(some 21),none,(.idxs 1 (.t 19) (.t 20))⟩,
 ⟨(some 22),none,(.load 1 false (.t 21))⟩,
 ⟨(some 23),none,(.len 1 (.t 22))⟩,
 ⟨(some 24),none,(.mv (.t 1))⟩,
 ⟨(some 25),none,(.bin .gtr (.t 23) (.t 24))⟩] ⟨false,[],[]⟩)
 (.cond (.t 25) .skip
  (.exit 2)))
 (.block 3 (.seq (.ops [
  ⟨(some 26),none,(.mv (.t 7))⟩,
  ⟨(some 27),none,(.fld 1 (.t 6))⟩,
  ⟨(some 28),none,(.load 1 false (.t 27))⟩,
  ⟨(some 29),none,(.mv (.t 8))⟩,
  ⟨(some 30),none,(.idxs 1 (.t 28) (.t 29))⟩,
  ⟨(some 31),none,(.load 1 false (.t 30))⟩,
  ⟨(some 32),none,(.idxs 1 (.t 31) (.c (.int .i64 0)))⟩,
  ⟨(some 33),none,(.load 1 false (.t 32))⟩,
  ⟨(some 34),none,(.buildS [(.int .i64 0)] 1 [(0,(.t 33))])⟩,
  ⟨(some 35),none,(.app [(.int .i64 0)] 8 false (.t 26) (.t 34))⟩,
  ⟨(some 7),none,(.mv (.t 35))⟩] ⟨true,[8,7,6,4,1],[(9999,65537)]⟩)
  (.draw [
   ⟨(some 36),none,(.fld 1 (.t 6))⟩,
   ⟨(some 37),none,(.load 1 false (.t 36))⟩,
   ⟨(some 38),none,(.mv (.t 8))⟩,
   ⟨(some 39),none,(.fld 1 (.t 6))⟩,
   ⟨(some 40),none,(.load 1 false (.t 39))⟩,
   ⟨(some 41),none,(.mv (.t 8))⟩,
   ⟨(some 42),none,(.idxs 1 (.t 40) (.t 41))⟩,
   ⟨(some 43),none,(.load 1 false (.t 42))⟩,
   ⟨(some 44),none,(.slice 1 (.t 43) (some (.c (.int .i64 1))) none none)⟩,
   ⟨(some 45),none,(.idxs 1 (.t 37) (.t 38))⟩,
   ⟨none,none,(.store 1 (.t 45) (.t 44))⟩] [] ⟨false,[],[]⟩)) ⟨false,[],[]⟩))
def w13_L1:WCode:=.loop ⟨true,[8,7,6,4,1],[(9999,65537)]⟩ w13_B1
def w13_B0:WCode:=(.seq (.seq (.ops [
 ⟨(some 11),none,(.mv (.t 8))⟩,
 ⟨(some 12),none,(.fld 1 (.t 6))⟩,
 ⟨(some 13),none,(.load 1 false (.t 12))⟩,
 ⟨(some 14),none,(.len 1 (.t 13))⟩,
 ⟨(some 15),none,(.bin .lss (.t 11) (.t 14))⟩] ⟨false,[],[]⟩)
 (.cond (.t 15) .skip
  (.exit 0)))
 (.seq (.block 1 (.block 2 w13_L1 ⟨true,[8,7,6,4,1],[(9999,65537)]⟩) ⟨true,[8,7,6,4,1],[(9999,65537)]⟩)
 w13_c1))
def w13_L0:WCode:=.loop ⟨true,[8,7,6,4,1],[(9999,65537)]⟩ w13_B0
def w13:WFn:=⟨2,[.cell 4 2 true,.tmp 5],
 (.seq (.ops [
  ⟨(some 2),none,(.box (.t 0))⟩,
  ⟨(some 4),none,(.alloc [(.ro 1 [] true),(.ro 1 [] true)])⟩,
  ⟨(some 5),none,(.mv (.c (.ro 1 [] true)))⟩] ⟨false,[],[]⟩)
  (.seq (.ops [
   ⟨(some 9),none,(.load 2 true (.t 2))⟩,
   ⟨(some 10),none,(.call 2027 [(.t 9)])⟩,
   ⟨(some 6),none,(.alloc [(.ro 1 [] true),(.ro 1 [] true)])⟩,
   ⟨none,none,(.store 2 (.t 6) (.t 10))⟩] ⟨false,[],[]⟩)
  (.seq (.ops [
   ⟨(some 7),none,(.mv (.c (.ro 1 [] true)))⟩] ⟨true,[7,6,4,1],[(7,1),(9999,65537)]⟩)
  (.seq (.seq (.ops [
   ⟨(some 8),none,(.mv (.c (.int .i64 0)))⟩] ⟨false,[],[]⟩)
   (.block 0 w13_L0 ⟨true,[7,6,4],[(9999,65537)]⟩))
  w13_c0))))⟩
@[simp] theorem w13_E1 {β:Type} {C:WProg} {b:Nat} {f:Ex × WSt→Option β} {k:List Pw.Frame} {s:WSt}:CK C b f k w13_L1 s=LK C b f (.sq w13_L1::k) w13_B1 (canon b ⟨true,[8,7,6,4,1],[(9999,65537)]⟩ s):=ck_lp rfl
@[simp] theorem w13_E0 {β:Type} {C:WProg} {b:Nat} {f:Ex × WSt→Option β} {k:List Pw.Frame} {s:WSt}:CK C b f k w13_L0 s=LK C b f (.sq w13_L0::k) w13_B0 (canon b ⟨true,[8,7,6,4,1],[(9999,65537)]⟩ s):=ck_lp rfl
def w14_c0:WCode:=(.seq (.ops [
 ⟨(some 4),none,(.mv (.c (.int .i64 1)))⟩] ⟨false,[],[]⟩)
 .ret)
def w14_B0:WCode:=(.seq (.seq (.ops [
 ⟨(some 18),none,(.mv (.t 5))⟩,
 ⟨(some 19),none,(.mv (.t 0))⟩,
 ⟨(some 20),none,(.len 1 (.t 19))⟩,
 ⟨(some 21),none,(.bin .lss (.t 18) (.t 20))⟩] ⟨false,[],[]⟩)
 (.cond (.t 21) .skip
  (.exit 0)))
 (.seq (.block 1 (.seq (.draw [
  ⟨(some 24),none,(.mv (.t 0))⟩,
  ⟨(some 25),none,(.mv (.t 5))⟩,
  ⟨(some 26),none,(.idxs 1 (.t 24) (.t 25))⟩,
  ⟨(some 27),none,(.load 1 false (.t 26))⟩,
  ⟨(some 28),none,(.mv (.t 1))⟩,
  ⟨(some 29),none,(.mv (.t 5))⟩,
  ⟨(some 30),none,(.idxs 1 (.t 28) (.t 29))⟩,
  ⟨(some 31),none,(.load 1 false (.t 30))⟩,
  ⟨(some 32),none,(.bin .neq (.t 27) (.t 31))⟩] [] ⟨false,[],[]⟩)
  (.cond (.t 32) (.seq (.ops [
   ⟨(some 4),none,(.mv (.c (.int .i64 0)))⟩] ⟨false,[],[]⟩)
   .ret)
   .skip)) ⟨false,[],[]⟩)
 (.ops [
  ⟨(some 22),none,(.mv (.t 5))⟩,
  ⟨(some 23),none,(.bin .add (.t 22) (.c (.int .i64 1)))⟩,
  ⟨(some 5),none,(.mv (.t 23))⟩] ⟨false,[],[]⟩)))
def w14_L0:WCode:=.loop ⟨true,[5,1,0],[]⟩ w14_B0
def w14:WFn:=⟨2,[.tmp 4],
 (.seq (.ops [
  ⟨(some 4),none,(.mv (.c (.int .i64 0)))⟩] ⟨false,[],[]⟩)
  (.seq (.seq (.ops [
   ⟨(some 6),none,(.mv (.t 0))⟩,
   ⟨(some 7),none,(.len 1 (.t 6))⟩,
   ⟨(some 8),none,(.mv (.t 1))⟩,
   ⟨(some 9),none,(.len 1 (.t 8))⟩,
   ⟨(some 10),none,(.bin .neq (.t 7) (.t 9))⟩,
   ⟨(some 11),none,(.mv (.t 10))⟩,
   ⟨(some 12),(some (11,false)),(.mv (.t 0))⟩,
   ⟨(some 13),(some (11,false)),(.cap (.t 12))⟩,
   ⟨(some 14),(some (11,false)),(.mv (.t 0))⟩,
   ⟨(some 15),(some (11,false)),(.len 1 (.t 14))⟩,
   ⟨(some 16),(some (11,false)),(.bin .neq (.t 13) (.t 15))⟩,
   ⟨(some 17),none,(.pick (.t 11) (.c (.bool true)) (.t 16))⟩] ⟨true,[17,1,0],[]⟩)
   (.cond (.t 17) (.seq (.ops [
    ⟨(some 4),none,(.mv (.c (.int .i64 0)))⟩] ⟨false,[],[]⟩)
    .ret)
    .skip))
  (.seq (.seq (.ops [
   ⟨(some 5),none,(.mv (.c (.int .i64 0)))⟩] ⟨false,[],[]⟩)
   (.block 0 w14_L0 ⟨true,[],[]⟩))
  w14_c0)))⟩
@[simp] theorem w14_E0 {β:Type} {C:WProg} {b:Nat} {f:Ex × WSt→Option β} {k:List Pw.Frame} {s:WSt}:CK C b f k w14_L0 s=LK C b f (.sq w14_L0::k) w14_B0 (canon b ⟨true,[5,1,0],[]⟩ s):=ck_lp rfl
noncomputable abbrev w14_K0 (C:WProg) (s:WSt):Option AV:=CK C 0 (pureFin [.tmp 4]) [.sq w14_L0,.bk 0 ⟨true,[],[]⟩,.sq w14_c0] w14_B0 s
def w15:WFn:=⟨2,[.tmp 4,.tmp 5],
 (.seq (.ops [
  ⟨(some 2),none,(.box (.t 0))⟩,
  ⟨(some 4),none,(.mv (.c (.int .i64 0)))⟩,
  ⟨(some 5),none,(.mv (.c (.int .i64 0)))⟩] ⟨false,[],[]⟩)
  (.seq (.seq (.ops [
   ⟨(some 7),none,(.load 2 true (.t 2))⟩,
   ⟨(some 8),none,(.mv (.t 1))⟩,
   ⟨(some 9),none,(.call 24 [(.t 7),(.t 8)])⟩,
   ⟨(some 6),none,(.mv (.t 9))⟩] ⟨false,[],[]⟩)
   (.seq (.ops [
    ⟨(some 10),none,(.mv (.t 6))⟩,
    ⟨(some 11),none,(.bin .neq (.t 10) (.c (.int .i64 0)))⟩] ⟨false,[],[]⟩)
   (.cond (.t 11) (.seq (.ops [
    ⟨(some 12),none,(.mv (.t 6))⟩,
    ⟨(some 4),none,(.mv (.c (.int .i64 0)))⟩,
    ⟨(some 5),none,(.mv (.t 12))⟩] ⟨false,[],[]⟩)
    .ret)
    .skip)))
  (.seq (.ops [
   ⟨(some 13),none,(.fld 1 (.t 2))⟩,
   ⟨(some 14),none,(.load 1 false (.t 13))⟩,
   ⟨(some 15),none,(.mv (.t 1))⟩,
   ⟨(some 16),none,(.idxs 1 (.t 14) (.t 15))⟩,
   ⟨(some 17),none,(.load 1 false (.t 16))⟩,
   ⟨(some 18),none,(.len 1 (.t 17))⟩,
   ⟨(some 4),none,(.mv (.t 18))⟩,
   ⟨(some 5),none,(.mv (.c (.int .i64 0)))⟩] ⟨false,[],[]⟩)
  .ret)))⟩
def w16:WFn:=⟨1,[.tmp 2,.tmp 3],
 (.seq (.ops [
  ⟨(some 1),none,(.box (.t 0))⟩,
  ⟨(some 2),none,(.mv (.c (.ro 1 [] true)))⟩,
  ⟨(some 3),none,(.mv (.c (.int .i64 0)))⟩] ⟨false,[],[]⟩)
  (.seq (.seq (.ops [
   ⟨(some 5),none,(.load 2 true (.t 1))⟩,
   ⟨(some 6),none,(.call 20 [(.t 5)])⟩,
   ⟨(some 4),none,(.mv (.t 6))⟩] ⟨false,[],[]⟩)
   (.seq (.ops [
    ⟨(some 7),none,(.mv (.t 4))⟩,
    ⟨(some 8),none,(.bin .neq (.t 7) (.c (.int .i64 0)))⟩] ⟨false,[],[]⟩)
   (.cond (.t 8) (.seq (.ops [
    ⟨(some 9),none,(.mv (.t 4))⟩,
    ⟨(some 2),none,(.mv (.c (.ro 1 [] true)))⟩,
    ⟨(some 3),none,(.mv (.t 9))⟩] ⟨false,[],[]⟩)
    .ret)
    .skip)))
  (.seq (.ops [
   ⟨(some 10),none,(.fld 1 (.t 1))⟩,
   ⟨(some 11),none,(.load 1 false (.t 10))⟩,
   ⟨(some 12),none,(.call 28 [(.t 11)])⟩,
   ⟨(some 13),none,(.call 26 [(.t 12)])⟩,
   ⟨(some 2),none,(.mv (.t 13))⟩,
   ⟨(some 3),none,(.mv (.c (.int .i64 0)))⟩] ⟨false,[],[]⟩)
  .ret)))⟩
def w17_c0:WCode:=(.seq (.ops [
 ⟨(some 19),none,(.mv (.t 3))⟩,
 ⟨(some 2),none,(.mv (.t 19))⟩] ⟨false,[],[]⟩)
 .ret)
def w17_B0:WCode:=(.seq (.seq (.ops [
 ⟨(some 5),none,(.mv (.t 4))⟩,
 ⟨(some 6),none,(.fld 1 (.t 1))⟩,
 ⟨(some 7),none,(.load 1 false (.t 6))⟩,
 ⟨(some 8),none,(.len 1 (.t 7))⟩,
 ⟨(some 9),none,(.bin .lss (.t 5) (.t 8))⟩] ⟨false,[],[]⟩)
 (.cond (.t 9) .skip
  (.exit 0)))
 (.seq (.block 1 (.ops [
  ⟨(some 12),none,(.mv (.t 3))⟩,
  ⟨(some 13),none,(.fld 1 (.t 1))⟩,
  ⟨(some 14),none,(.load 1 false (.t 13))⟩,
  ⟨(some 15),none,(.mv (.t 4))⟩,
  ⟨(some 16),none,(.idxs 1 (.t 14) (.t 15))⟩,
  ⟨(some 17),none,(.load 1 false (.t 16))⟩,
  ⟨(some 18),none,(.app [(.int .i64 0)] 8 false (.t 12) (.t 17))⟩,
  ⟨(some 3),none,(.mv (.t 18))⟩] ⟨false,[],[]⟩) ⟨false,[],[]⟩)
 (.ops [
  ⟨(some 10),none,(.mv (.t 4))⟩,
  ⟨(some 11),none,(.bin .add (.t 10) (.c (.int .i64 1)))⟩,
  ⟨(some 4),none,(.mv (.t 11))⟩] ⟨false,[],[]⟩)))
def w17_L0:WCode:=.loop ⟨true,[4,3,1],[]⟩ w17_B0
def w17:WFn:=⟨1,[.tmp 2],
 (.seq (.ops [
  ⟨(some 1),none,(.box (.t 0))⟩,
  ⟨(some 2),none,(.mv (.c (.ro 1 [] true)))⟩] ⟨false,[],[]⟩)
  (.seq (.ops [
   ⟨(some 3),none,(.mv (.c (.ro 1 [] true)))⟩] ⟨true,[3,1],[(3,1)]⟩)
  (.seq (.seq (.ops [
   ⟨(some 4),none,(.mv (.c (.int .i64 0)))⟩] ⟨false,[],[]⟩)
   (.block 0 w17_L0 ⟨true,[3],[]⟩))
  w17_c0)))⟩
@[simp] theorem w17_E0 {β:Type} {C:WProg} {b:Nat} {f:Ex × WSt→Option β} {k:List Pw.Frame} {s:WSt}:CK C b f k w17_L0 s=LK C b f (.sq w17_L0::k) w17_B0 (canon b ⟨true,[4,3,1],[]⟩ s):=ck_lp rfl
noncomputable abbrev w17_K0 (C:WProg) (s:WSt):Option AV:=CK C 0 (pureFin [.tmp 2]) [.sq w17_L0,.bk 0 ⟨true,[3],[]⟩,.sq w17_c0] w17_B0 s
def w18:WFn:=⟨0,[.tmp 0],
 (.seq (.ops [
  ⟨(some 0),none,(.mv (.c (.bool false)))⟩] ⟨false,[],[]⟩)
  (.seq (.ops [
   ⟨(some 19),none,(.buildS [(.int .i64 0)] 2 [(0,(.c (.int .i64 1))),(1,(.c (.int .i64 2)))])⟩,
   ⟨(some 20),none,(.call 29 [(.t 19)])⟩,
   ⟨(some 18),none,(.mv (.t 20))⟩,
   ⟨(some 21),none,(.ext 0 (.t 18))⟩,
   ⟨(some 22),none,(.ext 1 (.t 18))⟩,
   ⟨(some 1),none,(.alloc [(.ro 1 [] true),(.ro 1 [] true)])⟩,
   ⟨none,none,(.store 2 (.t 1) (.t 21))⟩,
   ⟨(some 2),none,(.mv (.t 22))⟩] ⟨false,[],[]⟩)
  (.seq (.ops [
   ⟨(some 24),none,(.load 2 true (.t 1))⟩,
   ⟨(some 25),none,(.call 30 [(.t 24),(.c (.int .i64 0)),(.c (.str [120]))])⟩,
   ⟨(some 23),none,(.mv (.t 25))⟩,
   ⟨(some 26),none,(.ext 0 (.t 23))⟩,
   ⟨(some 27),none,(.ext 1 (.t 23))⟩,
   ⟨(some 28),none,(.ext 2 (.t 23))⟩,
   ⟨(some 3),none,(.alloc [(.ro 1 [] true),(.ro 1 [] true)])⟩,
   ⟨none,none,(.store 2 (.t 3) (.t 26))⟩,
   ⟨(some 4),none,(.mv (.t 27))⟩,
   ⟨(some 5),none,(.mv (.t 28))⟩] ⟨true,[5,4,3,2,1],[]⟩)
  (.seq (.ops [
   ⟨(some 30),none,(.load 2 true (.t 3))⟩,
   ⟨(some 31),none,(.call 30 [(.t 30),(.c (.int .i64 0)),(.c (.str [121]))])⟩,
   ⟨(some 29),none,(.mv (.t 31))⟩,
   ⟨(some 32),none,(.ext 0 (.t 29))⟩,
   ⟨(some 33),none,(.ext 1 (.t 29))⟩,
   ⟨(some 34),none,(.ext 2 (.t 29))⟩,
   ⟨(some 6),none,(.alloc [(.ro 1 [] true),(.ro 1 [] true)])⟩,
   ⟨none,none,(.store 2 (.t 6) (.t 32))⟩,
   ⟨(some 7),none,(.mv (.t 33))⟩,
   ⟨(some 8),none,(.mv (.t 34))⟩] ⟨false,[],[]⟩)
  (.seq (.ops [
   ⟨(some 36),none,(.load 2 true (.t 6))⟩,
   ⟨(some 37),none,(.call 31 [(.t 36),(.c (.int .i64 0))])⟩,
   ⟨(some 35),none,(.mv (.t 37))⟩,
   ⟨(some 38),none,(.ext 0 (.t 35))⟩,
   ⟨(some 39),none,(.ext 1 (.t 35))⟩,
   ⟨(some 9),none,(.mv (.t 38))⟩,
   ⟨(some 10),none,(.mv (.t 39))⟩] ⟨false,[],[]⟩)
  (.seq (.seq (.ops [
   ⟨(some 40),none,(.mv (.t 2))⟩,
   ⟨(some 41),none,(.mv (.t 5))⟩,
   ⟨(some 42),none,(.bin .add (.t 40) (.t 41))⟩,
   ⟨(some 43),none,(.mv (.t 8))⟩,
   ⟨(some 44),none,(.bin .add (.t 42) (.t 43))⟩,
   ⟨(some 45),none,(.mv (.t 10))⟩,
   ⟨(some 46),none,(.bin .add (.t 44) (.t 45))⟩,
   ⟨(some 47),none,(.bin .neq (.t 46) (.c (.int .i64 0)))⟩,
   ⟨(some 48),none,(.mv (.t 47))⟩,
   ⟨(some 49),(some (48,false)),(.mv (.t 4))⟩,
   ⟨(some 50),none,(.pick (.t 48) (.c (.bool true)) (.t 49))⟩,
   ⟨(some 51),none,(.mv (.t 50))⟩,
   ⟨(some 52),(some (51,false)),(.mv (.t 7))⟩,
   ⟨(some 53),(some (51,false)),(.un .not (.t 52))⟩,
   ⟨(some 54),none,(.pick (.t 51) (.c (.bool true)) (.t 53))⟩,
   ⟨(some 55),none,(.mv (.t 54))⟩,
   ⟨(some 56),(some (55,false)),(.mv (.t 9))⟩,
   ⟨(some 57),(some (55,false)),(.bin .neq (.t 56) (.c (.int .i64 1)))⟩,
   ⟨(some 58),none,(.pick (.t 55) (.c (.bool true)) (.t 57))⟩] ⟨true,[58,3,1],[]⟩)
   (.cond (.t 58) (.seq (.ops [
    ⟨(some 0),none,(.mv (.c (.bool false)))⟩] ⟨false,[],[]⟩)
    .ret)
    .skip))
  (.seq (.ops [
   ⟨(some 60),none,(.load 2 true (.t 1))⟩,
   ⟨(some 61),none,(.call 30 [(.t 60),(.c (.int .i64 1)),(.c (.str [120]))])⟩,
   ⟨(some 59),none,(.mv (.t 61))⟩,
   ⟨(some 62),none,(.ext 0 (.t 59))⟩,
   ⟨(some 63),none,(.ext 1 (.t 59))⟩,
   ⟨(some 64),none,(.ext 2 (.t 59))⟩,
   ⟨none,none,(.store 2 (.t 3) (.t 62))⟩,
   ⟨(some 2),none,(.mv (.t 64))⟩] ⟨false,[],[]⟩)
  (.seq (.ops [
   ⟨(some 66),none,(.load 2 true (.t 3))⟩,
   ⟨(some 67),none,(.call 30 [(.t 66),(.c (.int .i64 1)),(.c (.str [121]))])⟩,
   ⟨(some 65),none,(.mv (.t 67))⟩,
   ⟨(some 68),none,(.ext 0 (.t 65))⟩,
   ⟨(some 69),none,(.ext 1 (.t 65))⟩,
   ⟨(some 70),none,(.ext 2 (.t 65))⟩,
   ⟨none,none,(.store 2 (.t 3) (.t 68))⟩,
   ⟨(some 5),none,(.mv (.t 70))⟩] ⟨false,[],[]⟩)
  (.seq (.ops [
   ⟨(some 72),none,(.load 2 true (.t 3))⟩,
   ⟨(some 73),none,(.call 32 [(.t 72),(.c (.int .i64 1))])⟩,
   ⟨(some 71),none,(.mv (.t 73))⟩,
   ⟨(some 74),none,(.ext 0 (.t 71))⟩,
   ⟨(some 75),none,(.ext 1 (.t 71))⟩,
   ⟨(some 76),none,(.ext 2 (.t 71))⟩,
   ⟨(some 77),none,(.ext 3 (.t 71))⟩,
   ⟨(some 11),none,(.alloc [(.ro 1 [] true),(.ro 1 [] true)])⟩,
   ⟨none,none,(.store 2 (.t 11) (.t 74))⟩,
   ⟨(some 12),none,(.mv (.t 75))⟩,
   ⟨(some 13),none,(.mv (.t 76))⟩,
   ⟨(some 8),none,(.mv (.t 77))⟩] ⟨true,[13,12,8,5,3,2,1],[]⟩)
  (.seq (.ops [
   ⟨(some 79),none,(.load 2 true (.t 3))⟩,
   ⟨(some 80),none,(.call 33 [(.t 79),(.c (.int .i64 1))])⟩,
   ⟨(some 78),none,(.mv (.t 80))⟩,
   ⟨(some 81),none,(.ext 0 (.t 78))⟩,
   ⟨(some 82),none,(.ext 1 (.t 78))⟩,
   ⟨(some 83),none,(.ext 2 (.t 78))⟩,
   ⟨(some 14),none,(.alloc [(.ro 1 [] true),(.ro 1 [] true)])⟩,
   ⟨none,none,(.store 2 (.t 14) (.t 81))⟩,
   ⟨(some 15),none,(.mv (.t 82))⟩,
   ⟨(some 10),none,(.mv (.t 83))⟩] ⟨false,[],[]⟩)
  (.seq (.ops [
   ⟨(some 85),none,(.load 2 true (.t 14))⟩,
   ⟨(some 86),none,(.call 34 [(.t 85)])⟩,
   ⟨(some 84),none,(.mv (.t 86))⟩,
   ⟨(some 87),none,(.ext 0 (.t 84))⟩,
   ⟨(some 88),none,(.ext 1 (.t 84))⟩,
   ⟨(some 16),none,(.mv (.t 87))⟩,
   ⟨(some 17),none,(.mv (.t 88))⟩] ⟨false,[],[]⟩)
  (.seq (.seq (.ops [
   ⟨(some 89),none,(.mv (.t 2))⟩,
   ⟨(some 90),none,(.mv (.t 5))⟩,
   ⟨(some 91),none,(.bin .add (.t 89) (.t 90))⟩,
   ⟨(some 92),none,(.mv (.t 8))⟩,
   ⟨(some 93),none,(.bin .add (.t 91) (.t 92))⟩,
   ⟨(some 94),none,(.mv (.t 10))⟩,
   ⟨(some 95),none,(.bin .add (.t 93) (.t 94))⟩,
   ⟨(some 96),none,(.mv (.t 17))⟩,
   ⟨(some 97),none,(.bin .add (.t 95) (.t 96))⟩,
   ⟨(some 98),none,(.bin .neq (.t 97) (.c (.int .i64 0)))⟩,
   ⟨(some 99),none,(.mv (.t 98))⟩,
   ⟨(some 100),(some (99,false)),(.mv (.t 12))⟩,
   ⟨(some 101),(some (99,false)),(.bin .neq (.t 100) (.c (.str [121])))⟩,
   ⟨(some 102),none,(.pick (.t 99) (.c (.bool true)) (.t 101))⟩,
   ⟨(some 103),none,(.mv (.t 102))⟩,
   ⟨(some 104),(some (103,false)),(.mv (.t 13))⟩,
   ⟨(some 105),(some (103,false)),(.un .not (.t 104))⟩,
   ⟨(some 106),none,(.pick (.t 103) (.c (.bool true)) (.t 105))⟩,
   ⟨(some 107),none,(.mv (.t 106))⟩,
   ⟨(some 108),(some (107,false)),(.mv (.t 15))⟩,
   ⟨(some 109),(some (107,false)),(.len 1 (.t 108))⟩,
   ⟨(some 110),(some (107,false)),(.bin .neq (.t 109) (.c (.int .i64 1)))⟩,
   ⟨(some 111),none,(.pick (.t 107) (.c (.bool true)) (.t 110))⟩,
   ⟨(some 112),none,(.mv (.t 111))⟩,
   ⟨(some 113),(some (112,false)),(.mv (.t 15))⟩,
   ⟨(some 114),(some (112,false)),(.idxs 1 (.t 113) (.c (.int .i64 0)))⟩,
   ⟨(some 115),(some (112,false)),(.load 1 false (.t 114))⟩,
   ⟨(some 116),(some (112,false)),(.bin .neq (.t 115) (.c (.str [120])))⟩,
   ⟨(some 117),none,(.pick (.t 112) (.c (.bool true)) (.t 116))⟩,
   ⟨(some 118),none,(.mv (.t 117))⟩,
   ⟨(some 119),(some (118,false)),(.mv (.t 16))⟩,
   ⟨(some 120),(some (118,false)),(.len 1 (.t 119))⟩,
   ⟨(some 121),(some (118,false)),(.bin .neq (.t 120) (.c (.int .i64 1)))⟩,
   ⟨(some 122),none,(.pick (.t 118) (.c (.bool true)) (.t 121))⟩,
   ⟨(some 123),none,(.mv (.t 122))⟩,
   ⟨(some 124),(some (123,false)),(.mv (.t 16))⟩,
   ⟨(some 125),(some (123,false)),(.idxs 1 (.t 124) (.c (.int .i64 0)))⟩,
   ⟨(some 126),(some (123,false)),(.load 1 false (.t 125))⟩,
   ⟨(some 127),(some (123,false)),(.bin .neq (.t 126) (.c (.str [121])))⟩,
   ⟨(some 128),none,(.pick (.t 123) (.c (.bool true)) (.t 127))⟩] ⟨true,[128,1],[]⟩)
   (.cond (.t 128) (.seq (.ops [
    ⟨(some 0),none,(.mv (.c (.bool false)))⟩] ⟨true,[0],[]⟩)
    .ret)
    .skip))
  (.seq (.ops [
   ⟨(some 130),none,(.load 2 true (.t 1))⟩,
   ⟨(some 131),none,(.call 32 [(.t 130),(.c (.int .i64 0))])⟩,
   ⟨(some 129),none,(.mv (.t 131))⟩,
   ⟨(some 132),none,(.ext 0 (.t 129))⟩,
   ⟨(some 133),none,(.ext 1 (.t 129))⟩,
   ⟨(some 134),none,(.ext 2 (.t 129))⟩,
   ⟨(some 135),none,(.ext 3 (.t 129))⟩,
   ⟨(some 13),none,(.mv (.t 134))⟩,
   ⟨(some 2),none,(.mv (.t 135))⟩] ⟨false,[],[]⟩)
  (.seq (.ops [
   ⟨(some 137),none,(.load 2 true (.t 1))⟩,
   ⟨(some 138),none,(.call 30 [(.t 137),(.c (.int .i64 2)),(.c (.str [120]))])⟩,
   ⟨(some 136),none,(.mv (.t 138))⟩,
   ⟨(some 139),none,(.ext 0 (.t 136))⟩,
   ⟨(some 140),none,(.ext 1 (.t 136))⟩,
   ⟨(some 141),none,(.ext 2 (.t 136))⟩,
   ⟨(some 5),none,(.mv (.t 141))⟩] ⟨false,[],[]⟩)
  (.seq (.ops [
   ⟨(some 143),none,(.load 2 true (.t 1))⟩,
   ⟨(some 144),none,(.call 33 [(.t 143),(.c (.int .i64 (-1)))])⟩,
   ⟨(some 142),none,(.mv (.t 144))⟩,
   ⟨(some 145),none,(.ext 0 (.t 142))⟩,
   ⟨(some 146),none,(.ext 1 (.t 142))⟩,
   ⟨(some 147),none,(.ext 2 (.t 142))⟩,
   ⟨(some 8),none,(.mv (.t 147))⟩] ⟨false,[],[]⟩)
  (.seq (.ops [
   ⟨(some 149),none,(.call 29 [(.c (.ro 1 [] true))])⟩,
   ⟨(some 148),none,(.mv (.t 149))⟩,
   ⟨(some 150),none,(.ext 0 (.t 148))⟩,
   ⟨(some 151),none,(.ext 1 (.t 148))⟩,
   ⟨(some 10),none,(.mv (.t 151))⟩] ⟨true,[13,10,8,5,2],[]⟩)
  (.seq (.ops [
   ⟨(some 152),none,(.mv (.t 2))⟩,
   ⟨(some 153),none,(.bin .eql (.t 152) (.c (.int .i64 0)))⟩,
   ⟨(some 154),none,(.mv (.t 153))⟩,
   ⟨(some 155),(some (154,true)),(.mv (.t 13))⟩,
   ⟨(some 156),(some (154,true)),(.un .not (.t 155))⟩,
   ⟨(some 157),none,(.pick (.t 154) (.t 156) (.c (.bool false)))⟩,
   ⟨(some 158),none,(.mv (.t 157))⟩,
   ⟨(some 159),(some (158,true)),(.mv (.t 5))⟩,
   ⟨(some 160),(some (158,true)),(.bin .eql (.t 159) (.c (.int .i64 4)))⟩,
   ⟨(some 161),none,(.pick (.t 158) (.t 160) (.c (.bool false)))⟩,
   ⟨(some 162),none,(.mv (.t 161))⟩,
   ⟨(some 163),(some (162,true)),(.mv (.t 8))⟩,
   ⟨(some 164),(some (162,true)),(.bin .eql (.t 163) (.c (.int .i64 4)))⟩,
   ⟨(some 165),none,(.pick (.t 162) (.t 164) (.c (.bool false)))⟩,
   ⟨(some 166),none,(.mv (.t 165))⟩,
   ⟨(some 167),(some (166,true)),(.mv (.t 10))⟩,
   ⟨(some 168),(some (166,true)),(.bin .eql (.t 167) (.c (.int .i64 1)))⟩,
   ⟨(some 169),none,(.pick (.t 166) (.t 168) (.c (.bool false)))⟩,
   ⟨(some 0),none,(.mv (.t 169))⟩] ⟨false,[],[]⟩)
  .ret)))))))))))))))))⟩
def w21:WFn:=⟨1,[.tmp 2],
 (.seq (.ops [
  ⟨(some 2),none,(.mv (.c (.ro 1 [] true)))⟩] ⟨false,[],[]⟩)
  (.seq (.ops [
   ⟨(some 4),none,(.mv (.t 0))⟩,
   ⟨(some 5),none,(.len 1 (.t 4))⟩,
   ⟨(some 6),none,(.mksl [(.int .i64 0)] 8 (.t 5) (.t 5))⟩,
   ⟨(some 3),none,(.mv (.t 6))⟩] ⟨false,[],[]⟩)
  (.seq (.ops [
   ⟨(some 7),none,(.mv (.t 3))⟩,
   ⟨(some 8),none,(.mv (.t 0))⟩,
   ⟨(some 9),none,(.cpy 1 (.t 7) (.t 8))⟩] ⟨false,[],[]⟩)
  (.seq (.ops [
   ⟨(some 10),none,(.mv (.t 3))⟩,
   ⟨(some 2),none,(.mv (.t 10))⟩] ⟨false,[],[]⟩)
  .ret))))⟩
def w20_c0:WCode:=(.seq (.ops [
 ⟨(some 2),none,(.mv (.c (.int .i64 0)))⟩] ⟨false,[],[]⟩)
 .ret)
def w20_B0:WCode:=(.seq (.ops [
 ⟨(some 26),none,(.bin .lss (.t 25) (.t 24))⟩] ⟨false,[],[]⟩)
 (.seq (.cond (.t 26) .skip
  (.exit 0))
 (.seq (.block 1 (.seq (.ops [
  ⟨(some 27),none,(.mv (.t 25))⟩,
  ⟨(some 28),none,(.idxs 1 (.t 23) (.t 25))⟩,
  ⟨(some 29),none,(.load 1 false (.t 28))⟩,
  ⟨(some 4),none,(.mv (.t 27))⟩,
  ⟨(some 5),none,(.mv (.t 29))⟩] ⟨true,[25,24,23,5,4,1],[]⟩)
  (.seq (.ops [
   ⟨(some 30),none,(.mv (.t 5))⟩,
   ⟨(some 31),none,(.bin .lss (.t 30) (.c (.int .i64 0)))⟩,
   ⟨(some 32),none,(.mv (.t 31))⟩,
   ⟨(some 33),(some (32,false)),(.mv (.t 5))⟩,
   ⟨(some 34),(some (32,false)),(.bin .gtr (.t 33) (.c (.int .i64 65536)))⟩,
   ⟨(some 35),none,(.pick (.t 32) (.c (.bool true)) (.t 34))⟩,
   ⟨(some 36),none,(.mv (.t 35))⟩,
   ⟨(some 37),(some (36,false)),(.fld 1 (.t 1))⟩,
   ⟨(some 38),(some (36,false)),(.load 1 false (.t 37))⟩,
   ⟨(some 39),(some (36,false)),(.mv (.t 4))⟩,
   ⟨(some 40),(some (36,false)),(.idxs 1 (.t 38) (.t 39))⟩,
   ⟨(some 41),(some (36,false)),(.load 1 false (.t 40))⟩,
   ⟨(some 42),(some (36,false)),(.len 1 (.t 41))⟩,
   ⟨(some 43),(some (36,false)),(.mv (.t 5))⟩,
   ⟨(some 44),(some (36,false)),(.bin .gtr (.t 42) (.t 43))⟩,
   ⟨(some 45),none,(.pick (.t 36) (.c (.bool true)) (.t 44))⟩] ⟨false,[],[]⟩)
  (.cond (.t 45) (.seq (.ops [
   ⟨(some 2),none,(.mv (.c (.int .i64 1)))⟩] ⟨false,[],[]⟩)
   .ret)
   .skip))) ⟨false,[],[]⟩)
 (.ops [
  ⟨(some 46),none,(.bin .add (.t 25) (.c (.int .i64 1)))⟩,
  ⟨(some 25),none,(.mv (.t 46))⟩] ⟨false,[],[]⟩))))
def w20_L0:WCode:=.loop ⟨true,[25,24,23,1],[]⟩ w20_B0
def w20:WFn:=⟨1,[.tmp 2],
 (.seq (.ops [
  ⟨(some 1),none,(.box (.t 0))⟩,
  ⟨(some 2),none,(.mv (.c (.int .i64 0)))⟩] ⟨true,[1],[]⟩)
  (.seq (.ops [
   ⟨(some 6),none,(.fld 0 (.t 1))⟩,
   ⟨(some 7),none,(.load 1 false (.t 6))⟩,
   ⟨(some 8),none,(.len 1 (.t 7))⟩,
   ⟨(some 3),none,(.mv (.t 8))⟩] ⟨false,[],[]⟩)
  (.seq (.seq (.ops [
   ⟨(some 9),none,(.mv (.t 3))⟩,
   ⟨(some 10),none,(.bin .lss (.t 9) (.c (.int .i64 1)))⟩,
   ⟨(some 11),none,(.mv (.t 10))⟩,
   ⟨(some 12),(some (11,false)),(.mv (.t 3))⟩,
   ⟨(some 13),(some (11,false)),(.bin .gtr (.t 12) (.c (.int .i64 8)))⟩,
   ⟨(some 14),none,(.pick (.t 11) (.c (.bool true)) (.t 13))⟩,
   ⟨(some 15),none,(.mv (.t 14))⟩,
   ⟨(some 16),(some (15,false)),(.fld 1 (.t 1))⟩,
   ⟨(some 17),(some (15,false)),(.load 1 false (.t 16))⟩,
   ⟨(some 18),(some (15,false)),(.len 1 (.t 17))⟩,
   ⟨(some 19),(some (15,false)),(.mv (.t 3))⟩,
   ⟨(some 20),(some (15,false)),(.bin .neq (.t 18) (.t 19))⟩,
   ⟨(some 21),none,(.pick (.t 15) (.c (.bool true)) (.t 20))⟩] ⟨false,[],[]⟩)
   (.cond (.t 21) (.seq (.ops [
    ⟨(some 2),none,(.mv (.c (.int .i64 1)))⟩] ⟨false,[],[]⟩)
    .ret)
    .skip))
  (.seq (.seq (.ops [
   ⟨(some 22),none,(.fld 0 (.t 1))⟩,
   ⟨(some 23),none,(.load 1 false (.t 22))⟩,
   ⟨(some 24),none,(.len 1 (.t 23))⟩,
   ⟨(some 25),none,(.mv (.c (.int .i64 0)))⟩] ⟨false,[],[]⟩)
   (.block 0 w20_L0 ⟨true,[],[]⟩))
  w20_c0))))⟩
@[simp] theorem w20_E0 {β:Type} {C:WProg} {b:Nat} {f:Ex × WSt→Option β} {k:List Pw.Frame} {s:WSt}:CK C b f k w20_L0 s=LK C b f (.sq w20_L0::k) w20_B0 (canon b ⟨true,[25,24,23,1],[]⟩ s):=ck_lp rfl
noncomputable abbrev w20_K0 (C:WProg) (s:WSt):Option AV:=CK C 0 (pureFin [.tmp 2]) [.sq w20_L0,.bk 0 ⟨true,[],[]⟩,.sq w20_c0] w20_B0 s
def w22:WFn:=⟨3,[.cell 6 2 true,.tmp 7],
 (.seq (.ops [
  ⟨(some 3),none,(.box (.t 0))⟩,
  ⟨(some 6),none,(.alloc [(.ro 1 [] true),(.ro 1 [] true)])⟩,
  ⟨(some 7),none,(.mv (.c (.bool false)))⟩] ⟨false,[],[]⟩)
  (.seq (.ops [
   ⟨(some 9),none,(.load 2 true (.t 3))⟩,
   ⟨(some 10),none,(.call 2027 [(.t 9)])⟩,
   ⟨(some 8),none,(.alloc [(.ro 1 [] true),(.ro 1 [] true)])⟩,
   ⟨none,none,(.store 2 (.t 8) (.t 10))⟩] ⟨false,[],[]⟩)
  (.seq (.seq (.draw [
   ⟨(some 11),none,(.fld 1 (.t 8))⟩,
   ⟨(some 12),none,(.load 1 false (.t 11))⟩,
   ⟨(some 13),none,(.mv (.t 1))⟩,
   ⟨(some 14),none,(.idxs 1 (.t 12) (.t 13))⟩,
   ⟨(some 15),none,(.load 1 false (.t 14))⟩,
   ⟨(some 16),none,(.len 1 (.t 15))⟩,
   ⟨(some 17),none,(.fld 0 (.t 8))⟩,
   ⟨(some 18),none,(.load 1 false (.t 17))⟩,
   ⟨(some 19),none,(.mv (.t 1))⟩,
   ⟨(some 20),none,(.idxs 1 (.t 18) (.t 19))⟩,
   ⟨(some 21),none,(.load 1 false (.t 20))⟩,
   ⟨(some 22),none,(.bin .geq (.t 16) (.t 21))⟩] [] ⟨true,[22,8,6,2,1],[(9999,65537)]⟩)
   (.cond (.t 22) (.seq (.ops [
    ⟨(some 23),none,(.load 2 true (.t 8))⟩,
    ⟨none,none,(.store 2 (.t 6) (.t 23))⟩,
    ⟨(some 7),none,(.mv (.c (.bool true)))⟩] ⟨false,[],[]⟩)
    .ret)
    .skip))
  (.seq (.draw [
   ⟨(some 24),none,(.fld 1 (.t 8))⟩,
   ⟨(some 25),none,(.load 1 false (.t 24))⟩,
   ⟨(some 26),none,(.mv (.t 1))⟩,
   ⟨(some 27),none,(.fld 1 (.t 8))⟩,
   ⟨(some 28),none,(.load 1 false (.t 27))⟩,
   ⟨(some 29),none,(.mv (.t 1))⟩,
   ⟨(some 30),none,(.idxs 1 (.t 28) (.t 29))⟩,
   ⟨(some 31),none,(.load 1 false (.t 30))⟩,
   ⟨(some 32),none,(.mv (.t 2))⟩,
   ⟨(some 33),none,(.buildS [(.int .i64 0)] 1 [(0,(.t 32))])⟩,
   ⟨(some 34),none,(.app [(.int .i64 0)] 8 false (.t 31) (.t 33))⟩,
   ⟨(some 35),none,(.idxs 1 (.t 25) (.t 26))⟩,
   ⟨none,none,(.store 1 (.t 35) (.t 34))⟩] [(1,9),(4,9),(7,9),(1,10)] ⟨false,[],[]⟩)
  (.seq (.ops [
   ⟨(some 36),none,(.load 2 true (.t 8))⟩,
   ⟨none,none,(.store 2 (.t 6) (.t 36))⟩,
   ⟨(some 7),none,(.mv (.c (.bool false)))⟩] ⟨false,[],[]⟩)
  .ret)))))⟩
def w23:WFn:=⟨2,[.cell 4 2 true,.tmp 5,.tmp 6],
 (.seq (.ops [
  ⟨(some 2),none,(.box (.t 0))⟩,
  ⟨(some 4),none,(.alloc [(.ro 1 [] true),(.ro 1 [] true)])⟩,
  ⟨(some 5),none,(.mv (.c (.int .i64 0)))⟩,
  ⟨(some 6),none,(.mv (.c (.bool false)))⟩] ⟨false,[],[]⟩)
  (.seq (.ops [
   ⟨(some 10),none,(.load 2 true (.t 2))⟩,
   ⟨(some 11),none,(.call 2027 [(.t 10)])⟩,
   ⟨(some 7),none,(.alloc [(.ro 1 [] true),(.ro 1 [] true)])⟩,
   ⟨none,none,(.store 2 (.t 7) (.t 11))⟩] ⟨false,[],[]⟩)
  (.seq (.ops [
   ⟨(some 12),none,(.fld 1 (.t 7))⟩,
   ⟨(some 13),none,(.load 1 false (.t 12))⟩,
   ⟨(some 14),none,(.mv (.t 1))⟩,
   ⟨(some 15),none,(.idxs 1 (.t 13) (.t 14))⟩,
   ⟨(some 16),none,(.load 1 false (.t 15))⟩,
   ⟨(some 17),none,(.len 1 (.t 16))⟩,
   ⟨(some 8),none,(.mv (.t 17))⟩] ⟨false,[],[]⟩)
  (.seq (.seq (.ops [
   ⟨(some 18),none,(.mv (.t 8))⟩,
   ⟨(some 19),none,(.bin .eql (.t 18) (.c (.int .i64 0)))⟩] ⟨false,[],[]⟩)
   (.cond (.t 19) (.seq (.ops [
    ⟨(some 20),none,(.load 2 true (.t 7))⟩,
    ⟨none,none,(.store 2 (.t 4) (.t 20))⟩,
    ⟨(some 5),none,(.mv (.c (.int .i64 0)))⟩,
    ⟨(some 6),none,(.mv (.c (.bool false)))⟩] ⟨false,[],[]⟩)
    .ret)
    .skip))
  (.seq (.ops [
   ⟨(some 21),none,(.fld 1 (.t 7))⟩,
   ⟨(some 22),none,(.load 1 false (.t 21))⟩,
   ⟨(some 23),none,(.mv (.t 1))⟩,
   ⟨(some 24),none,(.idxs 1 (.t 22) (.t 23))⟩,
   ⟨(some 25),none,(.load 1 false (.t 24))⟩,
   ⟨(some 26),none,(.mv (.t 8))⟩,
   ⟨(some 27),none,(.bin .sub (.t 26) (.c (.int .i64 1)))⟩,
   ⟨(some 28),none,(.idxs 1 (.t 25) (.t 27))⟩,
   ⟨(some 29),none,(.load 1 false (.t 28))⟩,
   ⟨(some 9),none,(.mv (.t 29))⟩] ⟨true,[9,8,7,4,1],[(9999,65537)]⟩)
  (.seq (.draw [
   ⟨(some 30),none,(.fld 1 (.t 7))⟩,
   ⟨(some 31),none,(.load 1 false (.t 30))⟩,
   ⟨(some 32),none,(.mv (.t 1))⟩,
   ⟨(some 33),none,(.fld 1 (.t 7))⟩,
   ⟨(some 34),none,(.load 1 false (.t 33))⟩,
   ⟨(some 35),none,(.mv (.t 1))⟩,
   ⟨(some 36),none,(.idxs 1 (.t 34) (.t 35))⟩,
   ⟨(some 37),none,(.load 1 false (.t 36))⟩,
   ⟨(some 38),none,(.mv (.t 8))⟩,
   ⟨(some 39),none,(.bin .sub (.t 38) (.c (.int .i64 1)))⟩,
   ⟨(some 40),none,(.slice 1 (.t 37) none (some (.t 39)) none)⟩,
   ⟨(some 41),none,(.idxs 1 (.t 31) (.t 32))⟩,
   ⟨none,none,(.store 1 (.t 41) (.t 40))⟩] [] ⟨false,[],[]⟩)
  (.seq (.ops [
   ⟨(some 42),none,(.load 2 true (.t 7))⟩,
   ⟨(some 43),none,(.mv (.t 9))⟩,
   ⟨none,none,(.store 2 (.t 4) (.t 42))⟩,
   ⟨(some 5),none,(.mv (.t 43))⟩,
   ⟨(some 6),none,(.mv (.c (.bool true)))⟩] ⟨false,[],[]⟩)
  .ret)))))))⟩
def w24:WFn:=⟨2,[.tmp 4],
 (.seq (.ops [
  ⟨(some 2),none,(.box (.t 0))⟩,
  ⟨(some 4),none,(.mv (.c (.int .i64 0)))⟩] ⟨false,[],[]⟩)
  (.seq (.seq (.ops [
   ⟨(some 6),none,(.load 2 true (.t 2))⟩,
   ⟨(some 7),none,(.call 20 [(.t 6)])⟩,
   ⟨(some 5),none,(.mv (.t 7))⟩] ⟨false,[],[]⟩)
   (.seq (.ops [
    ⟨(some 8),none,(.mv (.t 5))⟩,
    ⟨(some 9),none,(.bin .neq (.t 8) (.c (.int .i64 0)))⟩] ⟨false,[],[]⟩)
   (.cond (.t 9) (.seq (.ops [
    ⟨(some 10),none,(.mv (.t 5))⟩,
    ⟨(some 4),none,(.mv (.t 10))⟩] ⟨false,[],[]⟩)
    .ret)
    .skip)))
  (.seq (.seq (.ops [
   ⟨(some 11),none,(.mv (.t 1))⟩,
   ⟨(some 12),none,(.bin .lss (.t 11) (.c (.int .i64 0)))⟩,
   ⟨(some 13),none,(.mv (.t 12))⟩,
   ⟨(some 14),(some (13,false)),(.mv (.t 1))⟩,
   ⟨(some 15),(some (13,false)),(.fld 0 (.t 2))⟩,
   ⟨(some 16),(some (13,false)),(.load 1 false (.t 15))⟩,
   ⟨(some 17),(some (13,false)),(.len 1 (.t 16))⟩,
   ⟨(some 18),(some (13,false)),(.bin .geq (.t 14) (.t 17))⟩,
   ⟨(some 19),none,(.pick (.t 13) (.c (.bool true)) (.t 18))⟩] ⟨false,[],[]⟩)
   (.cond (.t 19) (.seq (.ops [
    ⟨(some 4),none,(.mv (.c (.int .i64 4)))⟩] ⟨false,[],[]⟩)
    .ret)
    .skip))
  (.seq (.ops [
   ⟨(some 4),none,(.mv (.c (.int .i64 0)))⟩] ⟨false,[],[]⟩)
  .ret))))⟩
def w25_c0:WCode:=(.seq (.ops [
 ⟨(some 37),none,(.load 2 true (.t 7))⟩,
 ⟨none,none,(.store 2 (.t 6) (.t 37))⟩] ⟨false,[],[]⟩)
 .ret)
def w25_B0:WCode:=(.seq (.ops [
 ⟨(some 22),none,(.bin .lss (.t 21) (.t 20))⟩] ⟨false,[],[]⟩)
 (.seq (.cond (.t 22) .skip
  (.exit 0))
 (.seq (.block 1 (.seq (.ops [
  ⟨(some 23),none,(.mv (.t 21))⟩,
  ⟨(some 24),none,(.idxs 1 (.t 19) (.t 21))⟩,
  ⟨(some 25),none,(.load 1 false (.t 24))⟩,
  ⟨(some 8),none,(.mv (.t 23))⟩,
  ⟨(some 9),none,(.mv (.t 25))⟩] ⟨false,[],[]⟩)
  (.seq (.seq (.ops [
   ⟨(some 26),none,(.mv (.t 8))⟩,
   ⟨(some 27),none,(.mv (.t 1))⟩,
   ⟨(some 28),none,(.bin .eql (.t 26) (.t 27))⟩] ⟨false,[],[]⟩)
   (.cond (.t 28) (.ops [
    ⟨(some 29),none,(.mv (.t 2))⟩,
    ⟨(some 9),none,(.mv (.t 29))⟩] ⟨false,[],[]⟩)
    .skip))
  (.draw [
   ⟨(some 30),none,(.fld 1 (.t 7))⟩,
   ⟨(some 31),none,(.load 1 false (.t 30))⟩,
   ⟨(some 32),none,(.mv (.t 8))⟩,
   ⟨(some 33),none,(.mv (.t 9))⟩,
   ⟨(some 34),none,(.call 21 [(.t 33)])⟩,
   ⟨(some 35),none,(.idxs 1 (.t 31) (.t 32))⟩,
   ⟨none,none,(.store 1 (.t 35) (.t 34))⟩] [(1,4)] ⟨false,[],[]⟩))) ⟨false,[],[]⟩)
 (.ops [
  ⟨(some 36),none,(.bin .add (.t 21) (.c (.int .i64 1)))⟩,
  ⟨(some 21),none,(.mv (.t 36))⟩] ⟨false,[],[]⟩))))
def w25_L0:WCode:=.loop ⟨true,[21,20,19,7,6,2,1],[]⟩ w25_B0
def w25:WFn:=⟨3,[.cell 6 2 true],
 (.seq (.ops [
  ⟨(some 3),none,(.box (.t 0))⟩,
  ⟨(some 6),none,(.alloc [(.ro 1 [] true),(.ro 1 [] true)])⟩] ⟨false,[],[]⟩)
  (.seq (.draw [
   ⟨(some 10),none,(.fld 0 (.t 3))⟩,
   ⟨(some 11),none,(.load 1 false (.t 10))⟩,
   ⟨(some 12),none,(.call 21 [(.t 11)])⟩,
   ⟨(some 13),none,(.fld 1 (.t 3))⟩,
   ⟨(some 14),none,(.load 1 false (.t 13))⟩,
   ⟨(some 15),none,(.len 1 (.t 14))⟩,
   ⟨(some 16),none,(.mksl [(.ro 1 [] true)] 24 (.t 15) (.t 15))⟩,
   ⟨(some 17),none,(.build [(.ro 1 [] true),(.ro 1 [] true)] [(0,1,(.t 12)),(1,1,(.t 16))])⟩,
   ⟨(some 7),none,(.alloc [(.ro 1 [] true),(.ro 1 [] true)])⟩,
   ⟨none,none,(.store 2 (.t 7) (.t 17))⟩] [(2,4),(2,5),(1,6),(2,6),(1,8),(2,8),(4,8),(5,8),(6,8)] ⟨false,[],[]⟩)
  (.seq (.seq (.ops [
   ⟨(some 18),none,(.fld 1 (.t 3))⟩,
   ⟨(some 19),none,(.load 1 false (.t 18))⟩,
   ⟨(some 20),none,(.len 1 (.t 19))⟩,
   ⟨(some 21),none,(.mv (.c (.int .i64 0)))⟩] ⟨true,[21,20,19,7,6,2,1],[]⟩)
   (.block 0 w25_L0 ⟨true,[7,6],[]⟩))
  w25_c0)))⟩
@[simp] theorem w25_E0 {β:Type} {C:WProg} {b:Nat} {f:Ex × WSt→Option β} {k:List Pw.Frame} {s:WSt}:CK C b f k w25_L0 s=LK C b f (.sq w25_L0::k) w25_B0 (canon b ⟨true,[21,20,19,7,6,2,1],[]⟩ s):=ck_lp rfl
noncomputable abbrev w25_K0 (C:WProg) (s:WSt):Option AV:=CK C 0 (pureFin [.cell 6 2 true]) [.sq w25_L0,.bk 0 ⟨true,[7,6],[]⟩,.sq w25_c0] w25_B0 s
def w26:WFn:=⟨1,[.tmp 2],
 (.seq (.ops [
  ⟨(some 2),none,(.mv (.c (.ro 1 [] true)))⟩] ⟨false,[],[]⟩)
  (.seq (.ops [
   ⟨(some 3),none,(.mv (.t 0))⟩,
   ⟨(some 4),none,(.mv (.t 0))⟩,
   ⟨(some 5),none,(.len 1 (.t 4))⟩,
   ⟨(some 6),none,(.mv (.t 0))⟩,
   ⟨(some 7),none,(.len 1 (.t 6))⟩,
   ⟨(some 8),none,(.slice 1 (.t 3) none (some (.t 5)) (some (.t 7)))⟩,
   ⟨(some 2),none,(.mv (.t 8))⟩] ⟨false,[],[]⟩)
  .ret))⟩
def w27_c0:WCode:=(.seq (.ops [
 ⟨(some 25),none,(.load 2 true (.t 3))⟩,
 ⟨none,none,(.store 2 (.t 2) (.t 25))⟩] ⟨false,[],[]⟩)
 .ret)
def w27_B0:WCode:=(.seq (.seq (.ops [
 ⟨(some 8),none,(.mv (.t 4))⟩,
 ⟨(some 9),none,(.fld 1 (.t 1))⟩,
 ⟨(some 10),none,(.load 1 false (.t 9))⟩,
 ⟨(some 11),none,(.len 1 (.t 10))⟩,
 ⟨(some 12),none,(.bin .lss (.t 8) (.t 11))⟩] ⟨false,[],[]⟩)
 (.cond (.t 12) .skip
  (.exit 0)))
 (.seq (.block 1 (.draw [
  ⟨(some 15),none,(.fld 1 (.t 3))⟩,
  ⟨(some 16),none,(.load 1 false (.t 15))⟩,
  ⟨(some 17),none,(.mv (.t 4))⟩,
  ⟨(some 18),none,(.fld 1 (.t 1))⟩,
  ⟨(some 19),none,(.load 1 false (.t 18))⟩,
  ⟨(some 20),none,(.mv (.t 4))⟩,
  ⟨(some 21),none,(.idxs 1 (.t 19) (.t 20))⟩,
  ⟨(some 22),none,(.load 1 false (.t 21))⟩,
  ⟨(some 23),none,(.app [(.int .i64 0)] 8 false (.c (.ro 1 [] true)) (.t 22))⟩,
  ⟨(some 24),none,(.idxs 1 (.t 16) (.t 17))⟩,
  ⟨none,none,(.store 1 (.t 24) (.t 23))⟩] [(1,8)] ⟨false,[],[]⟩) ⟨false,[],[]⟩)
 (.ops [
  ⟨(some 13),none,(.mv (.t 4))⟩,
  ⟨(some 14),none,(.bin .add (.t 13) (.c (.int .i64 1)))⟩,
  ⟨(some 4),none,(.mv (.t 14))⟩] ⟨false,[],[]⟩)))
def w27_L0:WCode:=.loop ⟨true,[4,3,2,1],[]⟩ w27_B0
def w27:WFn:=⟨1,[.cell 2 2 true],
 (.seq (.ops [
  ⟨(some 1),none,(.box (.t 0))⟩,
  ⟨(some 2),none,(.alloc [(.ro 1 [] true),(.ro 1 [] true)])⟩] ⟨false,[],[]⟩)
  (.seq (.ops [
   ⟨(some 5),none,(.fld 0 (.t 1))⟩,
   ⟨(some 6),none,(.load 1 false (.t 5))⟩,
   ⟨(some 7),none,(.call 7 [(.t 6)])⟩,
   ⟨(some 3),none,(.alloc [(.ro 1 [] true),(.ro 1 [] true)])⟩,
   ⟨none,none,(.store 2 (.t 3) (.t 7))⟩] ⟨true,[3,2,1],[]⟩)
  (.seq (.seq (.ops [
   ⟨(some 4),none,(.mv (.c (.int .i64 0)))⟩] ⟨false,[],[]⟩)
   (.block 0 w27_L0 ⟨true,[3,2],[]⟩))
  w27_c0)))⟩
@[simp] theorem w27_E0 {β:Type} {C:WProg} {b:Nat} {f:Ex × WSt→Option β} {k:List Pw.Frame} {s:WSt}:CK C b f k w27_L0 s=LK C b f (.sq w27_L0::k) w27_B0 (canon b ⟨true,[4,3,2,1],[]⟩ s):=ck_lp rfl
def w2027_c0:WCode:=(.seq (.ops [
 ⟨(some 25),none,(.load 2 true (.t 3))⟩,
 ⟨none,none,(.store 2 (.t 2) (.t 25))⟩] ⟨false,[],[]⟩)
 .ret)
def w2027_B0:WCode:=(.seq (.seq (.ops [
 ⟨(some 8),none,(.mv (.t 4))⟩,
 ⟨(some 9),none,(.fld 1 (.t 1))⟩,
 ⟨(some 10),none,(.load 1 false (.t 9))⟩,
 ⟨(some 11),none,(.len 1 (.t 10))⟩,
 ⟨(some 12),none,(.bin .lss (.t 8) (.t 11))⟩] ⟨false,[],[]⟩)
 (.cond (.t 12) .skip
  (.exit 0)))
 (.seq (.block 1 (.draw [
  ⟨(some 15),none,(.fld 1 (.t 3))⟩,
  ⟨(some 16),none,(.load 1 false (.t 15))⟩,
  ⟨(some 17),none,(.mv (.t 4))⟩,
  ⟨(some 18),none,(.fld 1 (.t 1))⟩,
  ⟨(some 19),none,(.load 1 false (.t 18))⟩,
  ⟨(some 20),none,(.mv (.t 4))⟩,
  ⟨(some 21),none,(.idxs 1 (.t 19) (.t 20))⟩,
  ⟨(some 22),none,(.load 1 false (.t 21))⟩,
  ⟨(some 23),none,(.app [(.int .i64 0)] 8 false (.c (.ro 1 [] true)) (.t 22))⟩,
  ⟨(some 24),none,(.idxs 1 (.t 16) (.t 17))⟩,
  ⟨none,none,(.store 1 (.t 24) (.t 23))⟩] [(1,8)] ⟨false,[],[]⟩) ⟨false,[],[]⟩)
 (.ops [
  ⟨(some 13),none,(.mv (.t 4))⟩,
  ⟨(some 14),none,(.bin .add (.t 13) (.c (.int .i64 1)))⟩,
  ⟨(some 4),none,(.mv (.t 14))⟩] ⟨false,[],[]⟩)))
def w2027_L0:WCode:=.loop ⟨true,[4,3,2,1],[(9999,65537)]⟩ w2027_B0
def w2027:WFn:=⟨1,[.cell 2 2 true],
 (.seq (.ops [
  ⟨(some 1),none,(.box (.t 0))⟩,
  ⟨(some 2),none,(.alloc [(.ro 1 [] true),(.ro 1 [] true)])⟩] ⟨false,[],[]⟩)
  (.seq (.ops [
   ⟨(some 5),none,(.fld 0 (.t 1))⟩,
   ⟨(some 6),none,(.load 1 false (.t 5))⟩,
   ⟨(some 7),none,(.call 2007 [(.t 6)])⟩,
   ⟨(some 3),none,(.alloc [(.ro 1 [] true),(.ro 1 [] true)])⟩,
   ⟨none,none,(.store 2 (.t 3) (.t 7))⟩] ⟨true,[3,2,1],[(9999,65537)]⟩)
  (.seq (.seq (.ops [
   ⟨(some 4),none,(.mv (.c (.int .i64 0)))⟩] ⟨false,[],[]⟩)
   (.block 0 w2027_L0 ⟨true,[3,2],[(9999,65537)]⟩))
  w2027_c0)))⟩
@[simp] theorem w2027_E0 {β:Type} {C:WProg} {b:Nat} {f:Ex × WSt→Option β} {k:List Pw.Frame} {s:WSt}:CK C b f k w2027_L0 s=LK C b f (.sq w2027_L0::k) w2027_B0 (canon b ⟨true,[4,3,2,1],[(9999,65537)]⟩ s):=ck_lp rfl
def w28_c0:WCode:=(.seq (.ops [
 ⟨(some 35),none,(.mv (.t 6))⟩,
 ⟨(some 2),none,(.mv (.t 35))⟩] ⟨false,[],[]⟩)
 .ret)
def w28_B0:WCode:=(.seq (.ops [
 ⟨(some 28),none,(.bin .lss (.t 27) (.t 26))⟩] ⟨false,[],[]⟩)
 (.seq (.cond (.t 28) .skip
  (.exit 2))
 (.seq (.block 3 (.seq (.ops [
  ⟨(some 29),none,(.idxs 1 (.t 25) (.t 27))⟩,
  ⟨(some 30),none,(.load 1 false (.t 29))⟩,
  ⟨(some 8),none,(.mv (.t 30))⟩] ⟨false,[],[]⟩)
  (.ops [
   ⟨(some 31),none,(.mv (.t 6))⟩,
   ⟨(some 32),none,(.mv (.t 8))⟩,
   ⟨(some 33),none,(.app [(.int .i64 0)] 8 false (.t 31) (.t 32))⟩,
   ⟨(some 6),none,(.mv (.t 33))⟩] ⟨false,[],[]⟩)) ⟨false,[],[]⟩)
 (.ops [
  ⟨(some 34),none,(.bin .add (.t 27) (.c (.int .i64 1)))⟩,
  ⟨(some 27),none,(.mv (.t 34))⟩] ⟨false,[],[]⟩))))
def w28_L0:WCode:=.loop ⟨true,[27,26,25,6],[]⟩ w28_B0
def w28_c1:WCode:=(.seq (.ops [
 ⟨(some 23),none,(.mv (.t 3))⟩,
 ⟨(some 24),none,(.call 35 [(.c (.ro 1 [] true)),(.t 23)])⟩,
 ⟨(some 6),none,(.mv (.t 24))⟩] ⟨false,[],[]⟩)
 (.seq (.seq (.ops [
  ⟨(some 25),none,(.mv (.t 0))⟩,
  ⟨(some 26),none,(.len 1 (.t 25))⟩,
  ⟨(some 27),none,(.mv (.c (.int .i64 0)))⟩] ⟨false,[],[]⟩)
  (.block 2 w28_L0 ⟨true,[6],[]⟩))
 w28_c0))
def w28_B1:WCode:=(.seq (.ops [
 ⟨(some 12),none,(.bin .lss (.t 11) (.t 10))⟩] ⟨false,[],[]⟩)
 (.seq (.cond (.t 12) .skip
  (.exit 0))
 (.seq (.block 1 (.seq (.ops [
  ⟨(some 13),none,(.idxs 1 (.t 9) (.t 11))⟩,
  ⟨(some 14),none,(.load 1 false (.t 13))⟩,
  ⟨(some 5),none,(.mv (.t 14))⟩] ⟨false,[],[]⟩)
  (.seq (.ops [
   ⟨(some 15),none,(.mv (.t 3))⟩,
   ⟨(some 16),none,(.mv (.t 5))⟩,
   ⟨(some 17),none,(.len 1 (.t 16))⟩,
   ⟨(some 18),none,(.bin .add (.t 15) (.t 17))⟩,
   ⟨(some 3),none,(.mv (.t 18))⟩] ⟨false,[],[]⟩)
  (.seq (.ops [
   ⟨(some 19),none,(.mv (.t 3))⟩,
   ⟨(some 20),none,(.bin .lss (.t 19) (.c (.int .i64 0)))⟩] ⟨true,[20,11,10,9,3,0],[]⟩)
  (.cond (.t 20) (.ops [
   ⟨(some 21),none,.fail⟩,
   ⟨none,none,.fail⟩] ⟨false,[],[]⟩)
   .skip)))) ⟨false,[],[]⟩)
 (.ops [
  ⟨(some 22),none,(.bin .add (.t 11) (.c (.int .i64 1)))⟩,
  ⟨(some 11),none,(.mv (.t 22))⟩] ⟨false,[],[]⟩))))
def w28_L1:WCode:=.loop ⟨true,[11,10,9,3,0],[]⟩ w28_B1
def w28:WFn:=⟨1,[.tmp 2],
 (.seq (.ops [
  ⟨(some 2),none,(.mv (.c (.ro 1 [] true)))⟩] ⟨false,[],[]⟩)
  (.seq (.ops [
   ⟨(some 3),none,(.mv (.c (.int .i64 0)))⟩] ⟨false,[],[]⟩)
  (.seq (.seq (.ops [
   ⟨(some 9),none,(.mv (.t 0))⟩,
   ⟨(some 10),none,(.len 1 (.t 9))⟩,
   ⟨(some 11),none,(.mv (.c (.int .i64 0)))⟩] ⟨false,[],[]⟩)
   (.block 0 w28_L1 ⟨true,[3,0],[]⟩))
  w28_c1)))⟩
@[simp] theorem w28_E0 {β:Type} {C:WProg} {b:Nat} {f:Ex × WSt→Option β} {k:List Pw.Frame} {s:WSt}:CK C b f k w28_L0 s=LK C b f (.sq w28_L0::k) w28_B0 (canon b ⟨true,[27,26,25,6],[]⟩ s):=ck_lp rfl
noncomputable abbrev w28_K0 (C:WProg) (s:WSt):Option AV:=CK C 0 (pureFin [.tmp 2]) [.sq w28_L0,.bk 2 ⟨true,[6],[]⟩,.sq w28_c0] w28_B0 s
@[simp] theorem w28_E1 {β:Type} {C:WProg} {b:Nat} {f:Ex × WSt→Option β} {k:List Pw.Frame} {s:WSt}:CK C b f k w28_L1 s=LK C b f (.sq w28_L1::k) w28_B1 (canon b ⟨true,[11,10,9,3,0],[]⟩ s):=ck_lp rfl
noncomputable abbrev w28_K1 (C:WProg) (s:WSt):Option AV:=CK C 0 (pureFin [.tmp 2]) [.sq w28_L1,.bk 0 ⟨true,[3,0],[]⟩,.sq w28_c1] w28_B1 s
def w29:WFn:=⟨1,[.cell 2 2 true,.tmp 3],
 (.seq (.ops [
  ⟨(some 2),none,(.alloc [(.ro 1 [] true),(.ro 1 [] true)])⟩,
  ⟨(some 3),none,(.mv (.c (.int .i64 0)))⟩] ⟨false,[],[]⟩)
  (.seq (.seq (.ops [
   ⟨(some 6),none,(.mv (.t 0))⟩,
   ⟨(some 7),none,(.len 1 (.t 6))⟩,
   ⟨(some 8),none,(.bin .gtr (.t 7) (.c (.int .i64 8)))⟩] ⟨true,[8,2,0],[]⟩)
   (.cond (.t 8) (.seq (.ops [
    ⟨(some 9),none,(.build [(.ro 1 [] true),(.ro 1 [] true)] [])⟩,
    ⟨none,none,(.store 2 (.t 2) (.t 9))⟩,
    ⟨(some 3),none,(.mv (.c (.int .i64 1)))⟩] ⟨false,[],[]⟩)
    .ret)
    .skip))
  (.seq (.draw [
   ⟨(some 10),none,(.mv (.t 0))⟩,
   ⟨(some 11),none,(.call 21 [(.t 10)])⟩,
   ⟨(some 12),none,(.mv (.t 0))⟩,
   ⟨(some 13),none,(.len 1 (.t 12))⟩,
   ⟨(some 14),none,(.mksl [(.ro 1 [] true)] 24 (.t 13) (.t 13))⟩,
   ⟨(some 15),none,(.build [(.ro 1 [] true),(.ro 1 [] true)] [(0,1,(.t 11)),(1,1,(.t 14))])⟩,
   ⟨(some 4),none,(.alloc [(.ro 1 [] true),(.ro 1 [] true)])⟩,
   ⟨none,none,(.store 2 (.t 4) (.t 15))⟩] [(1,3),(1,4),(1,6),(3,6),(4,6)] ⟨false,[],[]⟩)
  (.seq (.seq (.ops [
   ⟨(some 16),none,(.load 2 true (.t 4))⟩,
   ⟨(some 17),none,(.call 36 [(.t 16)])⟩,
   ⟨(some 5),none,(.mv (.t 17))⟩] ⟨false,[],[]⟩)
   (.seq (.ops [
    ⟨(some 18),none,(.mv (.t 5))⟩,
    ⟨(some 19),none,(.bin .neq (.t 18) (.c (.int .i64 0)))⟩] ⟨false,[],[]⟩)
   (.cond (.t 19) (.seq (.ops [
    ⟨(some 20),none,(.build [(.ro 1 [] true),(.ro 1 [] true)] [])⟩,
    ⟨(some 21),none,(.mv (.t 5))⟩,
    ⟨none,none,(.store 2 (.t 2) (.t 20))⟩,
    ⟨(some 3),none,(.mv (.t 21))⟩] ⟨false,[],[]⟩)
    .ret)
    .skip)))
  (.seq (.ops [
   ⟨(some 22),none,(.load 2 true (.t 4))⟩,
   ⟨none,none,(.store 2 (.t 2) (.t 22))⟩,
   ⟨(some 3),none,(.mv (.c (.int .i64 0)))⟩] ⟨false,[],[]⟩)
  .ret)))))⟩
def w30:WFn:=⟨3,[.cell 6 2 true,.tmp 7,.tmp 8],
 (.seq (.ops [
  ⟨(some 3),none,(.box (.t 0))⟩,
  ⟨(some 6),none,(.alloc [(.ro 1 [] true),(.ro 1 [] true)])⟩,
  ⟨(some 7),none,(.mv (.c (.bool false)))⟩,
  ⟨(some 8),none,(.mv (.c (.int .i64 0)))⟩] ⟨false,[],[]⟩)
  (.seq (.seq (.ops [
   ⟨(some 11),none,(.load 2 true (.t 3))⟩,
   ⟨(some 12),none,(.mv (.t 1))⟩,
   ⟨(some 13),none,(.call 37 [(.t 11),(.t 12)])⟩,
   ⟨(some 9),none,(.mv (.t 13))⟩] ⟨false,[],[]⟩)
   (.seq (.ops [
    ⟨(some 14),none,(.mv (.t 9))⟩,
    ⟨(some 15),none,(.bin .neq (.t 14) (.c (.int .i64 0)))⟩] ⟨false,[],[]⟩)
   (.cond (.t 15) (.seq (.ops [
    ⟨(some 16),none,(.build [(.ro 1 [] true),(.ro 1 [] true)] [])⟩,
    ⟨(some 17),none,(.mv (.t 9))⟩,
    ⟨none,none,(.store 2 (.t 6) (.t 16))⟩,
    ⟨(some 7),none,(.mv (.c (.bool false)))⟩,
    ⟨(some 8),none,(.mv (.t 17))⟩] ⟨false,[],[]⟩)
    .ret)
    .skip)))
  (.seq (.ops [
   ⟨(some 18),none,(.fld 1 (.t 3))⟩,
   ⟨(some 19),none,(.load 1 false (.t 18))⟩,
   ⟨(some 20),none,(.mv (.t 1))⟩,
   ⟨(some 21),none,(.idxs 1 (.t 19) (.t 20))⟩,
   ⟨(some 22),none,(.load 1 false (.t 21))⟩,
   ⟨(some 10),none,(.mv (.t 22))⟩] ⟨false,[],[]⟩)
  (.seq (.seq (.ops [
   ⟨(some 23),none,(.mv (.t 10))⟩,
   ⟨(some 24),none,(.len 1 (.t 23))⟩,
   ⟨(some 25),none,(.fld 0 (.t 3))⟩,
   ⟨(some 26),none,(.load 1 false (.t 25))⟩,
   ⟨(some 27),none,(.mv (.t 1))⟩,
   ⟨(some 28),none,(.idxs 1 (.t 26) (.t 27))⟩,
   ⟨(some 29),none,(.load 1 false (.t 28))⟩,
   ⟨(some 30),none,(.bin .eql (.t 24) (.t 29))⟩] ⟨true,[30,10,6,3,2,1],[]⟩)
   (.cond (.t 30) (.seq (.ops [
    ⟨(some 31),none,(.load 2 true (.t 3))⟩,
    ⟨(some 32),none,(.mv (.t 1))⟩,
    ⟨(some 33),none,(.mv (.t 10))⟩,
    ⟨(some 34),none,(.call 38 [(.t 31),(.t 32),(.t 33)])⟩,
    ⟨none,none,(.store 2 (.t 6) (.t 34))⟩,
    ⟨(some 7),none,(.mv (.c (.bool true)))⟩,
    ⟨(some 8),none,(.mv (.c (.int .i64 0)))⟩] ⟨false,[],[]⟩)
    .ret)
    .skip))
  (.seq (.draw [
   ⟨(some 35),none,(.load 2 true (.t 3))⟩,
   ⟨(some 36),none,(.mv (.t 1))⟩,
   ⟨(some 37),none,(.mv (.t 10))⟩,
   ⟨(some 38),none,(.call 39 [(.t 37)])⟩,
   ⟨(some 39),none,(.mv (.t 2))⟩,
   ⟨(some 40),none,(.buildS [(.str [])] 1 [(0,(.t 39))])⟩,
   ⟨(some 41),none,(.app [(.str [])] 16 false (.t 38) (.t 40))⟩,
   ⟨(some 42),none,(.call 38 [(.t 35),(.t 36),(.t 41)])⟩,
   ⟨none,none,(.store 2 (.t 6) (.t 42))⟩,
   ⟨(some 7),none,(.mv (.c (.bool false)))⟩,
   ⟨(some 8),none,(.mv (.c (.int .i64 0)))⟩] [(0,3),(0,5),(3,5),(0,6)] ⟨false,[],[]⟩)
  .ret)))))⟩
def w31:WFn:=⟨2,[.tmp 4,.tmp 5],
 (.seq (.ops [
  ⟨(some 2),none,(.box (.t 0))⟩,
  ⟨(some 4),none,(.mv (.c (.int .i64 0)))⟩,
  ⟨(some 5),none,(.mv (.c (.int .i64 0)))⟩] ⟨false,[],[]⟩)
  (.seq (.seq (.ops [
   ⟨(some 7),none,(.load 2 true (.t 2))⟩,
   ⟨(some 8),none,(.mv (.t 1))⟩,
   ⟨(some 9),none,(.call 37 [(.t 7),(.t 8)])⟩,
   ⟨(some 6),none,(.mv (.t 9))⟩] ⟨false,[],[]⟩)
   (.seq (.ops [
    ⟨(some 10),none,(.mv (.t 6))⟩,
    ⟨(some 11),none,(.bin .neq (.t 10) (.c (.int .i64 0)))⟩] ⟨false,[],[]⟩)
   (.cond (.t 11) (.seq (.ops [
    ⟨(some 12),none,(.mv (.t 6))⟩,
    ⟨(some 4),none,(.mv (.c (.int .i64 0)))⟩,
    ⟨(some 5),none,(.mv (.t 12))⟩] ⟨false,[],[]⟩)
    .ret)
    .skip)))
  (.seq (.ops [
   ⟨(some 13),none,(.fld 1 (.t 2))⟩,
   ⟨(some 14),none,(.load 1 false (.t 13))⟩,
   ⟨(some 15),none,(.mv (.t 1))⟩,
   ⟨(some 16),none,(.idxs 1 (.t 14) (.t 15))⟩,
   ⟨(some 17),none,(.load 1 false (.t 16))⟩,
   ⟨(some 18),none,(.len 1 (.t 17))⟩,
   ⟨(some 4),none,(.mv (.t 18))⟩,
   ⟨(some 5),none,(.mv (.c (.int .i64 0)))⟩] ⟨false,[],[]⟩)
  .ret)))⟩
def w32:WFn:=⟨2,[.cell 4 2 true,.tmp 5,.tmp 6,.tmp 7],
 (.seq (.ops [
  ⟨(some 2),none,(.box (.t 0))⟩,
  ⟨(some 4),none,(.alloc [(.ro 1 [] true),(.ro 1 [] true)])⟩,
  ⟨(some 5),none,(.mv (.c (.str [])))⟩,
  ⟨(some 6),none,(.mv (.c (.bool false)))⟩,
  ⟨(some 7),none,(.mv (.c (.int .i64 0)))⟩] ⟨true,[5,4,2,1],[]⟩)
  (.seq (.seq (.ops [
   ⟨(some 11),none,(.load 2 true (.t 2))⟩,
   ⟨(some 12),none,(.mv (.t 1))⟩,
   ⟨(some 13),none,(.call 37 [(.t 11),(.t 12)])⟩,
   ⟨(some 8),none,(.mv (.t 13))⟩] ⟨false,[],[]⟩)
   (.seq (.ops [
    ⟨(some 14),none,(.mv (.t 8))⟩,
    ⟨(some 15),none,(.bin .neq (.t 14) (.c (.int .i64 0)))⟩] ⟨false,[],[]⟩)
   (.cond (.t 15) (.seq (.ops [
    ⟨(some 16),none,(.build [(.ro 1 [] true),(.ro 1 [] true)] [])⟩,
    ⟨(some 17),none,(.mv (.t 5))⟩,
    ⟨(some 18),none,(.mv (.t 8))⟩,
    ⟨none,none,(.store 2 (.t 4) (.t 16))⟩,
    ⟨(some 5),none,(.mv (.t 17))⟩,
    ⟨(some 6),none,(.mv (.c (.bool false)))⟩,
    ⟨(some 7),none,(.mv (.t 18))⟩] ⟨false,[],[]⟩)
    .ret)
    .skip)))
  (.seq (.ops [
   ⟨(some 19),none,(.fld 1 (.t 2))⟩,
   ⟨(some 20),none,(.load 1 false (.t 19))⟩,
   ⟨(some 21),none,(.mv (.t 1))⟩,
   ⟨(some 22),none,(.idxs 1 (.t 20) (.t 21))⟩,
   ⟨(some 23),none,(.load 1 false (.t 22))⟩,
   ⟨(some 9),none,(.mv (.t 23))⟩] ⟨false,[],[]⟩)
  (.seq (.ops [
   ⟨(some 24),none,(.mv (.t 9))⟩,
   ⟨(some 25),none,(.len 1 (.t 24))⟩,
   ⟨(some 26),none,(.bin .sub (.t 25) (.c (.int .i64 1)))⟩,
   ⟨(some 10),none,(.mv (.t 26))⟩] ⟨false,[],[]⟩)
  (.seq (.seq (.ops [
   ⟨(some 27),none,(.mv (.t 10))⟩,
   ⟨(some 28),none,(.bin .lss (.t 27) (.c (.int .i64 0)))⟩] ⟨true,[28,10,9,5,4,2,1],[]⟩)
   (.cond (.t 28) (.seq (.ops [
    ⟨(some 29),none,(.load 2 true (.t 2))⟩,
    ⟨(some 30),none,(.mv (.t 1))⟩,
    ⟨(some 31),none,(.mv (.t 9))⟩,
    ⟨(some 32),none,(.call 38 [(.t 29),(.t 30),(.t 31)])⟩,
    ⟨(some 33),none,(.mv (.t 5))⟩,
    ⟨none,none,(.store 2 (.t 4) (.t 32))⟩,
    ⟨(some 5),none,(.mv (.t 33))⟩,
    ⟨(some 6),none,(.mv (.c (.bool false)))⟩,
    ⟨(some 7),none,(.mv (.c (.int .i64 0)))⟩] ⟨false,[],[]⟩)
    .ret)
    .skip))
  (.seq (.draw [
   ⟨(some 34),none,(.load 2 true (.t 2))⟩,
   ⟨(some 35),none,(.mv (.t 1))⟩,
   ⟨(some 36),none,(.mv (.t 9))⟩,
   ⟨(some 37),none,(.mv (.t 10))⟩,
   ⟨(some 38),none,(.slice 1 (.t 36) none (some (.t 37)) none)⟩,
   ⟨(some 39),none,(.call 38 [(.t 34),(.t 35),(.t 38)])⟩,
   ⟨(some 40),none,(.mv (.t 9))⟩,
   ⟨(some 41),none,(.mv (.t 10))⟩,
   ⟨(some 42),none,(.idxs 1 (.t 40) (.t 41))⟩,
   ⟨(some 43),none,(.load 1 false (.t 42))⟩,
   ⟨none,none,(.store 2 (.t 4) (.t 39))⟩,
   ⟨(some 5),none,(.mv (.t 43))⟩,
   ⟨(some 6),none,(.mv (.c (.bool true)))⟩,
   ⟨(some 7),none,(.mv (.c (.int .i64 0)))⟩] [(5,9),(9,10)] ⟨false,[],[]⟩)
  .ret))))))⟩
def w33_c0:WCode:=(.seq (.draw [
 ⟨(some 46),none,(.load 2 true (.t 4))⟩,
 ⟨(some 47),none,(.mv (.t 5))⟩,
 ⟨(some 48),none,(.call 39 [(.t 47)])⟩,
 ⟨none,none,(.store 2 (.t 4) (.t 46))⟩,
 ⟨(some 5),none,(.mv (.t 48))⟩,
 ⟨(some 6),none,(.mv (.c (.int .i64 0)))⟩] [(0,2)] ⟨false,[],[]⟩)
 .ret)
def w33_B0:WCode:=(.seq (.ops [
 ⟨(some 25),none,(.bin .lss (.t 24) (.t 23))⟩] ⟨false,[],[]⟩)
 (.seq (.cond (.t 25) .skip
  (.exit 0))
 (.seq (.block 1 (.seq (.ops [
  ⟨(some 26),none,(.mv (.t 24))⟩,
  ⟨(some 27),none,(.idxs 1 (.t 22) (.t 24))⟩,
  ⟨(some 28),none,(.load 1 false (.t 27))⟩,
  ⟨(some 8),none,(.mv (.t 26))⟩,
  ⟨(some 9),none,(.mv (.t 28))⟩] ⟨false,[],[]⟩)
  (.seq (.ops [
   ⟨(some 29),none,(.mv (.t 9))⟩,
   ⟨(some 30),none,(.len 1 (.t 29))⟩,
   ⟨(some 31),none,(.mv (.t 1))⟩,
   ⟨(some 32),none,(.bin .sub (.t 30) (.t 31))⟩,
   ⟨(some 33),none,(.mx (.t 32) (.c (.int .i64 0)))⟩,
   ⟨(some 10),none,(.mv (.t 33))⟩] ⟨true,[24,23,22,10,9,8,5,4,1],[]⟩)
  (.seq (.ops [
   ⟨(some 34),none,(.mv (.t 5))⟩,
   ⟨(some 35),none,(.mv (.t 9))⟩,
   ⟨(some 36),none,(.mv (.t 10))⟩,
   ⟨(some 37),none,(.slice 1 (.t 35) none (some (.t 36)) none)⟩,
   ⟨(some 38),none,(.app [(.str [])] 16 false (.t 34) (.t 37))⟩,
   ⟨(some 5),none,(.mv (.t 38))⟩] ⟨false,[],[]⟩)
  (.draw [
   ⟨(some 39),none,(.load 2 true (.t 4))⟩,
   ⟨(some 40),none,(.mv (.t 8))⟩,
   ⟨(some 41),none,(.mv (.t 9))⟩,
   ⟨(some 42),none,(.mv (.t 10))⟩,
   ⟨(some 43),none,(.slice 1 (.t 41) (some (.t 42)) none none)⟩,
   ⟨(some 44),none,(.call 38 [(.t 39),(.t 40),(.t 43)])⟩,
   ⟨none,none,(.store 2 (.t 4) (.t 44))⟩] [] ⟨false,[],[]⟩)))) ⟨false,[],[]⟩)
 (.ops [
  ⟨(some 45),none,(.bin .add (.t 24) (.c (.int .i64 1)))⟩,
  ⟨(some 24),none,(.mv (.t 45))⟩] ⟨false,[],[]⟩))))
def w33_L0:WCode:=.loop ⟨true,[24,23,22,5,4,1],[]⟩ w33_B0
def w33:WFn:=⟨2,[.cell 4 2 true,.tmp 5,.tmp 6],
 (.seq (.ops [
  ⟨(some 2),none,(.box (.t 0))⟩,
  ⟨(some 4),none,(.alloc [(.ro 1 [] true),(.ro 1 [] true)])⟩,
  ⟨(some 5),none,(.mv (.c (.ro 1 [] true)))⟩,
  ⟨(some 6),none,(.mv (.c (.int .i64 0)))⟩] ⟨true,[5,4,2,1],[(5,1)]⟩)
  (.seq (.seq (.ops [
   ⟨(some 11),none,(.load 2 true (.t 2))⟩,
   ⟨(some 12),none,(.call 36 [(.t 11)])⟩,
   ⟨(some 7),none,(.mv (.t 12))⟩] ⟨false,[],[]⟩)
   (.seq (.ops [
    ⟨(some 13),none,(.mv (.t 7))⟩,
    ⟨(some 14),none,(.bin .neq (.t 13) (.c (.int .i64 0)))⟩] ⟨true,[14,7,5,4,2,1],[]⟩)
   (.cond (.t 14) (.seq (.ops [
    ⟨(some 15),none,(.build [(.ro 1 [] true),(.ro 1 [] true)] [])⟩,
    ⟨(some 16),none,(.mv (.t 7))⟩,
    ⟨none,none,(.store 2 (.t 4) (.t 15))⟩,
    ⟨(some 5),none,(.mv (.c (.ro 1 [] true)))⟩,
    ⟨(some 6),none,(.mv (.t 16))⟩] ⟨false,[],[]⟩)
    .ret)
    .skip)))
  (.seq (.seq (.ops [
   ⟨(some 17),none,(.mv (.t 1))⟩,
   ⟨(some 18),none,(.bin .lss (.t 17) (.c (.int .i64 0)))⟩] ⟨false,[],[]⟩)
   (.cond (.t 18) (.seq (.ops [
    ⟨(some 19),none,(.build [(.ro 1 [] true),(.ro 1 [] true)] [])⟩,
    ⟨none,none,(.store 2 (.t 4) (.t 19))⟩,
    ⟨(some 5),none,(.mv (.c (.ro 1 [] true)))⟩,
    ⟨(some 6),none,(.mv (.c (.int .i64 4)))⟩] ⟨false,[],[]⟩)
    .ret)
    .skip))
  (.seq (.ops [
   ⟨(some 20),none,(.load 2 true (.t 2))⟩,
   ⟨none,none,(.store 2 (.t 4) (.t 20))⟩] ⟨false,[],[]⟩)
  (.seq (.seq (.ops [
   ⟨(some 21),none,(.fld 1 (.t 2))⟩,
   ⟨(some 22),none,(.load 1 false (.t 21))⟩,
   ⟨(some 23),none,(.len 1 (.t 22))⟩,
   ⟨(some 24),none,(.mv (.c (.int .i64 0)))⟩] ⟨false,[],[]⟩)
   (.block 0 w33_L0 ⟨true,[5,4],[]⟩))
  w33_c0)))))⟩
@[simp] theorem w33_E0 {β:Type} {C:WProg} {b:Nat} {f:Ex × WSt→Option β} {k:List Pw.Frame} {s:WSt}:CK C b f k w33_L0 s=LK C b f (.sq w33_L0::k) w33_B0 (canon b ⟨true,[24,23,22,5,4,1],[]⟩ s):=ck_lp rfl
def w34:WFn:=⟨1,[.tmp 2,.tmp 3],
 (.seq (.ops [
  ⟨(some 1),none,(.box (.t 0))⟩,
  ⟨(some 2),none,(.mv (.c (.ro 1 [] true)))⟩,
  ⟨(some 3),none,(.mv (.c (.int .i64 0)))⟩] ⟨false,[],[]⟩)
  (.seq (.seq (.ops [
   ⟨(some 5),none,(.load 2 true (.t 1))⟩,
   ⟨(some 6),none,(.call 36 [(.t 5)])⟩,
   ⟨(some 4),none,(.mv (.t 6))⟩] ⟨false,[],[]⟩)
   (.seq (.ops [
    ⟨(some 7),none,(.mv (.t 4))⟩,
    ⟨(some 8),none,(.bin .neq (.t 7) (.c (.int .i64 0)))⟩] ⟨false,[],[]⟩)
   (.cond (.t 8) (.seq (.ops [
    ⟨(some 9),none,(.mv (.t 4))⟩,
    ⟨(some 2),none,(.mv (.c (.ro 1 [] true)))⟩,
    ⟨(some 3),none,(.mv (.t 9))⟩] ⟨false,[],[]⟩)
    .ret)
    .skip)))
  (.seq (.ops [
   ⟨(some 10),none,(.fld 1 (.t 1))⟩,
   ⟨(some 11),none,(.load 1 false (.t 10))⟩,
   ⟨(some 12),none,(.call 40 [(.t 11)])⟩,
   ⟨(some 13),none,(.call 39 [(.t 12)])⟩,
   ⟨(some 2),none,(.mv (.t 13))⟩,
   ⟨(some 3),none,(.mv (.c (.int .i64 0)))⟩] ⟨false,[],[]⟩)
  .ret)))⟩
def w35:WFn:=⟨2,[.tmp 4],
 (.seq (.ops [
  ⟨(some 4),none,(.mv (.c (.ro 1 [] true)))⟩] ⟨false,[],[]⟩)
  (.seq (.seq (.ops [
   ⟨(some 5),none,(.mv (.t 1))⟩,
   ⟨(some 6),none,(.bin .lss (.t 5) (.c (.int .i64 0)))⟩] ⟨false,[],[]⟩)
   (.cond (.t 6) (.ops [
    ⟨(some 7),none,.fail⟩,
    ⟨none,none,.fail⟩] ⟨true,[1,0],[]⟩)
    .skip))
  (.seq (.seq (.ops [
   ⟨(some 8),none,(.mv (.t 1))⟩,
   ⟨(some 9),none,(.mv (.t 0))⟩,
   ⟨(some 10),none,(.cap (.t 9))⟩,
   ⟨(some 11),none,(.mv (.t 0))⟩,
   ⟨(some 12),none,(.len 1 (.t 11))⟩,
   ⟨(some 13),none,(.bin .sub (.t 10) (.t 12))⟩,
   ⟨(some 14),none,(.bin .sub (.t 8) (.t 13))⟩,
   ⟨(some 1),none,(.mv (.t 14))⟩] ⟨false,[],[]⟩)
   (.seq (.ops [
    ⟨(some 15),none,(.mv (.t 1))⟩,
    ⟨(some 16),none,(.bin .gtr (.t 15) (.c (.int .i64 0)))⟩] ⟨false,[],[]⟩)
   (.cond (.t 16) (.ops [
    ⟨(some 17),none,(.mv (.t 0))⟩,
    ⟨(some 18),none,(.mv (.t 0))⟩,
    ⟨(some 19),none,(.cap (.t 18))⟩,
    ⟨(some 20),none,(.slice 1 (.t 17) none (some (.t 19)) none)⟩,
    ⟨(some 21),none,(.mv (.t 1))⟩,
    ⟨(some 22),none,(.app [(.int .i64 0)] 8 true (.t 20) (.t 21))⟩,
    ⟨(some 23),none,(.mv (.t 0))⟩,
    ⟨(some 24),none,(.len 1 (.t 23))⟩,
    ⟨(some 25),none,(.slice 1 (.t 22) none (some (.t 24)) none)⟩,
    ⟨(some 0),none,(.mv (.t 25))⟩] ⟨false,[],[]⟩)
    .skip)))
  (.seq (.ops [
   ⟨(some 26),none,(.mv (.t 0))⟩,
   ⟨(some 4),none,(.mv (.t 26))⟩] ⟨false,[],[]⟩)
  .ret))))⟩
def w36_c0:WCode:=(.seq (.ops [
 ⟨(some 2),none,(.mv (.c (.int .i64 0)))⟩] ⟨false,[],[]⟩)
 .ret)
def w36_B0:WCode:=(.seq (.ops [
 ⟨(some 26),none,(.bin .lss (.t 25) (.t 24))⟩] ⟨false,[],[]⟩)
 (.seq (.cond (.t 26) .skip
  (.exit 0))
 (.seq (.block 1 (.seq (.ops [
  ⟨(some 27),none,(.mv (.t 25))⟩,
  ⟨(some 28),none,(.idxs 1 (.t 23) (.t 25))⟩,
  ⟨(some 29),none,(.load 1 false (.t 28))⟩,
  ⟨(some 4),none,(.mv (.t 27))⟩,
  ⟨(some 5),none,(.mv (.t 29))⟩] ⟨true,[25,24,23,5,4,1],[]⟩)
  (.seq (.ops [
   ⟨(some 30),none,(.mv (.t 5))⟩,
   ⟨(some 31),none,(.bin .lss (.t 30) (.c (.int .i64 0)))⟩,
   ⟨(some 32),none,(.mv (.t 31))⟩,
   ⟨(some 33),(some (32,false)),(.mv (.t 5))⟩,
   ⟨(some 34),(some (32,false)),(.bin .gtr (.t 33) (.c (.int .i64 65536)))⟩,
   ⟨(some 35),none,(.pick (.t 32) (.c (.bool true)) (.t 34))⟩,
   ⟨(some 36),none,(.mv (.t 35))⟩,
   ⟨(some 37),(some (36,false)),(.fld 1 (.t 1))⟩,
   ⟨(some 38),(some (36,false)),(.load 1 false (.t 37))⟩,
   ⟨(some 39),(some (36,false)),(.mv (.t 4))⟩,
   ⟨(some 40),(some (36,false)),(.idxs 1 (.t 38) (.t 39))⟩,
   ⟨(some 41),(some (36,false)),(.load 1 false (.t 40))⟩,
   ⟨(some 42),(some (36,false)),(.len 1 (.t 41))⟩,
   ⟨(some 43),(some (36,false)),(.mv (.t 5))⟩,
   ⟨(some 44),(some (36,false)),(.bin .gtr (.t 42) (.t 43))⟩,
   ⟨(some 45),none,(.pick (.t 36) (.c (.bool true)) (.t 44))⟩] ⟨false,[],[]⟩)
  (.cond (.t 45) (.seq (.ops [
   ⟨(some 2),none,(.mv (.c (.int .i64 1)))⟩] ⟨false,[],[]⟩)
   .ret)
   .skip))) ⟨false,[],[]⟩)
 (.ops [
  ⟨(some 46),none,(.bin .add (.t 25) (.c (.int .i64 1)))⟩,
  ⟨(some 25),none,(.mv (.t 46))⟩] ⟨false,[],[]⟩))))
def w36_L0:WCode:=.loop ⟨true,[25,24,23,1],[]⟩ w36_B0
def w36:WFn:=⟨1,[.tmp 2],
 (.seq (.ops [
  ⟨(some 1),none,(.box (.t 0))⟩,
  ⟨(some 2),none,(.mv (.c (.int .i64 0)))⟩] ⟨true,[1],[]⟩)
  (.seq (.ops [
   ⟨(some 6),none,(.fld 0 (.t 1))⟩,
   ⟨(some 7),none,(.load 1 false (.t 6))⟩,
   ⟨(some 8),none,(.len 1 (.t 7))⟩,
   ⟨(some 3),none,(.mv (.t 8))⟩] ⟨false,[],[]⟩)
  (.seq (.seq (.ops [
   ⟨(some 9),none,(.mv (.t 3))⟩,
   ⟨(some 10),none,(.bin .lss (.t 9) (.c (.int .i64 1)))⟩,
   ⟨(some 11),none,(.mv (.t 10))⟩,
   ⟨(some 12),(some (11,false)),(.mv (.t 3))⟩,
   ⟨(some 13),(some (11,false)),(.bin .gtr (.t 12) (.c (.int .i64 8)))⟩,
   ⟨(some 14),none,(.pick (.t 11) (.c (.bool true)) (.t 13))⟩,
   ⟨(some 15),none,(.mv (.t 14))⟩,
   ⟨(some 16),(some (15,false)),(.fld 1 (.t 1))⟩,
   ⟨(some 17),(some (15,false)),(.load 1 false (.t 16))⟩,
   ⟨(some 18),(some (15,false)),(.len 1 (.t 17))⟩,
   ⟨(some 19),(some (15,false)),(.mv (.t 3))⟩,
   ⟨(some 20),(some (15,false)),(.bin .neq (.t 18) (.t 19))⟩,
   ⟨(some 21),none,(.pick (.t 15) (.c (.bool true)) (.t 20))⟩] ⟨false,[],[]⟩)
   (.cond (.t 21) (.seq (.ops [
    ⟨(some 2),none,(.mv (.c (.int .i64 1)))⟩] ⟨false,[],[]⟩)
    .ret)
    .skip))
  (.seq (.seq (.ops [
   ⟨(some 22),none,(.fld 0 (.t 1))⟩,
   ⟨(some 23),none,(.load 1 false (.t 22))⟩,
   ⟨(some 24),none,(.len 1 (.t 23))⟩,
   ⟨(some 25),none,(.mv (.c (.int .i64 0)))⟩] ⟨false,[],[]⟩)
   (.block 0 w36_L0 ⟨true,[],[]⟩))
  w36_c0))))⟩
@[simp] theorem w36_E0 {β:Type} {C:WProg} {b:Nat} {f:Ex × WSt→Option β} {k:List Pw.Frame} {s:WSt}:CK C b f k w36_L0 s=LK C b f (.sq w36_L0::k) w36_B0 (canon b ⟨true,[25,24,23,1],[]⟩ s):=ck_lp rfl
def w37:WFn:=⟨2,[.tmp 4],
 (.seq (.ops [
  ⟨(some 2),none,(.box (.t 0))⟩,
  ⟨(some 4),none,(.mv (.c (.int .i64 0)))⟩] ⟨false,[],[]⟩)
  (.seq (.seq (.ops [
   ⟨(some 6),none,(.load 2 true (.t 2))⟩,
   ⟨(some 7),none,(.call 36 [(.t 6)])⟩,
   ⟨(some 5),none,(.mv (.t 7))⟩] ⟨false,[],[]⟩)
   (.seq (.ops [
    ⟨(some 8),none,(.mv (.t 5))⟩,
    ⟨(some 9),none,(.bin .neq (.t 8) (.c (.int .i64 0)))⟩] ⟨false,[],[]⟩)
   (.cond (.t 9) (.seq (.ops [
    ⟨(some 10),none,(.mv (.t 5))⟩,
    ⟨(some 4),none,(.mv (.t 10))⟩] ⟨false,[],[]⟩)
    .ret)
    .skip)))
  (.seq (.seq (.ops [
   ⟨(some 11),none,(.mv (.t 1))⟩,
   ⟨(some 12),none,(.bin .lss (.t 11) (.c (.int .i64 0)))⟩,
   ⟨(some 13),none,(.mv (.t 12))⟩,
   ⟨(some 14),(some (13,false)),(.mv (.t 1))⟩,
   ⟨(some 15),(some (13,false)),(.fld 0 (.t 2))⟩,
   ⟨(some 16),(some (13,false)),(.load 1 false (.t 15))⟩,
   ⟨(some 17),(some (13,false)),(.len 1 (.t 16))⟩,
   ⟨(some 18),(some (13,false)),(.bin .geq (.t 14) (.t 17))⟩,
   ⟨(some 19),none,(.pick (.t 13) (.c (.bool true)) (.t 18))⟩] ⟨false,[],[]⟩)
   (.cond (.t 19) (.seq (.ops [
    ⟨(some 4),none,(.mv (.c (.int .i64 4)))⟩] ⟨false,[],[]⟩)
    .ret)
    .skip))
  (.seq (.ops [
   ⟨(some 4),none,(.mv (.c (.int .i64 0)))⟩] ⟨false,[],[]⟩)
  .ret))))⟩
def w38_c0:WCode:=(.seq (.ops [
 ⟨(some 37),none,(.load 2 true (.t 7))⟩,
 ⟨none,none,(.store 2 (.t 6) (.t 37))⟩] ⟨false,[],[]⟩)
 .ret)
def w38_B0:WCode:=(.seq (.ops [
 ⟨(some 22),none,(.bin .lss (.t 21) (.t 20))⟩] ⟨false,[],[]⟩)
 (.seq (.cond (.t 22) .skip
  (.exit 0))
 (.seq (.block 1 (.seq (.ops [
  ⟨(some 23),none,(.mv (.t 21))⟩,
  ⟨(some 24),none,(.idxs 1 (.t 19) (.t 21))⟩,
  ⟨(some 25),none,(.load 1 false (.t 24))⟩,
  ⟨(some 8),none,(.mv (.t 23))⟩,
  ⟨(some 9),none,(.mv (.t 25))⟩] ⟨false,[],[]⟩)
  (.seq (.seq (.ops [
   ⟨(some 26),none,(.mv (.t 8))⟩,
   ⟨(some 27),none,(.mv (.t 1))⟩,
   ⟨(some 28),none,(.bin .eql (.t 26) (.t 27))⟩] ⟨false,[],[]⟩)
   (.cond (.t 28) (.ops [
    ⟨(some 29),none,(.mv (.t 2))⟩,
    ⟨(some 9),none,(.mv (.t 29))⟩] ⟨false,[],[]⟩)
    .skip))
  (.draw [
   ⟨(some 30),none,(.fld 1 (.t 7))⟩,
   ⟨(some 31),none,(.load 1 false (.t 30))⟩,
   ⟨(some 32),none,(.mv (.t 8))⟩,
   ⟨(some 33),none,(.mv (.t 9))⟩,
   ⟨(some 34),none,(.call 41 [(.t 33)])⟩,
   ⟨(some 35),none,(.idxs 1 (.t 31) (.t 32))⟩,
   ⟨none,none,(.store 1 (.t 35) (.t 34))⟩] [(1,4)] ⟨false,[],[]⟩))) ⟨false,[],[]⟩)
 (.ops [
  ⟨(some 36),none,(.bin .add (.t 21) (.c (.int .i64 1)))⟩,
  ⟨(some 21),none,(.mv (.t 36))⟩] ⟨false,[],[]⟩))))
def w38_L0:WCode:=.loop ⟨true,[21,20,19,7,6,2,1],[]⟩ w38_B0
def w38:WFn:=⟨3,[.cell 6 2 true],
 (.seq (.ops [
  ⟨(some 3),none,(.box (.t 0))⟩,
  ⟨(some 6),none,(.alloc [(.ro 1 [] true),(.ro 1 [] true)])⟩] ⟨false,[],[]⟩)
  (.seq (.draw [
   ⟨(some 10),none,(.fld 0 (.t 3))⟩,
   ⟨(some 11),none,(.load 1 false (.t 10))⟩,
   ⟨(some 12),none,(.call 21 [(.t 11)])⟩,
   ⟨(some 13),none,(.fld 1 (.t 3))⟩,
   ⟨(some 14),none,(.load 1 false (.t 13))⟩,
   ⟨(some 15),none,(.len 1 (.t 14))⟩,
   ⟨(some 16),none,(.mksl [(.ro 1 [] true)] 24 (.t 15) (.t 15))⟩,
   ⟨(some 17),none,(.build [(.ro 1 [] true),(.ro 1 [] true)] [(0,1,(.t 12)),(1,1,(.t 16))])⟩,
   ⟨(some 7),none,(.alloc [(.ro 1 [] true),(.ro 1 [] true)])⟩,
   ⟨none,none,(.store 2 (.t 7) (.t 17))⟩] [(2,4),(2,5),(1,6),(2,6),(1,8),(2,8),(4,8),(5,8),(6,8)] ⟨false,[],[]⟩)
  (.seq (.seq (.ops [
   ⟨(some 18),none,(.fld 1 (.t 3))⟩,
   ⟨(some 19),none,(.load 1 false (.t 18))⟩,
   ⟨(some 20),none,(.len 1 (.t 19))⟩,
   ⟨(some 21),none,(.mv (.c (.int .i64 0)))⟩] ⟨true,[21,20,19,7,6,2,1],[]⟩)
   (.block 0 w38_L0 ⟨true,[7,6],[]⟩))
  w38_c0)))⟩
@[simp] theorem w38_E0 {β:Type} {C:WProg} {b:Nat} {f:Ex × WSt→Option β} {k:List Pw.Frame} {s:WSt}:CK C b f k w38_L0 s=LK C b f (.sq w38_L0::k) w38_B0 (canon b ⟨true,[21,20,19,7,6,2,1],[]⟩ s):=ck_lp rfl
def w39:WFn:=⟨1,[.tmp 2],
 (.seq (.ops [
  ⟨(some 2),none,(.mv (.c (.ro 1 [] true)))⟩] ⟨false,[],[]⟩)
  (.seq (.ops [
   ⟨(some 3),none,(.mv (.t 0))⟩,
   ⟨(some 4),none,(.mv (.t 0))⟩,
   ⟨(some 5),none,(.len 1 (.t 4))⟩,
   ⟨(some 6),none,(.mv (.t 0))⟩,
   ⟨(some 7),none,(.len 1 (.t 6))⟩,
   ⟨(some 8),none,(.slice 1 (.t 3) none (some (.t 5)) (some (.t 7)))⟩,
   ⟨(some 2),none,(.mv (.t 8))⟩] ⟨false,[],[]⟩)
  .ret))⟩
def w40_c0:WCode:=(.seq (.ops [
 ⟨(some 35),none,(.mv (.t 6))⟩,
 ⟨(some 2),none,(.mv (.t 35))⟩] ⟨false,[],[]⟩)
 .ret)
def w40_B0:WCode:=(.seq (.ops [
 ⟨(some 28),none,(.bin .lss (.t 27) (.t 26))⟩] ⟨false,[],[]⟩)
 (.seq (.cond (.t 28) .skip
  (.exit 2))
 (.seq (.block 3 (.seq (.ops [
  ⟨(some 29),none,(.idxs 1 (.t 25) (.t 27))⟩,
  ⟨(some 30),none,(.load 1 false (.t 29))⟩,
  ⟨(some 8),none,(.mv (.t 30))⟩] ⟨false,[],[]⟩)
  (.ops [
   ⟨(some 31),none,(.mv (.t 6))⟩,
   ⟨(some 32),none,(.mv (.t 8))⟩,
   ⟨(some 33),none,(.app [(.str [])] 16 false (.t 31) (.t 32))⟩,
   ⟨(some 6),none,(.mv (.t 33))⟩] ⟨false,[],[]⟩)) ⟨false,[],[]⟩)
 (.ops [
  ⟨(some 34),none,(.bin .add (.t 27) (.c (.int .i64 1)))⟩,
  ⟨(some 27),none,(.mv (.t 34))⟩] ⟨false,[],[]⟩))))
def w40_L0:WCode:=.loop ⟨true,[27,26,25,6],[]⟩ w40_B0
def w40_c1:WCode:=(.seq (.ops [
 ⟨(some 23),none,(.mv (.t 3))⟩,
 ⟨(some 24),none,(.call 42 [(.c (.ro 1 [] true)),(.t 23)])⟩,
 ⟨(some 6),none,(.mv (.t 24))⟩] ⟨false,[],[]⟩)
 (.seq (.seq (.ops [
  ⟨(some 25),none,(.mv (.t 0))⟩,
  ⟨(some 26),none,(.len 1 (.t 25))⟩,
  ⟨(some 27),none,(.mv (.c (.int .i64 0)))⟩] ⟨false,[],[]⟩)
  (.block 2 w40_L0 ⟨true,[6],[]⟩))
 w40_c0))
def w40_B1:WCode:=(.seq (.ops [
 ⟨(some 12),none,(.bin .lss (.t 11) (.t 10))⟩] ⟨false,[],[]⟩)
 (.seq (.cond (.t 12) .skip
  (.exit 0))
 (.seq (.block 1 (.seq (.ops [
  ⟨(some 13),none,(.idxs 1 (.t 9) (.t 11))⟩,
  ⟨(some 14),none,(.load 1 false (.t 13))⟩,
  ⟨(some 5),none,(.mv (.t 14))⟩] ⟨false,[],[]⟩)
  (.seq (.ops [
   ⟨(some 15),none,(.mv (.t 3))⟩,
   ⟨(some 16),none,(.mv (.t 5))⟩,
   ⟨(some 17),none,(.len 1 (.t 16))⟩,
   ⟨(some 18),none,(.bin .add (.t 15) (.t 17))⟩,
   ⟨(some 3),none,(.mv (.t 18))⟩] ⟨false,[],[]⟩)
  (.seq (.ops [
   ⟨(some 19),none,(.mv (.t 3))⟩,
   ⟨(some 20),none,(.bin .lss (.t 19) (.c (.int .i64 0)))⟩] ⟨true,[20,11,10,9,3,0],[]⟩)
  (.cond (.t 20) (.ops [
   ⟨(some 21),none,.fail⟩,
   ⟨none,none,.fail⟩] ⟨false,[],[]⟩)
   .skip)))) ⟨false,[],[]⟩)
 (.ops [
  ⟨(some 22),none,(.bin .add (.t 11) (.c (.int .i64 1)))⟩,
  ⟨(some 11),none,(.mv (.t 22))⟩] ⟨false,[],[]⟩))))
def w40_L1:WCode:=.loop ⟨true,[11,10,9,3,0],[]⟩ w40_B1
def w40:WFn:=⟨1,[.tmp 2],
 (.seq (.ops [
  ⟨(some 2),none,(.mv (.c (.ro 1 [] true)))⟩] ⟨false,[],[]⟩)
  (.seq (.ops [
   ⟨(some 3),none,(.mv (.c (.int .i64 0)))⟩] ⟨false,[],[]⟩)
  (.seq (.seq (.ops [
   ⟨(some 9),none,(.mv (.t 0))⟩,
   ⟨(some 10),none,(.len 1 (.t 9))⟩,
   ⟨(some 11),none,(.mv (.c (.int .i64 0)))⟩] ⟨false,[],[]⟩)
   (.block 0 w40_L1 ⟨true,[3,0],[]⟩))
  w40_c1)))⟩
@[simp] theorem w40_E0 {β:Type} {C:WProg} {b:Nat} {f:Ex × WSt→Option β} {k:List Pw.Frame} {s:WSt}:CK C b f k w40_L0 s=LK C b f (.sq w40_L0::k) w40_B0 (canon b ⟨true,[27,26,25,6],[]⟩ s):=ck_lp rfl
@[simp] theorem w40_E1 {β:Type} {C:WProg} {b:Nat} {f:Ex × WSt→Option β} {k:List Pw.Frame} {s:WSt}:CK C b f k w40_L1 s=LK C b f (.sq w40_L1::k) w40_B1 (canon b ⟨true,[11,10,9,3,0],[]⟩ s):=ck_lp rfl
def w41:WFn:=⟨1,[.tmp 2],
 (.seq (.ops [
  ⟨(some 2),none,(.mv (.c (.ro 1 [] true)))⟩] ⟨false,[],[]⟩)
  (.seq (.ops [
   ⟨(some 4),none,(.mv (.t 0))⟩,
   ⟨(some 5),none,(.len 1 (.t 4))⟩,
   ⟨(some 6),none,(.mksl [(.str [])] 16 (.t 5) (.t 5))⟩,
   ⟨(some 3),none,(.mv (.t 6))⟩] ⟨false,[],[]⟩)
  (.seq (.ops [
   ⟨(some 7),none,(.mv (.t 3))⟩,
   ⟨(some 8),none,(.mv (.t 0))⟩,
   ⟨(some 9),none,(.cpy 1 (.t 7) (.t 8))⟩] ⟨false,[],[]⟩)
  (.seq (.ops [
   ⟨(some 10),none,(.mv (.t 3))⟩,
   ⟨(some 2),none,(.mv (.t 10))⟩] ⟨false,[],[]⟩)
  .ret))))⟩
def w42:WFn:=⟨2,[.tmp 4],
 (.seq (.ops [
  ⟨(some 4),none,(.mv (.c (.ro 1 [] true)))⟩] ⟨false,[],[]⟩)
  (.seq (.seq (.ops [
   ⟨(some 5),none,(.mv (.t 1))⟩,
   ⟨(some 6),none,(.bin .lss (.t 5) (.c (.int .i64 0)))⟩] ⟨false,[],[]⟩)
   (.cond (.t 6) (.ops [
    ⟨(some 7),none,.fail⟩,
    ⟨none,none,.fail⟩] ⟨true,[1,0],[]⟩)
    .skip))
  (.seq (.seq (.ops [
   ⟨(some 8),none,(.mv (.t 1))⟩,
   ⟨(some 9),none,(.mv (.t 0))⟩,
   ⟨(some 10),none,(.cap (.t 9))⟩,
   ⟨(some 11),none,(.mv (.t 0))⟩,
   ⟨(some 12),none,(.len 1 (.t 11))⟩,
   ⟨(some 13),none,(.bin .sub (.t 10) (.t 12))⟩,
   ⟨(some 14),none,(.bin .sub (.t 8) (.t 13))⟩,
   ⟨(some 1),none,(.mv (.t 14))⟩] ⟨false,[],[]⟩)
   (.seq (.ops [
    ⟨(some 15),none,(.mv (.t 1))⟩,
    ⟨(some 16),none,(.bin .gtr (.t 15) (.c (.int .i64 0)))⟩] ⟨false,[],[]⟩)
   (.cond (.t 16) (.ops [
    ⟨(some 17),none,(.mv (.t 0))⟩,
    ⟨(some 18),none,(.mv (.t 0))⟩,
    ⟨(some 19),none,(.cap (.t 18))⟩,
    ⟨(some 20),none,(.slice 1 (.t 17) none (some (.t 19)) none)⟩,
    ⟨(some 21),none,(.mv (.t 1))⟩,
    ⟨(some 22),none,(.app [(.str [])] 16 true (.t 20) (.t 21))⟩,
    ⟨(some 23),none,(.mv (.t 0))⟩,
    ⟨(some 24),none,(.len 1 (.t 23))⟩,
    ⟨(some 25),none,(.slice 1 (.t 22) none (some (.t 24)) none)⟩,
    ⟨(some 0),none,(.mv (.t 25))⟩] ⟨false,[],[]⟩)
    .skip)))
  (.seq (.ops [
   ⟨(some 26),none,(.mv (.t 0))⟩,
   ⟨(some 4),none,(.mv (.t 26))⟩] ⟨false,[],[]⟩)
  .ret))))⟩
def tree:WTree:=(.node (.node (.node (.node (.node (.node .leaf 0 w0 .leaf) 1 w1 .leaf) 5 w5 (.node (.node .leaf 6 w6 .leaf) 7 w7 .leaf)) 8 w8 (.node (.node (.node .leaf 9 w9 .leaf) 10 w10 .leaf) 11 w11 (.node .leaf 12 w12 .leaf))) 13 w13 (.node (.node (.node (.node .leaf 14 w14 .leaf) 15 w15 .leaf) 16 w16 (.node .leaf 17 w17 .leaf)) 18 w18 (.node (.node (.node .leaf 20 w20 .leaf) 21 w21 .leaf) 22 w22 (.node .leaf 23 w23 .leaf)))) 24 w24 (.node (.node (.node (.node (.node .leaf 25 w25 .leaf) 26 w26 .leaf) 27 w27 (.node (.node .leaf 28 w28 .leaf) 29 w29 .leaf)) 30 w30 (.node (.node (.node .leaf 31 w31 .leaf) 32 w32 .leaf) 33 w33 (.node .leaf 34 w34 .leaf))) 35 w35 (.node (.node (.node (.node .leaf 36 w36 .leaf) 37 w37 .leaf) 38 w38 (.node .leaf 39 w39 .leaf)) 40 w40 (.node (.node (.node .leaf 41 w41 .leaf) 42 w42 .leaf) 2007 w7 (.node .leaf 2027 w2027 .leaf)))))
def ids:List (Nat × Nat):=[(0,2),(1,3),(5,4),(6,5),(7,6),(8,7),(9,8),(10,9),(11,10),(12,11),(13,12),(14,13),(15,14),(16,15),(17,16),(18,17),(20,19),(21,18),(22,20),(23,21),(24,22),(25,23),(26,24),(27,25),(28,26),(29,27),(30,28),(31,29),(32,30),(33,31),(34,32),(35,33),(36,34),(37,35),(38,36),(39,37),(40,38),(41,39),(42,40),(2007,6),(2027,25)]
def alts:List (Nat × Nat × Nat):=[(2027,6,2007),(22,25,2027),(23,25,2027),(13,25,2027)]
end P21
end
section
set_option linter.unusedSimpArgs false
set_option linter.unusedVariables false
namespace Go.Pav
open Go
def phiOf (ids:List (Nat × Nat)) (f:FuncId):Option Nat :=
 match ids with
 | []=>none
 | (g,k)::r=>if k=f then some g else phiOf r f
def psiOf (ids:List (Nat × Nat)) (g:Nat):FuncId :=
 match get ids g with
 | some k=>k
 | none=>0
theorem phiOf_mem:∀ {ids:List (Nat × Nat)} {f:FuncId} {g:Nat},phiOf ids f=some g→(g,f) ∈ ids:=by
 intro ids
 induction ids with
 | nil=>intro f g h;simp [phiOf] at h
 | cons x r ih =>
  intro f g h
  obtain ⟨a,k⟩:=x
  simp only [phiOf] at h
  split at h
  · rename_i hk
    cases h;subst hk;exact List.mem_cons_self
  · exact List.mem_cons_of_mem _ (ih h)
theorem psi_phi {ids:List (Nat × Nat)} (hc:(ids.all fun x=>decide (psiOf ids x.1=x.2))=true):∀ f g,phiOf ids f=some g→psiOf ids g=f:=by
 intro f g h
 have:=List.all_eq_true.1 hc _ (phiOf_mem h)
 simpa using this
def TreeAll (p:Nat→CFn→Prop):Tree→Prop
 | .leaf=>True
 | .node l k f r=>TreeAll p l∧p k f∧TreeAll p r
theorem TreeAll.get {p:Nat→CFn→Prop}:∀ {t:Tree},TreeAll p t→∀ {g:Nat} {cf:CFn},t.get g=some cf→p g cf:=by
 intro t
 induction t with
 | leaf=>intro _ g cf h;simp [Tree.get] at h
 | node l k f r ihl ihr =>
  intro ⟨h1,h2,h3⟩ g cf h
  simp only [Tree.get] at h
  split at h
  · rename_i hk;cases h;subst hk;exact h2
  · split at h
    · exact ihl h1 h
    · exact ihr h3 h
def altOf:List (Nat × FuncId × Nat)→Nat→FuncId→Option Nat
 | [],_,_=>none
 | (g,f,k)::r,g',f'=>if g=g'∧f=f' then some k else altOf r g' f'
theorem altOf_mem:∀ {alts:List (Nat × FuncId × Nat)} {g:Nat} {f:FuncId} {k:Nat},altOf alts g f=some k→(g,f,k) ∈ alts:=by
 intro alts
 induction alts with
 | nil=>intro g f k h;simp [altOf] at h
 | cons x r ih =>
  intro g f k h
  obtain ⟨a,b,c⟩:=x
  simp only [altOf] at h
  split at h
  · rename_i hk
    obtain ⟨rfl,rfl⟩:=hk
    cases h;exact List.mem_cons_self
  · exact List.mem_cons_of_mem _ (ih h)
def phiG (ids:List (Nat × Nat)) (alts:List (Nat × FuncId × Nat)) (g:Nat) (f:FuncId):Option Nat :=
 match altOf alts g f with
 | some k=>some k
 | none=>phiOf ids f
def FnOk (P:Program) (ids:List (Nat × Nat)) (alts:List (Nat × FuncId × Nat)) (g:Nat) (cf:CFn):Prop:=∃ fn,P.funcs[psiOf ids g]?=some fn∧(cFn P (phiG ids alts g) fn).map stripF=some (stripF cf)
theorem linked {P:Program} {ids:List (Nat × Nat)} {alts:List (Nat × FuncId × Nat)} {C:Prog} (hc:(ids.all fun x=>decide (psiOf ids x.1=x.2))=true) (ha:(alts.all fun x=>decide (psiOf ids x.2.2=x.2.1))=true)
 (ht:TreeAll (FnOk P ids alts) C.fns) (hm:P.follows .mixedOrders=true):Linked P (phiG ids alts) (psiOf ids) C:=by
 refine ⟨fun g f k h=>?_,fun _ _ h=>ht.get h,hm⟩
 unfold phiG at h
 split at h
 · rename_i k' hk
   cases h
   simpa using List.all_eq_true.1 ha _ (altOf_mem hk)
 · exact psi_phi hc _ _ h
end Go.Pav
end
section
set_option linter.unusedSimpArgs false
set_option linter.unusedVariables false
set_option maxRecDepth 100000
namespace P21
open Go Go.Pav Go.Pw Go.Proofs
theorem l0:FnOk Try.prog ids alts 0 (erFn w0):=⟨Try.f2,Try.func2,by kernel_rfl⟩
theorem l1:FnOk Try.prog ids alts 1 (erFn w1):=⟨Try.f3,Try.func3,by kernel_rfl⟩
theorem l5:FnOk Try.prog ids alts 5 (erFn w5):=⟨Try.f4,Try.func4,by kernel_rfl⟩
theorem l6:FnOk Try.prog ids alts 6 (erFn w6):=⟨Try.f5,Try.func5,by kernel_rfl⟩
theorem l7:FnOk Try.prog ids alts 7 (erFn w7):=⟨Try.f6,Try.func6,by kernel_rfl⟩
theorem l8:FnOk Try.prog ids alts 8 (erFn w8):=⟨Try.f7,Try.func7,by kernel_rfl⟩
theorem l9:FnOk Try.prog ids alts 9 (erFn w9):=⟨Try.f8,Try.func8,by kernel_rfl⟩
theorem l10:FnOk Try.prog ids alts 10 (erFn w10):=⟨Try.f9,Try.func9,by kernel_rfl⟩
theorem l11:FnOk Try.prog ids alts 11 (erFn w11):=⟨Try.f10,Try.func10,by kernel_rfl⟩
theorem l12:FnOk Try.prog ids alts 12 (erFn w12):=⟨Try.f11,Try.func11,by kernel_rfl⟩
theorem l13:FnOk Try.prog ids alts 13 (erFn w13):=⟨Try.f12,Try.func12,by kernel_rfl⟩
theorem l14:FnOk Try.prog ids alts 14 (erFn w14):=⟨Try.f13,Try.func13,by kernel_rfl⟩
theorem l15:FnOk Try.prog ids alts 15 (erFn w15):=⟨Try.f14,Try.func14,by kernel_rfl⟩
theorem l16:FnOk Try.prog ids alts 16 (erFn w16):=⟨Try.f15,Try.func15,by kernel_rfl⟩
theorem l17:FnOk Try.prog ids alts 17 (erFn w17):=⟨Try.f16,Try.func16,by kernel_rfl⟩
theorem l18:FnOk Try.prog ids alts 18 (erFn w18):=⟨Try.f17,Try.func17,by kernel_rfl⟩
theorem l20:FnOk Try.prog ids alts 20 (erFn w20):=⟨Try.f19,Try.func19,by kernel_rfl⟩
theorem l21:FnOk Try.prog ids alts 21 (erFn w21):=⟨Try.f18,Try.func18,by kernel_rfl⟩
theorem l22:FnOk Try.prog ids alts 22 (erFn w22):=⟨Try.f20,Try.func20,by kernel_rfl⟩
theorem l23:FnOk Try.prog ids alts 23 (erFn w23):=⟨Try.f21,Try.func21,by kernel_rfl⟩
theorem l24:FnOk Try.prog ids alts 24 (erFn w24):=⟨Try.f22,Try.func22,by kernel_rfl⟩
theorem l25:FnOk Try.prog ids alts 25 (erFn w25):=⟨Try.f23,Try.func23,by kernel_rfl⟩
theorem l26:FnOk Try.prog ids alts 26 (erFn w26):=⟨Try.f24,Try.func24,by kernel_rfl⟩
theorem l27:FnOk Try.prog ids alts 27 (erFn w27):=⟨Try.f25,Try.func25,by kernel_rfl⟩
theorem l28:FnOk Try.prog ids alts 28 (erFn w28):=⟨Try.f26,Try.func26,by kernel_rfl⟩
theorem l29:FnOk Try.prog ids alts 29 (erFn w29):=⟨Try.f27,Try.func27,by kernel_rfl⟩
theorem l30:FnOk Try.prog ids alts 30 (erFn w30):=⟨Try.f28,Try.func28,by kernel_rfl⟩
theorem l31:FnOk Try.prog ids alts 31 (erFn w31):=⟨Try.f29,Try.func29,by kernel_rfl⟩
theorem l32:FnOk Try.prog ids alts 32 (erFn w32):=⟨Try.f30,Try.func30,by kernel_rfl⟩
theorem l33:FnOk Try.prog ids alts 33 (erFn w33):=⟨Try.f31,Try.func31,by kernel_rfl⟩
theorem l34:FnOk Try.prog ids alts 34 (erFn w34):=⟨Try.f32,Try.func32,by kernel_rfl⟩
theorem l35:FnOk Try.prog ids alts 35 (erFn w35):=⟨Try.f33,Try.func33,by kernel_rfl⟩
theorem l36:FnOk Try.prog ids alts 36 (erFn w36):=⟨Try.f34,Try.func34,by kernel_rfl⟩
theorem l37:FnOk Try.prog ids alts 37 (erFn w37):=⟨Try.f35,Try.func35,by kernel_rfl⟩
theorem l38:FnOk Try.prog ids alts 38 (erFn w38):=⟨Try.f36,Try.func36,by kernel_rfl⟩
theorem l39:FnOk Try.prog ids alts 39 (erFn w39):=⟨Try.f37,Try.func37,by kernel_rfl⟩
theorem l40:FnOk Try.prog ids alts 40 (erFn w40):=⟨Try.f38,Try.func38,by kernel_rfl⟩
theorem l41:FnOk Try.prog ids alts 41 (erFn w41):=⟨Try.f39,Try.func39,by kernel_rfl⟩
theorem l42:FnOk Try.prog ids alts 42 (erFn w42):=⟨Try.f40,Try.func40,by kernel_rfl⟩
theorem l2007:FnOk Try.prog ids alts 2007 (erFn w7):=⟨Try.f6,Try.func6,by kernel_rfl⟩
theorem l2027:FnOk Try.prog ids alts 2027 (erFn w2027):=⟨Try.f25,Try.func25,by kernel_rfl⟩
def prog:WProg:=⟨tree,fun f=>decide (f=35∨f=42∨f=2007∨f=2027),fun f=>decide (False)⟩
theorem all:TreeAll (FnOk Try.prog ids alts) (erProg prog).fns:=⟨⟨⟨⟨⟨⟨trivial,l0,trivial⟩,l1,trivial⟩,l5,⟨⟨trivial,l6,trivial⟩,l7,trivial⟩⟩,l8,⟨⟨⟨trivial,l9,trivial⟩,l10,trivial⟩,l11,⟨trivial,l12,trivial⟩⟩⟩,l13,⟨⟨⟨⟨trivial,l14,trivial⟩,l15,trivial⟩,l16,⟨trivial,l17,trivial⟩⟩,l18,⟨⟨⟨trivial,l20,trivial⟩,l21,trivial⟩,l22,⟨trivial,l23,trivial⟩⟩⟩⟩,l24,⟨⟨⟨⟨⟨trivial,l25,trivial⟩,l26,trivial⟩,l27,⟨⟨trivial,l28,trivial⟩,l29,trivial⟩⟩,l30,⟨⟨⟨trivial,l31,trivial⟩,l32,trivial⟩,l33,⟨trivial,l34,trivial⟩⟩⟩,l35,⟨⟨⟨⟨trivial,l36,trivial⟩,l37,trivial⟩,l38,⟨trivial,l39,trivial⟩⟩,l40,⟨⟨⟨trivial,l41,trivial⟩,l42,trivial⟩,l2007,⟨trivial,l2027,trivial⟩⟩⟩⟩⟩
theorem okT:okTree prog.fns=true:=by kernel_rfl
theorem link:Linked Try.prog (phiG ids alts) (psiOf ids) (erProg prog):=linked (by kernel_rfl) (by kernel_rfl) all (by kernel_rfl)
end P21
end
section
set_option linter.unusedSimpArgs false
set_option linter.unusedVariables false
namespace Go.Pw
open Go Go.Pav
@[simp] def eI (x:Int):List AV:=[.int .i64 x]
@[simp] def eU8 (x:Int):List AV:=[.int .u8 x]
@[simp] def eU64 (x:Int):List AV:=[.int .u64 x]
@[simp] def eS (x:List UInt8):List AV:=[.str x]
@[simp] def eB (x:Bool):List AV:=[.bool x]
abbrev L1 (xs:List Int) (e:Bool):AV:=.ro 1 (xs.map eI) e
attribute [simp] Int.natCast_inj
attribute [-simp] List.getElem_cons_drop
section
variable (a n:Nat)
@[simp] theorem lit_lt_cast:((no_index (OfNat.ofNat a):Int) < (n:Int))=((no_index (OfNat.ofNat a):Nat) < n):=propext (Int.ofNat_lt (n:=(OfNat.ofNat a:Nat)) (m:=n))
@[simp] theorem cast_lt_lit:((n:Int) < (no_index (OfNat.ofNat a):Int))=(n < (no_index (OfNat.ofNat a):Nat)):=propext (Int.ofNat_lt (m:=(OfNat.ofNat a:Nat)) (n:=n))
@[simp] theorem lit_le_cast:((no_index (OfNat.ofNat a):Int)≤(n:Int))=((no_index (OfNat.ofNat a):Nat)≤n):=propext (Int.ofNat_le (m:=(OfNat.ofNat a:Nat)) (n:=n))
@[simp] theorem cast_le_lit:((n:Int)≤(no_index (OfNat.ofNat a):Int))=(n≤(no_index (OfNat.ofNat a):Nat)):=propext (Int.ofNat_le (n:=(OfNat.ofNat a:Nat)) (m:=n))
end
theorem fill_get {α β:Type} {f:α→β} {acc:List α} {n i:Nat} {z:β} (h:acc.length=i):(List.map f acc++List.replicate (n+1) z)[i]?=some z:=by
 rw [List.getElem?_append_right (by simp;omega)]
 simp [h]
theorem fill_set {α β:Type} {f:α→β} {acc:List α} {n i:Nat} {z v:β} (h:acc.length=i):(List.map f acc++List.replicate (n+1) z).set i v=List.map f acc++v::List.replicate n z:=by
 rw [List.set_append,if_neg (by simp;omega)]
 simp [h,List.replicate_succ]
@[simp] theorem app_le (a b:Nat):(a+(b+1)≤a)=False:=eq_false (by omega)
theorem drop_cons {α:Type} {l:List α} {i:Nat} (h:i < l.length):l.drop i=l[i]::l.drop (i+1):=List.drop_eq_getElem_cons h
theorem mapO_self {α:Type} {g:α→Option α}:∀ {l:List α},(∀ x ∈ l,g x=some x)→mapO g l=some l
 | [],_=>rfl
 | a::l,h=>by simp only [mapO,h a List.mem_cons_self,ob,mapO_self fun x hx=>h x (List.mem_cons_of_mem _ hx),om]
@[simp] theorem frz_ints (h:WHeap) (n:Nat) (k:IntKind) (l:List Int):mapO (frzW h (n+1)) (List.map (AV.int k) l)=some (List.map (AV.int k) l) :=
 mapO_self fun x hx=>by obtain ⟨y,_,rfl⟩:=List.mem_map.1 hx;rfl
@[simp] theorem all_isC_int (k:IntKind) (l:List Int):l.all (isC ∘ AV.int k)=true:=by simp [isC]
@[simp] theorem all_isC_bool (l:List Bool):l.all (isC ∘ AV.bool)=true:=by simp [isC]
attribute [simp] isLeaf
@[simp] theorem comp_eI:((fun x:AV=>[x]) ∘ AV.int .i64)=eI:=rfl
@[simp] theorem add_le_self' (a b:Nat):(a+b≤a)=(b=0):=propext (by omega)
end Go.Pw
end
section
set_option linter.unusedSimpArgs false
set_option linter.unusedVariables false
namespace Go.C21
open Go Go.Pav Go.Pw P21
set_option maxRecDepth 10000
set_option maxHeartbeats 4000000
set_option linter.unusedSimpArgs false
set_option linter.unusedVariables false
attribute [-simp] List.getElem_cons_drop
@[simp] def eR (r:List Int × Bool):List AV:=[L1 r.1 r.2]
abbrev eP (bs:List Int) (e:Bool) (rs:List (List Int × Bool)) (f:Bool):AV:=.agg [L1 bs e,.ro 1 (rs.map eR) f]
abbrev zP:AV:=.agg [.ro 1 [] true,.ro 1 [] true]
structure Has (C:WProg):Prop where
 f5:C.fns.get 5=some w5
 f10:C.fns.get 10=some w10
 f11:C.fns.get 11=some w11
 f12:C.fns.get 12=some w12
 f14:C.fns.get 14=some w14
 f15:C.fns.get 15=some w15
 f16:C.fns.get 16=some w16
 f20:C.fns.get 20=some w20
 f21:C.fns.get 21=some w21
 f24:C.fns.get 24=some w24
 f25:C.fns.get 25=some w25
 f26:C.fns.get 26=some w26
 f28:C.fns.get 28=some w28
 f35:C.fns.get 35=some w35
 inl:C.inl=fun f=>decide (f=35∨f=42∨f=2007∨f=2027)
variable {C:WProg} (H:Has C)
include H
theorem copied_ok (xs:List Int) (e:Bool) (hx:xs.length≤1000000):FnW C 21 [L1 xs e]=some (L1 xs true):=by
 rw [fnW_eq H.f21 rfl]
 by_cases h0:xs=[]
 · subst h0;simp [w21]
 simp (disch:=omega) [w21,fits,h0]
 simp [List.take_of_length_le]
omit H in
theorem ints_loop (xs ys:List Int) (e:Bool) (hl:xs.length=ys.length) (hx:xs.length≤1000000):∀ n i,n+i=xs.length →
 w14_K0 C ⟨[(5,.int .i64 i),(1,L1 ys e),(0,L1 xs true)],[],0⟩=some (.int .i64 (if xs.drop i=ys.drop i then 1 else 0)):=by
 intro n
 induction n with
 | zero =>
  intro i hi
  simp only [w14_K0];rw [ck_unf w14_B0.eq_1]
  have h1:xs.drop i=[]:=List.drop_eq_nil_of_le (by omega)
  have h2:ys.drop i=[]:=List.drop_eq_nil_of_le (by omega)
  have h3:¬ i < xs.length:=by omega
  simp [ck_unf w14_c0.eq_1,h1,h2,h3]
 | succ n ih =>
  intro i hi
  have h1:i < xs.length:=by omega
  have h2:i < ys.length:=by omega
  have:=ih (i+1) (by omega)
  simp only [w14_K0] at this ⊢;rw [ck_unf w14_B0.eq_1]
  rw [List.drop_eq_getElem_cons h1,List.drop_eq_getElem_cons h2]
  simp (disch:=omega) [h1,h2,wI64] at this ⊢
  split
  · rename_i h3
    simpa [h3] using this
  · rename_i h3
    simp [h3]
theorem ints_ok (xs ys:List Int) (e:Bool) (hx:xs.length≤1000000):FnW C 14 [L1 xs true,L1 ys e]=some (.int .i64 (if xs=ys then 1 else 0)):=by
 rw [fnW_eq H.f14 rfl]
 by_cases hl:xs.length=ys.length
 · have:=ints_loop (C:=C) xs ys e hl hx xs.length 0 (by simp)
   simp [w14,hl] at this ⊢
   exact this
 · have:xs≠ys:=fun q=>hl (by rw [q])
   simp [w14,hl,this]
omit H in
def okP (x:Int × (List Int × Bool)):Bool:=decide (0≤x.1∧x.1≤65536∧(x.2.1.length:Int)≤x.1)
omit H in
def b01 (b:Bool):Int:=match b with
 | true=>0
 | false=>1
omit H in
@[simp] theorem b01_t:b01 true=0:=rfl
omit H in
@[simp] theorem b01_f:b01 false=1:=rfl
omit H in
def allOk (l:List (Int × (List Int × Bool))):Bool:=l.all okP
omit H in
theorem allOk_cons (x:Int × (List Int × Bool)) (l:List (Int × (List Int × Bool))):allOk (x::l)=(okP x&&allOk l):=rfl
omit H in
theorem allOk_nil:allOk []=true:=rfl
omit H in
def chk (bs:List Int) (rs:List (List Int × Bool)):Int:=b01 (decide (1≤bs.length)&&(decide (bs.length≤8)&&(decide (rs.length=bs.length)&&allOk (bs.zip rs))))
omit H in
theorem check_loop (bs:List Int) (e:Bool) (rs:List (List Int × Bool)) (f:Bool) (hl:rs.length=bs.length) (hx:bs.length≤8):∀ n i,n+i=bs.length →
 w20_K0 C ⟨[(25,.int .i64 i),(24,.int .i64 bs.length),(23,L1 bs e),(1,.ptr 0 0 0)],[(0,.cells 2 [[L1 bs e,.ro 1 (rs.map eR) f]] true true)],1⟩=some (.int .i64 (b01 (allOk ((bs.zip rs).drop i)))):=by
 intro n
 induction n with
 | zero =>
  intro i hi
  simp only [w20_K0];rw [ck_unf w20_B0.eq_1]
  have h1:(bs.zip rs).drop i=[]:=List.drop_eq_nil_of_le (by simp;omega)
  have h3:¬ i < bs.length:=by omega
  simp [ck_unf w20_c0.eq_1,h1,h3,allOk_nil]
 | succ n ih =>
  intro i hi
  have h1:i < bs.length:=by omega
  have h2:i < rs.length:=by omega
  have:=ih (i+1) (by omega)
  simp only [w20_K0] at this ⊢;rw [ck_unf w20_B0.eq_1]
  rw [List.drop_eq_getElem_cons (show i < (bs.zip rs).length by simp;omega)]
  simp (disch:=omega) [h1,h2,wI64,okP,allOk_cons] at this ⊢
  rw [this]
  by_cases c1:0≤bs[i]
  · by_cases c2:bs[i]≤65536
    · by_cases c3:bs[i] < (rs[i].1.length:Int)
      · have c4:¬ (rs[i].1.length:Int)≤bs[i]:=by omega
        simp [c1,c2,c3,c4]
      · have c4:(rs[i].1.length:Int)≤bs[i]:=by omega
        simp [c1,c2,c3,c4]
    · simp [c1,c2]
  · simp [c1]
theorem check_ok (bs:List Int) (e:Bool) (rs:List (List Int × Bool)) (f:Bool):FnW C 20 [eP bs e rs f]=some (.int .i64 (chk bs rs)):=by
 rw [fnW_eq H.f20 rfl]
 unfold chk
 by_cases c1:1≤bs.length
 · by_cases c2:bs.length≤8
   · by_cases c3:rs.length=bs.length
     · have:=check_loop (C:=C) bs e rs f c3 c2 bs.length 0 (by simp)
       have c4:¬ (bs.length:Int) < 1:=by omega
       have c5:¬ 8 < (bs.length:Int):=by omega
       simp only [w20_K0] at this
       simp at this
       simp [w20,c1,c2,c3,c4,c5,this]
     · have c4:¬ (bs.length:Int) < 1:=by omega
       have c5:¬ 8 < (bs.length:Int):=by omega
       simp [w20,c1,c2,c3,c4,c5]
   · have c4:¬ (bs.length:Int) < 1:=by omega
     have c5:8 < (bs.length:Int):=by omega
     simp [w20,c1,c2,c4,c5]
 · have c4:(bs.length:Int) < 1:=by omega
   simp [w20,c1,c4]
def ofE (bs:List Int) (rs:List (List Int × Bool)) (k:Int):Int:=if chk bs rs≠0 then chk bs rs else if k < 0∨(bs.length:Int)≤k then 4 else 0
theorem of_ok (bs:List Int) (e:Bool) (rs:List (List Int × Bool)) (f:Bool) (k:Int):FnW C 24 [eP bs e rs f,.int .i64 k]=some (.int .i64 (ofE bs rs k)):=by
 have h:=check_ok H bs e rs f
 rw [fnW_eq H.f24 rfl]
 unfold ofE
 by_cases c:chk bs rs=0
 · by_cases c1:k < 0
   · simp [w24,H.inl,h,c,c1]
   · by_cases c2:(bs.length:Int)≤k
     · simp [w24,H.inl,h,c,c1,c2]
     · simp [w24,H.inl,h,c,c1,c2]
 · simp [w24,H.inl,h,c]
omit H in
theorem of_zero {bs:List Int} {rs:List (List Int × Bool)} {k:Int} (c:ofE bs rs k=0):chk bs rs=0∧0≤k∧k.toNat < rs.length∧rs.length=bs.length∧k.toNat < bs.length:=by
 have h1:chk bs rs=0:=by
  unfold ofE at c
  split at c
  · exact c
  · rename_i q;simpa using q
 have h2:rs.length=bs.length:=by
  unfold chk at h1
  by_cases q:rs.length=bs.length
  · exact q
  · simp [q] at h1
 unfold ofE at c
 rw [if_neg (by simp [h1])] at c
 split at c
 · cases c
 · exact ⟨h1,by omega,by omega,h2,by omega⟩
theorem len_ok (bs:List Int) (e:Bool) (rs:List (List Int × Bool)) (f:Bool) (k:Int):FnW C 15 [eP bs e rs f,.int .i64 k]=some (.tup (if ofE bs rs k=0 then [.int .i64 (rs[k.toNat]?.getD ([],true)).1.length,.int .i64 0] else [.int .i64 0,.int .i64 (ofE bs rs k)])):=by
 have h:=of_ok H bs e rs f k
 rw [fnW_eq H.f15 rfl]
 by_cases c:ofE bs rs k=0
 · obtain ⟨_,h1,h2,_⟩:=of_zero c
   simp [w15,H.inl,h,c,nat?_of h1,h2]
 · simp [w15,H.inl,h,c]
theorem clip_ok (xs:List Int) (e:Bool):FnW C 26 [L1 xs e]=some (L1 xs true):=by
 rw [fnW_eq H.f26 rfl]
 simp [w26,List.take_of_length_le]
end Go.C21
end
