/- Part of the theory that the claims of this work use: PwCode, PwDen, PwCk, PwSimp, PwZip, PwP, PwLib, D01. No conditions of its own. -/
import Derived.Test.YtfkdbfgdncamdaaGreatT3
import Derived.Laws.RangeAny
section
set_option linter.unusedSimpArgs false
set_option linter.unusedVariables false
namespace Go.Pw
open Go Go.Pav
def Hi (base m0:Nat) (ρ:Nat→Nat) (V A:Nat→Prop):Prop:=∀ b,A b→¬ V b→base≤b→m0≤ρ b
structure Res (base m0:Nat) (ρ:Nat→Nat) (V A:Nat→Prop) (s1:WSt) (s1':St) (ρ':Nat→Nat) (V' A':Nat→Prop):Prop where
 sim:Sim ρ' V' A' s1 s1'
 base_le:base≤s1.next
 old:Old base ρ V A ρ' V' A'
 hi:Hi base m0 ρ' V' A'
section
variable {C:WProg} {run:WRun} {run':Run} {base m0:Nat}
theorem Res.canon {ρ:Nat→Nat} {V A:Nat→Prop} {s1 s2:WSt} {s1' s2':St} {ρ':Nat→Nat} {V' A':Nat→Prop} (R:Res base m0 ρ V A s1 s1' ρ' V' A') {a:Ann} (hc:canon base a s1=some s2)
 (hs:s2'=s1'∨s2'=dropEnv (maskOf a) s1'):∃ ρ' V' A',Res base m0 ρ V A s2 s2' ρ' V' A':=by
 obtain ⟨ρ2,V2,A2,S2,b2,o2,n2⟩:=canon_sim R.sim R.base_le hc hs
 refine ⟨ρ2,V2,A2,S2,b2,R.old.trans o2,fun b h1 h2 h3=>?_⟩
 obtain ⟨c,c1,c2,c3,c4⟩:=n2 b h1 h2
 rw [c3]
 exact R.hi c c1 c2 (c4 h3)
theorem Res.frz {ρ:Nat→Nat} {V A:Nat→Prop} {k:Nat} {s1 s2:WSt} {s1':St} {ρ':Nat→Nat} {V' A':Nat→Prop} (R:Res base m0 ρ V A s1 s1' ρ' V' A') (hc:frzSlotW k s1=some s2) :
 ∃ s2',frzSlot k s1'=some s2'∧s2'.next=s1'.next∧Res base m0 ρ V A s2 s2' ρ' V' A':=by
 obtain ⟨v,hv,hc⟩:=ob_some hc
 obtain ⟨x,hx,rfl⟩:=om_some hc
 obtain ⟨u,hu,hr⟩:=R.sim.env k v hv
 obtain ⟨y,hy,hd⟩:=frz_vw R.sim.heap _ _ _ _ hr hx
 have hm:=marks_ok R.sim.heap (reachW s1.heap frzDepth v) (reach s1'.heap frzDepth u) (fun b' hb'=>reach_vw R.sim.heap _ _ _ _ hr hx b' hb')
 refine ⟨⟨setDst s1'.env (some k) y,applyUpd s1'.heap (markFrozen s1'.heap (reach s1'.heap frzDepth u)),s1'.next⟩,by simp only [frzSlot,hu,ob,hy,om],rfl,⟨?_,R.base_le,R.old,R.hi⟩⟩
 exact ⟨R.sim.srt.setDst (some k) x,R.sim.env.setDst (d:=some k) (hd.mono fun _ q=>q.elim),hm.1,R.sim.lt⟩
theorem Res.frzs {ρ:Nat→Nat} {V A:Nat→Prop} {ρ':Nat→Nat} {V' A':Nat→Prop}:∀ (l:List Nat) {s1 s2:WSt} {s1':St},Res base m0 ρ V A s1 s1' ρ' V' A'→frzSlotsW l s1=some s2 →
 ∃ s2',frzSlots l s1'=some s2'∧s2'.next=s1'.next∧Res base m0 ρ V A s2 s2' ρ' V' A'
 | [],s1,s2,s1',R,h=>by simp only [frzSlotsW,Option.some.injEq] at h;subst h;exact ⟨s1',rfl,rfl,R⟩
 | k::l,s1,s2,s1',R,h=>by
  simp only [frzSlotsW] at h
  obtain ⟨s3,h1,h2⟩:=ob_some h
  obtain ⟨s3',h3,e3,R3⟩:=R.frz h1
  obtain ⟨s2',h4,e4,R4⟩:=Res.frzs l R3 h2
  exact ⟨s2',by simp only [frzSlots,h3,ob];exact h4,e4.trans e3,R4⟩
theorem Keeps.old {ρ:Nat→Nat} {V A:Nat→Prop} {ρ':Nat→Nat} {V' A':Nat→Prop} (k:Keeps ρ V A ρ' V' A') (hn:∀ b,b < base→A' b→A b):Old base ρ V A ρ' V' A':=fun b hb=>⟨k b,hn b hb⟩
theorem ops_sim (hr:RunSim run run'):∀ (l:List COper) (s s1:WSt),(l.all fun o=>okOp o.op)=true→evOpsW C run l s=some s1→∀ (s':St) (ρ:Nat→Nat) (V A:Nat→Prop),Sim ρ V A s s'→base≤s.next→Hi base m0 ρ V A→m0≤s'.next →
 ∃ s1' ρ' V' A',evOps (erProg C) run' (l.map erOper) s'=some s1'∧Res base m0 ρ V A s1 s1' ρ' V' A'∧m0≤s1'.next:=by
 intro l
 induction l with
 | nil =>
  intro s s1 _ he s' ρ V A S hb hi hm
  simp only [evOpsW,Option.some.injEq] at he;subst he
  exact ⟨s',ρ,V,A,rfl,⟨S,hb,Old.refl base ρ V A,hi⟩,hm⟩
 | cons o l ih =>
  intro s s1 hok he s' ρ V A S hb hi hm
  simp only [List.all_cons,Bool.and_eq_true] at hok
  simp only [evOpsW] at he
  obtain ⟨d,h1,he⟩:=ob_some he
  have lt':Lts ρ V A (s.next+1) (s'.next+1):=⟨fun b hb=>Nat.lt_succ_of_lt (S.lt.w b hb),fun b hb hv=>Nat.lt_succ_of_lt (S.lt.p b hb hv)⟩
  obtain ⟨d',ρ1,V1,A1,h2,O⟩:=op_sim hr S.env S.heap lt' (nid:=s.next) (mid:=s'.next) (fun q=>Nat.lt_irrefl _ (S.lt.w _ q)) (Nat.lt_succ_self _) (fun b hb hv=>Nat.ne_of_lt (S.lt.p b hb hv)) (Nat.lt_succ_self _) hok.1 h1
  have S1:Sim ρ1 V1 A1 ⟨setD s.env o.dst d.v,d.h,d.n⟩ ⟨setDst s'.env o.dst d'.v,d'.h,d'.n⟩:=⟨S.srt.setDst _ _,(S.env.mono O.keeps).setDst O.v,O.h,O.lt⟩
  have hi1:Hi base m0 ρ1 V1 A1:=by
   intro b q1 q2 q3
   rcases O.newp b q1 q2 with ⟨q4,q5⟩ | q4 | q4
   · rw [q5];exact hi b q4 (fun q=>q2 ((O.keeps b q4).2.2.2 q)) q3
   · omega
   · omega
  have hb1:base≤d.n:=by have:=O.next;omega
  have hm1:m0≤d'.n:=by have:=O.nextp;omega
  obtain ⟨s1',ρ2,V2,A2,h3,R,h4⟩:=ih ⟨setD s.env o.dst d.v,d.h,d.n⟩ s1 hok.2 he _ ρ1 V1 A1 S1 hb1 hi1 hm1
  have o1:Old base ρ V A ρ1 V1 A1:=Keeps.old O.keeps fun b hbb hA=>by
   rcases O.new b hA with q | q | q
   · exact q
   · omega
   · omega
  refine ⟨s1',ρ2,V2,A2,?_,⟨R.sim,R.base_le,o1.trans R.old,R.hi⟩,h4⟩
  simp only [List.map_cons,evOps]
  have:(erOper o).dst=o.dst:=rfl
  rw [h2]
  simp only [ob,this]
  exact h3
def DidRel (ρ:Nat→Nat) (V A:Nat→Prop) (d:WDid) (d':Did):Prop :=
 (d'.bar=true→d.bar=true)∧(∀ b ∈ d'.rd,∃ c ∈ d.rd,b=ρ c∧¬ V c∧A c)∧(∀ b ∈ d'.wr,∃ c ∈ d.wr,b=ρ c∧¬ V c∧A c)
theorem DidRel.mono {ρ ρ':Nat→Nat} {V A V' A':Nat→Prop} {d:WDid} {d':Did} (h:DidRel ρ V A d d') (k:Keeps ρ V A ρ' V' A'):DidRel ρ' V' A' d d':=by
 refine ⟨h.1,fun b hb=>?_,fun b hb=>?_⟩
 · obtain ⟨c,h1,h2,h3,h4⟩:=h.2.1 b hb
   obtain ⟨k1,k2,k3⟩:=k c h4
   exact ⟨c,h1,by rw [k2];exact h2,fun q=>h3 (k3.1 q),k1⟩
 · obtain ⟨c,h1,h2,h3,h4⟩:=h.2.2 b hb
   obtain ⟨k1,k2,k3⟩:=k c h4
   exact ⟨c,h1,by rw [k2];exact h2,fun q=>h3 (k3.1 q),k1⟩
theorem meets_vw {ρ:Nat→Nat} {V A:Nat→Prop} (inj:∀ b c,A b→A c→¬ V b→¬ V c→ρ b=ρ c→b=c) {a b:List Nat} {a' b':List Nat}
 (ha:∀ x ∈ a',∃ c ∈ a,x=ρ c∧¬ V c∧A c) (hb:∀ x ∈ b',∃ c ∈ b,x=ρ c∧¬ V c∧A c) (h:meets a' b'=true):meets a b=true:=by
 simp only [meets,List.any_eq_true,decide_eq_true_eq] at h ⊢
 obtain ⟨x,hx,y,hy,rfl⟩:=h
 obtain ⟨c,h1,h2,h3,h4⟩:=ha x hx
 obtain ⟨d,h5,h6,h7,h8⟩:=hb x hy
 have:=inj c d h4 h8 h3 h7 (h2.symm.trans h6)
 subst this
 exact ⟨c,h1,c,h5,rfl⟩
theorem clash_vw {ρ:Nat→Nat} {V A:Nat→Prop} (inj:∀ b c,A b→A c→¬ V b→¬ V c→ρ b=ρ c→b=c) {a b:WDid} {a' b':Did} (ha:DidRel ρ V A a a') (hb:DidRel ρ V A b b') (h:clashW a b=false):clash a' b'=false:=by
 have nt:∀ {x y:Bool},(x=true→y=true)→y=false→x=false:=by
  intro x y q1 q2;cases x <;> simp_all
 have qt:∀ {d:WDid} {d':Did},DidRel ρ V A d d'→quietW d=true→quiet d'=true:=by
  intro d d' hd hq
  simp only [quietW,Bool.and_eq_true,Bool.not_eq_true',List.isEmpty_iff] at hq
  simp only [quiet,Bool.and_eq_true,Bool.not_eq_true',List.isEmpty_iff]
  refine ⟨nt hd.1 hq.1,?_,?_⟩
  · cases hw:d'.wr with
    | nil=>rfl
    | cons b r =>
     obtain ⟨c,h1,_⟩:=hd.2.2 b (by rw [hw];exact List.mem_cons_self)
     rw [hq.2.1] at h1;cases h1
  · cases hw:d'.rd with
    | nil=>rfl
    | cons b r =>
     obtain ⟨c,h1,_⟩:=hd.2.1 b (by rw [hw];exact List.mem_cons_self)
     rw [hq.2.2] at h1;cases h1
 unfold clashW at h
 unfold clash
 cases qa:quietW a with
 | true=>rw [qt ha qa];simp
 | false =>
  cases qb:quietW b with
  | true=>rw [qt hb qb];simp
  | false =>
   rw [qa,qb] at h
   simp only [Bool.or_self,Bool.not_false,Bool.true_and,Bool.or_eq_false_iff] at h
   obtain ⟨h1,h2,h3,h4,h5⟩:=h
   have e:(a'.bar||(b'.bar||(meets a'.wr b'.wr||(meets a'.wr b'.rd||meets a'.rd b'.wr))))=false:=by
    simp only [Bool.or_eq_false_iff]
    exact ⟨nt ha.1 h1,nt hb.1 h2,nt (meets_vw inj ha.2.2 hb.2.2) h3,nt (meets_vw inj ha.2.2 hb.2.1) h4,nt (meets_vw inj ha.2.1 hb.2.2) h5⟩
   rw [e,Bool.and_false]
theorem draw_sim (hr:RunSim run run'):∀ (l:List COper) (nid:Nat) (s s1:WSt) (ds ds1:List WDid),(l.all fun o=>okOp o.op)=true→evDrawW C run l nid s ds=some (s1,ds1) →
 ∀ (mid:Nat) (s':St) (ds':List Did) (ρ:Nat→Nat) (V A:Nat→Prop),Sim ρ V A s s'→base≤nid→nid+l.length≤s.next→(∀ b,A b→b < nid∨nid+l.length≤b)→Hi base m0 ρ V A→m0≤mid→mid+l.length≤s'.next →
  (∀ b,A b→¬ V b→ρ b < mid∨mid+l.length≤ρ b)→Rel2 (DidRel ρ V A) ds ds' →
 ∃ s1' ds1' ρ' V' A',evDraw (erProg C) run' (l.map erOper) mid s' ds'=some (s1',ds1')∧Res base m0 ρ V A s1 s1' ρ' V' A'∧m0≤s1'.next∧Rel2 (DidRel ρ' V' A') ds1 ds1':=by
 intro l
 induction l with
 | nil =>
  intro nid s s1 ds ds1 _ he mid s' ds' ρ V A S hb hnl _ hi hm hml _ hds
  simp only [evDrawW,Option.some.injEq,Prod.mk.injEq] at he
  obtain ⟨rfl,rfl⟩:=he
  simp only [List.length_nil] at hnl hml
  exact ⟨s',ds',ρ,V,A,rfl,⟨S,by omega,Old.refl base ρ V A,hi⟩,by omega,hds⟩
 | cons o l ih =>
  intro nid s s1 ds ds1 hok he mid s' ds' ρ V A S hb hnl hgap hi hm hml hgap' hds
  simp only [List.all_cons,Bool.and_eq_true] at hok
  simp only [List.length_cons] at hnl hml hgap hgap'
  simp only [evDrawW] at he
  obtain ⟨d,h1,he⟩:=ob_some he
  have hn:¬ A nid:=fun q=>by rcases hgap nid q with q | q <;> omega
  obtain ⟨d',ρ1,V1,A1,h2,O⟩:=op_sim hr S.env S.heap S.lt (nid:=nid) (mid:=mid) hn (by omega) (fun b hbb hv=>by rcases hgap' b hbb hv with q | q <;> omega) (by omega) hok.1 h1
  have S1:Sim ρ1 V1 A1 ⟨setD s.env o.dst d.v,d.h,d.n⟩ ⟨setDst s'.env o.dst d'.v,d'.h,d'.n⟩:=⟨S.srt.setDst _ _,(S.env.mono O.keeps).setDst O.v,O.h,O.lt⟩
  have hi1:Hi base m0 ρ1 V1 A1:=by
   intro b q1 q2 q3
   rcases O.newp b q1 q2 with ⟨q4,q5⟩ | q4 | q4
   · rw [q5];exact hi b q4 (fun q=>q2 ((O.keeps b q4).2.2.2 q)) q3
   · omega
   · omega
  have hds1:Rel2 (DidRel ρ1 V1 A1) (ds++[d]) (ds'++[d']):=(hds.mono fun x y _ hxy=>hxy.mono O.keeps).append (.cons ⟨O.bar,O.rd,O.wr⟩ .nil)
  obtain ⟨s1',ds1',ρ2,V2,A2,h3,R,h4,h5⟩:=ih (nid+1) ⟨setD s.env o.dst d.v,d.h,d.n⟩ s1 (ds++[d]) ds1 hok.2 he (mid+1) _ (ds'++[d']) ρ1 V1 A1 S1 (by omega) (by have:=O.next;simp only;omega)
   (fun b hbb=>by
    rcases O.new b hbb with q | q | q
    · rcases hgap b q with q | q <;> omega
    · omega
    · omega) hi1 (by omega) (by have:=O.nextp;simp only;omega)
   (fun b hbb hv=>by
    rcases O.newp b hbb hv with ⟨q,q5⟩ | q | q
    · rw [q5];rcases hgap' b q (fun q6=>hv ((O.keeps b q).2.2.2 q6)) with q | q <;> omega
    · omega
    · omega) hds1
  have o1:Old base ρ V A ρ1 V1 A1:=Keeps.old O.keeps fun b hbb hA=>by
   rcases O.new b hA with q | q | q
   · exact q
   · omega
   · omega
  refine ⟨s1',ds1',ρ2,V2,A2,?_,⟨R.sim,R.base_le,o1.trans R.old,R.hi⟩,h4,h5⟩
  simp only [List.map_cons,evDraw]
  have:(erOper o).dst=o.dst:=rfl
  rw [h2]
  simp only [ob,this]
  exact h3
theorem apart_vw {ρ:Nat→Nat} {V A:Nat→Prop} (inj:∀ b c,A b→A c→¬ V b→¬ V c→ρ b=ρ c→b=c) {ds:List WDid} {ds':List Did} (h:Rel2 (DidRel ρ V A) ds ds') {p:Nat × Nat} (ha:apartW ds p=true):apart ds' p=true:=by
 unfold apartW at ha
 split at ha
 · rename_i a b h1 h2
   obtain ⟨a',h3,h4⟩:=h.get h1
   obtain ⟨b',h5,h6⟩:=h.get h2
   unfold apart
   rw [h3,h5]
   simp only [Bool.not_eq_true'] at ha ⊢
   exact clash_vw inj h4 h6 ha
 · cases ha
def CodeSim (C:WProg) (k:Nat):Prop :=
 ∀ (base:Nat) (c:WCode) (s:WSt) (ex:Ex) (s1:WSt),okC c=true→evW C k base c s=some (ex,s1)→∀ (m0:Nat) (s':St) (ρ:Nat→Nat) (V A:Nat→Prop),Sim ρ V A s s'→base≤s.next→Hi base m0 ρ V A→m0≤s'.next →
  ∃ s1' ρ' V' A',evC (erProg C) k (erC c) s'=some (ex,s1')∧Res base m0 ρ V A s1 s1' ρ' V' A'∧m0≤s1'.next
theorem erL_len:∀ l:List AV,(erL l).length=l.length
 | []=>rfl
 | _::r=>by simp only [erL,List.length_cons,erL_len r]
theorem cln_sim {j:Nat} {s:WSt} {s':St} {ρ:Nat→Nat} {V A:Nat→Prop} (S:Sim ρ V A s s') (hb:base≤s.next) (hi:Hi base m0 ρ V A) (hm:m0≤s'.next) {z b:Nat} {xe:Bool} {zz:List AV} {u:AV} (hu:get s'.env 0=some u) (hr:VW ρ V A (.ro z [] xe) u) (hl:zz.length=z) :
 ∃ s1' ρ' V' A',evC (erProg C) (j+8+1) (clnE zz b) s'=some (.ret,s1') ∧
  Res base m0 ρ V A ⟨[(2,.sl s.next z 0 0 0 true)],put s.heap s.next (.cells z [] true true),s.next+1⟩ s1' ρ' V' A'∧m0≤s1'.next:=by
 have hn:¬ A s.next:=fun q=>Nat.lt_irrefl _ (S.lt.w _ q)
 obtain ⟨e0,h0,m⟩:=s'
 simp only at hu hm
 have hmo:∀ b,A b→addN A s.next b∧ρ b=ρ b∧((V b∨b=s.next)↔V b):=fun b q=>⟨.inl q,rfl,⟨fun h=>h.elim id fun e=>absurd (e ▸ q) hn,.inl⟩⟩
 cases hr with
 | ronil =>
  refine ⟨⟨put (put (put (put e0 2 .nils) 3 .nils) 4 (.bool true)) 2 .nils,h0,m+4⟩,ρ,fun b=>V b∨b=s.next,addN A s.next,?_,⟨⟨by simp [Srt],?_,⟨?_,?_,?_,?_,?_⟩,⟨?_,?_⟩⟩,Nat.le_succ_of_le hb,?_,?_⟩,Nat.le_trans hm (Nat.le_add_right _ _)⟩
  · simp [clnE,evC,evOps,evOp,wants,evAct,callOf,stepOp,sMv,sEqv,eqVals,eqSl,Opd.ev,ob,om,get_put,setDst,hu,endOps,frzSlots,dropEnv,evSeq,evCond,applyUpd]
  · intro k v hk
    simp only [Pav.get] at hk
    split at hk
    · rename_i e;subst e;cases hk
      exact ⟨.nils,by simp [get_put],.slv _ _ _ _ (.inr rfl) (.inr rfl) (.inl rfl)⟩
    · cases hk
  · intro b o hbo
    rw [get_put] at hbo
    split at hbo
    · rename_i e;exact .inr e.symm
    · exact .inl (S.heap.dom b o hbo)
  · intro b o hbo hv
    rw [get_put] at hbo
    split at hbo
    · cases hbo;exact ⟨z,true,true,rfl⟩
    · rename_i e
      exact S.heap.virt b o hbo (hv.resolve_right fun q=>e q.symm)
  · intro b o hbo hv
    rw [get_put] at hbo
    split at hbo
    · rename_i e;exact absurd (.inr e.symm) hv
    · obtain ⟨o',h1,h2⟩:=S.heap.obj b o hbo (fun q=>hv (.inl q))
      exact ⟨o',h1,h2.mono hmo⟩
  · rintro b (q | q)
    · exact .inl (S.heap.sub b q)
    · exact .inr q
  · rintro b c hb hc vb vc
    exact S.heap.inj b c (hb.resolve_right fun q=>vb (.inr q)) (hc.resolve_right fun q=>vc (.inr q)) (fun q=>vb (.inl q)) (fun q=>vc (.inl q))
  · rintro b (q | q)
    · exact Nat.lt_succ_of_lt (S.lt.w b q)
    · subst q;exact Nat.lt_succ_self _
  · intro b q v
    have:=S.lt.p b (q.resolve_right fun e=>v (.inr e)) (fun e=>v (.inl e))
    simp only at this ⊢;omega
  · intro b hbb
    have hne:b≠s.next:=by omega
    exact ⟨fun q=>hmo b q,fun q=>q.resolve_right hne⟩
  · intro b q v hbb
    exact hi b (q.resolve_right fun e=>v (.inr e)) (fun e=>v (.inl e)) hbb
 | ro _ _ es' _ ex' hc hl2 hx he hr =>
  have:es'=[]:=List.length_eq_zero_iff.1 hl2.symm
  subst this
  have hne:∀ b,A b→¬ V b→ρ b≠m+3:=fun b q v e=>by have:=S.lt.p b q v;simp only at this;omega
  refine ⟨⟨put (put (put (put (put (put (put e0 2 .nils) 3 (.ro z [] ex')) 4 (.bool false)) 5 (.sl (m+3) z 0 0 0 true)) 6 (.ro z [] ex')) 7 (.sl (m+3) z 0 0 0 true)) 2 (.sl (m+3) z 0 0 0 true),put h0 (m+3) (.cells z [] true),m+7⟩,up ρ s.next (m+3),V,addN A s.next,?_,
   ⟨⟨by simp [Srt],?_,new_ok S.heap hn hne ⟨[],true,rfl,fun h=>h,.nil,fun _ e he=>by cases he⟩,⟨?_,?_⟩⟩,Nat.le_succ_of_le hb,?_,?_⟩,Nat.le_trans hm (Nat.le_add_right _ _)⟩
  · simp [clnE,evC,evOps,evOp,wants,evAct,callOf,stepOp,sMv,sEqv,eqVals,eqSl,sBuildS,fillS,sApp,elems,evApp,updOne,Opd.ev,ob,om,get_put,setDst,hu,hl,endOps,frzSlots,dropEnv,evSeq,evCond,applyUpd]
  · intro k v hk
    simp only [Pav.get] at hk
    split at hk
    · rename_i e;subst e;cases hk
      refine ⟨.sl (m+3) z 0 0 0 true,by simp [get_put],?_⟩
      have:up ρ s.next (m+3) s.next=m+3:=by simp [up]
      have key:=VW.sl (ρ:=up ρ s.next (m+3)) (V:=V) (A:=addN A s.next) s.next z 0 0 0 true true (.inr rfl) (fun q=>hn (S.heap.sub _ q)) (fun h=>h)
      rw [this] at key
      exact key
    · cases hk
  · rintro b (q | q)
    · exact Nat.lt_succ_of_lt (S.lt.w b q)
    · subst q;exact Nat.lt_succ_self _
  · intro b q v
    unfold up
    split
    · simp
    · rename_i e
      have:=S.lt.p b (q.resolve_right e) v
      simp only at this ⊢;omega
  · intro b hbb
    have hne2:b≠s.next:=by omega
    exact ⟨fun q=>up_mono hn b q,fun q=>q.resolve_right hne2⟩
  · intro b q v hbb
    unfold up
    split
    · omega
    · rename_i e
      exact hi b (q.resolve_right e) v hbb
theorem code_sim {k:Nat} (ih:CodeSim C k) (hr:RunSim (runWithW C (evW C k)) (runWith (erProg C) (evC (erProg C) k))):CodeSim C (k+1):=by
 intro base c s ex s1 hok he m0 s' ρ V A S hb hi hm
 cases c with
 | skip=>simp only [evW,Option.some.injEq,Prod.mk.injEq] at he;obtain ⟨rfl,rfl⟩:=he;exact ⟨s',ρ,V,A,rfl,⟨S,hb,Old.refl base ρ V A,hi⟩,hm⟩
 | exit id=>simp only [evW,Option.some.injEq,Prod.mk.injEq] at he;obtain ⟨rfl,rfl⟩:=he;exact ⟨s',ρ,V,A,rfl,⟨S,hb,Old.refl base ρ V A,hi⟩,hm⟩
 | ret=>simp only [evW,Option.some.injEq,Prod.mk.injEq] at he;obtain ⟨rfl,rfl⟩:=he;exact ⟨s',ρ,V,A,rfl,⟨S,hb,Old.refl base ρ V A,hi⟩,hm⟩
 | fail=>simp [evW] at he
 | cln zz z b =>
  simp only [evW] at he
  split at he
  · rename_i z' hz
    split at he
    · rename_i hc
      obtain ⟨rfl,hzz,hk⟩:=hc
      simp only [Option.some.injEq,Prod.mk.injEq] at he
      obtain ⟨rfl,rfl⟩:=he
      obtain ⟨x,hx,hx2⟩:=Option.bind_eq_some_iff.1 hz
      obtain ⟨j,rfl⟩:∃ j,k=j+8:=⟨k - 8,by omega⟩
      obtain ⟨u,hu,hr⟩:=S.env 0 x hx
      obtain ⟨xe,hxe⟩:∃ e,x=.ro z' [] e:=by
       unfold isEmptyRo at hx2
       split at hx2
       · cases hx2;exact ⟨_,rfl⟩
       · cases hx2
      subst hxe
      have hl:(erL zz).length=z':=by rw [erL_len];exact hzz
      exact cln_sim S hb hi hm hu hr hl
    · cases he
  · obtain ⟨s1',ρ1,V1,A1,h3,R,h4⟩:=ih base (clnC zz z b) s ex s1 (by simpa [okC,clnC,okOp,okO,okV,okL] using hok) he m0 s' ρ V A S hb hi hm
    exact ⟨s1',ρ1,V1,A1,evC_mono k (k+1) (Nat.le_succ k) _ _ _ h3,R,h4⟩
 | ops l a =>
  simp only [evW] at he
  obtain ⟨s2,h1,he⟩:=ob_some he
  obtain ⟨s3,h2,he⟩:=om_some he
  cases he
  obtain ⟨s1',ρ1,V1,A1,h3,R,h4⟩:=ops_sim hr l s s2 hok h1 s' ρ V A S hb hi hm
  obtain ⟨s2b,h2b,h2⟩:=ob_some h2
  obtain ⟨s2b',h5,e5,R5⟩:=R.frzs _ h2b
  obtain ⟨ρ2,V2,A2,R2⟩:=R5.canon h2 (.inr rfl)
  exact ⟨_,ρ2,V2,A2,by simp only [erC,evC,h3,ob,endOps,h5,om],R2,by rw [← e5] at h4;exact h4⟩
 | draw l un a =>
  simp only [evW] at he
  obtain ⟨⟨s2,ds⟩,h1,he⟩:=ob_some he
  unfold drawEndW at he
  split at he
  · rename_i hap
    obtain ⟨s3,h2,he⟩:=om_some he
    cases he
    have S0:Sim ρ V A ⟨s.env,s.heap,s.next+l.length⟩ ⟨s'.env,s'.heap,s'.next+l.length⟩:=⟨S.srt,S.env,S.heap,fun b q=>Nat.lt_of_lt_of_le (S.lt.w b q) (Nat.le_add_right _ _),fun b q v=>Nat.lt_of_lt_of_le (S.lt.p b q v) (Nat.le_add_right _ _)⟩
    obtain ⟨s1',ds1',ρ1,V1,A1,h3,R,h4,h5⟩:=draw_sim hr l s.next _ s2 [] ds hok h1 s'.next _ [] ρ V A S0 hb (Nat.le_refl _) (fun b q=>.inl (S.lt.w b q)) hi hm (Nat.le_refl _) (fun b q v=>.inl (S.lt.p b q v)) .nil
    obtain ⟨s2b,h2b,h2⟩:=ob_some h2
    obtain ⟨s2b',h6,e6,R6⟩:=R.frzs _ h2b
    obtain ⟨ρ2,V2,A2,R2⟩:=R6.canon h2 (.inr rfl)
    refine ⟨_,ρ2,V2,A2,?_,R2,by rw [← e6] at h4;exact h4⟩
    simp only [erC,evC,List.length_map]
    rw [h3]
    simp only [ob,drawEnd,endOps,h6,om]
    rw [if_pos]
    simp only [List.all_eq_true] at hap ⊢
    exact fun p hp=>apart_vw R.sim.heap.inj h5 (hap p hp)
  · cases he
 | seq a b =>
  simp only [okC,Bool.and_eq_true] at hok
  simp only [evW] at he
  obtain ⟨⟨e1,s2⟩,h1,he⟩:=ob_some he
  obtain ⟨s1',ρ1,V1,A1,h3,R,h4⟩:=ih base a s e1 s2 hok.1 h1 m0 s' ρ V A S hb hi hm
  cases e1 with
  | norm =>
   simp only [evSeqW] at he
   obtain ⟨s2',ρ2,V2,A2,h5,R2,h6⟩:=ih base b s2 ex s1 hok.2 he m0 s1' ρ1 V1 A1 R.sim R.base_le R.hi h4
   exact ⟨s2',ρ2,V2,A2,by simp only [erC,evC,h3,ob,evSeq,h5],⟨R2.sim,R2.base_le,R.old.trans R2.old,R2.hi⟩,h6⟩
  | exit id=>simp only [evSeqW,Option.some.injEq,Prod.mk.injEq] at he;obtain ⟨rfl,rfl⟩:=he;exact ⟨s1',ρ1,V1,A1,by simp only [erC,evC,h3,ob,evSeq],R,h4⟩
  | ret=>simp only [evSeqW,Option.some.injEq,Prod.mk.injEq] at he;obtain ⟨rfl,rfl⟩:=he;exact ⟨s1',ρ1,V1,A1,by simp only [erC,evC,h3,ob,evSeq],R,h4⟩
 | cond c a b =>
  simp only [okC,Bool.and_eq_true] at hok
  simp only [evW] at he
  have hc:=S.env.opd hok.1
  unfold evCondW at he
  split at he
  · rename_i t ht
    rw [ht] at hc
    cases t with
    | true =>
     simp only [if_true] at he
     obtain ⟨s1',ρ1,V1,A1,h3,R,h4⟩:=ih base a s ex s1 hok.2.1 he m0 s' ρ V A S hb hi hm
     exact ⟨s1',ρ1,V1,A1,by simp only [erC,evC,hc.bool_inv,evCond,if_true];exact h3,R,h4⟩
    | false =>
     simp only [Bool.false_eq_true,if_false] at he
     obtain ⟨s1',ρ1,V1,A1,h3,R,h4⟩:=ih base b s ex s1 hok.2.2 he m0 s' ρ V A S hb hi hm
     exact ⟨s1',ρ1,V1,A1,by simp only [erC,evC,hc.bool_inv,evCond,Bool.false_eq_true,if_false];exact h3,R,h4⟩
  · cases he
 | block id b a =>
  simp only [okC] at hok
  simp only [evW] at he
  obtain ⟨⟨e1,s2⟩,h1,he⟩:=ob_some he
  obtain ⟨s1',ρ1,V1,A1,h3,R,h4⟩:=ih base b s e1 s2 hok h1 m0 s' ρ V A S hb hi hm
  cases e1 with
  | norm =>
   simp only [evBlockW] at he
   obtain ⟨s3,h5,he⟩:=om_some he
   cases he
   obtain ⟨ρ2,V2,A2,R2⟩:=R.canon h5 (.inl rfl)
   exact ⟨s1',ρ2,V2,A2,by simp only [erC,evC,h3,om,evBlock],R2,h4⟩
  | exit i =>
   simp only [evBlockW] at he
   split at he
   · rename_i hid
     obtain ⟨s3,h5,he⟩:=om_some he
     cases he
     obtain ⟨ρ2,V2,A2,R2⟩:=R.canon h5 (.inl rfl)
     exact ⟨s1',ρ2,V2,A2,by simp only [erC,evC,h3,om,evBlock,if_pos hid],R2,h4⟩
   · rename_i hid
     simp only [Option.some.injEq,Prod.mk.injEq] at he;obtain ⟨rfl,rfl⟩:=he
     exact ⟨s1',ρ1,V1,A1,by simp only [erC,evC,h3,om,evBlock,if_neg hid],R,h4⟩
  | ret =>
   simp only [evBlockW,Option.some.injEq,Prod.mk.injEq] at he;obtain ⟨rfl,rfl⟩:=he
   exact ⟨s1',ρ1,V1,A1,by simp only [erC,evC,h3,om,evBlock],R,h4⟩
 | loop a b =>
  have hok':okC b=true:=hok
  simp only [evW] at he
  obtain ⟨s0,h0,he⟩:=ob_some he
  obtain ⟨⟨e1,s2⟩,h1,he⟩:=ob_some he
  obtain ⟨ρ0,V0,A0,R0⟩:=(⟨S,hb,Old.refl base ρ V A,hi⟩:Res base m0 ρ V A s s' ρ V A).canon h0 (s2':=dropEnv (maskOf a) s') (.inr rfl)
  obtain ⟨s1',ρ1,V1,A1,h3,R,h4⟩:=ih base b s0 e1 s2 hok' h1 m0 _ ρ0 V0 A0 R0.sim R0.base_le R0.hi hm
  have R':Res base m0 ρ V A s2 s1' ρ1 V1 A1:=⟨R.sim,R.base_le,R0.old.trans R.old,R.hi⟩
  cases e1 with
  | norm =>
   simp only [evSeqW] at he
   obtain ⟨s2',ρ2,V2,A2,h5,R2,h6⟩:=ih base (.loop a b) s2 ex s1 hok he m0 s1' ρ1 V1 A1 R.sim R.base_le R.hi h4
   exact ⟨s2',ρ2,V2,A2,by simp only [erC,evC,h3,ob,evSeq];exact h5,⟨R2.sim,R2.base_le,R'.old.trans R2.old,R2.hi⟩,h6⟩
  | exit id=>simp only [evSeqW,Option.some.injEq,Prod.mk.injEq] at he;obtain ⟨rfl,rfl⟩:=he;exact ⟨s1',ρ1,V1,A1,by simp only [erC,evC,h3,ob,evSeq],R',h4⟩
  | ret=>simp only [evSeqW,Option.some.injEq,Prod.mk.injEq] at he;obtain ⟨rfl,rfl⟩:=he;exact ⟨s1',ρ1,V1,A1,by simp only [erC,evC,h3,ob,evSeq],R',h4⟩
theorem results_vw {ρ:Nat→Nat} {V A:Nat→Prop} {e:Env} {e':Env} {h:WHeap} {h':Heap} (he:EW ρ V A e e') (H:HW ρ V A h h') {rs:List CRes} {v:AV} (hv:resultsW e h rs=some v):∃ v',Pav.results e' h' rs=some v'∧VW ρ V A v v':=by
 obtain ⟨vs,h1,rfl⟩:=om_some hv
 have one:∀ r x,resOfW e h r=some x→∃ x',resOf e' h' r=some x'∧VW ρ V A x x':=by
  intro r x hx
  cases r with
  | tmp t=>exact he t x hx
  | cell t k ag =>
   simp only [resOfW] at hx
   split at hx
   · rename_i b i o hg
     obtain ⟨p,h2,h3⟩:=he t _ hg
     obtain ⟨rfl,hA,hV⟩:=h3.ptr_inv
     unfold wLoadAt at hx
     split at hx
     · rename_i z es mu dt hgb
       obtain ⟨cs,h4,h5⟩:=ob_some hx
       obtain ⟨o',g1,es',mu',rfl,_,ge,_⟩:=H.obj b _ hgb hV
       obtain ⟨cs',h6,h7⟩:=ge.get h4
       obtain ⟨v',h8,h9⟩:=loadC_vw (h7.drop o) h5
       exact ⟨v',by simp only [resOf,h2,g1,loadAt,h6,ob];exact h8,h9⟩
     · cases hx
   · cases hx
 have lst:∀ (rs:List CRes) (vs:List AV),mapO (resOfW e h) rs=some vs→∃ vs',mapO (resOf e' h') rs=some vs'∧Rel2 (VW ρ V A) vs vs':=by
  intro rs
  induction rs with
  | nil=>intro vs hq;simp only [mapO,Option.some.injEq] at hq;subst hq;exact ⟨[],rfl,.nil⟩
  | cons r rs ih =>
   intro vs hq
   simp only [mapO] at hq ⊢
   obtain ⟨x,h2,hq⟩:=ob_some hq
   obtain ⟨xs,h3,rfl⟩:=om_some hq
   obtain ⟨x',h4,h5⟩:=one r x h2
   obtain ⟨xs',h6,h7⟩:=ih xs h3
   exact ⟨x'::xs',by rw [h4,h6];rfl,.cons h5 h7⟩
 obtain ⟨vs',h2,h3⟩:=lst rs vs h1
 refine ⟨tupled vs',by simp only [Pav.results,h2,om],?_⟩
 cases vs with
 | nil=>rw [h3.inv_nil];exact VW.mktup .nil
 | cons a r =>
  obtain ⟨b,t,rfl,h4,h5⟩:=h3.inv_cons
  cases r with
  | nil=>rw [h5.inv_nil];exact h4
  | cons a2 r2 =>
   obtain ⟨b2,t2,rfl,h6,h7⟩:=h5.inv_cons
   exact VW.mktup (.cons h4 (.cons h6 h7))
theorem argEnv_get:∀ (l:List AV) (k j:Nat),get (argEnv k l) j=if j < k then none else l[j - k]?:=by
 intro l
 induction l with
 | nil=>intro k j;simp [argEnv,Pav.get]
 | cons a l ih =>
  intro k j
  simp only [argEnv,Pav.get]
  by_cases h1:k=j
  · subst h1;simp
  · rw [if_neg h1,ih]
    by_cases h2:j < k
    · rw [if_pos (by omega),if_pos h2]
    · rw [if_neg (by omega),if_neg h2]
      have:j - k=(j - (k+1))+1:=by omega
      rw [this];simp
theorem erTree_get:∀ (t:WTree) (g:Nat),(erTree t).get g=(t.get g).map erFn:=by
 intro t
 induction t with
 | leaf=>intro g;rfl
 | node l k f r ihl ihr =>
  intro g
  simp only [erTree,Tree.get,WTree.get]
  split
  · rfl
  · split
    · exact ihl g
    · exact ihr g
theorem okTree_get:∀ (t:WTree) (g:Nat) (f:WFn),okTree t=true→t.get g=some f→okC f.body=true:=by
 intro t
 induction t with
 | leaf=>intro g f _ h;simp [WTree.get] at h
 | node l k f r ihl ihr =>
  intro g f' hok h
  simp only [okTree,Bool.and_eq_true] at hok
  simp only [WTree.get] at h
  split at h
  · cases h;exact hok.2.1
  · split at h
    · exact ihl g f' hok.1 h
    · exact ihr g f' hok.2.2 h
theorem run_sim (hok:okTree C.fns=true) {k:Nat} (hc:CodeSim C k):RunSim (runWithW C (evW C k)) (runWith (erProg C) (evC (erProg C) k)):=by
 intro f args h n v h1 n1 hrun ρ V A args' h' m ha H lt
 unfold runWithW at hrun
 obtain ⟨fn,hf,hrun⟩:=ob_some hrun
 split at hrun
 · rename_i hl
   obtain ⟨⟨ex,s1⟩,h2,h3⟩:=ob_some hrun
   have S:Sim ρ V A ⟨argW 0 args [],h,n⟩ ⟨argEnv 0 args',h',m⟩:=by
    refine ⟨srt_arg args 0,fun j x hj=>?_,H,lt⟩
    have hj2:get (argEnv 0 args) j=some x:=by
     have hm:=get_mem hj
     rw [argW_eq,List.append_nil] at hm
     have hm2:=List.mem_reverse.1 hm
     have key:∀ (l:List AV) (k:Nat),(j,x) ∈ argEnv k l→get (argEnv k l) j=some x:=by
      intro l
      induction l with
      | nil=>intro k hq;simp [argEnv] at hq
      | cons v l ih =>
       intro k hq
       simp only [argEnv,Pav.get]
       rcases List.mem_cons.1 hq with q | q
       · cases q;simp
       · have:=(srt_arg0 l (k+1)).2 _ q
         simp only at this
         rw [if_neg (by omega)]
         exact ih (k+1) q
     exact key args 0 hm2
    simp only [argEnv_get,Nat.not_lt_zero,if_false,Nat.sub_zero] at hj2 ⊢
    exact ha.get hj2
   obtain ⟨s1',ρ1,V1,A1,h4,R,h5⟩:=hc n fn.body _ ex s1 (okTree_get _ _ _ hok hf) h2 m ⟨argEnv 0 args',h',m⟩ ρ V A S (Nat.le_refl _) (fun b hb _ hn=>absurd (lt.w b hb) (by omega)) (Nat.le_refl _)
   have fin:∃ v',Pav.results s1'.env s1'.heap fn.res=some v'∧VW ρ1 V1 A1 v v'∧s1.heap=h1∧s1.next=n1∧∀ i,ex≠.exit i:=by
    unfold fnEndW at h3
    cases ex with
    | exit i=>cases h3
    | norm =>
     obtain ⟨w,q1,q2⟩:=om_some h3
     cases q2
     obtain ⟨v',q3,q4⟩:=results_vw R.sim.env R.sim.heap q1
     exact ⟨v',q3,q4,rfl,rfl,fun i e=>by cases e⟩
    | ret =>
     obtain ⟨w,q1,q2⟩:=om_some h3
     cases q2
     obtain ⟨v',q3,q4⟩:=results_vw R.sim.env R.sim.heap q1
     exact ⟨v',q3,q4,rfl,rfl,fun i e=>by cases e⟩
   obtain ⟨v',h6,h7,rfl,rfl,h8⟩:=fin
   refine ⟨v',s1'.heap,s1'.next,ρ1,V1,A1,?_,h7,R.sim.heap,R.sim.lt,fun b hb=>(R.old b (lt.w b hb)).1 hb,fun b hb=>?_,fun b hb hv=>?_,R.base_le,h5⟩
   · unfold runWith
     have:(erProg C).fns.get f=some (erFn fn):=by
      show (erTree C.fns).get f=_
      rw [erTree_get,hf];rfl
     rw [this]
     have hnp:args'.length=(erFn fn).np:=by rw [← ha.1];exact hl
     simp only [ob]
     rw [if_pos hnp,show (erFn fn).body=erC fn.body from rfl,h4]
     cases ex with
     | exit i=>exact absurd rfl (h8 i)
     | norm=>simp only [fnEnd,show (erFn fn).res=fn.res from rfl,h6,om]
     | ret=>simp only [fnEnd,show (erFn fn).res=fn.res from rfl,h6,om]
   · rcases Nat.lt_or_ge b n with q | q
     · exact .inl ((R.old b q).2 hb)
     · exact .inr q
   · rcases Nat.lt_or_ge b n with q | q
     · have:=(R.old b q).2 hb
       exact .inl ⟨this,((R.old b q).1 this).2.1⟩
     · exact .inr (R.hi b hb hv q)
 · cases hrun
theorem all_sim (hok:okTree C.fns=true):∀ k,CodeSim C k:=by
 intro k
 induction k with
 | zero=>intro base c s ex s1 _ he;simp [evW] at he
 | succ k ih=>exact code_sim ih (run_sim hok ih)
theorem callW_ok (hok:okTree C.fns=true) {k f:Nat} {args args':List AV} {v:AV} (ha:Rel2 (VD id fun _=>False) args args') (hc:callW C k f args=some v):∃ v',callF (erProg C) k f args'=some v'∧VD id (fun _=>False) v v' :=
 pure_sim (run_sim hok (all_sim hok k)) ha hc
end
end Go.Pw
end
section
set_option linter.unusedSimpArgs false
set_option linter.unusedVariables false
namespace Go.Pw
open Go Go.Pav
def RunLeW (r r':WRun):Prop:=∀ f args h n x,r f args h n=some x→r' f args h n=some x
section
variable {C:WProg} {r r':WRun}
theorem evCallW_mono (hr:RunLeW r r') {f:Nat} {args:List AV} {h:WHeap} {nid n:Nat} {c:WCalled} (hc:evCallW C r f args h nid n=some c):evCallW C r' f args h nid n=some c:=by
 unfold evCallW at hc ⊢
 split
 · rename_i hi
   rw [if_pos hi] at hc
   split
   · rename_i hf
     rw [if_pos hf] at hc
     exact ob_mono hc (fun x hx=>hx) fun az has=>ob_mono has (fun v hv=>ob_mono hv (fun x hx=>hr _ _ _ _ _ hx) fun x hx=>hx) fun x hx=>hx
   · rename_i hf
     rw [if_neg hf] at hc
     exact om_mono hc fun x hx=>hr _ _ _ _ _ hx
 · rename_i hi
   rw [if_neg hi] at hc
   split
   · rename_i hp;rw [if_pos hp] at hc;exact om_mono hc fun x hx=>hr _ _ _ _ _ hx
   · rename_i hp
     rw [if_neg hp] at hc
     exact ob_mono hc (fun x hx=>hx) fun az has=>om_mono has fun v hv=>ob_mono hv (fun x hx=>hr _ _ _ _ _ hx) fun x hx=>hx
theorem evActW_mono (hr:RunLeW r r') {op:COp} {nid:Nat} {e:Env} {h:WHeap} {n:Nat} {d:WDid} (hd:evActW C r op nid e h n=some d):evActW C r' op nid e h n=some d:=by
 unfold evActW at hd ⊢
 split
 · rename_i hc;rw [hc] at hd;cases hd
 · rename_i hc;rw [hc] at hd;exact om_mono hd fun c hc=>evCallW_mono hr hc
 · rename_i hc;rw [hc] at hd;exact hd
theorem evOpW_mono (hr:RunLeW r r') {o:COper} {nid:Nat} {e:Env} {h:WHeap} {n:Nat} {d:WDid} (hd:evOpW C r o nid e h n=some d):evOpW C r' o nid e h n=some d:=by
 unfold evOpW at hd ⊢
 split
 · rename_i hc;rw [hc] at hd;cases hd
 · rename_i hc;rw [hc] at hd;exact hd
 · rename_i hc;rw [hc] at hd;exact evActW_mono hr hd
theorem evOpsW_mono (hr:RunLeW r r'):∀ (l:List COper) (s s':WSt),evOpsW C r l s=some s'→evOpsW C r' l s=some s':=by
 intro l
 induction l with
 | nil=>intro s s' h;exact h
 | cons o l ih=>intro s s' h;exact ob_mono h (fun d hd=>evOpW_mono hr hd) fun d hd=>ih _ _ hd
theorem evDrawW_mono (hr:RunLeW r r'):∀ (l:List COper) (nid:Nat) (s:WSt) (ds:List WDid) (x:WSt × List WDid),evDrawW C r l nid s ds=some x→evDrawW C r' l nid s ds=some x:=by
 intro l
 induction l with
 | nil=>intro nid s ds x h;exact h
 | cons o l ih=>intro nid s ds x h;exact ob_mono h (fun d hd=>evOpW_mono hr hd) fun d hd=>ih _ _ _ _ hd
theorem runWithW_mono {ev ev':WEv} (he:∀ b c s x,ev b c s=some x→ev' b c s=some x):RunLeW (runWithW C ev) (runWithW C ev'):=by
 intro f args h n x hx
 refine ob_mono hx (fun a ha=>ha) fun fn hfn=>?_
 split
 · rename_i hl
   rw [if_pos hl] at hfn
   exact ob_mono hfn (fun a ha=>he _ _ _ _ ha) fun a ha=>ha
 · rename_i hl
   rw [if_neg hl] at hfn;cases hfn
theorem evSeqW_mono {b b':WSt→Option (Ex × WSt)} (h:∀ s x,b s=some x→b' s=some x) {r:Ex × WSt} {x:Ex × WSt} (hx:evSeqW b r=some x):evSeqW b' r=some x:=by
 unfold evSeqW at hx ⊢
 split
 · rename_i hr;rw [hr] at hx;exact h _ _ hx
 · split at hx
   · rename_i h1 _ h2;exact absurd h2 h1
   · exact hx
theorem evW_mono:∀ (n m:Nat),n≤m→∀ (base:Nat) (c:WCode) (s:WSt) (x:Ex × WSt),evW C n base c s=some x→evW C m base c s=some x:=by
 intro n
 induction n with
 | zero=>intro m _ base c s x h;simp only [evW] at h;cases h
 | succ n ih =>
  intro m hm base c s x h
  obtain ⟨m,rfl⟩:∃ k,m=k+1:=⟨m - 1,by omega⟩
  have ih':=ih m (by omega)
  have hr:RunLeW (runWithW C (evW C n)) (runWithW C (evW C m)):=runWithW_mono ih'
  cases c with
  | skip=>exact h
  | exit id=>exact h
  | ret=>exact h
  | fail=>exact h
  | cln zz z b =>
   simp only [evW] at h ⊢
   split
   · rename_i z' hz
     rw [hz] at h
     simp only at h
     split at h
     · rename_i hc;rw [if_pos ⟨hc.1,hc.2.1,by omega⟩];exact h
     · cases h
   · rename_i hz
     rw [hz] at h
     exact ih' _ _ _ _ h
  | ops l a=>simp only [evW] at h ⊢;exact ob_mono h (fun s' hs=>evOpsW_mono hr l s s' hs) fun x hx=>hx
  | draw l un a=>simp only [evW] at h ⊢;exact ob_mono h (fun x hx=>evDrawW_mono hr l _ _ _ x hx) fun x hx=>hx
  | seq a b=>simp only [evW] at h ⊢;exact ob_mono h (fun x hx=>ih' _ _ _ _ hx) fun x hx=>evSeqW_mono (fun s x hx=>ih' _ _ _ _ hx) hx
  | cond c a b =>
   simp only [evW] at h ⊢
   unfold evCondW at h ⊢
   split
   · rename_i t hv
     rw [hv] at h
     cases t with
     | true=>exact ih' _ _ _ _ h
     | false=>exact ih' _ _ _ _ h
   · split at h
     · rename_i h1 _ t hv;exact absurd hv (h1 t)
     · cases h
  | block id b a=>simp only [evW] at h ⊢;exact ob_mono h (fun x hx=>ih' _ _ _ _ hx) fun x hx=>hx
  | loop a b=>simp only [evW] at h ⊢;exact ob_mono h (fun x hx=>hx) fun s hs=>ob_mono hs (fun x hx=>ih' _ _ _ _ hx) fun x hx=>evSeqW_mono (fun s x hx=>ih' _ _ _ _ hx) hx
theorem runW_mono {n m:Nat} (h:n≤m):RunLeW (runW C n) (runW C m):=runWithW_mono (evW_mono n m h)
end
section
variable (C:WProg)
noncomputable def CdW:WEv:=fun base c s=>lim fun n=>evW C n base c s
noncomputable def RnW:WRun:=runWithW C (CdW C)
noncomputable def FnW (f:Nat) (args:List AV):Option AV:=pureCallW (RnW C) f args
end
section
variable {C:WProg} {base:Nat}
theorem mono_W (base:Nat) (c:WCode) (s:WSt):Mono fun n=>evW C n base c s:=fun n m h a ha=>evW_mono n m h base c s a ha
theorem cdW_iff {c:WCode} {s:WSt} {x:Ex × WSt}:CdW C base c s=some x↔∃ n,evW C n base c s=some x:=lim_iff (mono_W base c s)
theorem evW_cd {n:Nat} {c:WCode} {s:WSt} {x:Ex × WSt} (h:evW C n base c s=some x):CdW C base c s=some x:=cdW_iff.2 ⟨n,h⟩
theorem runle_rnW (n:Nat):RunLeW (runW C n) (RnW C):=runWithW_mono fun _ _ _ _ h=>evW_cd h
theorem rnW_run {f:Nat} {args:List AV} {h:WHeap} {n:Nat} {x:AV × WHeap × Nat} (hx:RnW C f args h n=some x):∃ k,runW C k f args h n=some x:=by
 unfold RnW runWithW at hx
 obtain ⟨fn,hf,hx⟩:=ob_some hx
 split at hx
 · rename_i hl
   obtain ⟨y,hc,hx⟩:=ob_some hx
   obtain ⟨k,hk⟩:=cdW_iff.1 hc
   refine ⟨k,?_⟩
   unfold runW runWithW
   rw [hf]
   simp only [ob,if_pos hl,hk]
   exact hx
 · cases hx
theorem evCallW_cont {f:Nat} {args:List AV} {h:WHeap} {nid n:Nat} {c:WCalled} (hc:evCallW C (RnW C) f args h nid n=some c):∃ k,evCallW C (runW C k) f args h nid n=some c:=by
 unfold evCallW at hc ⊢
 split
 · rename_i hi
   rw [if_pos hi] at hc
   split
   · rename_i hf
     rw [if_pos hf] at hc
     obtain ⟨az,h1,hc⟩:=ob_some hc
     obtain ⟨x,h2,hend⟩:=ob_some hc
     obtain ⟨r,h3,h4⟩:=ob_some h2
     obtain ⟨k,hk⟩:=rnW_run h3
     refine ⟨k,?_⟩
     rw [h1]
     unfold freshCallW
     simp only [ob,hk]
     rw [h4]
     exact hend
   · rename_i hf
     rw [if_neg hf] at hc
     obtain ⟨r,h1,rfl⟩:=om_some hc
     obtain ⟨k,hk⟩:=rnW_run h1
     exact ⟨k,by rw [hk];rfl⟩
 · rename_i hi
   rw [if_neg hi] at hc
   split
   · rename_i hp
     rw [if_pos hp] at hc
     obtain ⟨r,h1,rfl⟩:=om_some hc
     obtain ⟨k,hk⟩:=rnW_run h1
     exact ⟨k,by rw [hk];rfl⟩
   · rename_i hp
     rw [if_neg hp] at hc
     obtain ⟨az,h1,hc⟩:=ob_some hc
     obtain ⟨v,h2,rfl⟩:=om_some hc
     obtain ⟨r,h3,h4⟩:=ob_some h2
     obtain ⟨k,hk⟩:=rnW_run h3
     exact ⟨k,by rw [h1];simp only [ob,pureCallW,hk,h4];rfl⟩
theorem evOpW_cont {o:COper} {nid:Nat} {e:Env} {h:WHeap} {n:Nat} {d:WDid} (hd:evOpW C (RnW C) o nid e h n=some d):∃ k,evOpW C (runW C k) o nid e h n=some d:=by
 unfold evOpW at hd ⊢
 split
 · rename_i hc;rw [hc] at hd;cases hd
 · rename_i hc;rw [hc] at hd;exact ⟨0,hd⟩
 · rename_i hc
   rw [hc] at hd
   simp only at hd
   unfold evActW at hd ⊢
   split
   · rename_i hc;rw [hc] at hd;cases hd
   · rename_i hc
     rw [hc] at hd
     simp only at hd
     obtain ⟨r,h1,rfl⟩:=om_some hd
     obtain ⟨k,hk⟩:=evCallW_cont h1
     exact ⟨k,by rw [hk];rfl⟩
   · rename_i hc;rw [hc] at hd;exact ⟨0,hd⟩
theorem evOpsW_cont:∀ (l:List COper) (s s':WSt),evOpsW C (RnW C) l s=some s'→∃ k,evOpsW C (runW C k) l s=some s':=by
 intro l
 induction l with
 | nil=>intro s s' h;exact ⟨0,h⟩
 | cons o l ih =>
  intro s s' h
  simp only [evOpsW] at h ⊢
  obtain ⟨d,hd,h⟩:=ob_some h
  obtain ⟨k1,h1⟩:=evOpW_cont hd
  obtain ⟨k2,h2⟩:=ih _ _ h
  refine ⟨max k1 k2,?_⟩
  rw [evOpW_mono (runW_mono (Nat.le_max_left k1 k2)) h1]
  exact evOpsW_mono (runW_mono (Nat.le_max_right k1 k2)) _ _ _ h2
theorem evDrawW_cont:∀ (l:List COper) (nid:Nat) (s:WSt) (ds:List WDid) (x:WSt × List WDid),evDrawW C (RnW C) l nid s ds=some x→∃ k,evDrawW C (runW C k) l nid s ds=some x:=by
 intro l
 induction l with
 | nil=>intro nid s ds x h;exact ⟨0,h⟩
 | cons o l ih =>
  intro nid s ds x h
  simp only [evDrawW] at h ⊢
  obtain ⟨d,hd,h⟩:=ob_some h
  obtain ⟨k1,h1⟩:=evOpW_cont hd
  obtain ⟨k2,h2⟩:=ih _ _ _ _ h
  refine ⟨max k1 k2,?_⟩
  rw [evOpW_mono (runW_mono (Nat.le_max_left k1 k2)) h1]
  exact evDrawW_mono (runW_mono (Nat.le_max_right k1 k2)) _ _ _ _ _ h2
theorem cw_skip (s:WSt):CdW C base .skip s=some (.norm,s):=evW_cd (n:=1) rfl
theorem cw_exit (id:Nat) (s:WSt):CdW C base (.exit id) s=some (.exit id,s):=evW_cd (n:=1) rfl
theorem cw_ret (s:WSt):CdW C base .ret s=some (.ret,s):=evW_cd (n:=1) rfl
theorem cw_succ {c:WCode} {s:WSt} {x:Ex × WSt}:CdW C base c s=some x↔∃ n,evW C (n+1) base c s=some x:=by
 rw [cdW_iff]
 constructor
 · rintro ⟨n,h⟩;exact ⟨n,evW_mono n (n+1) (Nat.le_succ n) base c s x h⟩
 · rintro ⟨n,h⟩;exact ⟨_,h⟩
theorem evSeqW_iff {b:WCode} {r x:Ex × WSt}:evSeqW (CdW C base b) r=some x↔∃ n,evSeqW (evW C n base b) r=some x:=by
 obtain ⟨ex,s⟩:=r
 cases ex with
 | norm=>simp only [evSeqW];exact cdW_iff
 | exit id=>simp [evSeqW]
 | ret=>simp [evSeqW]
theorem cw_seq (a b:WCode) (s:WSt):CdW C base (.seq a b) s=ob (CdW C base a s) (evSeqW (CdW C base b)):=by
 refine opt_ext fun x=>?_
 rw [cw_succ,ob_iff]
 simp only [evW,ob_iff]
 constructor
 · rintro ⟨n,r,h1,h2⟩;exact ⟨r,evW_cd h1,evSeqW_iff.2 ⟨n,h2⟩⟩
 · rintro ⟨r,h1,h2⟩
   obtain ⟨n,h1⟩:=cdW_iff.1 h1
   obtain ⟨m,h2⟩:=evSeqW_iff.1 h2
   exact ⟨max n m,r,evW_mono _ _ (Nat.le_max_left n m) _ _ _ _ h1,evSeqW_mono (fun s x hx=>evW_mono _ _ (Nat.le_max_right n m) _ _ _ _ hx) h2⟩
theorem cw_loop (a:Ann) (b:WCode) (s:WSt):CdW C base (.loop a b) s=ob (canon base a s) fun s=>ob (CdW C base b s) (evSeqW (CdW C base (.loop a b))):=by
 refine opt_ext fun x=>?_
 rw [cw_succ,ob_iff]
 simp only [evW,ob_iff]
 constructor
 · rintro ⟨n,s0,h0,r,h1,h2⟩;exact ⟨s0,h0,r,evW_cd h1,evSeqW_iff.2 ⟨n,h2⟩⟩
 · rintro ⟨s0,h0,r,h1,h2⟩
   obtain ⟨n,h1⟩:=cdW_iff.1 h1
   obtain ⟨m,h2⟩:=evSeqW_iff.1 h2
   exact ⟨max n m,s0,h0,r,evW_mono _ _ (Nat.le_max_left n m) _ _ _ _ h1,evSeqW_mono (fun s x hx=>evW_mono _ _ (Nat.le_max_right n m) _ _ _ _ hx) h2⟩
theorem cw_block (id:Nat) (b:WCode) (a:Ann) (s:WSt):CdW C base (.block id b a) s=ob (CdW C base b s) (evBlockW base id a):=by
 refine opt_ext fun x=>?_
 rw [cw_succ,ob_iff]
 simp only [evW,ob_iff]
 constructor
 · rintro ⟨n,r,h1,h2⟩;exact ⟨r,evW_cd h1,h2⟩
 · rintro ⟨r,h1,h2⟩
   obtain ⟨n,h1⟩:=cdW_iff.1 h1
   exact ⟨n,r,h1,h2⟩
theorem cw_cond (c:Opd) (a b:WCode) (s:WSt):CdW C base (.cond c a b) s=evCondW (CdW C base a) (CdW C base b) (c.ev s.env) s:=by
 refine opt_ext fun x=>?_
 rw [cw_succ]
 simp only [evW]
 unfold evCondW
 split
 · rename_i t _
   cases t with
   | true=>exact cdW_iff.symm
   | false=>exact cdW_iff.symm
 · simp
theorem cw_ops (l:List COper) (a:Ann) (s:WSt):CdW C base (.ops l a) s=ob (evOpsW C (RnW C) l s) fun s=>om (canonF base a s) fun s=>(.norm,s):=by
 refine opt_ext fun x=>?_
 rw [cw_succ,ob_iff]
 simp only [evW,ob_iff]
 constructor
 · rintro ⟨n,r,h1,h2⟩;exact ⟨r,evOpsW_mono (runle_rnW n) _ _ _ h1,h2⟩
 · rintro ⟨r,h1,h2⟩
   obtain ⟨n,h1⟩:=evOpsW_cont _ _ _ h1
   exact ⟨n,r,h1,h2⟩
theorem cw_draw (l:List COper) (un:List (Nat × Nat)) (a:Ann) (s:WSt):CdW C base (.draw l un a) s=ob (evDrawW C (RnW C) l s.next ⟨s.env,s.heap,s.next+l.length⟩ []) (drawEndW base un a):=by
 refine opt_ext fun x=>?_
 rw [cw_succ,ob_iff]
 simp only [evW,ob_iff]
 constructor
 · rintro ⟨n,r,h1,h2⟩;exact ⟨r,evDrawW_mono (runle_rnW n) _ _ _ _ _ h1,h2⟩
 · rintro ⟨r,h1,h2⟩
   obtain ⟨n,h1⟩:=evDrawW_cont _ _ _ _ _ h1
   exact ⟨n,r,h1,h2⟩
theorem cw_cln (zz:List AV) (z b:Nat) (s:WSt):CdW C base (.cln zz z b) s=match (Pav.get s.env 0).bind isEmptyRo with
 | some z'=>if z'=z∧zz.length=z then some (.ret,⟨[(2,.sl s.next z 0 0 0 true)],Pav.put s.heap s.next (.cells z [] true true),s.next+1⟩) else none
 | none=>CdW C base (clnC zz z b) s:=by
 refine opt_ext fun x=>?_
 rw [cw_succ]
 simp only [evW]
 cases hq:(Pav.get s.env 0).bind isEmptyRo with
 | some z' =>
  simp only
  by_cases hc:z'=z∧zz.length=z
  · rw [if_pos hc]
    constructor
    · rintro ⟨n,h⟩
      split at h
      · exact h
      · cases h
    · intro h;exact ⟨8,by rw [if_pos ⟨hc.1,hc.2,by omega⟩];exact h⟩
  · rw [if_neg hc]
    constructor
    · rintro ⟨n,h⟩
      rw [if_neg (fun w=>hc ⟨w.1,w.2.1⟩)] at h
      exact h
    · intro h;cases h
 | none=>exact cdW_iff.symm
theorem fnW_call {f:Nat} {args:List AV} {v:AV}:FnW C f args=some v↔∃ n,callW C n f args=some v:=by
 unfold FnW callW pureCallW
 simp only [ob_iff]
 constructor
 · rintro ⟨r,h1,h2⟩
   obtain ⟨k,h1⟩:=rnW_run h1
   exact ⟨k,r,h1,h2⟩
 · rintro ⟨k,r,h1,h2⟩;exact ⟨r,runle_rnW k _ _ _ _ _ h1,h2⟩
end
end Go.Pw
end
section
set_option linter.unusedSimpArgs false
set_option linter.unusedVariables false
namespace Go.Pw
open Go Go.Pav
inductive Frame where
 | sq (b:WCode)
 | bk (id:Nat) (a:Ann)
 | lp (a:Ann) (b:WCode)
def setE:Env→Nat→AV→Env
 | [],_,_=>[]
 | (k,v)::r,g,x=>if k=g then (k,x)::r else (k,v)::setE r g x
section
variable {β:Type}
noncomputable def RK (C:WProg) (base:Nat):List Frame→Ex × WSt→Option (Ex × WSt)
 | [],r=>some r
 | .sq b::k,r=>ob (evSeqW (CdW C base b) r) (RK C base k)
 | .bk id a::k,r=>ob (evBlockW base id a r) (RK C base k)
 | .lp a b::k,r=>ob (evSeqW (CdW C base (.loop a b)) r) (RK C base k)
noncomputable def CK (C:WProg) (base:Nat) (fin:Ex × WSt→Option β) (k:List Frame) (c:WCode) (s:WSt):Option β:=ob (CdW C base c s) fun r=>ob (RK C base k r) fin
noncomputable def NK (C:WProg) (base:Nat) (fin:Ex × WSt→Option β) (k:List Frame) (ex:Ex) (s:WSt):Option β:=ob (RK C base k (ex,s)) fin
noncomputable def AK (C:WProg) (base:Nat) (fin:Ex × WSt→Option β) (k:List Frame) (s:Option WSt):Option β:=ob s fun s=>NK C base fin k .norm s
noncomputable def LK (C:WProg) (base:Nat) (fin:Ex × WSt→Option β) (k:List Frame) (b:WCode) (s:Option WSt):Option β:=ob s fun s=>CK C base fin k b s
noncomputable def OK (C:WProg) (base:Nat) (fin:Ex × WSt→Option β) (k:List Frame) (a:Ann) (l:List COper) (s:WSt):Option β :=
 ob (evOpsW C (RnW C) l s) fun s=>AK C base fin k (canonF base a s)
noncomputable def SK (C:WProg) (base:Nat) (fin:Ex × WSt→Option β) (k:List Frame) (a:Ann) (l:List COper) (d:Option Nat) (e:Env) (h:WHeap) (n:Nat) (x:Option (AV × WUpd)):Option β :=
 ob x fun x=>OK C base fin k a l ⟨setD e d x.1,applyW h x.2,n⟩
noncomputable def condK (C:WProg) (base:Nat) (fin:Ex × WSt→Option β) (k:List Frame) (a b:WCode) (s:WSt) (v:AV):Option β :=
 match v with
 | .bool t=>if t=true then CK C base fin k a s else CK C base fin k b s
 | _=>none
noncomputable def GK (C:WProg) (base:Nat) (fin:Ex × WSt→Option β) (k:List Frame) (a:Ann) (l:List COper) (d:Option Nat) (op:COp) (g:Nat) (w:Bool) (e:Env) (h:WHeap) (n:Nat) (v:Option AV):Option β :=
 match v with
 | some (.bool b)=>if b=w then OK C base fin k a (⟨d,none,op⟩::l) ⟨setE e g (.bool w),h,n⟩ else OK C base fin k a l ⟨setD (setE e g (.bool (!w))) d (.tup []),h,n+1⟩
 | some (.tup [])=>OK C base fin k a l ⟨setD e d (.tup []),h,n+1⟩
 | _=>none
noncomputable def VK (C:WProg) (base:Nat) (fin:Ex × WSt→Option β) (k:List Frame) (a:Ann) (l:List COper) (d:Option Nat) (e:Env) (h:WHeap) (n:Nat) (args:List AV) (v:Option AV):Option β :=
 ob v fun v=>OK C base fin k a l ⟨setD e d v,applyW h (marksW h args v),n⟩
noncomputable def WK (C:WProg) (base:Nat) (fin:Ex × WSt→Option β) (k:List Frame) (a:Ann) (l:List COper) (d:Option Nat) (e:Env) (r:Option (AV × WHeap × Nat)):Option β :=
 ob r fun r=>OK C base fin k a l ⟨setD e d r.1,r.2.1,r.2.2⟩
noncomputable def PK (C:WProg) (base:Nat) (fin:Ex × WSt→Option β) (k:List Frame) (a:Ann) (l:List COper) (d:Option Nat) (e:Env) (h:WHeap) (n:Nat) (f:Nat) (args:List AV) (az:Option (List AV)):Option β :=
 ob az fun az=>VK C base fin k a l d e h n args (FnW C f az)
noncomputable def BSK (C:WProg) (base:Nat) (fin:Ex × WSt→Option β) (k:List Frame) (a:Ann) (l:List COper) (d:Option Nat) (e:Env) (h:WHeap) (n:Nat) (v:AV) (u:WUpd) (ok:Bool):Option β :=
 if ok=true then OK C base fin k a l ⟨setD e d v,applyW h u,n⟩ else none
noncomputable def FSK (C:WProg) (base:Nat) (fin:Ex × WSt→Option β) (k:List Frame) (a:Ann) (l:List COper) (d:Option Nat) (e:Env) (h:WHeap) (n:Nat) (br:Bool) (args:List AV) (x:Option (AV × WUpd)):Option β :=
 ob x fun x=>if br=true then BSK C base fin k a l d e h n x.1 x.2 (bareXW x) else OK C base fin k a l ⟨setD e d x.1,applyW h (markFrozenW h (args.flatMap (reachW h frzDepth))++x.2),n⟩
noncomputable def FPK (C:WProg) (base:Nat) (fin:Ex × WSt→Option β) (k:List Frame) (a:Ann) (l:List COper) (d:Option Nat) (e:Env) (h:WHeap) (n:Nat) (f:Nat) (args:List AV) (az:Option (List AV)):Option β :=
 ob az fun az=>FSK C base fin k a l d e h n (isBr f) args (freshCallW (RnW C) f az (n - 1))
noncomputable def IK (C:WProg) (base:Nat) (fin:Ex × WSt→Option β) (k:List Frame) (a:Ann) (l:List COper) (d:Option Nat) (e:Env) (h:WHeap) (n:Nat) (f:Nat) (args:List AV) (fr:Bool):Option β :=
 if fr=true then FPK C base fin k a l d e h n f args (mapO (frzW h frzDepth) args) else WK C base fin k a l d e (RnW C f args h n)
noncomputable def FK (C:WProg) (base:Nat) (fin:Ex × WSt→Option β) (k:List Frame) (a:Ann) (l:List COper) (d:Option Nat) (e:Env) (h:WHeap) (n:Nat) (f:Nat) (args:List AV) (inl ptr:Bool):Option β :=
 if inl=true then IK C base fin k a l d e h n f args (isFr f) else if ptr=true then WK C base fin k a l d e (RnW C f args h n) else PK C base fin k a l d e h n f args (mapO (frzW h frzDepth) args)
noncomputable def QK (C:WProg) (base:Nat) (fin:Ex × WSt→Option β) (k:List Frame) (a:Ann) (l:List COper) (d:Option Nat) (e:Env) (h:WHeap) (n:Nat) (args:List AV) (g:AV):Option β :=
 match g with
 | .fn f caps=>FK C base fin k a l d e h n f (args++caps) (C.inl f) (!C.pp f&&hasPtrL (args++caps))
 | _=>none
abbrev RW:=Bool × List Nat × List Nat
def rwOf (d:WDid):RW:=(d.bar,d.rd,d.wr)
def quietR (d:RW):Bool:=!d.1&&(d.2.2.isEmpty&&d.2.1.isEmpty)
def clashR (a b:RW):Bool:=!(quietR a||quietR b)&&(a.1||(b.1||(meets a.2.2 b.2.2||(meets a.2.2 b.2.1||meets a.2.1 b.2.2))))
def apartR (ds:List RW) (p:Nat × Nat):Bool :=
 match ds[p.1]?,ds[p.2]? with
 | some a,some b=>!clashR a b
 | _,_=>false
noncomputable def EK (C:WProg) (base:Nat) (fin:Ex × WSt→Option β) (k:List Frame) (a:Ann) (s:WSt) (ok:Bool):Option β :=
 if ok=true then AK C base fin k (canonF base a s) else none
noncomputable def DK (C:WProg) (base:Nat) (fin:Ex × WSt→Option β) (k:List Frame) (a:Ann) (un:List (Nat × Nat)) (l:List COper) (nid:Nat) (s:WSt) (ds:List RW):Option β :=
 ob (evDrawW C (RnW C) l nid s []) fun r=>EK C base fin k a r.1 (un.all (apartR (ds++r.2.map rwOf)))
noncomputable def DSK (C:WProg) (base:Nat) (fin:Ex × WSt→Option β) (k:List Frame) (a:Ann) (un:List (Nat × Nat)) (l:List COper) (nid:Nat) (d:Option Nat) (e:Env) (h:WHeap) (n:Nat) (ds:List RW) (rd:List Nat) (x:Option (AV × WUpd)):Option β :=
 ob x fun x=>DK C base fin k a un l nid ⟨setD e d x.1,applyW h x.2,n⟩ (ds++[(false,rd,x.2.map (·.1))])
noncomputable def DGK (C:WProg) (base:Nat) (fin:Ex × WSt→Option β) (k:List Frame) (a:Ann) (un:List (Nat × Nat)) (l:List COper) (nid:Nat) (d:Option Nat) (op:COp) (g:Nat) (w:Bool) (e:Env) (h:WHeap) (n:Nat) (ds:List RW) (v:Option AV):Option β :=
 match v with
 | some (.bool b)=>if b=w then DK C base fin k a un (⟨d,none,op⟩::l) nid ⟨setE e g (.bool w),h,n⟩ ds else DK C base fin k a un l (nid+1) ⟨setD (setE e g (.bool (!w))) d (.tup []),h,n⟩ (ds++[(false,[],[])])
 | some (.tup [])=>DK C base fin k a un l (nid+1) ⟨setD e d (.tup []),h,n⟩ (ds++[(false,[],[])])
 | _=>none
noncomputable def DVK (C:WProg) (base:Nat) (fin:Ex × WSt→Option β) (k:List Frame) (a:Ann) (un:List (Nat × Nat)) (l:List COper) (nid:Nat) (d:Option Nat) (e:Env) (h:WHeap) (n:Nat) (ds:List RW) (args:List AV) (v:Option AV):Option β :=
 ob v fun v=>DK C base fin k a un l nid ⟨setD e d v,applyW h (marksW h args v),n⟩ (ds++[(false,args.flatMap (reachW h frzDepth),(marksW h args v).map (·.1))])
noncomputable def DWK (C:WProg) (base:Nat) (fin:Ex × WSt→Option β) (k:List Frame) (a:Ann) (un:List (Nat × Nat)) (l:List COper) (nid:Nat) (d:Option Nat) (e:Env) (ds:List RW) (r:Option (AV × WHeap × Nat)):Option β :=
 ob r fun r=>DK C base fin k a un l nid ⟨setD e d r.1,r.2.1,r.2.2⟩ (ds++[(true,[],[])])
noncomputable def DPK (C:WProg) (base:Nat) (fin:Ex × WSt→Option β) (k:List Frame) (a:Ann) (un:List (Nat × Nat)) (l:List COper) (nid:Nat) (d:Option Nat) (e:Env) (h:WHeap) (n:Nat) (ds:List RW) (f:Nat) (args:List AV) (az:Option (List AV)):Option β :=
 ob az fun az=>DVK C base fin k a un l nid d e h n ds args (FnW C f az)
noncomputable def DBSK (C:WProg) (base:Nat) (fin:Ex × WSt→Option β) (k:List Frame) (a:Ann) (un:List (Nat × Nat)) (l:List COper) (nid:Nat) (d:Option Nat) (e:Env) (h:WHeap) (n:Nat) (ds:List RW) (args:List AV) (v:AV) (u:WUpd) (ok:Bool):Option β :=
 if ok=true then DK C base fin k a un l nid ⟨setD e d v,applyW h u,n⟩ (ds++[(false,args.flatMap (reachW h frzDepth),u.map (·.1))]) else none
noncomputable def DFSK (C:WProg) (base:Nat) (fin:Ex × WSt→Option β) (k:List Frame) (a:Ann) (un:List (Nat × Nat)) (l:List COper) (nid:Nat) (d:Option Nat) (e:Env) (h:WHeap) (n:Nat) (ds:List RW) (br:Bool) (args:List AV) (x:Option (AV × WUpd)):Option β :=
 ob x fun x=>if br=true then DBSK C base fin k a un l nid d e h n ds args x.1 x.2 (bareXW x) else DK C base fin k a un l nid ⟨setD e d x.1,applyW h (markFrozenW h (args.flatMap (reachW h frzDepth))++x.2),n⟩ (ds++[(false,args.flatMap (reachW h frzDepth),(markFrozenW h (args.flatMap (reachW h frzDepth))++x.2).map (·.1))])
noncomputable def DFPK (C:WProg) (base:Nat) (fin:Ex × WSt→Option β) (k:List Frame) (a:Ann) (un:List (Nat × Nat)) (l:List COper) (nid:Nat) (d:Option Nat) (e:Env) (h:WHeap) (n:Nat) (ds:List RW) (f:Nat) (args:List AV) (az:Option (List AV)):Option β :=
 ob az fun az=>DFSK C base fin k a un l nid d e h n ds (isBr f) args (freshCallW (RnW C) f az (nid - 1))
noncomputable def DIK (C:WProg) (base:Nat) (fin:Ex × WSt→Option β) (k:List Frame) (a:Ann) (un:List (Nat × Nat)) (l:List COper) (nid:Nat) (d:Option Nat) (e:Env) (h:WHeap) (n:Nat) (ds:List RW) (f:Nat) (args:List AV) (fr:Bool):Option β :=
 if fr=true then DFPK C base fin k a un l nid d e h n ds f args (mapO (frzW h frzDepth) args) else DWK C base fin k a un l nid d e ds (RnW C f args h n)
noncomputable def DFK (C:WProg) (base:Nat) (fin:Ex × WSt→Option β) (k:List Frame) (a:Ann) (un:List (Nat × Nat)) (l:List COper) (nid:Nat) (d:Option Nat) (e:Env) (h:WHeap) (n:Nat) (ds:List RW) (f:Nat) (args:List AV) (inl ptr:Bool):Option β :=
 if inl=true then DIK C base fin k a un l nid d e h n ds f args (isFr f) else if ptr=true then DWK C base fin k a un l nid d e ds (RnW C f args h n) else DPK C base fin k a un l nid d e h n ds f args (mapO (frzW h frzDepth) args)
noncomputable def DQK (C:WProg) (base:Nat) (fin:Ex × WSt→Option β) (k:List Frame) (a:Ann) (un:List (Nat × Nat)) (l:List COper) (nid:Nat) (d:Option Nat) (e:Env) (h:WHeap) (n:Nat) (ds:List RW) (args:List AV) (g:AV):Option β :=
 match g with
 | .fn f caps=>DFK C base fin k a un l nid d e h n ds f (args++caps) (C.inl f) (!C.pp f&&hasPtrL (args++caps))
 | _=>none
def pureFin (res:List CRes) (r:Ex × WSt):Option AV:=ob (fnEndW res r) fun r=>frzW r.2.1 frzDepth r.1
end
section
variable {β:Type} {C:WProg} {base:Nat} {fin:Ex × WSt→Option β} {k:List Frame}
theorem ob_assoc {α γ δ:Type} (x:Option α) (f:α→Option γ) (g:γ→Option δ):ob (ob x f) g=ob x fun a=>ob (f a) g:=by cases x <;> rfl
theorem ob_om {α γ δ:Type} (x:Option α) (f:α→γ) (g:γ→Option δ):ob (om x f) g=ob x fun a=>g (f a):=by cases x <;> rfl
theorem ck_seq (a b:WCode) (s:WSt):CK C base fin k (.seq a b) s=CK C base fin (.sq b::k) a s:=by
 unfold CK;rw [cw_seq];simp only [RK,ob_assoc]
theorem ck_skip (s:WSt):CK C base fin k .skip s=NK C base fin k .norm s:=by unfold CK NK;rw [cw_skip];rfl
theorem ck_exit (i:Nat) (s:WSt):CK C base fin k (.exit i) s=NK C base fin k (.exit i) s:=by unfold CK NK;rw [cw_exit];rfl
theorem ck_ret (s:WSt):CK C base fin k .ret s=NK C base fin k .ret s:=by unfold CK NK;rw [cw_ret];rfl
theorem ck_cond (c:Opd) (a b:WCode) (s:WSt):CK C base fin k (.cond c a b) s=condK C base fin k a b s (c.ev s.env):=by
 unfold CK condK;rw [cw_cond];unfold evCondW
 cases c.ev s.env <;> try rfl
 rename_i t;cases t <;> rfl
theorem ck_block (id:Nat) (b:WCode) (a:Ann) (s:WSt):CK C base fin k (.block id b a) s=CK C base fin (.bk id a::k) b s:=by
 unfold CK;rw [cw_block];simp only [RK,ob_assoc]
theorem ck_lp {L:WCode} {a:Ann} {b:WCode} {s:WSt} (hL:L=.loop a b):CK C base fin k L s=LK C base fin (.sq L::k) b (canon base a s):=by
 subst hL;unfold CK LK CK;rw [cw_loop];simp only [RK,ob_assoc]
theorem ck_unf {c c':WCode} {s:WSt} (hc:c=c'):CK C base fin k c s=CK C base fin k c' s:=by rw [hc]
theorem ck_ops (l:List COper) (a:Ann) (s:WSt):CK C base fin k (.ops l a) s=OK C base fin k a l s:=by
 unfold CK OK AK NK;rw [cw_ops];simp only [ob_assoc,ob_om]
theorem ck_draw (l:List COper) (un:List (Nat × Nat)) (a:Ann) (e:Env) (h:WHeap) (n:Nat):CK C base fin k (.draw l un a) ⟨e,h,n⟩=DK C base fin k a un l n ⟨e,h,n+l.length⟩ []:=by
 unfold CK DK EK AK NK;rw [cw_draw];simp only [ob_assoc]
 have:∀ r:WSt × List WDid,(ob (drawEndW base un a r) fun r=>ob (RK C base k r) fin)=(if (un.all (apartR ([]++r.2.map rwOf)))=true then ob (canonF base a r.1) fun s=>ob (RK C base k (.norm,s)) fin else none):=by
  rintro ⟨s,ds⟩
  have e1:un.all (apartW ds)=un.all (apartR ([]++ds.map rwOf)):=by
   congr 1
   funext p
   simp only [apartW,apartR,List.nil_append,List.getElem?_map]
   cases ds[p.1]? <;> cases ds[p.2]? <;> rfl
  simp only [drawEndW,e1]
  split
  · simp only [ob_om]
  · rfl
 simp only [this]
theorem ck_cln {zz:List AV} {z b:Nat} {s:WSt} {xe:Bool} (h:Pav.get s.env 0=some (.ro z [] xe)) (hz:zz.length=z) :
 CK C base fin k (.cln zz z b) s=NK C base fin k .ret ⟨[(2,.sl s.next z 0 0 0 true)],Pav.put s.heap s.next (.cells z [] true true),s.next+1⟩:=by
 unfold CK NK;rw [cw_cln,h];simp only [Option.bind,isEmptyRo,hz,and_self,if_true,ob]
theorem ck_cln2 {zz:List AV} {z b:Nat} {s:WSt} (h:(Pav.get s.env 0).bind isEmptyRo=none):CK C base fin k (.cln zz z b) s=CK C base fin k (clnC zz z b) s:=by
 unfold CK;rw [cw_cln,h]
theorem nk_nil (ex:Ex) (s:WSt):NK C base fin [] ex s=fin (ex,s):=rfl
theorem nk_sq (b:WCode) (s:WSt):NK C base fin (.sq b::k) .norm s=CK C base fin k b s:=by unfold NK CK;simp only [RK,evSeqW,ob_assoc]
theorem nk_sq_exit (b:WCode) (i:Nat) (s:WSt):NK C base fin (.sq b::k) (.exit i) s=NK C base fin k (.exit i) s:=by unfold NK;simp only [RK,evSeqW,ob]
theorem nk_sq_ret (b:WCode) (s:WSt):NK C base fin (.sq b::k) .ret s=NK C base fin k .ret s:=by unfold NK;simp only [RK,evSeqW,ob]
theorem nk_lp_exit (a:Ann) (b:WCode) (i:Nat) (s:WSt):NK C base fin (.lp a b::k) (.exit i) s=NK C base fin k (.exit i) s:=by unfold NK;simp only [RK,evSeqW,ob]
theorem nk_lp_ret (a:Ann) (b:WCode) (s:WSt):NK C base fin (.lp a b::k) .ret s=NK C base fin k .ret s:=by unfold NK;simp only [RK,evSeqW,ob]
theorem nk_bk (id:Nat) (a:Ann) (s:WSt):NK C base fin (.bk id a::k) .norm s=AK C base fin k (canon base a s):=by unfold NK AK NK;simp only [RK,evBlockW,ob_assoc,ob_om]
theorem nk_bk_exit (id:Nat) (a:Ann) (i:Nat) (s:WSt):NK C base fin (.bk id a::k) (.exit i) s=if i=id then AK C base fin k (canon base a s) else NK C base fin k (.exit i) s:=by
 unfold NK AK NK;simp only [RK,evBlockW]
 split
 · simp only [ob_assoc,ob_om]
 · rfl
theorem nk_bk_ret (id:Nat) (a:Ann) (s:WSt):NK C base fin (.bk id a::k) .ret s=NK C base fin k .ret s:=by unfold NK;simp only [RK,evBlockW,ob]
theorem ak_some (s:WSt):AK C base fin k (some s)=NK C base fin k .norm s:=rfl
theorem lk_some (b:WCode) (s:WSt):LK C base fin k b (some s)=CK C base fin k b s:=rfl
theorem condK_true (a b:WCode) (s:WSt):condK C base fin k a b s (.bool true)=CK C base fin k a s:=rfl
theorem condK_false (a b:WCode) (s:WSt):condK C base fin k a b s (.bool false)=CK C base fin k b s:=rfl
theorem condK_bool (a b:WCode) (s:WSt) (t:Bool):condK C base fin k a b s (.bool t)=if t=true then CK C base fin k a s else CK C base fin k b s:=rfl
variable {a:Ann} {l:List COper} {d:Option Nat} {e:Env} {h:WHeap} {n:Nat}
theorem ok_nil (s:WSt):OK C base fin k a [] s=AK C base fin k (canonF base a s):=rfl
theorem ok_step {op:COp} (hc:callOf e op=some none):OK C base fin k a (⟨d,none,op⟩::l) ⟨e,h,n⟩=SK C base fin k a l d e h (n+1) (stepW op e h n):=by
 unfold OK SK OK
 simp only [evOpsW,evOpW,wants,evActW,hc]
 cases stepW op e h n <;> rfl
theorem sk_some (v:AV) (u:WUpd):SK C base fin k a l d e h n (some (v,u))=OK C base fin k a l ⟨setD e d v,applyW h u,n⟩:=rfl
theorem setE_same:∀ {e:Env} {g:Nat} {v:AV},get e g=some v→setE e g v=e:=by
 intro e
 induction e with
 | nil=>intro g v h;rfl
 | cons x e ih =>
  intro g v hg
  obtain ⟨j,u⟩:=x
  simp only [Pav.get] at hg
  simp only [setE]
  split at hg
  · rename_i hj;cases hg;rw [if_pos hj]
  · rename_i hj;rw [if_neg hj,ih hg]
theorem gk_bool {op:COp} {g:Nat} {w b:Bool}:GK C base fin k a l d op g w e h n (some (.bool b))=if b=w then OK C base fin k a (⟨d,none,op⟩::l) ⟨setE e g (.bool w),h,n⟩ else OK C base fin k a l ⟨setD (setE e g (.bool (!w))) d (.tup []),h,n+1⟩:=rfl
theorem gk_true_true {op:COp} {g:Nat}:GK C base fin k a l d op g true e h n (some (.bool true))=OK C base fin k a (⟨d,none,op⟩::l) ⟨setE e g (.bool true),h,n⟩:=rfl
theorem gk_false_false {op:COp} {g:Nat}:GK C base fin k a l d op g false e h n (some (.bool false))=OK C base fin k a (⟨d,none,op⟩::l) ⟨setE e g (.bool false),h,n⟩:=rfl
theorem gk_true_false {op:COp} {g:Nat}:GK C base fin k a l d op g true e h n (some (.bool false))=OK C base fin k a l ⟨setD (setE e g (.bool false)) d (.tup []),h,n+1⟩:=rfl
theorem gk_false_true {op:COp} {g:Nat}:GK C base fin k a l d op g false e h n (some (.bool true))=OK C base fin k a l ⟨setD (setE e g (.bool true)) d (.tup []),h,n+1⟩:=rfl
theorem gk_tup {op:COp} {g:Nat} {w:Bool}:GK C base fin k a l d op g w e h n (some (.tup []))=OK C base fin k a l ⟨setD e d (.tup []),h,n+1⟩:=rfl
theorem ok_guard {op:COp} {g:Nat} {w:Bool}:OK C base fin k a (⟨d,some (g,w),op⟩::l) ⟨e,h,n⟩=GK C base fin k a l d op g w e h n (get e g):=by
 unfold OK GK
 simp only [evOpsW,evOpW,wants]
 cases hg:get e g with
 | none=>rfl
 | some v =>
  cases v with
  | bool b =>
   simp only
   by_cases hw:b=w
   · subst hw
     rw [setE_same hg,if_pos rfl]
     simp only [OK,evOpsW,evOpW,wants,beq_self_eq_true]
   · have e1:(b == w)=false:=by simpa using hw
     have e2:(!w)=b:=by cases b <;> cases w <;> simp_all
     rw [if_neg hw,e2,setE_same hg]
     simp only [e1,ob,OK]
  | tup vs =>
   cases vs with
   | nil=>rfl
   | cons _ _=>rfl
  | _=>rfl
theorem vk_some {args:List AV} (v:AV):VK C base fin k a l d e h n args (some v)=OK C base fin k a l ⟨setD e d v,applyW h (marksW h args v),n⟩:=rfl
theorem wk_some (r:AV × WHeap × Nat):WK C base fin k a l d e (some r)=OK C base fin k a l ⟨setD e d r.1,r.2.1,r.2.2⟩:=rfl
theorem pk_some {f:Nat} {args:List AV} (az:List AV):PK C base fin k a l d e h n f args (some az)=VK C base fin k a l d e h n args (FnW C f az):=rfl
theorem fk_pure {f:Nat} {args:List AV}:FK C base fin k a l d e h n f args false false=PK C base fin k a l d e h n f args (mapO (frzW h frzDepth) args):=rfl
theorem fk_inl {f:Nat} {args:List AV} {p:Bool}:FK C base fin k a l d e h n f args true p=IK C base fin k a l d e h n f args (isFr f):=rfl
theorem ik_false {f:Nat} {args:List AV}:IK C base fin k a l d e h n f args false=WK C base fin k a l d e (RnW C f args h n):=rfl
theorem ik_true {f:Nat} {args:List AV}:IK C base fin k a l d e h n f args true=FPK C base fin k a l d e h n f args (mapO (frzW h frzDepth) args):=rfl
theorem fpk_some {f:Nat} {args:List AV} (az:List AV):FPK C base fin k a l d e h (n+1) f args (some az)=FSK C base fin k a l d e h (n+1) (isBr f) args (freshCallW (RnW C) f az n):=rfl
theorem bsk_true (v:AV) (u:WUpd):BSK C base fin k a l d e h n v u true=OK C base fin k a l ⟨setD e d v,applyW h u,n⟩:=rfl
theorem fsk_bare {args:List AV} (v:AV) (u:WUpd):FSK C base fin k a l d e h n true args (some (v,u))=BSK C base fin k a l d e h n v u (bareXW (v,u)):=rfl
theorem fsk_some {args:List AV} (v:AV) (u:WUpd):FSK C base fin k a l d e h n false args (some (v,u))=OK C base fin k a l ⟨setD e d v,applyW h (markFrozenW h (args.flatMap (reachW h frzDepth))++u),n⟩:=rfl
theorem fk_ptr {f:Nat} {args:List AV}:FK C base fin k a l d e h n f args false true=WK C base fin k a l d e (RnW C f args h n):=rfl
theorem qk_fn {f:Nat} {args caps:List AV}:QK C base fin k a l d e h n args (.fn f caps)=FK C base fin k a l d e h n f (args++caps) (C.inl f) (!C.pp f&&hasPtrL (args++caps)):=rfl
theorem fk_eq {f:Nat} {args:List AV}:(ob (om (evCallW C (RnW C) f args h (n - 1) n) (doneCallW h n args)) fun r=>OK C base fin k a l ⟨setD e d r.v,r.h,r.n⟩)=FK C base fin k a l d e h n f args (C.inl f) (!C.pp f&&hasPtrL args):=by
 unfold FK evCallW IK FPK FSK WK PK VK FnW
 split
 · split
   · cases mapO (frzW h frzDepth) args with
     | none=>rfl
     | some az =>
      simp only [ob]
      cases freshCallW (RnW C) f az (n - 1) with
      | none=>rfl
      | some x =>
       simp only [ob]
       unfold freshEndW freshUW BSK
       cases isBr f
       · rfl
       · cases bareXW x <;> rfl
   · cases RnW C f args h n <;> rfl
 · split
   · cases RnW C f args h n <;> rfl
   · cases mapO (frzW h frzDepth) args with
     | none=>rfl
     | some az =>
      simp only [ob]
      cases pureCallW (RnW C) f az <;> rfl
theorem ok_call {f:Nat} {xs:List Opd}:OK C base fin k a (⟨d,none,.call f xs⟩::l) ⟨e,h,n⟩=FK C base fin k a l d e h (n+1) f (xs.map fun x=>x.ev e) (C.inl f) (!C.pp f&&hasPtrL (xs.map fun x=>x.ev e)):=by
 rw [← fk_eq]
 unfold OK
 simp only [evOpsW,evOpW,wants,evActW,callOf,ob_assoc,Nat.add_sub_cancel]
theorem ok_callv {g:Opd} {xs:List Opd}:OK C base fin k a (⟨d,none,.callv g xs⟩::l) ⟨e,h,n⟩=QK C base fin k a l d e h (n+1) (xs.map fun x=>x.ev e) (g.ev e):=by
 unfold QK
 cases hg:g.ev e with
 | fn f caps =>
  simp only
  rw [← fk_eq]
  unfold OK
  simp only [evOpsW,evOpW,wants,evActW,callOf,hg,ob_assoc,Nat.add_sub_cancel]
 | _ =>
  unfold OK
  simp only [evOpsW,evOpW,wants,evActW,callOf,hg]
  rfl
variable {un:List (Nat × Nat)} {nid:Nat} {ds:List RW}
theorem evDrawW_acc {r:WRun}:∀ (l:List COper) (nid:Nat) (s:WSt) (ds:List WDid),evDrawW C r l nid s ds=om (evDrawW C r l nid s []) fun x=>(x.1,ds++x.2):=by
 intro l
 induction l with
 | nil=>intro nid s ds;simp [evDrawW,om]
 | cons o l ih =>
  intro nid s ds
  simp only [evDrawW]
  cases evOpW C r o nid s.env s.heap s.next with
  | none=>rfl
  | some d =>
   simp only [ob]
   rw [ih,ih _ _ ([]++[d])]
   cases evDrawW C r l (nid+1) _ [] <;> simp [om]
theorem dk_nil (s:WSt):DK C base fin k a un [] nid s ds=EK C base fin k a s (un.all (apartR ds)):=by
 unfold DK;simp only [evDrawW,ob,List.map_nil,List.append_nil]
theorem ek_true (s:WSt):EK C base fin k a s true=AK C base fin k (canonF base a s):=rfl
theorem dk_cons {o:COper} {s:WSt}:DK C base fin k a un (o::l) nid s ds=ob (evOpW C (RnW C) o nid s.env s.heap s.next) fun x=>DK C base fin k a un l (nid+1) ⟨setD s.env o.dst x.v,x.h,x.n⟩ (ds++[rwOf x]):=by
 unfold DK
 simp only [evDrawW,ob_assoc]
 congr 1
 funext x
 rw [evDrawW_acc]
 simp only [ob_om,List.nil_append,List.map_append,List.map_cons,List.map_nil,List.append_assoc]
theorem dk_step {op:COp} (hc:callOf e op=some none):DK C base fin k a un (⟨d,none,op⟩::l) nid ⟨e,h,n⟩ ds=DSK C base fin k a un l (nid+1) d e h n ds (readsOf e op) (stepW op e h nid):=by
 rw [dk_cons]
 unfold DSK
 simp only [evOpW,wants,evActW,hc,ob_om]
 rfl
theorem dsk_some {rd:List Nat} (v:AV) (u:WUpd):DSK C base fin k a un l nid d e h n ds rd (some (v,u))=DK C base fin k a un l nid ⟨setD e d v,applyW h u,n⟩ (ds++[(false,rd,u.map (·.1))]):=rfl
theorem dgk_bool {op:COp} {g:Nat} {w b:Bool}:DGK C base fin k a un l nid d op g w e h n ds (some (.bool b))=if b=w then DK C base fin k a un (⟨d,none,op⟩::l) nid ⟨setE e g (.bool w),h,n⟩ ds else DK C base fin k a un l (nid+1) ⟨setD (setE e g (.bool (!w))) d (.tup []),h,n⟩ (ds++[(false,[],[])]):=rfl
theorem dgk_true_true {op:COp} {g:Nat}:DGK C base fin k a un l nid d op g true e h n ds (some (.bool true))=DK C base fin k a un (⟨d,none,op⟩::l) nid ⟨setE e g (.bool true),h,n⟩ ds:=rfl
theorem dgk_false_false {op:COp} {g:Nat}:DGK C base fin k a un l nid d op g false e h n ds (some (.bool false))=DK C base fin k a un (⟨d,none,op⟩::l) nid ⟨setE e g (.bool false),h,n⟩ ds:=rfl
theorem dgk_true_false {op:COp} {g:Nat}:DGK C base fin k a un l nid d op g true e h n ds (some (.bool false))=DK C base fin k a un l (nid+1) ⟨setD (setE e g (.bool false)) d (.tup []),h,n⟩ (ds++[(false,[],[])]):=rfl
theorem dgk_false_true {op:COp} {g:Nat}:DGK C base fin k a un l nid d op g false e h n ds (some (.bool true))=DK C base fin k a un l (nid+1) ⟨setD (setE e g (.bool true)) d (.tup []),h,n⟩ (ds++[(false,[],[])]):=rfl
theorem dgk_tup {op:COp} {g:Nat} {w:Bool}:DGK C base fin k a un l nid d op g w e h n ds (some (.tup []))=DK C base fin k a un l (nid+1) ⟨setD e d (.tup []),h,n⟩ (ds++[(false,[],[])]):=rfl
theorem dk_guard {op:COp} {g:Nat} {w:Bool}:DK C base fin k a un (⟨d,some (g,w),op⟩::l) nid ⟨e,h,n⟩ ds=DGK C base fin k a un l nid d op g w e h n ds (get e g):=by
 unfold DGK
 cases hg:get e g with
 | none=>rw [dk_cons];simp only [evOpW,wants,hg];rfl
 | some v =>
  cases v with
  | bool b =>
   simp only
   by_cases hw:b=w
   · subst hw
     rw [setE_same hg,if_pos rfl,dk_cons,dk_cons]
     simp only [evOpW,wants,hg,beq_self_eq_true]
   · have e1:(b == w)=false:=by simpa using hw
     have e2:(!w)=b:=by cases b <;> cases w <;> simp_all
     rw [if_neg hw,e2,setE_same hg,dk_cons]
     simp only [evOpW,wants,hg,e1,ob,rwOf]
  | tup vs =>
   cases vs with
   | nil=>rw [dk_cons];simp only [evOpW,wants,hg];rfl
   | cons _ _=>rw [dk_cons];simp only [evOpW,wants,hg];rfl
  | _=>rw [dk_cons];simp only [evOpW,wants,hg];rfl
theorem dvk_some {args:List AV} (v:AV):DVK C base fin k a un l nid d e h n ds args (some v)=DK C base fin k a un l nid ⟨setD e d v,applyW h (marksW h args v),n⟩ (ds++[(false,args.flatMap (reachW h frzDepth),(marksW h args v).map (·.1))]):=rfl
theorem dwk_some (r:AV × WHeap × Nat):DWK C base fin k a un l nid d e ds (some r)=DK C base fin k a un l nid ⟨setD e d r.1,r.2.1,r.2.2⟩ (ds++[(true,[],[])]):=rfl
theorem dpk_some {f:Nat} {args:List AV} (az:List AV):DPK C base fin k a un l nid d e h n ds f args (some az)=DVK C base fin k a un l nid d e h n ds args (FnW C f az):=rfl
theorem dfk_pure {f:Nat} {args:List AV}:DFK C base fin k a un l nid d e h n ds f args false false=DPK C base fin k a un l nid d e h n ds f args (mapO (frzW h frzDepth) args):=rfl
theorem dfk_inl {f:Nat} {args:List AV} {p:Bool}:DFK C base fin k a un l nid d e h n ds f args true p=DIK C base fin k a un l nid d e h n ds f args (isFr f):=rfl
theorem dik_false {f:Nat} {args:List AV}:DIK C base fin k a un l nid d e h n ds f args false=DWK C base fin k a un l nid d e ds (RnW C f args h n):=rfl
theorem dik_true {f:Nat} {args:List AV}:DIK C base fin k a un l nid d e h n ds f args true=DFPK C base fin k a un l nid d e h n ds f args (mapO (frzW h frzDepth) args):=rfl
theorem dfpk_some {f:Nat} {args:List AV} (az:List AV):DFPK C base fin k a un l nid d e h n ds f args (some az)=DFSK C base fin k a un l nid d e h n ds (isBr f) args (freshCallW (RnW C) f az (nid - 1)):=rfl
theorem dbsk_true {args:List AV} (v:AV) (u:WUpd):DBSK C base fin k a un l nid d e h n ds args v u true=DK C base fin k a un l nid ⟨setD e d v,applyW h u,n⟩ (ds++[(false,args.flatMap (reachW h frzDepth),u.map (·.1))]):=rfl
theorem dfsk_bare {args:List AV} (v:AV) (u:WUpd):DFSK C base fin k a un l nid d e h n ds true args (some (v,u))=DBSK C base fin k a un l nid d e h n ds args v u (bareXW (v,u)):=rfl
theorem dfsk_some {args:List AV} (v:AV) (u:WUpd):DFSK C base fin k a un l nid d e h n ds false args (some (v,u))=DK C base fin k a un l nid ⟨setD e d v,applyW h (markFrozenW h (args.flatMap (reachW h frzDepth))++u),n⟩ (ds++[(false,args.flatMap (reachW h frzDepth),(markFrozenW h (args.flatMap (reachW h frzDepth))++u).map (·.1))]):=rfl
theorem dfk_ptr {f:Nat} {args:List AV}:DFK C base fin k a un l nid d e h n ds f args false true=DWK C base fin k a un l nid d e ds (RnW C f args h n):=rfl
theorem dqk_fn {f:Nat} {args caps:List AV}:DQK C base fin k a un l nid d e h n ds args (.fn f caps)=DFK C base fin k a un l nid d e h n ds f (args++caps) (C.inl f) (!C.pp f&&hasPtrL (args++caps)):=rfl
theorem dfk_eq {f:Nat} {args:List AV}:(ob (om (evCallW C (RnW C) f args h (nid - 1) n) (doneCallW h n args)) fun r=>DK C base fin k a un l nid ⟨setD e d r.v,r.h,r.n⟩ (ds++[rwOf r]))=DFK C base fin k a un l nid d e h n ds f args (C.inl f) (!C.pp f&&hasPtrL args):=by
 unfold DFK evCallW DIK DFPK DFSK DWK DPK DVK FnW
 split
 · split
   · cases mapO (frzW h frzDepth) args with
     | none=>rfl
     | some az =>
      simp only [ob]
      cases freshCallW (RnW C) f az (nid - 1) with
      | none=>rfl
      | some x =>
       simp only [ob]
       unfold freshEndW freshUW DBSK
       cases isBr f
       · rfl
       · cases bareXW x <;> rfl
   · cases RnW C f args h n <;> rfl
 · split
   · cases RnW C f args h n <;> rfl
   · cases mapO (frzW h frzDepth) args with
     | none=>rfl
     | some az =>
      simp only [ob]
      cases pureCallW (RnW C) f az <;> rfl
theorem dk_call {f:Nat} {xs:List Opd}:DK C base fin k a un (⟨d,none,.call f xs⟩::l) nid ⟨e,h,n⟩ ds=DFK C base fin k a un l (nid+1) d e h n ds f (xs.map fun x=>x.ev e) (C.inl f) (!C.pp f&&hasPtrL (xs.map fun x=>x.ev e)):=by
 rw [← dfk_eq,dk_cons]
 simp only [evOpW,wants,evActW,callOf,Nat.add_sub_cancel]
theorem dk_callv {g:Opd} {xs:List Opd}:DK C base fin k a un (⟨d,none,.callv g xs⟩::l) nid ⟨e,h,n⟩ ds=DQK C base fin k a un l (nid+1) d e h n ds (xs.map fun x=>x.ev e) (g.ev e):=by
 unfold DQK
 rw [dk_cons]
 cases hg:g.ev e with
 | fn f caps =>
  simp only
  rw [← dfk_eq]
  simp only [evOpW,wants,evActW,callOf,hg,Nat.add_sub_cancel]
 | _ =>
  simp only [evOpW,wants,evActW,callOf,hg]
  rfl
theorem fnW_eq {f:Nat} {fn:WFn} (hf:C.fns.get f=some fn) {args:List AV} (hl:args.length=fn.np):FnW C f args=CK C 0 (pureFin fn.res) [] fn.body ⟨argW 0 args [],[],0⟩:=by
 unfold FnW pureCallW RnW runWithW CK pureFin
 rw [hf]
 simp only [ob,if_pos hl,RK]
 cases CdW C 0 fn.body ⟨argW 0 args [],[],0⟩ with
 | none=>rfl
 | some r=>rfl
theorem rnW_eq {f:Nat} {fn:WFn} (hf:C.fns.get f=some fn) {args:List AV} (hl:args.length=fn.np) (h:WHeap) (n:Nat):RnW C f args h n=CK C n (fnEndW fn.res) [] fn.body ⟨argW 0 args [],h,n⟩:=by
 unfold RnW runWithW CK
 rw [hf]
 simp only [ob,if_pos hl,RK]
end
end Go.Pw
end
section
set_option linter.unusedSimpArgs false
set_option linter.unusedVariables false
namespace Go.Pw
open Go Go.Pav
attribute [simp] ck_seq ck_skip ck_exit ck_ret ck_cond ck_block ck_ops ck_draw nk_nil nk_sq nk_sq_exit nk_sq_ret nk_lp_exit nk_lp_ret nk_bk nk_bk_exit nk_bk_ret ak_some lk_some
 ok_nil sk_some gk_tup ok_guard vk_some wk_some pk_some fk_pure fk_inl fk_ptr qk_fn ok_call ok_callv dk_nil ek_true dsk_some dgk_tup dk_guard dvk_some dwk_some dpk_some dfk_pure dfk_inl dfk_ptr dqk_fn dk_call dk_callv ik_false ik_true fpk_some fsk_some fsk_bare bsk_true dfsk_bare dbsk_true isBr bareXW bareOW bareV bareL dik_false dik_true dfpk_some dfsk_some isFr
attribute [simp high] condK_true condK_false gk_true_true gk_false_false gk_true_false gk_false_true dgk_true_true dgk_false_false dgk_true_false dgk_false_true
attribute [simp low] condK_bool gk_bool dgk_bool
section
variable {β:Type} {C:WProg} {base:Nat} {fin:Ex × WSt→Option β} {k:List Frame} {a:Ann} {l:List COper} {d:Option Nat} {e:Env} {h:WHeap} {n:Nat} {un:List (Nat × Nat)} {nid:Nat} {ds:List RW}
@[simp] theorem ok_mv {x:Opd}:OK C base fin k a (⟨d,none,.mv x⟩::l) ⟨e,h,n⟩=OK C base fin k a l ⟨setD e d (x.ev e),h,n+1⟩:=by rw [ok_step rfl];rfl
@[simp] theorem ok_pick {c x y:Opd}:OK C base fin k a (⟨d,none,.pick c x y⟩::l) ⟨e,h,n⟩=SK C base fin k a l d e h (n+1) (stepW (.pick c x y) e h n):=ok_step rfl
@[simp] theorem ok_alloc {z:List AV}:OK C base fin k a (⟨d,none,.alloc z⟩::l) ⟨e,h,n⟩=SK C base fin k a l d e h (n+1) (stepW (.alloc z) e h n):=ok_step rfl
@[simp] theorem ok_box {x:Opd}:OK C base fin k a (⟨d,none,.box x⟩::l) ⟨e,h,n⟩=SK C base fin k a l d e h (n+1) (stepW (.box x) e h n):=ok_step rfl
@[simp] theorem ok_build {z:List AV} {ps:List (Nat × Nat × Opd)}:OK C base fin k a (⟨d,none,.build z ps⟩::l) ⟨e,h,n⟩=SK C base fin k a l d e h (n+1) (stepW (.build z ps) e h n):=ok_step rfl
@[simp] theorem ok_buildS {z:List AV} {m:Nat} {ps:List (Nat × Opd)}:OK C base fin k a (⟨d,none,.buildS z m ps⟩::l) ⟨e,h,n⟩=SK C base fin k a l d e h (n+1) (stepW (.buildS z m ps) e h n):=ok_step rfl
@[simp] theorem ok_load {m:Nat} {ag:Bool} {x:Opd}:OK C base fin k a (⟨d,none,.load m ag x⟩::l) ⟨e,h,n⟩=SK C base fin k a l d e h (n+1) (stepW (.load m ag x) e h n):=ok_step rfl
@[simp] theorem ok_store {m:Nat} {x y:Opd}:OK C base fin k a (⟨d,none,.store m x y⟩::l) ⟨e,h,n⟩=SK C base fin k a l d e h (n+1) (stepW (.store m x y) e h n):=ok_step rfl
@[simp] theorem ok_nilchk {x:Opd}:OK C base fin k a (⟨d,none,.nilchk x⟩::l) ⟨e,h,n⟩=SK C base fin k a l d e h (n+1) (stepW (.nilchk x) e h n):=ok_step rfl
@[simp] theorem ok_bin {op:BinOp} {x y:Opd}:OK C base fin k a (⟨d,none,.bin op x y⟩::l) ⟨e,h,n⟩=SK C base fin k a l d e h (n+1) (stepW (.bin op x y) e h n):=ok_step rfl
@[simp] theorem ok_eqv {kd:Nat} {ks:List Nat} {ne:Bool} {x y:Opd}:OK C base fin k a (⟨d,none,.eqv kd ks ne x y⟩::l) ⟨e,h,n⟩=SK C base fin k a l d e h (n+1) (stepW (.eqv kd ks ne x y) e h n):=ok_step rfl
@[simp] theorem ok_un {op:UnOp} {x:Opd}:OK C base fin k a (⟨d,none,.un op x⟩::l) ⟨e,h,n⟩=SK C base fin k a l d e h (n+1) (stepW (.un op x) e h n):=ok_step rfl
@[simp] theorem ok_cvt {kk:IntKind} {x:Opd}:OK C base fin k a (⟨d,none,.cvt kk x⟩::l) ⟨e,h,n⟩=SK C base fin k a l d e h (n+1) (stepW (.cvt kk x) e h n):=ok_step rfl
@[simp] theorem ok_cvs {x:Opd}:OK C base fin k a (⟨d,none,.cvs x⟩::l) ⟨e,h,n⟩=SK C base fin k a l d e h (n+1) (stepW (.cvs x) e h n):=ok_step rfl
@[simp] theorem ok_cvb {x:Opd}:OK C base fin k a (⟨d,none,.cvb x⟩::l) ⟨e,h,n⟩=SK C base fin k a l d e h (n+1) (stepW (.cvb x) e h n):=ok_step rfl
@[simp] theorem ok_mkfn {f:Nat} {xs:List Opd}:OK C base fin k a (⟨d,none,.mkfn f xs⟩::l) ⟨e,h,n⟩=SK C base fin k a l d e h (n+1) (stepW (.mkfn f xs) e h n):=ok_step rfl
@[simp] theorem ok_mkmap:OK C base fin k a (⟨d,none,.mkmap⟩::l) ⟨e,h,n⟩=SK C base fin k a l d e h (n+1) (stepW .mkmap e h n):=ok_step rfl
@[simp] theorem ok_mksl {z:List AV} {b:Nat} {x y:Opd}:OK C base fin k a (⟨d,none,.mksl z b x y⟩::l) ⟨e,h,n⟩=SK C base fin k a l d e h (n+1) (stepW (.mksl z b x y) e h n):=ok_step rfl
@[simp] theorem ok_slice {z:Nat} {x:Opd} {lo hi mx:Option Opd}:OK C base fin k a (⟨d,none,.slice z x lo hi mx⟩::l) ⟨e,h,n⟩=SK C base fin k a l d e h (n+1) (stepW (.slice z x lo hi mx) e h n):=ok_step rfl
@[simp] theorem ok_sliceA {z:Nat} {x:Opd} {lo hi:Option Opd}:OK C base fin k a (⟨d,none,.sliceA z x lo hi⟩::l) ⟨e,h,n⟩=SK C base fin k a l d e h (n+1) (stepW (.sliceA z x lo hi) e h n):=ok_step rfl
@[simp] theorem ok_fld {o:Nat} {x:Opd}:OK C base fin k a (⟨d,none,.fld o x⟩::l) ⟨e,h,n⟩=SK C base fin k a l d e h (n+1) (stepW (.fld o x) e h n):=ok_step rfl
@[simp] theorem ok_fldv {o m:Nat} {ag:Bool} {x:Opd}:OK C base fin k a (⟨d,none,.fldv o m ag x⟩::l) ⟨e,h,n⟩=SK C base fin k a l d e h (n+1) (stepW (.fldv o m ag x) e h n):=ok_step rfl
@[simp] theorem ok_idxs {z:Nat} {x y:Opd}:OK C base fin k a (⟨d,none,.idxs z x y⟩::l) ⟨e,h,n⟩=SK C base fin k a l d e h (n+1) (stepW (.idxs z x y) e h n):=ok_step rfl
@[simp] theorem ok_idxa {m z:Nat} {x y:Opd}:OK C base fin k a (⟨d,none,.idxa m z x y⟩::l) ⟨e,h,n⟩=SK C base fin k a l d e h (n+1) (stepW (.idxa m z x y) e h n):=ok_step rfl
@[simp] theorem ok_idxstr {x y:Opd}:OK C base fin k a (⟨d,none,.idxstr x y⟩::l) ⟨e,h,n⟩=SK C base fin k a l d e h (n+1) (stepW (.idxstr x y) e h n):=ok_step rfl
@[simp] theorem ok_idxv {m z:Nat} {ag:Bool} {x y:Opd}:OK C base fin k a (⟨d,none,.idxv m z ag x y⟩::l) ⟨e,h,n⟩=SK C base fin k a l d e h (n+1) (stepW (.idxv m z ag x y) e h n):=ok_step rfl
@[simp] theorem ok_look {kd:Nat} {z:AV} {ok:Bool} {x y:Opd}:OK C base fin k a (⟨d,none,.look kd z ok x y⟩::l) ⟨e,h,n⟩=SK C base fin k a l d e h (n+1) (stepW (.look kd z ok x y) e h n):=ok_step rfl
@[simp] theorem ok_upd {kd:Nat} {x y z:Opd}:OK C base fin k a (⟨d,none,.upd kd x y z⟩::l) ⟨e,h,n⟩=SK C base fin k a l d e h (n+1) (stepW (.upd kd x y z) e h n):=ok_step rfl
@[simp] theorem ok_range {x:Opd}:OK C base fin k a (⟨d,none,.range x⟩::l) ⟨e,h,n⟩=SK C base fin k a l d e h (n+1) (stepW (.range x) e h n):=ok_step rfl
@[simp] theorem ok_next {x:Opd}:OK C base fin k a (⟨d,none,.next x⟩::l) ⟨e,h,n⟩=SK C base fin k a l d e h (n+1) (stepW (.next x) e h n):=ok_step rfl
@[simp] theorem ok_ext {i:Nat} {x:Opd}:OK C base fin k a (⟨d,none,.ext i x⟩::l) ⟨e,h,n⟩=SK C base fin k a l d e h (n+1) (stepW (.ext i x) e h n):=ok_step rfl
@[simp] theorem ok_len {kd:Nat} {x:Opd}:OK C base fin k a (⟨d,none,.len kd x⟩::l) ⟨e,h,n⟩=SK C base fin k a l d e h (n+1) (stepW (.len kd x) e h n):=ok_step rfl
@[simp] theorem ok_cap {x:Opd}:OK C base fin k a (⟨d,none,.cap x⟩::l) ⟨e,h,n⟩=SK C base fin k a l d e h (n+1) (stepW (.cap x) e h n):=ok_step rfl
@[simp] theorem ok_app {z:List AV} {b:Nat} {zs:Bool} {x y:Opd}:OK C base fin k a (⟨d,none,.app z b zs x y⟩::l) ⟨e,h,n⟩=SK C base fin k a l d e h (n+1) (stepW (.app z b zs x y) e h n):=ok_step rfl
@[simp] theorem ok_cpy {z:Nat} {x y:Opd}:OK C base fin k a (⟨d,none,.cpy z x y⟩::l) ⟨e,h,n⟩=SK C base fin k a l d e h (n+1) (stepW (.cpy z x y) e h n):=ok_step rfl
@[simp] theorem ok_clr {z:List AV} {x:Opd}:OK C base fin k a (⟨d,none,.clr z x⟩::l) ⟨e,h,n⟩=SK C base fin k a l d e h (n+1) (stepW (.clr z x) e h n):=ok_step rfl
@[simp] theorem ok_mx {x y:Opd}:OK C base fin k a (⟨d,none,.mx x y⟩::l) ⟨e,h,n⟩=SK C base fin k a l d e h (n+1) (stepW (.mx x y) e h n):=ok_step rfl
@[simp] theorem ok_mn {x y:Opd}:OK C base fin k a (⟨d,none,.mn x y⟩::l) ⟨e,h,n⟩=SK C base fin k a l d e h (n+1) (stepW (.mn x y) e h n):=ok_step rfl
@[simp] theorem dk_mv {x:Opd}:DK C base fin k a un (⟨d,none,.mv x⟩::l) nid ⟨e,h,n⟩ ds=DSK C base fin k a un l (nid+1) d e h n ds (readsOf e (.mv x)) (stepW (.mv x) e h nid):=dk_step rfl
@[simp] theorem dk_pick {c x y:Opd}:DK C base fin k a un (⟨d,none,.pick c x y⟩::l) nid ⟨e,h,n⟩ ds=DSK C base fin k a un l (nid+1) d e h n ds (readsOf e (.pick c x y)) (stepW (.pick c x y) e h nid):=dk_step rfl
@[simp] theorem dk_alloc {z:List AV}:DK C base fin k a un (⟨d,none,.alloc z⟩::l) nid ⟨e,h,n⟩ ds=DSK C base fin k a un l (nid+1) d e h n ds (readsOf e (.alloc z)) (stepW (.alloc z) e h nid):=dk_step rfl
@[simp] theorem dk_box {x:Opd}:DK C base fin k a un (⟨d,none,.box x⟩::l) nid ⟨e,h,n⟩ ds=DSK C base fin k a un l (nid+1) d e h n ds (readsOf e (.box x)) (stepW (.box x) e h nid):=dk_step rfl
@[simp] theorem dk_build {z:List AV} {ps:List (Nat × Nat × Opd)}:DK C base fin k a un (⟨d,none,.build z ps⟩::l) nid ⟨e,h,n⟩ ds=DSK C base fin k a un l (nid+1) d e h n ds (readsOf e (.build z ps)) (stepW (.build z ps) e h nid):=dk_step rfl
@[simp] theorem dk_buildS {z:List AV} {m:Nat} {ps:List (Nat × Opd)}:DK C base fin k a un (⟨d,none,.buildS z m ps⟩::l) nid ⟨e,h,n⟩ ds=DSK C base fin k a un l (nid+1) d e h n ds (readsOf e (.buildS z m ps)) (stepW (.buildS z m ps) e h nid):=dk_step rfl
@[simp] theorem dk_load {m:Nat} {ag:Bool} {x:Opd}:DK C base fin k a un (⟨d,none,.load m ag x⟩::l) nid ⟨e,h,n⟩ ds=DSK C base fin k a un l (nid+1) d e h n ds (readsOf e (.load m ag x)) (stepW (.load m ag x) e h nid):=dk_step rfl
@[simp] theorem dk_store {m:Nat} {x y:Opd}:DK C base fin k a un (⟨d,none,.store m x y⟩::l) nid ⟨e,h,n⟩ ds=DSK C base fin k a un l (nid+1) d e h n ds (readsOf e (.store m x y)) (stepW (.store m x y) e h nid):=dk_step rfl
@[simp] theorem dk_nilchk {x:Opd}:DK C base fin k a un (⟨d,none,.nilchk x⟩::l) nid ⟨e,h,n⟩ ds=DSK C base fin k a un l (nid+1) d e h n ds (readsOf e (.nilchk x)) (stepW (.nilchk x) e h nid):=dk_step rfl
@[simp] theorem dk_bin {op:BinOp} {x y:Opd}:DK C base fin k a un (⟨d,none,.bin op x y⟩::l) nid ⟨e,h,n⟩ ds=DSK C base fin k a un l (nid+1) d e h n ds (readsOf e (.bin op x y)) (stepW (.bin op x y) e h nid):=dk_step rfl
@[simp] theorem dk_eqv {kd:Nat} {ks:List Nat} {ne:Bool} {x y:Opd}:DK C base fin k a un (⟨d,none,.eqv kd ks ne x y⟩::l) nid ⟨e,h,n⟩ ds=DSK C base fin k a un l (nid+1) d e h n ds (readsOf e (.eqv kd ks ne x y)) (stepW (.eqv kd ks ne x y) e h nid):=dk_step rfl
@[simp] theorem dk_un {op:UnOp} {x:Opd}:DK C base fin k a un (⟨d,none,.un op x⟩::l) nid ⟨e,h,n⟩ ds=DSK C base fin k a un l (nid+1) d e h n ds (readsOf e (.un op x)) (stepW (.un op x) e h nid):=dk_step rfl
@[simp] theorem dk_cvt {kk:IntKind} {x:Opd}:DK C base fin k a un (⟨d,none,.cvt kk x⟩::l) nid ⟨e,h,n⟩ ds=DSK C base fin k a un l (nid+1) d e h n ds (readsOf e (.cvt kk x)) (stepW (.cvt kk x) e h nid):=dk_step rfl
@[simp] theorem dk_cvs {x:Opd}:DK C base fin k a un (⟨d,none,.cvs x⟩::l) nid ⟨e,h,n⟩ ds=DSK C base fin k a un l (nid+1) d e h n ds (readsOf e (.cvs x)) (stepW (.cvs x) e h nid):=dk_step rfl
@[simp] theorem dk_cvb {x:Opd}:DK C base fin k a un (⟨d,none,.cvb x⟩::l) nid ⟨e,h,n⟩ ds=DSK C base fin k a un l (nid+1) d e h n ds (readsOf e (.cvb x)) (stepW (.cvb x) e h nid):=dk_step rfl
@[simp] theorem dk_mkfn {f:Nat} {xs:List Opd}:DK C base fin k a un (⟨d,none,.mkfn f xs⟩::l) nid ⟨e,h,n⟩ ds=DSK C base fin k a un l (nid+1) d e h n ds (readsOf e (.mkfn f xs)) (stepW (.mkfn f xs) e h nid):=dk_step rfl
@[simp] theorem dk_mkmap:DK C base fin k a un (⟨d,none,.mkmap⟩::l) nid ⟨e,h,n⟩ ds=DSK C base fin k a un l (nid+1) d e h n ds (readsOf e (.mkmap)) (stepW (.mkmap) e h nid):=dk_step rfl
@[simp] theorem dk_mksl {z:List AV} {b:Nat} {x y:Opd}:DK C base fin k a un (⟨d,none,.mksl z b x y⟩::l) nid ⟨e,h,n⟩ ds=DSK C base fin k a un l (nid+1) d e h n ds (readsOf e (.mksl z b x y)) (stepW (.mksl z b x y) e h nid):=dk_step rfl
@[simp] theorem dk_slice {z:Nat} {x:Opd} {lo hi mx:Option Opd}:DK C base fin k a un (⟨d,none,.slice z x lo hi mx⟩::l) nid ⟨e,h,n⟩ ds=DSK C base fin k a un l (nid+1) d e h n ds (readsOf e (.slice z x lo hi mx)) (stepW (.slice z x lo hi mx) e h nid):=dk_step rfl
@[simp] theorem dk_sliceA {z:Nat} {x:Opd} {lo hi:Option Opd}:DK C base fin k a un (⟨d,none,.sliceA z x lo hi⟩::l) nid ⟨e,h,n⟩ ds=DSK C base fin k a un l (nid+1) d e h n ds (readsOf e (.sliceA z x lo hi)) (stepW (.sliceA z x lo hi) e h nid):=dk_step rfl
@[simp] theorem dk_fld {o:Nat} {x:Opd}:DK C base fin k a un (⟨d,none,.fld o x⟩::l) nid ⟨e,h,n⟩ ds=DSK C base fin k a un l (nid+1) d e h n ds (readsOf e (.fld o x)) (stepW (.fld o x) e h nid):=dk_step rfl
@[simp] theorem dk_fldv {o m:Nat} {ag:Bool} {x:Opd}:DK C base fin k a un (⟨d,none,.fldv o m ag x⟩::l) nid ⟨e,h,n⟩ ds=DSK C base fin k a un l (nid+1) d e h n ds (readsOf e (.fldv o m ag x)) (stepW (.fldv o m ag x) e h nid):=dk_step rfl
@[simp] theorem dk_idxs {z:Nat} {x y:Opd}:DK C base fin k a un (⟨d,none,.idxs z x y⟩::l) nid ⟨e,h,n⟩ ds=DSK C base fin k a un l (nid+1) d e h n ds (readsOf e (.idxs z x y)) (stepW (.idxs z x y) e h nid):=dk_step rfl
@[simp] theorem dk_idxa {m z:Nat} {x y:Opd}:DK C base fin k a un (⟨d,none,.idxa m z x y⟩::l) nid ⟨e,h,n⟩ ds=DSK C base fin k a un l (nid+1) d e h n ds (readsOf e (.idxa m z x y)) (stepW (.idxa m z x y) e h nid):=dk_step rfl
@[simp] theorem dk_idxstr {x y:Opd}:DK C base fin k a un (⟨d,none,.idxstr x y⟩::l) nid ⟨e,h,n⟩ ds=DSK C base fin k a un l (nid+1) d e h n ds (readsOf e (.idxstr x y)) (stepW (.idxstr x y) e h nid):=dk_step rfl
@[simp] theorem dk_idxv {m z:Nat} {ag:Bool} {x y:Opd}:DK C base fin k a un (⟨d,none,.idxv m z ag x y⟩::l) nid ⟨e,h,n⟩ ds=DSK C base fin k a un l (nid+1) d e h n ds (readsOf e (.idxv m z ag x y)) (stepW (.idxv m z ag x y) e h nid):=dk_step rfl
@[simp] theorem dk_look {kd:Nat} {z:AV} {ok:Bool} {x y:Opd}:DK C base fin k a un (⟨d,none,.look kd z ok x y⟩::l) nid ⟨e,h,n⟩ ds=DSK C base fin k a un l (nid+1) d e h n ds (readsOf e (.look kd z ok x y)) (stepW (.look kd z ok x y) e h nid):=dk_step rfl
@[simp] theorem dk_upd {kd:Nat} {x y z:Opd}:DK C base fin k a un (⟨d,none,.upd kd x y z⟩::l) nid ⟨e,h,n⟩ ds=DSK C base fin k a un l (nid+1) d e h n ds (readsOf e (.upd kd x y z)) (stepW (.upd kd x y z) e h nid):=dk_step rfl
@[simp] theorem dk_range {x:Opd}:DK C base fin k a un (⟨d,none,.range x⟩::l) nid ⟨e,h,n⟩ ds=DSK C base fin k a un l (nid+1) d e h n ds (readsOf e (.range x)) (stepW (.range x) e h nid):=dk_step rfl
@[simp] theorem dk_next {x:Opd}:DK C base fin k a un (⟨d,none,.next x⟩::l) nid ⟨e,h,n⟩ ds=DSK C base fin k a un l (nid+1) d e h n ds (readsOf e (.next x)) (stepW (.next x) e h nid):=dk_step rfl
@[simp] theorem dk_ext {i:Nat} {x:Opd}:DK C base fin k a un (⟨d,none,.ext i x⟩::l) nid ⟨e,h,n⟩ ds=DSK C base fin k a un l (nid+1) d e h n ds (readsOf e (.ext i x)) (stepW (.ext i x) e h nid):=dk_step rfl
@[simp] theorem dk_len {kd:Nat} {x:Opd}:DK C base fin k a un (⟨d,none,.len kd x⟩::l) nid ⟨e,h,n⟩ ds=DSK C base fin k a un l (nid+1) d e h n ds (readsOf e (.len kd x)) (stepW (.len kd x) e h nid):=dk_step rfl
@[simp] theorem dk_cap {x:Opd}:DK C base fin k a un (⟨d,none,.cap x⟩::l) nid ⟨e,h,n⟩ ds=DSK C base fin k a un l (nid+1) d e h n ds (readsOf e (.cap x)) (stepW (.cap x) e h nid):=dk_step rfl
@[simp] theorem dk_app {z:List AV} {b:Nat} {zs:Bool} {x y:Opd}:DK C base fin k a un (⟨d,none,.app z b zs x y⟩::l) nid ⟨e,h,n⟩ ds=DSK C base fin k a un l (nid+1) d e h n ds (readsOf e (.app z b zs x y)) (stepW (.app z b zs x y) e h nid):=dk_step rfl
@[simp] theorem dk_cpy {z:Nat} {x y:Opd}:DK C base fin k a un (⟨d,none,.cpy z x y⟩::l) nid ⟨e,h,n⟩ ds=DSK C base fin k a un l (nid+1) d e h n ds (readsOf e (.cpy z x y)) (stepW (.cpy z x y) e h nid):=dk_step rfl
@[simp] theorem dk_clr {z:List AV} {x:Opd}:DK C base fin k a un (⟨d,none,.clr z x⟩::l) nid ⟨e,h,n⟩ ds=DSK C base fin k a un l (nid+1) d e h n ds (readsOf e (.clr z x)) (stepW (.clr z x) e h nid):=dk_step rfl
@[simp] theorem dk_mx {x y:Opd}:DK C base fin k a un (⟨d,none,.mx x y⟩::l) nid ⟨e,h,n⟩ ds=DSK C base fin k a un l (nid+1) d e h n ds (readsOf e (.mx x y)) (stepW (.mx x y) e h nid):=dk_step rfl
@[simp] theorem dk_mn {x y:Opd}:DK C base fin k a un (⟨d,none,.mn x y⟩::l) nid ⟨e,h,n⟩ ds=DSK C base fin k a un l (nid+1) d e h n ds (readsOf e (.mn x y)) (stepW (.mn x y) e h nid):=dk_step rfl
end
@[simp] theorem nat?_cast (n:Nat):nat? (n:Int)=some n:=rfl
@[simp] theorem nat?_zero:nat? 0=some 0:=rfl
@[simp] theorem nat?_one:nat? 1=some 1:=rfl
@[simp] theorem nat?_lit (n:Nat):nat? (no_index (OfNat.ofNat n):Int)=some n:=rfl
@[simp] theorem nat?_add (n m:Nat):nat? ((n:Int)+(m:Int))=some (n+m):=rfl
@[simp] theorem nat?_add_lit (n m:Nat):nat? ((n:Int)+(no_index (OfNat.ofNat m):Int))=some (n+m):=rfl
theorem wI64 {x:Int} (h1:-9223372036854775808≤x) (h2:x < 9223372036854775808):IntKind.i64.wrap x=x:=by
 show (if (true&&decide (x % 18446744073709551616 ≥ 9223372036854775808))=true then x % 18446744073709551616 - 18446744073709551616 else x % 18446744073709551616)=x
 simp only [Bool.true_and,decide_eq_true_eq]
 split <;> omega
theorem wU64 {x:Int} (h1:0≤x) (h2:x < 18446744073709551616):IntKind.u64.wrap x=x:=by
 show (if (false&&decide (x % 18446744073709551616 ≥ 9223372036854775808))=true then x % 18446744073709551616 - 18446744073709551616 else x % 18446744073709551616)=x
 simp only [Bool.false_and,Bool.false_eq_true,if_false]
 omega
theorem wU8 {x:Int} (h1:0≤x) (h2:x < 256):IntKind.u8.wrap x=x:=by
 show (if (false&&decide (x % 256 ≥ 128))=true then x % 256 - 256 else x % 256)=x
 simp only [Bool.false_and,Bool.false_eq_true,if_false]
 omega
theorem fits {n c:Nat} (h:n * c≤35184372088832):(n * c≤35184372088832)=True:=eq_true h
@[simp ↓] theorem ob_s {α β:Type} (a:α) (f:α→Option β):ob (some a) f=f a:=rfl
@[simp] theorem resOf_tmp (e:Env) (h:WHeap) (t:Nat):resOfW e h (.tmp t)=Pav.get e t:=rfl
def cellOf (h:WHeap) (n:Nat) (ag:Bool):Option AV→Option AV
 | some (.ptr b i o)=>wLoadAt n ag o i (Pav.get h b)
 | _=>none
@[simp] theorem resOf_cell (e:Env) (h:WHeap) (t n:Nat) (ag:Bool):resOfW e h (.cell t n ag)=cellOf h n ag (Pav.get e t):=rfl
attribute [simp] cellOf
@[simp] theorem ev_t (s:Nat) (e:Env):(Opd.t s).ev e=(Pav.get e s).getD .undef:=rfl
@[simp] theorem ev_c (v:AV) (e:Env):(Opd.c v).ev e=v:=rfl
@[simp ↓] theorem ob_n {α β:Type} (f:α→Option β):ob none f=none:=rfl
@[simp ↓] theorem om_s {α β:Type} (a:α) (f:α→β):om (some a) f=some (f a):=rfl
@[simp ↓] theorem om_n {α β:Type} (f:α→β):om none f=none:=rfl
@[simp] theorem og_t {β:Type} (x:Option β):og true x=x:=rfl
@[simp] theorem og_f {β:Type} (x:Option β):og false x=none:=rfl
@[simp] theorem ov_s (v:AV):ov (some v)=some (v,[]):=rfl
@[simp] theorem ovW_s (v:AV):ovW (some v)=some (v,[]):=rfl
@[simp] theorem plainW_s (x:AV × Upd):plainW (some x)=some (x.1,[]):=rfl
def consO {α:Type}:Option α→Option (List α)→Option (List α)
 | some a,some l=>some (a::l)
 | _,_=>none
@[simp] theorem consO_s {α:Type} (a:α) (l:List α):consO (some a) (some l)=some (a::l):=rfl
@[simp] theorem mapO_nil {α β:Type} (f:α→Option β):mapO f []=some []:=rfl
@[simp] theorem mapO_cons {α β:Type} (f:α→Option β) (a:α) (r:List α):mapO f (a::r)=consO (f a) (mapO f r):=by
 simp only [mapO];cases f a <;> cases mapO f r <;> rfl
def consE (k:Nat):Option AV→Option Env→Option Env
 | some v,some r=>some ((k,v)::r)
 | _,_=>none
@[simp] theorem consE_s (k:Nat) (v:AV) (r:Env):consE k (some v) (some r)=some ((k,v)::r):=rfl
@[simp] theorem renEnv_nil (π:Nat→Option Nat):renEnv π []=some []:=rfl
@[simp] theorem renEnv_cons (π:Nat→Option Nat) (k:Nat) (v:AV) (r:Env):renEnv π ((k,v)::r)=consE k (ren π v) (renEnv π r):=by
 simp only [renEnv];cases ren π v <;> cases renEnv π r <;> rfl
def ptrO (i o:Nat):Option Nat→Option AV
 | some b=>some (.ptr b i o)
 | none=>none
def slO (z i l c:Nat) (ex:Bool):Option Nat→Option AV
 | some b=>some (.sl b z i l c ex)
 | none=>none
def mapV:Option Nat→Option AV
 | some b=>some (.map b)
 | none=>none
def fnO (f:Nat):Option (List AV)→Option AV
 | some cs=>some (.fn f cs)
 | none=>none
def aggO:Option (List AV)→Option AV
 | some cs=>some (.agg cs)
 | none=>none
def tupO:Option (List AV)→Option AV
 | some cs=>some (.tup cs)
 | none=>none
@[simp] theorem ptrO_s (i o b:Nat):ptrO i o (some b)=some (.ptr b i o):=rfl
@[simp] theorem slO_s (z i l c:Nat) (ex:Bool) (b:Nat):slO z i l c ex (some b)=some (.sl b z i l c ex):=rfl
@[simp] theorem mapV_s (b:Nat):mapV (some b)=some (.map b):=rfl
@[simp] theorem fnO_s (f:Nat) (cs:List AV):fnO f (some cs)=some (.fn f cs):=rfl
@[simp] theorem aggO_s (cs:List AV):aggO (some cs)=some (.agg cs):=rfl
@[simp] theorem tupO_s (cs:List AV):tupO (some cs)=some (.tup cs):=rfl
section
variable (π:Nat→Option Nat)
@[simp] theorem ren_ptr (b i o:Nat):ren π (.ptr b i o)=ptrO i o (π b):=by simp only [ren];cases π b <;> rfl
@[simp] theorem ren_sl (b z i l c:Nat) (ex:Bool):ren π (.sl b z i l c ex)=slO z i l c ex (π b):=by simp only [ren];cases π b <;> rfl
@[simp] theorem ren_map (b:Nat):ren π (.map b)=mapV (π b):=by simp only [ren];cases π b <;> rfl
@[simp] theorem ren_fn (f:Nat) (cs:List AV):ren π (.fn f cs)=fnO f (renL π cs):=by simp only [ren];cases renL π cs <;> rfl
@[simp] theorem ren_agg (cs:List AV):ren π (.agg cs)=aggO (renL π cs):=by simp only [ren];cases renL π cs <;> rfl
@[simp] theorem ren_tup (cs:List AV):ren π (.tup cs)=tupO (renL π cs):=by simp only [ren];cases renL π cs <;> rfl
@[simp] theorem ren_undef:ren π .undef=some .undef:=rfl
@[simp] theorem ren_bool (b:Bool):ren π (.bool b)=some (.bool b):=rfl
@[simp] theorem ren_int (k:IntKind) (n:Int):ren π (.int k n)=some (.int k n):=rfl
@[simp] theorem ren_str (s:List UInt8):ren π (.str s)=some (.str s):=rfl
@[simp] theorem ren_nilp:ren π .nilp=some .nilp:=rfl
@[simp] theorem ren_nils:ren π .nils=some .nils:=rfl
@[simp] theorem ren_nilm:ren π .nilm=some .nilm:=rfl
@[simp] theorem ren_nilf:ren π .nilf=some .nilf:=rfl
@[simp] theorem ren_ro (z:Nat) (es:List (List AV)) (ex:Bool):ren π (.ro z es ex)=some (.ro z es ex):=rfl
@[simp] theorem ren_rop (cs:List AV):ren π (.rop cs)=some (.rop cs):=rfl
@[simp] theorem renL_nil:renL π []=some []:=rfl
@[simp] theorem renL_cons (v:AV) (r:List AV):renL π (v::r)=consO (ren π v) (renL π r):=by simp only [renL];cases ren π v <;> cases renL π r <;> rfl
def cellsO (z:Nat) (mu dt:Bool):Option (List (List AV))→Option WObj
 | some es=>some (.cells z es mu dt)
 | none=>none
@[simp] theorem cellsO_s (z:Nat) (mu dt:Bool) (es:List (List AV)):cellsO z mu dt (some es)=some (.cells z es mu dt):=rfl
@[simp] theorem renObj_dt (z:Nat) (es:List (List AV)) (mu:Bool):renObj π (.cells z es mu true)=some (.cells z es mu true):=rfl
@[simp] theorem renObj_nd (z:Nat) (es:List (List AV)) (mu:Bool):renObj π (.cells z es mu false)=cellsO z mu false (mapO (renL π) es):=by simp only [renObj];cases mapO (renL π) es <;> rfl
@[simp] theorem renObj_map (es:List (AV × AV)):renObj π (.map es)=some (.map es):=rfl
@[simp] theorem renObj_iter (s:List UInt8) (p:Nat):renObj π (.iter s p)=some (.iter s p):=rfl
def consH (k:Nat):Option WObj→Option WHeap→Option WHeap
 | some v,some r=>some ((k,v)::r)
 | _,_=>none
@[simp] theorem consH_s (k:Nat) (v:WObj) (r:WHeap):consH k (some v) (some r)=some ((k,v)::r):=rfl
@[simp] theorem renOld_nil (base:Nat):renOld base π []=some []:=rfl
@[simp] theorem renOld_cons (base b:Nat) (o:WObj) (r:WHeap):renOld base π ((b,o)::r)=if b < base then consH b (renObj π o) (renOld base π r) else renOld base π r:=by
 simp only [renOld]
 split
 · cases renObj π o <;> cases renOld base π r <;> rfl
 · rfl
def newH (n:Nat) (π:Nat→Option Nat) (r:Option WHeap):Option WObj→Option WHeap
 | some o=>consH n (renObj π o) r
 | none=>r
@[simp] theorem newH_s (n:Nat) (r:Option WHeap) (o:WObj):newH n π r (some o)=consH n (renObj π o) r:=rfl
@[simp] theorem newH_n (n:Nat) (r:Option WHeap):newH n π r none=r:=rfl
@[simp] theorem renNew_nil (h:WHeap) (n:Nat):renNew π h n []=some []:=rfl
@[simp] theorem renNew_cons (h:WHeap) (n b:Nat) (r:List Nat):renNew π h n (b::r)=newH n π (renNew π h (n+1) r) (Pav.get h b):=by
 simp only [renNew,newH]
 cases Pav.get h b with
 | none=>rfl
 | some o=>simp only;cases renObj π o <;> cases renNew π h (n+1) r <;> rfl
end
def num3 (n:Nat):Option Env→Option WHeap→Option WHeap→Option WSt
 | some e,some h1,some h2=>some ⟨e,h1++h2,n⟩
 | _,_,_=>none
@[simp] theorem num3_s (n:Nat) (e:Env) (h1 h2:WHeap):num3 n (some e) (some h1) (some h2)=some ⟨e,h1++h2,n⟩:=rfl
@[simp] theorem renumber_eq (base:Nat) (s:WSt) (L:List Nat):renumber base s L=num3 (base+L.length) (renEnv (newNum base L) s.env) (renOld base (newNum base L) s.heap) (renNew (newNum base L) s.heap base L):=by
 simp only [renumber]
 cases renEnv (newNum base L) s.env <;> cases renOld base (newNum base L) s.heap <;> cases renNew (newNum base L) s.heap base L <;> rfl
def appK (h:WHeap) (nid zl bytes:Nat) (s:AV):Option (List (List AV) × Bool)→Option (AV × WUpd)
 | some (xs,d)=>wEvApp h nid zl bytes s xs d
 | none=>none
@[simp] theorem appK_s (h:WHeap) (nid zl bytes:Nat) (s:AV) (xs:List (List AV)) (d:Bool):appK h nid zl bytes s (some (xs,d))=wEvApp h nid zl bytes s xs d:=rfl
@[simp] theorem wApp_f (z:List AV) (bytes:Nat) (s x:Opd) (e:Env) (h:WHeap) (n:Nat):wApp z bytes false s x e h n=appK h n z.length bytes (s.ev e) (wElems h z.length (x.ev e)):=by
 simp only [wApp,Bool.false_eq_true,if_false];cases wElems h z.length (x.ev e) <;> rfl
def zerosK (h:WHeap) (nid:Nat) (z:List AV) (bytes:Nat) (s:AV):AV→Option (AV × WUpd)
 | .int _ n=>ob (nat? n) fun n=>if n * (bytes+1)≤maxBytes then wEvApp h nid z.length bytes s (List.replicate n z) (z.all isC) else none
 | _=>none
@[simp] theorem wApp_t (z:List AV) (bytes:Nat) (s x:Opd) (e:Env) (h:WHeap) (n:Nat):wApp z bytes true s x e h n=zerosK h n z bytes (s.ev e) (x.ev e):=by
 simp only [wApp,if_true];cases x.ev e <;> rfl
def cpyK (h:WHeap) (z:Nat) (d:AV):Option (List (List AV) × Bool)→Option (AV × WUpd)
 | some (xs,b)=>wCopyIn h z xs b d
 | none=>none
@[simp] theorem cpyK_s (h:WHeap) (z:Nat) (d:AV) (xs:List (List AV)) (b:Bool):cpyK h z d (some (xs,b))=wCopyIn h z xs b d:=rfl
@[simp] theorem wCpy_eq (z:Nat) (d s:Opd) (e:Env) (h:WHeap) (n:Nat):wCpy z d s e h n=cpyK h z (d.ev e) (wElems h z (s.ev e)):=by
 simp only [wCpy];cases wElems h z (s.ev e) <;> rfl
attribute [simp] zerosK
@[simp] theorem ob_map {α β γ:Type} (x:Option α) (g:α→β) (f:β→Option γ):ob (Option.map g x) f=ob x fun a=>f (g a):=by cases x <;> rfl
section
variable (h:WHeap) (nid zl bytes:Nat) (xs:List (List AV)) (d:Bool)
@[simp] theorem wEvApp_nils:wEvApp h nid zl bytes .nils xs d=if xs.isEmpty=true then some (.nils,[]) else wNewRow nid zl xs.length bytes xs d:=by cases xs <;> rfl
@[simp] theorem wEvApp_ro (z:Nat) (es:List (List AV)) (ex:Bool):wEvApp h nid zl bytes (.ro z es ex) xs d =
 if z=zl then (if xs.isEmpty=true then some (.ro z es ex,[]) else if ex=true then wNewRow nid zl (es.length+xs.length) bytes (es++xs) d else none) else none:=by cases xs <;> rfl
@[simp] theorem wEvApp_sl (b z i len cap:Nat) (ex:Bool):wEvApp h nid zl bytes (.sl b z i len cap ex) xs d =
 if z=zl then (if xs.isEmpty=true then some (.sl b z i len cap ex,[]) else wAppSl (Pav.get h b) nid zl bytes b i len cap ex xs d (len+xs.length)) else none:=by cases xs <;> rfl
end
def frzS (h:WHeap) (n z i len cap:Nat) (ex:Bool):Option WObj→Option AV
 | some (.cells _ es _ true)=>og (decide (((es.drop i).take len).length=len)) (some (.ro z ((es.drop i).take len) (ex&&decide (cap=len))))
 | some (.cells _ es _ false)=>ob (mapO (mapO (frzW h n)) ((es.drop i).take len)) fun es'=>og (decide (es'.length=len)&&es'.all fun e=>e.all isC) (some (.ro z es' (ex&&decide (cap=len))))
 | _=>none
def frzP (h:WHeap) (n i o:Nat):Option WObj→Option AV
 | some (.cells _ es _ true)=>ob es[i]? fun cs=>some (.rop (cs.drop o))
 | some (.cells _ es _ false)=>ob es[i]? fun cs=>ob (mapO (frzW h n) (cs.drop o)) fun cs'=>some (.rop cs')
 | _=>none
def reachP (h:WHeap) (n i o:Nat):Option WObj→List Nat
 | some (.cells _ es _ false)=>((es[i]?.getD []).drop o).flatMap (reachW h n)
 | _=>[]
def reachS (h:WHeap) (n i len:Nat):Option WObj→List Nat
 | some (.cells _ es _ false)=>((es.drop i).take len).flatMap fun e=>e.flatMap (reachW h n)
 | _=>[]
section
variable (h:WHeap) (n:Nat)
@[simp] theorem frzW_bool (b:Bool):frzW h (n+1) (.bool b)=some (.bool b):=rfl
@[simp] theorem frzW_int (k:IntKind) (x:Int):frzW h (n+1) (.int k x)=some (.int k x):=rfl
@[simp] theorem frzW_str (s:List UInt8):frzW h (n+1) (.str s)=some (.str s):=rfl
@[simp] theorem frzW_nilp:frzW h (n+1) .nilp=some .nilp:=rfl
@[simp] theorem frzW_nils:frzW h (n+1) .nils=some .nils:=rfl
@[simp] theorem frzW_nilm:frzW h (n+1) .nilm=some .nilm:=rfl
@[simp] theorem frzW_nilf:frzW h (n+1) .nilf=some .nilf:=rfl
@[simp] theorem frzW_ro (z:Nat) (es:List (List AV)) (ex:Bool):frzW h (n+1) (.ro z es ex)=some (.ro z es ex):=rfl
@[simp] theorem frzW_rop (cs:List AV):frzW h (n+1) (.rop cs)=some (.rop cs):=rfl
@[simp] theorem frzW_fn (f:Nat) (cs:List AV):frzW h (n+1) (.fn f cs)=fnO f (mapO (frzW h n) cs):=by simp only [frzW];cases mapO (frzW h n) cs <;> rfl
@[simp] theorem frzW_agg (cs:List AV):frzW h (n+1) (.agg cs)=aggO (mapO (frzW h n) cs):=by simp only [frzW];cases mapO (frzW h n) cs <;> rfl
@[simp] theorem frzW_tup (cs:List AV):frzW h (n+1) (.tup cs)=tupO (mapO (frzW h n) cs):=by simp only [frzW];cases mapO (frzW h n) cs <;> rfl
@[simp] theorem frzW_sl (b z i len cap:Nat) (ex:Bool):frzW h (n+2) (.sl b z i len cap ex)=frzS h (n+1) z i len cap ex (Pav.get h b):=by
 simp only [frzW,frzS]
 split
 · rename_i hg
   rw [hg]
   rename_i dt
   cases dt <;> rfl
 · rename_i hg
   split
   · rename_i h1;exact absurd h1 (hg _ _ _ _)
   · rename_i h1;exact absurd h1 (hg _ _ _ _)
   · rfl
@[simp] theorem frzW_ptr (b i o:Nat):frzW h (n+2) (.ptr b i o)=frzP h (n+1) i o (Pav.get h b):=by
 simp only [frzW,frzP]
 split
 · rename_i hg
   rw [hg]
   rename_i es _ dt
   cases dt
   · simp only [Bool.false_eq_true,if_false]
     cases es[i]? with
     | none=>rfl
     | some cs=>simp only [ob];cases mapO (frzW h (n+1)) (cs.drop o) <;> rfl
   · rfl
 · rename_i hg
   split
   · rename_i h1;exact absurd h1 (hg _ _ _ _)
   · rename_i h1;exact absurd h1 (hg _ _ _ _)
   · rfl
@[simp] theorem reachW_ptr (b i o:Nat):reachW h (n+1) (.ptr b i o)=b::reachP h n i o (Pav.get h b):=by
 simp only [reachW,reachP]
 congr 1
 split
 · rename_i hg
   rw [hg]
   rename_i dt
   cases dt <;> rfl
 · rename_i hg
   split
   · rename_i h1;exact absurd h1 (hg _ _ _ _)
   · rfl
@[simp] theorem reachW_bool (b:Bool):reachW h (n+1) (.bool b)=[]:=rfl
@[simp] theorem reachW_int (k:IntKind) (x:Int):reachW h (n+1) (.int k x)=[]:=rfl
@[simp] theorem reachW_str (s:List UInt8):reachW h (n+1) (.str s)=[]:=rfl
@[simp] theorem reachW_nilp:reachW h (n+1) .nilp=[]:=rfl
@[simp] theorem reachW_nils:reachW h (n+1) .nils=[]:=rfl
@[simp] theorem reachW_nilm:reachW h (n+1) .nilm=[]:=rfl
@[simp] theorem reachW_nilf:reachW h (n+1) .nilf=[]:=rfl
@[simp] theorem reachW_ro (z:Nat) (es:List (List AV)) (ex:Bool):reachW h (n+1) (.ro z es ex)=[]:=rfl
@[simp] theorem reachW_rop (cs:List AV):reachW h (n+1) (.rop cs)=[]:=rfl
@[simp] theorem reachW_fn (f:Nat) (cs:List AV):reachW h (n+1) (.fn f cs)=cs.flatMap (reachW h n):=rfl
@[simp] theorem reachW_agg (cs:List AV):reachW h (n+1) (.agg cs)=cs.flatMap (reachW h n):=rfl
@[simp] theorem reachW_tup (cs:List AV):reachW h (n+1) (.tup cs)=cs.flatMap (reachW h n):=rfl
@[simp] theorem reachW_sl (b z i len cap:Nat) (ex:Bool):reachW h (n+1) (.sl b z i len cap ex)=b::reachS h n i len (Pav.get h b):=by
 simp only [reachW,reachS]
 congr 1
 split
 · rename_i hg
   rw [hg]
   rename_i dt
   cases dt <;> rfl
 · rename_i hg
   split
   · rename_i h1;exact absurd h1 (hg _ _ _ _)
   · rfl
@[simp] theorem hasRefW_bool (b:Bool):hasRefW (n+1) (.bool b)=false:=rfl
@[simp] theorem hasRefW_int (k:IntKind) (x:Int):hasRefW (n+1) (.int k x)=false:=rfl
@[simp] theorem hasRefW_str (s:List UInt8):hasRefW (n+1) (.str s)=false:=rfl
@[simp] theorem hasRefW_nilp:hasRefW (n+1) .nilp=false:=rfl
@[simp] theorem hasRefW_nils:hasRefW (n+1) .nils=false:=rfl
@[simp] theorem hasRefW_nilm:hasRefW (n+1) .nilm=false:=rfl
@[simp] theorem hasRefW_nilf:hasRefW (n+1) .nilf=false:=rfl
@[simp] theorem hasRefW_ro (z:Nat) (es:List (List AV)) (ex:Bool):hasRefW (n+1) (.ro z es ex)=true:=rfl
@[simp] theorem hasRefW_rop (cs:List AV):hasRefW (n+1) (.rop cs)=true:=rfl
@[simp] theorem hasRefW_fn (f:Nat) (cs:List AV):hasRefW (n+1) (.fn f cs)=cs.any (hasRefW n):=rfl
@[simp] theorem hasRefW_agg (cs:List AV):hasRefW (n+1) (.agg cs)=cs.any (hasRefW n):=rfl
@[simp] theorem hasRefW_tup (cs:List AV):hasRefW (n+1) (.tup cs)=cs.any (hasRefW n):=rfl
end
def imax (a b:Int):Int:=if b > a then b else a
def imin (a b:Int):Int:=if b < a then b else a
theorem imax_l {a b:Int} (h:b≤a):imax a b=a:=by unfold imax;rw [if_neg (by omega)]
theorem imax_r {a b:Int} (h:a≤b):imax a b=b:=by unfold imax;split <;> omega
def mxV:AV→AV→Option (AV × Upd)
 | .int k a,.int k' b=>if k=k' then some (.int k (imax a b),[]) else none
 | _,_=>none
def mnV:AV→AV→Option (AV × Upd)
 | .int k a,.int k' b=>if k=k' then some (.int k (imin a b),[]) else none
 | _,_=>none
@[simp] theorem sMx_eq (x y:Opd) (e:Env) (h:Heap) (n:Nat):sMx x y e h n=mxV (x.ev e) (y.ev e):=rfl
@[simp] theorem sMn_eq (x y:Opd) (e:Env) (h:Heap) (n:Nat):sMn x y e h n=mnV (x.ev e) (y.ev e):=rfl
attribute [simp] mxV mnV
@[simp] theorem canonF_nil (base:Nat) (cn:Bool) (lv:List Nat) (s:WSt):canonF base ⟨cn,lv,[]⟩ s=canon base ⟨cn,lv,[]⟩ s:=rfl
@[simp] theorem canonF_cons (base:Nat) (cn:Bool) (lv:List Nat) (p:Nat × Nat) (r:List (Nat × Nat)) (s:WSt):canonF base ⟨cn,lv,p::r⟩ s=ob (frzSlotsW (frzOf (p::r)) s) (canon base ⟨cn,lv,p::r⟩):=rfl
attribute [simp] frzOf frzSlotsW frzSlotW
attribute [simp] List.getElem?_cons_zero frzS reachS frzP reachP
attribute [simp] stepW wAlloc wBox boxedW wBuildS fillS wLoad wLoadOf wLoadAt loadC wStore wStoreOf wStoreAt splice wMkmap wMksl wLook wLookIn found wUpd wUpdIn wRange wNext wNextIter wLen wEvLen wLenMap wElems wNewRow wAppSl
 wCopyTo wCopyIn wClr wClrIn wClrTo sMv sPick sBuild fillC sNilchk sBin evBin binInt binStr isShift shiftInt sEqv eqVals eqFn eqPtr eqMap eqAgg eqCells eqBool wEqSl keyOk eqCell sUn evUn sCvt sCvs sCvb evCvb sMkfn sSlice evSlice wSliceA wSliceOf wSliceAt sliceArr sliceRo sliceSl sliceNil sliceStr bound oev
 sFld sFldv sIdxs idxsAt sIdxa idxaAt sIdxstr sIdxv sExt sCap evCap AV.cells AV.cell isC isD Pav.get Pav.put setD setE applyW updOneW del readsOf ptrId canon noRen canonG growAll growOne keepL_nil keepL_cons keepN dropLt newNum place close
 envRefs oldRefs refs refsL objRefs markFrozenW marksW hasPtr hasPtrL resultsW tupled fnEndW pureFin argW frzDepth putE maxBytes mapGet mapPut apartR clashR quietR meets
def rep {α:Type} (n:Nat) (a:α):List α:=List.replicate n a
section
variable {α β:Type} (n:Nat) (a:α)
@[simp] theorem rep_length:(rep n a).length=n:=List.length_replicate
@[simp] theorem rep_map (f:α→β):List.map f (rep n a)=rep n (f a):=List.map_replicate
@[simp] theorem rep_all (p:α→Bool):(rep (n+1) a).all p=p a:=by
 unfold rep;rw [List.all_replicate];simp
@[simp] theorem rep_getElem {i:Nat} (h:i < (rep n a).length):(rep n a)[i]=a:=by
 unfold rep;exact List.getElem_replicate _
@[simp] theorem rep_take_self:List.take n (rep n a)=rep n a:=List.take_of_length_le (by simp)
@[simp] theorem rep_cons (n:Nat):(rep (n+1) a).isEmpty=false:=rfl
end
end Go.Pw
end
section
set_option linter.unusedSimpArgs false
set_option linter.unusedVariables false
namespace Go.Pw
open Go Go.Pav
inductive ZO where
 | p (d:Option (Option Nat)) (g:Option (Nat × Bool)) (x:COp)
def zt:List Nat→List Opd
 | []=>[]
 | a::r=>.t a::zt r
namespace Z
def y (s:Nat):ZO→ZO
 | .p d _ x=>.p d (some (s,true)) x
def z (s:Nat):ZO→ZO
 | .p d _ x=>.p d (some (s,false)) x
def d (k:Nat):ZO→ZO
 | .p _ g x=>.p (some (some k)) g x
def n:ZO→ZO
 | .p _ g x=>.p (some none) g x
def m (a:Nat):ZO:=.p none none (.mv (.t a))
def i (k:Int):ZO:=.p none none (.mv (.c (.int .i64 k)))
def l (k a:Nat):ZO:=.p none none (.load k false (.t a))
def h (k a:Nat):ZO:=.p none none (.load k true (.t a))
def f (o a:Nat):ZO:=.p none none (.fld o (.t a))
def po (a b:Nat):ZO:=.p none none (.pick (.t a) (.c (.bool true)) (.t b))
def pa (a b:Nat):ZO:=.p none none (.pick (.t a) (.t b) (.c (.bool false)))
def ln (k a:Nat):ZO:=.p none none (.len k (.t a))
def ix (k a b:Nat):ZO:=.p none none (.idxs k (.t a) (.t b))
def ex (k a:Nat):ZO:=.p none none (.ext k (.t a))
def nk (a:Nat):ZO:=.p none none (.nilchk (.t a))
def bx (a:Nat):ZO:=.p none none (.box (.t a))
def nt (a:Nat):ZO:=.p none none (.un .not (.t a))
def st (k a b:Nat):ZO:=.p none none (.store k (.t a) (.t b))
def E (x:COp):ZO:=.p none none x
def tt:ZO:=.p none none (.mv (.c (.bool true)))
def ff:ZO:=.p none none (.mv (.c (.bool false)))
def ca (g:Nat) (q:List Nat):ZO:=.p none none (.call g (zt q))
def eq (a b:Nat):ZO:=.p none none (.bin .eql (.t a) (.t b))
def eqi (a:Nat) (k:Int):ZO:=.p none none (.bin .eql (.t a) (.c (.int .i64 k)))
def ne (a b:Nat):ZO:=.p none none (.bin .neq (.t a) (.t b))
def nei (a:Nat) (k:Int):ZO:=.p none none (.bin .neq (.t a) (.c (.int .i64 k)))
def lt (a b:Nat):ZO:=.p none none (.bin .lss (.t a) (.t b))
def lti (a:Nat) (k:Int):ZO:=.p none none (.bin .lss (.t a) (.c (.int .i64 k)))
def le (a b:Nat):ZO:=.p none none (.bin .leq (.t a) (.t b))
def lei (a:Nat) (k:Int):ZO:=.p none none (.bin .leq (.t a) (.c (.int .i64 k)))
def gt (a b:Nat):ZO:=.p none none (.bin .gtr (.t a) (.t b))
def gti (a:Nat) (k:Int):ZO:=.p none none (.bin .gtr (.t a) (.c (.int .i64 k)))
def ge (a b:Nat):ZO:=.p none none (.bin .geq (.t a) (.t b))
def gei (a:Nat) (k:Int):ZO:=.p none none (.bin .geq (.t a) (.c (.int .i64 k)))
def ad (a b:Nat):ZO:=.p none none (.bin .add (.t a) (.t b))
def adi (a:Nat) (k:Int):ZO:=.p none none (.bin .add (.t a) (.c (.int .i64 k)))
def sb (a b:Nat):ZO:=.p none none (.bin .sub (.t a) (.t b))
def sbi (a:Nat) (k:Int):ZO:=.p none none (.bin .sub (.t a) (.c (.int .i64 k)))
end Z
def zo:Nat→List ZO→List COper
 | _,[]=>[]
 | k,.p none g x::r=>⟨some k,g,x⟩::zo (k+1) r
 | k,.p (some j) g x::r=>⟨j,g,x⟩::zo k r
inductive ZC where
 | O (k:Nat) (l:List ZO)
 | Q (k:Nat) (l:List ZO) (s:List Nat)
 | R (k:Nat) (l:List ZO) (a:Ann)
 | U (k:Nat) (l:List ZO) (u:List (Nat × Nat)) (s:List Nat)
 | V (k:Nat) (l:List ZO) (u:List (Nat × Nat)) (a:Ann)
 | s (a b:ZC)
 | r (a:ZC)
 | c (t:Nat) (a:ZC)
 | cc (t:Nat) (a b:ZC)
 | cd (x:Opd) (a b:ZC)
 | B (j:Nat) (a:ZC)
 | bk (j:Nat) (a:ZC) (x:Ann)
 | lp (x:Ann) (a:ZC)
 | ee (j:Nat)
 | w (x:WCode)
instance:Coe WCode ZC:=⟨.w⟩
def zc:ZC→WCode
 | .O k l=>.ops (zo k l) ⟨false,[],[]⟩
 | .Q k l s=>.ops (zo k l) ⟨true,s,[]⟩
 | .R k l a=>.ops (zo k l) a
 | .U k l u s=>.draw (zo k l) u ⟨true,s,[]⟩
 | .V k l u a=>.draw (zo k l) u a
 | .s a b=>.seq (zc a) (zc b)
 | .r a=>.seq (zc a) .ret
 | .c t a=>.cond (.t t) (zc a) .skip
 | .cc t a b=>.cond (.t t) (zc a) (zc b)
 | .cd x a b=>.cond x (zc a) (zc b)
 | .B j a=>.block j (zc a) ⟨false,[],[]⟩
 | .bk j a x=>.block j (zc a) x
 | .lp x a=>.loop x (zc a)
 | .ee j=>.exit j
 | .w x=>x
abbrev T (a:Nat):Opd:=.t a
abbrev N (n:Int):Opd:=.c (.int .i64 n)
abbrev zd (x:ZC) {y:WCode} (_h:zc x=y:=by dsimp only [zc,zo,zt,T,N,Z.y,Z.z,Z.d,Z.n,Z.m,Z.i,Z.l,Z.h,Z.f,Z.po,Z.pa,Z.ln,Z.ix,Z.ex,Z.nk,Z.bx,Z.nt,Z.st,Z.E,Z.tt,Z.ff,Z.ca,Z.eq,Z.eqi,Z.ne,Z.nei,Z.lt,Z.lti,Z.le,Z.lei,Z.gt,Z.gti,Z.ge,Z.gei,Z.ad,Z.adi,Z.sb,Z.sbi]):WCode:=y
abbrev ZL (L B:WCode) (a:Ann):Prop:=∀ {β:Type} {C:WProg} {b:Nat} {f:Ex × WSt→Option β} {k:List Pw.Frame} {s:WSt},CK C b f k L s=LK C b f (.sq L::k) B (canon b a s)
end Go.Pw
end
section
set_option linter.unusedSimpArgs false
set_option linter.unusedVariables false
set_option maxRecDepth 100000
namespace P
open Go Go.Pav Go.Pw Go.Pw.Z Go.Pw.ZC
def w0:WFn:=⟨0,[],zd (O 0 [E .fail])⟩
def w143:WFn:=⟨3,[.tmp 6],zd (s (O 3 [bx 0,bx 1,d 6 ff]) (s (O 22 [h 7 3,ca 283 [22],d 21 (m 23),ex 0 21,ex 1 21,ex 2 21,d 7 (E (.alloc [.int .i64 0,.int .i64 0,.int .i64 0,.ro 9 [] true,.int .i64 0,.int .i64 0,.int .u8 0])),d 8 (E (.alloc [.ro 8 [] true,.ro 1 [] true])),d 9 (E (.alloc [.ro 6 [] true,.ro 6 [] true])),n (st 7 7 24),n (st 2 8 25),n (st 2 9 26)]) (s (O 27 [E (.idxa 2 1 (T 4) (N 0)),l 1 27,E (.bin .rem (T 28) (.c (.int .u16 2))),E (.cvt .i64 (T 29)),E (.idxa 2 1 (T 9) (T 30)),h 1 31,d 10 (E (.alloc [.ro 6 [] true])),n (st 1 10 32)]) (s (Q 33 [E (.idxa 2 1 (T 4) (N 1)),l 1 33,f 0 10,l 1 35,ln 1 36,ca 284 [34,37],d 11 (m 38)] [11,10,8,7,2]) (s (O 40 [h 7 7,h 2 8,f 0 10,l 1 42,m 11,ca 285 [40,41,43,44],d 39 (m 45),ex 0 39,ex 1 39,ex 2 39,d 12 (E (.alloc [.ro 8 [] true,.ro 1 [] true])),d 13 (E (.alloc [.int .i64 0,.int .i64 0,.int .i64 0,.int .i64 0])),n (st 2 12 46),n (st 4 13 47),d 14 (m 48)]) (s (O 49 [f 3 13,l 1 49,m 2,E (.cvt .i64 (T 51)),ad 50 52,E (.mx (N 1) (T 53)),f 5 7,n (st 1 55 54)]) (s (Q 57 [h 7 7,h 2 8,f 0 10,l 1 59,m 11,ca 285 [57,58,60,61],d 56 (m 62),ex 0 56,ex 1 56,ex 2 56,d 15 (E (.alloc [.ro 8 [] true,.ro 1 [] true])),d 16 (E (.alloc [.int .i64 0,.int .i64 0,.int .i64 0,.int .i64 0])),n (st 2 15 63),n (st 4 16 64),d 17 (m 65)] [17,16,15,13,11,10,8,7]) (s (O 67 [h 7 7,h 2 8,h 1 10,m 11,ca 139 [67,68,69,70],d 66 (m 71),ex 0 66,ex 1 66,ex 2 66,d 18 (E (.alloc [.ro 8 [] true,.ro 1 [] true])),d 19 (E (.alloc [.int .i64 0,.int .i64 0,.int .i64 0,.int .i64 0])),n (st 2 18 72),n (st 4 19 73),d 20 (m 74)]) (r (Q 75 [m 20,m 17,eq 75 76,m 77,y 78 (m 17),y 78 (eqi 79 15),y 78 (f 3 13),y 78 (l 1 81),y 78 (f 5 7),y 78 (l 1 83),y 78 (gt 82 84),y 78 (E (.eqv 5 [] false (T 80) (T 85))),pa 78 86,m 87,y 88 (h 4 19),y 88 (h 4 16),y 88 (E (.eqv 4 [0,0,0,0] false (T 89) (T 90))),pa 88 91,m 92,y 93 (h 2 18),y 93 (h 2 15),y 93 (ca 286 [94,95]),y 93 (eqi 96 1),pa 93 97,m 98,y 99 (ca 145 []),pa 99 100,d 6 (m 101)] [6]))))))))))⟩
def w283_c0:WCode:=zd (r (V 81 [h 7 9,h 2 11,h 2 10,n (st 7 2 81),n (st 2 3 82),n (st 2 4 83)] [(1,3),(2,3),(2,4)] ⟨false,[],[]⟩))
def w283_B0:WCode:=zd (s (s (O 41 [m 12,f 6 1,l 1 42,ln 1 43,lt 41 44,m 45,y 46 (m 12),y 46 (lti 47 8),pa 46 48]) (cc 49 (w .skip) (ee 0))) (s (B 1 (s (O 52 [f 6 1,l 1 52,m 12,ix 2 53 54,E (.idxa 2 1 (T 55) (N 0)),l 1 56,E (.bin .rem (T 57) (.c (.int .u16 2))),E (.cvt .i64 (T 58)),E (.idxa 2 1 (T 10) (T 59)),h 1 60,d 13 (E (.alloc [.ro 6 [] true])),n (st 1 13 61)]) (U 63 [h 7 9,h 2 11,f 0 13,l 1 65,f 6 1,l 1 67,m 12,ix 2 68 69,E (.idxa 2 1 (T 70) (N 1)),l 1 71,f 0 13,l 1 73,ln 1 74,ca 284 [72,75],ca 285 [63,64,66,76],d 62 (m 77),ex 0 62,ex 1 62,ex 2 62,n (st 2 11 78)] [(0,13),(1,13),(3,13)] [12,11,10,9,4,3,2,1]))) (O 50 [m 12,adi 50 1,d 12 (m 51)])))
def w283_L0:WCode:=.loop ⟨true,[12,11,10,9,4,3,2,1],[]⟩ w283_B0
def w283:WFn:=⟨1,[.cell 2 7 true,.cell 3 2 true,.cell 4 2 true],zd (s (O 1 [bx 0,E (.alloc [.int .i64 0,.int .i64 0,.int .i64 0,.ro 9 [] true,.int .i64 0,.int .i64 0,.int .u8 0]),E (.alloc [.ro 8 [] true,.ro 1 [] true]),E (.alloc [.ro 6 [] true,.ro 6 [] true])]) (s (O 14 [f 0 1,f 2 14,l 1 15,f 3 1,f 2 17,n (st 1 18 16)]) (s (Q 20 [f 0 1,h 3 20,ca 130 [21],d 19 (m 22),ex 0 19,ex 1 19,d 5 (E (.alloc [.ro 9 [] true,.int .i64 0])),d 6 (E (.alloc [.ro 6 [] true])),n (st 2 5 23),n (st 1 6 24)] [6,5,4,3,2,1]) (s (O 26 [f 3 1,h 3 26,ca 130 [27],d 25 (m 28),ex 0 25,ex 1 25,d 7 (E (.alloc [.ro 9 [] true,.int .i64 0])),d 8 (E (.alloc [.ro 6 [] true])),n (st 2 7 29),n (st 1 8 30)]) (s (O 31 [f 0 5,l 1 31,f 1 5,l 1 33,E (.build [.int .i64 0,.int .i64 0,.int .i64 0,.ro 9 [] true,.int .i64 0,.int .i64 0,.int .u8 0] [(0,1,N 100),(1,1,N 1),(2,1,N 1),(3,1,T 32),(4,1,T 34),(5,1,N 65536)]),d 9 (E (.alloc [.int .i64 0,.int .i64 0,.int .i64 0,.ro 9 [] true,.int .i64 0,.int .i64 0,.int .u8 0])),n (st 7 9 35)]) (s (O 36 [h 1 6,h 1 8,E (.build [.ro 6 [] true,.ro 6 [] true] [(0,1,T 36),(1,1,T 37)]),d 10 (E (.alloc [.ro 6 [] true,.ro 6 [] true])),n (st 2 10 38)]) (s (Q 39 [h 7 9,ca 296 [39],d 11 (E (.alloc [.ro 8 [] true,.ro 1 [] true])),n (st 2 11 40)] [11,10,9,4,3,2,1]) (s (s (O 12 [i 0]) (bk 0 w283_L0 ⟨true,[11,10,9,4,3,2],[]⟩)) w283_c0))))))))⟩
@[simp] theorem w283_E0:ZL w283_L0 w283_B0 ⟨true,[12,11,10,9,4,3,2,1],[]⟩:=ck_lp rfl
noncomputable abbrev w283_K0 (C:WProg) (s:WSt):Option AV:=CK C 0 (pureFin [.cell 2 7 true,.cell 3 2 true,.cell 4 2 true]) [.sq w283_L0,.bk 0 ⟨true,[11,10,9,4,3,2],[]⟩,.sq w283_c0] w283_B0 s
def w284_c0:WCode:=zd (r (O 25 [m 5,d 4 (m 25)]))
def w284_B0:WCode:=zd (s (s (O 7 [m 6,m 1,lt 7 8,m 9,y 10 (m 6),y 10 (lti 11 16),pa 10 12]) (cc 13 (w .skip) (ee 0))) (s (B 1 (s (O 16 [m 0,m 6,E (.bin .shr (T 16) (T 17)),E (.bin .rem (T 18) (.c (.int .u16 2))),E (.bin .gtr (T 19) (.c (.int .u16 0)))]) (c 20 (O 21 [m 5,m 6,E (.buildS [.int .i64 0] 1 [(0,T 22)]),E (.app [.int .i64 0] 8 false (T 21) (T 23)),d 5 (m 24)])))) (O 14 [m 6,adi 14 1,d 6 (m 15)])))
def w284_L0:WCode:=.loop ⟨true,[6,5,1,0],[]⟩ w284_B0
def w284:WFn:=⟨2,[.tmp 4],zd (s (O 4 [E (.mv (.c (.ro 1 [] true)))]) (s (R 5 [E (.mv (.c (.ro 1 [] true)))] ⟨true,[5,1,0],[(5,1)]⟩) (s (s (O 6 [i 0]) (bk 0 w284_L0 ⟨true,[5],[]⟩)) w284_c0)))⟩
@[simp] theorem w284_E0:ZL w284_L0 w284_B0 ⟨true,[6,5,1,0],[]⟩:=ck_lp rfl
noncomputable abbrev w284_K0 (C:WProg) (s:WSt):Option AV:=CK C 0 (pureFin [.tmp 4]) [.sq w284_L0,.bk 0 ⟨true,[5],[]⟩,.sq w284_c0] w284_B0 s
def w285_c0:WCode:=zd (s (O 155 [h 2 11,ca 297 [155],f 3 12,n (st 1 157 156)]) (s (s (O 158 [f 3 12,l 1 158,f 5 4,l 1 160,gt 159 161]) (c 162 (r (O 163 [E (.build [.ro 8 [] true,.ro 1 [] true] []),E (.build [.int .i64 0,.int .i64 0,.int .i64 0,.int .i64 0] []),n (st 2 8 163),n (st 4 9 164),d 10 (i 15)])))) (r (V 165 [h 2 11,h 4 12,n (st 2 8 165),n (st 4 9 166),d 10 (i 0)] [(1,2)] ⟨false,[],[]⟩))))
def w285_B0:WCode:=zd (s (s (O 73 [m 15,m 3,ln 1 74,lt 73 75]) (cc 76 (w .skip) (ee 2))) (s (B 3 (s (O 79 [m 2,m 3,m 15,ix 1 80 81,l 1 82,ix 6 79 83,f 0 84,h 4 85,d 16 (E (.alloc [.int .u64 0,.int .u8 0,.str [],.ro 1 [] true])),n (st 4 16 86)]) (s (V 87 [f 0 16,l 1 87,f 1 16,l 1 89,h 7 4,ca 299 [91],m 2,m 3,m 15,ix 1 94 95,l 1 96,ca 417 [92,93,97],E (.build [.int .u64 0,.int .u8 0,.int .u8 0,.str [],.str [],.ro 2 [] true,.str [],.ro 6 [] true] [(0,1,T 88),(1,1,T 90),(2,6,T 98)]),d 17 (E (.alloc [.int .u64 0,.int .u8 0,.int .u8 0,.str [],.str [],.ro 2 [] true,.str [],.ro 6 [] true])),n (st 8 17 99)] [(1,5),(3,5),(5,10),(1,11),(3,11),(1,13),(3,13),(4,13),(5,13),(10,13),(11,13)] ⟨true,[17,16,15,12,11,9,8,5,4,3,2],[(9999,65537)]⟩) (s (O 100 [f 0 11,l 1 100,h 8 17,E (.buildS [.int .u64 0,.int .u8 0,.int .u8 0,.str [],.str [],.ro 2 [] true,.str [],.ro 6 [] true] 1 [(0,T 102)]),E (.app [.int .u64 0,.int .u8 0,.int .u8 0,.str [],.str [],.ro 2 [] true,.str [],.ro 6 [] true] 120 false (T 101) (T 103)),f 0 11,n (st 1 105 104)]) (s (O 106 [f 0 5,l 1 106,f 0 16,l 1 108,ca 436 [107,109],d 18 (m 110)]) (s (s (V 111 [m 18,gei 111 0,m 112,y 113 (f 0 5),y 113 (l 1 114),y 113 (m 18),y 113 (ix 8 115 116),y 113 (f 1 117),y 113 (l 1 118),y 113 (f 1 16),y 113 (l 1 120),y 113 (eq 119 121),pa 113 122] [] ⟨true,[123,16,15,12,11,9,8,5,4,3,2],[(9999,65537)]⟩) (c 123 (ee 3))) (s (O 124 [f 1 11,l 1 124,f 1 16,l 1 126,ix 1 125 127,l 1 128,ln 1 129,d 19 (m 130)]) (s (s (O 131 [m 19,eqi 131 0]) (c 132 (s (O 133 [f 1 12,l 1 133,adi 134 1,f 1 12,n (st 1 136 135)]) (ee 3)))) (s (O 137 [f 0 12,l 1 137,adi 138 1,f 0 12,n (st 1 140 139)]) (V 141 [f 1 11,l 1 141,f 1 16,l 1 143,f 1 11,l 1 145,f 1 16,l 1 147,ix 1 146 148,l 1 149,m 19,sbi 151 1,E (.slice 8 (T 150) none (some (T 152)) none),ix 1 142 144,n (st 1 154 153)] [] ⟨true,[15,12,11,9,8,5,4,3,2],[(9999,65537)]⟩)))))))))) (O 77 [m 15,adi 77 1,d 15 (m 78)])))
def w285_L0:WCode:=.loop ⟨true,[15,12,11,9,8,5,4,3,2],[(9999,65537)]⟩ w285_B0
def w285_c1:WCode:=zd (s (s (O 15 [i 0]) (bk 2 w285_L0 ⟨true,[12,11,9,8,4],[(9999,65537)]⟩)) w285_c0)
def w285_B1:WCode:=zd (s (s (O 23 [m 13,f 0 5,l 1 24,ln 1 25,lt 23 26]) (cc 27 (w .skip) (ee 0))) (s (B 1 (s (O 30 [f 0 5,l 1 30,m 13,ix 8 31 32,h 8 33,d 14 (E (.alloc [.int .u64 0,.int .u8 0,.int .u8 0,.str [],.str [],.ro 2 [] true,.str [],.ro 6 [] true])),n (st 8 14 34)]) (s (s (R 35 [h 8 14,m 2,m 3,ca 435 [35,36,37],eqi 38 1] ⟨true,[39,14,13,12,11,9,8,5,4,3,2],[(9999,65537)]⟩) (c 39 (ee 1))) (s (s (V 40 [f 1 11,l 1 40,f 1 14,l 1 42,ix 1 41 43,l 1 44,ln 1 45,f 3 4,l 1 47,f 1 14,l 1 49,ix 9 48 50,f 8 51,l 1 52,eq 46 53] [] ⟨false,[],[]⟩) (c 54 (s (O 55 [f 2 12,l 1 55,adi 56 1,f 2 12,n (st 1 58 57)]) (ee 1)))) (V 59 [f 1 11,l 1 59,f 1 14,l 1 61,f 1 11,l 1 63,f 1 14,l 1 65,ix 1 64 66,l 1 67,h 8 14,E (.buildS [.int .u64 0,.int .u8 0,.int .u8 0,.str [],.str [],.ro 2 [] true,.str [],.ro 6 [] true] 1 [(0,T 69)]),E (.app [.int .u64 0,.int .u8 0,.int .u8 0,.str [],.str [],.ro 2 [] true,.str [],.ro 6 [] true] 120 false (T 68) (T 70)),ix 1 60 62,n (st 1 72 71)] [(1,11),(3,11),(5,11),(7,11),(9,11),(1,12),(3,12)] ⟨true,[13,12,11,9,8,5,4,3,2],[(9999,65537)]⟩))))) (O 28 [m 13,adi 28 1,d 13 (m 29)])))
def w285_L1:WCode:=.loop ⟨true,[13,12,11,9,8,5,4,3,2],[(9999,65537)]⟩ w285_B1
def w285:WFn:=⟨4,[.cell 8 2 true,.cell 9 4 true,.tmp 10],zd (s (R 8 [d 4 (bx 0),d 5 (bx 1),E (.alloc [.ro 8 [] true,.ro 1 [] true]),E (.alloc [.int .i64 0,.int .i64 0,.int .i64 0,.int .i64 0]),i 0] ⟨true,[9,8,5,4,3,2],[(9999,65537)]⟩) (s (O 20 [h 2 5,ca 2031 [20],d 11 (E (.alloc [.ro 8 [] true,.ro 1 [] true])),n (st 2 11 21)]) (s (O 22 [f 0 11,n (E (.store 1 (T 22) (.c (.ro 8 [] true))))]) (s (O 12 [E (.alloc [.int .i64 0,.int .i64 0,.int .i64 0,.int .i64 0])]) (s (s (O 13 [i 0]) (bk 0 w285_L1 ⟨true,[12,11,9,8,5,4,3,2],[(9999,65537)]⟩)) w285_c1)))))⟩
@[simp] theorem w285_E0:ZL w285_L0 w285_B0 ⟨true,[15,12,11,9,8,5,4,3,2],[(9999,65537)]⟩:=ck_lp rfl
@[simp] theorem w285_E1:ZL w285_L1 w285_B1 ⟨true,[13,12,11,9,8,5,4,3,2],[(9999,65537)]⟩:=ck_lp rfl
def w139_c0:WCode:=zd (s (Q 67 [h 7 4,h 2 5,h 1 6,m 3,ca 280 [67,68,69,70],d 66 (m 71),ex 0 66,ex 1 66,d 15 (E (.alloc [.ro 8 [] true,.ro 1 [] true])),d 16 (E (.alloc [.int .i64 0,.int .i64 0,.int .i64 0,.int .i64 0])),n (st 2 15 72),n (st 4 16 73)] [16,15,9,8,4]) (s (s (O 74 [f 3 16,l 1 74,f 5 4,l 1 76,gt 75 77]) (c 78 (r (O 79 [E (.build [.ro 8 [] true,.ro 1 [] true] []),E (.build [.int .i64 0,.int .i64 0,.int .i64 0,.int .i64 0] []),n (st 2 8 79),n (st 4 9 80),d 10 (i 15)])))) (r (V 81 [h 2 15,ca 281 [81],h 4 16,n (st 2 8 82),n (st 4 9 83),d 10 (i 0)] [(1,2),(2,3)] ⟨false,[],[]⟩))))
def w139_B0:WCode:=zd (s (O 37 [lt 36 35]) (s (cc 37 (w .skip) (ee 0)) (s (B 1 (s (O 38 [m 36,ix 1 34 36,l 1 39,d 13 (m 38),d 14 (m 40)]) (s (Q 41 [m 14,lti 41 0,m 42,z 43 (m 14),z 43 (f 0 6),z 43 (l 1 45),z 43 (ln 1 46),z 43 (ge 44 47),po 43 48,m 49,z 50 (m 13),z 50 (gti 51 0),z 50 (m 52),y 53 (m 14),y 53 (m 3),y 53 (m 13),y 53 (sbi 56 1),y 53 (ix 1 55 57),y 53 (l 1 58),y 53 (le 54 59),z 50 (pa 53 60),po 50 61] [62,36,35,34,9,8,6,5,4,3]) (c 62 (r (O 63 [E (.build [.ro 8 [] true,.ro 1 [] true] []),E (.build [.int .i64 0,.int .i64 0,.int .i64 0,.int .i64 0] []),n (st 2 8 63),n (st 4 9 64),d 10 (i 1)])))))) (O 65 [adi 36 1,d 36 (m 65)]))))
def w139_L0:WCode:=.loop ⟨true,[36,35,34,9,8,6,5,4,3],[]⟩ w139_B0
def w139:WFn:=⟨4,[.cell 8 2 true,.cell 9 4 true,.tmp 10],zd (s (O 8 [d 4 (bx 0),d 5 (bx 1),d 6 (bx 2),E (.alloc [.ro 8 [] true,.ro 1 [] true]),E (.alloc [.int .i64 0,.int .i64 0,.int .i64 0,.int .i64 0]),i 0]) (s (s (O 17 [h 7 4,h 2 5,ca 278 [17,18],d 11 (m 19)]) (s (O 20 [m 11,nei 20 0]) (c 21 (r (Q 22 [E (.build [.ro 8 [] true,.ro 1 [] true] []),E (.build [.int .i64 0,.int .i64 0,.int .i64 0,.int .i64 0] []),m 11,n (st 2 8 22),n (st 4 9 23),d 10 (m 24)] [10,9,8]))))) (s (s (V 25 [h 7 4,ca 279 [25],h 1 6,ca 223 [26,27],d 12 (m 28)] [(1,2)] ⟨false,[],[]⟩) (s (O 29 [m 12,nei 29 0]) (c 30 (r (O 31 [E (.build [.ro 8 [] true,.ro 1 [] true] []),E (.build [.int .i64 0,.int .i64 0,.int .i64 0,.int .i64 0] []),m 12,n (st 2 8 31),n (st 4 9 32),d 10 (m 33)]))))) (s (s (O 34 [m 3,ln 1 34,i 0]) (bk 0 w139_L0 ⟨true,[9,8,6,5,4,3],[]⟩)) w139_c0))))⟩
@[simp] theorem w139_E0:ZL w139_L0 w139_B0 ⟨true,[36,35,34,9,8,6,5,4,3],[]⟩:=ck_lp rfl
def w286_c0:WCode:=zd (r (O 4 [i 1]))
def w286_B0:WCode:=zd (s (s (O 21 [m 5,f 1 2,l 1 22,ln 1 23,lt 21 24]) (cc 25 (w .skip) (ee 0))) (s (B 1 (s (V 28 [f 1 2,l 1 28,m 5,ix 1 29 30,l 1 31,f 1 3,l 1 33,m 5,ix 1 34 35,l 1 36,ca 437 [32,37],eqi 38 0] [] ⟨false,[],[]⟩) (c 39 (r (O 4 [i 0]))))) (O 26 [m 5,adi 26 1,d 5 (m 27)])))
def w286_L0:WCode:=.loop ⟨true,[5,3,2],[]⟩ w286_B0
def w286:WFn:=⟨2,[.tmp 4],zd (s (O 2 [bx 0,bx 1,i 0]) (s (s (O 6 [f 0 2,l 1 6,f 0 3,l 1 8,ca 437 [7,9],eqi 10 0,m 11,z 12 (f 1 2),z 12 (l 1 13),z 12 (ln 1 14),z 12 (f 1 3),z 12 (l 1 16),z 12 (ln 1 17),z 12 (ne 15 18),po 12 19]) (c 20 (r (Q 4 [i 0] [4])))) (s (s (O 5 [i 0]) (bk 0 w286_L0 ⟨true,[],[]⟩)) w286_c0)))⟩
@[simp] theorem w286_E0:ZL w286_L0 w286_B0 ⟨true,[5,3,2],[]⟩:=ck_lp rfl
noncomputable abbrev w286_K0 (C:WProg) (s:WSt):Option AV:=CK C 0 (pureFin [.tmp 4]) [.sq w286_L0,.bk 0 ⟨true,[],[]⟩,.sq w286_c0] w286_B0 s
def w278_c0:WCode:=zd (r (O 4 [i 0]))
def w278_B0:WCode:=zd (s (O 55 [lt 54 53]) (s (cc 55 (w .skip) (ee 2)) (s (B 3 (s (Q 56 [m 54,ix 1 52 54,l 1 57,d 9 (E (.alloc [.int .i64 0])),n (st 1 9 56),d 10 (m 58)] [54,53,52,10,9,2]) (s (O 59 [m 10,ln 1 59,f 3 2,l 1 61,l 1 9,ix 9 62 63,f 8 64,l 1 65,gt 60 66,m 67,z 68 (m 10),z 68 (E (.mkfn 430 [T 9,T 2])),z 68 (ca 429 [69,70]),po 68 71]) (c 72 (r (O 4 [i 10])))))) (O 73 [adi 54 1,d 54 (m 73)]))))
def w278_L0:WCode:=.loop ⟨true,[54,53,52,2],[]⟩ w278_B0
def w278_c1:WCode:=zd (s (s (O 51 [f 1 3,l 1 51,ln 1 52,i 0]) (bk 2 w278_L0 ⟨true,[],[]⟩)) w278_c0)
def w278_B1:WCode:=zd (s (O 34 [lt 33 32]) (s (cc 34 (w .skip) (ee 0)) (s (B 1 (s (Q 35 [ix 8 31 33,h 8 35,d 8 (E (.alloc [.int .u64 0,.int .u8 0,.int .u8 0,.str [],.str [],.ro 2 [] true,.str [],.ro 6 [] true])),n (st 8 8 36)] [33,32,31,8,6,3,2]) (s (s (O 37 [h 7 2,h 8 8,ca 428 [37,38],nt 39,m 40,z 41 (m 6),z 41 (f 0 8),z 41 (l 1 43),z 41 (E (.look 0 (.bool false) false (T 42) (T 44))),po 41 45]) (c 46 (r (O 4 [i 10])))) (O 47 [m 6,f 0 8,l 1 48,n (E (.upd 0 (T 47) (T 49) (.c (.bool true))))])))) (O 50 [adi 33 1,d 33 (m 50)]))))
def w278_L1:WCode:=.loop ⟨true,[33,32,31,6,3,2],[]⟩ w278_B1
def w278:WFn:=⟨2,[.tmp 4],zd (s (O 2 [bx 0,bx 1,i 0]) (s (s (O 11 [h 7 2,ca 277 [11],d 5 (m 12)]) (s (Q 13 [m 5,nei 13 0] [14,5,3,2]) (c 14 (r (O 15 [m 5,d 4 (m 15)]))))) (s (s (O 16 [f 0 3,l 1 16,ln 1 17,gti 18 1024,m 19,z 20 (f 1 3),z 20 (l 1 21),z 20 (ln 1 22),z 20 (f 3 2),z 20 (l 1 24),z 20 (ln 1 25),z 20 (ne 23 26),po 20 27]) (c 28 (r (O 4 [i 10])))) (s (O 29 [E .mkmap,d 6 (m 29)]) (s (s (O 30 [f 0 3,l 1 30,ln 1 31,i 0]) (bk 0 w278_L1 ⟨true,[3,2],[]⟩)) w278_c1)))))⟩
@[simp] theorem w278_E0:ZL w278_L0 w278_B0 ⟨true,[54,53,52,2],[]⟩:=ck_lp rfl
noncomputable abbrev w278_K0 (C:WProg) (s:WSt):Option AV:=CK C 0 (pureFin [.tmp 4]) [.sq w278_L0,.bk 2 ⟨true,[],[]⟩,.sq w278_c0] w278_B0 s
@[simp] theorem w278_E1:ZL w278_L1 w278_B1 ⟨true,[33,32,31,6,3,2],[]⟩:=ck_lp rfl
noncomputable abbrev w278_K1 (C:WProg) (s:WSt):Option AV:=CK C 0 (pureFin [.tmp 4]) [.sq w278_L1,.bk 0 ⟨true,[3,2],[]⟩,.sq w278_c1] w278_B1 s
def w289:WFn:=⟨1,[.tmp 2],zd (s (O 1 [bx 0,i 0]) (s (O 3 [E (.alloc [.int .i64 0]),E (.alloc [.bool false]),n (E (.store 1 (T 3) (N 1))),n (E (.store 1 (T 4) (.c (.bool true))))]) (s (O 5 [E (.alloc [.nilf])]) (s (O 6 [E (.mkfn 438 [T 4,T 3,T 5]),n (st 1 5 6)]) (s (O 7 [l 1 5,f 0 1,l 1 8,E (.buildS [.ro 8 [] true] 1 [(0,T 9)]),E (.callv (T 7) [T 10])]) (s (O 12 [l 1 5,f 1 1,l 1 13,E (.callv (T 12) [T 14])]) (s (s (O 16 [l 1 4,nt 16]) (c 17 (r (O 2 [i 0])))) (r (O 18 [l 1 3,d 2 (m 18)])))))))))⟩
def w145:WFn:=⟨0,[.tmp 0],zd (s (O 0 [ff]) (s (Q 20 [ca 301 [],d 19 (m 20),ex 0 19,ex 1 19,d 1 (E (.alloc [.int .i64 0,.int .i64 0,.int .i64 0,.ro 9 [] true,.int .i64 0,.int .i64 0,.int .u8 0])),d 2 (E (.alloc [.ro 6 [] true])),n (st 7 1 21),n (st 1 2 22)] [2,1]) (s (O 24 [h 7 1,ca 138 [24],d 23 (m 25),ex 0 23,ex 1 23,d 3 (E (.alloc [.ro 8 [] true,.ro 1 [] true])),n (st 2 3 26),d 4 (m 27)]) (s (O 29 [h 7 1,h 2 3,h 1 2,E (.buildS [.int .i64 0] 3 [(0,N 0),(1,N 1),(2,N 3)]),ca 139 [29,30,31,32],d 28 (m 33),ex 0 28,ex 1 28,ex 2 28,d 5 (E (.alloc [.ro 8 [] true,.ro 1 [] true])),d 6 (E (.alloc [.int .i64 0,.int .i64 0,.int .i64 0,.int .i64 0])),n (st 2 5 34),n (st 4 6 35),d 7 (m 36)]) (s (Q 38 [h 7 1,h 2 5,h 1 2,E (.buildS [.int .i64 0] 1 [(0,N 2)]),ca 139 [38,39,40,41],d 37 (m 42),ex 0 37,ex 1 37,ex 2 37,d 8 (E (.alloc [.ro 8 [] true,.ro 1 [] true])),d 9 (E (.alloc [.int .i64 0,.int .i64 0,.int .i64 0,.int .i64 0])),n (st 2 8 43),n (st 4 9 44),d 10 (m 45)] [10,9,8,7,6,5,4,3,2,1]) (s (O 47 [h 7 1,h 2 5,h 1 2,E (.call 139 [T 47,T 48,T 49,.c (.ro 1 [] true)]),d 46 (m 50),ex 0 46,ex 1 46,ex 2 46,d 11 (E (.alloc [.ro 8 [] true,.ro 1 [] true])),d 12 (E (.alloc [.int .i64 0,.int .i64 0,.int .i64 0,.int .i64 0])),n (st 2 11 51),n (st 4 12 52),d 13 (m 53)]) (s (s (Q 54 [m 4,nei 54 0,m 55,z 56 (m 7),z 56 (nei 57 0),po 56 58,m 59,z 60 (m 10),z 60 (nei 61 0),po 60 62,m 63,z 64 (m 13),z 64 (nei 65 0),po 64 66,m 67,z 68 (f 1 3),z 68 (l 1 69),z 68 (ln 1 70),z 68 (nei 71 2),po 68 72,m 73,z 74 (f 1 8),z 74 (l 1 75),z 74 (ln 1 76),z 74 (nei 77 2),po 74 78,m 79,z 80 (f 1 11),z 80 (l 1 81),z 80 (ln 1 82),z 80 (nei 83 2),po 80 84] [85,12,11,9,8,6,5,3,2,1]) (c 85 (r (O 0 [ff])))) (s (s (U 86 [f 0 5,l 1 86,E (.buildS [.int .u64 0] 3 [(0,.c (.int .u64 1)),(1,.c (.int .u64 2)),(2,.c (.int .u64 4))]),ca 302 [87,88],f 0 8,l 1 90,E (.buildS [.int .u64 0] 1 [(0,.c (.int .u64 3))]),ca 302 [91,92],E (.bin .mul (T 89) (T 93)),f 1 8,l 1 95,E (.idxs 1 (T 96) (N 0)),l 1 97,E (.call 302 [T 98,.c (.ro 1 [] true)]),E (.bin .mul (T 94) (T 99)),f 1 8,l 1 101,E (.idxs 1 (T 102) (N 1)),l 1 103,E (.call 302 [T 104,.c (.ro 1 [] true)]),E (.bin .mul (T 100) (T 105)),f 0 11,l 1 107,E (.call 302 [T 108,.c (.ro 1 [] true)]),E (.bin .mul (T 106) (T 109)),f 1 11,l 1 111,E (.idxs 1 (T 112) (N 0)),l 1 113,E (.buildS [.int .u64 0] 1 [(0,.c (.int .u64 1))]),ca 302 [114,115],E (.bin .mul (T 110) (T 116)),f 1 11,l 1 118,E (.idxs 1 (T 119) (N 1)),l 1 120,E (.call 302 [T 121,.c (.ro 1 [] true)]),E (.bin .mul (T 117) (T 122)),eqi 123 0,m 124,z 125 (h 4 6),z 125 (E (.build [.int .i64 0,.int .i64 0,.int .i64 0,.int .i64 0] [(1,1,N 3),(3,1,N 4)])),z 125 (E (.eqv 4 [0,0,0,0] true (T 126) (T 127))),po 125 128,m 129,z 130 (h 4 9),z 130 (E (.build [.int .i64 0,.int .i64 0,.int .i64 0,.int .i64 0] [(0,1,N 1),(2,1,N 2),(3,1,N 2)])),z 130 (E (.eqv 4 [0,0,0,0] true (T 131) (T 132))),po 130 133,m 134,z 135 (h 4 12),z 135 (E (.build [.int .i64 0,.int .i64 0,.int .i64 0,.int .i64 0] [(2,1,N 2),(3,1,N 2)])),z 135 (E (.eqv 4 [0,0,0,0] true (T 136) (T 137))),po 135 138] [(1,2),(2,5),(3,5),(1,6),(2,6),(3,6),(5,6),(2,10),(3,10),(6,10),(7,10),(2,12),(3,12),(6,12),(7,12),(2,16),(3,16),(6,16),(7,16),(13,16),(2,18),(3,18),(6,18),(7,18),(13,18),(2,22),(3,22),(6,22),(7,22),(13,22),(19,22),(2,26),(3,26),(6,26),(7,26),(13,26),(19,26),(23,26),(2,28),(3,28),(6,28),(7,28),(13,28),(19,28),(23,28),(1,29),(2,29),(3,29),(5,29),(6,29),(7,29),(10,29),(12,29),(13,29),(16,29),(18,29),(19,29),(22,29),(23,29),(26,29),(28,29),(2,33),(3,33),(6,33),(7,33),(13,33),(19,33),(23,33),(29,33),(30,33),(2,35),(3,35),(6,35),(7,35),(13,35),(19,35),(23,35),(29,35),(30,35)] [139,11,3,2,1]) (c 139 (r (O 0 [ff])))) (s (O 141 [h 7 1,h 2 11,E (.call 290 [T 141,T 142,N 0]),d 140 (m 143),ex 0 140,ex 1 140,ex 2 140,d 14 (E (.alloc [.ro 8 [] true,.ro 1 [] true])),n (st 2 14 144),d 15 (m 145),d 4 (m 146)]) (s (Q 148 [h 7 1,h 2 11,E (.call 290 [T 148,T 149,N 17]),d 147 (m 150),ex 0 147,ex 1 147,ex 2 147,d 7 (m 153)] [15,7,4,3,2,1]) (s (O 155 [h 7 1,h 2 3,h 1 2,E (.buildS [.int .i64 0] 2 [(0,N 1),(1,N 0)]),ca 139 [155,156,157,158],d 154 (m 159),ex 0 154,ex 1 154,ex 2 154,d 10 (m 162)]) (s (O 164 [h 7 1,h 2 3,h 1 2,E (.buildS [.int .i64 0] 1 [(0,N 4)]),ca 139 [164,165,166,167],d 163 (m 168),ex 0 163,ex 1 163,ex 2 163,d 13 (m 171)]) (s (O 172 [f 5 1,n (E (.store 1 (T 172) (N 3)))]) (s (Q 174 [h 7 1,h 2 3,h 1 2,E (.buildS [.int .i64 0] 3 [(0,N 0),(1,N 1),(2,N 3)]),ca 139 [174,175,176,177],d 173 (m 178),ex 0 173,ex 1 173,ex 2 173,d 16 (E (.alloc [.ro 8 [] true,.ro 1 [] true])),d 17 (E (.alloc [.int .i64 0,.int .i64 0,.int .i64 0,.int .i64 0])),n (st 2 16 179),n (st 4 17 180),d 18 (m 181)] [18,15,13,10,7,4]) (r (O 182 [m 4,eqi 182 0,m 183,y 184 (m 15),y 184 (eqi 185 1),pa 184 186,m 187,y 188 (m 7),y 188 (eqi 189 4),pa 188 190,m 191,y 192 (m 10),y 192 (eqi 193 1),pa 192 194,m 195,y 196 (m 13),y 196 (eqi 197 1),pa 196 198,m 199,y 200 (m 18),y 200 (eqi 201 15),pa 200 202,d 0 (m 203)]))))))))))))))))⟩
def w290_c0:WCode:=zd (r (O 56 [h 2 10,m 11,n (st 2 6 56),d 7 (m 57),d 8 (i 0)]))
def w290_B0:WCode:=zd (s (O 35 [lt 34 33]) (s (cc 35 (w .skip) (ee 0)) (s (B 1 (s (O 36 [m 34,ix 1 32 34,l 1 37,d 12 (m 36),d 13 (m 38)]) (s (Q 39 [m 13,ln 1 39,m 2,sb 40 41,E (.mx (N 0) (T 42)),d 14 (m 43)] [34,33,32,14,13,12,11,10,6,2]) (s (V 44 [f 1 10,l 1 44,m 12,m 13,m 14,E (.slice 8 (T 47) (some (T 48)) none none),ca 432 [49],ix 1 45 46,n (st 1 51 50)] [(1,6)] ⟨false,[],[]⟩) (O 52 [m 11,m 14,ad 52 53,d 11 (m 54)]))))) (O 55 [adi 34 1,d 34 (m 55)]))))
def w290_L0:WCode:=.loop ⟨true,[34,33,32,11,10,6,2],[]⟩ w290_B0
def w290:WFn:=⟨3,[.cell 6 2 true,.tmp 7,.tmp 8],zd (s (O 6 [d 3 (bx 0),d 4 (bx 1),E (.alloc [.ro 8 [] true,.ro 1 [] true]),i 0,i 0]) (s (s (O 15 [h 7 3,h 2 4,ca 278 [15,16],d 9 (m 17)]) (s (O 18 [m 9,nei 18 0]) (c 19 (r (O 20 [E (.build [.ro 8 [] true,.ro 1 [] true] []),m 9,n (st 2 6 20),d 7 (i 0),d 8 (m 21)]))))) (s (s (Q 22 [m 2,lti 22 0,m 23,z 24 (m 2),z 24 (gti 25 16),po 24 26] [27,6,4,2]) (c 27 (r (O 7 [d 28 (E (.build [.ro 8 [] true,.ro 1 [] true] [])),n (st 2 6 28),i 0,i 4])))) (s (O 29 [h 2 4,ca 3008 [29],d 10 (E (.alloc [.ro 8 [] true,.ro 1 [] true])),n (st 2 10 30),d 11 (i 0)]) (s (s (O 31 [f 1 10,l 1 31,ln 1 32,i 0]) (bk 0 w290_L0 ⟨true,[11,10,6],[]⟩)) w290_c0)))))⟩
@[simp] theorem w290_E0:ZL w290_L0 w290_B0 ⟨true,[34,33,32,11,10,6,2],[]⟩:=ck_lp rfl
def w297_c0:WCode:=zd (r (O 44 [m 3,d 2 (m 44)]))
def w297_c1:WCode:=zd (O 12 [m 4,adi 12 1,d 4 (m 13)])
def w297_B1:WCode:=zd (s (s (O 23 [m 6,m 5,ln 1 24,lt 23 25]) (cc 26 (w .skip) (ee 2))) (s (B 3 (s (s (Q 29 [m 5,m 6,ix 8 29 30,f 2 31,h 6 32,ca 441 [33],gti 34 0] [35,6,5,4,3,1]) (c 35 (r (O 2 [i 0])))) (O 36 [m 3,m 5,m 6,ix 8 37 38,f 2 39,h 6 40,ca 442 [41],ad 36 42,d 3 (m 43)]))) (O 27 [m 6,adi 27 1,d 6 (m 28)])))
def w297_L1:WCode:=.loop ⟨true,[6,5,4,3,1],[]⟩ w297_B1
def w297_B0:WCode:=zd (s (s (O 7 [m 4,f 1 1,l 1 8,ln 1 9,lt 7 10]) (cc 11 (w .skip) (ee 0))) (s (bk 1 (s (O 14 [f 0 1,l 1 14,d 5 (m 15)]) (s (s (O 16 [m 4,gei 16 0]) (c 17 (O 18 [f 1 1,l 1 18,m 4,ix 1 19 20,l 1 21,d 5 (m 22)]))) (s (O 6 [i 0]) (bk 2 w297_L1 ⟨true,[4,3,1],[]⟩)))) ⟨true,[4,3,1],[]⟩) w297_c1))
def w297_L0:WCode:=.loop ⟨true,[4,3,1],[]⟩ w297_B0
def w297:WFn:=⟨1,[.tmp 2],zd (s (Q 1 [bx 0,i 0] [1]) (s (O 3 [i 1]) (s (s (O 4 [i (-1)]) (bk 0 w297_L0 ⟨true,[3],[]⟩)) w297_c0)))⟩
@[simp] theorem w297_E1:ZL w297_L1 w297_B1 ⟨true,[6,5,4,3,1],[]⟩:=ck_lp rfl
noncomputable abbrev w297_K1 (C:WProg) (s:WSt):Option AV:=CK C 0 (pureFin [.tmp 2]) [.sq w297_L1,.bk 2 ⟨true,[4,3,1],[]⟩,.bk 1 ⟨true,[4,3,1],[]⟩,.sq w297_c1,.sq w297_L0,.bk 0 ⟨true,[3],[]⟩,.sq w297_c0] w297_B1 s
@[simp] theorem w297_E0:ZL w297_L0 w297_B0 ⟨true,[4,3,1],[]⟩:=ck_lp rfl
noncomputable abbrev w297_K0 (C:WProg) (s:WSt):Option AV:=CK C 0 (pureFin [.tmp 2]) [.sq w297_L0,.bk 0 ⟨true,[3],[]⟩,.sq w297_c0] w297_B0 s
def w138:WFn:=⟨1,[.cell 2 2 true,.tmp 3],zd (s (O 1 [bx 0,E (.alloc [.ro 8 [] true,.ro 1 [] true]),i 0]) (s (s (O 5 [h 7 1,ca 277 [5],d 4 (m 6)]) (s (O 7 [m 4,nei 7 0]) (c 8 (r (O 9 [E (.build [.ro 8 [] true,.ro 1 [] true] []),m 4,n (st 2 2 9),d 3 (m 10)]))))) (r (O 11 [f 3 1,l 1 11,ln 1 12,E (.mksl [.ro 8 [] true] 24 (T 13) (T 13)),E (.build [.ro 8 [] true,.ro 1 [] true] [(1,1,T 14)]),n (st 2 2 15),d 3 (i 0)]))))⟩
def w140:WFn:=⟨1,[.tmp 2],zd (s (O 1 [bx 0,i 0]) (s (O 6 [h 6 1,ca 282 [6],d 5 (m 7),ex 0 5,ex 1 5,d 3 (m 8),d 4 (m 9)]) (r (O 10 [m 3,d 2 (m 10)]))))⟩
def w130_c0:WCode:=zd (r (V 68 [h 2 4,h 1 6,n (st 2 2 68),n (st 1 3 69)] [(1,2)] ⟨false,[],[]⟩))
def w130_B0:WCode:=zd (s (s (O 17 [m 7,m 5,ln 1 18,lt 17 19]) (cc 20 (w .skip) (ee 0))) (s (B 1 (s (s (V 23 [h 2 4,m 5,m 7,ix 4 24 25,h 4 26,E (.call 271 [T 23,T 27,N 0]),gti 28 0] [] ⟨false,[],[]⟩) (c 29 (ee 1))) (s (U 30 [h 2 4,m 5,m 7,ix 4 31 32,h 4 33,ca 240 [30,34],d 8 (E (.alloc [.int .u64 0,.int .u8 0,.str [],.ro 1 [] true,.int .i64 0,.bool false])),n (st 6 8 35)] [(0,6),(4,6),(5,6)] [8,7,6,5,4,3,2,1]) (s (s (O 36 [f 0 6,l 1 36,ln 1 37,d 9 (m 38)]) (s (O 39 [m 9,f 1 1,l 1 40,ln 1 41,lt 39 42,m 43,y 44 (f 1 1),y 44 (l 1 45),y 44 (m 9),y 44 (ix 1 46 47),y 44 (l 1 48),y 44 (E (.bin .gtr (T 49) (.c (.int .u8 0)))),pa 44 50]) (c 51 (s (Q 52 [f 1 1,l 1 52,m 9,ix 1 53 54,l 1 55,E (.bin .rem (T 56) (.c (.int .u8 40))),E (.cvt .i64 (T 57)),E (.bin .add (N 1) (T 58)),f 4 8,n (st 1 60 59)] [8,7,6,5,4,3,2,1]) (O 61 [f 5 8,n (E (.store 1 (T 61) (.c (.bool true))))]))))) (O 62 [f 0 6,l 1 62,h 6 8,E (.buildS [.int .u64 0,.int .u8 0,.str [],.ro 1 [] true,.int .i64 0,.bool false] 1 [(0,T 64)]),E (.app [.int .u64 0,.int .u8 0,.str [],.ro 1 [] true,.int .i64 0,.bool false] 72 false (T 63) (T 65)),f 0 6,n (st 1 67 66)]))))) (O 21 [m 7,adi 21 1,d 7 (m 22)])))
def w130_L0:WCode:=.loop ⟨true,[7,6,5,4,3,2,1],[]⟩ w130_B0
def w130:WFn:=⟨1,[.cell 2 2 true,.cell 3 1 true],zd (s (Q 1 [bx 0,E (.alloc [.ro 9 [] true,.int .i64 0]),E (.alloc [.ro 6 [] true])] [3,2,1]) (s (O 10 [f 2 1,l 1 10,ca 126 [11],E (.build [.ro 9 [] true,.int .i64 0] [(0,1,T 12),(1,1,N 12)]),d 4 (E (.alloc [.ro 9 [] true,.int .i64 0])),n (st 2 4 13)]) (s (O 14 [f 0 1,h 1 14,ca 270 [15],d 5 (m 16)]) (s (O 6 [E (.alloc [.ro 6 [] true])]) (s (s (O 7 [i 0]) (bk 0 w130_L0 ⟨true,[6,4,3,2],[]⟩)) w130_c0)))))⟩
@[simp] theorem w130_E0:ZL w130_L0 w130_B0 ⟨true,[7,6,5,4,3,2,1],[]⟩:=ck_lp rfl
noncomputable abbrev w130_K0 (C:WProg) (s:WSt):Option AV:=CK C 0 (pureFin [.cell 2 2 true,.cell 3 1 true]) [.sq w130_L0,.bk 0 ⟨true,[6,4,3,2],[]⟩,.sq w130_c0] w130_B0 s
def w296_c0:WCode:=zd (r (O 17 [h 2 3,n (st 2 2 17)]))
def w296_B0:WCode:=zd (s (s (O 5 [m 4,f 3 1,l 1 6,ln 1 7,lt 5 8]) (cc 9 (w .skip) (ee 0))) (s (B 1 (O 12 [f 1 3,l 1 12,E (.buildS [.ro 8 [] true] 1 [(0,.c (.ro 8 [] true))]),E (.app [.ro 8 [] true] 24 false (T 13) (T 14)),f 1 3,n (st 1 16 15)])) (O 10 [m 4,adi 10 1,d 4 (m 11)])))
def w296_L0:WCode:=.loop ⟨true,[4,3,2,1],[]⟩ w296_B0
def w296:WFn:=⟨1,[.cell 2 2 true],zd (s (O 1 [bx 0,E (.alloc [.ro 8 [] true,.ro 1 [] true])]) (s (O 3 [E (.alloc [.ro 8 [] true,.ro 1 [] true])]) (s (s (O 4 [i 0]) (bk 0 w296_L0 ⟨true,[3,2],[]⟩)) w296_c0)))⟩
@[simp] theorem w296_E0:ZL w296_L0 w296_B0 ⟨true,[4,3,2,1],[]⟩:=ck_lp rfl
def w293_c0:WCode:=zd (r (O 30 [h 2 3,n (st 2 2 30)]))
def w293_B0:WCode:=zd (s (s (O 11 [m 4,f 1 1,l 1 12,ln 1 13,lt 11 14]) (cc 15 (w .skip) (ee 0))) (s (B 1 (V 18 [f 1 3,l 1 18,E (.buildS [.int .u64 0,.int .u8 0,.int .u8 0,.str [],.str [],.ro 2 [] true,.str [],.ro 6 [] true] 0 []),f 1 1,l 1 21,m 4,ix 1 22 23,l 1 24,E (.app [.int .u64 0,.int .u8 0,.int .u8 0,.str [],.str [],.ro 2 [] true,.str [],.ro 6 [] true] 120 false (T 20) (T 25)),E (.buildS [.ro 8 [] true] 1 [(0,T 26)]),E (.app [.ro 8 [] true] 24 false (T 19) (T 27)),f 1 3,n (st 1 29 28)] [(1,2),(2,4),(2,7),(1,8),(1,9)] ⟨false,[],[]⟩)) (O 16 [m 4,adi 16 1,d 4 (m 17)])))
def w293_L0:WCode:=.loop ⟨true,[4,3,2,1],[(9999,65537)]⟩ w293_B0
def w293:WFn:=⟨1,[.cell 2 2 true],zd (s (O 1 [bx 0,E (.alloc [.ro 8 [] true,.ro 1 [] true])]) (s (O 3 [E (.alloc [.ro 8 [] true,.ro 1 [] true])]) (s (O 5 [f 0 3,l 1 5,f 0 1,l 1 7,E (.app [.int .u64 0,.int .u8 0,.int .u8 0,.str [],.str [],.ro 2 [] true,.str [],.ro 6 [] true] 120 false (T 6) (T 8)),f 0 3,n (st 1 10 9)]) (s (s (R 4 [i 0] ⟨true,[4,3,2,1],[(9999,65537)]⟩) (bk 0 w293_L0 ⟨true,[3,2],[(9999,65537)]⟩)) w293_c0))))⟩
@[simp] theorem w293_E0:ZL w293_L0 w293_B0 ⟨true,[4,3,2,1],[(9999,65537)]⟩:=ck_lp rfl
def w435_c0:WCode:=zd (r (O 6 [i 0]))
def w435_B0:WCode:=zd (s (s (O 8 [m 7,m 2,ln 1 9,lt 8 10]) (cc 11 (w .skip) (ee 0))) (s (B 1 (s (U 14 [m 1,m 2,m 7,ix 1 15 16,l 1 17,ix 6 14 18,f 0 19,f 0 20,l 1 21,f 0 3,l 1 23,eq 22 24,m 25,y 26 (m 1),y 26 (m 2),y 26 (m 7),y 26 (ix 1 28 29),y 26 (l 1 30),y 26 (ix 6 27 31),y 26 (f 0 32),y 26 (f 1 33),y 26 (l 1 34),y 26 (f 1 3),y 26 (l 1 36),y 26 (eq 35 37),pa 26 38] [] [39,7,3,2,1]) (c 39 (r (O 6 [i 1]))))) (O 12 [m 7,adi 12 1,d 7 (m 13)])))
def w435_L0:WCode:=.loop ⟨true,[7,3,2,1],[]⟩ w435_B0
def w435:WFn:=⟨3,[.tmp 6],zd (s (O 6 [d 3 (bx 0),i 0]) (s (s (O 7 [i 0]) (bk 0 w435_L0 ⟨true,[],[]⟩)) w435_c0))⟩
@[simp] theorem w435_E0:ZL w435_L0 w435_B0 ⟨true,[7,3,2,1],[]⟩:=ck_lp rfl
noncomputable abbrev w435_K0 (C:WProg) (s:WSt):Option AV:=CK C 0 (pureFin [.tmp 6]) [.sq w435_L0,.bk 0 ⟨true,[],[]⟩,.sq w435_c0] w435_B0 s
def w417:WFn:=⟨3,[.cell 6 6 true],zd (s (O 6 [d 3 (bx 0),E (.alloc [.int .u8 0,.str [],.str [],.ro 2 [] true,.str [],.ro 6 [] true])]) (s (U 10 [f 0 3,l 1 10,m 1,m 2,ix 6 12 13,f 0 14,f 1 15,l 1 16,ix 9 11 17,f 0 18,h 6 19,m 1,m 2,ix 6 21 22,f 0 23,h 4 24,f 1 3,l 1 26,ca 425 [20,25,27],d 9 (m 28),ex 0 9,ex 1 9,d 7 (E (.alloc [.int .u8 0,.str [],.str [],.ro 2 [] true,.str [],.ro 6 [] true])),n (st 6 7 29),d 8 (m 30)] [(1,22),(7,22),(10,22),(15,22),(17,22),(18,22)] [7,6]) (r (O 31 [h 6 7,n (st 6 6 31)]))))⟩
def w299:WFn:=⟨1,[.cell 2 2 true],zd (s (O 1 [bx 0,E (.alloc [.ro 9 [] true,.int .i64 0])]) (r (O 3 [f 3 1,l 1 3,f 4 1,l 1 5,E (.build [.ro 9 [] true,.int .i64 0] [(0,1,T 4),(1,1,T 6)]),n (st 2 2 7)])))⟩
def w436_c0:WCode:=zd (r (O 4 [i (-1)]))
def w436_B0:WCode:=zd (s (s (O 6 [m 5,m 0,ln 1 7,lt 6 8]) (cc 9 (w .skip) (ee 0))) (s (B 1 (s (O 12 [m 0,m 5,ix 8 12 13,f 0 14,l 1 15,m 1,eq 16 17]) (c 18 (r (O 19 [m 5,d 4 (m 19)]))))) (O 10 [m 5,adi 10 1,d 5 (m 11)])))
def w436_L0:WCode:=.loop ⟨true,[5,1,0],[]⟩ w436_B0
def w436:WFn:=⟨2,[.tmp 4],zd (s (O 4 [i 0]) (s (s (O 5 [i 0]) (bk 0 w436_L0 ⟨true,[],[]⟩)) w436_c0))⟩
@[simp] theorem w436_E0:ZL w436_L0 w436_B0 ⟨true,[5,1,0],[]⟩:=ck_lp rfl
noncomputable abbrev w436_K0 (C:WProg) (s:WSt):Option AV:=CK C 0 (pureFin [.tmp 4]) [.sq w436_L0,.bk 0 ⟨true,[],[]⟩,.sq w436_c0] w436_B0 s
def w223_c0:WCode:=zd (r (O 79 [h 1 3,ca 227 [79],d 4 (m 80)]))
def w223_B0:WCode:=zd (s (O 26 [lt 25 24]) (s (cc 26 (w .skip) (ee 0)) (s (B 1 (s (O 27 [ix 6 23 25,h 6 27,d 8 (E (.alloc [.int .u64 0,.int .u8 0,.str [],.ro 1 [] true,.int .i64 0,.bool false])),n (st 6 8 28)]) (s (s (O 29 [f 0 8,h 4 29,f 0 2,l 1 31,ln 1 32,ca 398 [30,33],d 9 (m 34)]) (s (O 35 [m 9,nei 35 0]) (c 36 (r (O 37 [m 9,d 4 (m 37)]))))) (s (s (Q 38 [m 6,f 0 8,f 0 39,l 1 40,E (.look 0 (.bool false) false (T 38) (T 41))] [42,25,24,23,8,6,3,2]) (c 42 (r (O 4 [i 8])))) (s (O 43 [m 6,f 0 8,f 0 44,l 1 45,n (E (.upd 0 (T 43) (T 46) (.c (.bool true))))]) (s (s (O 48 [h 2 2,f 0 8,h 4 49,ca 399 [48,50],d 47 (m 51),ex 0 47,ex 1 47,d 10 (E (.alloc [.int .u8 0,.str [],.str [],.ro 2 [] true,.str [],.ro 6 [] true])),n (st 6 10 52),d 11 (m 53)]) (s (O 54 [m 11,nei 54 0]) (c 55 (r (O 4 [i 14]))))) (s (U 56 [f 4 8,l 1 56,ca 225 [57],nt 58,m 59,z 60 (f 5 8),z 60 (l 1 61),z 60 (nt 62),z 60 (m 63),y 64 (f 4 8),y 64 (l 1 65),y 64 (f 0 2),y 64 (l 1 67),y 64 (f 0 8),y 64 (f 1 69),y 64 (l 1 70),y 64 (ix 9 68 71),y 64 (f 6 72),y 64 (l 1 73),y 64 (ne 66 74),z 60 (pa 64 75),po 60 76] [] [77,25,24,23,6,3,2]) (c 77 (r (O 4 [i 12])))))))))) (O 78 [adi 25 1,d 25 (m 78)]))))
def w223_L0:WCode:=.loop ⟨true,[25,24,23,6,3,2],[]⟩ w223_B0
def w223:WFn:=⟨2,[.tmp 4],zd (s (O 2 [bx 0,bx 1,i 0]) (s (s (O 12 [h 2 2,ca 115 [12],d 5 (m 13)]) (s (O 14 [m 5,nei 14 0]) (c 15 (r (O 16 [m 5,d 4 (m 16)]))))) (s (s (Q 17 [f 0 3,l 1 17,ln 1 18,gti 19 1024] [20,3,2]) (c 20 (r (O 4 [i 3])))) (s (O 21 [E .mkmap,d 6 (m 21)]) (s (s (O 22 [f 0 3,l 1 22,ln 1 23,i 0]) (bk 0 w223_L0 ⟨true,[3],[]⟩)) w223_c0)))))⟩
@[simp] theorem w223_E0:ZL w223_L0 w223_B0 ⟨true,[25,24,23,6,3,2],[]⟩:=ck_lp rfl
noncomputable abbrev w223_K0 (C:WProg) (s:WSt):Option AV:=CK C 0 (pureFin [.tmp 4]) [.sq w223_L0,.bk 0 ⟨true,[3],[]⟩,.sq w223_c0] w223_B0 s
def w279:WFn:=⟨1,[.cell 2 2 true],zd (s (O 1 [bx 0,E (.alloc [.ro 9 [] true,.int .i64 0])]) (r (O 3 [f 3 1,l 1 3,f 4 1,l 1 5,E (.build [.ro 9 [] true,.int .i64 0] [(0,1,T 4),(1,1,T 6)]),n (st 2 2 7)])))⟩
def w280_c0:WCode:=zd (s (O 199 [h 2 8,ca 289 [199],f 3 9,n (st 1 201 200)]) (r (V 202 [h 2 8,h 4 9,n (st 2 8 202),n (st 4 9 203)] [(1,2)] ⟨false,[],[]⟩)))
def w280_B0:WCode:=zd (s (O 128 [lt 127 126]) (s (cc 128 (w .skip) (ee 7)) (s (B 8 (s (O 129 [ix 1 125 127,l 1 129,d 23 (m 130)]) (s (O 131 [f 0 6,l 1 131,m 23,ix 6 132 133,f 0 134,h 4 135,d 24 (E (.alloc [.int .u64 0,.int .u8 0,.str [],.ro 1 [] true])),n (st 4 24 136)]) (s (V 138 [h 7 4,ca 279 [138],f 0 6,l 1 140,m 23,m 23,adi 143 1,m 23,adi 145 1,E (.slice 6 (T 141) (some (T 142)) (some (T 144)) (some (T 146))),E (.build [.ro 6 [] true] [(0,1,T 147)]),E (.call 238 [T 139,T 148,N 0]),d 137 (m 149),ex 0 137,ex 1 137,d 25 (E (.alloc [.int .u8 0,.str [],.str [],.ro 2 [] true,.str [],.ro 6 [] true])),n (st 6 25 150),d 26 (m 151)] [(1,3),(0,15),(1,15),(3,15),(11,15)] ⟨true,[127,126,125,25,24,16,9,8,6,4],[(9999,65537)]⟩) (s (O 152 [f 0 8,l 1 152,f 0 24,l 1 154,f 1 24,l 1 156,h 6 25,E (.build [.int .u64 0,.int .u8 0,.int .u8 0,.str [],.str [],.ro 2 [] true,.str [],.ro 6 [] true] [(0,1,T 155),(1,1,T 157),(2,6,T 158)]),E (.buildS [.int .u64 0,.int .u8 0,.int .u8 0,.str [],.str [],.ro 2 [] true,.str [],.ro 6 [] true] 1 [(0,T 159)]),E (.app [.int .u64 0,.int .u8 0,.int .u8 0,.str [],.str [],.ro 2 [] true,.str [],.ro 6 [] true] 120 false (T 153) (T 160)),f 0 8,n (st 1 162 161)]) (s (R 163 [f 1 8,l 1 163,f 1 24,l 1 165,ix 1 164 166,d 27 (m 167)] ⟨true,[127,126,125,27,24,16,9,8,6,4],[(9999,65537)]⟩) (s (O 168 [m 27,nk 168,l 1 169,ln 1 170,d 28 (m 171)]) (B 9 (s (O 177 [m 16,f 0 24,l 1 178,E (.look 0 (.bool false) false (T 177) (T 179)),d 176 (m 180)]) (cc 176 (w .skip) (s (O 182 [m 28,gti 182 0,d 181 (m 183)]) (cc 181 (s (R 184 [m 27,m 27,nk 185,l 1 186,m 28,sbi 188 1,m 28,sbi 190 1,E (.slice 8 (T 187) none (some (T 189)) (some (T 191))),nk 184,n (st 1 193 192)] ⟨true,[127,126,125,16,9,8,6,4],[(9999,65537)]⟩) (O 194 [f 0 9,l 1 194,adi 195 1,f 0 9,n (st 1 197 196)])) (O 172 [f 1 9,l 1 172,adi 173 1,f 1 9,n (st 1 175 174)]))))))))))))) (O 198 [adi 127 1,d 127 (m 198)]))))
def w280_L0:WCode:=.loop ⟨true,[127,126,125,16,9,8,6,4],[(9999,65537)]⟩ w280_B0
def w280_c1:WCode:=zd (s (s (O 125 [m 3,ln 1 125,i 0]) (bk 7 w280_L0 ⟨true,[9,8],[(9999,65537)]⟩)) w280_c0)
def w280_B1:WCode:=zd (s (O 73 [lt 72 71]) (s (cc 73 (w .skip) (ee 4)) (s (B 5 (s (O 74 [ix 8 70 72,h 8 74,d 18 (E (.alloc [.int .u64 0,.int .u8 0,.int .u8 0,.str [],.str [],.ro 2 [] true,.str [],.ro 6 [] true])),n (st 8 18 75)]) (s (O 76 [f 1 8,l 1 76,f 1 18,l 1 78,ix 1 77 79,d 19 (m 80)]) (s (O 82 [m 10,f 0 18,l 1 83,E (.look 0 (.int .u8 0) true (T 82) (T 84)),d 81 (m 85),ex 0 81,ex 1 81,d 20 (m 86),d 21 (m 87)]) (B 6 (s (R 93 [m 21,m 93,y 94 (m 20),y 94 (f 1 18),y 94 (l 1 96),y 94 (eq 95 97),pa 94 98,d 92 (m 99)] ⟨true,[92,72,71,70,19,18,16,10,9,8,6,4,3],[(9999,65537)]⟩) (cc 92 (O 100 [m 16,f 0 18,l 1 101,n (E (.upd 0 (T 100) (T 102) (.c (.bool true))))]) (s (V 104 [m 19,nk 104,l 1 105,ln 1 106,f 3 4,l 1 108,f 1 18,l 1 110,ix 9 109 111,f 8 112,l 1 113,lt 107 114,d 103 (m 115)] [] ⟨false,[],[]⟩) (cc 103 (V 116 [m 19,m 19,nk 117,l 1 118,h 8 18,E (.buildS [.int .u64 0,.int .u8 0,.int .u8 0,.str [],.str [],.ro 2 [] true,.str [],.ro 6 [] true] 1 [(0,T 120)]),E (.app [.int .u64 0,.int .u8 0,.int .u8 0,.str [],.str [],.ro 2 [] true,.str [],.ro 6 [] true] 120 false (T 119) (T 121)),nk 116,n (st 1 123 122)] [(3,5)] ⟨true,[72,71,70,16,10,9,8,6,4,3],[(9999,65537)]⟩) (O 88 [f 2 9,l 1 88,adi 89 1,f 2 9,n (st 1 91 90)])))))))))) (O 124 [adi 72 1,d 72 (m 124)]))))
def w280_L1:WCode:=.loop ⟨true,[72,71,70,16,10,9,8,6,4,3],[(9999,65537)]⟩ w280_B1
def w280_c2:WCode:=zd (s (O 68 [E .mkmap,d 16 (m 68)]) (s (s (R 69 [f 0 5,l 1 69,ln 1 70,i 0] ⟨true,[72,71,70,16,10,9,8,6,4,3],[(9999,65537)]⟩) (bk 4 w280_L1 ⟨true,[16,9,8,6,4,3],[(9999,65537)]⟩)) w280_c1))
def w280_B2:WCode:=zd (s (O 57 [lt 56 55]) (s (cc 57 (w .skip) (ee 2)) (s (B 3 (s (O 58 [m 56,ix 1 54 56,l 1 59,d 14 (m 58),d 15 (m 60)]) (V 61 [f 1 8,l 1 61,m 14,m 15,ca 3009 [64],ix 1 62 63,n (st 1 66 65)] [(1,4)] ⟨false,[],[]⟩))) (O 67 [adi 56 1,d 56 (m 67)]))))
def w280_L2:WCode:=.loop ⟨true,[56,55,54,10,9,8,6,5,4,3],[(9999,65537)]⟩ w280_B2
def w280_c3:WCode:=zd (s (R 48 [f 1 5,l 1 48,ln 1 49,E (.mksl [.ro 8 [] true] 24 (T 50) (T 50)),f 1 8,n (st 1 52 51)] ⟨true,[10,9,8,6,5,4,3],[(9999,65537)]⟩) (s (s (O 53 [f 1 5,l 1 53,ln 1 54,i 0]) (bk 2 w280_L2 ⟨true,[10,9,8,6,5,4,3],[(9999,65537)]⟩)) w280_c2))
def w280_B3:WCode:=zd (s (O 33 [lt 32 31]) (s (cc 33 (w .skip) (ee 0)) (s (B 1 (s (O 34 [ix 1 30 32,l 1 34,d 12 (m 35)]) (s (O 36 [f 0 6,l 1 36,m 12,ix 6 37 38,f 0 39,h 4 40,d 13 (E (.alloc [.int .u64 0,.int .u8 0,.str [],.ro 1 [] true])),n (st 4 13 41)]) (O 42 [m 10,f 0 13,l 1 43,f 1 13,l 1 45,n (E (.upd 0 (T 42) (T 44) (T 46)))])))) (O 47 [adi 32 1,d 32 (m 47)]))))
def w280_L3:WCode:=.loop ⟨true,[32,31,30,10,9,8,6,5,4,3],[(9999,65537)]⟩ w280_B3
def w280:WFn:=⟨4,[.cell 8 2 true,.cell 9 4 true],zd (s (O 4 [bx 0,bx 1,bx 2,d 8 (E (.alloc [.ro 8 [] true,.ro 1 [] true])),d 9 (E (.alloc [.int .i64 0,.int .i64 0,.int .i64 0,.int .i64 0]))]) (s (R 29 [E .mkmap,d 10 (m 29)] ⟨true,[10,9,8,6,5,4,3],[(9999,65537)]⟩) (s (s (O 30 [m 3,ln 1 30,i 0]) (bk 0 w280_L3 ⟨true,[10,9,8,6,5,4,3],[(9999,65537)]⟩)) w280_c3)))⟩
@[simp] theorem w280_E0:ZL w280_L0 w280_B0 ⟨true,[127,126,125,16,9,8,6,4],[(9999,65537)]⟩:=ck_lp rfl
@[simp] theorem w280_E1:ZL w280_L1 w280_B1 ⟨true,[72,71,70,16,10,9,8,6,4,3],[(9999,65537)]⟩:=ck_lp rfl
@[simp] theorem w280_E2:ZL w280_L2 w280_B2 ⟨true,[56,55,54,10,9,8,6,5,4,3],[(9999,65537)]⟩:=ck_lp rfl
@[simp] theorem w280_E3:ZL w280_L3 w280_B3 ⟨true,[32,31,30,10,9,8,6,5,4,3],[(9999,65537)]⟩:=ck_lp rfl
def w281_c0:WCode:=zd (r (O 29 [h 2 3,n (st 2 2 29)]))
def w281_B0:WCode:=zd (s (O 18 [lt 17 16]) (s (cc 18 (w .skip) (ee 0)) (s (B 1 (s (O 19 [m 17,ix 1 15 17,l 1 20,d 4 (m 19),d 5 (m 21)]) (V 22 [f 1 3,l 1 22,m 4,m 5,ca 432 [25],ix 1 23 24,n (st 1 27 26)] [(1,4)] ⟨false,[],[]⟩))) (O 28 [adi 17 1,d 17 (m 28)]))))
def w281_L0:WCode:=.loop ⟨true,[17,16,15,3,2],[]⟩ w281_B0
def w281:WFn:=⟨1,[.cell 2 2 true],zd (s (O 1 [bx 0,E (.alloc [.ro 8 [] true,.ro 1 [] true])]) (s (U 6 [f 0 1,l 1 6,ca 432 [7],f 1 1,l 1 9,ln 1 10,E (.mksl [.ro 8 [] true] 24 (T 11) (T 11)),E (.build [.ro 8 [] true,.ro 1 [] true] [(0,1,T 8),(1,1,T 12)]),d 3 (E (.alloc [.ro 8 [] true,.ro 1 [] true])),n (st 2 3 13)] [(2,4),(2,5),(1,6),(2,6),(1,8),(2,8),(4,8),(5,8),(6,8)] [3,2,1]) (s (s (O 14 [f 1 1,l 1 14,ln 1 15,i 0]) (bk 0 w281_L0 ⟨true,[3,2],[]⟩)) w281_c0)))⟩
@[simp] theorem w281_E0:ZL w281_L0 w281_B0 ⟨true,[17,16,15,3,2],[]⟩:=ck_lp rfl
noncomputable abbrev w281_K0 (C:WProg) (s:WSt):Option AV:=CK C 0 (pureFin [.cell 2 2 true]) [.sq w281_L0,.bk 0 ⟨true,[3,2],[]⟩,.sq w281_c0] w281_B0 s
def w437_c0:WCode:=zd (r (O 4 [i 1]))
def w437_B0:WCode:=zd (s (s (O 11 [m 5,m 0,ln 1 12,lt 11 13]) (cc 14 (w .skip) (ee 0))) (s (B 1 (s (U 17 [m 0,m 5,ix 8 17 18,f 0 19,l 1 20,m 1,m 5,ix 8 22 23,f 0 24,l 1 25,ne 21 26,m 27,z 28 (m 0),z 28 (m 5),z 28 (ix 8 29 30),z 28 (f 1 31),z 28 (l 1 32),z 28 (m 1),z 28 (m 5),z 28 (ix 8 34 35),z 28 (f 1 36),z 28 (l 1 37),z 28 (ne 33 38),po 28 39,m 40,z 41 (m 0),z 41 (m 5),z 41 (ix 8 42 43),z 41 (f 2 44),z 41 (h 6 45),z 41 (m 1),z 41 (m 5),z 41 (ix 8 47 48),z 41 (f 2 49),z 41 (h 6 50),z 41 (ca 415 [46,51]),z 41 (eqi 52 0),po 41 53] [] [54,5,1,0]) (c 54 (r (O 4 [i 0]))))) (O 15 [m 5,adi 15 1,d 5 (m 16)])))
def w437_L0:WCode:=.loop ⟨true,[5,1,0],[]⟩ w437_B0
def w437:WFn:=⟨2,[.tmp 4],zd (s (O 4 [i 0]) (s (s (O 6 [m 0,ln 1 6,m 1,ln 1 8,ne 7 9]) (c 10 (r (O 4 [i 0])))) (s (s (O 5 [i 0]) (bk 0 w437_L0 ⟨true,[],[]⟩)) w437_c0)))⟩
@[simp] theorem w437_E0:ZL w437_L0 w437_B0 ⟨true,[5,1,0],[]⟩:=ck_lp rfl
noncomputable abbrev w437_K0 (C:WProg) (s:WSt):Option AV:=CK C 0 (pureFin [.tmp 4]) [.sq w437_L0,.bk 0 ⟨true,[],[]⟩,.sq w437_c0] w437_B0 s
def w277:WFn:=⟨1,[.tmp 2],zd (s (Q 1 [bx 0,i 0] [1]) (s (O 3 [E (.mv (.c (.fn 427 [])))]) (s (s (O 4 [h 7 1,ca 279 [4],ca 115 [5],nei 6 0,m 7,z 8 (f 5 1),z 8 (l 1 9),z 8 (lti 10 1),po 8 11,m 12,z 13 (f 5 1),z 13 (l 1 14),z 13 (gti 15 65536),po 13 16,m 17,z 18 (f 3 1),z 18 (l 1 19),z 18 (m 3),z 18 (ca 232 [20,21]),po 18 22]) (c 23 (r (O 2 [i 7])))) (r (O 2 [i 0])))))⟩
def w428:WFn:=⟨2,[.tmp 4],zd (s (O 2 [bx 0,bx 1,ff]) (s (s (U 6 [f 0 3,l 1 6,E (.bin .eql (T 7) (.c (.int .u64 0))),m 8,z 9 (f 1 3),z 9 (l 1 10),z 9 (E (.cvt .i64 (T 11))),z 9 (f 3 2),z 9 (l 1 13),z 9 (ln 1 14),z 9 (ge 12 15),po 9 16,m 17,z 18 (f 2 3),z 18 (h 6 19),z 18 (ca 439 [20]),z 18 (nei 21 0),po 18 22,m 23,z 24 (f 2 3),z 24 (h 6 25),z 24 (ca 140 [26]),z 24 (f 4 2),z 24 (l 1 28),z 24 (gt 27 29),po 24 30] [(21,23)] [31,3,2]) (c 31 (r (O 4 [ff])))) (s (Q 32 [f 3 2,l 1 32,f 1 3,l 1 34,ix 9 33 35,f 0 36,h 6 37,d 5 (E (.alloc [.int .u8 0,.str [],.str [],.ro 3 [] true,.str [],.ro 6 [] true])),n (st 6 5 38)] [5,3]) (r (O 39 [f 2 3,f 0 39,l 1 40,f 0 5,l 1 42,eq 41 43,m 44,y 45 (f 2 3),y 45 (f 1 46),y 45 (l 1 47),y 45 (f 1 5),y 45 (l 1 49),y 45 (eq 48 50),pa 45 51,d 4 (m 52)])))))⟩
def w429:WFn:=⟨2,[.tmp 4],zd (s (O 4 [ff]) (r (O 5 [m 0,m 1,ca 514 [5,6],gei 7 0,d 4 (m 8)])))⟩
def w430:WFn:=⟨3,[.tmp 4],zd (s (O 3 [bx 0,ff]) (r (O 5 [f 1 3,l 1 5,E (.cvt .i64 (T 6)),l 1 1,ne 7 8,m 9,z 10 (h 7 2),z 10 (h 8 3),z 10 (ca 428 [11,12]),z 10 (nt 13),po 10 14,d 4 (m 15)])))⟩
def w438_c0:WCode:=zd (V 31 [l 1 3,m 0,E (.slice 1 (T 32) (some (N 1)) none none),E (.callv (T 31) [T 33])] [] ⟨false,[],[]⟩)
def w438_B0:WCode:=zd (s (O 15 [lt 14 13]) (s (cc 15 (w .skip) (ee 0)) (s (B 1 (s (Q 16 [ix 8 12 14,h 8 16,d 6 (E (.alloc [.int .u64 0,.int .u8 0,.int .u8 0,.str [],.str [],.ro 2 [] true,.str [],.ro 6 [] true])),n (st 8 6 17)] [14,13,12,6,3,2,1,0]) (s (O 18 [l 1 1,m 18,y 19 (f 2 6),y 19 (h 6 20),y 19 (ca 439 [21]),y 19 (eqi 22 0),pa 19 23,n (st 1 1 24)]) (V 25 [l 1 2,f 2 6,h 6 26,ca 140 [27],ad 25 28,n (st 1 2 29)] [(0,3)] ⟨false,[],[]⟩)))) (O 30 [adi 14 1,d 14 (m 30)]))))
def w438_L0:WCode:=.loop ⟨true,[14,13,12,3,2,1,0],[]⟩ w438_B0
def w438:WFn:=⟨4,[],zd (s (s (O 7 [m 0,ln 1 7,eqi 8 0]) (c 9 (w .ret))) (s (s (O 10 [m 0,E (.idxs 1 (T 10) (N 0)),l 1 11,ln 1 12,i 0]) (bk 0 w438_L0 ⟨true,[3,0],[]⟩)) w438_c0))⟩
@[simp] theorem w438_E0:ZL w438_L0 w438_B0 ⟨true,[14,13,12,3,2,1,0],[]⟩:=ck_lp rfl
def w439:WFn:=⟨1,[.tmp 2],zd (s (O 1 [bx 0,i 0]) (s (s (O 3 [h 6 1,ca 140 [3],eqi 4 0]) (c 5 (r (O 2 [i 14])))) (r (O 2 [i 0]))))⟩
def w301_c0:WCode:=zd (r (V 30 [h 7 3,h 1 4,n (st 7 0 30),n (st 1 1 31)] [(1,2)] ⟨false,[],[]⟩))
def w301_B0:WCode:=zd (s (s (O 13 [m 5,lti 13 4]) (cc 14 (w .skip) (ee 0))) (s (B 1 (O 17 [f 0 4,l 1 17,m 5,adi 19 1,E (.cvt .u64 (T 20)),m 5,E (.bin .quo (T 22) (N 3)),E (.cvt .u8 (T 23)),E (.build [.int .u64 0,.int .u8 0,.str [],.ro 1 [] true] [(0,1,T 21),(1,1,T 24)]),E (.build [.int .u64 0,.int .u8 0,.str [],.ro 1 [] true,.int .i64 0,.bool false] [(0,4,T 25),(4,1,N 1)]),E (.buildS [.int .u64 0,.int .u8 0,.str [],.ro 1 [] true,.int .i64 0,.bool false] 1 [(0,T 26)]),E (.app [.int .u64 0,.int .u8 0,.str [],.ro 1 [] true,.int .i64 0,.bool false] 72 false (T 18) (T 27)),f 0 4,n (st 1 29 28)])) (O 15 [m 5,adi 15 1,d 5 (m 16)])))
def w301_L0:WCode:=.loop ⟨true,[5,4,3,1,0],[]⟩ w301_B0
def w301:WFn:=⟨0,[.cell 0 7 true,.cell 1 1 true],zd (s (O 0 [E (.alloc [.int .i64 0,.int .i64 0,.int .i64 0,.ro 9 [] true,.int .i64 0,.int .i64 0,.int .u8 0]),E (.alloc [.ro 6 [] true])]) (s (O 6 [E (.build [.int .u8 0,.str [],.str [],.ro 3 [] true,.str [],.ro 6 [] true] [(0,1,.c (.int .u8 1)),(1,1,.c (.str [114,111,119]))]),d 2 (E (.alloc [.int .u8 0,.str [],.str [],.ro 3 [] true,.str [],.ro 6 [] true])),n (st 6 2 6)]) (s (O 7 [h 6 2,E (.build [.int .u8 0,.str [],.str [],.ro 3 [] true,.str [],.ro 6 [] true,.int .i64 0,.bool false,.int .i64 0] [(0,6,T 7),(6,1,N 1),(8,1,N 1)]),h 6 2,E (.build [.int .u8 0,.str [],.str [],.ro 3 [] true,.str [],.ro 6 [] true,.int .i64 0,.bool false,.int .i64 0] [(0,6,T 9),(6,1,N 1)]),E (.buildS [.int .u8 0,.str [],.str [],.ro 3 [] true,.str [],.ro 6 [] true,.int .i64 0,.bool false,.int .i64 0] 2 [(0,T 8),(1,T 10)]),E (.build [.int .i64 0,.int .i64 0,.int .i64 0,.ro 9 [] true,.int .i64 0,.int .i64 0,.int .u8 0] [(3,1,T 11),(4,1,N 1),(5,1,N 100)]),d 3 (E (.alloc [.int .i64 0,.int .i64 0,.int .i64 0,.ro 9 [] true,.int .i64 0,.int .i64 0,.int .u8 0])),n (st 7 3 12)]) (s (O 4 [E (.alloc [.ro 6 [] true])]) (s (s (Q 5 [i 0] [5,4,3,1,0]) (bk 0 w301_L0 ⟨true,[4,3,1,0],[]⟩)) w301_c0)))))⟩
@[simp] theorem w301_E0:ZL w301_L0 w301_B0 ⟨true,[5,4,3,1,0],[]⟩:=ck_lp rfl
def w302_c0:WCode:=zd (r (O 4 [i 1]))
def w302_B0:WCode:=zd (s (s (O 11 [m 5,m 0,ln 1 12,lt 11 13]) (cc 14 (w .skip) (ee 0))) (s (B 1 (s (V 17 [m 0,m 5,ix 8 17 18,f 0 19,l 1 20,m 1,m 5,ix 1 22 23,l 1 24,ne 21 25] [] ⟨false,[],[]⟩) (c 26 (r (O 4 [i 0]))))) (O 15 [m 5,adi 15 1,d 5 (m 16)])))
def w302_L0:WCode:=.loop ⟨true,[5,1,0],[]⟩ w302_B0
def w302:WFn:=⟨2,[.tmp 4],zd (s (O 4 [i 0]) (s (s (Q 6 [m 0,ln 1 6,m 1,ln 1 8,ne 7 9] [10,1,0]) (c 10 (r (O 4 [i 0])))) (s (s (O 5 [i 0]) (bk 0 w302_L0 ⟨true,[],[]⟩)) w302_c0)))⟩
@[simp] theorem w302_E0:ZL w302_L0 w302_B0 ⟨true,[5,1,0],[]⟩:=ck_lp rfl
def w432_c0:WCode:=zd (r (O 28 [m 3,d 2 (m 28)]))
def w432_B0:WCode:=zd (s (O 15 [lt 14 13]) (s (cc 15 (w .skip) (ee 0)) (s (B 1 (s (O 16 [m 14,ix 8 12 14,h 8 17,d 5 (E (.alloc [.int .u64 0,.int .u8 0,.int .u8 0,.str [],.str [],.ro 2 [] true,.str [],.ro 6 [] true])),d 4 (m 16),n (st 8 5 18)]) (s (O 19 [f 2 5,h 6 19,ca 515 [20],f 2 5,n (st 6 22 21)]) (O 23 [m 3,m 4,h 8 5,ix 8 23 24,n (st 8 26 25)])))) (O 27 [adi 14 1,d 14 (m 27)]))))
def w432_L0:WCode:=.loop ⟨true,[14,13,12,3],[]⟩ w432_B0
def w432:WFn:=⟨1,[.tmp 2],zd (s (O 2 [E (.mv (.c (.ro 8 [] true)))]) (s (s (O 6 [m 0,ln 1 6,eqi 7 0]) (c 8 (r (O 2 [E (.mv (.c (.ro 8 [] true)))])))) (s (O 9 [m 0,ln 1 9,E (.mksl [.int .u64 0,.int .u8 0,.int .u8 0,.str [],.str [],.ro 2 [] true,.str [],.ro 6 [] true] 120 (T 10) (T 10)),d 3 (m 11)]) (s (s (Q 12 [m 0,ln 1 12,i 0] [14,13,12,3]) (bk 0 w432_L0 ⟨true,[3],[]⟩)) w432_c0))))⟩
@[simp] theorem w432_E0:ZL w432_L0 w432_B0 ⟨true,[14,13,12,3],[]⟩:=ck_lp rfl
noncomputable abbrev w432_K0 (C:WProg) (s:WSt):Option AV:=CK C 0 (pureFin [.tmp 2]) [.sq w432_L0,.bk 0 ⟨true,[3],[]⟩,.sq w432_c0] w432_B0 s
def w441:WFn:=⟨1,[.tmp 2],zd (s (O 1 [bx 0,i 0]) (s (s (O 3 [h 6 1,ca 442 [3],eqi 4 0]) (c 5 (r (O 2 [i 14])))) (r (O 2 [i 0]))))⟩
def w442:WFn:=⟨1,[.tmp 2],zd (s (O 1 [bx 0,i 0]) (s (O 4 [h 6 1,E (.call 520 [T 4,N 6]),d 3 (m 5)]) (s (s (O 6 [m 3,gti 6 64]) (c 7 (r (O 2 [i 0])))) (r (O 8 [m 3,d 2 (m 8)])))))⟩
def w282:WFn:=⟨1,[.cell 2 1 false,.cell 3 1 false],zd (s (O 1 [bx 0,E (.alloc [.int .i64 0]),E (.alloc [.int .i64 0])]) (s (O 4 [E (.alloc [.nilf])]) (s (O 5 [E (.mkfn 433 [T 2,T 3,T 4]),n (st 1 4 5)]) (s (s (O 6 [l 1 4,E (.callv (T 6) [T 1,N 1]),nt 7]) (c 8 (r (O 0 [n (E (.store 1 (T 2) (N 0))),n (E (.store 1 (T 3) (N 0)))])))) (r (V 9 [l 1 2,l 1 3,n (st 1 2 9),n (st 1 3 10)] [(1,2)] ⟨false,[],[]⟩))))))⟩
def w126:WFn:=⟨1,[.tmp 2],zd (s (O 2 [E (.mv (.c (.ro 9 [] true)))]) (s (Q 6 [E (.build [.str [],.int .u8 0,.str []] [(0,1,.c (.str [110])),(1,1,.c (.int .u8 3))]),E (.build [.str [],.int .u8 0,.str []] [(0,1,.c (.str [116,101,120,116])),(1,1,.c (.int .u8 1))]),E (.buildS [.str [],.int .u8 0,.str []] 2 [(0,T 6),(1,T 7)]),E (.build [.int .u8 0,.str [],.str [],.ro 3 [] true,.str [],.ro 6 [] true] [(0,1,.c (.int .u8 3))]),E (.buildS [.int .u8 0,.str [],.str [],.ro 3 [] true,.str [],.ro 6 [] true] 1 [(0,T 9)]),E (.build [.int .u8 0,.str [],.str [],.ro 3 [] true,.str [],.ro 6 [] true] [(0,1,.c (.int .u8 1)),(1,1,.c (.str [114,111,119])),(3,1,T 8),(5,1,T 10)]),d 3 (E (.alloc [.int .u8 0,.str [],.str [],.ro 3 [] true,.str [],.ro 6 [] true])),n (st 6 3 11)] [3,0]) (s (O 12 [E (.build [.str [],.int .u8 0,.str []] [(0,1,.c (.str [105,100])),(1,1,.c (.int .u8 2))]),E (.buildS [.str [],.int .u8 0,.str []] 1 [(0,T 12)]),E (.build [.int .u8 0,.str [],.str [],.ro 3 [] true,.str [],.ro 6 [] true] [(0,1,.c (.int .u8 2)),(4,1,.c (.str [35]))]),E (.build [.int .u8 0,.str [],.str [],.ro 3 [] true,.str [],.ro 6 [] true] [(0,1,.c (.int .u8 4))]),E (.buildS [.int .u8 0,.str [],.str [],.ro 3 [] true,.str [],.ro 6 [] true] 2 [(0,T 14),(1,T 15)]),E (.build [.int .u8 0,.str [],.str [],.ro 3 [] true,.str [],.ro 6 [] true] [(0,1,.c (.int .u8 1)),(1,1,.c (.str [104,101,97,100])),(2,1,.c (.str [104])),(3,1,T 13),(5,1,T 16)]),d 4 (E (.alloc [.int .u8 0,.str [],.str [],.ro 3 [] true,.str [],.ro 6 [] true])),n (st 6 4 17)]) (s (O 18 [E (.build [.int .u8 0,.str [],.str [],.ro 3 [] true,.str [],.ro 6 [] true] [(0,1,.c (.int .u8 3))]),E (.buildS [.int .u8 0,.str [],.str [],.ro 3 [] true,.str [],.ro 6 [] true] 1 [(0,T 18)]),E (.build [.int .u8 0,.str [],.str [],.ro 3 [] true,.str [],.ro 6 [] true] [(0,1,.c (.int .u8 1)),(1,1,.c (.str [98])),(2,1,.c (.str [98,50])),(5,1,T 19)]),E (.build [.str [],.int .u8 0,.str []] [(0,1,.c (.str [111,102])),(1,1,.c (.int .u8 2))]),E (.buildS [.str [],.int .u8 0,.str []] 1 [(0,T 21)]),E (.build [.int .u8 0,.str [],.str [],.ro 3 [] true,.str [],.ro 6 [] true] [(0,1,.c (.int .u8 5)),(1,1,.c (.str [116,97,103])),(3,1,T 22)]),E (.buildS [.int .u8 0,.str [],.str [],.ro 3 [] true,.str [],.ro 6 [] true] 2 [(0,T 20),(1,T 23)]),E (.build [.int .u8 0,.str [],.str [],.ro 3 [] true,.str [],.ro 6 [] true] [(0,1,.c (.int .u8 1)),(1,1,.c (.str [114,111,119])),(5,1,T 24)]),d 5 (E (.alloc [.int .u8 0,.str [],.str [],.ro 3 [] true,.str [],.ro 6 [] true])),n (st 6 5 25)]) (r (Q 26 [h 6 3,m 0,E (.bin .rem (T 27) (.c (.int .u8 7))),E (.cvt .i64 (T 28)),E (.bin .add (N 10) (T 29)),m 0,E (.bin .rem (T 31) (.c (.int .u8 4))),E (.cvt .i64 (T 32)),E (.build [.int .u8 0,.str [],.str [],.ro 3 [] true,.str [],.ro 6 [] true,.int .i64 0,.bool false,.int .i64 0] [(0,6,T 26),(6,1,T 30),(8,1,T 33)]),h 6 4,m 0,E (.bin .rem (T 36) (.c (.int .u8 3))),E (.cvt .i64 (T 37)),E (.bin .add (N 6) (T 38)),m 0,E (.bin .quo (T 40) (.c (.int .u8 4))),E (.bin .rem (T 41) (.c (.int .u8 3))),E (.cvt .i64 (T 42)),E (.build [.int .u8 0,.str [],.str [],.ro 3 [] true,.str [],.ro 6 [] true,.int .i64 0,.bool false,.int .i64 0] [(0,6,T 35),(6,1,T 39),(7,1,.c (.bool true)),(8,1,T 43)]),h 6 5,m 0,E (.bin .rem (T 46) (.c (.int .u8 16))),E (.bin .eql (T 47) (.c (.int .u8 15))),m 0,E (.bin .quo (T 49) (.c (.int .u8 8))),E (.bin .rem (T 50) (.c (.int .u8 3))),E (.cvt .i64 (T 51)),E (.build [.int .u8 0,.str [],.str [],.ro 3 [] true,.str [],.ro 6 [] true,.int .i64 0,.bool false,.int .i64 0] [(0,6,T 45),(6,1,N 20),(7,1,T 48),(8,1,T 52)]),E (.buildS [.int .u8 0,.str [],.str [],.ro 3 [] true,.str [],.ro 6 [] true,.int .i64 0,.bool false,.int .i64 0] 3 [(0,T 34),(1,T 44),(2,T 53)]),d 2 (m 54)] [2]))))))⟩
def w270_c0:WCode:=zd (r (O 32 [m 3,d 2 (m 32)]))
def w270_B0:WCode:=zd (s (s (Q 6 [m 4,f 0 1,l 1 7,ln 1 8,lt 6 9,m 10,y 11 (m 4),y 11 (lti 12 12),pa 11 13] [14,4,3,1]) (cc 14 (w .skip) (ee 0))) (s (B 1 (s (O 17 [f 0 1,l 1 17,m 4,ix 4 18 19,h 4 20,ca 422 [21],d 5 (E (.alloc [.int .u64 0,.int .u8 0,.str [],.ro 1 [] true])),n (st 4 5 22)]) (s (O 23 [m 3,f 0 5,l 1 24,ca 423 [23,25],lti 26 0]) (c 27 (O 28 [m 3,h 4 5,E (.buildS [.int .u64 0,.int .u8 0,.str [],.ro 1 [] true] 1 [(0,T 29)]),E (.app [.int .u64 0,.int .u8 0,.str [],.ro 1 [] true] 56 false (T 28) (T 30)),d 3 (m 31)]))))) (O 15 [m 4,adi 15 1,d 4 (m 16)])))
def w270_L0:WCode:=.loop ⟨true,[4,3,1],[]⟩ w270_B0
def w270:WFn:=⟨1,[.tmp 2],zd (s (O 1 [bx 0,E (.mv (.c (.ro 4 [] true)))]) (s (R 3 [E (.mv (.c (.ro 4 [] true)))] ⟨true,[3,1],[(3,4)]⟩) (s (s (O 4 [i 0]) (bk 0 w270_L0 ⟨true,[3],[]⟩)) w270_c0)))⟩
@[simp] theorem w270_E0:ZL w270_L0 w270_B0 ⟨true,[4,3,1],[]⟩:=ck_lp rfl
noncomputable abbrev w270_K0 (C:WProg) (s:WSt):Option AV:=CK C 0 (pureFin [.tmp 2]) [.sq w270_L0,.bk 0 ⟨true,[3],[]⟩,.sq w270_c0] w270_B0 s
def w271:WFn:=⟨3,[.tmp 6],zd (s (O 3 [bx 0,bx 1,d 6 (i 0)]) (s (s (O 9 [h 4 4,f 0 3,l 1 10,ln 1 11,ca 424 [9,12],gti 13 0]) (c 14 (r (O 6 [i 6])))) (s (s (Q 15 [m 2,eqi 15 1] [16,4,3]) (c 16 (r (O 6 [i 8])))) (s (V 18 [f 0 3,l 1 18,f 1 4,l 1 20,ix 9 19 21,f 0 22,h 6 23,h 4 4,f 1 3,l 1 26,ca 425 [24,25,27],d 17 (m 28),ex 0 17,ex 1 17,d 7 (E (.alloc [.int .u8 0,.str [],.str [],.ro 2 [] true,.str [],.ro 6 [] true])),n (st 6 7 29),d 8 (m 30)] [(1,14),(3,14),(6,14),(7,14),(9,14),(10,14)] ⟨false,[],[]⟩) (s (s (O 31 [m 8,gti 31 0]) (c 32 (r (O 6 [i 14])))) (r (O 6 [i 0])))))))⟩
def w240:WFn:=⟨2,[.cell 4 6 true],zd (s (O 2 [bx 0,bx 1,E (.alloc [.int .u64 0,.int .u8 0,.str [],.ro 1 [] true,.int .i64 0,.bool false])]) (r (V 5 [h 4 3,f 0 2,l 1 6,f 1 3,l 1 8,ix 9 7 9,f 6 10,l 1 11,E (.build [.int .u64 0,.int .u8 0,.str [],.ro 1 [] true,.int .i64 0,.bool false] [(0,4,T 5),(4,1,T 12)]),n (st 6 4 13)] [] ⟨false,[],[]⟩)))⟩
def w111_c0:WCode:=zd (r (O 25 [m 3,d 2 (m 25)]))
def w111_B0:WCode:=zd (s (O 11 [lt 10 9]) (s (cc 11 (w .skip) (ee 0)) (s (B 1 (s (O 12 [ix 6 8 10,h 6 12,d 5 (E (.alloc [.int .u64 0,.int .u8 0,.str [],.ro 1 [] true,.int .i64 0,.bool false])),n (st 6 5 13)]) (s (O 14 [f 4 5,l 1 14,E (.mx (T 15) (N 0)),d 6 (m 16)]) (s (s (O 17 [m 6,m 3,E (.bin .sub (N 4611686018427387904) (T 18)),gt 17 19]) (c 20 (r (O 2 [i 4611686018427387905])))) (O 21 [m 3,m 6,ad 21 22,d 3 (m 23)]))))) (O 24 [adi 10 1,d 10 (m 24)]))))
def w111_L0:WCode:=.loop ⟨true,[10,9,8,3],[]⟩ w111_B0
def w111:WFn:=⟨1,[.tmp 2],zd (s (O 1 [bx 0,i 0]) (s (O 3 [i 0]) (s (s (Q 7 [f 0 1,l 1 7,ln 1 8,i 0] [10,9,8,3]) (bk 0 w111_L0 ⟨true,[3],[]⟩)) w111_c0)))⟩
@[simp] theorem w111_E0:ZL w111_L0 w111_B0 ⟨true,[10,9,8,3],[]⟩:=ck_lp rfl
noncomputable abbrev w111_K0 (C:WProg) (s:WSt):Option AV:=CK C 0 (pureFin [.tmp 2]) [.sq w111_L0,.bk 0 ⟨true,[3],[]⟩,.sq w111_c0] w111_B0 s
def w425:WFn:=⟨3,[.cell 6 6 true,.tmp 7],zd (s (Q 6 [d 3 (bx 0),d 4 (bx 1),E (.alloc [.int .u8 0,.str [],.str [],.ro 2 [] true,.str [],.ro 6 [] true]),i 0] [6,4,3,2]) (s (s (O 9 [m 2,lti 9 1,m 10,z 11 (m 2),z 11 (gti 12 64),po 11 13]) (c 14 (r (O 15 [E (.build [.int .u8 0,.str [],.str [],.ro 2 [] true,.str [],.ro 6 [] true] []),n (st 6 6 15),d 7 (i 1)])))) (s (s (O 16 [h 6 3,ca 408 [16],nei 17 0]) (c 18 (r (O 19 [E (.build [.int .u8 0,.str [],.str [],.ro 2 [] true,.str [],.ro 6 [] true] []),h 6 3,ca 408 [20],n (st 6 6 19),d 7 (m 21)])))) (s (s (O 22 [h 4 4,ca 512 [22],nei 23 0]) (c 24 (r (Q 25 [E (.build [.int .u8 0,.str [],.str [],.ro 2 [] true,.str [],.ro 6 [] true] []),h 4 4,ca 512 [26],n (st 6 6 25),d 7 (m 27)] [7,6])))) (s (O 28 [h 6 3,h 4 4,ca 513 [28,29],E (.idxs 6 (T 30) (N 0)),h 6 31,d 8 (E (.alloc [.int .u8 0,.str [],.str [],.ro 2 [] true,.str [],.ro 6 [] true])),n (st 6 8 32)]) (s (s (O 33 [h 6 8,ca 441 [33],nei 34 0,m 35,z 36 (h 6 8),z 36 (ca 442 [37]),z 36 (m 2),z 36 (gt 38 39),po 36 40]) (c 41 (r (O 42 [E (.build [.int .u8 0,.str [],.str [],.ro 2 [] true,.str [],.ro 6 [] true] []),n (st 6 6 42),d 7 (i 14)])))) (r (O 43 [h 6 8,n (st 6 6 43),d 7 (i 0)]))))))))⟩
def w115:WFn:=⟨1,[.tmp 2],zd (s (O 1 [bx 0,i 0]) (s (O 3 [E (.mv (.c (.fn 230 [])))]) (s (s (Q 4 [f 0 1,l 1 4,ln 1 5,lti 6 1,m 7,z 8 (f 0 1),z 8 (l 1 9),z 8 (ln 1 10),z 8 (gti 11 8),po 8 12,m 13,z 14 (f 1 1),z 14 (l 1 15),z 14 (lti 16 1),po 14 17,m 18,z 19 (f 1 1),z 19 (l 1 20),z 19 (gti 21 64),po 19 22,m 23,z 24 (f 0 1),z 24 (l 1 25),z 24 (m 3),z 24 (ca 232 [26,27]),po 24 28] [29]) (c 29 (r (O 2 [i 7])))) (r (O 2 [i 0])))))⟩
def w398:WFn:=⟨2,[.tmp 4],zd (s (O 4 [d 2 (bx 0),i 0]) (s (O 7 [E (.mkfn 494 [T 2]),d 5 (m 7)]) (s (Q 8 [E (.mkfn 497 [T 2]),d 6 (m 8)] [6,5,2,1]) (s (s (O 9 [f 0 2,l 1 9,E (.bin .eql (T 10) (.c (.int .u64 0))),m 11,z 12 (f 1 2),z 12 (l 1 13),z 12 (E (.cvt .i64 (T 14))),z 12 (m 1),z 12 (ge 15 16),po 12 17,m 18,z 19 (m 5),z 19 (E (.callv (T 20) [])),z 19 (nt 21),po 19 22,m 23,z 24 (m 6),z 24 (E (.callv (T 25) [])),z 24 (nt 26),po 24 27]) (c 28 (r (O 4 [i 6])))) (r (O 4 [i 0]))))))⟩
def w399:WFn:=⟨2,[.cell 4 6 true,.tmp 5],zd (s (O 2 [bx 0,bx 1,E (.alloc [.int .u8 0,.str [],.str [],.ro 2 [] true,.str [],.ro 6 [] true]),i 0]) (r (V 6 [f 0 2,l 1 6,f 1 3,l 1 8,ix 9 7 9,f 0 10,h 6 11,h 4 3,f 1 2,l 1 14,ca 501 [12,13,15],ex 0 16,ex 1 16,n (st 6 4 17),d 5 (m 18)] [] ⟨false,[],[]⟩)))⟩
def w225:WFn:=⟨1,[.tmp 2],zd (s (O 2 [ff]) (r (O 3 [m 0,gei 3 1,m 4,y 5 (m 0),y 5 (lei 6 2305843009213693952),pa 5 7,d 2 (m 8)])))⟩
def w227:WFn:=⟨1,[.tmp 2],zd (s (O 1 [bx 0,i 0]) (s (s (O 3 [h 1 1,ca 111 [3],gti 4 4611686018427387904]) (c 5 (r (O 2 [i 13])))) (r (O 2 [i 0]))))⟩
def w431:WFn:=⟨1,[.tmp 2],zd (w (.cln [.int .u64 0,.int .u8 0,.int .u8 0,.str [],.str [],.ro 2 [] true,.str [],.ro 6 [] true] 8 120))⟩
def w238:WFn:=⟨3,[.cell 6 6 true,.tmp 7],zd (s (O 6 [d 3 (bx 0),d 4 (bx 1),E (.alloc [.int .u8 0,.str [],.str [],.ro 2 [] true,.str [],.ro 6 [] true]),i 0]) (s (s (O 9 [h 2 3,h 1 4,ca 223 [9,10],d 8 (m 11)]) (s (O 12 [m 8,nei 12 0]) (c 13 (r (O 14 [E (.build [.int .u8 0,.str [],.str [],.ro 2 [] true,.str [],.ro 6 [] true] []),m 8,n (st 6 6 14),d 7 (m 15)]))))) (s (s (Q 16 [m 2,lti 16 0,m 17,z 18 (m 2),z 18 (f 0 4),z 18 (l 1 20),z 18 (ln 1 21),z 18 (ge 19 22),po 18 23] [24,6,4,3,2]) (c 24 (r (O 25 [E (.build [.int .u8 0,.str [],.str [],.ro 2 [] true,.str [],.ro 6 [] true] []),n (st 6 6 25),d 7 (i 4)])))) (r (V 26 [h 2 3,f 0 4,l 1 27,m 2,ix 6 28 29,f 0 30,h 4 31,ca 399 [26,32],ex 0 33,ex 1 33,n (st 6 6 34),d 7 (m 35)] [] ⟨false,[],[]⟩)))))⟩
def w415_c0:WCode:=zd (r (O 4 [i 1]))
def w415_B0:WCode:=zd (s (s (O 69 [m 6,f 5 2,l 1 70,ln 1 71,lt 69 72]) (cc 73 (w .skip) (ee 2))) (s (B 3 (s (V 76 [f 5 2,l 1 76,m 6,ix 6 77 78,h 6 79,f 5 3,l 1 81,m 6,ix 6 82 83,h 6 84,ca 415 [80,85],eqi 86 0] [] ⟨false,[],[]⟩) (c 87 (r (O 4 [i 0]))))) (O 74 [m 6,adi 74 1,d 6 (m 75)])))
def w415_L0:WCode:=.loop ⟨true,[6,3,2],[]⟩ w415_B0
def w415_c1:WCode:=zd (s (s (O 6 [i 0]) (bk 2 w415_L0 ⟨true,[],[]⟩)) w415_c0)
def w415_B1:WCode:=zd (s (s (O 51 [m 5,f 3 2,l 1 52,ln 1 53,lt 51 54]) (cc 55 (w .skip) (ee 0))) (s (B 1 (s (V 58 [f 3 2,l 1 58,m 5,ix 2 59 60,h 2 61,f 3 3,l 1 63,m 5,ix 2 64 65,h 2 66,E (.eqv 4 [1,1] true (T 62) (T 67))] [] ⟨false,[],[]⟩) (c 68 (r (O 4 [i 0]))))) (Q 56 [m 5,adi 56 1,d 5 (m 57)] [5,3,2])))
def w415_L1:WCode:=.loop ⟨true,[5,3,2],[]⟩ w415_B1
def w415:WFn:=⟨2,[.tmp 4],zd (s (O 2 [bx 0,bx 1,i 0]) (s (s (Q 7 [f 0 2,l 1 7,f 0 3,l 1 9,ne 8 10,m 11,z 12 (f 1 2),z 12 (l 1 13),z 12 (f 1 3),z 12 (l 1 15),z 12 (ne 14 16),po 12 17,m 18,z 19 (f 2 2),z 19 (l 1 20),z 19 (f 2 3),z 19 (l 1 22),z 19 (ne 21 23),po 19 24,m 25,z 26 (f 4 2),z 26 (l 1 27),z 26 (f 4 3),z 26 (l 1 29),z 26 (ne 28 30),po 26 31,m 32,z 33 (f 3 2),z 33 (l 1 34),z 33 (ln 1 35),z 33 (f 3 3),z 33 (l 1 37),z 33 (ln 1 38),z 33 (ne 36 39),po 33 40,m 41,z 42 (f 5 2),z 42 (l 1 43),z 42 (ln 1 44),z 42 (f 5 3),z 42 (l 1 46),z 42 (ln 1 47),z 42 (ne 45 48),po 42 49] [50,3,2]) (c 50 (r (O 4 [i 0])))) (s (s (O 5 [i 0]) (bk 0 w415_L1 ⟨true,[3,2],[]⟩)) w415_c1)))⟩
@[simp] theorem w415_E0:ZL w415_L0 w415_B0 ⟨true,[6,3,2],[]⟩:=ck_lp rfl
noncomputable abbrev w415_K0 (C:WProg) (s:WSt):Option AV:=CK C 0 (pureFin [.tmp 4]) [.sq w415_L0,.bk 2 ⟨true,[],[]⟩,.sq w415_c0] w415_B0 s
@[simp] theorem w415_E1:ZL w415_L1 w415_B1 ⟨true,[5,3,2],[]⟩:=ck_lp rfl
noncomputable abbrev w415_K1 (C:WProg) (s:WSt):Option AV:=CK C 0 (pureFin [.tmp 4]) [.sq w415_L1,.bk 0 ⟨true,[3,2],[]⟩,.sq w415_c1] w415_B1 s
def w427:WFn:=⟨1,[.tmp 2],zd (s (O 1 [bx 0,ff]) (r (O 3 [f 8 1,l 1 3,lti 4 0,m 5,z 6 (f 8 1),z 6 (l 1 7),z 6 (gti 8 16),po 6 9,d 2 (m 10)])))⟩
def w232:WFn:=⟨2,[.tmp 4],zd (s (O 4 [ff]) (r (O 5 [m 0,m 1,ca 405 [5,6],gei 7 0,d 4 (m 8)])))⟩
def w514_c0:WCode:=zd (r (O 4 [i (-1)]))
def w514_B0:WCode:=zd (s (O 9 [lt 8 7]) (s (cc 9 (w .skip) (ee 0)) (s (B 1 (s (O 10 [m 8,d 5 (m 10)]) (s (O 11 [m 1,m 0,m 5,ix 8 12 13,h 8 14,E (.callv (T 11) [T 15])]) (c 16 (r (O 17 [m 5,d 4 (m 17)])))))) (O 18 [adi 8 1,d 8 (m 18)]))))
def w514_L0:WCode:=.loop ⟨true,[8,7,1,0],[]⟩ w514_B0
def w514:WFn:=⟨2,[.tmp 4],zd (s (O 4 [i 0]) (s (s (O 6 [m 0,ln 1 6,i 0]) (bk 0 w514_L0 ⟨true,[],[]⟩)) w514_c0))⟩
@[simp] theorem w514_E0:ZL w514_L0 w514_B0 ⟨true,[8,7,1,0],[]⟩:=ck_lp rfl
noncomputable abbrev w514_K0 (C:WProg) (s:WSt):Option AV:=CK C 0 (pureFin [.tmp 4]) [.sq w514_L0,.bk 0 ⟨true,[],[]⟩,.sq w514_c0] w514_B0 s
def w515:WFn:=⟨1,[.cell 2 6 true],zd (s (O 1 [bx 0,E (.alloc [.int .u8 0,.str [],.str [],.ro 2 [] true,.str [],.ro 6 [] true])]) (s (s (O 3 [h 6 1,ca 439 [3],nei 4 0]) (c 5 (r (O 6 [E (.build [.int .u8 0,.str [],.str [],.ro 2 [] true,.str [],.ro 6 [] true] []),n (st 6 2 6)])))) (r (O 7 [h 6 1,E (.call 507 [T 7,.c (.bool true)]),n (st 6 2 8)]))))⟩
def w520_c0:WCode:=zd (r (O 35 [m 5,d 4 (m 35)]))
def w520_B0:WCode:=zd (s (s (Q 14 [m 6,f 5 2,l 1 15,ln 1 16,lt 14 17,m 18,y 19 (m 5),y 19 (lei 20 64),pa 19 21] [22,6,5,2,1]) (cc 22 (w .skip) (ee 0))) (s (B 1 (O 25 [m 5,f 5 2,l 1 26,m 6,ix 6 27 28,h 6 29,m 1,sbi 31 1,ca 520 [30,32],ad 25 33,d 5 (m 34)])) (O 23 [m 6,adi 23 1,d 6 (m 24)])))
def w520_L0:WCode:=.loop ⟨true,[6,5,2,1],[]⟩ w520_B0
def w520:WFn:=⟨2,[.tmp 4],zd (s (O 4 [d 2 (bx 0),i 0]) (s (s (O 7 [m 1,lti 7 1,m 8,z 9 (h 6 2),z 9 (ca 563 [10]),z 9 (nt 11),po 9 12]) (c 13 (r (O 4 [i 1000])))) (s (O 5 [i 1]) (s (s (O 6 [i 0]) (bk 0 w520_L0 ⟨true,[5],[]⟩)) w520_c0))))⟩
@[simp] theorem w520_E0:ZL w520_L0 w520_B0 ⟨true,[6,5,2,1],[]⟩:=ck_lp rfl
noncomputable abbrev w520_K0 (C:WProg) (s:WSt):Option AV:=CK C 0 (pureFin [.tmp 4]) [.sq w520_L0,.bk 0 ⟨true,[5],[]⟩,.sq w520_c0] w520_B0 s
def w433_c0:WCode:=zd (r (O 7 [tt]))
def w433_B0:WCode:=zd (s (O 31 [lt 30 29]) (s (cc 31 (w .skip) (ee 0)) (s (B 1 (s (O 32 [m 30,d 8 (m 32)]) (s (V 33 [l 1 4,m 0,nk 34,f 5 35,l 1 36,m 8,ix 6 37 38,m 1,adi 40 1,E (.callv (T 33) [T 39,T 41]),nt 42] [] ⟨false,[],[]⟩) (c 43 (r (O 7 [ff])))))) (O 44 [adi 30 1,d 30 (m 44)]))))
def w433_L0:WCode:=.loop ⟨true,[30,29,4,1,0],[]⟩ w433_B0
def w433:WFn:=⟨5,[.tmp 7],zd (s (O 7 [ff]) (s (O 9 [l 1 2,adi 9 1,n (st 1 2 10)]) (s (O 11 [l 1 3,m 1,E (.mx (T 11) (T 12)),n (st 1 3 13)]) (s (s (O 14 [m 1,gti 14 6,m 15,z 16 (l 1 2),z 16 (gti 17 64),po 16 18,m 19,z 20 (m 0),z 20 (ca 434 [21]),z 20 (nt 22),po 20 23]) (c 24 (r (O 7 [ff])))) (s (s (Q 25 [m 0,nk 25,f 5 26,l 1 27,ln 1 28,i 0] [30,29,4,1,0]) (bk 0 w433_L0 ⟨true,[],[]⟩)) w433_c0)))))⟩
@[simp] theorem w433_E0:ZL w433_L0 w433_B0 ⟨true,[30,29,4,1,0],[]⟩:=ck_lp rfl
def w434_c0:WCode:=zd (r (O 2 [tt]))
def w434_B0:WCode:=zd (s (Q 143 [lt 142 141] [143,142,141,140,0]) (s (cc 143 (w .skip) (ee 2)) (s (B 3 (s (O 144 [m 142,ix 6 140 142,h 6 145,d 6 (E (.alloc [.int .u8 0,.str [],.str [],.ro 2 [] true,.str [],.ro 6 [] true])),d 5 (m 144),n (st 6 6 146)]) (s (O 147 [f 2 6,l 1 147,E (.bin .neq (T 148) (.c (.str []))),m 149,y 150 (m 0),y 150 (nk 151),y 150 (f 5 152),y 150 (l 1 153),y 150 (m 5),y 150 (E (.slice 6 (T 154) none (some (T 155)) none)),y 150 (E (.mkfn 519 [T 6])),y 150 (ca 518 [156,157]),pa 150 158]) (c 159 (r (O 2 [ff])))))) (O 160 [adi 142 1,d 142 (m 160)]))))
def w434_L0:WCode:=.loop ⟨true,[142,141,140,0],[]⟩ w434_B0
def w434_c1:WCode:=zd (s (s (O 137 [m 0,nk 137,f 5 138,l 1 139,ln 1 140,i 0]) (bk 2 w434_L0 ⟨true,[],[]⟩)) w434_c0)
def w434_B1:WCode:=zd (s (O 104 [lt 103 102]) (s (cc 104 (w .skip) (ee 0)) (s (B 1 (s (O 105 [m 103,ix 2 101 103,h 2 106,d 4 (E (.alloc [.str [],.str []])),d 3 (m 105),n (st 2 4 107)]) (s (U 108 [f 0 4,l 1 108,ca 517 [109],nt 110,m 111,z 112 (f 1 4),z 112 (l 1 113),z 112 (ca 516 [114]),z 112 (nt 115),po 112 116,m 117,z 118 (m 3),z 118 (gti 119 0),z 118 (m 120),y 121 (f 0 4),y 121 (l 1 122),y 121 (m 0),y 121 (nk 124),y 121 (f 3 125),y 121 (l 1 126),y 121 (m 3),y 121 (sbi 128 1),y 121 (ix 2 127 129),y 121 (f 0 130),y 121 (l 1 131),y 121 (le 123 132),z 118 (pa 121 133),po 118 134] [] [135,103,102,101,0]) (c 135 (r (O 2 [ff])))))) (O 136 [adi 103 1,d 103 (m 136)]))))
def w434_L1:WCode:=.loop ⟨true,[103,102,101,0],[]⟩ w434_B1
def w434:WFn:=⟨1,[.tmp 2],zd (s (O 2 [ff]) (s (s (O 7 [m 0,nk 7,f 0 8,l 1 9,E (.bin .eql (T 10) (.c (.int .u8 2)))]) (c 11 (r (Q 12 [m 0,nk 12,f 4 13,l 1 14,ca 516 [15],m 16,y 17 (m 0),y 17 (nk 18),y 17 (f 1 19),y 17 (l 1 20),y 17 (E (.bin .eql (T 21) (.c (.str [])))),pa 17 22,m 23,y 24 (m 0),y 24 (nk 25),y 24 (f 2 26),y 24 (l 1 27),y 24 (E (.bin .eql (T 28) (.c (.str [])))),pa 24 29,m 30,y 31 (m 0),y 31 (nk 32),y 31 (f 3 33),y 31 (l 1 34),y 31 (ln 1 35),y 31 (eqi 36 0),pa 31 37,m 38,y 39 (m 0),y 39 (nk 40),y 39 (f 5 41),y 39 (l 1 42),y 39 (ln 1 43),y 39 (eqi 44 0),pa 39 45,d 2 (m 46)] [2])))) (s (s (Q 47 [m 0,nk 47,f 0 48,l 1 49,E (.bin .neq (T 50) (.c (.int .u8 1))),m 51,z 52 (m 0),z 52 (nk 53),z 52 (f 1 54),z 52 (l 1 55),z 52 (ca 517 [56]),z 52 (nt 57),po 52 58,m 59,z 60 (m 0),z 60 (nk 61),z 60 (f 2 62),z 60 (l 1 63),z 60 (E (.bin .neq (T 64) (.c (.str [])))),z 60 (m 65),y 66 (m 0),y 66 (nk 67),y 66 (f 2 68),y 66 (l 1 69),y 66 (ca 517 [70]),y 66 (nt 71),z 60 (pa 66 72),po 60 73,m 74,z 75 (m 0),z 75 (nk 76),z 75 (f 4 77),z 75 (l 1 78),z 75 (E (.bin .neq (T 79) (.c (.str [])))),po 75 80,m 81,z 82 (m 0),z 82 (nk 83),z 82 (f 3 84),z 82 (l 1 85),z 82 (ln 1 86),z 82 (gti 87 8),po 82 88,m 89,z 90 (m 0),z 90 (nk 91),z 90 (f 5 92),z 90 (l 1 93),z 90 (ln 1 94),z 90 (gti 95 16),po 90 96] [97,0]) (c 97 (r (O 2 [ff])))) (s (s (O 98 [m 0,nk 98,f 3 99,l 1 100,ln 1 101,i 0]) (bk 0 w434_L1 ⟨true,[0],[]⟩)) w434_c1))))⟩
@[simp] theorem w434_E0:ZL w434_L0 w434_B0 ⟨true,[142,141,140,0],[]⟩:=ck_lp rfl
noncomputable abbrev w434_K0 (C:WProg) (s:WSt):Option AV:=CK C 0 (pureFin [.tmp 2]) [.sq w434_L0,.bk 2 ⟨true,[],[]⟩,.sq w434_c0] w434_B0 s
@[simp] theorem w434_E1:ZL w434_L1 w434_B1 ⟨true,[103,102,101,0],[]⟩:=ck_lp rfl
noncomputable abbrev w434_K1 (C:WProg) (s:WSt):Option AV:=CK C 0 (pureFin [.tmp 2]) [.sq w434_L1,.bk 0 ⟨true,[0],[]⟩,.sq w434_c1] w434_B1 s
def w422_c0:WCode:=zd (s (s (O 45 [E (.idxa 4 1 (T 1) (N 3)),l 1 45,E (.bin .geq (T 46) (.c (.int .u8 240)))]) (c 47 (O 48 [f 3 3,l 1 48,E (.buildS [.str []] 2 [(0,.c (.str [97])),(1,.c (.str [97]))]),E (.app [.str []] 16 false (T 49) (T 50)),f 3 3,n (st 1 52 51)]))) (r (O 53 [h 4 3,n (st 4 2 53)])))
def w422_B0:WCode:=zd (s (s (O 20 [m 4,lti 20 3]) (cc 21 (w .skip) (ee 0))) (s (B 1 (s (O 24 [E (.idxa 4 1 (T 1) (N 3)),l 1 24,m 4,E (.bin .shr (T 25) (T 26)),E (.bin .and (T 27) (.c (.int .u8 1))),E (.bin .gtr (T 28) (.c (.int .u8 0)))]) (c 29 (U 30 [f 3 3,l 1 30,E (.buildS [.str []] 3 [(0,.c (.str [97])),(1,.c (.str [98,50])),(2,.c (.str [107,101,121]))]),m 4,E (.idxa 4 1 (T 1) (N 3)),l 1 34,E (.bin .quo (T 35) (.c (.int .u8 8))),E (.cvt .i64 (T 36)),ad 33 37,E (.bin .rem (T 38) (N 3)),ix 1 32 39,l 1 40,E (.buildS [.str []] 1 [(0,T 41)]),E (.app [.str []] 16 false (T 31) (T 42)),f 3 3,n (st 1 44 43)] [(1,2),(2,5),(1,12)] [4,3,2,1])))) (O 22 [m 4,adi 22 1,d 4 (m 23)])))
def w422_L0:WCode:=.loop ⟨true,[4,3,2,1],[]⟩ w422_B0
def w422:WFn:=⟨1,[.cell 2 4 true],zd (s (O 1 [bx 0,E (.alloc [.int .u64 0,.int .u8 0,.str [],.ro 1 [] true])]) (s (U 5 [E (.idxa 4 1 (T 1) (N 0)),l 1 5,E (.bin .rem (T 6) (.c (.int .u8 60))),E (.cvt .u64 (T 7)),E (.bin .add (.c (.int .u64 1)) (T 8)),E (.idxa 4 1 (T 1) (N 1)),l 1 10,E (.bin .rem (T 11) (.c (.int .u8 3))),E (.buildS [.str []] 8 [(0,.c (.str [])),(1,.c (.str [97])),(2,.c (.str [114,111,119])),(3,.c (.str [116,119,111,32,119,111,114,100,115])),(4,.c (.str [32,32])),(5,.c (.str [126,33,45,44])),(6,.c (.str [97,32,108,111,110,103,101,114,32,116,101,120,116,32,111,102,32,116,104,105,115,32,107,105,110,100])),(7,.c (.str [57]))]),E (.idxa 4 1 (T 1) (N 2)),l 1 14,E (.bin .rem (T 15) (.c (.int .u8 8))),ix 1 13 16,l 1 17,E (.build [.int .u64 0,.int .u8 0,.str [],.ro 1 [] true] [(0,1,T 9),(1,1,T 12),(2,1,T 18)]),d 3 (E (.alloc [.int .u64 0,.int .u8 0,.str [],.ro 1 [] true])),n (st 4 3 19)] [(1,8),(6,8),(8,10),(1,15),(6,15),(8,15),(10,15),(13,15)] [3,2,1]) (s (s (O 4 [i 0]) (bk 0 w422_L0 ⟨true,[3,2,1],[]⟩)) w422_c0)))⟩
@[simp] theorem w422_E0:ZL w422_L0 w422_B0 ⟨true,[4,3,2,1],[]⟩:=ck_lp rfl
noncomputable abbrev w422_K0 (C:WProg) (s:WSt):Option AV:=CK C 0 (pureFin [.cell 2 4 true]) [.sq w422_L0,.bk 0 ⟨true,[3,2,1],[]⟩,.sq w422_c0] w422_B0 s
def w423_c0:WCode:=zd (r (O 4 [i (-1)]))
def w423_B0:WCode:=zd (s (s (O 6 [m 5,m 0,ln 1 7,lt 6 8]) (cc 9 (w .skip) (ee 0))) (s (B 1 (s (O 12 [m 0,m 5,ix 4 12 13,f 0 14,l 1 15,m 1,eq 16 17]) (c 18 (r (O 19 [m 5,d 4 (m 19)]))))) (O 10 [m 5,adi 10 1,d 5 (m 11)])))
def w423_L0:WCode:=.loop ⟨true,[5,1,0],[]⟩ w423_B0
def w423:WFn:=⟨2,[.tmp 4],zd (s (O 4 [i 0]) (s (s (O 5 [i 0]) (bk 0 w423_L0 ⟨true,[],[]⟩)) w423_c0))⟩
@[simp] theorem w423_E0:ZL w423_L0 w423_B0 ⟨true,[5,1,0],[]⟩:=ck_lp rfl
noncomputable abbrev w423_K0 (C:WProg) (s:WSt):Option AV:=CK C 0 (pureFin [.tmp 4]) [.sq w423_L0,.bk 0 ⟨true,[],[]⟩,.sq w423_c0] w423_B0 s
def w424_c0:WCode:=zd (s (s (O 41 [m 5,eqi 41 1]) (c 42 (r (O 4 [i 0])))) (r (O 4 [i 6])))
def w424_B0:WCode:=zd (s (s (O 26 [m 6,f 3 2,l 1 27,ln 1 28,lt 26 29]) (cc 30 (w .skip) (ee 0))) (s (B 1 (O 33 [m 5,f 3 2,l 1 34,m 6,ix 1 35 36,l 1 37,ca 511 [38],E (.bin .mul (T 33) (T 39)),d 5 (m 40)])) (O 31 [m 6,adi 31 1,d 6 (m 32)])))
def w424_L0:WCode:=.loop ⟨true,[6,5,2],[]⟩ w424_B0
def w424:WFn:=⟨2,[.tmp 4],zd (s (O 4 [d 2 (bx 0),i 0]) (s (O 7 [f 2 2,l 1 7,ca 510 [8],d 5 (m 9)]) (s (s (Q 10 [f 0 2,l 1 10,E (.bin .eql (T 11) (.c (.int .u64 0))),m 12,z 13 (m 1),z 13 (f 1 2),z 13 (l 1 15),z 13 (E (.cvt .i64 (T 16))),z 13 (le 14 17),po 13 18,m 19,z 20 (f 3 2),z 20 (l 1 21),z 20 (ln 1 22),z 20 (gti 23 8),po 20 24] [25,5,2]) (c 25 (O 5 [i 0]))) (s (s (O 6 [i 0]) (bk 0 w424_L0 ⟨true,[5],[]⟩)) w424_c0))))⟩
@[simp] theorem w424_E0:ZL w424_L0 w424_B0 ⟨true,[6,5,2],[]⟩:=ck_lp rfl
noncomputable abbrev w424_K0 (C:WProg) (s:WSt):Option AV:=CK C 0 (pureFin [.tmp 4]) [.sq w424_L0,.bk 0 ⟨true,[5],[]⟩,.sq w424_c0] w424_B0 s
def w408:WFn:=⟨1,[.tmp 2],zd (s (O 1 [bx 0,i 0]) (s (s (O 3 [h 6 1,ca 505 [3],eqi 4 0]) (c 5 (r (O 2 [i 14])))) (r (O 2 [i 0]))))⟩
def w512_c0:WCode:=zd (r (O 2 [i 0]))
def w512_B0:WCode:=zd (s (s (O 19 [m 3,f 3 1,l 1 20,ln 1 21,lt 19 22]) (cc 23 (w .skip) (ee 0))) (s (B 1 (s (O 26 [f 3 1,l 1 26,m 3,ix 1 27 28,l 1 29,ca 557 [30],nt 31]) (c 32 (r (O 2 [i 6]))))) (O 24 [m 3,adi 24 1,d 3 (m 25)])))
def w512_L0:WCode:=.loop ⟨true,[3,1],[]⟩ w512_B0
def w512:WFn:=⟨1,[.tmp 2],zd (s (O 1 [bx 0,i 0]) (s (s (Q 4 [f 0 1,l 1 4,E (.bin .eql (T 5) (.c (.int .u64 0))),m 6,z 7 (f 2 1),z 7 (l 1 8),z 7 (ca 556 [9]),z 7 (nt 10),po 7 11,m 12,z 13 (f 3 1),z 13 (l 1 14),z 13 (ln 1 15),z 13 (gti 16 8),po 13 17] [18,1]) (c 18 (r (O 2 [i 6])))) (s (s (O 3 [i 0]) (bk 0 w512_L0 ⟨true,[],[]⟩)) w512_c0)))⟩
@[simp] theorem w512_E0:ZL w512_L0 w512_B0 ⟨true,[3,1],[]⟩:=ck_lp rfl
noncomputable abbrev w512_K0 (C:WProg) (s:WSt):Option AV:=CK C 0 (pureFin [.tmp 2]) [.sq w512_L0,.bk 0 ⟨true,[],[]⟩,.sq w512_c0] w512_B0 s
def w513_c0:WCode:=zd (r (O 89 [h 6 7,E (.buildS [.int .u8 0,.str [],.str [],.ro 2 [] true,.str [],.ro 6 [] true] 1 [(0,T 89)]),d 4 (m 90)]))
def w513_B0:WCode:=zd (s (s (O 71 [m 8,f 5 2,l 1 72,ln 1 73,lt 71 74]) (cc 75 (w .skip) (ee 3))) (s (B 4 (V 78 [f 5 7,l 1 78,f 5 2,l 1 80,m 8,ix 6 81 82,h 6 83,h 4 3,ca 513 [84,85],E (.app [.int .u8 0,.str [],.str [],.ro 2 [] true,.str [],.ro 6 [] true] 104 false (T 79) (T 86)),f 5 7,n (st 1 88 87)] [(1,8)] ⟨false,[],[]⟩)) (O 76 [m 8,adi 76 1,d 8 (m 77)])))
def w513_L0:WCode:=.loop ⟨true,[8,7,3,2],[]⟩ w513_B0
def w513_c1:WCode:=zd (s (V 62 [f 1 2,l 1 62,f 2 2,l 1 64,f 3 2,l 1 66,h 4 3,ca 559 [67,68],E (.build [.int .u8 0,.str [],.str [],.ro 2 [] true,.str [],.ro 6 [] true] [(0,1,.c (.int .u8 1)),(1,1,T 63),(2,1,T 65),(3,1,T 69)]),d 7 (E (.alloc [.int .u8 0,.str [],.str [],.ro 2 [] true,.str [],.ro 6 [] true])),n (st 6 7 70)] [(1,7),(3,7),(1,9),(3,9),(5,9),(6,9),(7,9)] ⟨false,[],[]⟩) (s (s (Q 8 [i 0] [8,7,3,2]) (bk 3 w513_L0 ⟨true,[7],[]⟩)) w513_c0))
def w513_c2:WCode:=zd (r (O 61 [m 5,d 4 (m 61)]))
def w513_B1:WCode:=zd (s (s (O 32 [m 6,f 3 3,l 1 33,ln 1 34,lt 32 35]) (cc 36 (w .skip) (ee 1))) (s (B 2 (U 39 [m 5,f 1 2,l 1 40,f 3 3,l 1 42,m 6,ix 1 43 44,l 1 45,f 3 2,l 1 47,h 4 3,ca 559 [48,49],f 3 3,l 1 51,m 6,ix 1 52 53,l 1 54,E (.build [.int .u8 0,.str [],.str [],.ro 2 [] true,.str [],.ro 6 [] true] [(0,1,.c (.int .u8 2)),(4,1,T 55)]),E (.buildS [.int .u8 0,.str [],.str [],.ro 2 [] true,.str [],.ro 6 [] true] 1 [(0,T 56)]),E (.build [.int .u8 0,.str [],.str [],.ro 2 [] true,.str [],.ro 6 [] true] [(0,1,.c (.int .u8 1)),(1,1,T 41),(2,1,T 46),(3,1,T 50),(5,1,T 57)]),E (.buildS [.int .u8 0,.str [],.str [],.ro 2 [] true,.str [],.ro 6 [] true] 1 [(0,T 58)]),E (.app [.int .u8 0,.str [],.str [],.ro 2 [] true,.str [],.ro 6 [] true] 104 false (T 39) (T 59)),d 5 (m 60)] [(2,11),(4,11),(7,11),(11,13),(11,16),(2,18),(4,18),(7,18),(9,18),(10,18),(11,18)] [6,5,3,2])) (O 37 [m 6,adi 37 1,d 6 (m 38)])))
def w513_L1:WCode:=.loop ⟨true,[6,5,3,2],[]⟩ w513_B1
def w513:WFn:=⟨2,[.tmp 4],zd (s (O 2 [bx 0,bx 1,E (.mv (.c (.ro 6 [] true)))]) (s (s (O 9 [f 0 2,l 1 9]) (bk 0 (s (O 12 [E (.bin .eql (T 10) (.c (.int .u8 2))),d 11 (m 12)]) (cc 11 (r (O 13 [f 4 2,l 1 13,E (.build [.int .u8 0,.str [],.str [],.ro 2 [] true,.str [],.ro 6 [] true] [(0,1,.c (.int .u8 2)),(4,1,T 14)]),E (.buildS [.int .u8 0,.str [],.str [],.ro 2 [] true,.str [],.ro 6 [] true] 1 [(0,T 15)]),d 4 (m 16)])) (s (O 18 [E (.bin .eql (T 10) (.c (.int .u8 3))),d 17 (m 18)]) (cc 17 (r (O 19 [f 2 3,l 1 19,E (.build [.int .u8 0,.str [],.str [],.ro 2 [] true,.str [],.ro 6 [] true] [(0,1,.c (.int .u8 2)),(4,1,T 20)]),E (.buildS [.int .u8 0,.str [],.str [],.ro 2 [] true,.str [],.ro 6 [] true] 1 [(0,T 21)]),d 4 (m 22)])) (s (O 24 [E (.bin .eql (T 10) (.c (.int .u8 4))),d 23 (m 24)]) (cc 23 (r (Q 25 [f 0 3,l 1 25,ca 558 [26],E (.build [.int .u8 0,.str [],.str [],.ro 2 [] true,.str [],.ro 6 [] true] [(0,1,.c (.int .u8 2)),(4,1,T 27)]),E (.buildS [.int .u8 0,.str [],.str [],.ro 2 [] true,.str [],.ro 6 [] true] 1 [(0,T 28)]),d 4 (m 29)] [4])) (s (O 31 [E (.bin .eql (T 10) (.c (.int .u8 5))),d 30 (m 31)]) (c 30 (s (R 5 [E (.mv (.c (.ro 6 [] true)))] ⟨true,[5,3,2],[(5,6)]⟩) (s (s (O 6 [i 0]) (bk 1 w513_L1 ⟨true,[5],[]⟩)) w513_c2)))))))))) ⟨true,[3,2],[]⟩)) w513_c1))⟩
@[simp] theorem w513_E0:ZL w513_L0 w513_B0 ⟨true,[8,7,3,2],[]⟩:=ck_lp rfl
noncomputable abbrev w513_K0 (C:WProg) (s:WSt):Option AV:=CK C 0 (pureFin [.tmp 4]) [.sq w513_L0,.bk 3 ⟨true,[7],[]⟩,.sq w513_c0] w513_B0 s
@[simp] theorem w513_E1:ZL w513_L1 w513_B1 ⟨true,[6,5,3,2],[]⟩:=ck_lp rfl
noncomputable abbrev w513_K1 (C:WProg) (s:WSt):Option AV:=CK C 0 (pureFin [.tmp 4]) [.sq w513_L1,.bk 1 ⟨true,[5],[]⟩,.sq w513_c2,.bk 0 ⟨true,[3,2],[]⟩,.sq w513_c1] w513_B1 s
def w230:WFn:=⟨1,[.tmp 2],zd (s (O 1 [bx 0,ff]) (r (O 3 [f 6 1,l 1 3,ca 225 [4],nt 5,m 6,z 7 (f 0 1),z 7 (h 6 8),z 7 (ca 231 [9]),z 7 (nei 10 0),po 7 11,d 2 (m 12)])))⟩
def w231:WFn:=⟨1,[.tmp 2],zd (s (O 1 [bx 0,i 0]) (s (s (O 3 [h 6 1,ca 404 [3],eqi 4 0]) (c 5 (r (O 2 [i 14])))) (r (O 2 [i 0]))))⟩
def w494:WFn:=⟨1,[.tmp 1],zd (s (O 1 [ff]) (r (O 2 [f 2 0,l 1 2,ln 0 3,lei 4 64,m 5,y 6 (f 2 0),y 6 (l 1 7),y 6 (E (.call 495 [T 8,.c (.fn 496 [])])),y 6 (nt 9),pa 6 10,d 1 (m 11)])))⟩
def w495:WFn:=⟨2,[.tmp 4],zd (s (O 4 [ff]) (r (O 5 [m 0,m 1,ca 543 [5,6],gei 7 0,d 4 (m 8)])))⟩
def w496:WFn:=⟨1,[.tmp 2],zd (s (O 2 [ff]) (r (O 3 [m 0,E (.bin .lss (T 3) (.c (.int .i32 32))),m 4,z 5 (m 0),z 5 (E (.bin .gtr (T 6) (.c (.int .i32 126)))),po 5 7,d 2 (m 8)])))⟩
def w497:WFn:=⟨1,[.tmp 1],zd (s (O 1 [ff]) (r (O 2 [f 3 0,l 1 2,ln 1 3,lei 4 8,m 5,y 6 (f 3 0),y 6 (l 1 7),y 6 (E (.call 498 [T 8,.c (.fn 499 [])])),y 6 (nt 9),pa 6 10,d 1 (m 11)])))⟩
def w498:WFn:=⟨2,[.tmp 4],zd (s (O 4 [ff]) (r (O 5 [m 0,m 1,ca 544 [5,6],gei 7 0,d 4 (m 8)])))⟩
def w499:WFn:=⟨1,[.tmp 2],zd (s (O 2 [ff]) (r (O 3 [m 0,ca 500 [3],nt 4,d 2 (m 5)])))⟩
def w500:WFn:=⟨1,[.tmp 2],zd (s (O 2 [ff]) (s (O 3 [E (.mv (.c (.fn 545 [])))]) (r (O 4 [m 0,E (.bin .neq (T 4) (.c (.str []))),m 5,y 6 (m 0),y 6 (ln 0 7),y 6 (lei 8 16),pa 6 9,m 10,y 11 (m 0),y 11 (m 3),y 11 (ca 495 [12,13]),y 11 (nt 14),pa 11 15,d 2 (m 16)]))))⟩
def w501:WFn:=⟨3,[.cell 6 6 true,.tmp 7],zd (s (O 6 [d 3 (bx 0),d 4 (bx 1),E (.alloc [.int .u8 0,.str [],.str [],.ro 2 [] true,.str [],.ro 6 [] true]),i 0]) (s (s (Q 12 [m 2,lti 12 1,m 13,z 14 (m 2),z 14 (gti 15 64),po 14 16] [17,6,4,3,2]) (c 17 (r (O 18 [E (.build [.int .u8 0,.str [],.str [],.ro 2 [] true,.str [],.ro 6 [] true] []),n (st 6 6 18),d 7 (i 1)])))) (s (s (O 19 [h 6 3,ca 231 [19],d 8 (m 20)]) (s (O 21 [m 8,nei 21 0]) (c 22 (r (O 23 [E (.build [.int .u8 0,.str [],.str [],.ro 2 [] true,.str [],.ro 6 [] true] []),m 8,n (st 6 6 23),d 7 (m 24)]))))) (s (s (O 25 [h 4 4,ca 546 [25],d 9 (m 26)]) (s (O 27 [m 9,nei 27 0]) (c 28 (r (O 29 [E (.build [.int .u8 0,.str [],.str [],.ro 2 [] true,.str [],.ro 6 [] true] []),m 9,n (st 6 6 29),d 7 (m 30)]))))) (s (Q 31 [h 4 4,E (.build [.int .u64 0,.int .u8 0,.str [],.ro 1 [] true] [(0,4,T 31)]),h 6 3,E (.buildS [.int .u8 0,.str [],.str [],.ro 3 [] true,.str [],.ro 6 [] true] 1 [(0,T 33)]),ca 547 [32,34],E (.idxs 6 (T 35) (N 0)),h 6 36,d 10 (E (.alloc [.int .u8 0,.str [],.str [],.ro 2 [] true,.str [],.ro 6 [] true])),n (st 6 10 37)] [10,6,2]) (s (s (O 38 [h 6 10,ca 140 [38],d 11 (m 39)]) (s (O 40 [m 11,eqi 40 0,m 41,z 42 (m 11),z 42 (m 2),z 42 (gt 43 44),po 42 45]) (c 46 (r (O 47 [E (.build [.int .u8 0,.str [],.str [],.ro 2 [] true,.str [],.ro 6 [] true] []),n (st 6 6 47),d 7 (i 14)]))))) (r (O 48 [h 6 10,n (st 6 6 48),d 7 (i 0)]))))))))⟩
def w405_c0:WCode:=zd (r (O 4 [i (-1)]))
def w405_B0:WCode:=zd (s (O 9 [lt 8 7]) (s (cc 9 (w .skip) (ee 0)) (s (B 1 (s (O 10 [m 8,d 5 (m 10)]) (s (O 11 [m 1,m 0,m 5,ix 9 12 13,h 9 14,E (.callv (T 11) [T 15])]) (c 16 (r (O 17 [m 5,d 4 (m 17)])))))) (O 18 [adi 8 1,d 8 (m 18)]))))
def w405_L0:WCode:=.loop ⟨true,[8,7,1,0],[]⟩ w405_B0
def w405:WFn:=⟨2,[.tmp 4],zd (s (O 4 [i 0]) (s (s (O 6 [m 0,ln 1 6,i 0]) (bk 0 w405_L0 ⟨true,[],[]⟩)) w405_c0))⟩
@[simp] theorem w405_E0:ZL w405_L0 w405_B0 ⟨true,[8,7,1,0],[]⟩:=ck_lp rfl
noncomputable abbrev w405_K0 (C:WProg) (s:WSt):Option AV:=CK C 0 (pureFin [.tmp 4]) [.sq w405_L0,.bk 0 ⟨true,[],[]⟩,.sq w405_c0] w405_B0 s
def w507_c0:WCode:=zd (s (O 35 [m 5,f 5 2,n (st 1 36 35)]) (r (O 37 [h 6 2,n (st 6 4 37)])))
def w507_B0:WCode:=zd (s (O 24 [lt 23 22]) (s (cc 24 (w .skip) (ee 0)) (s (B 1 (s (O 25 [m 23,ix 6 21 23,h 6 26,d 7 (E (.alloc [.int .u8 0,.str [],.str [],.ro 2 [] true,.str [],.ro 6 [] true])),d 6 (m 25),n (st 6 7 27)]) (O 28 [m 5,m 6,h 6 7,m 1,ca 507 [30,31],ix 6 28 29,n (st 6 33 32)]))) (O 34 [adi 23 1,d 23 (m 34)]))))
def w507_L0:WCode:=.loop ⟨true,[23,22,21,5,4,2,1],[]⟩ w507_B0
def w507:WFn:=⟨2,[.cell 4 6 true],zd (s (O 4 [d 2 (bx 0),E (.alloc [.int .u8 0,.str [],.str [],.ro 2 [] true,.str [],.ro 6 [] true])]) (s (s (O 8 [m 1,nt 8]) (c 9 (O 10 [f 2 2,n (E (.store 1 (T 10) (.c (.str []))))]))) (s (O 11 [f 3 2,l 1 11,ca 554 [12],ca 553 [13],f 3 2,n (st 1 15 14)]) (s (O 16 [f 5 2,l 1 16,ln 1 17,E (.mksl [.int .u8 0,.str [],.str [],.ro 2 [] true,.str [],.ro 6 [] true] 104 (T 18) (T 18)),d 5 (m 19)]) (s (s (Q 20 [f 5 2,l 1 20,ln 1 21,i 0] [23,22,21,5,4,2,1]) (bk 0 w507_L0 ⟨true,[5,4,2],[]⟩)) w507_c0)))))⟩
@[simp] theorem w507_E0:ZL w507_L0 w507_B0 ⟨true,[23,22,21,5,4,2,1],[]⟩:=ck_lp rfl
noncomputable abbrev w507_K0 (C:WProg) (s:WSt):Option AV:=CK C 0 (pureFin [.cell 4 6 true]) [.sq w507_L0,.bk 0 ⟨true,[5,4,2],[]⟩,.sq w507_c0] w507_B0 s
def w563_c0:WCode:=zd (r (O 2 [tt]))
def w563_c1:WCode:=zd (O 120 [m 5,adi 120 1,d 5 (m 121)])
def w563_B1:WCode:=zd (s (s (O 122 [m 6,m 5,lt 122 123]) (cc 124 (w .skip) (ee 6))) (s (B 7 (s (U 127 [f 5 1,l 1 127,m 5,ix 6 128 129,f 2 130,l 1 131,E (.bin .neq (T 132) (.c (.str []))),m 133,y 134 (f 5 1),y 134 (l 1 135),y 134 (m 5),y 134 (ix 6 136 137),y 134 (f 2 138),y 134 (l 1 139),y 134 (f 5 1),y 134 (l 1 141),y 134 (m 6),y 134 (ix 6 142 143),y 134 (f 2 144),y 134 (l 1 145),y 134 (eq 140 146),pa 134 147] [] [148,6,5,1]) (c 148 (r (O 2 [ff]))))) (O 125 [m 6,adi 125 1,d 6 (m 126)])))
def w563_L1:WCode:=.loop ⟨true,[6,5,1],[]⟩ w563_B1
def w563_B0:WCode:=zd (s (s (O 115 [m 5,f 5 1,l 1 116,ln 1 117,lt 115 118]) (cc 119 (w .skip) (ee 4))) (s (bk 5 (s (O 6 [i 0]) (bk 6 w563_L1 ⟨true,[5,1],[]⟩)) ⟨true,[5,1],[]⟩) w563_c1))
def w563_L0:WCode:=.loop ⟨true,[5,1],[]⟩ w563_B0
def w563_c2:WCode:=zd (s (s (O 5 [i 0]) (bk 4 w563_L0 ⟨true,[],[]⟩)) w563_c0)
def w563_c3:WCode:=zd (O 77 [m 3,adi 77 1,d 3 (m 78)])
def w563_B3:WCode:=zd (s (s (O 97 [m 4,m 3,lt 97 98]) (cc 99 (w .skip) (ee 2))) (s (B 3 (s (U 102 [f 3 1,l 1 102,m 4,ix 2 103 104,f 0 105,l 1 106,f 3 1,l 1 108,m 3,ix 2 109 110,f 0 111,l 1 112,ge 107 113] [] [114,4,3,1]) (c 114 (r (O 2 [ff]))))) (O 100 [m 4,adi 100 1,d 4 (m 101)])))
def w563_L3:WCode:=.loop ⟨true,[4,3,1],[]⟩ w563_B3
def w563_B2:WCode:=zd (s (s (Q 72 [m 3,f 3 1,l 1 73,ln 1 74,lt 72 75] [76,3,1]) (cc 76 (w .skip) (ee 0))) (s (bk 1 (s (s (O 79 [f 3 1,l 1 79,m 3,ix 2 80 81,f 0 82,l 1 83,ca 557 [84],nt 85,m 86,z 87 (f 3 1),z 87 (l 1 88),z 87 (m 3),z 87 (ix 2 89 90),z 87 (f 1 91),z 87 (l 1 92),z 87 (ca 556 [93]),z 87 (nt 94),po 87 95]) (c 96 (r (O 2 [ff])))) (s (O 4 [i 0]) (bk 2 w563_L3 ⟨true,[3,1],[]⟩))) ⟨true,[3,1],[]⟩) w563_c3))
def w563_L2:WCode:=.loop ⟨true,[3,1],[]⟩ w563_B2
def w563:WFn:=⟨1,[.tmp 2],zd (s (O 1 [bx 0,ff]) (s (s (O 7 [f 0 1,l 1 7,E (.bin .eql (T 8) (.c (.int .u8 2)))]) (c 9 (r (Q 10 [f 4 1,l 1 10,ca 556 [11],m 12,y 13 (f 1 1),y 13 (l 1 14),y 13 (E (.bin .eql (T 15) (.c (.str [])))),pa 13 16,m 17,y 18 (f 2 1),y 18 (l 1 19),y 18 (E (.bin .eql (T 20) (.c (.str [])))),pa 18 21,m 22,y 23 (f 3 1),y 23 (l 1 24),y 23 (ln 1 25),y 23 (eqi 26 0),pa 23 27,m 28,y 29 (f 5 1),y 29 (l 1 30),y 29 (ln 1 31),y 29 (eqi 32 0),pa 29 33,d 2 (m 34)] [2])))) (s (s (Q 35 [f 0 1,l 1 35,E (.bin .neq (T 36) (.c (.int .u8 1))),m 37,z 38 (f 1 1),z 38 (l 1 39),z 38 (ca 557 [40]),z 38 (nt 41),po 38 42,m 43,z 44 (f 2 1),z 44 (l 1 45),z 44 (E (.bin .neq (T 46) (.c (.str [])))),z 44 (m 47),y 48 (f 2 1),y 48 (l 1 49),y 48 (ca 557 [50]),y 48 (nt 51),z 44 (pa 48 52),po 44 53,m 54,z 55 (f 4 1),z 55 (l 1 56),z 55 (E (.bin .neq (T 57) (.c (.str [])))),po 55 58,m 59,z 60 (f 3 1),z 60 (l 1 61),z 60 (ln 1 62),z 60 (gti 63 8),po 60 64,m 65,z 66 (f 5 1),z 66 (l 1 67),z 66 (ln 1 68),z 66 (gti 69 16),po 66 70] [71,1]) (c 71 (r (O 2 [ff])))) (s (s (O 3 [i 0]) (bk 0 w563_L2 ⟨true,[1],[]⟩)) w563_c2))))⟩
@[simp] theorem w563_E1:ZL w563_L1 w563_B1 ⟨true,[6,5,1],[]⟩:=ck_lp rfl
noncomputable abbrev w563_K1 (C:WProg) (s:WSt):Option AV:=CK C 0 (pureFin [.tmp 2]) [.sq w563_L1,.bk 6 ⟨true,[5,1],[]⟩,.bk 5 ⟨true,[5,1],[]⟩,.sq w563_c1,.sq w563_L0,.bk 4 ⟨true,[],[]⟩,.sq w563_c0] w563_B1 s
@[simp] theorem w563_E0:ZL w563_L0 w563_B0 ⟨true,[5,1],[]⟩:=ck_lp rfl
noncomputable abbrev w563_K0 (C:WProg) (s:WSt):Option AV:=CK C 0 (pureFin [.tmp 2]) [.sq w563_L0,.bk 4 ⟨true,[],[]⟩,.sq w563_c0] w563_B0 s
@[simp] theorem w563_E3:ZL w563_L3 w563_B3 ⟨true,[4,3,1],[]⟩:=ck_lp rfl
noncomputable abbrev w563_K3 (C:WProg) (s:WSt):Option AV:=CK C 0 (pureFin [.tmp 2]) [.sq w563_L3,.bk 2 ⟨true,[3,1],[]⟩,.bk 1 ⟨true,[3,1],[]⟩,.sq w563_c3,.sq w563_L2,.bk 0 ⟨true,[1],[]⟩,.sq w563_c2] w563_B3 s
@[simp] theorem w563_E2:ZL w563_L2 w563_B2 ⟨true,[3,1],[]⟩:=ck_lp rfl
noncomputable abbrev w563_K2 (C:WProg) (s:WSt):Option AV:=CK C 0 (pureFin [.tmp 2]) [.sq w563_L2,.bk 0 ⟨true,[1],[]⟩,.sq w563_c2] w563_B2 s
def w516:WFn:=⟨1,[.tmp 2],zd (s (O 2 [ff]) (r (O 3 [m 0,ln 0 3,lei 4 64,m 5,y 6 (m 0),y 6 (E (.call 543 [T 7,.c (.fn 560 [])])),y 6 (lti 8 0),pa 6 9,d 2 (m 10)])))⟩
def w517_c0:WCode:=zd (r (O 2 [tt]))
def w517_B0:WCode:=zd (s (O 15 [lt 14 13]) (s (cc 15 (w .skip) (ee 0)) (s (B 1 (s (O 16 [m 14,d 3 (m 16)]) (s (O 17 [m 0,m 3,E (.idxstr (T 17) (T 18)),ca 561 [19],nt 20]) (c 21 (r (O 2 [ff])))))) (O 22 [adi 14 1,d 14 (m 22)]))))
def w517_L0:WCode:=.loop ⟨true,[14,13,0],[]⟩ w517_B0
def w517:WFn:=⟨1,[.tmp 2],zd (s (O 2 [ff]) (s (s (Q 4 [m 0,ln 0 4,lti 5 1,m 6,z 7 (m 0),z 7 (ln 0 8),z 7 (gti 9 16),po 7 10] [11,0]) (c 11 (r (O 2 [ff])))) (s (s (O 12 [m 0,ln 0 12,i 0]) (bk 0 w517_L0 ⟨true,[],[]⟩)) w517_c0)))⟩
@[simp] theorem w517_E0:ZL w517_L0 w517_B0 ⟨true,[14,13,0],[]⟩:=ck_lp rfl
noncomputable abbrev w517_K0 (C:WProg) (s:WSt):Option AV:=CK C 0 (pureFin [.tmp 2]) [.sq w517_L0,.bk 0 ⟨true,[],[]⟩,.sq w517_c0] w517_B0 s
def w518:WFn:=⟨2,[.tmp 4],zd (s (O 4 [ff]) (r (O 5 [m 0,m 1,ca 562 [5,6],gei 7 0,d 4 (m 8)])))⟩
def w519:WFn:=⟨2,[.tmp 3],zd (s (O 2 [bx 0,ff]) (r (O 4 [f 2 2,l 1 4,f 2 1,l 1 6,eq 5 7,d 3 (m 8)])))⟩
def w510_c0:WCode:=zd (r (O 2 [i 1]))
def w510_B0:WCode:=zd (s (s (O 7 [m 3,m 0,ln 0 8,lt 7 9]) (cc 10 (w .skip) (ee 0))) (s (B 1 (s (O 13 [m 0,m 3,E (.idxstr (T 13) (T 14)),E (.bin .lss (T 15) (.c (.int .u8 32))),m 16,z 17 (m 0),z 17 (m 3),z 17 (E (.idxstr (T 18) (T 19))),z 17 (E (.bin .gtr (T 20) (.c (.int .u8 126)))),po 17 21]) (c 22 (r (O 2 [i 0]))))) (O 11 [m 3,adi 11 1,d 3 (m 12)])))
def w510_L0:WCode:=.loop ⟨true,[3,0],[]⟩ w510_B0
def w510:WFn:=⟨1,[.tmp 2],zd (s (O 2 [i 0]) (s (s (Q 4 [m 0,ln 0 4,gti 5 64] [6,0]) (c 6 (r (O 2 [i 0])))) (s (s (O 3 [i 0]) (bk 0 w510_L0 ⟨true,[],[]⟩)) w510_c0)))⟩
@[simp] theorem w510_E0:ZL w510_L0 w510_B0 ⟨true,[3,0],[]⟩:=ck_lp rfl
noncomputable abbrev w510_K0 (C:WProg) (s:WSt):Option AV:=CK C 0 (pureFin [.tmp 2]) [.sq w510_L0,.bk 0 ⟨true,[],[]⟩,.sq w510_c0] w510_B0 s
def w511_c0:WCode:=zd (r (O 2 [i 1]))
def w511_B0:WCode:=zd (s (s (O 13 [m 3,m 0,ln 0 14,lt 13 15]) (cc 16 (w .skip) (ee 0))) (s (B 1 (s (Q 19 [m 0,m 3,E (.idxstr (T 19) (T 20)),d 4 (m 21)] [4,3,0]) (s (O 22 [m 4,E (.bin .geq (T 22) (.c (.int .u8 97))),m 23,y 24 (m 4),y 24 (E (.bin .leq (T 25) (.c (.int .u8 122)))),pa 24 26,m 27,z 28 (m 4),z 28 (E (.bin .geq (T 29) (.c (.int .u8 48)))),z 28 (m 30),y 31 (m 4),y 31 (E (.bin .leq (T 32) (.c (.int .u8 57)))),z 28 (pa 31 33),po 28 34,nt 35]) (c 36 (r (O 2 [i 0])))))) (O 17 [m 3,adi 17 1,d 3 (m 18)])))
def w511_L0:WCode:=.loop ⟨true,[3,0],[]⟩ w511_B0
def w511:WFn:=⟨1,[.tmp 2],zd (s (O 2 [i 0]) (s (s (O 5 [m 0,ln 0 5,lti 6 1,m 7,z 8 (m 0),z 8 (ln 0 9),z 8 (gti 10 16),po 8 11]) (c 12 (r (O 2 [i 0])))) (s (s (O 3 [i 0]) (bk 0 w511_L0 ⟨true,[],[]⟩)) w511_c0)))⟩
@[simp] theorem w511_E0:ZL w511_L0 w511_B0 ⟨true,[3,0],[]⟩:=ck_lp rfl
noncomputable abbrev w511_K0 (C:WProg) (s:WSt):Option AV:=CK C 0 (pureFin [.tmp 2]) [.sq w511_L0,.bk 0 ⟨true,[],[]⟩,.sq w511_c0] w511_B0 s
def w400_c0:WCode:=zd (r (O 31 [m 5,d 4 (m 31)]))
def w400_B0:WCode:=zd (s (Q 14 [lt 13 12] [14,13,12,11,5,2]) (s (cc 14 (w .skip) (ee 0)) (s (B 1 (s (O 15 [m 13,ix 4 11 13,h 4 16,d 7 (E (.alloc [.int .u64 0,.int .u8 0,.str [],.ro 1 [] true])),d 6 (m 15),n (st 4 7 17)]) (V 18 [m 5,m 6,h 4 7,f 0 2,l 1 21,f 1 7,l 1 23,ix 9 22 24,f 6 25,l 1 26,E (.build [.int .u64 0,.int .u8 0,.str [],.ro 1 [] true,.int .i64 0,.bool false] [(0,4,T 20),(4,1,T 27)]),ix 6 18 19,n (st 6 29 28)] [] ⟨false,[],[]⟩))) (O 30 [adi 13 1,d 13 (m 30)]))))
def w400_L0:WCode:=.loop ⟨true,[13,12,11,5,2],[]⟩ w400_B0
def w400:WFn:=⟨2,[.tmp 4],zd (s (O 4 [d 2 (bx 0),E (.mv (.c (.ro 6 [] true)))]) (s (O 8 [m 1,ln 1 8,E (.mksl [.int .u64 0,.int .u8 0,.str [],.ro 1 [] true,.int .i64 0,.bool false] 72 (T 9) (T 9)),d 5 (m 10)]) (s (s (O 11 [m 1,ln 1 11,i 0]) (bk 0 w400_L0 ⟨true,[5],[]⟩)) w400_c0)))⟩
@[simp] theorem w400_E0:ZL w400_L0 w400_B0 ⟨true,[13,12,11,5,2],[]⟩:=ck_lp rfl
def w505:WFn:=⟨1,[.tmp 2],zd (s (O 1 [bx 0,i 0]) (s (O 4 [h 6 1,E (.call 550 [T 4,N 6]),d 3 (m 5)]) (s (s (O 6 [f 0 1,l 1 6,E (.bin .neq (T 7) (.c (.int .u8 1))),m 8,z 9 (m 3),z 9 (gti 10 64),po 9 11]) (c 12 (r (O 2 [i 0])))) (r (O 13 [m 3,d 2 (m 13)])))))⟩
def w556_c0:WCode:=zd (r (O 2 [tt]))
def w556_B0:WCode:=zd (s (s (O 7 [m 3,m 0,ln 0 8,lt 7 9]) (cc 10 (w .skip) (ee 0))) (s (B 1 (s (O 13 [m 0,m 3,E (.idxstr (T 13) (T 14)),E (.bin .lss (T 15) (.c (.int .u8 32))),m 16,z 17 (m 0),z 17 (m 3),z 17 (E (.idxstr (T 18) (T 19))),z 17 (E (.bin .gtr (T 20) (.c (.int .u8 126)))),po 17 21]) (c 22 (r (O 2 [ff]))))) (O 11 [m 3,adi 11 1,d 3 (m 12)])))
def w556_L0:WCode:=.loop ⟨true,[3,0],[]⟩ w556_B0
def w556:WFn:=⟨1,[.tmp 2],zd (s (O 2 [ff]) (s (s (Q 4 [m 0,ln 0 4,gti 5 64] [6,0]) (c 6 (r (O 2 [ff])))) (s (s (O 3 [i 0]) (bk 0 w556_L0 ⟨true,[],[]⟩)) w556_c0)))⟩
@[simp] theorem w556_E0:ZL w556_L0 w556_B0 ⟨true,[3,0],[]⟩:=ck_lp rfl
noncomputable abbrev w556_K0 (C:WProg) (s:WSt):Option AV:=CK C 0 (pureFin [.tmp 2]) [.sq w556_L0,.bk 0 ⟨true,[],[]⟩,.sq w556_c0] w556_B0 s
def w557_c0:WCode:=zd (r (O 36 [m 0,ln 0 36,gei 37 1,m 38,y 39 (m 0),y 39 (ln 0 40),y 39 (lei 41 16),pa 39 42,d 2 (m 43)]))
def w557_B0:WCode:=zd (s (s (O 4 [m 3,m 0,ln 0 5,lt 4 6,m 7,y 8 (m 3),y 8 (lti 9 17),pa 8 10]) (cc 11 (w .skip) (ee 0))) (s (B 1 (s (Q 14 [m 0,m 3,E (.idxstr (T 14) (T 15)),E (.bin .lss (T 16) (.c (.int .u8 97))),m 17,z 18 (m 0),z 18 (m 3),z 18 (E (.idxstr (T 19) (T 20))),z 18 (E (.bin .gtr (T 21) (.c (.int .u8 122)))),po 18 22,m 23,y 24 (m 0),y 24 (m 3),y 24 (E (.idxstr (T 25) (T 26))),y 24 (E (.bin .lss (T 27) (.c (.int .u8 48)))),y 24 (m 28),z 29 (m 0),z 29 (m 3),z 29 (E (.idxstr (T 30) (T 31))),z 29 (E (.bin .gtr (T 32) (.c (.int .u8 57)))),y 24 (po 29 33),pa 24 34] [35,3,0]) (c 35 (r (O 2 [ff]))))) (O 12 [m 3,adi 12 1,d 3 (m 13)])))
def w557_L0:WCode:=.loop ⟨true,[3,0],[]⟩ w557_B0
def w557:WFn:=⟨1,[.tmp 2],zd (s (O 2 [ff]) (s (s (O 3 [i 0]) (bk 0 w557_L0 ⟨true,[0],[]⟩)) w557_c0))⟩
@[simp] theorem w557_E0:ZL w557_L0 w557_B0 ⟨true,[3,0],[]⟩:=ck_lp rfl
noncomputable abbrev w557_K0 (C:WProg) (s:WSt):Option AV:=CK C 0 (pureFin [.tmp 2]) [.sq w557_L0,.bk 0 ⟨true,[0],[]⟩,.sq w557_c0] w557_B0 s
def w558:WFn:=⟨1,[.tmp 2],zd (s (O 2 [E (.mv (.c (.str [])))]) (s (s (O 3 [m 0,E (.bin .lss (T 3) (.c (.int .u64 10)))]) (c 4 (r (O 5 [m 0,m 0,E (.bin .add (T 6) (.c (.int .u64 1))),E (.slice 0 (.c (.str [48,49,50,51,52,53,54,55,56,57])) (some (T 5)) (some (T 7)) none),d 2 (m 8)])))) (r (O 9 [m 0,E (.bin .quo (T 9) (.c (.int .u64 10))),ca 558 [10],m 0,E (.bin .rem (T 12) (.c (.int .u64 10))),ca 558 [13],ad 11 14,d 2 (m 15)]))))⟩
def w559_c0:WCode:=zd (r (O 50 [m 5,d 4 (m 50)]))
def w559_B0:WCode:=zd (s (s (O 8 [m 6,m 0,ln 1 9,lt 8 10]) (cc 11 (w .skip) (ee 0))) (s (B 1 (s (O 14 [m 0,m 6,ix 3 14 15,f 2 16,l 1 17,d 7 (m 18)]) (s (s (O 19 [m 0,m 6,ix 3 19 20,f 1 21,l 1 22]) (B 2 (s (O 25 [E (.bin .eql (T 23) (.c (.int .u8 1))),d 24 (m 25)]) (cc 24 (O 26 [f 2 3,l 1 26,d 7 (m 27)]) (s (O 29 [E (.bin .eql (T 23) (.c (.int .u8 2))),d 28 (m 29)]) (cc 28 (O 30 [f 0 3,l 1 30,ca 558 [31],d 7 (m 32)]) (s (O 34 [E (.bin .eql (T 23) (.c (.int .u8 3))),d 33 (m 34)]) (c 33 (Q 35 [f 3 3,l 1 35,ln 1 36,E (.cvt .u64 (T 37)),ca 558 [38],d 7 (m 39)] [7,6,5,3,0]))))))))) (O 40 [m 5,m 0,m 6,ix 3 41 42,f 0 43,l 1 44,m 7,E (.build [.str [],.str []] [(0,1,T 45),(1,1,T 46)]),E (.buildS [.str [],.str []] 1 [(0,T 47)]),E (.app [.str [],.str []] 32 false (T 40) (T 48)),d 5 (m 49)])))) (O 12 [m 6,adi 12 1,d 6 (m 13)])))
def w559_L0:WCode:=.loop ⟨true,[6,5,3,0],[]⟩ w559_B0
def w559:WFn:=⟨2,[.tmp 4],zd (s (Q 3 [bx 1,E (.mv (.c (.ro 2 [] true)))] [3,0]) (s (R 5 [E (.mv (.c (.ro 2 [] true)))] ⟨true,[5,3,0],[(5,2)]⟩) (s (s (O 6 [i 0]) (bk 0 w559_L0 ⟨true,[5],[]⟩)) w559_c0)))⟩
@[simp] theorem w559_E0:ZL w559_L0 w559_B0 ⟨true,[6,5,3,0],[]⟩:=ck_lp rfl
noncomputable abbrev w559_K0 (C:WProg) (s:WSt):Option AV:=CK C 0 (pureFin [.tmp 4]) [.sq w559_L0,.bk 0 ⟨true,[5],[]⟩,.sq w559_c0] w559_B0 s
def w404:WFn:=⟨1,[.tmp 2],zd (s (O 1 [bx 0,i 0]) (r (O 3 [E (.call 502 [T 1,.c (.fn 503 [])]),d 2 (m 3)])))⟩
def w543:WFn:=⟨2,[.tmp 4],zd (s (O 4 [i 0]) (r (O 5 [m 0,m 1,E (.call 578 [T 5,T 6,.c (.bool true)]),d 4 (m 7)])))⟩
def w544_c0:WCode:=zd (r (O 4 [i (-1)]))
def w544_B0:WCode:=zd (s (O 9 [lt 8 7]) (s (cc 9 (w .skip) (ee 0)) (s (B 1 (s (O 10 [m 8,d 5 (m 10)]) (s (O 11 [m 1,m 0,m 5,ix 1 12 13,l 1 14,E (.callv (T 11) [T 15])]) (c 16 (r (O 17 [m 5,d 4 (m 17)])))))) (O 18 [adi 8 1,d 8 (m 18)]))))
def w544_L0:WCode:=.loop ⟨true,[8,7,1,0],[]⟩ w544_B0
def w544:WFn:=⟨2,[.tmp 4],zd (s (O 4 [i 0]) (s (s (O 6 [m 0,ln 1 6,i 0]) (bk 0 w544_L0 ⟨true,[],[]⟩)) w544_c0))⟩
@[simp] theorem w544_E0:ZL w544_L0 w544_B0 ⟨true,[8,7,1,0],[]⟩:=ck_lp rfl
noncomputable abbrev w544_K0 (C:WProg) (s:WSt):Option AV:=CK C 0 (pureFin [.tmp 4]) [.sq w544_L0,.bk 0 ⟨true,[],[]⟩,.sq w544_c0] w544_B0 s
def w545:WFn:=⟨1,[.tmp 2],zd (s (O 2 [ff]) (r (O 3 [m 0,E (.bin .lss (T 3) (.c (.int .i32 97))),m 4,z 5 (m 0),z 5 (E (.bin .gtr (T 6) (.c (.int .i32 122)))),po 5 7,m 8,y 9 (m 0),y 9 (E (.bin .lss (T 10) (.c (.int .i32 48)))),y 9 (m 11),z 12 (m 0),z 12 (E (.bin .gtr (T 13) (.c (.int .i32 57)))),y 9 (po 12 14),pa 9 15,d 2 (m 16)])))⟩
def w546:WFn:=⟨1,[.tmp 2],zd (s (Q 1 [bx 0,i 0] [1]) (s (s (O 3 [f 0 1,l 1 3,E (.bin .eql (T 4) (.c (.int .u64 0))),m 5,z 6 (f 2 1),z 6 (l 1 7),z 6 (ca 579 [8]),z 6 (nt 9),po 6 10,m 11,z 12 (f 3 1),z 12 (l 1 13),z 12 (ln 1 14),z 12 (gti 15 8),po 12 16,m 17,z 18 (f 3 1),z 18 (l 1 19),z 18 (E (.call 498 [T 20,.c (.fn 580 [])])),po 18 21]) (c 22 (r (O 2 [i 6])))) (r (O 2 [i 0]))))⟩
def w547_c0:WCode:=zd (r (O 81 [m 5,d 4 (m 81)]))
def w547_c1:WCode:=zd (O 80 [adi 12 1,d 12 (m 80)])
def w547_B1:WCode:=zd (s (O 66 [lt 65 64]) (s (cc 66 (w .skip) (ee 3)) (s (B 4 (s (O 67 [ix 1 63 65,l 1 67,d 9 (m 68)]) (U 69 [m 5,h 4 2,h 6 7,m 9,m 9,ca 583 [73],E (.buildS [.int .u8 0,.str [],.str [],.ro 2 [] true,.str [],.ro 6 [] true] 1 [(0,T 74)]),ca 582 [70,71,72,75],E (.buildS [.int .u8 0,.str [],.str [],.ro 2 [] true,.str [],.ro 6 [] true] 1 [(0,T 76)]),E (.app [.int .u8 0,.str [],.str [],.ro 2 [] true,.str [],.ro 6 [] true] 104 false (T 69) (T 77)),d 5 (m 78)] [(1,5),(2,5),(1,6),(2,6)] [65,64,63,12,11,10,7,5,2]))) (O 79 [adi 65 1,d 65 (m 79)]))))
def w547_L1:WCode:=.loop ⟨true,[65,64,63,12,11,10,7,5,2],[]⟩ w547_B1
def w547_B0:WCode:=zd (s (O 13 [lt 12 11]) (s (cc 13 (w .skip) (ee 0)) (s (bk 1 (s (Q 14 [ix 6 10 12,h 6 14,d 7 (E (.alloc [.int .u8 0,.str [],.str [],.ro 3 [] true,.str [],.ro 6 [] true])),n (st 6 7 15)] [12,11,10,7,5,2]) (s (O 16 [f 0 7,l 1 16]) (bk 2 (s (O 19 [E (.bin .eql (T 17) (.c (.int .u8 1))),d 18 (m 19)]) (cc 18 (V 20 [m 5,h 4 2,h 6 7,f 2 7,l 1 23,h 4 2,f 5 7,l 1 26,ca 547 [25,27],ca 582 [21,22,24,28],E (.buildS [.int .u8 0,.str [],.str [],.ro 2 [] true,.str [],.ro 6 [] true] 1 [(0,T 29)]),E (.app [.int .u8 0,.str [],.str [],.ro 2 [] true,.str [],.ro 6 [] true] 104 false (T 20) (T 30)),d 5 (m 31)] [(1,8),(2,8),(4,8)] ⟨false,[],[]⟩) (s (O 33 [E (.bin .eql (T 17) (.c (.int .u8 2))),d 32 (m 33)]) (cc 32 (Q 34 [m 5,f 4 7,l 1 35,ca 583 [36],E (.buildS [.int .u8 0,.str [],.str [],.ro 2 [] true,.str [],.ro 6 [] true] 1 [(0,T 37)]),E (.app [.int .u8 0,.str [],.str [],.ro 2 [] true,.str [],.ro 6 [] true] 104 false (T 34) (T 38)),d 5 (m 39)] [12,11,10,5,2]) (s (O 41 [E (.bin .eql (T 17) (.c (.int .u8 3))),d 40 (m 41)]) (cc 40 (O 42 [m 5,f 0 2,f 2 43,l 1 44,ca 583 [45],E (.buildS [.int .u8 0,.str [],.str [],.ro 2 [] true,.str [],.ro 6 [] true] 1 [(0,T 46)]),E (.app [.int .u8 0,.str [],.str [],.ro 2 [] true,.str [],.ro 6 [] true] 104 false (T 42) (T 47)),d 5 (m 48)]) (s (O 50 [E (.bin .eql (T 17) (.c (.int .u8 4))),d 49 (m 50)]) (cc 49 (O 51 [m 5,f 0 2,f 0 52,l 1 53,ca 584 [54],ca 583 [55],E (.buildS [.int .u8 0,.str [],.str [],.ro 2 [] true,.str [],.ro 6 [] true] 1 [(0,T 56)]),E (.app [.int .u8 0,.str [],.str [],.ro 2 [] true,.str [],.ro 6 [] true] 104 false (T 51) (T 57)),d 5 (m 58)]) (s (O 60 [E (.bin .eql (T 17) (.c (.int .u8 5))),d 59 (m 60)]) (c 59 (s (O 61 [f 0 2,f 3 61,l 1 62,ln 1 63,i 0]) (bk 3 w547_L1 ⟨true,[12,11,10,5,2],[]⟩)))))))))))) ⟨true,[12,11,10,5,2],[]⟩))) ⟨true,[12,11,10,5,2],[]⟩) w547_c1)))
def w547_L0:WCode:=.loop ⟨true,[12,11,10,5,2],[]⟩ w547_B0
def w547:WFn:=⟨2,[.tmp 4],zd (s (O 4 [d 2 (bx 0),E (.mv (.c (.ro 6 [] true)))]) (s (R 5 [E (.mv (.c (.ro 6 [] true)))] ⟨true,[5,2,1],[(5,6)]⟩) (s (s (O 10 [m 1,ln 1 10,i 0]) (bk 0 w547_L0 ⟨true,[5],[]⟩)) w547_c0)))⟩
@[simp] theorem w547_E1:ZL w547_L1 w547_B1 ⟨true,[65,64,63,12,11,10,7,5,2],[]⟩:=ck_lp rfl
noncomputable abbrev w547_K1 (C:WProg) (s:WSt):Option AV:=CK C 0 (pureFin [.tmp 4]) [.sq w547_L1,.bk 3 ⟨true,[12,11,10,5,2],[]⟩,.bk 2 ⟨true,[12,11,10,5,2],[]⟩,.bk 1 ⟨true,[12,11,10,5,2],[]⟩,.sq w547_c1,.sq w547_L0,.bk 0 ⟨true,[5],[]⟩,.sq w547_c0] w547_B1 s
@[simp] theorem w547_E0:ZL w547_L0 w547_B0 ⟨true,[12,11,10,5,2],[]⟩:=ck_lp rfl
noncomputable abbrev w547_K0 (C:WProg) (s:WSt):Option AV:=CK C 0 (pureFin [.tmp 4]) [.sq w547_L0,.bk 0 ⟨true,[5],[]⟩,.sq w547_c0] w547_B0 s
def w553:WFn:=⟨1,[.tmp 2],zd (s (O 2 [E (.mv (.c (.ro 2 [] true)))]) (r (O 3 [m 0,m 0,ln 1 4,m 0,ln 1 6,E (.slice 2 (T 3) none (some (T 5)) (some (T 7))),d 2 (m 8)])))⟩
def w554:WFn:=⟨1,[.tmp 2],zd (w (.cln [.str [],.str []] 2 32))⟩
def w560:WFn:=⟨1,[.tmp 2],zd (s (O 2 [ff]) (r (O 3 [m 0,E (.bin .lss (T 3) (.c (.int .i32 32))),m 4,z 5 (m 0),z 5 (E (.bin .gtr (T 6) (.c (.int .i32 126)))),po 5 7,d 2 (m 8)])))⟩
def w561:WFn:=⟨1,[.tmp 2],zd (s (O 2 [ff]) (r (O 3 [m 0,E (.bin .geq (T 3) (.c (.int .u8 97))),m 4,y 5 (m 0),y 5 (E (.bin .leq (T 6) (.c (.int .u8 122)))),pa 5 7,m 8,z 9 (m 0),z 9 (E (.bin .geq (T 10) (.c (.int .u8 48)))),z 9 (m 11),y 12 (m 0),y 12 (E (.bin .leq (T 13) (.c (.int .u8 57)))),z 9 (pa 12 14),po 9 15,d 2 (m 16)])))⟩
def w562_c0:WCode:=zd (r (O 4 [i (-1)]))
def w562_B0:WCode:=zd (s (O 9 [lt 8 7]) (s (cc 9 (w .skip) (ee 0)) (s (B 1 (s (O 10 [m 8,d 5 (m 10)]) (s (O 11 [m 1,m 0,m 5,ix 6 12 13,h 6 14,E (.callv (T 11) [T 15])]) (c 16 (r (O 17 [m 5,d 4 (m 17)])))))) (O 18 [adi 8 1,d 8 (m 18)]))))
def w562_L0:WCode:=.loop ⟨true,[8,7,1,0],[]⟩ w562_B0
def w562:WFn:=⟨2,[.tmp 4],zd (s (O 4 [i 0]) (s (s (O 6 [m 0,ln 1 6,i 0]) (bk 0 w562_L0 ⟨true,[],[]⟩)) w562_c0))⟩
@[simp] theorem w562_E0:ZL w562_L0 w562_B0 ⟨true,[8,7,1,0],[]⟩:=ck_lp rfl
noncomputable abbrev w562_K0 (C:WProg) (s:WSt):Option AV:=CK C 0 (pureFin [.tmp 4]) [.sq w562_L0,.bk 0 ⟨true,[],[]⟩,.sq w562_c0] w562_B0 s
def w550_c0:WCode:=zd (r (O 35 [m 5,d 4 (m 35)]))
def w550_B0:WCode:=zd (s (s (Q 14 [m 6,f 5 2,l 1 15,ln 1 16,lt 14 17,m 18,y 19 (m 5),y 19 (lei 20 64),pa 19 21] [22,6,5,2,1]) (cc 22 (w .skip) (ee 0))) (s (B 1 (O 25 [m 5,f 5 2,l 1 26,m 6,ix 6 27 28,h 6 29,m 1,sbi 31 1,ca 550 [30,32],ad 25 33,d 5 (m 34)])) (O 23 [m 6,adi 23 1,d 6 (m 24)])))
def w550_L0:WCode:=.loop ⟨true,[6,5,2,1],[]⟩ w550_B0
def w550:WFn:=⟨2,[.tmp 4],zd (s (O 4 [d 2 (bx 0),i 0]) (s (s (O 7 [m 1,lti 7 1,m 8,z 9 (h 6 2),z 9 (ca 586 [10]),z 9 (nt 11),po 9 12]) (c 13 (r (O 4 [i 1000])))) (s (O 5 [i 1]) (s (s (O 6 [i 0]) (bk 0 w550_L0 ⟨true,[5],[]⟩)) w550_c0))))⟩
@[simp] theorem w550_E0:ZL w550_L0 w550_B0 ⟨true,[6,5,2,1],[]⟩:=ck_lp rfl
noncomputable abbrev w550_K0 (C:WProg) (s:WSt):Option AV:=CK C 0 (pureFin [.tmp 4]) [.sq w550_L0,.bk 0 ⟨true,[5],[]⟩,.sq w550_c0] w550_B0 s
def w502:WFn:=⟨2,[.tmp 4],zd (s (O 3 [bx 1,i 0]) (s (s (O 7 [m 0,nk 7,f 0 8,l 1 9,E (.bin .neq (T 10) (.c (.int .u8 1)))]) (c 11 (r (O 4 [i 0])))) (s (O 5 [E (.alloc [.int .i64 0]),n (E (.store 1 (T 5) (N 0)))]) (s (O 6 [E (.alloc [.nilf])]) (s (O 12 [E (.mkfn 548 [T 5,T 3,T 6]),n (st 1 6 12)]) (s (s (O 13 [l 1 6,m 0,E (.callv (T 13) [T 14,N 1]),nt 15]) (c 16 (r (O 4 [i 0])))) (r (O 17 [l 1 5,d 4 (m 17)]))))))))⟩
def w503:WFn:=⟨1,[],zd (w .skip)⟩
def w578_c0:WCode:=zd (r (O 6 [i (-1)]))
def w578_B0:WCode:=zd (s (O 11 [E (.next (T 10)),ex 0 11]) (s (cc 12 (w .skip) (ee 0)) (B 1 (s (O 13 [ex 1 11,ex 2 11,d 7 (m 13),d 8 (m 14)]) (s (O 15 [m 1,m 8,E (.callv (T 15) [T 16]),m 2,E (.eqv 5 [] false (T 17) (T 18))]) (c 19 (r (O 20 [m 7,d 6 (m 20)]))))))))
def w578_L0:WCode:=.loop ⟨true,[10,2,1],[]⟩ w578_B0
def w578:WFn:=⟨3,[.tmp 6],zd (s (O 6 [i 0]) (s (s (O 9 [m 0,E (.range (T 9))]) (bk 0 w578_L0 ⟨true,[],[]⟩)) w578_c0))⟩
@[simp] theorem w578_E0:ZL w578_L0 w578_B0 ⟨true,[10,2,1],[]⟩:=ck_lp rfl
noncomputable abbrev w578_K0 (C:WProg) (s:WSt):Option AV:=CK C 0 (pureFin [.tmp 6]) [.sq w578_L0,.bk 0 ⟨true,[],[]⟩,.sq w578_c0] w578_B0 s
def w579:WFn:=⟨1,[.tmp 2],zd (s (O 2 [ff]) (r (O 3 [m 0,E (.build [.int .u8 0,.str [],.str [],.ro 2 [] true,.str [],.ro 6 [] true] [(0,1,.c (.int .u8 2)),(4,1,T 3)]),ca 439 [4],eqi 5 0,d 2 (m 6)])))⟩
def w580:WFn:=⟨1,[.tmp 2],zd (s (O 2 [ff]) (r (O 3 [m 0,ca 581 [3],nt 4,d 2 (m 5)])))⟩
def w581:WFn:=⟨1,[.tmp 2],zd (s (O 2 [ff]) (r (O 3 [m 0,E (.build [.int .u8 0,.str [],.str [],.ro 2 [] true,.str [],.ro 6 [] true] [(0,1,.c (.int .u8 1)),(1,1,T 3)]),ca 439 [4],eqi 5 0,d 2 (m 6)])))⟩
def w582:WFn:=⟨4,[.cell 8 6 true],zd (s (O 4 [bx 0,bx 1,d 8 (E (.alloc [.int .u8 0,.str [],.str [],.ro 2 [] true,.str [],.ro 6 [] true]))]) (r (V 9 [f 1 5,l 1 9,m 2,h 4 4,f 3 5,l 1 13,ca 592 [12,14],m 3,ca 593 [16],E (.build [.int .u8 0,.str [],.str [],.ro 2 [] true,.str [],.ro 6 [] true] [(0,1,.c (.int .u8 1)),(1,1,T 10),(2,1,T 11),(3,1,T 15),(5,1,T 17)]),n (st 6 8 18)] [(1,6),(1,8)] ⟨false,[],[]⟩)))⟩
def w583:WFn:=⟨1,[.cell 2 6 true],zd (s (O 2 [E (.alloc [.int .u8 0,.str [],.str [],.ro 2 [] true,.str [],.ro 6 [] true])]) (r (O 3 [m 0,E (.build [.int .u8 0,.str [],.str [],.ro 2 [] true,.str [],.ro 6 [] true] [(0,1,.c (.int .u8 2)),(4,1,T 3)]),n (st 6 2 4)])))⟩
def w584_B0:WCode:=zd (B 1 (s (O 5 [m 4,sbi 5 1,d 4 (m 6)]) (s (O 7 [m 4,m 0,E (.bin .rem (T 8) (.c (.int .u64 10))),E (.idxstr (.c (.str [48,49,50,51,52,53,54,55,56,57])) (T 9)),E (.idxa 20 1 (T 3) (T 7)),n (st 1 11 10)]) (s (O 12 [m 0,E (.bin .quo (T 12) (.c (.int .u64 10))),d 0 (m 13)]) (s (O 14 [m 0,E (.bin .eql (T 14) (.c (.int .u64 0)))]) (c 15 (r (O 16 [m 4,E (.sliceA 20 (T 3) (some (T 16)) none),E (.cvb (T 17)),d 2 (m 18)]))))))))
def w584_L0:WCode:=.loop ⟨true,[4,3,0],[]⟩ w584_B0
def w584:WFn:=⟨1,[.tmp 2],zd (s (O 2 [E (.mv (.c (.str [])))]) (s (O 3 [E (.alloc (rep 20 (.int .u8 0)))]) (s (O 4 [i 20]) (bk 0 w584_L0 ⟨true,[2],[]⟩))))⟩
@[simp] theorem w584_E0:ZL w584_L0 w584_B0 ⟨true,[4,3,0],[]⟩:=ck_lp rfl
noncomputable abbrev w584_K0 (C:WProg) (s:WSt):Option AV:=CK C 0 (pureFin [.tmp 2]) [.sq w584_L0,.bk 0 ⟨true,[2],[]⟩] w584_B0 s
def w586:WFn:=⟨1,[.tmp 2],zd (s (O 1 [bx 0,ff]) (s (s (O 3 [f 0 1,l 1 3]) (B 0 (s (O 6 [E (.bin .eql (T 4) (.c (.int .u8 1))),d 5 (m 6)]) (cc 5 (r (Q 7 [f 1 1,l 1 7,ca 557 [8],m 9,y 10 (f 2 1),y 10 (l 1 11),y 10 (E (.bin .eql (T 12) (.c (.str [])))),y 10 (m 13),z 14 (f 2 1),z 14 (l 1 15),z 14 (ca 557 [16]),y 10 (po 14 17),pa 10 18,m 19,y 20 (f 3 1),y 20 (l 1 21),y 20 (ca 594 [22]),pa 20 23,m 24,y 25 (f 4 1),y 25 (l 1 26),y 25 (E (.bin .eql (T 27) (.c (.str [])))),pa 25 28,m 29,y 30 (f 5 1),y 30 (l 1 31),y 30 (ln 1 32),y 30 (lei 33 16),pa 30 34,d 2 (m 35)] [2])) (s (O 37 [E (.bin .eql (T 4) (.c (.int .u8 2))),d 36 (m 37)]) (cc 36 (r (Q 38 [f 4 1,l 1 38,ca 556 [39],m 40,y 41 (f 1 1),y 41 (l 1 42),y 41 (E (.bin .eql (T 43) (.c (.str [])))),pa 41 44,m 45,y 46 (f 2 1),y 46 (l 1 47),y 46 (E (.bin .eql (T 48) (.c (.str [])))),pa 46 49,m 50,y 51 (f 3 1),y 51 (l 1 52),y 51 (ln 1 53),y 51 (f 5 1),y 51 (l 1 55),y 51 (ln 1 56),y 51 (ad 54 57),y 51 (eqi 58 0),pa 51 59,d 2 (m 60)] [2])) (s (s (O 62 [E (.bin .eql (T 4) (.c (.int .u8 3))),d 61 (m 62)]) (cc 61 (w .skip) (O 63 [E (.bin .eql (T 4) (.c (.int .u8 4))),d 61 (m 63)]))) (cc 61 (r (Q 64 [f 4 1,l 1 64,E (.bin .eql (T 65) (.c (.str []))),m 66,y 67 (f 1 1),y 67 (l 1 68),y 67 (E (.bin .eql (T 69) (.c (.str [])))),pa 67 70,m 71,y 72 (f 2 1),y 72 (l 1 73),y 72 (E (.bin .eql (T 74) (.c (.str [])))),pa 72 75,m 76,y 77 (f 3 1),y 77 (l 1 78),y 77 (ln 1 79),y 77 (f 5 1),y 77 (l 1 81),y 77 (ln 1 82),y 77 (ad 80 83),y 77 (eqi 84 0),pa 77 85,d 2 (m 86)] [2])) (s (O 88 [E (.bin .eql (T 4) (.c (.int .u8 5))),d 87 (m 88)]) (c 87 (r (Q 89 [f 1 1,l 1 89,ca 557 [90],m 91,y 92 (f 3 1),y 92 (l 1 93),y 92 (ca 594 [94]),pa 92 95,m 96,y 97 (f 2 1),y 97 (l 1 98),y 97 (E (.bin .eql (T 99) (.c (.str [])))),pa 97 100,m 101,y 102 (f 4 1),y 102 (l 1 103),y 102 (E (.bin .eql (T 104) (.c (.str [])))),pa 102 105,m 106,y 107 (f 5 1),y 107 (l 1 108),y 107 (ln 1 109),y 107 (eqi 110 0),pa 107 111,d 2 (m 112)] [2])))))))))))) (r (O 2 [ff]))))⟩
def w548_c0:WCode:=zd (r (O 7 [tt]))
def w548_B0:WCode:=zd (s (O 31 [lt 30 29]) (s (cc 31 (w .skip) (ee 0)) (s (B 1 (s (O 32 [m 30,d 8 (m 32)]) (s (V 33 [l 1 4,m 0,nk 34,f 5 35,l 1 36,m 8,ix 6 37 38,m 1,adi 40 1,E (.callv (T 33) [T 39,T 41]),nt 42] [] ⟨false,[],[]⟩) (c 43 (r (O 7 [ff])))))) (O 44 [adi 30 1,d 30 (m 44)]))))
def w548_L0:WCode:=.loop ⟨true,[30,29,4,1,0],[]⟩ w548_B0
def w548:WFn:=⟨5,[.tmp 7],zd (s (O 7 [ff]) (s (O 9 [l 1 2,adi 9 1,n (st 1 2 10)]) (s (s (O 11 [m 1,gti 11 6,m 12,z 13 (l 1 2),z 13 (gti 14 64),po 13 15,m 16,z 17 (m 0),z 17 (ca 549 [18]),z 17 (nt 19),po 17 20]) (c 21 (r (O 7 [ff])))) (s (O 22 [l 1 3,m 0,E (.callv (T 22) [T 23])]) (s (s (Q 25 [m 0,nk 25,f 5 26,l 1 27,ln 1 28,i 0] [30,29,4,1,0]) (bk 0 w548_L0 ⟨true,[],[]⟩)) w548_c0)))))⟩
@[simp] theorem w548_E0:ZL w548_L0 w548_B0 ⟨true,[30,29,4,1,0],[]⟩:=ck_lp rfl
def w549:WFn:=⟨1,[.tmp 2],zd (s (O 2 [ff]) (s (O 4 [m 0,nk 4,h 6 5,d 3 (E (.alloc [.int .u8 0,.str [],.str [],.ro 3 [] true,.str [],.ro 6 [] true])),n (st 6 3 6)]) (s (s (O 7 [m 0,nk 7,f 0 8,l 1 9]) (B 0 (s (B 5 (s (B 4 (s (B 3 (s (B 2 (s (B 1 (s (s (s (O 12 [E (.bin .eql (T 10) (.c (.int .u8 1))),d 11 (m 12)]) (c 11 (ee 1))) (s (s (O 14 [E (.bin .eql (T 10) (.c (.int .u8 5))),d 13 (m 14)]) (c 13 (ee 2))) (s (s (O 16 [E (.bin .eql (T 10) (.c (.int .u8 2))),d 15 (m 16)]) (c 15 (ee 3))) (s (s (O 18 [E (.bin .eql (T 10) (.c (.int .u8 3))),d 17 (m 18)]) (cc 17 (w .skip) (O 19 [E (.bin .eql (T 10) (.c (.int .u8 4))),d 17 (m 19)]))) (c 17 (ee 4)))))) (ee 5))) (s (s (Q 20 [m 0,nk 20,f 2 21,l 1 22,E (.bin .neq (T 23) (.c (.str []))),m 24,y 25 (m 0),y 25 (nk 26),y 25 (f 2 27),y 25 (l 1 28),y 25 (ca 581 [29]),y 25 (nt 30),pa 25 31,m 32,z 33 (m 0),z 33 (nk 34),z 33 (f 5 35),z 33 (l 1 36),z 33 (ln 1 37),z 33 (gti 38 16),po 33 39] [40,3,0]) (c 40 (r (O 2 [ff])))) (O 41 [f 2 3,n (E (.store 1 (T 41) (.c (.str [])))),f 5 3,n (E (.store 1 (T 42) (.c (.ro 6 [] true))))])))) (s (s (s (Q 43 [m 0,nk 43,f 1 44,l 1 45,ca 581 [46],nt 47,m 48,z 49 (m 0),z 49 (nk 50),z 49 (f 3 51),z 49 (l 1 52),z 49 (ca 585 [53]),z 49 (nt 54),po 49 55] [56,3]) (c 56 (r (O 2 [ff])))) (O 57 [f 1 3,n (E (.store 1 (T 57) (.c (.str [])))),f 3 3,n (E (.store 1 (T 58) (.c (.ro 3 [] true))))])) (ee 0)))) (s (s (s (O 59 [m 0,nk 59,f 4 60,l 1 61,ca 579 [62],nt 63]) (c 64 (r (O 2 [ff])))) (O 65 [f 4 3,n (E (.store 1 (T 65) (.c (.str []))))])) (ee 0)))) (ee 0))) (s (r (O 2 [ff])) (ee 0))))) (r (Q 66 [f 1 3,l 1 66,E (.bin .eql (T 67) (.c (.str []))),m 68,y 69 (f 2 3),y 69 (l 1 70),y 69 (E (.bin .eql (T 71) (.c (.str [])))),pa 69 72,m 73,y 74 (f 4 3),y 74 (l 1 75),y 74 (E (.bin .eql (T 76) (.c (.str [])))),pa 74 77,m 78,y 79 (f 3 3),y 79 (l 1 80),y 79 (ln 1 81),y 79 (eqi 82 0),pa 79 83,m 84,y 85 (f 5 3),y 85 (l 1 86),y 85 (ln 1 87),y 85 (eqi 88 0),pa 85 89,d 2 (m 90)] [2])))))⟩
def w592_c0:WCode:=zd (r (O 44 [m 5,d 4 (m 44)]))
def w592_B0:WCode:=zd (s (O 14 [lt 13 12]) (s (cc 14 (w .skip) (ee 0)) (s (B 1 (s (O 15 [m 13,ix 3 11 13,h 3 16,d 7 (E (.alloc [.str [],.int .u8 0,.str []])),d 6 (m 15),n (st 3 7 17)]) (U 18 [m 5,m 6,f 0 7,l 1 20,f 2 7,l 1 22,f 0 2,f 2 24,l 1 25,f 0 2,f 0 27,l 1 28,ca 584 [29],f 0 2,f 3 31,l 1 32,ln 1 33,E (.cvt .u64 (T 34)),ca 584 [35],E (.build [.str [],.str [],.str [],.str []] [(0,1,T 23),(1,1,T 26),(2,1,T 30),(3,1,T 36)]),f 1 7,l 1 38,E (.idxv 4 1 false (T 37) (T 39)),E (.build [.str [],.str []] [(0,1,T 21),(1,1,T 40)]),ix 2 18 19,n (st 2 42 41)] [(3,12),(5,12),(8,12),(12,15),(12,16),(3,18),(5,18),(8,18),(12,21),(18,21)] [13,12,11,5,2]))) (O 43 [adi 13 1,d 13 (m 43)]))))
def w592_L0:WCode:=.loop ⟨true,[13,12,11,5,2],[]⟩ w592_B0
def w592:WFn:=⟨2,[.tmp 4],zd (s (O 4 [d 2 (bx 0),E (.mv (.c (.ro 2 [] true)))]) (s (O 8 [m 1,ln 1 8,E (.mksl [.str [],.str []] 32 (T 9) (T 9)),d 5 (m 10)]) (s (s (O 11 [m 1,ln 1 11,i 0]) (bk 0 w592_L0 ⟨true,[5],[]⟩)) w592_c0)))⟩
@[simp] theorem w592_E0:ZL w592_L0 w592_B0 ⟨true,[13,12,11,5,2],[]⟩:=ck_lp rfl
noncomputable abbrev w592_K0 (C:WProg) (s:WSt):Option AV:=CK C 0 (pureFin [.tmp 4]) [.sq w592_L0,.bk 0 ⟨true,[5],[]⟩,.sq w592_c0] w592_B0 s
def w593:WFn:=⟨1,[.tmp 2],zd (s (O 2 [E (.mv (.c (.ro 6 [] true)))]) (r (O 3 [m 0,m 0,ln 1 4,m 0,ln 1 6,E (.slice 6 (T 3) none (some (T 5)) (some (T 7))),d 2 (m 8)])))⟩
def w594_c0:WCode:=zd (r (O 2 [tt]))
def w594_B0:WCode:=zd (s (s (O 8 [m 3,m 0,ln 1 9,lt 8 10]) (cc 11 (w .skip) (ee 0))) (s (B 1 (s (O 14 [m 0,m 3,ix 3 14 15,h 3 16,d 4 (E (.alloc [.str [],.int .u8 0,.str []])),n (st 3 4 17)]) (s (U 18 [f 0 4,l 1 18,ca 557 [19],nt 20,m 21,z 22 (f 1 4),z 22 (l 1 23),z 22 (E (.bin .gtr (T 24) (.c (.int .u8 3)))),po 22 25,m 26,z 27 (f 2 4),z 27 (l 1 28),z 27 (ca 556 [29]),z 27 (nt 30),po 27 31,m 32,z 33 (f 1 4),z 33 (l 1 34),z 33 (E (.bin .neq (T 35) (.c (.int .u8 0)))),z 33 (m 36),y 37 (f 2 4),y 37 (l 1 38),y 37 (E (.bin .neq (T 39) (.c (.str [])))),z 33 (pa 37 40),po 33 41,m 42,z 43 (m 3),z 43 (gti 44 0),z 43 (m 45),y 46 (m 0),y 46 (m 3),y 46 (sbi 48 1),y 46 (ix 3 47 49),y 46 (f 0 50),y 46 (l 1 51),y 46 (f 0 4),y 46 (l 1 53),y 46 (ge 52 54),z 43 (pa 46 55),po 43 56] [] [57,3,0]) (c 57 (r (O 2 [ff])))))) (O 12 [m 3,adi 12 1,d 3 (m 13)])))
def w594_L0:WCode:=.loop ⟨true,[3,0],[]⟩ w594_B0
def w594:WFn:=⟨1,[.tmp 2],zd (s (O 2 [ff]) (s (s (O 5 [m 0,ln 1 5,gti 6 8]) (c 7 (r (O 2 [ff])))) (s (s (O 3 [i 0]) (bk 0 w594_L0 ⟨true,[],[]⟩)) w594_c0)))⟩
@[simp] theorem w594_E0:ZL w594_L0 w594_B0 ⟨true,[3,0],[]⟩:=ck_lp rfl
noncomputable abbrev w594_K0 (C:WProg) (s:WSt):Option AV:=CK C 0 (pureFin [.tmp 2]) [.sq w594_L0,.bk 0 ⟨true,[],[]⟩,.sq w594_c0] w594_B0 s
def w585_c0:WCode:=zd (r (O 2 [tt]))
def w585_B0:WCode:=zd (s (O 11 [lt 10 9]) (s (cc 11 (w .skip) (ee 0)) (s (B 1 (s (O 12 [m 10,ix 3 8 10,h 3 13,d 4 (E (.alloc [.str [],.int .u8 0,.str []])),d 3 (m 12),n (st 3 4 14)]) (s (U 15 [f 0 4,l 1 15,ca 581 [16],nt 17,m 18,z 19 (f 1 4),z 19 (l 1 20),z 19 (E (.bin .gtr (T 21) (.c (.int .u8 3)))),po 19 22,m 23,z 24 (f 2 4),z 24 (l 1 25),z 24 (ca 579 [26]),z 24 (nt 27),po 24 28,m 29,z 30 (f 1 4),z 30 (l 1 31),z 30 (E (.bin .gtr (T 32) (.c (.int .u8 0)))),z 30 (m 33),y 34 (f 2 4),y 34 (l 1 35),y 34 (E (.bin .neq (T 36) (.c (.str [])))),z 30 (pa 34 37),po 30 38,m 39,z 40 (m 3),z 40 (gti 41 0),z 40 (m 42),y 43 (f 0 4),y 43 (l 1 44),y 43 (m 0),y 43 (m 3),y 43 (sbi 47 1),y 43 (ix 3 46 48),y 43 (f 0 49),y 43 (l 1 50),y 43 (le 45 51),z 40 (pa 43 52),po 40 53] [] [54,10,9,8,0]) (c 54 (r (O 2 [ff])))))) (O 55 [adi 10 1,d 10 (m 55)]))))
def w585_L0:WCode:=.loop ⟨true,[10,9,8,0],[]⟩ w585_B0
def w585:WFn:=⟨1,[.tmp 2],zd (s (O 2 [ff]) (s (s (O 5 [m 0,ln 1 5,gti 6 8]) (c 7 (r (O 2 [ff])))) (s (s (O 8 [m 0,ln 1 8,i 0]) (bk 0 w585_L0 ⟨true,[],[]⟩)) w585_c0)))⟩
@[simp] theorem w585_E0:ZL w585_L0 w585_B0 ⟨true,[10,9,8,0],[]⟩:=ck_lp rfl
noncomputable abbrev w585_K0 (C:WProg) (s:WSt):Option AV:=CK C 0 (pureFin [.tmp 2]) [.sq w585_L0,.bk 0 ⟨true,[],[]⟩,.sq w585_c0] w585_B0 s
def tree:WTree:=(.node (.node (.node (.node (.node (.node (.node .leaf 0 w0 .leaf) 111 w111 (.node .leaf 115 w115 .leaf)) 126 w126 (.node (.node .leaf 130 w130 .leaf) 138 w138 (.node .leaf 139 w139 .leaf))) 140 w140 (.node (.node (.node .leaf 143 w143 .leaf) 145 w145 (.node .leaf 223 w223 .leaf)) 225 w225 (.node (.node .leaf 227 w227 .leaf) 230 w230 (.node .leaf 231 w231 .leaf)))) 232 w232 (.node (.node (.node (.node .leaf 238 w238 .leaf) 240 w240 (.node .leaf 270 w270 .leaf)) 271 w271 (.node (.node .leaf 277 w277 .leaf) 278 w278 (.node .leaf 279 w279 .leaf))) 280 w280 (.node (.node (.node .leaf 281 w281 .leaf) 282 w282 (.node .leaf 283 w283 .leaf)) 284 w284 (.node (.node .leaf 285 w285 .leaf) 286 w286 .leaf)))) 289 w289 (.node (.node (.node (.node (.node .leaf 290 w290 .leaf) 293 w293 (.node .leaf 296 w296 .leaf)) 297 w297 (.node (.node .leaf 299 w299 .leaf) 301 w301 (.node .leaf 302 w302 .leaf))) 398 w398 (.node (.node (.node .leaf 399 w399 .leaf) 400 w400 (.node .leaf 404 w404 .leaf)) 405 w405 (.node (.node .leaf 408 w408 .leaf) 415 w415 .leaf))) 417 w417 (.node (.node (.node (.node .leaf 422 w422 .leaf) 423 w423 (.node .leaf 424 w424 .leaf)) 425 w425 (.node (.node .leaf 427 w427 .leaf) 428 w428 (.node .leaf 429 w429 .leaf))) 430 w430 (.node (.node (.node .leaf 431 w431 .leaf) 432 w432 (.node .leaf 433 w433 .leaf)) 434 w434 (.node (.node .leaf 435 w435 .leaf) 436 w436 .leaf))))) 437 w437 (.node (.node (.node (.node (.node (.node .leaf 438 w438 .leaf) 439 w439 (.node .leaf 441 w441 .leaf)) 442 w442 (.node (.node .leaf 494 w494 .leaf) 495 w495 (.node .leaf 496 w496 .leaf))) 497 w497 (.node (.node (.node .leaf 498 w498 .leaf) 499 w499 (.node .leaf 500 w500 .leaf)) 501 w501 (.node (.node .leaf 502 w502 .leaf) 503 w503 (.node .leaf 505 w505 .leaf)))) 507 w507 (.node (.node (.node (.node .leaf 510 w510 .leaf) 511 w511 (.node .leaf 512 w512 .leaf)) 513 w513 (.node (.node .leaf 514 w514 .leaf) 515 w515 (.node .leaf 516 w516 .leaf))) 517 w517 (.node (.node (.node .leaf 518 w518 .leaf) 519 w519 (.node .leaf 520 w520 .leaf)) 543 w543 (.node (.node .leaf 544 w544 .leaf) 545 w545 .leaf)))) 546 w546 (.node (.node (.node (.node (.node .leaf 547 w547 .leaf) 548 w548 (.node .leaf 549 w549 .leaf)) 550 w550 (.node (.node .leaf 553 w553 .leaf) 554 w554 (.node .leaf 556 w556 .leaf))) 557 w557 (.node (.node (.node .leaf 558 w558 .leaf) 559 w559 (.node .leaf 560 w560 .leaf)) 561 w561 (.node (.node .leaf 562 w562 .leaf) 563 w563 .leaf))) 578 w578 (.node (.node (.node (.node .leaf 579 w579 .leaf) 580 w580 (.node .leaf 581 w581 .leaf)) 582 w582 (.node (.node .leaf 583 w583 .leaf) 584 w584 (.node .leaf 585 w585 .leaf))) 586 w586 (.node (.node (.node .leaf 592 w592 .leaf) 593 w593 (.node .leaf 594 w594 .leaf)) 2031 w293 (.node (.node .leaf 3008 w281 .leaf) 3009 w431 .leaf))))))
def ids:List (Nat × Nat):=[(0,2),(111,77),(115,101),(126,72),(130,27),(138,24),(139,13),(140,25),(143,4),(145,19),(223,48),(225,104),(227,105),(230,149),(231,150),(232,110),(238,107),(240,75),(270,73),(271,74),(277,53),(278,16),(279,49),(280,50),(281,51),(282,66),(283,10),(284,11),(285,12),(286,14),(289,18),(290,20),(293,43),(296,42),(297,23),(299,46),(301,59),(302,60),(398,102),(399,103),(400,174),(404,192),(405,159),(408,146),(415,108),(417,45),(422,124),(423,125),(424,126),(425,100),(427,109),(428,54),(429,55),(430,56),(431,106),(432,61),(433,117),(434,118),(435,44),(436,47),(437,52),(438,57),(439,58),(441,64),(442,65),(494,151),(495,152),(496,153),(497,154),(498,155),(499,156),(500,157),(501,158),(502,211),(503,212),(505,187),(507,160),(510,169),(511,170),(512,147),(513,148),(514,111),(515,112),(516,164),(517,165),(518,166),(519,167),(520,116),(543,193),(544,194),(545,195),(546,196),(547,197),(548,224),(549,225),(550,210),(553,198),(554,199),(556,188),(557,189),(558,190),(559,191),(560,200),(561,201),(562,202),(563,163),(578,213),(579,214),(580,215),(581,216),(582,217),(583,218),(584,219),(585,229),(586,223),(592,226),(593,227),(594,228),(3008,51),(3009,106),(2031,43)]
def alts:List (Nat × Nat × Nat):=[(290,51,3008),(280,106,3009),(285,43,2031)]
end P
end
section
set_option linter.unusedSimpArgs false
set_option linter.unusedVariables false
namespace Go.Pw
open Go Go.Pav
@[simp] def eI (x:Int):List AV:=[.int .i64 x]
@[simp] def eU8 (x:Int):List AV:=[.int .u8 x]
@[simp] def eU64 (x:Int):List AV:=[.int .u64 x]
@[simp] def eS (x:List UInt8):List AV:=[.str x]
@[simp] def eB (x:Bool):List AV:=[.bool x]
abbrev L1 (xs:List Int) (e:Bool):AV:=.ro 1 (xs.map eI) e
attribute [simp] Int.natCast_inj
attribute [-simp] List.getElem_cons_drop
section
variable (a n:Nat)
@[simp] theorem lit_lt_cast:((no_index (OfNat.ofNat a):Int) < (n:Int))=((no_index (OfNat.ofNat a):Nat) < n):=propext (Int.ofNat_lt (n:=(OfNat.ofNat a:Nat)) (m:=n))
@[simp] theorem cast_lt_lit:((n:Int) < (no_index (OfNat.ofNat a):Int))=(n < (no_index (OfNat.ofNat a):Nat)):=propext (Int.ofNat_lt (m:=(OfNat.ofNat a:Nat)) (n:=n))
@[simp] theorem lit_le_cast:((no_index (OfNat.ofNat a):Int)≤(n:Int))=((no_index (OfNat.ofNat a):Nat)≤n):=propext (Int.ofNat_le (m:=(OfNat.ofNat a:Nat)) (n:=n))
@[simp] theorem cast_le_lit:((n:Int)≤(no_index (OfNat.ofNat a):Int))=(n≤(no_index (OfNat.ofNat a):Nat)):=propext (Int.ofNat_le (n:=(OfNat.ofNat a:Nat)) (m:=n))
end
theorem fill_get {α β:Type} {f:α→β} {acc:List α} {n i:Nat} {z:β} (h:acc.length=i):(List.map f acc++List.replicate (n+1) z)[i]?=some z:=by
 rw [List.getElem?_append_right (by simp;omega)]
 simp [h]
theorem fill_set {α β:Type} {f:α→β} {acc:List α} {n i:Nat} {z v:β} (h:acc.length=i):(List.map f acc++List.replicate (n+1) z).set i v=List.map f acc++v::List.replicate n z:=by
 rw [List.set_append,if_neg (by simp;omega)]
 simp [h,List.replicate_succ]
@[simp] theorem app_le (a b:Nat):(a+(b+1)≤a)=False:=eq_false (by omega)
theorem drop_cons {α:Type} {l:List α} {i:Nat} (h:i < l.length):l.drop i=l[i]::l.drop (i+1):=List.drop_eq_getElem_cons h
theorem mapO_self {α:Type} {g:α→Option α}:∀ {l:List α},(∀ x ∈ l,g x=some x)→mapO g l=some l
 | [],_=>rfl
 | a::l,h=>by simp only [mapO,h a List.mem_cons_self,ob,mapO_self fun x hx=>h x (List.mem_cons_of_mem _ hx),om]
@[simp] theorem frz_ints (h:WHeap) (n:Nat) (k:IntKind) (l:List Int):mapO (frzW h (n+1)) (List.map (AV.int k) l)=some (List.map (AV.int k) l) :=
 mapO_self fun x hx=>by obtain ⟨y,_,rfl⟩:=List.mem_map.1 hx;rfl
@[simp] theorem all_isC_int (k:IntKind) (l:List Int):l.all (isC ∘ AV.int k)=true:=by simp [isC]
@[simp] theorem all_isC_bool (l:List Bool):l.all (isC ∘ AV.bool)=true:=by simp [isC]
attribute [simp] isLeaf
@[simp] theorem comp_eI:((fun x:AV=>[x]) ∘ AV.int .i64)=eI:=rfl
@[simp] theorem add_le_self' (a b:Nat):(a+b≤a)=(b=0):=propext (by omega)
theorem isE {α:Type} {l:List α} (h:¬ l=[]):l.isEmpty=false:=by cases l <;> simp_all
end Go.Pw
end
section
set_option linter.unusedSimpArgs false
set_option linter.unusedVariables false
namespace Go.D
open Go Go.Pav Go.Pw P
set_option maxRecDepth 10000
set_option maxHeartbeats 4000000
set_option linter.unusedSimpArgs false
set_option linter.unusedVariables false
attribute [-simp] List.getElem_cons_drop
variable {C:WProg}
def inN (b:UInt8):Bool:=decide (97≤b.toNat∧b.toNat≤122∨48≤b.toNat∧b.toNat≤57)
def inT (b:UInt8):Bool:=decide (32≤b.toNat∧b.toNat≤126)
def isName (s:List UInt8):Bool:=decide (1≤s.length)&&decide (s.length≤16)&&s.all inN
def isText (s:List UInt8):Bool:=decide (s.length≤64)&&s.all inT
def ppB (f:Nat):Bool:=f == 502||f == 494||f == 497||f == 434||f == 518||f == 549||f == 402||f == 411||f == 446||f == 466||f == 429||f == 514||f == 374||f == 480||(decide (1000≤f)&&decide (f < 2000))
def inlB (f:Nat):Bool:=f == 217||f == 459||decide (2000≤f)
structure HasS (C:WProg):Prop where
 f561:C.fns.get 561=some w561
 f517:C.fns.get 517=some w517
 f557:C.fns.get 557=some w557
 f556:C.fns.get 556=some w556
 f511:C.fns.get 511=some w511
 f510:C.fns.get 510=some w510
 f560:C.fns.get 560=some w560
 f545:C.fns.get 545=some w545
 f578:C.fns.get 578=some w578
 f543:C.fns.get 543=some w543
 f495:C.fns.get 495=some w495
 f516:C.fns.get 516=some w516
 f500:C.fns.get 500=some w500
 inl:C.inl=inlB
 pp:C.pp=ppB
theorem inName_ok (H:HasS C) (b:UInt8):FnW C 561 [.int .u8 b.toNat]=some (.bool (inN b)):=by
 rw [fnW_eq H.f561 rfl]
 unfold inN
 by_cases c1:97≤b.toNat <;> by_cases c2:b.toNat≤122 <;> by_cases c3:48≤b.toNat <;> by_cases c4:b.toNat≤57 <;> simp [w561,c1,c2,c3,c4]
theorem named_loop (H:HasS C) (s:List UInt8) (hl:s.length≤16):∀ n i,n+i=s.length →
 w517_K0 C ⟨[(14,.int .i64 i),(13,.int .i64 s.length),(0,.str s)],[],0⟩=some (.bool ((s.drop i).all inN)):=by
 intro n
 induction n with
 | zero =>
  intro i hi
  simp only [w517_K0];rw [ck_unf w517_B0.eq_1]
  have h1:s.drop i=[]:=List.drop_eq_nil_of_le (by omega)
  have h3:¬ i < s.length:=by omega
  simp [ck_unf w517_c0.eq_1,h1,h3]
 | succ n ih =>
  intro i hi
  have h1:i < s.length:=by omega
  have:=ih (i+1) (by omega)
  have hb:=inName_ok H s[i]
  simp only [w517_K0] at this ⊢;rw [ck_unf w517_B0.eq_1]
  rw [drop_cons h1]
  simp at this
  by_cases c:inN s[i]=true
  · simp (disch:=omega) [h1,wI64,hb,c,H.inl,inlB,H.pp,ppB,this]
  · simp (disch:=omega) [h1,wI64,hb,c,H.inl,inlB,H.pp,ppB]
theorem named_ok (H:HasS C) (s:List UInt8):FnW C 517 [.str s]=some (.bool (isName s)):=by
 rw [fnW_eq H.f517 rfl]
 unfold isName
 by_cases c1:1≤s.length
 · by_cases c2:s.length≤16
   · have:=named_loop H s c2 s.length 0 (by simp)
     simp only [w517_K0] at this
     simp at this
     have c3:¬ ((s.length:Int) < 1):=by omega
     have c4:¬ (16 < (s.length:Int)):=by omega
     simp [w517,c1,c2,c3,c4,this]
   · have c3:¬ ((s.length:Int) < 1):=by omega
     have c4:(16 < (s.length:Int)):=by omega
     simp [w517,c1,c2,c3,c4]
 · have c3:((s.length:Int) < 1):=by omega
   simp [w517,c1,c3]
theorem inN_cases (b:UInt8):(inN b=true∧(97≤b.toNat∧b.toNat≤122∨¬ 97≤b.toNat∧48≤b.toNat∧b.toNat≤57))∨(inN b=false∧(¬ 97≤b.toNat∧(¬ 48≤b.toNat∨¬ b.toNat≤57)∨¬ b.toNat≤122∧¬ b.toNat≤57)):=by
 unfold inN
 by_cases c:97≤b.toNat∧b.toNat≤122∨48≤b.toNat∧b.toNat≤57
 · left;exact ⟨decide_eq_true c,by omega⟩
 · right;exact ⟨decide_eq_false c,by omega⟩
theorem rname_loop (H:HasS C) (s:List UInt8) (hl:s.length≤16∨True):∀ n i,n+i=min s.length 17 →
 w557_K0 C ⟨[(3,.int .i64 i),(0,.str s)],[],0⟩=some (.bool (((s.take 17).drop i).all inN&&decide (1≤s.length)&&decide (s.length≤16))):=by
 intro n
 induction n with
 | zero =>
  intro i hi
  simp only [w557_K0];rw [ck_unf w557_B0.eq_1]
  have h1:(s.take 17).drop i=[]:=List.drop_eq_nil_of_le (by simp;omega)
  by_cases h3:i < s.length
  · have h4:¬ i < 17:=by omega
    have h4':¬ (i:Int) < 17:=by omega
    have h5:¬ s.length≤16:=by omega
    have h6:¬ (s.length:Int)≤16:=by omega
    have h7:1≤(s.length:Int):=by omega
    simp [ck_unf w557_c0.eq_1,h1,h3,h4,h4',h5,h6,h7]
  · by_cases h5:s.length≤16 <;> by_cases h6:1≤s.length
    · have h7:(s.length:Int)≤16:=by omega
      have h8:1≤(s.length:Int):=by omega
      simp [ck_unf w557_c0.eq_1,h1,h3,h5,h6,h7,h8]
    · have h7:(s.length:Int)≤16:=by omega
      have h8:¬ 1≤(s.length:Int):=by omega
      simp [ck_unf w557_c0.eq_1,h1,h3,h5,h6,h7,h8]
    · have h7:¬ (s.length:Int)≤16:=by omega
      have h8:1≤(s.length:Int):=by omega
      simp [ck_unf w557_c0.eq_1,h1,h3,h5,h6,h7,h8]
    · omega
 | succ n ih =>
  intro i hi
  have h1:i < s.length:=by omega
  have h2:(i:Int) < 17:=by omega
  have:=ih (i+1) (by omega)
  have hd:(s.take 17).drop i=s[i]::(s.take 17).drop (i+1):=by
   rw [drop_cons (show i < (s.take 17).length by simp;omega)];simp
  rw [hd]
  simp only [w557_K0] at this ⊢;rw [ck_unf w557_B0.eq_1]
  simp at this
  have key:=inN_cases s[i]
  by_cases q1:97≤s[i].toNat <;> by_cases q2:122 < s[i].toNat <;> by_cases q3:48≤s[i].toNat <;> by_cases q4:57 < s[i].toNat <;> first
   | (exfalso;omega)
   | (have c : inN s[i] = true := by rcases key with ⟨c, _⟩ | ⟨_, q⟩ <;> first | exact c | (exfalso; omega)
      simp (disch:=omega) [h1,h2,wI64,c,q1,q2,q3,q4,this];done)
   | (have c : inN s[i] = false := by rcases key with ⟨_, q⟩ | ⟨c, _⟩ <;> first | exact c | (exfalso; omega)
      simp (disch:=omega) [h1,h2,wI64,c,q1,q2,q3,q4];done)
theorem rname_ok (H:HasS C) (s:List UInt8):FnW C 557 [.str s]=some (.bool (isName s)):=by
 rw [fnW_eq H.f557 rfl]
 have:=rname_loop H s (.inr trivial) (min s.length 17) 0 (by simp)
 simp only [w557_K0] at this
 simp only [List.drop_zero] at this
 have e:((s.take 17).all inN&&decide (1≤s.length)&&decide (s.length≤16))=isName s:=by
  unfold isName
  by_cases c:s.length≤16
  · rw [List.take_of_length_le (by omega)];simp [c];rw [Bool.and_comm]
  · simp [c]
 rw [e] at this
 simp at this
 simp [w557,this]
theorem rstr_loop (H:HasS C) (s:List UInt8) (hl:s.length≤64):∀ n i,n+i=s.length →
 w556_K0 C ⟨[(3,.int .i64 i),(0,.str s)],[],0⟩=some (.bool ((s.drop i).all inT)):=by
 intro n
 induction n with
 | zero =>
  intro i hi
  simp only [w556_K0];rw [ck_unf w556_B0.eq_1]
  have h1:s.drop i=[]:=List.drop_eq_nil_of_le (by omega)
  have h3:¬ i < s.length:=by omega
  simp [ck_unf w556_c0.eq_1,h1,h3]
 | succ n ih =>
  intro i hi
  have h1:i < s.length:=by omega
  have:=ih (i+1) (by omega)
  simp only [w556_K0] at this ⊢;rw [ck_unf w556_B0.eq_1]
  rw [drop_cons h1]
  simp at this
  by_cases c1:32≤s[i].toNat <;> by_cases c2:126 < s[i].toNat
  · have c:inT s[i]=false:=decide_eq_false (fun q=>by omega)
    simp (disch:=omega) [h1,wI64,c,c1,c2]
  · have c:inT s[i]=true:=decide_eq_true ⟨c1,by omega⟩
    simp (disch:=omega) [h1,wI64,c,c1,c2,this]
  · omega
  · have c:inT s[i]=false:=decide_eq_false (fun q=>c1 q.1)
    simp (disch:=omega) [h1,wI64,c,c1,c2]
theorem rstr_ok (H:HasS C) (s:List UInt8):FnW C 556 [.str s]=some (.bool (isText s)):=by
 rw [fnW_eq H.f556 rfl]
 unfold isText
 by_cases c2:s.length≤64
 · have:=rstr_loop H s c2 s.length 0 (by simp)
   simp only [w556_K0] at this
   simp at this
   have c4:¬ (64 < (s.length:Int)):=by omega
   simp [w556,c2,c4,this]
 · have c4:(64 < (s.length:Int)):=by omega
   simp [w556,c2,c4]
theorem words_loop (H:HasS C) (s:List UInt8) (hl:s.length≤64):∀ n i,n+i=s.length →
 w510_K0 C ⟨[(3,.int .i64 i),(0,.str s)],[],0⟩=some (.int .i64 (if (s.drop i).all inT=true then 1 else 0)):=by
 intro n
 induction n with
 | zero =>
  intro i hi
  simp only [w510_K0];rw [ck_unf w510_B0.eq_1]
  have h1:s.drop i=[]:=List.drop_eq_nil_of_le (by omega)
  have h3:¬ i < s.length:=by omega
  simp [ck_unf w510_c0.eq_1,h1,h3]
 | succ n ih =>
  intro i hi
  have h1:i < s.length:=by omega
  have:=ih (i+1) (by omega)
  simp only [w510_K0] at this ⊢;rw [ck_unf w510_B0.eq_1]
  rw [drop_cons h1]
  generalize hX:((s.drop (i+1)).all inT)=X at *
  simp at this
  rw [List.all_cons,hX]
  by_cases c1:32≤s[i].toNat <;> by_cases c2:126 < s[i].toNat
  · have c:inT s[i]=false:=decide_eq_false (fun q=>by omega)
    simp (disch:=omega) [h1,wI64,c,c1,c2]
  · have c:inT s[i]=true:=decide_eq_true ⟨c1,by omega⟩
    simp (disch:=omega) [h1,wI64,c,c1,c2,this]
  · omega
  · have c:inT s[i]=false:=decide_eq_false (fun q=>c1 q.1)
    simp (disch:=omega) [h1,wI64,c,c1,c2]
theorem words_ok (H:HasS C) (s:List UInt8):FnW C 510 [.str s]=some (.int .i64 (if isText s=true then 1 else 0)):=by
 rw [fnW_eq H.f510 rfl]
 unfold isText
 by_cases c2:s.length≤64
 · have:=words_loop H s c2 s.length 0 (by simp)
   simp only [w510_K0] at this
   simp only [List.drop_zero] at this
   generalize hX:s.all inT=X at *
   simp at this
   have c4:¬ (64 < (s.length:Int)):=by omega
   simp [w510,c2,c4,this]
 · have c4:(64 < (s.length:Int)):=by omega
   simp [w510,c2,c4]
structure Pred (C:WProg) (g:Nat) (Q:UInt8→Bool):Prop where
 asc:∀ b:UInt8,b.toNat < 128→FnW C g [.int .i32 b.toNat]=some (.bool (!Q b))
 high:∀ r:Nat,128≤r→FnW C g [.int .i32 r]=some (.bool true)
 qh:∀ b:UInt8,128≤b.toNat→Q b=false
 ne:ppB g=false
 ni:inlB g=false
theorem dec_ascii (s:List UInt8) (pos:Nat) (h:pos < s.length) (ha:s[pos].toNat < 128):Utf8.decode ⟨⟨s⟩⟩ pos=(s[pos].toNat,1):=decode_ascii ⟨⟨s⟩⟩ pos h ha
theorem dec_high (s:List UInt8) (pos:Nat) (h:pos < s.length) (ha:128≤s[pos].toNat):128≤(Utf8.decode ⟨⟨s⟩⟩ pos).1∧1≤(Utf8.decode ⟨⟨s⟩⟩ pos).2:=decode_high ⟨⟨s⟩⟩ pos h ha
theorem index_loop (H:HasS C) {g:Nat} {Q:UInt8→Bool} (G:Pred C g Q) (s:List UInt8):∀ n pos,n+pos=s.length →
 ∃ v:Int,w578_K0 C ⟨[(10,.ptr 0 0 0),(2,.bool true),(1,.fn g [])],[(0,.iter s pos)],1⟩=some (.int .i64 v)∧decide (v < 0)=(s.drop pos).all Q:=by
 intro n
 induction n with
 | zero =>
  intro pos hp
  simp only [w578_K0];rw [ck_unf w578_B0.eq_1]
  have h1:s.drop pos=[]:=List.drop_eq_nil_of_le (by omega)
  have h3:¬ pos < s.length:=by omega
  exact ⟨-1,by simp [ck_unf w578_c0.eq_1,h3],by simp [h1]⟩
 | succ n ih =>
  intro pos hp
  have h1:pos < s.length:=by omega
  have hN:=G.ne;have hI:=G.ni
  rw [drop_cons h1]
  by_cases ha:s[pos].toNat < 128
  · have hd:=dec_ascii s pos h1 ha
    have hb:=G.asc s[pos] ha
    by_cases c:Q s[pos]=true
    · obtain ⟨v,hv,hq⟩:=ih (pos+1) (by omega)
      refine ⟨v,?_,by simp [hq,c]⟩
      simp only [w578_K0] at hv ⊢;rw [ck_unf w578_B0.eq_1]
      simp (disch:=omega) [h1,hd,hb,c,H.inl,hI,H.pp,hN,hv]
    · refine ⟨pos,?_,by simp [c]⟩
      simp only [w578_K0];rw [ck_unf w578_B0.eq_1]
      simp (disch:=omega) [h1,hd,hb,c,H.inl,hI,H.pp,hN]
  · have hd:=dec_high s pos h1 (by omega)
    have hb:=G.high (Utf8.decode ⟨⟨s⟩⟩ pos).1 hd.1
    have hq:=G.qh s[pos] (by omega)
    refine ⟨pos,?_,by simp [hq]⟩
    simp only [w578_K0];rw [ck_unf w578_B0.eq_1]
    obtain ⟨D,hD⟩:∃ D,Utf8.decode ⟨⟨s⟩⟩ pos=D:=⟨_,rfl⟩
    rw [hD] at hb
    simp (disch:=omega) [h1,hD,hb,H.inl,hI,H.pp,hN]
theorem index_ok (H:HasS C) {g:Nat} {Q:UInt8→Bool} (G:Pred C g Q) (s:List UInt8) :
 ∃ v:Int,FnW C 543 [.str s,.fn g []]=some (.int .i64 v)∧decide (v < 0)=s.all Q:=by
 obtain ⟨v,h,q⟩:=index_loop H G s s.length 0 (by simp)
 refine ⟨v,?_,q⟩
 have h2:FnW C 578 [.str s,.fn g [],.bool true]=some (.int .i64 v):=by
  rw [fnW_eq H.f578 rfl]
  simp only [w578_K0] at h
  simp [w578,h]
 rw [fnW_eq H.f543 rfl]
 simp [w543,H.inl,inlB,H.pp,ppB,h2]
theorem contains_ok (H:HasS C) {g:Nat} {Q:UInt8→Bool} (G:Pred C g Q) (s:List UInt8) :
 FnW C 495 [.str s,.fn g []]=some (.bool (!s.all Q)):=by
 obtain ⟨v,h,q⟩:=index_ok H G s
 rw [fnW_eq H.f495 rfl,← q]
 by_cases c:v < 0
 · have c':¬ 0≤v:=by omega
   simp [w495,H.inl,inlB,H.pp,ppB,h,c,c']
 · have c':0≤v:=by omega
   simp [w495,H.inl,inlB,H.pp,ppB,h,c,c']
theorem pred560 (H:HasS C):Pred C 560 inT where
 asc b hb:=by
  rw [fnW_eq H.f560 rfl]
  by_cases c1:32≤b.toNat <;> by_cases c2:126 < b.toNat
  · have c:inT b=false:=decide_eq_false (fun q=>by omega)
    simp [w560,c,c1,c2]
  · have c:inT b=true:=decide_eq_true ⟨c1,by omega⟩
    simp [w560,c,c1,c2]
  · omega
  · have c:inT b=false:=decide_eq_false (fun q=>c1 q.1)
    simp [w560,c,c1,c2]
 high r hr:=by
  rw [fnW_eq H.f560 rfl]
  have h1:32≤r:=by omega
  have h2:126 < r:=by omega
  simp [w560,h1,h2]
 qh b hb:=decide_eq_false (fun q=>by omega)
 ne:=by rfl
 ni:=by rfl
theorem pred545 (H:HasS C):Pred C 545 inN where
 asc b hb:=by
  rw [fnW_eq H.f545 rfl]
  have key:=inN_cases b
  by_cases q1:97≤b.toNat <;> by_cases q2:122 < b.toNat <;> by_cases q3:48≤b.toNat <;> by_cases q4:57 < b.toNat <;> first
   | (exfalso;omega)
   | (have c : inN b = true := by rcases key with ⟨c, _⟩ | ⟨_, q⟩ <;> first | exact c | (exfalso; omega)
      simp [w545,c,q1,q2,q3,q4];done)
   | (have c : inN b = false := by rcases key with ⟨_, q⟩ | ⟨c, _⟩ <;> first | exact c | (exfalso; omega)
      simp [w545,c,q1,q2,q3,q4];done)
 high r hr:=by
  rw [fnW_eq H.f545 rfl]
  have h1:97≤r:=by omega
  have h2:122 < r:=by omega
  have h3:48≤r:=by omega
  have h4:57 < r:=by omega
  simp [w545,h1,h2,h3,h4]
 qh b hb:=by unfold inN;exact decide_eq_false (fun q=>by omega)
 ne:=by rfl
 ni:=by rfl
theorem text_ok (H:HasS C) (s:List UInt8):FnW C 516 [.str s]=some (.bool (isText s)):=by
 obtain ⟨v,h,q⟩:=index_ok H (pred560 H) s
 rw [fnW_eq H.f516 rfl]
 unfold isText
 rw [← q]
 by_cases c2:s.length≤64
 · have c4:(s.length:Int)≤64:=by omega
   simp [w516,c2,c4,H.inl,inlB,H.pp,ppB,h]
 · have c4:¬ ((s.length:Int)≤64):=by omega
   simp [w516,c2,c4]
theorem iname_ok (H:HasS C) (s:List UInt8):FnW C 500 [.str s]=some (.bool (isName s)):=by
 have h:=contains_ok H (pred545 H) s
 rw [fnW_eq H.f500 rfl]
 unfold isName
 by_cases c1:s=[]
 · subst c1;simp [w500]
 · have c3:1≤s.length:=List.length_pos_iff.2 c1
   by_cases c2:s.length≤16
   · have c4:(s.length:Int)≤16:=by omega
     simp [w500,c1,c2,c3,c4,H.inl,inlB,H.pp,ppB,h]
   · have c4:¬ ((s.length:Int)≤16):=by omega
     simp [w500,c1,c2,c4]
end Go.D
end
