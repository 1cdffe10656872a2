/- Part of the theory that the claims of this work use: PwCode, PwDen, PwCk, PwSimp, PwZip. No conditions of its own. -/
import Derived.Test.YtcekmcchienbfaaGreatT3
section
set_option linter.unusedSimpArgs false
set_option linter.unusedVariables false
namespace Go.Pw
open Go Go.Pav
def Hi (base m0:Nat) (ρ:Nat→Nat) (V A:Nat→Prop):Prop:=∀ b,A b→¬ V b→base≤b→m0≤ρ b
structure Res (base m0:Nat) (ρ:Nat→Nat) (V A:Nat→Prop) (s1:WSt) (s1':St) (ρ':Nat→Nat) (V' A':Nat→Prop):Prop where
 sim:Sim ρ' V' A' s1 s1'
 kN:base≤s1.next
 old:Old base ρ V A ρ' V' A'
 hi:Hi base m0 ρ' V' A'
section
variable {C:aG} {run:xP} {run':Run} {base m0:Nat}
theorem Res.canon {ρ:Nat→Nat} {V A:Nat→Prop} {s1 s2:WSt} {s1' s2':St} {ρ':Nat→Nat} {V' A':Nat→Prop} (R:Res base m0 ρ V A s1 s1' ρ' V' A') {a:Ann} (hc:canon base a s1=some s2)
 (hs:s2'=s1'∨s2'=gI (sF a) s1'):∃ ρ' V' A',Res base m0 ρ V A s2 s2' ρ' V' A':=by
 obtain ⟨ρ2,V2,A2,S2,b2,o2,n2⟩:=Y9 R.sim R.kN hc hs
 refine ⟨ρ2,V2,A2,S2,b2,R.old.trans o2,fun b h1 h2 h3=>?_⟩
 obtain ⟨c,c1,c2,c3,c4⟩:=n2 b h1 h2
 rw [c3]
 exact R.hi c c1 c2 (c4 h3)
theorem Res.frz {ρ:Nat→Nat} {V A:Nat→Prop} {k:Nat} {s1 s2:WSt} {s1':St} {ρ':Nat→Nat} {V' A':Nat→Prop} (R:Res base m0 ρ V A s1 s1' ρ' V' A') (hc:G7 k s1=some s2) :
 ∃ s2',ET k s1'=some s2'∧s2'.next=s1'.next∧Res base m0 ρ V A s2 s2' ρ' V' A':=by
 obtain ⟨v,hv,hc⟩:=au hc
 obtain ⟨x,hx,rfl⟩:=aC hc
 obtain ⟨u,hu,hr⟩:=R.sim.env k v hv
 obtain ⟨y,hy,hd⟩:=KD R.sim.heap _ _ _ _ hr hx
 have hm:=AP R.sim.heap (aY s1.heap aI v) (reach s1'.heap aI u) (fun b' hb'=>F5 R.sim.heap _ _ _ _ hr hx b' hb')
 refine ⟨⟨dF s1'.env (some k) y,aQ s1'.heap (aU s1'.heap (reach s1'.heap aI u)),s1'.next⟩,by simp only [ET,hu,ob,hy,om],rfl,⟨?_,R.kN,R.old,R.hi⟩⟩
 exact ⟨R.sim.srt.dF (some k) x,R.sim.env.dF (d:=some k) (hd.mono fun _ q=>q.elim),hm.1,R.sim.lt⟩
theorem Res.XW {ρ:Nat→Nat} {V A:Nat→Prop} {ρ':Nat→Nat} {V' A':Nat→Prop}:∀ (l:List Nat) {s1 s2:WSt} {s1':St},Res base m0 ρ V A s1 s1' ρ' V' A'→lT l s1=some s2 →
 ∃ s2',kR l s1'=some s2'∧s2'.next=s1'.next∧Res base m0 ρ V A s2 s2' ρ' V' A'
 | [],s1,s2,s1',R,h=>by simp only [lT,Option.some.injEq] at h;subst h;exact ⟨s1',rfl,rfl,R⟩
 | k::l,s1,s2,s1',R,h=>by
  simp only [lT] at h
  obtain ⟨s3,h1,h2⟩:=au h
  obtain ⟨s3',h3,e3,R3⟩:=R.frz h1
  obtain ⟨s2',h4,e4,R4⟩:=Res.XW l R3 h2
  exact ⟨s2',by simp only [kR,h3,ob];exact h4,e4.trans e3,R4⟩
theorem Keeps.old {ρ:Nat→Nat} {V A:Nat→Prop} {ρ':Nat→Nat} {V' A':Nat→Prop} (k:Keeps ρ V A ρ' V' A') (hn:∀ b,b < base→A' b→A b):Old base ρ V A ρ' V' A':=fun b hb=>⟨k b,hn b hb⟩
theorem aeG (hr:yx run run'):∀ (l:List aZ) (s s1:WSt),(l.all fun o=>iP o.op)=true→iO C run l s=some s1→∀ (s':St) (ρ:Nat→Nat) (V A:Nat→Prop),Sim ρ V A s s'→base≤s.next→Hi base m0 ρ V A→m0≤s'.next →
 ∃ s1' ρ' V' A',jq (fF C) run' (l.map sH) s'=some s1'∧Res base m0 ρ V A s1 s1' ρ' V' A'∧m0≤s1'.next:=by
 intro l
 induction l with
 | nil =>
  intro s s1 _ he s' ρ V A S hb hi hm
  simp only [iO,Option.some.injEq] at he;subst he
  exact ⟨s',ρ,V,A,rfl,⟨S,hb,Old.refl base ρ V A,hi⟩,hm⟩
 | cons o l ih =>
  intro s s1 hok he s' ρ V A S hb hi hm
  simp only [List.all_cons,Bool.and_eq_true] at hok
  simp only [iO] at he
  obtain ⟨d,h1,he⟩:=au he
  have lt':Lts ρ V A (s.next+1) (s'.next+1):=⟨fun b hb=>Nat.lt_succ_of_lt (S.lt.w b hb),fun b hb hv=>Nat.lt_succ_of_lt (S.lt.p b hb hv)⟩
  obtain ⟨d',ρ1,V1,A1,h2,O⟩:=aa4 hr S.env S.heap lt' (nid:=s.next) (mid:=s'.next) (fun q=>Nat.lt_irrefl _ (S.lt.w _ q)) (Nat.lt_succ_self _) (fun b hb hv=>Nat.ne_of_lt (S.lt.p b hb hv)) (Nat.lt_succ_self _) hok.1 h1
  have S1:Sim ρ1 V1 A1 ⟨eH s.env o.dst d.v,d.h,d.n⟩ ⟨dF s'.env o.dst d'.v,d'.h,d'.n⟩:=⟨S.srt.dF _ _,(S.env.mono O.keeps).dF O.v,O.h,O.lt⟩
  have hi1:Hi base m0 ρ1 V1 A1:=by
   intro b q1 q2 q3
   rcases O.aj1 b q1 q2 with ⟨q4,q5⟩ | q4 | q4
   · rw [q5];exact hi b q4 (fun q=>q2 ((O.keeps b q4).2.2.2 q)) q3
   · omega
   · omega
  have hb1:base≤d.n:=by have:=O.next;omega
  have hm1:m0≤d'.n:=by have:=O.aik;omega
  obtain ⟨s1',ρ2,V2,A2,h3,R,h4⟩:=ih ⟨eH s.env o.dst d.v,d.h,d.n⟩ s1 hok.2 he _ ρ1 V1 A1 S1 hb1 hi1 hm1
  have o1:Old base ρ V A ρ1 V1 A1:=Keeps.old O.keeps fun b hbb hA=>by
   rcases O.new b hA with q | q | q
   · exact q
   · omega
   · omega
  refine ⟨s1',ρ2,V2,A2,?_,⟨R.sim,R.kN,o1.trans R.old,R.hi⟩,h4⟩
  simp only [List.map_cons,jq]
  have:(sH o).dst=o.dst:=rfl
  rw [h2]
  simp only [ob,this]
  exact h3
def qm (ρ:Nat→Nat) (V A:Nat→Prop) (d:lI) (d':Did):Prop :=
 (d'.bar=true→d.bar=true)∧(∀ b ∈ d'.rd,∃ c ∈ d.rd,b=ρ c∧¬ V c∧A c)∧(∀ b ∈ d'.wr,∃ c ∈ d.wr,b=ρ c∧¬ V c∧A c)
theorem qm.mono {ρ ρ':Nat→Nat} {V A V' A':Nat→Prop} {d:lI} {d':Did} (h:qm ρ V A d d') (k:Keeps ρ V A ρ' V' A'):qm ρ' V' A' d d':=by
 refine ⟨h.1,fun b hb=>?_,fun b hb=>?_⟩
 · obtain ⟨c,h1,h2,h3,h4⟩:=h.2.1 b hb
   obtain ⟨k1,k2,k3⟩:=k c h4
   exact ⟨c,h1,by rw [k2];exact h2,fun q=>h3 (k3.1 q),k1⟩
 · obtain ⟨c,h1,h2,h3,h4⟩:=h.2.2 b hb
   obtain ⟨k1,k2,k3⟩:=k c h4
   exact ⟨c,h1,by rw [k2];exact h2,fun q=>h3 (k3.1 q),k1⟩
theorem H7 {ρ:Nat→Nat} {V A:Nat→Prop} (inj:∀ b c,A b→A c→¬ V b→¬ V c→ρ b=ρ c→b=c) {a b:List Nat} {a' b':List Nat}
 (ha:∀ x ∈ a',∃ c ∈ a,x=ρ c∧¬ V c∧A c) (hb:∀ x ∈ b',∃ c ∈ b,x=ρ c∧¬ V c∧A c) (h:meets a' b'=true):meets a b=true:=by
 simp only [meets,List.any_eq_true,decide_eq_true_eq] at h ⊢
 obtain ⟨x,hx,y,hy,rfl⟩:=h
 obtain ⟨c,h1,h2,h3,h4⟩:=ha x hx
 obtain ⟨d,h5,h6,h7,h8⟩:=hb x hy
 have:=inj c d h4 h8 h3 h7 (h2.symm.trans h6)
 subst this
 exact ⟨c,h1,c,h5,rfl⟩
theorem aa5 {ρ:Nat→Nat} {V A:Nat→Prop} (inj:∀ b c,A b→A c→¬ V b→¬ V c→ρ b=ρ c→b=c) {a b:lI} {a' b':Did} (ha:qm ρ V A a a') (hb:qm ρ V A b b') (h:VI a b=false):clash a' b'=false:=by
 have nt:∀ {x y:Bool},(x=true→y=true)→y=false→x=false:=by
  intro x y q1 q2;cases x <;> simp_all
 have qt:∀ {d:lI} {d':Did},qm ρ V A d d'→Dc d=true→quiet d'=true:=by
  intro d d' hd hq
  simp only [Dc,Bool.and_eq_true,Bool.not_eq_true',List.isEmpty_iff] at hq
  simp only [quiet,Bool.and_eq_true,Bool.not_eq_true',List.isEmpty_iff]
  refine ⟨nt hd.1 hq.1,?_,?_⟩
  · cases hw:d'.wr with
    | nil=>rfl
    | cons b r =>
     obtain ⟨c,h1,_⟩:=hd.2.2 b (by rw [hw];exact List.mem_cons_self)
     rw [hq.2.1] at h1;cases h1
  · cases hw:d'.rd with
    | nil=>rfl
    | cons b r =>
     obtain ⟨c,h1,_⟩:=hd.2.1 b (by rw [hw];exact List.mem_cons_self)
     rw [hq.2.2] at h1;cases h1
 unfold VI at h
 unfold clash
 cases qa:Dc a with
 | true=>rw [qt ha qa];simp
 | false =>
  cases qb:Dc b with
  | true=>rw [qt hb qb];simp
  | false =>
   rw [qa,qb] at h
   simp only [Bool.or_self,Bool.not_false,Bool.true_and,Bool.or_eq_false_iff] at h
   obtain ⟨h1,h2,h3,h4,h5⟩:=h
   have e:(a'.bar||(b'.bar||(meets a'.wr b'.wr||(meets a'.wr b'.rd||meets a'.rd b'.wr))))=false:=by
    simp only [Bool.or_eq_false_iff]
    exact ⟨nt ha.1 h1,nt hb.1 h2,nt (H7 inj ha.2.2 hb.2.2) h3,nt (H7 inj ha.2.2 hb.2.1) h4,nt (H7 inj ha.2.1 hb.2.2) h5⟩
   rw [e,Bool.and_false]
theorem adQ (hr:yx run run'):∀ (l:List aZ) (nid:Nat) (s s1:WSt) (ds ds1:List lI),(l.all fun o=>iP o.op)=true→eP C run l nid s ds=some (s1,ds1) →
 ∀ (mid:Nat) (s':St) (ds':List Did) (ρ:Nat→Nat) (V A:Nat→Prop),Sim ρ V A s s'→base≤nid→nid+l.length≤s.next→(∀ b,A b→b < nid∨nid+l.length≤b)→Hi base m0 ρ V A→m0≤mid→mid+l.length≤s'.next →
  (∀ b,A b→¬ V b→ρ b < mid∨mid+l.length≤ρ b)→bn (qm ρ V A) ds ds' →
 ∃ s1' ds1' ρ' V' A',jS (fF C) run' (l.map sH) mid s' ds'=some (s1',ds1')∧Res base m0 ρ V A s1 s1' ρ' V' A'∧m0≤s1'.next∧bn (qm ρ' V' A') ds1 ds1':=by
 intro l
 induction l with
 | nil =>
  intro nid s s1 ds ds1 _ he mid s' ds' ρ V A S hb hnl _ hi hm hml _ hds
  simp only [eP,Option.some.injEq,Prod.mk.injEq] at he
  obtain ⟨rfl,rfl⟩:=he
  simp only [List.length_nil] at hnl hml
  exact ⟨s',ds',ρ,V,A,rfl,⟨S,by omega,Old.refl base ρ V A,hi⟩,by omega,hds⟩
 | cons o l ih =>
  intro nid s s1 ds ds1 hok he mid s' ds' ρ V A S hb hnl hgap hi hm hml hgap' hds
  simp only [List.all_cons,Bool.and_eq_true] at hok
  simp only [List.length_cons] at hnl hml hgap hgap'
  simp only [eP] at he
  obtain ⟨d,h1,he⟩:=au he
  have hn:¬ A nid:=fun q=>by rcases hgap nid q with q | q <;> omega
  obtain ⟨d',ρ1,V1,A1,h2,O⟩:=aa4 hr S.env S.heap S.lt (nid:=nid) (mid:=mid) hn (by omega) (fun b hbb hv=>by rcases hgap' b hbb hv with q | q <;> omega) (by omega) hok.1 h1
  have S1:Sim ρ1 V1 A1 ⟨eH s.env o.dst d.v,d.h,d.n⟩ ⟨dF s'.env o.dst d'.v,d'.h,d'.n⟩:=⟨S.srt.dF _ _,(S.env.mono O.keeps).dF O.v,O.h,O.lt⟩
  have hi1:Hi base m0 ρ1 V1 A1:=by
   intro b q1 q2 q3
   rcases O.aj1 b q1 q2 with ⟨q4,q5⟩ | q4 | q4
   · rw [q5];exact hi b q4 (fun q=>q2 ((O.keeps b q4).2.2.2 q)) q3
   · omega
   · omega
  have hds1:bn (qm ρ1 V1 A1) (ds++[d]) (ds'++[d']):=(hds.mono fun x y _ hxy=>hxy.mono O.keeps).append (.cons ⟨O.bar,O.rd,O.wr⟩ .nil)
  obtain ⟨s1',ds1',ρ2,V2,A2,h3,R,h4,h5⟩:=ih (nid+1) ⟨eH s.env o.dst d.v,d.h,d.n⟩ s1 (ds++[d]) ds1 hok.2 he (mid+1) _ (ds'++[d']) ρ1 V1 A1 S1 (by omega) (by have:=O.next;simp only;omega)
   (fun b hbb=>by
    rcases O.new b hbb with q | q | q
    · rcases hgap b q with q | q <;> omega
    · omega
    · omega) hi1 (by omega) (by have:=O.aik;simp only;omega)
   (fun b hbb hv=>by
    rcases O.aj1 b hbb hv with ⟨q,q5⟩ | q | q
    · rw [q5];rcases hgap' b q (fun q6=>hv ((O.keeps b q).2.2.2 q6)) with q | q <;> omega
    · omega
    · omega) hds1
  have o1:Old base ρ V A ρ1 V1 A1:=Keeps.old O.keeps fun b hbb hA=>by
   rcases O.new b hA with q | q | q
   · exact q
   · omega
   · omega
  refine ⟨s1',ds1',ρ2,V2,A2,?_,⟨R.sim,R.kN,o1.trans R.old,R.hi⟩,h4,h5⟩
  simp only [List.map_cons,jS]
  have:(sH o).dst=o.dst:=rfl
  rw [h2]
  simp only [ob,this]
  exact h3
theorem acA {ρ:Nat→Nat} {V A:Nat→Prop} (inj:∀ b c,A b→A c→¬ V b→¬ V c→ρ b=ρ c→b=c) {ds:List lI} {ds':List Did} (h:bn (qm ρ V A) ds ds') {p:Nat × Nat} (ha:GU ds p=true):apart ds' p=true:=by
 unfold GU at ha
 split at ha
 · rename_i a b h1 h2
   obtain ⟨a',h3,h4⟩:=h.get h1
   obtain ⟨b',h5,h6⟩:=h.get h2
   unfold apart
   rw [h3,h5]
   simp only [Bool.not_eq_true'] at ha ⊢
   exact aa5 inj h4 h6 ha
 · cases ha
def EC (C:aG) (k:Nat):Prop :=
 ∀ (base:Nat) (c:ay) (s:WSt) (ex:Ex) (s1:WSt),okC c=true→evW C k base c s=some (ex,s1)→∀ (m0:Nat) (s':St) (ρ:Nat→Nat) (V A:Nat→Prop),Sim ρ V A s s'→base≤s.next→Hi base m0 ρ V A→m0≤s'.next →
  ∃ s1' ρ' V' A',evC (fF C) k (erC c) s'=some (ex,s1')∧Res base m0 ρ V A s1 s1' ρ' V' A'∧m0≤s1'.next
theorem Xq:∀ l:List AV,(erL l).length=l.length
 | []=>rfl
 | _::r=>by simp only [erL,List.length_cons,Xq r]
theorem agC {j:Nat} {s:WSt} {s':St} {ρ:Nat→Nat} {V A:Nat→Prop} (S:Sim ρ V A s s') (hb:base≤s.next) (hi:Hi base m0 ρ V A) (hm:m0≤s'.next) {z b:Nat} {xe:Bool} {zz:List AV} {u:AV} (hu:get s'.env 0=some u) (hr:VW ρ V A (.ro z [] xe) u) (hl:zz.length=z) :
 ∃ s1' ρ' V' A',evC (fF C) (j+8+1) (ahk zz b) s'=some (.ret,s1') ∧
  Res base m0 ρ V A ⟨[(2,.sl s.next z 0 0 0 true)],put s.heap s.next (.cells z [] true true),s.next+1⟩ s1' ρ' V' A'∧m0≤s1'.next:=by
 have hn:¬ A s.next:=fun q=>Nat.lt_irrefl _ (S.lt.w _ q)
 obtain ⟨e0,h0,m⟩:=s'
 simp only at hu hm
 have hmo:∀ b,A b→addN A s.next b∧ρ b=ρ b∧((V b∨b=s.next)↔V b):=fun b q=>⟨.inl q,rfl,⟨fun h=>h.elim id fun e=>absurd (e ▸ q) hn,.inl⟩⟩
 cases hr with
 | kX =>
  refine ⟨⟨put (put (put (put e0 2 .bC) 3 .bC) 4 (.bool true)) 2 .bC,h0,m+4⟩,ρ,fun b=>V b∨b=s.next,addN A s.next,?_,⟨⟨by simp [Srt],?_,⟨?_,?_,?_,?_,?_⟩,⟨?_,?_⟩⟩,Nat.le_succ_of_le hb,?_,?_⟩,Nat.le_trans hm (Nat.le_add_right _ _)⟩
  · simp [ahk,evC,jq,iV,wants,jr,callOf,aJ,sMv,Io,iD,UZ,Opd.ev,ob,om,get_put,dF,hu,jB,kR,gI,bK,oP,aQ]
  · intro k v hk
    simp only [Pav.get] at hk
    split at hk
    · rename_i e;subst e;cases hk
      exact ⟨.bC,by simp [get_put],.slv _ _ _ _ (.inr rfl) (.inr rfl) (.inl rfl)⟩
    · cases hk
  · intro b o hbo
    rw [get_put] at hbo
    split at hbo
    · rename_i e;exact .inr e.symm
    · exact .inl (S.heap.dom b o hbo)
  · intro b o hbo hv
    rw [get_put] at hbo
    split at hbo
    · cases hbo;exact ⟨z,true,true,rfl⟩
    · rename_i e
      exact S.heap.xU b o hbo (hv.resolve_right fun q=>e q.symm)
  · intro b o hbo hv
    rw [get_put] at hbo
    split at hbo
    · rename_i e;exact absurd (.inr e.symm) hv
    · obtain ⟨o',h1,h2⟩:=S.heap.obj b o hbo (fun q=>hv (.inl q))
      exact ⟨o',h1,h2.mono hmo⟩
  · rintro b (q | q)
    · exact .inl (S.heap.sub b q)
    · exact .inr q
  · rintro b c hb hc vb vc
    exact S.heap.inj b c (hb.resolve_right fun q=>vb (.inr q)) (hc.resolve_right fun q=>vc (.inr q)) (fun q=>vb (.inl q)) (fun q=>vc (.inl q))
  · rintro b (q | q)
    · exact Nat.lt_succ_of_lt (S.lt.w b q)
    · subst q;exact Nat.lt_succ_self _
  · intro b q v
    have:=S.lt.p b (q.resolve_right fun e=>v (.inr e)) (fun e=>v (.inl e))
    simp only at this ⊢;omega
  · intro b hbb
    have hne:b≠s.next:=by omega
    exact ⟨fun q=>hmo b q,fun q=>q.resolve_right hne⟩
  · intro b q v hbb
    exact hi b (q.resolve_right fun e=>v (.inr e)) (fun e=>v (.inl e)) hbb
 | ro _ _ es' _ ex' hc hl2 hx he hr =>
  have:es'=[]:=List.length_eq_zero_iff.1 hl2.symm
  subst this
  have hne:∀ b,A b→¬ V b→ρ b≠m+3:=fun b q v e=>by have:=S.lt.p b q v;simp only at this;omega
  refine ⟨⟨put (put (put (put (put (put (put e0 2 .bC) 3 (.ro z [] ex')) 4 (.bool false)) 5 (.sl (m+3) z 0 0 0 true)) 6 (.ro z [] ex')) 7 (.sl (m+3) z 0 0 0 true)) 2 (.sl (m+3) z 0 0 0 true),put h0 (m+3) (.cells z [] true),m+7⟩,up ρ s.next (m+3),V,addN A s.next,?_,
   ⟨⟨by simp [Srt],?_,oI S.heap hn hne ⟨[],true,rfl,fun h=>h,.nil,fun _ e he=>by cases he⟩,⟨?_,?_⟩⟩,Nat.le_succ_of_le hb,?_,?_⟩,Nat.le_trans hm (Nat.le_add_right _ _)⟩
  · simp [ahk,evC,jq,iV,wants,jr,callOf,aJ,sMv,Io,iD,UZ,Bh,kL,Vm,elems,jX,uf,Opd.ev,ob,om,get_put,dF,hu,hl,jB,kR,gI,bK,oP,aQ]
  · intro k v hk
    simp only [Pav.get] at hk
    split at hk
    · rename_i e;subst e;cases hk
      refine ⟨.sl (m+3) z 0 0 0 true,by simp [get_put],?_⟩
      have:up ρ s.next (m+3) s.next=m+3:=by simp [up]
      have key:=VW.sl (ρ:=up ρ s.next (m+3)) (V:=V) (A:=addN A s.next) s.next z 0 0 0 true true (.inr rfl) (fun q=>hn (S.heap.sub _ q)) (fun h=>h)
      rw [this] at key
      exact key
    · cases hk
  · rintro b (q | q)
    · exact Nat.lt_succ_of_lt (S.lt.w b q)
    · subst q;exact Nat.lt_succ_self _
  · intro b q v
    unfold up
    split
    · simp
    · rename_i e
      have:=S.lt.p b (q.resolve_right e) v
      simp only at this ⊢;omega
  · intro b hbb
    have hne2:b≠s.next:=by omega
    exact ⟨fun q=>qj hn b q,fun q=>q.resolve_right hne2⟩
  · intro b q v hbb
    unfold up
    split
    · omega
    · rename_i e
      exact hi b (q.resolve_right e) v hbb
theorem Z8 {k:Nat} (ih:EC C k) (hr:yx (fD C (evW C k)) (runWith (fF C) (evC (fF C) k))):EC C (k+1):=by
 intro base c s ex s1 hok he m0 s' ρ V A S hb hi hm
 cases c with
 | skip=>simp only [evW,Option.some.injEq,Prod.mk.injEq] at he;obtain ⟨rfl,rfl⟩:=he;exact ⟨s',ρ,V,A,rfl,⟨S,hb,Old.refl base ρ V A,hi⟩,hm⟩
 | exit id=>simp only [evW,Option.some.injEq,Prod.mk.injEq] at he;obtain ⟨rfl,rfl⟩:=he;exact ⟨s',ρ,V,A,rfl,⟨S,hb,Old.refl base ρ V A,hi⟩,hm⟩
 | ret=>simp only [evW,Option.some.injEq,Prod.mk.injEq] at he;obtain ⟨rfl,rfl⟩:=he;exact ⟨s',ρ,V,A,rfl,⟨S,hb,Old.refl base ρ V A,hi⟩,hm⟩
 | fail=>simp [evW] at he
 | cln zz z b =>
  simp only [evW] at he
  split at he
  · rename_i z' hz
    split at he
    · rename_i hc
      obtain ⟨rfl,hzz,hk⟩:=hc
      simp only [Option.some.injEq,Prod.mk.injEq] at he
      obtain ⟨rfl,rfl⟩:=he
      obtain ⟨x,hx,hx2⟩:=Option.bind_eq_some_iff.1 hz
      obtain ⟨j,rfl⟩:∃ j,k=j+8:=⟨k - 8,by omega⟩
      obtain ⟨u,hu,hr⟩:=S.env 0 x hx
      obtain ⟨xe,hxe⟩:∃ e,x=.ro z' [] e:=by
       unfold JF at hx2
       split at hx2
       · cases hx2;exact ⟨_,rfl⟩
       · cases hx2
      subst hxe
      have hl:(erL zz).length=z':=by rw [Xq];exact hzz
      exact agC S hb hi hm hu hr hl
    · cases he
  · obtain ⟨s1',ρ1,V1,A1,h3,R,h4⟩:=ih base (akt zz z b) s ex s1 (by simpa [okC,akt,iP,okO,okV,okL] using hok) he m0 s' ρ V A S hb hi hm
    exact ⟨s1',ρ1,V1,A1,fM k (k+1) (Nat.le_succ k) _ _ _ h3,R,h4⟩
 | ops l a =>
  simp only [evW] at he
  obtain ⟨s2,h1,he⟩:=au he
  obtain ⟨s3,h2,he⟩:=aC he
  cases he
  obtain ⟨s1',ρ1,V1,A1,h3,R,h4⟩:=aeG hr l s s2 hok h1 s' ρ V A S hb hi hm
  obtain ⟨s2b,h2b,h2⟩:=au h2
  obtain ⟨s2b',h5,e5,R5⟩:=R.XW _ h2b
  obtain ⟨ρ2,V2,A2,R2⟩:=R5.canon h2 (.inr rfl)
  exact ⟨_,ρ2,V2,A2,by simp only [erC,evC,h3,ob,jB,h5,om],R2,by rw [← e5] at h4;exact h4⟩
 | draw l un a =>
  simp only [evW] at he
  obtain ⟨⟨s2,ds⟩,h1,he⟩:=au he
  unfold uF at he
  split at he
  · rename_i hap
    obtain ⟨s3,h2,he⟩:=aC he
    cases he
    have S0:Sim ρ V A ⟨s.env,s.heap,s.next+l.length⟩ ⟨s'.env,s'.heap,s'.next+l.length⟩:=⟨S.srt,S.env,S.heap,fun b q=>Nat.lt_of_lt_of_le (S.lt.w b q) (Nat.le_add_right _ _),fun b q v=>Nat.lt_of_lt_of_le (S.lt.p b q v) (Nat.le_add_right _ _)⟩
    obtain ⟨s1',ds1',ρ1,V1,A1,h3,R,h4,h5⟩:=adQ hr l s.next _ s2 [] ds hok h1 s'.next _ [] ρ V A S0 hb (Nat.le_refl _) (fun b q=>.inl (S.lt.w b q)) hi hm (Nat.le_refl _) (fun b q v=>.inl (S.lt.p b q v)) .nil
    obtain ⟨s2b,h2b,h2⟩:=au h2
    obtain ⟨s2b',h6,e6,R6⟩:=R.XW _ h2b
    obtain ⟨ρ2,V2,A2,R2⟩:=R6.canon h2 (.inr rfl)
    refine ⟨_,ρ2,V2,A2,?_,R2,by rw [← e6] at h4;exact h4⟩
    simp only [erC,evC,List.length_map]
    rw [h3]
    simp only [ob,wV,jB,h6,om]
    rw [if_pos]
    simp only [List.all_eq_true] at hap ⊢
    exact fun p hp=>acA R.sim.heap.inj h5 (hap p hp)
  · cases he
 | seq a b =>
  simp only [okC,Bool.and_eq_true] at hok
  simp only [evW] at he
  obtain ⟨⟨e1,s2⟩,h1,he⟩:=au he
  obtain ⟨s1',ρ1,V1,A1,h3,R,h4⟩:=ih base a s e1 s2 hok.1 h1 m0 s' ρ V A S hb hi hm
  cases e1 with
  | norm =>
   simp only [eG] at he
   obtain ⟨s2',ρ2,V2,A2,h5,R2,h6⟩:=ih base b s2 ex s1 hok.2 he m0 s1' ρ1 V1 A1 R.sim R.kN R.hi h4
   exact ⟨s2',ρ2,V2,A2,by simp only [erC,evC,h3,ob,bK,h5],⟨R2.sim,R2.kN,R.old.trans R2.old,R2.hi⟩,h6⟩
  | exit id=>simp only [eG,Option.some.injEq,Prod.mk.injEq] at he;obtain ⟨rfl,rfl⟩:=he;exact ⟨s1',ρ1,V1,A1,by simp only [erC,evC,h3,ob,bK],R,h4⟩
  | ret=>simp only [eG,Option.some.injEq,Prod.mk.injEq] at he;obtain ⟨rfl,rfl⟩:=he;exact ⟨s1',ρ1,V1,A1,by simp only [erC,evC,h3,ob,bK],R,h4⟩
 | cond c a b =>
  simp only [okC,Bool.and_eq_true] at hok
  simp only [evW] at he
  have hc:=S.env.opd hok.1
  unfold xH at he
  split at he
  · rename_i t ht
    rw [ht] at hc
    cases t with
    | true =>
     simp only [if_true] at he
     obtain ⟨s1',ρ1,V1,A1,h3,R,h4⟩:=ih base a s ex s1 hok.2.1 he m0 s' ρ V A S hb hi hm
     exact ⟨s1',ρ1,V1,A1,by simp only [erC,evC,hc.fB,oP,if_true];exact h3,R,h4⟩
    | false =>
     simp only [Bool.false_eq_true,if_false] at he
     obtain ⟨s1',ρ1,V1,A1,h3,R,h4⟩:=ih base b s ex s1 hok.2.2 he m0 s' ρ V A S hb hi hm
     exact ⟨s1',ρ1,V1,A1,by simp only [erC,evC,hc.fB,oP,Bool.false_eq_true,if_false];exact h3,R,h4⟩
  · cases he
 | block id b a =>
  simp only [okC] at hok
  simp only [evW] at he
  obtain ⟨⟨e1,s2⟩,h1,he⟩:=au he
  obtain ⟨s1',ρ1,V1,A1,h3,R,h4⟩:=ih base b s e1 s2 hok h1 m0 s' ρ V A S hb hi hm
  cases e1 with
  | norm =>
   simp only [kM] at he
   obtain ⟨s3,h5,he⟩:=aC he
   cases he
   obtain ⟨ρ2,V2,A2,R2⟩:=R.canon h5 (.inl rfl)
   exact ⟨s1',ρ2,V2,A2,by simp only [erC,evC,h3,om,bW],R2,h4⟩
  | exit i =>
   simp only [kM] at he
   split at he
   · rename_i hid
     obtain ⟨s3,h5,he⟩:=aC he
     cases he
     obtain ⟨ρ2,V2,A2,R2⟩:=R.canon h5 (.inl rfl)
     exact ⟨s1',ρ2,V2,A2,by simp only [erC,evC,h3,om,bW,if_pos hid],R2,h4⟩
   · rename_i hid
     simp only [Option.some.injEq,Prod.mk.injEq] at he;obtain ⟨rfl,rfl⟩:=he
     exact ⟨s1',ρ1,V1,A1,by simp only [erC,evC,h3,om,bW,if_neg hid],R,h4⟩
  | ret =>
   simp only [kM,Option.some.injEq,Prod.mk.injEq] at he;obtain ⟨rfl,rfl⟩:=he
   exact ⟨s1',ρ1,V1,A1,by simp only [erC,evC,h3,om,bW],R,h4⟩
 | loop a b =>
  have hok':okC b=true:=hok
  simp only [evW] at he
  obtain ⟨s0,h0,he⟩:=au he
  obtain ⟨⟨e1,s2⟩,h1,he⟩:=au he
  obtain ⟨ρ0,V0,A0,R0⟩:=(⟨S,hb,Old.refl base ρ V A,hi⟩:Res base m0 ρ V A s s' ρ V A).canon h0 (s2':=gI (sF a) s') (.inr rfl)
  obtain ⟨s1',ρ1,V1,A1,h3,R,h4⟩:=ih base b s0 e1 s2 hok' h1 m0 _ ρ0 V0 A0 R0.sim R0.kN R0.hi hm
  have R':Res base m0 ρ V A s2 s1' ρ1 V1 A1:=⟨R.sim,R.kN,R0.old.trans R.old,R.hi⟩
  cases e1 with
  | norm =>
   simp only [eG] at he
   obtain ⟨s2',ρ2,V2,A2,h5,R2,h6⟩:=ih base (.loop a b) s2 ex s1 hok he m0 s1' ρ1 V1 A1 R.sim R.kN R.hi h4
   exact ⟨s2',ρ2,V2,A2,by simp only [erC,evC,h3,ob,bK];exact h5,⟨R2.sim,R2.kN,R'.old.trans R2.old,R2.hi⟩,h6⟩
  | exit id=>simp only [eG,Option.some.injEq,Prod.mk.injEq] at he;obtain ⟨rfl,rfl⟩:=he;exact ⟨s1',ρ1,V1,A1,by simp only [erC,evC,h3,ob,bK],R',h4⟩
  | ret=>simp only [eG,Option.some.injEq,Prod.mk.injEq] at he;obtain ⟨rfl,rfl⟩:=he;exact ⟨s1',ρ1,V1,A1,by simp only [erC,evC,h3,ob,bK],R',h4⟩
theorem GN {ρ:Nat→Nat} {V A:Nat→Prop} {e:Env} {e':Env} {h:aK} {h':Heap} (he:EW ρ V A e e') (H:HW ρ V A h h') {rs:List tC} {v:AV} (hv:Ip e h rs=some v):∃ v',Pav.results e' h' rs=some v'∧VW ρ V A v v':=by
 obtain ⟨vs,h1,rfl⟩:=aC hv
 have one:∀ r x,Dh e h r=some x→∃ x',Iw e' h' r=some x'∧VW ρ V A x x':=by
  intro r x hx
  cases r with
  | tmp t=>exact he t x hx
  | cell t k ag =>
   simp only [Dh] at hx
   split at hx
   · rename_i b i o hg
     obtain ⟨p,h2,h3⟩:=he t _ hg
     obtain ⟨rfl,hA,hV⟩:=h3.iT
     unfold xG at hx
     split at hx
     · rename_i z es mu dt hgb
       obtain ⟨cs,h4,h5⟩:=au hx
       obtain ⟨o',g1,es',mu',rfl,_,ge,_⟩:=H.obj b _ hgb hV
       obtain ⟨cs',h6,h7⟩:=ge.get h4
       obtain ⟨v',h8,h9⟩:=tX (h7.drop o) h5
       exact ⟨v',by simp only [Iw,h2,g1,loadAt,h6,ob];exact h8,h9⟩
     · cases hx
   · cases hx
 have lst:∀ (rs:List tC) (vs:List AV),bG (Dh e h) rs=some vs→∃ vs',bG (Iw e' h') rs=some vs'∧bn (VW ρ V A) vs vs':=by
  intro rs
  induction rs with
  | nil=>intro vs hq;simp only [bG,Option.some.injEq] at hq;subst hq;exact ⟨[],rfl,.nil⟩
  | cons r rs ih =>
   intro vs hq
   simp only [bG] at hq ⊢
   obtain ⟨x,h2,hq⟩:=au hq
   obtain ⟨xs,h3,rfl⟩:=aC hq
   obtain ⟨x',h4,h5⟩:=one r x h2
   obtain ⟨xs',h6,h7⟩:=ih xs h3
   exact ⟨x'::xs',by rw [h4,h6];rfl,.cons h5 h7⟩
 obtain ⟨vs',h2,h3⟩:=lst rs vs h1
 refine ⟨Gj vs',by simp only [Pav.results,h2,om],?_⟩
 cases vs with
 | nil=>rw [h3.dW];exact VW.mQ .nil
 | cons a r =>
  obtain ⟨b,t,rfl,h4,h5⟩:=h3.dn
  cases r with
  | nil=>rw [h5.dW];exact h4
  | cons a2 r2 =>
   obtain ⟨b2,t2,rfl,h6,h7⟩:=h5.dn
   exact VW.mQ (.cons h4 (.cons h6 h7))
theorem Vx:∀ (l:List AV) (k j:Nat),get (eU k l) j=if j < k then none else l[j - k]?:=by
 intro l
 induction l with
 | nil=>intro k j;simp [eU,Pav.get]
 | cons a l ih =>
  intro k j
  simp only [eU,Pav.get]
  by_cases h1:k=j
  · subst h1;simp
  · rw [if_neg h1,ih]
    by_cases h2:j < k
    · rw [if_pos (by omega),if_pos h2]
    · rw [if_neg (by omega),if_neg h2]
      have:j - k=(j - (k+1))+1:=by omega
      rw [this];simp
theorem Ur:∀ (t:qE) (g:Nat),(CX t).get g=(t.get g).map aO:=by
 intro t
 induction t with
 | leaf=>intro g;rfl
 | node l k f r ihl ihr =>
  intro g
  simp only [CX,Tree.get,qE.get]
  split
  · rfl
  · split
    · exact ihl g
    · exact ihr g
theorem UM:∀ (t:qE) (g:Nat) (f:WFn),rO t=true→t.get g=some f→okC f.body=true:=by
 intro t
 induction t with
 | leaf=>intro g f _ h;simp [qE.get] at h
 | node l k f r ihl ihr =>
  intro g f' hok h
  simp only [rO,Bool.and_eq_true] at hok
  simp only [qE.get] at h
  split at h
  · cases h;exact hok.2.1
  · split at h
    · exact ihl g f' hok.1 h
    · exact ihr g f' hok.2.2 h
theorem VX (hok:rO C.fns=true) {k:Nat} (hc:EC C k):yx (fD C (evW C k)) (runWith (fF C) (evC (fF C) k)):=by
 intro f args h n v h1 n1 hrun ρ V A args' h' m ha H lt
 unfold fD at hrun
 obtain ⟨fn,hf,hrun⟩:=au hrun
 split at hrun
 · rename_i hl
   obtain ⟨⟨ex,s1⟩,h2,h3⟩:=au hrun
   have S:Sim ρ V A ⟨IY 0 args [],h,n⟩ ⟨eU 0 args',h',m⟩:=by
    refine ⟨agE args 0,fun j x hj=>?_,H,lt⟩
    have hj2:get (eU 0 args) j=some x:=by
     have hm:=get_mem hj
     rw [VU,List.append_nil] at hm
     have hm2:=List.mem_reverse.1 hm
     have key:∀ (l:List AV) (k:Nat),(j,x) ∈ eU k l→get (eU k l) j=some x:=by
      intro l
      induction l with
      | nil=>intro k hq;simp [eU] at hq
      | cons v l ih =>
       intro k hq
       simp only [eU,Pav.get]
       rcases List.mem_cons.1 hq with q | q
       · cases q;simp
       · have:=(PW l (k+1)).2 _ q
         simp only at this
         rw [if_neg (by omega)]
         exact ih (k+1) q
     exact key args 0 hm2
    simp only [Vx,Nat.not_lt_zero,if_false,Nat.sub_zero] at hj2 ⊢
    exact ha.get hj2
   obtain ⟨s1',ρ1,V1,A1,h4,R,h5⟩:=hc n fn.body _ ex s1 (UM _ _ _ hok hf) h2 m ⟨eU 0 args',h',m⟩ ρ V A S (Nat.le_refl _) (fun b hb _ hn=>absurd (lt.w b hb) (by omega)) (Nat.le_refl _)
   have fin:∃ v',Pav.results s1'.env s1'.heap fn.res=some v'∧VW ρ1 V1 A1 v v'∧s1.heap=h1∧s1.next=n1∧∀ i,ex≠.exit i:=by
    unfold iW at h3
    cases ex with
    | exit i=>cases h3
    | norm =>
     obtain ⟨w,q1,q2⟩:=aC h3
     cases q2
     obtain ⟨v',q3,q4⟩:=GN R.sim.env R.sim.heap q1
     exact ⟨v',q3,q4,rfl,rfl,fun i e=>by cases e⟩
    | ret =>
     obtain ⟨w,q1,q2⟩:=aC h3
     cases q2
     obtain ⟨v',q3,q4⟩:=GN R.sim.env R.sim.heap q1
     exact ⟨v',q3,q4,rfl,rfl,fun i e=>by cases e⟩
   obtain ⟨v',h6,h7,rfl,rfl,h8⟩:=fin
   refine ⟨v',s1'.heap,s1'.next,ρ1,V1,A1,?_,h7,R.sim.heap,R.sim.lt,fun b hb=>(R.old b (lt.w b hb)).1 hb,fun b hb=>?_,fun b hb hv=>?_,R.kN,h5⟩
   · unfold runWith
     have:(fF C).fns.get f=some (aO fn):=by
      show (CX C.fns).get f=_
      rw [Ur,hf];rfl
     rw [this]
     have hnp:args'.length=(aO fn).np:=by rw [← ha.1];exact hl
     simp only [ob]
     rw [if_pos hnp,show (aO fn).body=erC fn.body from rfl,h4]
     cases ex with
     | exit i=>exact absurd rfl (h8 i)
     | norm=>simp only [WA,show (aO fn).res=fn.res from rfl,h6,om]
     | ret=>simp only [WA,show (aO fn).res=fn.res from rfl,h6,om]
   · rcases Nat.lt_or_ge b n with q | q
     · exact .inl ((R.old b q).2 hb)
     · exact .inr q
   · rcases Nat.lt_or_ge b n with q | q
     · have:=(R.old b q).2 hb
       exact .inl ⟨this,((R.old b q).1 this).2.1⟩
     · exact .inr (R.hi b hb hv q)
 · cases hrun
theorem aev (hok:rO C.fns=true):∀ k,EC C k:=by
 intro k
 induction k with
 | zero=>intro base c s ex s1 _ he;simp [evW] at he
 | succ k ih=>exact Z8 ih (VX hok ih)
theorem abo (hok:rO C.fns=true) {k f:Nat} {args args':List AV} {v:AV} (ha:bn (VD id fun _=>False) args args') (hc:aa0 C k f args=some v):∃ v',WZ (fF C) k f args'=some v'∧VD id (fun _=>False) v v' :=
 SE (VX hok (aev hok k)) ha hc
end
end Go.Pw
end
section
set_option linter.unusedSimpArgs false
set_option linter.unusedVariables false
namespace Go.Pw
open Go Go.Pav
def qU (r r':xP):Prop:=∀ f args h n x,r f args h n=some x→r' f args h n=some x
section
variable {C:aG} {r r':xP}
theorem MB (hr:qU r r') {f:Nat} {args:List AV} {h:aK} {nid n:Nat} {c:wO} (hc:jo C r f args h nid n=some c):jo C r' f args h nid n=some c:=by
 unfold jo at hc ⊢
 split
 · rename_i hi
   rw [if_pos hi] at hc
   split
   · rename_i hf
     rw [if_pos hf] at hc
     exact dh hc (fun x hx=>hx) fun as has=>dh has (fun v hv=>dh hv (fun x hx=>hr _ _ _ _ _ hx) fun x hx=>hx) fun x hx=>hx
   · rename_i hf
     rw [if_neg hf] at hc
     exact nM hc fun x hx=>hr _ _ _ _ _ hx
 · rename_i hi
   rw [if_neg hi] at hc
   split
   · rename_i hp;rw [if_pos hp] at hc;exact nM hc fun x hx=>hr _ _ _ _ _ hx
   · rename_i hp
     rw [if_neg hp] at hc
     exact dh hc (fun x hx=>hx) fun as has=>nM has fun v hv=>dh hv (fun x hx=>hr _ _ _ _ _ hx) fun x hx=>hx
theorem QB (hr:qU r r') {op:COp} {nid:Nat} {e:Env} {h:aK} {n:Nat} {d:lI} (hd:jC C r op nid e h n=some d):jC C r' op nid e h n=some d:=by
 unfold jC at hd ⊢
 split
 · rename_i hc;rw [hc] at hd;cases hd
 · rename_i hc;rw [hc] at hd;exact nM hd fun c hc=>MB hr hc
 · rename_i hc;rw [hc] at hd;exact hd
theorem rF (hr:qU r r') {o:aZ} {nid:Nat} {e:Env} {h:aK} {n:Nat} {d:lI} (hd:gy C r o nid e h n=some d):gy C r' o nid e h n=some d:=by
 unfold gy at hd ⊢
 split
 · rename_i hc;rw [hc] at hd;cases hd
 · rename_i hc;rw [hc] at hd;exact hd
 · rename_i hc;rw [hc] at hd;exact QB hr hd
theorem uD (hr:qU r r'):∀ (l:List aZ) (s s':WSt),iO C r l s=some s'→iO C r' l s=some s':=by
 intro l
 induction l with
 | nil=>intro s s' h;exact h
 | cons o l ih=>intro s s' h;exact dh h (fun d hd=>rF hr hd) fun d hd=>ih _ _ hd
theorem rD (hr:qU r r'):∀ (l:List aZ) (nid:Nat) (s:WSt) (ds:List lI) (x:WSt × List lI),eP C r l nid s ds=some x→eP C r' l nid s ds=some x:=by
 intro l
 induction l with
 | nil=>intro nid s ds x h;exact h
 | cons o l ih=>intro nid s ds x h;exact dh h (fun d hd=>rF hr hd) fun d hd=>ih _ _ _ _ hd
theorem qo {ev ev':WEv} (he:∀ b c s x,ev b c s=some x→ev' b c s=some x):qU (fD C ev) (fD C ev'):=by
 intro f args h n x hx
 refine dh hx (fun a ha=>ha) fun fn hfn=>?_
 split
 · rename_i hl
   rw [if_pos hl] at hfn
   exact dh hfn (fun a ha=>he _ _ _ _ ha) fun a ha=>ha
 · rename_i hl
   rw [if_neg hl] at hfn;cases hfn
theorem pY {b b':WSt→Option (Ex × WSt)} (h:∀ s x,b s=some x→b' s=some x) {r:Ex × WSt} {x:Ex × WSt} (hx:eG b r=some x):eG b' r=some x:=by
 unfold eG at hx ⊢
 split
 · rename_i hr;rw [hr] at hx;exact h _ _ hx
 · split at hx
   · rename_i h1 _ h2;exact absurd h2 h1
   · exact hx
theorem oO:∀ (n m:Nat),n≤m→∀ (base:Nat) (c:ay) (s:WSt) (x:Ex × WSt),evW C n base c s=some x→evW C m base c s=some x:=by
 intro n
 induction n with
 | zero=>intro m _ base c s x h;simp only [evW] at h;cases h
 | succ n ih =>
  intro m hm base c s x h
  obtain ⟨m,rfl⟩:∃ k,m=k+1:=⟨m - 1,by omega⟩
  have ih':=ih m (by omega)
  have hr:qU (fD C (evW C n)) (fD C (evW C m)):=qo ih'
  cases c with
  | skip=>exact h
  | exit id=>exact h
  | ret=>exact h
  | fail=>exact h
  | cln zz z b =>
   simp only [evW] at h ⊢
   split
   · rename_i z' hz
     rw [hz] at h
     simp only at h
     split at h
     · rename_i hc;rw [if_pos ⟨hc.1,hc.2.1,by omega⟩];exact h
     · cases h
   · rename_i hz
     rw [hz] at h
     exact ih' _ _ _ _ h
  | ops l a=>simp only [evW] at h ⊢;exact dh h (fun s' hs=>uD hr l s s' hs) fun x hx=>hx
  | draw l un a=>simp only [evW] at h ⊢;exact dh h (fun x hx=>rD hr l _ _ _ x hx) fun x hx=>hx
  | seq a b=>simp only [evW] at h ⊢;exact dh h (fun x hx=>ih' _ _ _ _ hx) fun x hx=>pY (fun s x hx=>ih' _ _ _ _ hx) hx
  | cond c a b =>
   simp only [evW] at h ⊢
   unfold xH at h ⊢
   split
   · rename_i t hv
     rw [hv] at h
     cases t with
     | true=>exact ih' _ _ _ _ h
     | false=>exact ih' _ _ _ _ h
   · split at h
     · rename_i h1 _ t hv;exact absurd hv (h1 t)
     · cases h
  | block id b a=>simp only [evW] at h ⊢;exact dh h (fun x hx=>ih' _ _ _ _ hx) fun x hx=>hx
  | loop a b=>simp only [evW] at h ⊢;exact dh h (fun x hx=>hx) fun s hs=>dh hs (fun x hx=>ih' _ _ _ _ hx) fun x hx=>pY (fun s x hx=>ih' _ _ _ _ hx) hx
theorem wP {n m:Nat} (h:n≤m):qU (IW C n) (IW C m):=qo (oO n m h)
end
section
variable (C:aG)
noncomputable def CdW:WEv:=fun base c s=>lim fun n=>evW C n base c s
noncomputable def RnW:xP:=fD C (CdW C)
noncomputable def FnW (f:Nat) (args:List AV):Option AV:=jm (RnW C) f args
end
section
variable {C:aG} {base:Nat}
theorem ajj (base:Nat) (c:ay) (s:WSt):ado fun n=>evW C n base c s:=fun n m h a ha=>oO n m h base c s a ha
theorem nP {c:ay} {s:WSt} {x:Ex × WSt}:CdW C base c s=some x↔∃ n,evW C n base c s=some x:=Xm (ajj base c s)
theorem yI {n:Nat} {c:ay} {s:WSt} {x:Ex × WSt} (h:evW C n base c s=some x):CdW C base c s=some x:=nP.2 ⟨n,h⟩
theorem BF (n:Nat):qU (IW C n) (RnW C):=qo fun _ _ _ _ h=>yI h
theorem zA {f:Nat} {args:List AV} {h:aK} {n:Nat} {x:AV × aK × Nat} (hx:RnW C f args h n=some x):∃ k,IW C k f args h n=some x:=by
 unfold RnW fD at hx
 obtain ⟨fn,hf,hx⟩:=au hx
 split at hx
 · rename_i hl
   obtain ⟨y,hc,hx⟩:=au hx
   obtain ⟨k,hk⟩:=nP.1 hc
   refine ⟨k,?_⟩
   unfold IW fD
   rw [hf]
   simp only [ob,if_pos hl,hk]
   exact hx
 · cases hx
theorem Ol {f:Nat} {args:List AV} {h:aK} {nid n:Nat} {c:wO} (hc:jo C (RnW C) f args h nid n=some c):∃ k,jo C (IW C k) f args h nid n=some c:=by
 unfold jo at hc ⊢
 split
 · rename_i hi
   rw [if_pos hi] at hc
   split
   · rename_i hf
     rw [if_pos hf] at hc
     obtain ⟨as,h1,hc⟩:=au hc
     obtain ⟨x,h2,hend⟩:=au hc
     obtain ⟨r,h3,h4⟩:=au h2
     obtain ⟨k,hk⟩:=zA h3
     refine ⟨k,?_⟩
     rw [h1]
     unfold bg
     simp only [ob,hk]
     rw [h4]
     exact hend
   · rename_i hf
     rw [if_neg hf] at hc
     obtain ⟨r,h1,rfl⟩:=aC hc
     obtain ⟨k,hk⟩:=zA h1
     exact ⟨k,by rw [hk];rfl⟩
 · rename_i hi
   rw [if_neg hi] at hc
   split
   · rename_i hp
     rw [if_pos hp] at hc
     obtain ⟨r,h1,rfl⟩:=aC hc
     obtain ⟨k,hk⟩:=zA h1
     exact ⟨k,by rw [hk];rfl⟩
   · rename_i hp
     rw [if_neg hp] at hc
     obtain ⟨as,h1,hc⟩:=au hc
     obtain ⟨v,h2,rfl⟩:=aC hc
     obtain ⟨r,h3,h4⟩:=au h2
     obtain ⟨k,hk⟩:=zA h3
     exact ⟨k,by rw [h1];simp only [ob,jm,hk,h4];rfl⟩
theorem H9 {o:aZ} {nid:Nat} {e:Env} {h:aK} {n:Nat} {d:lI} (hd:gy C (RnW C) o nid e h n=some d):∃ k,gy C (IW C k) o nid e h n=some d:=by
 unfold gy at hd ⊢
 split
 · rename_i hc;rw [hc] at hd;cases hd
 · rename_i hc;rw [hc] at hd;exact ⟨0,hd⟩
 · rename_i hc
   rw [hc] at hd
   simp only at hd
   unfold jC at hd ⊢
   split
   · rename_i hc;rw [hc] at hd;cases hd
   · rename_i hc
     rw [hc] at hd
     simp only at hd
     obtain ⟨r,h1,rfl⟩:=aC hd
     obtain ⟨k,hk⟩:=Ol h1
     exact ⟨k,by rw [hk];rfl⟩
   · rename_i hc;rw [hc] at hd;exact ⟨0,hd⟩
theorem Si:∀ (l:List aZ) (s s':WSt),iO C (RnW C) l s=some s'→∃ k,iO C (IW C k) l s=some s':=by
 intro l
 induction l with
 | nil=>intro s s' h;exact ⟨0,h⟩
 | cons o l ih =>
  intro s s' h
  simp only [iO] at h ⊢
  obtain ⟨d,hd,h⟩:=au h
  obtain ⟨k1,h1⟩:=H9 hd
  obtain ⟨k2,h2⟩:=ih _ _ h
  refine ⟨max k1 k2,?_⟩
  rw [rF (wP (Nat.le_max_left k1 k2)) h1]
  exact uD (wP (Nat.le_max_right k1 k2)) _ _ _ h2
theorem LV:∀ (l:List aZ) (nid:Nat) (s:WSt) (ds:List lI) (x:WSt × List lI),eP C (RnW C) l nid s ds=some x→∃ k,eP C (IW C k) l nid s ds=some x:=by
 intro l
 induction l with
 | nil=>intro nid s ds x h;exact ⟨0,h⟩
 | cons o l ih =>
  intro nid s ds x h
  simp only [eP] at h ⊢
  obtain ⟨d,hd,h⟩:=au h
  obtain ⟨k1,h1⟩:=H9 hd
  obtain ⟨k2,h2⟩:=ih _ _ _ _ h
  refine ⟨max k1 k2,?_⟩
  rw [rF (wP (Nat.le_max_left k1 k2)) h1]
  exact rD (wP (Nat.le_max_right k1 k2)) _ _ _ _ _ h2
theorem agT (s:WSt):CdW C base .skip s=some (.norm,s):=yI (n:=1) rfl
theorem aeR (id:Nat) (s:WSt):CdW C base (.exit id) s=some (.exit id,s):=yI (n:=1) rfl
theorem ak3 (s:WSt):CdW C base .ret s=some (.ret,s):=yI (n:=1) rfl
theorem xu {c:ay} {s:WSt} {x:Ex × WSt}:CdW C base c s=some x↔∃ n,evW C (n+1) base c s=some x:=by
 rw [nP]
 constructor
 · rintro ⟨n,h⟩;exact ⟨n,oO n (n+1) (Nat.le_succ n) base c s x h⟩
 · rintro ⟨n,h⟩;exact ⟨_,h⟩
theorem qW {b:ay} {r x:Ex × WSt}:eG (CdW C base b) r=some x↔∃ n,eG (evW C n base b) r=some x:=by
 obtain ⟨ex,s⟩:=r
 cases ex with
 | norm=>simp only [eG];exact nP
 | exit id=>simp [eG]
 | ret=>simp [eG]
theorem akr (a b:ay) (s:WSt):CdW C base (.seq a b) s=ob (CdW C base a s) (eG (CdW C base b)):=by
 refine jL fun x=>?_
 rw [xu,ig]
 simp only [evW,ig]
 constructor
 · rintro ⟨n,r,h1,h2⟩;exact ⟨r,yI h1,qW.2 ⟨n,h2⟩⟩
 · rintro ⟨r,h1,h2⟩
   obtain ⟨n,h1⟩:=nP.1 h1
   obtain ⟨m,h2⟩:=qW.1 h2
   exact ⟨max n m,r,oO _ _ (Nat.le_max_left n m) _ _ _ _ h1,pY (fun s x hx=>oO _ _ (Nat.le_max_right n m) _ _ _ _ hx) h2⟩
theorem afi (a:Ann) (b:ay) (s:WSt):CdW C base (.loop a b) s=ob (canon base a s) fun s=>ob (CdW C base b s) (eG (CdW C base (.loop a b))):=by
 refine jL fun x=>?_
 rw [xu,ig]
 simp only [evW,ig]
 constructor
 · rintro ⟨n,s0,h0,r,h1,h2⟩;exact ⟨s0,h0,r,yI h1,qW.2 ⟨n,h2⟩⟩
 · rintro ⟨s0,h0,r,h1,h2⟩
   obtain ⟨n,h1⟩:=nP.1 h1
   obtain ⟨m,h2⟩:=qW.1 h2
   exact ⟨max n m,s0,h0,r,oO _ _ (Nat.le_max_left n m) _ _ _ _ h1,pY (fun s x hx=>oO _ _ (Nat.le_max_right n m) _ _ _ _ hx) h2⟩
theorem acX (id:Nat) (b:ay) (a:Ann) (s:WSt):CdW C base (.block id b a) s=ob (CdW C base b s) (kM base id a):=by
 refine jL fun x=>?_
 rw [xu,ig]
 simp only [evW,ig]
 constructor
 · rintro ⟨n,r,h1,h2⟩;exact ⟨r,yI h1,h2⟩
 · rintro ⟨r,h1,h2⟩
   obtain ⟨n,h1⟩:=nP.1 h1
   exact ⟨n,r,h1,h2⟩
theorem ahq (c:Opd) (a b:ay) (s:WSt):CdW C base (.cond c a b) s=xH (CdW C base a) (CdW C base b) (c.ev s.env) s:=by
 refine jL fun x=>?_
 rw [xu]
 simp only [evW]
 unfold xH
 split
 · rename_i t _
   cases t with
   | true=>exact nP.symm
   | false=>exact nP.symm
 · simp
theorem aku (l:List aZ) (a:Ann) (s:WSt):CdW C base (.ops l a) s=ob (iO C (RnW C) l s) fun s=>om (qp base a s) fun s=>(.norm,s):=by
 refine jL fun x=>?_
 rw [xu,ig]
 simp only [evW,ig]
 constructor
 · rintro ⟨n,r,h1,h2⟩;exact ⟨r,uD (BF n) _ _ _ h1,h2⟩
 · rintro ⟨r,h1,h2⟩
   obtain ⟨n,h1⟩:=Si _ _ _ h1
   exact ⟨n,r,h1,h2⟩
theorem agF (l:List aZ) (un:List (Nat × Nat)) (a:Ann) (s:WSt):CdW C base (.draw l un a) s=ob (eP C (RnW C) l s.next ⟨s.env,s.heap,s.next+l.length⟩ []) (uF base un a):=by
 refine jL fun x=>?_
 rw [xu,ig]
 simp only [evW,ig]
 constructor
 · rintro ⟨n,r,h1,h2⟩;exact ⟨r,rD (BF n) _ _ _ _ _ h1,h2⟩
 · rintro ⟨r,h1,h2⟩
   obtain ⟨n,h1⟩:=LV _ _ _ _ _ h1
   exact ⟨n,r,h1,h2⟩
theorem Qr {f:Nat} {args:List AV} {v:AV}:FnW C f args=some v↔∃ n,aa0 C n f args=some v:=by
 unfold FnW aa0 jm
 simp only [ig]
 constructor
 · rintro ⟨r,h1,h2⟩
   obtain ⟨k,h1⟩:=zA h1
   exact ⟨k,r,h1,h2⟩
 · rintro ⟨k,r,h1,h2⟩;exact ⟨r,BF k _ _ _ _ _ h1,h2⟩
end
end Go.Pw
end
section
set_option linter.unusedSimpArgs false
set_option linter.unusedVariables false
namespace Go.Pw
open Go Go.Pav
inductive Frame where
 | sq (b:ay)
 | bk (id:Nat) (a:Ann)
 | lp (a:Ann) (b:ay)
def mZ:Env→Nat→AV→Env
 | [],_,_=>[]
 | (k,v)::r,g,x=>if k=g then (k,x)::r else (k,v)::mZ r g x
section
variable {β:Type}
noncomputable def RK (C:aG) (base:Nat):List Frame→Ex × WSt→Option (Ex × WSt)
 | [],r=>some r
 | .sq b::k,r=>ob (eG (CdW C base b) r) (RK C base k)
 | .bk id a::k,r=>ob (kM base id a r) (RK C base k)
 | .lp a b::k,r=>ob (eG (CdW C base (.loop a b)) r) (RK C base k)
noncomputable def CK (C:aG) (base:Nat) (fin:Ex × WSt→Option β) (k:List Frame) (c:ay) (s:WSt):Option β:=ob (CdW C base c s) fun r=>ob (RK C base k r) fin
noncomputable def NK (C:aG) (base:Nat) (fin:Ex × WSt→Option β) (k:List Frame) (ex:Ex) (s:WSt):Option β:=ob (RK C base k (ex,s)) fin
noncomputable def AK (C:aG) (base:Nat) (fin:Ex × WSt→Option β) (k:List Frame) (s:Option WSt):Option β:=ob s fun s=>NK C base fin k .norm s
noncomputable def LK (C:aG) (base:Nat) (fin:Ex × WSt→Option β) (k:List Frame) (b:ay) (s:Option WSt):Option β:=ob s fun s=>CK C base fin k b s
noncomputable def OK (C:aG) (base:Nat) (fin:Ex × WSt→Option β) (k:List Frame) (a:Ann) (l:List aZ) (s:WSt):Option β :=
 ob (iO C (RnW C) l s) fun s=>AK C base fin k (qp base a s)
noncomputable def SK (C:aG) (base:Nat) (fin:Ex × WSt→Option β) (k:List Frame) (a:Ann) (l:List aZ) (d:Option Nat) (e:Env) (h:aK) (n:Nat) (x:Option (AV × dO)):Option β :=
 ob x fun x=>OK C base fin k a l ⟨eH e d x.1,dA h x.2,n⟩
noncomputable def Ri (C:aG) (base:Nat) (fin:Ex × WSt→Option β) (k:List Frame) (a b:ay) (s:WSt) (v:AV):Option β :=
 match v with
 | .bool t=>if t=true then CK C base fin k a s else CK C base fin k b s
 | _=>none
noncomputable def GK (C:aG) (base:Nat) (fin:Ex × WSt→Option β) (k:List Frame) (a:Ann) (l:List aZ) (d:Option Nat) (op:COp) (g:Nat) (w:Bool) (e:Env) (h:aK) (n:Nat) (v:Option AV):Option β :=
 match v with
 | some (.bool b)=>if b=w then OK C base fin k a (⟨d,none,op⟩::l) ⟨mZ e g (.bool w),h,n⟩ else OK C base fin k a l ⟨eH (mZ e g (.bool (!w))) d (.tup []),h,n+1⟩
 | some (.tup [])=>OK C base fin k a l ⟨eH e d (.tup []),h,n+1⟩
 | _=>none
noncomputable def VK (C:aG) (base:Nat) (fin:Ex × WSt→Option β) (k:List Frame) (a:Ann) (l:List aZ) (d:Option Nat) (e:Env) (h:aK) (n:Nat) (args:List AV) (v:Option AV):Option β :=
 ob v fun v=>OK C base fin k a l ⟨eH e d v,dA h (oh h args v),n⟩
noncomputable def WK (C:aG) (base:Nat) (fin:Ex × WSt→Option β) (k:List Frame) (a:Ann) (l:List aZ) (d:Option Nat) (e:Env) (r:Option (AV × aK × Nat)):Option β :=
 ob r fun r=>OK C base fin k a l ⟨eH e d r.1,r.2.1,r.2.2⟩
noncomputable def PK (C:aG) (base:Nat) (fin:Ex × WSt→Option β) (k:List Frame) (a:Ann) (l:List aZ) (d:Option Nat) (e:Env) (h:aK) (n:Nat) (f:Nat) (args:List AV) (as:Option (List AV)):Option β :=
 ob as fun as=>VK C base fin k a l d e h n args (FnW C f as)
noncomputable def BSK (C:aG) (base:Nat) (fin:Ex × WSt→Option β) (k:List Frame) (a:Ann) (l:List aZ) (d:Option Nat) (e:Env) (h:aK) (n:Nat) (v:AV) (u:dO) (ok:Bool):Option β :=
 if ok=true then OK C base fin k a l ⟨eH e d v,dA h u,n⟩ else none
noncomputable def FSK (C:aG) (base:Nat) (fin:Ex × WSt→Option β) (k:List Frame) (a:Ann) (l:List aZ) (d:Option Nat) (e:Env) (h:aK) (n:Nat) (br:Bool) (args:List AV) (x:Option (AV × dO)):Option β :=
 ob x fun x=>if br=true then BSK C base fin k a l d e h n x.1 x.2 (mY x) else OK C base fin k a l ⟨eH e d x.1,dA h (bH h (args.flatMap (aY h aI))++x.2),n⟩
noncomputable def FPK (C:aG) (base:Nat) (fin:Ex × WSt→Option β) (k:List Frame) (a:Ann) (l:List aZ) (d:Option Nat) (e:Env) (h:aK) (n:Nat) (f:Nat) (args:List AV) (as:Option (List AV)):Option β :=
 ob as fun as=>FSK C base fin k a l d e h n (sD f) args (bg (RnW C) f as (n - 1))
noncomputable def IK (C:aG) (base:Nat) (fin:Ex × WSt→Option β) (k:List Frame) (a:Ann) (l:List aZ) (d:Option Nat) (e:Env) (h:aK) (n:Nat) (f:Nat) (args:List AV) (fr:Bool):Option β :=
 if fr=true then FPK C base fin k a l d e h n f args (bG (bP h aI) args) else WK C base fin k a l d e (RnW C f args h n)
noncomputable def FK (C:aG) (base:Nat) (fin:Ex × WSt→Option β) (k:List Frame) (a:Ann) (l:List aZ) (d:Option Nat) (e:Env) (h:aK) (n:Nat) (f:Nat) (args:List AV) (inl ptr:Bool):Option β :=
 if inl=true then IK C base fin k a l d e h n f args (Q5 f) else if ptr=true then WK C base fin k a l d e (RnW C f args h n) else PK C base fin k a l d e h n f args (bG (bP h aI) args)
noncomputable def QK (C:aG) (base:Nat) (fin:Ex × WSt→Option β) (k:List Frame) (a:Ann) (l:List aZ) (d:Option Nat) (e:Env) (h:aK) (n:Nat) (args:List AV) (g:AV):Option β :=
 match g with
 | .fn f caps=>FK C base fin k a l d e h n f (args++caps) (C.inl f) (!C.pp f&&bQ (args++caps))
 | _=>none
abbrev RW:=Bool × List Nat × List Nat
def ZA (d:lI):RW:=(d.bar,d.rd,d.wr)
def UU (d:RW):Bool:=!d.1&&(d.2.2.isEmpty&&d.2.1.isEmpty)
def adH (a b:RW):Bool:=!(UU a||UU b)&&(a.1||(b.1||(meets a.2.2 b.2.2||(meets a.2.2 b.2.1||meets a.2.1 b.2.2))))
def Ci (ds:List RW) (p:Nat × Nat):Bool :=
 match ds[p.1]?,ds[p.2]? with
 | some a,some b=>!adH a b
 | _,_=>false
noncomputable def EK (C:aG) (base:Nat) (fin:Ex × WSt→Option β) (k:List Frame) (a:Ann) (s:WSt) (ok:Bool):Option β :=
 if ok=true then AK C base fin k (qp base a s) else none
noncomputable def DK (C:aG) (base:Nat) (fin:Ex × WSt→Option β) (k:List Frame) (a:Ann) (un:List (Nat × Nat)) (l:List aZ) (nid:Nat) (s:WSt) (ds:List RW):Option β :=
 ob (eP C (RnW C) l nid s []) fun r=>EK C base fin k a r.1 (un.all (Ci (ds++r.2.map ZA)))
noncomputable def DSK (C:aG) (base:Nat) (fin:Ex × WSt→Option β) (k:List Frame) (a:Ann) (un:List (Nat × Nat)) (l:List aZ) (nid:Nat) (d:Option Nat) (e:Env) (h:aK) (n:Nat) (ds:List RW) (rd:List Nat) (x:Option (AV × dO)):Option β :=
 ob x fun x=>DK C base fin k a un l nid ⟨eH e d x.1,dA h x.2,n⟩ (ds++[(false,rd,x.2.map (·.1))])
noncomputable def DGK (C:aG) (base:Nat) (fin:Ex × WSt→Option β) (k:List Frame) (a:Ann) (un:List (Nat × Nat)) (l:List aZ) (nid:Nat) (d:Option Nat) (op:COp) (g:Nat) (w:Bool) (e:Env) (h:aK) (n:Nat) (ds:List RW) (v:Option AV):Option β :=
 match v with
 | some (.bool b)=>if b=w then DK C base fin k a un (⟨d,none,op⟩::l) nid ⟨mZ e g (.bool w),h,n⟩ ds else DK C base fin k a un l (nid+1) ⟨eH (mZ e g (.bool (!w))) d (.tup []),h,n⟩ (ds++[(false,[],[])])
 | some (.tup [])=>DK C base fin k a un l (nid+1) ⟨eH e d (.tup []),h,n⟩ (ds++[(false,[],[])])
 | _=>none
noncomputable def DVK (C:aG) (base:Nat) (fin:Ex × WSt→Option β) (k:List Frame) (a:Ann) (un:List (Nat × Nat)) (l:List aZ) (nid:Nat) (d:Option Nat) (e:Env) (h:aK) (n:Nat) (ds:List RW) (args:List AV) (v:Option AV):Option β :=
 ob v fun v=>DK C base fin k a un l nid ⟨eH e d v,dA h (oh h args v),n⟩ (ds++[(false,args.flatMap (aY h aI),(oh h args v).map (·.1))])
noncomputable def DWK (C:aG) (base:Nat) (fin:Ex × WSt→Option β) (k:List Frame) (a:Ann) (un:List (Nat × Nat)) (l:List aZ) (nid:Nat) (d:Option Nat) (e:Env) (ds:List RW) (r:Option (AV × aK × Nat)):Option β :=
 ob r fun r=>DK C base fin k a un l nid ⟨eH e d r.1,r.2.1,r.2.2⟩ (ds++[(true,[],[])])
noncomputable def DPK (C:aG) (base:Nat) (fin:Ex × WSt→Option β) (k:List Frame) (a:Ann) (un:List (Nat × Nat)) (l:List aZ) (nid:Nat) (d:Option Nat) (e:Env) (h:aK) (n:Nat) (ds:List RW) (f:Nat) (args:List AV) (as:Option (List AV)):Option β :=
 ob as fun as=>DVK C base fin k a un l nid d e h n ds args (FnW C f as)
noncomputable def ag8 (C:aG) (base:Nat) (fin:Ex × WSt→Option β) (k:List Frame) (a:Ann) (un:List (Nat × Nat)) (l:List aZ) (nid:Nat) (d:Option Nat) (e:Env) (h:aK) (n:Nat) (ds:List RW) (args:List AV) (v:AV) (u:dO) (ok:Bool):Option β :=
 if ok=true then DK C base fin k a un l nid ⟨eH e d v,dA h u,n⟩ (ds++[(false,args.flatMap (aY h aI),u.map (·.1))]) else none
noncomputable def aay (C:aG) (base:Nat) (fin:Ex × WSt→Option β) (k:List Frame) (a:Ann) (un:List (Nat × Nat)) (l:List aZ) (nid:Nat) (d:Option Nat) (e:Env) (h:aK) (n:Nat) (ds:List RW) (br:Bool) (args:List AV) (x:Option (AV × dO)):Option β :=
 ob x fun x=>if br=true then ag8 C base fin k a un l nid d e h n ds args x.1 x.2 (mY x) else DK C base fin k a un l nid ⟨eH e d x.1,dA h (bH h (args.flatMap (aY h aI))++x.2),n⟩ (ds++[(false,args.flatMap (aY h aI),(bH h (args.flatMap (aY h aI))++x.2).map (·.1))])
noncomputable def afy (C:aG) (base:Nat) (fin:Ex × WSt→Option β) (k:List Frame) (a:Ann) (un:List (Nat × Nat)) (l:List aZ) (nid:Nat) (d:Option Nat) (e:Env) (h:aK) (n:Nat) (ds:List RW) (f:Nat) (args:List AV) (as:Option (List AV)):Option β :=
 ob as fun as=>aay C base fin k a un l nid d e h n ds (sD f) args (bg (RnW C) f as (nid - 1))
noncomputable def DIK (C:aG) (base:Nat) (fin:Ex × WSt→Option β) (k:List Frame) (a:Ann) (un:List (Nat × Nat)) (l:List aZ) (nid:Nat) (d:Option Nat) (e:Env) (h:aK) (n:Nat) (ds:List RW) (f:Nat) (args:List AV) (fr:Bool):Option β :=
 if fr=true then afy C base fin k a un l nid d e h n ds f args (bG (bP h aI) args) else DWK C base fin k a un l nid d e ds (RnW C f args h n)
noncomputable def DFK (C:aG) (base:Nat) (fin:Ex × WSt→Option β) (k:List Frame) (a:Ann) (un:List (Nat × Nat)) (l:List aZ) (nid:Nat) (d:Option Nat) (e:Env) (h:aK) (n:Nat) (ds:List RW) (f:Nat) (args:List AV) (inl ptr:Bool):Option β :=
 if inl=true then DIK C base fin k a un l nid d e h n ds f args (Q5 f) else if ptr=true then DWK C base fin k a un l nid d e ds (RnW C f args h n) else DPK C base fin k a un l nid d e h n ds f args (bG (bP h aI) args)
noncomputable def DQK (C:aG) (base:Nat) (fin:Ex × WSt→Option β) (k:List Frame) (a:Ann) (un:List (Nat × Nat)) (l:List aZ) (nid:Nat) (d:Option Nat) (e:Env) (h:aK) (n:Nat) (ds:List RW) (args:List AV) (g:AV):Option β :=
 match g with
 | .fn f caps=>DFK C base fin k a un l nid d e h n ds f (args++caps) (C.inl f) (!C.pp f&&bQ (args++caps))
 | _=>none
def aN (res:List tC) (r:Ex × WSt):Option AV:=ob (iW res r) fun r=>bP r.2.1 aI r.1
end
section
variable {β:Type} {C:aG} {base:Nat} {fin:Ex × WSt→Option β} {k:List Frame}
theorem je {α γ δ:Type} (x:Option α) (f:α→Option γ) (g:γ→Option δ):ob (ob x f) g=ob x fun a=>ob (f a) g:=by cases x <;> rfl
theorem Jr {α γ δ:Type} (x:Option α) (f:α→γ) (g:γ→Option δ):ob (om x f) g=ob x fun a=>g (f a):=by cases x <;> rfl
theorem ai5 (a b:ay) (s:WSt):CK C base fin k (.seq a b) s=CK C base fin (.sq b::k) a s:=by
 unfold CK;rw [akr];simp only [RK,je]
theorem ae8 (s:WSt):CK C base fin k .skip s=NK C base fin k .norm s:=by unfold CK NK;rw [agT];rfl
theorem aec (i:Nat) (s:WSt):CK C base fin k (.exit i) s=NK C base fin k (.exit i) s:=by unfold CK NK;rw [aeR];rfl
theorem ajq (s:WSt):CK C base fin k .ret s=NK C base fin k .ret s:=by unfold CK NK;rw [ak3];rfl
theorem ahc (c:Opd) (a b:ay) (s:WSt):CK C base fin k (.cond c a b) s=Ri C base fin k a b s (c.ev s.env):=by
 unfold CK Ri;rw [ahq];unfold xH
 cases c.ev s.env <;> try rfl
 rename_i t;cases t <;> rfl
theorem acO (id:Nat) (b:ay) (a:Ann) (s:WSt):CK C base fin k (.block id b a) s=CK C base fin (.bk id a::k) b s:=by
 unfold CK;rw [acX];simp only [RK,je]
theorem bf {L:ay} {a:Ann} {b:ay} {s:WSt} (hL:L=.loop a b):CK C base fin k L s=LK C base fin (.sq L::k) b (canon base a s):=by
 subst hL;unfold CK LK CK;rw [afi];simp only [RK,je]
theorem aj {c c':ay} {s:WSt} (hc:c=c'):CK C base fin k c s=CK C base fin k c' s:=by rw [hc]
theorem aj9 (l:List aZ) (a:Ann) (s:WSt):CK C base fin k (.ops l a) s=OK C base fin k a l s:=by
 unfold CK OK AK NK;rw [aku];simp only [je,Jr]
theorem afH (l:List aZ) (un:List (Nat × Nat)) (a:Ann) (e:Env) (h:aK) (n:Nat):CK C base fin k (.draw l un a) ⟨e,h,n⟩=DK C base fin k a un l n ⟨e,h,n+l.length⟩ []:=by
 unfold CK DK EK AK NK;rw [agF];simp only [je]
 have:∀ r:WSt × List lI,(ob (uF base un a r) fun r=>ob (RK C base k r) fin)=(if (un.all (Ci ([]++r.2.map ZA)))=true then ob (qp base a r.1) fun s=>ob (RK C base k (.norm,s)) fin else none):=by
  rintro ⟨s,ds⟩
  have e1:un.all (GU ds)=un.all (Ci ([]++ds.map ZA)):=by
   congr 1
   funext p
   simp only [GU,Ci,List.nil_append,List.getElem?_map]
   cases ds[p.1]? <;> cases ds[p.2]? <;> rfl
  simp only [uF,e1]
  split
  · simp only [Jr]
  · rfl
 simp only [this]
theorem ajS (ex:Ex) (s:WSt):NK C base fin [] ex s=fin (ex,s):=rfl
theorem amv (b:ay) (s:WSt):NK C base fin (.sq b::k) .norm s=CK C base fin k b s:=by unfold NK CK;simp only [RK,eG,je]
theorem UY (b:ay) (i:Nat) (s:WSt):NK C base fin (.sq b::k) (.exit i) s=NK C base fin k (.exit i) s:=by unfold NK;simp only [RK,eG,ob]
theorem X4 (b:ay) (s:WSt):NK C base fin (.sq b::k) .ret s=NK C base fin k .ret s:=by unfold NK;simp only [RK,eG,ob]
theorem UK (a:Ann) (b:ay) (i:Nat) (s:WSt):NK C base fin (.lp a b::k) (.exit i) s=NK C base fin k (.exit i) s:=by unfold NK;simp only [RK,eG,ob]
theorem YV (a:Ann) (b:ay) (s:WSt):NK C base fin (.lp a b::k) .ret s=NK C base fin k .ret s:=by unfold NK;simp only [RK,eG,ob]
theorem alW (id:Nat) (a:Ann) (s:WSt):NK C base fin (.bk id a::k) .norm s=AK C base fin k (canon base a s):=by unfold NK AK NK;simp only [RK,kM,je,Jr]
theorem Uc (id:Nat) (a:Ann) (i:Nat) (s:WSt):NK C base fin (.bk id a::k) (.exit i) s=if i=id then AK C base fin k (canon base a s) else NK C base fin k (.exit i) s:=by
 unfold NK AK NK;simp only [RK,kM]
 split
 · simp only [je,Jr]
 · rfl
theorem XT (id:Nat) (a:Ann) (s:WSt):NK C base fin (.bk id a::k) .ret s=NK C base fin k .ret s:=by unfold NK;simp only [RK,kM,ob]
theorem afP (s:WSt):AK C base fin k (some s)=NK C base fin k .norm s:=rfl
theorem afr (b:ay) (s:WSt):LK C base fin k b (some s)=CK C base fin k b s:=rfl
theorem Tm (a b:ay) (s:WSt):Ri C base fin k a b s (.bool true)=CK C base fin k a s:=rfl
theorem Rh (a b:ay) (s:WSt):Ri C base fin k a b s (.bool false)=CK C base fin k b s:=rfl
theorem Ve (a b:ay) (s:WSt) (t:Bool):Ri C base fin k a b s (.bool t)=if t=true then CK C base fin k a s else CK C base fin k b s:=rfl
variable {a:Ann} {l:List aZ} {d:Option Nat} {e:Env} {h:aK} {n:Nat}
theorem aj8 (s:WSt):OK C base fin k a [] s=AK C base fin k (qp base a s):=rfl
theorem bJ {op:COp} (hc:callOf e op=some none):OK C base fin k a (⟨d,none,op⟩::l) ⟨e,h,n⟩=SK C base fin k a l d e h (n+1) (stepW op e h n):=by
 unfold OK SK OK
 simp only [iO,gy,wants,jC,hc]
 cases stepW op e h n <;> rfl
theorem zY (v:AV) (u:dO):SK C base fin k a l d e h n (some (v,u))=OK C base fin k a l ⟨eH e d v,dA h u,n⟩:=rfl
theorem uP:∀ {e:Env} {g:Nat} {v:AV},get e g=some v→mZ e g v=e:=by
 intro e
 induction e with
 | nil=>intro g v h;rfl
 | cons x e ih =>
  intro g v hg
  obtain ⟨j,u⟩:=x
  simp only [Pav.get] at hg
  simp only [mZ]
  split at hg
  · rename_i hj;cases hg;rw [if_pos hj]
  · rename_i hj;rw [if_neg hj,ih hg]
theorem ae5 {op:COp} {g:Nat} {w b:Bool}:GK C base fin k a l d op g w e h n (some (.bool b))=if b=w then OK C base fin k a (⟨d,none,op⟩::l) ⟨mZ e g (.bool w),h,n⟩ else OK C base fin k a l ⟨eH (mZ e g (.bool (!w))) d (.tup []),h,n+1⟩:=rfl
theorem Ll {op:COp} {g:Nat}:GK C base fin k a l d op g true e h n (some (.bool true))=OK C base fin k a (⟨d,none,op⟩::l) ⟨mZ e g (.bool true),h,n⟩:=rfl
theorem Ic {op:COp} {g:Nat}:GK C base fin k a l d op g false e h n (some (.bool false))=OK C base fin k a (⟨d,none,op⟩::l) ⟨mZ e g (.bool false),h,n⟩:=rfl
theorem I5 {op:COp} {g:Nat}:GK C base fin k a l d op g true e h n (some (.bool false))=OK C base fin k a l ⟨eH (mZ e g (.bool false)) d (.tup []),h,n+1⟩:=rfl
theorem I4 {op:COp} {g:Nat}:GK C base fin k a l d op g false e h n (some (.bool true))=OK C base fin k a l ⟨eH (mZ e g (.bool true)) d (.tup []),h,n+1⟩:=rfl
theorem ajK {op:COp} {g:Nat} {w:Bool}:GK C base fin k a l d op g w e h n (some (.tup []))=OK C base fin k a l ⟨eH e d (.tup []),h,n+1⟩:=rfl
theorem acr {op:COp} {g:Nat} {w:Bool}:OK C base fin k a (⟨d,some (g,w),op⟩::l) ⟨e,h,n⟩=GK C base fin k a l d op g w e h n (get e g):=by
 unfold OK GK
 simp only [iO,gy,wants]
 cases hg:get e g with
 | none=>rfl
 | some v =>
  cases v with
  | bool b =>
   simp only
   by_cases hw:b=w
   · subst hw
     rw [uP hg,if_pos rfl]
     simp only [OK,iO,gy,wants,beq_self_eq_true]
   · have e1:(b == w)=false:=by simpa using hw
     have e2:(!w)=b:=by cases b <;> cases w <;> simp_all
     rw [if_neg hw,e2,uP hg]
     simp only [e1,ob,OK]
  | tup vs =>
   cases vs with
   | nil=>rfl
   | cons _ _=>rfl
  | _=>rfl
theorem ad5 {args:List AV} (v:AV):VK C base fin k a l d e h n args (some v)=OK C base fin k a l ⟨eH e d v,dA h (oh h args v),n⟩:=rfl
theorem ahj (r:AV × aK × Nat):WK C base fin k a l d e (some r)=OK C base fin k a l ⟨eH e d r.1,r.2.1,r.2.2⟩:=rfl
theorem ag6 {f:Nat} {args:List AV} (as:List AV):PK C base fin k a l d e h n f args (some as)=VK C base fin k a l d e h n args (FnW C f as):=rfl
theorem aex {f:Nat} {args:List AV}:FK C base fin k a l d e h n f args false false=PK C base fin k a l d e h n f args (bG (bP h aI) args):=rfl
theorem ak0 {f:Nat} {args:List AV} {p:Bool}:FK C base fin k a l d e h n f args true p=IK C base fin k a l d e h n f args (Q5 f):=rfl
theorem adJ {f:Nat} {args:List AV}:IK C base fin k a l d e h n f args false=WK C base fin k a l d e (RnW C f args h n):=rfl
theorem agL {f:Nat} {args:List AV}:IK C base fin k a l d e h n f args true=FPK C base fin k a l d e h n f args (bG (bP h aI) args):=rfl
theorem aaK {f:Nat} {args:List AV} (as:List AV):FPK C base fin k a l d e h (n+1) f args (some as)=FSK C base fin k a l d e h (n+1) (sD f) args (bg (RnW C) f as n):=rfl
theorem abX (v:AV) (u:dO):BSK C base fin k a l d e h n v u true=OK C base fin k a l ⟨eH e d v,dA h u,n⟩:=rfl
theorem acG {args:List AV} (v:AV) (u:dO):FSK C base fin k a l d e h n true args (some (v,u))=BSK C base fin k a l d e h n v u (mY (v,u)):=rfl
theorem aaI {args:List AV} (v:AV) (u:dO):FSK C base fin k a l d e h n false args (some (v,u))=OK C base fin k a l ⟨eH e d v,dA h (bH h (args.flatMap (aY h aI))++u),n⟩:=rfl
theorem aj6 {f:Nat} {args:List AV}:FK C base fin k a l d e h n f args false true=WK C base fin k a l d e (RnW C f args h n):=rfl
theorem alY {f:Nat} {args caps:List AV}:QK C base fin k a l d e h n args (.fn f caps)=FK C base fin k a l d e h n f (args++caps) (C.inl f) (!C.pp f&&bQ (args++caps)):=rfl
theorem ahF {f:Nat} {args:List AV}:(ob (om (jo C (RnW C) f args h (n - 1) n) (jY h n args)) fun r=>OK C base fin k a l ⟨eH e d r.v,r.h,r.n⟩)=FK C base fin k a l d e h n f args (C.inl f) (!C.pp f&&bQ args):=by
 unfold FK jo IK FPK FSK WK PK VK FnW
 split
 · split
   · cases bG (bP h aI) args with
     | none=>rfl
     | some as =>
      simp only [ob]
      cases bg (RnW C) f as (n - 1) with
      | none=>rfl
      | some x =>
       simp only [ob]
       unfold wo xM BSK
       cases sD f
       · rfl
       · cases mY x <;> rfl
   · cases RnW C f args h n <;> rfl
 · split
   · cases RnW C f args h n <;> rfl
   · cases bG (bP h aI) args with
     | none=>rfl
     | some as =>
      simp only [ob]
      cases jm (RnW C) f as <;> rfl
theorem ae9 {f:Nat} {xs:List Opd}:OK C base fin k a (⟨d,none,.call f xs⟩::l) ⟨e,h,n⟩=FK C base fin k a l d e h (n+1) f (xs.map fun x=>x.ev e) (C.inl f) (!C.pp f&&bQ (xs.map fun x=>x.ev e)):=by
 rw [← ahF]
 unfold OK
 simp only [iO,gy,wants,jC,callOf,je,Nat.add_sub_cancel]
theorem ada {g:Opd} {xs:List Opd}:OK C base fin k a (⟨d,none,.dU g xs⟩::l) ⟨e,h,n⟩=QK C base fin k a l d e h (n+1) (xs.map fun x=>x.ev e) (g.ev e):=by
 unfold QK
 cases hg:g.ev e with
 | fn f caps =>
  simp only
  rw [← ahF]
  unfold OK
  simp only [iO,gy,wants,jC,callOf,hg,je,Nat.add_sub_cancel]
 | _ =>
  unfold OK
  simp only [iO,gy,wants,jC,callOf,hg]
  rfl
variable {un:List (Nat × Nat)} {nid:Nat} {ds:List RW}
theorem QH {r:xP}:∀ (l:List aZ) (nid:Nat) (s:WSt) (ds:List lI),eP C r l nid s ds=om (eP C r l nid s []) fun x=>(x.1,ds++x.2):=by
 intro l
 induction l with
 | nil=>intro nid s ds;simp [eP,om]
 | cons o l ih =>
  intro nid s ds
  simp only [eP]
  cases gy C r o nid s.env s.heap s.next with
  | none=>rfl
  | some d =>
   simp only [ob]
   rw [ih,ih _ _ ([]++[d])]
   cases eP C r l (nid+1) _ [] <;> simp [om]
theorem ajh (s:WSt):DK C base fin k a un [] nid s ds=EK C base fin k a s (un.all (Ci ds)):=by
 unfold DK;simp only [eP,ob,List.map_nil,List.append_nil]
theorem aef (s:WSt):EK C base fin k a s true=AK C base fin k (qp base a s):=rfl
theorem mG {o:aZ} {s:WSt}:DK C base fin k a un (o::l) nid s ds=ob (gy C (RnW C) o nid s.env s.heap s.next) fun x=>DK C base fin k a un l (nid+1) ⟨eH s.env o.dst x.v,x.h,x.n⟩ (ds++[ZA x]):=by
 unfold DK
 simp only [eP,je]
 congr 1
 funext x
 rw [QH]
 simp only [Jr,List.nil_append,List.map_append,List.map_cons,List.map_nil,List.append_assoc]
theorem bI {op:COp} (hc:callOf e op=some none):DK C base fin k a un (⟨d,none,op⟩::l) nid ⟨e,h,n⟩ ds=DSK C base fin k a un l (nid+1) d e h n ds (readsOf e op) (stepW op e h nid):=by
 rw [mG]
 unfold DSK
 simp only [gy,wants,jC,hc,Jr]
 rfl
theorem acz {rd:List Nat} (v:AV) (u:dO):DSK C base fin k a un l nid d e h n ds rd (some (v,u))=DK C base fin k a un l nid ⟨eH e d v,dA h u,n⟩ (ds++[(false,rd,u.map (·.1))]):=rfl
theorem abm {op:COp} {g:Nat} {w b:Bool}:DGK C base fin k a un l nid d op g w e h n ds (some (.bool b))=if b=w then DK C base fin k a un (⟨d,none,op⟩::l) nid ⟨mZ e g (.bool w),h,n⟩ ds else DK C base fin k a un l (nid+1) ⟨eH (mZ e g (.bool (!w))) d (.tup []),h,n⟩ (ds++[(false,[],[])]):=rfl
theorem IZ {op:COp} {g:Nat}:DGK C base fin k a un l nid d op g true e h n ds (some (.bool true))=DK C base fin k a un (⟨d,none,op⟩::l) nid ⟨mZ e g (.bool true),h,n⟩ ds:=rfl
theorem D7 {op:COp} {g:Nat}:DGK C base fin k a un l nid d op g false e h n ds (some (.bool false))=DK C base fin k a un (⟨d,none,op⟩::l) nid ⟨mZ e g (.bool false),h,n⟩ ds:=rfl
theorem Ih {op:COp} {g:Nat}:DGK C base fin k a un l nid d op g true e h n ds (some (.bool false))=DK C base fin k a un l (nid+1) ⟨eH (mZ e g (.bool false)) d (.tup []),h,n⟩ (ds++[(false,[],[])]):=rfl
theorem HY {op:COp} {g:Nat}:DGK C base fin k a un l nid d op g false e h n ds (some (.bool true))=DK C base fin k a un l (nid+1) ⟨eH (mZ e g (.bool true)) d (.tup []),h,n⟩ (ds++[(false,[],[])]):=rfl
theorem aha {op:COp} {g:Nat} {w:Bool}:DGK C base fin k a un l nid d op g w e h n ds (some (.tup []))=DK C base fin k a un l (nid+1) ⟨eH e d (.tup []),h,n⟩ (ds++[(false,[],[])]):=rfl
theorem aas {op:COp} {g:Nat} {w:Bool}:DK C base fin k a un (⟨d,some (g,w),op⟩::l) nid ⟨e,h,n⟩ ds=DGK C base fin k a un l nid d op g w e h n ds (get e g):=by
 unfold DGK
 cases hg:get e g with
 | none=>rw [mG];simp only [gy,wants,hg];rfl
 | some v =>
  cases v with
  | bool b =>
   simp only
   by_cases hw:b=w
   · subst hw
     rw [uP hg,if_pos rfl,mG,mG]
     simp only [gy,wants,hg,beq_self_eq_true]
   · have e1:(b == w)=false:=by simpa using hw
     have e2:(!w)=b:=by cases b <;> cases w <;> simp_all
     rw [if_neg hw,e2,uP hg,mG]
     simp only [gy,wants,hg,e1,ob,ZA]
  | tup vs =>
   cases vs with
   | nil=>rw [mG];simp only [gy,wants,hg];rfl
   | cons _ _=>rw [mG];simp only [gy,wants,hg];rfl
  | _=>rw [mG];simp only [gy,wants,hg];rfl
theorem aaO {args:List AV} (v:AV):DVK C base fin k a un l nid d e h n ds args (some v)=DK C base fin k a un l nid ⟨eH e d v,dA h (oh h args v),n⟩ (ds++[(false,args.flatMap (aY h aI),(oh h args v).map (·.1))]):=rfl
theorem adk (r:AV × aK × Nat):DWK C base fin k a un l nid d e ds (some r)=DK C base fin k a un l nid ⟨eH e d r.1,r.2.1,r.2.2⟩ (ds++[(true,[],[])]):=rfl
theorem acw {f:Nat} {args:List AV} (as:List AV):DPK C base fin k a un l nid d e h n ds f args (some as)=DVK C base fin k a un l nid d e h n ds args (FnW C f as):=rfl
theorem acv {f:Nat} {args:List AV}:DFK C base fin k a un l nid d e h n ds f args false false=DPK C base fin k a un l nid d e h n ds f args (bG (bP h aI) args):=rfl
theorem ad4 {f:Nat} {args:List AV} {p:Bool}:DFK C base fin k a un l nid d e h n ds f args true p=DIK C base fin k a un l nid d e h n ds f args (Q5 f):=rfl
theorem YT {f:Nat} {args:List AV}:DIK C base fin k a un l nid d e h n ds f args false=DWK C base fin k a un l nid d e ds (RnW C f args h n):=rfl
theorem ac6 {f:Nat} {args:List AV}:DIK C base fin k a un l nid d e h n ds f args true=afy C base fin k a un l nid d e h n ds f args (bG (bP h aI) args):=rfl
theorem Y1 {f:Nat} {args:List AV} (as:List AV):afy C base fin k a un l nid d e h n ds f args (some as)=aay C base fin k a un l nid d e h n ds (sD f) args (bg (RnW C) f as (nid - 1)):=rfl
theorem XQ {args:List AV} (v:AV) (u:dO):ag8 C base fin k a un l nid d e h n ds args v u true=DK C base fin k a un l nid ⟨eH e d v,dA h u,n⟩ (ds++[(false,args.flatMap (aY h aI),u.map (·.1))]):=rfl
theorem XL {args:List AV} (v:AV) (u:dO):aay C base fin k a un l nid d e h n ds true args (some (v,u))=ag8 C base fin k a un l nid d e h n ds args v u (mY (v,u)):=rfl
theorem Zq {args:List AV} (v:AV) (u:dO):aay C base fin k a un l nid d e h n ds false args (some (v,u))=DK C base fin k a un l nid ⟨eH e d v,dA h (bH h (args.flatMap (aY h aI))++u),n⟩ (ds++[(false,args.flatMap (aY h aI),(bH h (args.flatMap (aY h aI))++u).map (·.1))]):=rfl
theorem aeQ {f:Nat} {args:List AV}:DFK C base fin k a un l nid d e h n ds f args false true=DWK C base fin k a un l nid d e ds (RnW C f args h n):=rfl
theorem ai2 {f:Nat} {args caps:List AV}:DQK C base fin k a un l nid d e h n ds args (.fn f caps)=DFK C base fin k a un l nid d e h n ds f (args++caps) (C.inl f) (!C.pp f&&bQ (args++caps)):=rfl
theorem adM {f:Nat} {args:List AV}:(ob (om (jo C (RnW C) f args h (nid - 1) n) (jY h n args)) fun r=>DK C base fin k a un l nid ⟨eH e d r.v,r.h,r.n⟩ (ds++[ZA r]))=DFK C base fin k a un l nid d e h n ds f args (C.inl f) (!C.pp f&&bQ args):=by
 unfold DFK jo DIK afy aay DWK DPK DVK FnW
 split
 · split
   · cases bG (bP h aI) args with
     | none=>rfl
     | some as =>
      simp only [ob]
      cases bg (RnW C) f as (nid - 1) with
      | none=>rfl
      | some x =>
       simp only [ob]
       unfold wo xM ag8
       cases sD f
       · rfl
       · cases mY x <;> rfl
   · cases RnW C f args h n <;> rfl
 · split
   · cases RnW C f args h n <;> rfl
   · cases bG (bP h aI) args with
     | none=>rfl
     | some as =>
      simp only [ob]
      cases jm (RnW C) f as <;> rfl
theorem agt {f:Nat} {xs:List Opd}:DK C base fin k a un (⟨d,none,.call f xs⟩::l) nid ⟨e,h,n⟩ ds=DFK C base fin k a un l (nid+1) d e h n ds f (xs.map fun x=>x.ev e) (C.inl f) (!C.pp f&&bQ (xs.map fun x=>x.ev e)):=by
 rw [← adM,mG]
 simp only [gy,wants,jC,callOf,Nat.add_sub_cancel]
theorem abC {g:Opd} {xs:List Opd}:DK C base fin k a un (⟨d,none,.dU g xs⟩::l) nid ⟨e,h,n⟩ ds=DQK C base fin k a un l (nid+1) d e h n ds (xs.map fun x=>x.ev e) (g.ev e):=by
 unfold DQK
 rw [mG]
 cases hg:g.ev e with
 | fn f caps =>
  simp only
  rw [← adM]
  simp only [gy,wants,jC,callOf,hg,Nat.add_sub_cancel]
 | _ =>
  simp only [gy,wants,jC,callOf,hg]
  rfl
theorem aH {f:Nat} {fn:WFn} (hf:C.fns.get f=some fn) {args:List AV} (hl:args.length=fn.np):FnW C f args=CK C 0 (aN fn.res) [] fn.body ⟨IY 0 args [],[],0⟩:=by
 unfold FnW jm RnW fD CK aN
 rw [hf]
 simp only [ob,if_pos hl,RK]
 cases CdW C 0 fn.body ⟨IY 0 args [],[],0⟩ with
 | none=>rfl
 | some r=>rfl
theorem bV {f:Nat} {fn:WFn} (hf:C.fns.get f=some fn) {args:List AV} (hl:args.length=fn.np) (h:aK) (n:Nat):RnW C f args h n=CK C n (iW fn.res) [] fn.body ⟨IY 0 args [],h,n⟩:=by
 unfold RnW fD CK
 rw [hf]
 simp only [ob,if_pos hl,RK]
end
end Go.Pw
end
section
set_option linter.unusedSimpArgs false
set_option linter.unusedVariables false
namespace Go.Pw
open Go Go.Pav
attribute [simp] ai5 ae8 aec ajq ahc acO aj9 afH ajS amv UY X4 UK YV alW Uc XT afP afr
 aj8 zY ajK acr ad5 ahj ag6 aex ak0 aj6 alY ae9 ada ajh aef acz aha aas aaO adk acw acv ad4 aeQ ai2 agt abC adJ agL aaK aaI acG abX XL XQ sD mY UQ gB lq YT ac6 Y1 Zq Q5
attribute [simp high] Tm Rh Ll Ic I5 I4 IZ D7 Ih HY
attribute [simp low] Ve ae5 abm
section
variable {β:Type} {C:aG} {base:Nat} {fin:Ex × WSt→Option β} {k:List Frame} {a:Ann} {l:List aZ} {d:Option Nat} {e:Env} {h:aK} {n:Nat} {un:List (Nat × Nat)} {nid:Nat} {ds:List RW}
@[simp] theorem atx {x:Opd}:OK C base fin k a (⟨d,none,.mv x⟩::l) ⟨e,h,n⟩=OK C base fin k a l ⟨eH e d (x.ev e),h,n+1⟩:=by rw [bJ rfl];rfl
@[simp] theorem aoG {c x y:Opd}:OK C base fin k a (⟨d,none,.pick c x y⟩::l) ⟨e,h,n⟩=SK C base fin k a l d e h (n+1) (stepW (.pick c x y) e h n):=bJ rfl
@[simp] theorem am8 {z:List AV}:OK C base fin k a (⟨d,none,.alloc z⟩::l) ⟨e,h,n⟩=SK C base fin k a l d e h (n+1) (stepW (.alloc z) e h n):=bJ rfl
@[simp] theorem arC {x:Opd}:OK C base fin k a (⟨d,none,.box x⟩::l) ⟨e,h,n⟩=SK C base fin k a l d e h (n+1) (stepW (.box x) e h n):=bJ rfl
@[simp] theorem amC {z:List AV} {ps:List (Nat × Nat × Opd)}:OK C base fin k a (⟨d,none,.build z ps⟩::l) ⟨e,h,n⟩=SK C base fin k a l d e h (n+1) (stepW (.build z ps) e h n):=bJ rfl
@[simp] theorem ala {z:List AV} {m:Nat} {ps:List (Nat × Opd)}:OK C base fin k a (⟨d,none,.aV z m ps⟩::l) ⟨e,h,n⟩=SK C base fin k a l d e h (n+1) (stepW (.aV z m ps) e h n):=bJ rfl
@[simp] theorem aoO {m:Nat} {ag:Bool} {x:Opd}:OK C base fin k a (⟨d,none,.load m ag x⟩::l) ⟨e,h,n⟩=SK C base fin k a l d e h (n+1) (stepW (.load m ag x) e h n):=bJ rfl
@[simp] theorem alR {m:Nat} {x y:Opd}:OK C base fin k a (⟨d,none,.store m x y⟩::l) ⟨e,h,n⟩=SK C base fin k a l d e h (n+1) (stepW (.store m x y) e h n):=bJ rfl
@[simp] theorem ak9 {x:Opd}:OK C base fin k a (⟨d,none,.jD x⟩::l) ⟨e,h,n⟩=SK C base fin k a l d e h (n+1) (stepW (.jD x) e h n):=bJ rfl
@[simp] theorem arz {op:BinOp} {x y:Opd}:OK C base fin k a (⟨d,none,.bin op x y⟩::l) ⟨e,h,n⟩=SK C base fin k a l d e h (n+1) (stepW (.bin op x y) e h n):=bJ rfl
@[simp] theorem arL {kd:Nat} {ks:List Nat} {ne:Bool} {x y:Opd}:OK C base fin k a (⟨d,none,.eqv kd ks ne x y⟩::l) ⟨e,h,n⟩=SK C base fin k a l d e h (n+1) (stepW (.eqv kd ks ne x y) e h n):=bJ rfl
@[simp] theorem att {op:UnOp} {x:Opd}:OK C base fin k a (⟨d,none,.un op x⟩::l) ⟨e,h,n⟩=SK C base fin k a l d e h (n+1) (stepW (.un op x) e h n):=bJ rfl
@[simp] theorem as3 {kk:IntKind} {x:Opd}:OK C base fin k a (⟨d,none,.cvt kk x⟩::l) ⟨e,h,n⟩=SK C base fin k a l d e h (n+1) (stepW (.cvt kk x) e h n):=bJ rfl
@[simp] theorem apq {x:Opd}:OK C base fin k a (⟨d,none,.cvs x⟩::l) ⟨e,h,n⟩=SK C base fin k a l d e h (n+1) (stepW (.cvs x) e h n):=bJ rfl
@[simp] theorem as2 {x:Opd}:OK C base fin k a (⟨d,none,.cvb x⟩::l) ⟨e,h,n⟩=SK C base fin k a l d e h (n+1) (stepW (.cvb x) e h n):=bJ rfl
@[simp] theorem anN {f:Nat} {xs:List Opd}:OK C base fin k a (⟨d,none,.jK f xs⟩::l) ⟨e,h,n⟩=SK C base fin k a l d e h (n+1) (stepW (.jK f xs) e h n):=bJ rfl
@[simp] theorem anb:OK C base fin k a (⟨d,none,.mV⟩::l) ⟨e,h,n⟩=SK C base fin k a l d e h (n+1) (stepW .mV e h n):=bJ rfl
@[simp] theorem anS {z:List AV} {b:Nat} {x y:Opd}:OK C base fin k a (⟨d,none,.mX z b x y⟩::l) ⟨e,h,n⟩=SK C base fin k a l d e h (n+1) (stepW (.mX z b x y) e h n):=bJ rfl
@[simp] theorem ok_slice {z:Nat} {x:Opd} {lo hi mx:Option Opd}:OK C base fin k a (⟨d,none,.slice z x lo hi mx⟩::l) ⟨e,h,n⟩=SK C base fin k a l d e h (n+1) (stepW (.slice z x lo hi mx) e h n):=bJ rfl
@[simp] theorem alk {z:Nat} {x:Opd} {lo hi:Option Opd}:OK C base fin k a (⟨d,none,.gu z x lo hi⟩::l) ⟨e,h,n⟩=SK C base fin k a l d e h (n+1) (stepW (.gu z x lo hi) e h n):=bJ rfl
@[simp] theorem atd {o:Nat} {x:Opd}:OK C base fin k a (⟨d,none,.fld o x⟩::l) ⟨e,h,n⟩=SK C base fin k a l d e h (n+1) (stepW (.fld o x) e h n):=bJ rfl
@[simp] theorem ao9 {o m:Nat} {ag:Bool} {x:Opd}:OK C base fin k a (⟨d,none,.yt o m ag x⟩::l) ⟨e,h,n⟩=SK C base fin k a l d e h (n+1) (stepW (.yt o m ag x) e h n):=bJ rfl
@[simp] theorem ao8 {z:Nat} {x y:Opd}:OK C base fin k a (⟨d,none,.idxs z x y⟩::l) ⟨e,h,n⟩=SK C base fin k a l d e h (n+1) (stepW (.idxs z x y) e h n):=bJ rfl
@[simp] theorem aof {m z:Nat} {x y:Opd}:OK C base fin k a (⟨d,none,.kZ m z x y⟩::l) ⟨e,h,n⟩=SK C base fin k a l d e h (n+1) (stepW (.kZ m z x y) e h n):=bJ rfl
@[simp] theorem ald {x y:Opd}:OK C base fin k a (⟨d,none,.dX x y⟩::l) ⟨e,h,n⟩=SK C base fin k a l d e h (n+1) (stepW (.dX x y) e h n):=bJ rfl
@[simp] theorem aop {m z:Nat} {ag:Bool} {x y:Opd}:OK C base fin k a (⟨d,none,.xO m z ag x y⟩::l) ⟨e,h,n⟩=SK C base fin k a l d e h (n+1) (stepW (.xO m z ag x y) e h n):=bJ rfl
@[simp] theorem aoN {kd:Nat} {z:AV} {ok:Bool} {x y:Opd}:OK C base fin k a (⟨d,none,.look kd z ok x y⟩::l) ⟨e,h,n⟩=SK C base fin k a l d e h (n+1) (stepW (.look kd z ok x y) e h n):=bJ rfl
@[simp] theorem ar6 {kd:Nat} {x y z:Opd}:OK C base fin k a (⟨d,none,.upd kd x y z⟩::l) ⟨e,h,n⟩=SK C base fin k a l d e h (n+1) (stepW (.upd kd x y z) e h n):=bJ rfl
@[simp] theorem alG {x:Opd}:OK C base fin k a (⟨d,none,.range x⟩::l) ⟨e,h,n⟩=SK C base fin k a l d e h (n+1) (stepW (.range x) e h n):=bJ rfl
@[simp] theorem aoT {x:Opd}:OK C base fin k a (⟨d,none,.next x⟩::l) ⟨e,h,n⟩=SK C base fin k a l d e h (n+1) (stepW (.next x) e h n):=bJ rfl
@[simp] theorem arU {i:Nat} {x:Opd}:OK C base fin k a (⟨d,none,.ext i x⟩::l) ⟨e,h,n⟩=SK C base fin k a l d e h (n+1) (stepW (.ext i x) e h n):=bJ rfl
@[simp] theorem ar2 {kd:Nat} {x:Opd}:OK C base fin k a (⟨d,none,.len kd x⟩::l) ⟨e,h,n⟩=SK C base fin k a l d e h (n+1) (stepW (.len kd x) e h n):=bJ rfl
@[simp] theorem asG {x:Opd}:OK C base fin k a (⟨d,none,.cap x⟩::l) ⟨e,h,n⟩=SK C base fin k a l d e h (n+1) (stepW (.cap x) e h n):=bJ rfl
@[simp] theorem asx {z:List AV} {b:Nat} {zs:Bool} {x y:Opd}:OK C base fin k a (⟨d,none,.app z b zs x y⟩::l) ⟨e,h,n⟩=SK C base fin k a l d e h (n+1) (stepW (.app z b zs x y) e h n):=bJ rfl
@[simp] theorem ar9 {z:Nat} {x y:Opd}:OK C base fin k a (⟨d,none,.cpy z x y⟩::l) ⟨e,h,n⟩=SK C base fin k a l d e h (n+1) (stepW (.cpy z x y) e h n):=bJ rfl
@[simp] theorem arV {z:List AV} {x:Opd}:OK C base fin k a (⟨d,none,.clr z x⟩::l) ⟨e,h,n⟩=SK C base fin k a l d e h (n+1) (stepW (.clr z x) e h n):=bJ rfl
@[simp] theorem atm {x y:Opd}:OK C base fin k a (⟨d,none,.mx x y⟩::l) ⟨e,h,n⟩=SK C base fin k a l d e h (n+1) (stepW (.mx x y) e h n):=bJ rfl
@[simp] theorem atu {x y:Opd}:OK C base fin k a (⟨d,none,.mn x y⟩::l) ⟨e,h,n⟩=SK C base fin k a l d e h (n+1) (stepW (.mn x y) e h n):=bJ rfl
@[simp] theorem atp {x:Opd}:DK C base fin k a un (⟨d,none,.mv x⟩::l) nid ⟨e,h,n⟩ ds=DSK C base fin k a un l (nid+1) d e h n ds (readsOf e (.mv x)) (stepW (.mv x) e h nid):=bI rfl
@[simp] theorem aoi {c x y:Opd}:DK C base fin k a un (⟨d,none,.pick c x y⟩::l) nid ⟨e,h,n⟩ ds=DSK C base fin k a un l (nid+1) d e h n ds (readsOf e (.pick c x y)) (stepW (.pick c x y) e h nid):=bI rfl
@[simp] theorem amO {z:List AV}:DK C base fin k a un (⟨d,none,.alloc z⟩::l) nid ⟨e,h,n⟩ ds=DSK C base fin k a un l (nid+1) d e h n ds (readsOf e (.alloc z)) (stepW (.alloc z) e h nid):=bI rfl
@[simp] theorem aqM {x:Opd}:DK C base fin k a un (⟨d,none,.box x⟩::l) nid ⟨e,h,n⟩ ds=DSK C base fin k a un l (nid+1) d e h n ds (readsOf e (.box x)) (stepW (.box x) e h nid):=bI rfl
@[simp] theorem anh {z:List AV} {ps:List (Nat × Nat × Opd)}:DK C base fin k a un (⟨d,none,.build z ps⟩::l) nid ⟨e,h,n⟩ ds=DSK C base fin k a un l (nid+1) d e h n ds (readsOf e (.build z ps)) (stepW (.build z ps) e h nid):=bI rfl
@[simp] theorem alp {z:List AV} {m:Nat} {ps:List (Nat × Opd)}:DK C base fin k a un (⟨d,none,.aV z m ps⟩::l) nid ⟨e,h,n⟩ ds=DSK C base fin k a un l (nid+1) d e h n ds (readsOf e (.aV z m ps)) (stepW (.aV z m ps) e h nid):=bI rfl
@[simp] theorem anv {m:Nat} {ag:Bool} {x:Opd}:DK C base fin k a un (⟨d,none,.load m ag x⟩::l) nid ⟨e,h,n⟩ ds=DSK C base fin k a un l (nid+1) d e h n ds (readsOf e (.load m ag x)) (stepW (.load m ag x) e h nid):=bI rfl
@[simp] theorem amF {m:Nat} {x y:Opd}:DK C base fin k a un (⟨d,none,.store m x y⟩::l) nid ⟨e,h,n⟩ ds=DSK C base fin k a un l (nid+1) d e h n ds (readsOf e (.store m x y)) (stepW (.store m x y) e h nid):=bI rfl
@[simp] theorem alb {x:Opd}:DK C base fin k a un (⟨d,none,.jD x⟩::l) nid ⟨e,h,n⟩ ds=DSK C base fin k a un l (nid+1) d e h n ds (readsOf e (.jD x)) (stepW (.jD x) e h nid):=bI rfl
@[simp] theorem asT {op:BinOp} {x y:Opd}:DK C base fin k a un (⟨d,none,.bin op x y⟩::l) nid ⟨e,h,n⟩ ds=DSK C base fin k a un l (nid+1) d e h n ds (readsOf e (.bin op x y)) (stepW (.bin op x y) e h nid):=bI rfl
@[simp] theorem apm {kd:Nat} {ks:List Nat} {ne:Bool} {x y:Opd}:DK C base fin k a un (⟨d,none,.eqv kd ks ne x y⟩::l) nid ⟨e,h,n⟩ ds=DSK C base fin k a un l (nid+1) d e h n ds (readsOf e (.eqv kd ks ne x y)) (stepW (.eqv kd ks ne x y) e h nid):=bI rfl
@[simp] theorem atj {op:UnOp} {x:Opd}:DK C base fin k a un (⟨d,none,.un op x⟩::l) nid ⟨e,h,n⟩ ds=DSK C base fin k a un l (nid+1) d e h n ds (readsOf e (.un op x)) (stepW (.un op x) e h nid):=bI rfl
@[simp] theorem as1 {kk:IntKind} {x:Opd}:DK C base fin k a un (⟨d,none,.cvt kk x⟩::l) nid ⟨e,h,n⟩ ds=DSK C base fin k a un l (nid+1) d e h n ds (readsOf e (.cvt kk x)) (stepW (.cvt kk x) e h nid):=bI rfl
@[simp] theorem apz {x:Opd}:DK C base fin k a un (⟨d,none,.cvs x⟩::l) nid ⟨e,h,n⟩ ds=DSK C base fin k a un l (nid+1) d e h n ds (readsOf e (.cvs x)) (stepW (.cvs x) e h nid):=bI rfl
@[simp] theorem arO {x:Opd}:DK C base fin k a un (⟨d,none,.cvb x⟩::l) nid ⟨e,h,n⟩ ds=DSK C base fin k a un l (nid+1) d e h n ds (readsOf e (.cvb x)) (stepW (.cvb x) e h nid):=bI rfl
@[simp] theorem apc {f:Nat} {xs:List Opd}:DK C base fin k a un (⟨d,none,.jK f xs⟩::l) nid ⟨e,h,n⟩ ds=DSK C base fin k a un l (nid+1) d e h n ds (readsOf e (.jK f xs)) (stepW (.jK f xs) e h nid):=bI rfl
@[simp] theorem al4:DK C base fin k a un (⟨d,none,.mV⟩::l) nid ⟨e,h,n⟩ ds=DSK C base fin k a un l (nid+1) d e h n ds (readsOf e (.mV)) (stepW (.mV) e h nid):=bI rfl
@[simp] theorem anY {z:List AV} {b:Nat} {x y:Opd}:DK C base fin k a un (⟨d,none,.mX z b x y⟩::l) nid ⟨e,h,n⟩ ds=DSK C base fin k a un l (nid+1) d e h n ds (readsOf e (.mX z b x y)) (stepW (.mX z b x y) e h nid):=bI rfl
@[simp] theorem am4 {z:Nat} {x:Opd} {lo hi mx:Option Opd}:DK C base fin k a un (⟨d,none,.slice z x lo hi mx⟩::l) nid ⟨e,h,n⟩ ds=DSK C base fin k a un l (nid+1) d e h n ds (readsOf e (.slice z x lo hi mx)) (stepW (.slice z x lo hi mx) e h nid):=bI rfl
@[simp] theorem ak6 {z:Nat} {x:Opd} {lo hi:Option Opd}:DK C base fin k a un (⟨d,none,.gu z x lo hi⟩::l) nid ⟨e,h,n⟩ ds=DSK C base fin k a un l (nid+1) d e h n ds (readsOf e (.gu z x lo hi)) (stepW (.gu z x lo hi) e h nid):=bI rfl
@[simp] theorem aqf {o:Nat} {x:Opd}:DK C base fin k a un (⟨d,none,.fld o x⟩::l) nid ⟨e,h,n⟩ ds=DSK C base fin k a un l (nid+1) d e h n ds (readsOf e (.fld o x)) (stepW (.fld o x) e h nid):=bI rfl
@[simp] theorem anR {o m:Nat} {ag:Bool} {x:Opd}:DK C base fin k a un (⟨d,none,.yt o m ag x⟩::l) nid ⟨e,h,n⟩ ds=DSK C base fin k a un l (nid+1) d e h n ds (readsOf e (.yt o m ag x)) (stepW (.yt o m ag x) e h nid):=bI rfl
@[simp] theorem ano {z:Nat} {x y:Opd}:DK C base fin k a un (⟨d,none,.idxs z x y⟩::l) nid ⟨e,h,n⟩ ds=DSK C base fin k a un l (nid+1) d e h n ds (readsOf e (.idxs z x y)) (stepW (.idxs z x y) e h nid):=bI rfl
@[simp] theorem aoB {m z:Nat} {x y:Opd}:DK C base fin k a un (⟨d,none,.kZ m z x y⟩::l) nid ⟨e,h,n⟩ ds=DSK C base fin k a un l (nid+1) d e h n ds (readsOf e (.kZ m z x y)) (stepW (.kZ m z x y) e h nid):=bI rfl
@[simp] theorem ali {x y:Opd}:DK C base fin k a un (⟨d,none,.dX x y⟩::l) nid ⟨e,h,n⟩ ds=DSK C base fin k a un l (nid+1) d e h n ds (readsOf e (.dX x y)) (stepW (.dX x y) e h nid):=bI rfl
@[simp] theorem aoR {m z:Nat} {ag:Bool} {x y:Opd}:DK C base fin k a un (⟨d,none,.xO m z ag x y⟩::l) nid ⟨e,h,n⟩ ds=DSK C base fin k a un l (nid+1) d e h n ds (readsOf e (.xO m z ag x y)) (stepW (.xO m z ag x y) e h nid):=bI rfl
@[simp] theorem aoq {kd:Nat} {z:AV} {ok:Bool} {x y:Opd}:DK C base fin k a un (⟨d,none,.look kd z ok x y⟩::l) nid ⟨e,h,n⟩ ds=DSK C base fin k a un l (nid+1) d e h n ds (readsOf e (.look kd z ok x y)) (stepW (.look kd z ok x y) e h nid):=bI rfl
@[simp] theorem arB {kd:Nat} {x y z:Opd}:DK C base fin k a un (⟨d,none,.upd kd x y z⟩::l) nid ⟨e,h,n⟩ ds=DSK C base fin k a un l (nid+1) d e h n ds (readsOf e (.upd kd x y z)) (stepW (.upd kd x y z) e h nid):=bI rfl
@[simp] theorem amB {x:Opd}:DK C base fin k a un (⟨d,none,.range x⟩::l) nid ⟨e,h,n⟩ ds=DSK C base fin k a un l (nid+1) d e h n ds (readsOf e (.range x)) (stepW (.range x) e h nid):=bI rfl
@[simp] theorem aow {x:Opd}:DK C base fin k a un (⟨d,none,.next x⟩::l) nid ⟨e,h,n⟩ ds=DSK C base fin k a un l (nid+1) d e h n ds (readsOf e (.next x)) (stepW (.next x) e h nid):=bI rfl
@[simp] theorem ap0 {i:Nat} {x:Opd}:DK C base fin k a un (⟨d,none,.ext i x⟩::l) nid ⟨e,h,n⟩ ds=DSK C base fin k a un l (nid+1) d e h n ds (readsOf e (.ext i x)) (stepW (.ext i x) e h nid):=bI rfl
@[simp] theorem asD {kd:Nat} {x:Opd}:DK C base fin k a un (⟨d,none,.len kd x⟩::l) nid ⟨e,h,n⟩ ds=DSK C base fin k a un l (nid+1) d e h n ds (readsOf e (.len kd x)) (stepW (.len kd x) e h nid):=bI rfl
@[simp] theorem asz {x:Opd}:DK C base fin k a un (⟨d,none,.cap x⟩::l) nid ⟨e,h,n⟩ ds=DSK C base fin k a un l (nid+1) d e h n ds (readsOf e (.cap x)) (stepW (.cap x) e h nid):=bI rfl
@[simp] theorem apR {z:List AV} {b:Nat} {zs:Bool} {x y:Opd}:DK C base fin k a un (⟨d,none,.app z b zs x y⟩::l) nid ⟨e,h,n⟩ ds=DSK C base fin k a un l (nid+1) d e h n ds (readsOf e (.app z b zs x y)) (stepW (.app z b zs x y) e h nid):=bI rfl
@[simp] theorem apJ {z:Nat} {x y:Opd}:DK C base fin k a un (⟨d,none,.cpy z x y⟩::l) nid ⟨e,h,n⟩ ds=DSK C base fin k a un l (nid+1) d e h n ds (readsOf e (.cpy z x y)) (stepW (.cpy z x y) e h nid):=bI rfl
@[simp] theorem asw {z:List AV} {x:Opd}:DK C base fin k a un (⟨d,none,.clr z x⟩::l) nid ⟨e,h,n⟩ ds=DSK C base fin k a un l (nid+1) d e h n ds (readsOf e (.clr z x)) (stepW (.clr z x) e h nid):=bI rfl
@[simp] theorem atr {x y:Opd}:DK C base fin k a un (⟨d,none,.mx x y⟩::l) nid ⟨e,h,n⟩ ds=DSK C base fin k a un l (nid+1) d e h n ds (readsOf e (.mx x y)) (stepW (.mx x y) e h nid):=bI rfl
@[simp] theorem atl {x y:Opd}:DK C base fin k a un (⟨d,none,.mn x y⟩::l) nid ⟨e,h,n⟩ ds=DSK C base fin k a un l (nid+1) d e h n ds (readsOf e (.mn x y)) (stepW (.mn x y) e h nid):=bI rfl
end
@[simp] theorem nat?_cast (n:Nat):nat? (n:Int)=some n:=rfl
@[simp] theorem nat?_zero:nat? 0=some 0:=rfl
@[simp] theorem nat?_one:nat? 1=some 1:=rfl
@[simp] theorem nat?_lit (n:Nat):nat? (no_index (OfNat.ofNat n):Int)=some n:=rfl
@[simp] theorem nat?_add (n m:Nat):nat? ((n:Int)+(m:Int))=some (n+m):=rfl
@[simp] theorem nat?_add_lit (n m:Nat):nat? ((n:Int)+(no_index (OfNat.ofNat m):Int))=some (n+m):=rfl
theorem aB {x:Int} (h1:-9223372036854775808≤x) (h2:x < 9223372036854775808):IntKind.i64.wrap x=x:=by
 show (if (true&&decide (x % 18446744073709551616 ≥ 9223372036854775808))=true then x % 18446744073709551616 - 18446744073709551616 else x % 18446744073709551616)=x
 simp only [Bool.true_and,decide_eq_true_eq]
 split <;> omega
theorem jZ {x:Int} (h1:0≤x) (h2:x < 18446744073709551616):IntKind.u64.wrap x=x:=by
 show (if (false&&decide (x % 18446744073709551616 ≥ 9223372036854775808))=true then x % 18446744073709551616 - 18446744073709551616 else x % 18446744073709551616)=x
 simp only [Bool.false_and,Bool.false_eq_true,if_false]
 omega
theorem wU8 {x:Int} (h1:0≤x) (h2:x < 256):IntKind.u8.wrap x=x:=by
 show (if (false&&decide (x % 256 ≥ 128))=true then x % 256 - 256 else x % 256)=x
 simp only [Bool.false_and,Bool.false_eq_true,if_false]
 omega
theorem fits {n c:Nat} (h:n * c≤35184372088832):(n * c≤35184372088832)=True:=eq_true h
@[simp ↓] theorem atG {α β:Type} (a:α) (f:α→Option β):ob (some a) f=f a:=rfl
@[simp] theorem alr (e:Env) (h:aK) (t:Nat):Dh e h (.tmp t)=Pav.get e t:=rfl
def cellOf (h:aK) (n:Nat) (ag:Bool):Option AV→Option AV
 | some (.ptr b i o)=>xG n ag o i (Pav.get h b)
 | _=>none
@[simp] theorem ajc (e:Env) (h:aK) (t n:Nat) (ag:Bool):Dh e h (.cell t n ag)=cellOf h n ag (Pav.get e t):=rfl
attribute [simp] cellOf
@[simp] theorem atE (s:Nat) (e:Env):(Opd.t s).ev e=(Pav.get e s).getD .undef:=rfl
@[simp] theorem atJ (v:AV) (e:Env):(Opd.c v).ev e=v:=rfl
@[simp ↓] theorem atD {α β:Type} (f:α→Option β):ob none f=none:=rfl
@[simp ↓] theorem atA {α β:Type} (a:α) (f:α→β):om (some a) f=some (f a):=rfl
@[simp ↓] theorem atB {α β:Type} (f:α→β):om none f=none:=rfl
@[simp] theorem atC {β:Type} (x:Option β):og true x=x:=rfl
@[simp] theorem atH {β:Type} (x:Option β):og false x=none:=rfl
@[simp] theorem atz (v:AV):ov (some v)=some (v,[]):=rfl
@[simp] theorem ati (v:AV):ovW (some v)=some (v,[]):=rfl
@[simp] theorem amj (x:AV × Upd):plainW (some x)=some (x.1,[]):=rfl
def acK {α:Type}:Option α→Option (List α)→Option (List α)
 | some a,some l=>some (a::l)
 | _,_=>none
@[simp] theorem anr {α:Type} (a:α) (l:List α):acK (some a) (some l)=some (a::l):=rfl
@[simp] theorem am0 {α β:Type} (f:α→Option β):bG f []=some []:=rfl
@[simp] theorem alh {α β:Type} (f:α→Option β) (a:α) (r:List α):bG f (a::r)=acK (f a) (bG f r):=by
 simp only [bG];cases f a <;> cases bG f r <;> rfl
def ahG (k:Nat):Option AV→Option Env→Option Env
 | some v,some r=>some ((k,v)::r)
 | _,_=>none
@[simp] theorem aoY (k:Nat) (v:AV) (r:Env):ahG k (some v) (some r)=some ((k,v)::r):=rfl
@[simp] theorem ais (π:Nat→Option Nat):jR π []=some []:=rfl
@[simp] theorem air (π:Nat→Option Nat) (k:Nat) (v:AV) (r:Env):jR π ((k,v)::r)=ahG k (ren π v) (jR π r):=by
 simp only [jR];cases ren π v <;> cases jR π r <;> rfl
def alT (i o:Nat):Option Nat→Option AV
 | some b=>some (.ptr b i o)
 | none=>none
def slO (z i l c:Nat) (ex:Bool):Option Nat→Option AV
 | some b=>some (.sl b z i l c ex)
 | none=>none
def alO:Option Nat→Option AV
 | some b=>some (.map b)
 | none=>none
def fnO (f:Nat):Option (List AV)→Option AV
 | some cs=>some (.fn f cs)
 | none=>none
def aiH:Option (List AV)→Option AV
 | some cs=>some (.agg cs)
 | none=>none
def ai0:Option (List AV)→Option AV
 | some cs=>some (.tup cs)
 | none=>none
@[simp] theorem aqs (i o b:Nat):alT i o (some b)=some (.ptr b i o):=rfl
@[simp] theorem atw (z i l c:Nat) (ex:Bool) (b:Nat):slO z i l c ex (some b)=some (.sl b z i l c ex):=rfl
@[simp] theorem apB (b:Nat):alO (some b)=some (.map b):=rfl
@[simp] theorem aty (f:Nat) (cs:List AV):fnO f (some cs)=some (.fn f cs):=rfl
@[simp] theorem apu (cs:List AV):aiH (some cs)=some (.agg cs):=rfl
@[simp] theorem ara (cs:List AV):ai0 (some cs)=some (.tup cs):=rfl
section
variable (π:Nat→Option Nat)
@[simp] theorem anP (b i o:Nat):ren π (.ptr b i o)=alT i o (π b):=by simp only [ren];cases π b <;> rfl
@[simp] theorem apQ (b z i l c:Nat) (ex:Bool):ren π (.sl b z i l c ex)=slO z i l c ex (π b):=by simp only [ren];cases π b <;> rfl
@[simp] theorem ape (b:Nat):ren π (.map b)=alO (π b):=by simp only [ren];cases π b <;> rfl
@[simp] theorem asX (f:Nat) (cs:List AV):ren π (.fn f cs)=fnO f (lG π cs):=by simp only [ren];cases lG π cs <;> rfl
@[simp] theorem anm (cs:List AV):ren π (.agg cs)=aiH (lG π cs):=by simp only [ren];cases lG π cs <;> rfl
@[simp] theorem aoI (cs:List AV):ren π (.tup cs)=ai0 (lG π cs):=by simp only [ren];cases lG π cs <;> rfl
@[simp] theorem alv:ren π .undef=some .undef:=rfl
@[simp] theorem amI (b:Bool):ren π (.bool b)=some (.bool b):=rfl
@[simp] theorem ao4 (k:IntKind) (n:Int):ren π (.int k n)=some (.int k n):=rfl
@[simp] theorem anW (s:List UInt8):ren π (.str s)=some (.str s):=rfl
@[simp] theorem alI:ren π .dP=some .dP:=rfl
@[simp] theorem amZ:ren π .bC=some .bC:=rfl
@[simp] theorem al2:ren π .dN=some .dN:=rfl
@[simp] theorem al7:ren π .dK=some .dK:=rfl
@[simp] theorem ar8 (z:Nat) (es:List (List AV)) (ex:Bool):ren π (.ro z es ex)=some (.ro z es ex):=rfl
@[simp] theorem aoU (cs:List AV):ren π (.rop cs)=some (.rop cs):=rfl
@[simp] theorem alU:lG π []=some []:=rfl
@[simp] theorem ak4 (v:AV) (r:List AV):lG π (v::r)=acK (ren π v) (lG π r):=by simp only [lG];cases ren π v <;> cases lG π r <;> rfl
def aan (z:Nat) (mu dt:Bool):Option (List (List AV))→Option fZ
 | some es=>some (.cells z es mu dt)
 | none=>none
@[simp] theorem amw (z:Nat) (mu dt:Bool) (es:List (List AV)):aan z mu dt (some es)=some (.cells z es mu dt):=rfl
@[simp] theorem alm (z:Nat) (es:List (List AV)) (mu:Bool):gZ π (.cells z es mu true)=some (.cells z es mu true):=rfl
@[simp] theorem alu (z:Nat) (es:List (List AV)) (mu:Bool):gZ π (.cells z es mu false)=aan z mu false (bG (lG π) es):=by simp only [gZ];cases bG (lG π) es <;> rfl
@[simp] theorem akD (es:List (AV × AV)):gZ π (.map es)=some (.map es):=rfl
@[simp] theorem ahC (s:List UInt8) (p:Nat):gZ π (.iter s p)=some (.iter s p):=rfl
def V9 (k:Nat):Option fZ→Option aK→Option aK
 | some v,some r=>some ((k,v)::r)
 | _,_=>none
@[simp] theorem aoy (k:Nat) (v:fZ) (r:aK):V9 k (some v) (some r)=some ((k,v)::r):=rfl
@[simp] theorem akn (base:Nat):jy base π []=some []:=rfl
@[simp] theorem aie (base b:Nat) (o:fZ) (r:aK):jy base π ((b,o)::r)=if b < base then V9 b (gZ π o) (jy base π r) else jy base π r:=by
 simp only [jy]
 split
 · cases gZ π o <;> cases jy base π r <;> rfl
 · rfl
def newH (n:Nat) (π:Nat→Option Nat) (r:Option aK):Option fZ→Option aK
 | some o=>V9 n (gZ π o) r
 | none=>r
@[simp] theorem aso (n:Nat) (r:Option aK) (o:fZ):newH n π r (some o)=V9 n (gZ π o) r:=rfl
@[simp] theorem arK (n:Nat) (r:Option aK):newH n π r none=r:=rfl
@[simp] theorem ak2 (h:aK) (n:Nat):lF π h n []=some []:=rfl
@[simp] theorem ah1 (h:aK) (n b:Nat) (r:List Nat):lF π h n (b::r)=newH n π (lF π h (n+1) r) (Pav.get h b):=by
 simp only [lF,newH]
 cases Pav.get h b with
 | none=>rfl
 | some o=>simp only;cases gZ π o <;> cases lF π h (n+1) r <;> rfl
end
def amW (n:Nat):Option Env→Option aK→Option aK→Option WSt
 | some e,some h1,some h2=>some ⟨e,h1++h2,n⟩
 | _,_,_=>none
@[simp] theorem aqD (n:Nat) (e:Env) (h1 h2:aK):amW n (some e) (some h1) (some h2)=some ⟨e,h1++h2,n⟩:=rfl
@[simp] theorem ahU (base:Nat) (s:WSt) (L:List Nat):renumber base s L=amW (base+L.length) (jR (gU base L) s.env) (jy base (gU base L) s.heap) (lF (gU base L) s.heap base L):=by
 simp only [renumber]
 cases jR (gU base L) s.env <;> cases jy base (gU base L) s.heap <;> cases lF (gU base L) s.heap base L <;> rfl
def amG (h:aK) (nid zl bytes:Nat) (s:AV):Option (List (List AV) × Bool)→Option (AV × dO)
 | some (xs,d)=>iK h nid zl bytes s xs d
 | none=>none
@[simp] theorem asP (h:aK) (nid zl bytes:Nat) (s:AV) (xs:List (List AV)) (d:Bool):amG h nid zl bytes s (some (xs,d))=iK h nid zl bytes s xs d:=rfl
@[simp] theorem asO (z:List AV) (bytes:Nat) (s x:Opd) (e:Env) (h:aK) (n:Nat):QU z bytes false s x e h n=amG h n z.length bytes (s.ev e) (jT h z.length (x.ev e)):=by
 simp only [QU,Bool.false_eq_true,if_false];cases jT h z.length (x.ev e) <;> rfl
def aar (h:aK) (nid:Nat) (z:List AV) (bytes:Nat) (s:AV):AV→Option (AV × dO)
 | .int _ n=>ob (nat? n) fun n=>if n * (bytes+1)≤bY then iK h nid z.length bytes s (List.replicate n z) (z.all isC) else none
 | _=>none
@[simp] theorem asW (z:List AV) (bytes:Nat) (s x:Opd) (e:Env) (h:aK) (n:Nat):QU z bytes true s x e h n=aar h n z bytes (s.ev e) (x.ev e):=by
 simp only [QU,if_true];cases x.ev e <;> rfl
def am7 (h:aK) (z:Nat) (d:AV):Option (List (List AV) × Bool)→Option (AV × dO)
 | some (xs,b)=>pq h z xs b d
 | none=>none
@[simp] theorem asL (h:aK) (z:Nat) (d:AV) (xs:List (List AV)) (b:Bool):am7 h z d (some (xs,b))=pq h z xs b d:=rfl
@[simp] theorem aoA (z:Nat) (d s:Opd) (e:Env) (h:aK) (n:Nat):XD z d s e h n=am7 h z (d.ev e) (jT h z (s.ev e)):=by
 simp only [XD];cases jT h z (s.ev e) <;> rfl
attribute [simp] aar
@[simp] theorem apW {α β γ:Type} (x:Option α) (g:α→β) (f:β→Option γ):ob (Option.map g x) f=ob x fun a=>f (g a):=by cases x <;> rfl
section
variable (h:aK) (nid zl bytes:Nat) (xs:List (List AV)) (d:Bool)
@[simp] theorem ahR:iK h nid zl bytes .bC xs d=if xs.isEmpty=true then some (.bC,[]) else mF nid zl xs.length bytes xs d:=by cases xs <;> rfl
@[simp] theorem alf (z:Nat) (es:List (List AV)) (ex:Bool):iK h nid zl bytes (.ro z es ex) xs d =
 if z=zl then (if xs.isEmpty=true then some (.ro z es ex,[]) else if ex=true then mF nid zl (es.length+xs.length) bytes (es++xs) d else none) else none:=by cases xs <;> rfl
@[simp] theorem ZG (b z i len cap:Nat) (ex:Bool):iK h nid zl bytes (.sl b z i len cap ex) xs d =
 if z=zl then (if xs.isEmpty=true then some (.sl b z i len cap ex,[]) else LH (Pav.get h b) nid zl bytes b i len cap ex xs d (len+xs.length)) else none:=by cases xs <;> rfl
end
def akg (h:aK) (n z i len cap:Nat) (ex:Bool):Option fZ→Option AV
 | some (.cells _ es _ true)=>og (decide (((es.drop i).take len).length=len)) (some (.ro z ((es.drop i).take len) (ex&&decide (cap=len))))
 | some (.cells _ es _ false)=>ob (bG (bG (bP h n)) ((es.drop i).take len)) fun es'=>og (decide (es'.length=len)&&es'.all fun e=>e.all isC) (some (.ro z es' (ex&&decide (cap=len))))
 | _=>none
def akp (h:aK) (n i o:Nat):Option fZ→Option AV
 | some (.cells _ es _ true)=>ob es[i]? fun cs=>some (.rop (cs.drop o))
 | some (.cells _ es _ false)=>ob es[i]? fun cs=>ob (bG (bP h n) (cs.drop o)) fun cs'=>some (.rop cs')
 | _=>none
def Uk (h:aK) (n i o:Nat):Option fZ→List Nat
 | some (.cells _ es _ false)=>((es[i]?.getD []).drop o).flatMap (aY h n)
 | _=>[]
def VE (h:aK) (n i len:Nat):Option fZ→List Nat
 | some (.cells _ es _ false)=>((es.drop i).take len).flatMap fun e=>e.flatMap (aY h n)
 | _=>[]
section
variable (h:aK) (n:Nat)
@[simp] theorem alg (b:Bool):bP h (n+1) (.bool b)=some (.bool b):=rfl
@[simp] theorem alQ (k:IntKind) (x:Int):bP h (n+1) (.int k x)=some (.int k x):=rfl
@[simp] theorem amQ (s:List UInt8):bP h (n+1) (.str s)=some (.str s):=rfl
@[simp] theorem alq:bP h (n+1) .dP=some .dP:=rfl
@[simp] theorem alj:bP h (n+1) .bC=some .bC:=rfl
@[simp] theorem alc:bP h (n+1) .dN=some .dN:=rfl
@[simp] theorem aln:bP h (n+1) .dK=some .dK:=rfl
@[simp] theorem anL (z:Nat) (es:List (List AV)) (ex:Bool):bP h (n+1) (.ro z es ex)=some (.ro z es ex):=rfl
@[simp] theorem amn (cs:List AV):bP h (n+1) (.rop cs)=some (.rop cs):=rfl
@[simp] theorem aon (f:Nat) (cs:List AV):bP h (n+1) (.fn f cs)=fnO f (bG (bP h n) cs):=by simp only [bP];cases bG (bP h n) cs <;> rfl
@[simp] theorem amf (cs:List AV):bP h (n+1) (.agg cs)=aiH (bG (bP h n) cs):=by simp only [bP];cases bG (bP h n) cs <;> rfl
@[simp] theorem aly (cs:List AV):bP h (n+1) (.tup cs)=ai0 (bG (bP h n) cs):=by simp only [bP];cases bG (bP h n) cs <;> rfl
@[simp] theorem apb (b z i len cap:Nat) (ex:Bool):bP h (n+2) (.sl b z i len cap ex)=akg h (n+1) z i len cap ex (Pav.get h b):=by
 simp only [bP,akg]
 split
 · rename_i hg
   rw [hg]
   rename_i dt
   cases dt <;> rfl
 · rename_i hg
   split
   · rename_i h1;exact absurd h1 (hg _ _ _ _)
   · rename_i h1;exact absurd h1 (hg _ _ _ _)
   · rfl
@[simp] theorem am3 (b i o:Nat):bP h (n+2) (.ptr b i o)=akp h (n+1) i o (Pav.get h b):=by
 simp only [bP,akp]
 split
 · rename_i hg
   rw [hg]
   rename_i es _ dt
   cases dt
   · simp only [Bool.false_eq_true,if_false]
     cases es[i]? with
     | none=>rfl
     | some cs=>simp only [ob];cases bG (bP h (n+1)) (cs.drop o) <;> rfl
   · rfl
 · rename_i hg
   split
   · rename_i h1;exact absurd h1 (hg _ _ _ _)
   · rename_i h1;exact absurd h1 (hg _ _ _ _)
   · rfl
@[simp] theorem ajv (b i o:Nat):aY h (n+1) (.ptr b i o)=b::Uk h n i o (Pav.get h b):=by
 simp only [aY,Uk]
 congr 1
 split
 · rename_i hg
   rw [hg]
   rename_i dt
   cases dt <;> rfl
 · rename_i hg
   split
   · rename_i h1;exact absurd h1 (hg _ _ _ _)
   · rfl
@[simp] theorem ahM (b:Bool):aY h (n+1) (.bool b)=[]:=rfl
@[simp] theorem akC (k:IntKind) (x:Int):aY h (n+1) (.int k x)=[]:=rfl
@[simp] theorem ajY (s:List UInt8):aY h (n+1) (.str s)=[]:=rfl
@[simp] theorem ahA:aY h (n+1) .dP=[]:=rfl
@[simp] theorem ahI:aY h (n+1) .bC=[]:=rfl
@[simp] theorem ahY:aY h (n+1) .dN=[]:=rfl
@[simp] theorem ahH:aY h (n+1) .dK=[]:=rfl
@[simp] theorem als (z:Nat) (es:List (List AV)) (ex:Bool):aY h (n+1) (.ro z es ex)=[]:=rfl
@[simp] theorem akZ (cs:List AV):aY h (n+1) (.rop cs)=[]:=rfl
@[simp] theorem ak8 (f:Nat) (cs:List AV):aY h (n+1) (.fn f cs)=cs.flatMap (aY h n):=rfl
@[simp] theorem aje (cs:List AV):aY h (n+1) (.agg cs)=cs.flatMap (aY h n):=rfl
@[simp] theorem ajz (cs:List AV):aY h (n+1) (.tup cs)=cs.flatMap (aY h n):=rfl
@[simp] theorem ale (b z i len cap:Nat) (ex:Bool):aY h (n+1) (.sl b z i len cap ex)=b::VE h n i len (Pav.get h b):=by
 simp only [aY,VE]
 congr 1
 split
 · rename_i hg
   rw [hg]
   rename_i dt
   cases dt <;> rfl
 · rename_i hg
   split
   · rename_i h1;exact absurd h1 (hg _ _ _ _)
   · rfl
@[simp] theorem agu (b:Bool):cO (n+1) (.bool b)=false:=rfl
@[simp] theorem ah0 (k:IntKind) (x:Int):cO (n+1) (.int k x)=false:=rfl
@[simp] theorem ahx (s:List UInt8):cO (n+1) (.str s)=false:=rfl
@[simp] theorem agJ:cO (n+1) .dP=false:=rfl
@[simp] theorem afI:cO (n+1) .bC=false:=rfl
@[simp] theorem agX:cO (n+1) .dN=false:=rfl
@[simp] theorem afJ:cO (n+1) .dK=false:=rfl
@[simp] theorem akh (z:Nat) (es:List (List AV)) (ex:Bool):cO (n+1) (.ro z es ex)=true:=rfl
@[simp] theorem ah3 (cs:List AV):cO (n+1) (.rop cs)=true:=rfl
@[simp] theorem ako (f:Nat) (cs:List AV):cO (n+1) (.fn f cs)=cs.any (cO n):=rfl
@[simp] theorem aia (cs:List AV):cO (n+1) (.agg cs)=cs.any (cO n):=rfl
@[simp] theorem aic (cs:List AV):cO (n+1) (.tup cs)=cs.any (cO n):=rfl
end
def imax (a b:Int):Int:=if b > a then b else a
def jH (a b:Int):Int:=if b < a then b else a
theorem MH {a b:Int} (h:b≤a):imax a b=a:=by unfold imax;rw [if_neg (by omega)]
theorem adg {a b:Int} (h:a≤b):imax a b=b:=by unfold imax;split <;> omega
def mxV:AV→AV→Option (AV × Upd)
 | .int k a,.int k' b=>if k=k' then some (.int k (imax a b),[]) else none
 | _,_=>none
def mnV:AV→AV→Option (AV × Upd)
 | .int k a,.int k' b=>if k=k' then some (.int k (jH a b),[]) else none
 | _,_=>none
@[simp] theorem arh (x y:Opd) (e:Env) (h:Heap) (n:Nat):sMx x y e h n=mxV (x.ev e) (y.ev e):=rfl
@[simp] theorem apr (x y:Opd) (e:Env) (h:Heap) (n:Nat):sMn x y e h n=mnV (x.ev e) (y.ev e):=rfl
attribute [simp] mxV mnV
@[simp] theorem ajp (base:Nat) (cn:Bool) (lv:List Nat) (s:WSt):qp base ⟨cn,lv,[]⟩ s=canon base ⟨cn,lv,[]⟩ s:=rfl
@[simp] theorem ah4 (base:Nat) (cn:Bool) (lv:List Nat) (p:Nat × Nat) (r:List (Nat × Nat)) (s:WSt):qp base ⟨cn,lv,p::r⟩ s=ob (lT (Ir (p::r)) s) (canon base ⟨cn,lv,p::r⟩):=rfl
attribute [simp] Ir lT G7
attribute [simp] List.getElem?_cons_zero akg VE akp Uk
attribute [simp] stepW TA aiI TT Kz kL aaY yY xG pz Pm ug Hf splice Um acY Wn KE found ag1 TF Uh Xr CG aiJ ql MQ jT mF LH
 KW pq afl BD UW sMv Dl CU pF lZ aai xY CJ BO yU qJ Io iD eqFn JZ Jl JM iH Ce WH jU iL sUn RG Qg PZ RX PX Ag Dj gJ FU Bc Iu jJ gK lW jG tN bound oev
 KY DT DU qR DJ rG pU Dq Rj sCap xZ AV.cells AV.cell isC isD Pav.get Pav.put eH mZ dA Ob del readsOf dS canon WU Vd kC yK JR Iy Xf rM gU place close
 Eu rJ refs DI OG bH oh bT bQ Ip Gj iW aN IY aI BU bY lU lH Ci adH UU meets
def rep {α:Type} (n:Nat) (a:α):List α:=List.replicate n a
section
variable {α β:Type} (n:Nat) (a:α)
@[simp] theorem aja:(rep n a).length=n:=List.length_replicate
@[simp] theorem anp (f:α→β):List.map f (rep n a)=rep n (f a):=List.map_replicate
@[simp] theorem aoL (p:α→Bool):(rep (n+1) a).all p=p a:=by
 unfold rep;rw [List.all_replicate];simp
@[simp] theorem ahD {i:Nat} (h:i < (rep n a).length):(rep n a)[i]=a:=by
 unfold rep;exact List.getElem_replicate _
@[simp] theorem adX:List.take n (rep n a)=rep n a:=List.take_of_length_le (by simp)
@[simp] theorem alx (n:Nat):(rep (n+1) a).isEmpty=false:=rfl
end
end Go.Pw
end
section
set_option linter.unusedSimpArgs false
set_option linter.unusedVariables false
namespace Go.Pw
open Go Go.Pav
inductive ZO where
 | p (d:Option (Option Nat)) (g:Option (Nat × Bool)) (x:COp)
def zt:List Nat→List Opd
 | []=>[]
 | a::r=>.t a::zt r
namespace Z
def y (s:Nat):ZO→ZO
 | .p d _ x=>.p d (some (s,true)) x
def z (s:Nat):ZO→ZO
 | .p d _ x=>.p d (some (s,false)) x
def d (k:Nat):ZO→ZO
 | .p _ g x=>.p (some (some k)) g x
def n:ZO→ZO
 | .p _ g x=>.p (some none) g x
def m (a:Nat):ZO:=.p none none (.mv (.t a))
def i (k:Int):ZO:=.p none none (.mv (.c (.int .i64 k)))
def l (k a:Nat):ZO:=.p none none (.load k false (.t a))
def h (k a:Nat):ZO:=.p none none (.load k true (.t a))
def f (o a:Nat):ZO:=.p none none (.fld o (.t a))
def po (a b:Nat):ZO:=.p none none (.pick (.t a) (.c (.bool true)) (.t b))
def pa (a b:Nat):ZO:=.p none none (.pick (.t a) (.t b) (.c (.bool false)))
def ln (k a:Nat):ZO:=.p none none (.len k (.t a))
def ix (k a b:Nat):ZO:=.p none none (.idxs k (.t a) (.t b))
def ex (k a:Nat):ZO:=.p none none (.ext k (.t a))
def nk (a:Nat):ZO:=.p none none (.jD (.t a))
def bx (a:Nat):ZO:=.p none none (.box (.t a))
def nt (a:Nat):ZO:=.p none none (.un .not (.t a))
def st (k a b:Nat):ZO:=.p none none (.store k (.t a) (.t b))
def E (x:COp):ZO:=.p none none x
def tt:ZO:=.p none none (.mv (.c (.bool true)))
def ff:ZO:=.p none none (.mv (.c (.bool false)))
def ca (g:Nat) (q:List Nat):ZO:=.p none none (.call g (zt q))
def eq (a b:Nat):ZO:=.p none none (.bin .eql (.t a) (.t b))
def eqi (a:Nat) (k:Int):ZO:=.p none none (.bin .eql (.t a) (.c (.int .i64 k)))
def ne (a b:Nat):ZO:=.p none none (.bin .neq (.t a) (.t b))
def nei (a:Nat) (k:Int):ZO:=.p none none (.bin .neq (.t a) (.c (.int .i64 k)))
def lt (a b:Nat):ZO:=.p none none (.bin .lss (.t a) (.t b))
def lti (a:Nat) (k:Int):ZO:=.p none none (.bin .lss (.t a) (.c (.int .i64 k)))
def le (a b:Nat):ZO:=.p none none (.bin .leq (.t a) (.t b))
def lei (a:Nat) (k:Int):ZO:=.p none none (.bin .leq (.t a) (.c (.int .i64 k)))
def gt (a b:Nat):ZO:=.p none none (.bin .gtr (.t a) (.t b))
def gti (a:Nat) (k:Int):ZO:=.p none none (.bin .gtr (.t a) (.c (.int .i64 k)))
def ge (a b:Nat):ZO:=.p none none (.bin .geq (.t a) (.t b))
def gei (a:Nat) (k:Int):ZO:=.p none none (.bin .geq (.t a) (.c (.int .i64 k)))
def ad (a b:Nat):ZO:=.p none none (.bin .add (.t a) (.t b))
def adi (a:Nat) (k:Int):ZO:=.p none none (.bin .add (.t a) (.c (.int .i64 k)))
def sb (a b:Nat):ZO:=.p none none (.bin .sub (.t a) (.t b))
def sbi (a:Nat) (k:Int):ZO:=.p none none (.bin .sub (.t a) (.c (.int .i64 k)))
end Z
def zo:Nat→List ZO→List aZ
 | _,[]=>[]
 | k,.p none g x::r=>⟨some k,g,x⟩::zo (k+1) r
 | k,.p (some j) g x::r=>⟨j,g,x⟩::zo k r
inductive ZC where
 | O (k:Nat) (l:List ZO)
 | Q (k:Nat) (l:List ZO) (s:List Nat)
 | R (k:Nat) (l:List ZO) (a:Ann)
 | U (k:Nat) (l:List ZO) (u:List (Nat × Nat)) (s:List Nat)
 | V (k:Nat) (l:List ZO) (u:List (Nat × Nat)) (a:Ann)
 | s (a b:ZC)
 | r (a:ZC)
 | c (t:Nat) (a:ZC)
 | cc (t:Nat) (a b:ZC)
 | cd (x:Opd) (a b:ZC)
 | B (j:Nat) (a:ZC)
 | bk (j:Nat) (a:ZC) (x:Ann)
 | lp (x:Ann) (a:ZC)
 | ee (j:Nat)
 | w (x:ay)
instance:Coe ay ZC:=⟨.w⟩
def zc:ZC→ay
 | .O k l=>.ops (zo k l) ⟨false,[],[]⟩
 | .Q k l s=>.ops (zo k l) ⟨true,s,[]⟩
 | .R k l a=>.ops (zo k l) a
 | .U k l u s=>.draw (zo k l) u ⟨true,s,[]⟩
 | .V k l u a=>.draw (zo k l) u a
 | .s a b=>.seq (zc a) (zc b)
 | .r a=>.seq (zc a) .ret
 | .c t a=>.cond (.t t) (zc a) .skip
 | .cc t a b=>.cond (.t t) (zc a) (zc b)
 | .cd x a b=>.cond x (zc a) (zc b)
 | .B j a=>.block j (zc a) ⟨false,[],[]⟩
 | .bk j a x=>.block j (zc a) x
 | .lp x a=>.loop x (zc a)
 | .ee j=>.exit j
 | .w x=>x
abbrev T (a:Nat):Opd:=.t a
abbrev N (n:Int):Opd:=.c (.int .i64 n)
abbrev zd (x:ZC) {y:ay} (_h:zc x=y:=by dsimp only [zc,zo,zt,T,N,Z.y,Z.z,Z.d,Z.n,Z.m,Z.i,Z.l,Z.h,Z.f,Z.po,Z.pa,Z.ln,Z.ix,Z.ex,Z.nk,Z.bx,Z.nt,Z.st,Z.E,Z.tt,Z.ff,Z.ca,Z.eq,Z.eqi,Z.ne,Z.nei,Z.lt,Z.lti,Z.le,Z.lei,Z.gt,Z.gti,Z.ge,Z.gei,Z.ad,Z.adi,Z.sb,Z.sbi]):ay:=y
abbrev ZL (L B:ay) (a:Ann):Prop:=∀ {β:Type} {C:aG} {b:Nat} {f:Ex × WSt→Option β} {k:List Pw.Frame} {s:WSt},CK C b f k L s=LK C b f (.sq L::k) B (canon b a s)
end Go.Pw
end
