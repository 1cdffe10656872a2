/- Part of the theory that the claims of this work use: Q14, Q15, Q16, Q17, Q18, Q19, Q20, Q21, Q22, Q23, Q24. No conditions of its own. -/
import Derived.Test.YtfkdbfgdncamdaaGreatT7
set_option linter.unusedVariables false
set_option linter.unusedSimpArgs false
set_option maxHeartbeats 4000000
set_option maxRecDepth 10000
section
namespace Go.D
open Go Go.Pav Go.Pw P
attribute [-simp] List.getElem_cons_drop
variable {C:WProg}
structure HasQe (C:WProg):Prop extends HasQt C where
 f3008:C.fns.get 3008=some w281
def kepP (p:Pl):Pl:=(p.1.map kepH,true)
theorem ex_loop (H:HasQe C) (rk:List Hd) (ps:List Pl) (pe:Bool) (hl:ps.length≤1000) (hp:∀ p ∈ ps,p.1.length≤1000000∧∀ x ∈ p.1,cnt x.n≠0):∀ m i,m+i=ps.length→∀ G:List Pl,G.length=i→G=(ps.take i).map kepP →
 ∃ n':Nat,CK C 0 (fnEndW [.cell 2 2 true]) [.sq w281_L0,.bk 0 ⟨true,[3,2],[]⟩,.sq w281_c0] w281_B0
  ⟨[(17,.int .i64 i),(16,.int .i64 ps.length),(15,.ro 1 (ps.map ePl) pe),(3,.ptr 0 0 0),(2,.ptr 2 0 0)],
   [(0,.cells 2 [[.ro 8 (rk.map eHd) true,.sl 1 1 0 ps.length ps.length true]] true false),(1,.cells 1 (G.map ePl++List.replicate m [.ro 8 [] true]) true true),(2,.cells 2 [[.ro 8 [] true,.ro 1 [] true]] true true)],3⟩ =
  some (.agg [.ro 8 (rk.map eHd) true,.sl 1 1 0 ps.length ps.length true],[(0,.cells 2 [[.ro 8 (rk.map eHd) true,.sl 1 1 0 ps.length ps.length true]] true false),(1,.cells 1 ((ps.map kepP).map ePl) true true),(2,.cells 2 [[.ro 8 (rk.map eHd) true,.sl 1 1 0 ps.length ps.length true]] true false)],n'):=by
 intro m
 induction m with
 | zero =>
  intro i hi G hG hGe
  have h3:¬ i < ps.length:=by omega
  have e1:ps.take i=ps:=List.take_of_length_le (by omega)
  rw [e1] at hGe
  rw [← hGe]
  refine ⟨?_,?_⟩
  rotate_right
  · rw [ck_unf w281_B0.eq_1]
    simp (disch:=omega) [ck_unf w281_c0.eq_1,h3]
    rfl
 | succ m ihm =>
  intro i hi G hG hGe
  have h1:i < ps.length:=by omega
  obtain ⟨n',this⟩:=ihm (i+1) (by omega) (G++[kepP ps[i]]) (by simp [hG]) (by rw [hGe,List.take_add_one,List.getElem?_eq_getElem h1,List.map_append];rfl)
  have hh:=hp _ (List.getElem_mem h1)
  have hs:=qown_ok H.toHasQt ps[i].1 ps[i].2 hh.1 hh.2
  have g1:=gr_get ePl G [.ro 8 [] true] m
  have g2:=gr_set ePl G [.ro 8 [] true] m (kepP ps[i])
  rw [hG] at g1 g2
  refine ⟨n',?_⟩
  generalize ps.map kepP=PK at *
  rw [ck_unf w281_B0.eq_1]
  simp [kepP] at this g2
  simp at hs
  simp (disch:=omega) [h1,hs,wI64,H.toHasEq.inl,inlB,H.toHasEq.pp,ppB,g1,g2,this]
theorem hexact_ok (H:HasQe C) (ra:List Hd) (ea:Bool) (ps:List Pl) (pe:Bool) (hr:ra.length≤1000000) (hrc:∀ x ∈ ra,cnt x.n≠0) (hl:ps.length≤1000) (hp:∀ p ∈ ps,p.1.length≤1000000∧∀ x ∈ p.1,cnt x.n≠0) (nid:Nat) :
 freshCallW (RnW C) 3008 [aSt ra ea ps pe] nid=some (.agg [.ro 8 ((ra.map kepH).map eHd) true,.sl nid 1 0 ps.length ps.length true],[(nid,some (.cells 1 ((ps.map kepP).map ePl) true true))]):=by
 have h0:=qown_ok H.toHasQt ra ea hr hrc
 have h4:ps.length * 25≤35184372088832:=by omega
 generalize ra.map kepH=rk at *
 obtain ⟨m,h⟩:=ex_loop H rk ps pe hl hp ps.length 0 (by simp) [] rfl rfl
 generalize ps.map kepP=PK at *
 have hr:∃ m,RnW C 3008 [aSt ra ea ps pe] [] 0=some (.agg [.ro 8 (rk.map eHd) true,.sl 1 1 0 ps.length ps.length true],[(0,.cells 2 [[.ro 8 (rk.map eHd) true,.sl 1 1 0 ps.length ps.length true]] true false),(1,.cells 1 (PK.map ePl) true true),(2,.cells 2 [[.ro 8 (rk.map eHd) true,.sl 1 1 0 ps.length ps.length true]] true false)],m):=by
  refine ⟨m,?_⟩
  rw [rnW_eq (args:=[aSt ra ea ps pe]) H.f3008 rfl]
  simp at h
  simp [w281,H.toHasEq.inl,inlB,H.toHasEq.pp,ppB,h0,h4,h]
 obtain ⟨m,hr⟩:=hr
 unfold freshCallW
 rw [hr]
 simp [ob,ownOf,ownOfL,Pav.get,freshOfW,hand,handL,om]
structure HasQk (C:WProg):Prop extends HasQe C where
 f277:C.fns.get 277=some w277
 f278:C.fns.get 278=some w278
 f279:C.fns.get 279=some w279
 f427:C.fns.get 427=some w427
 f428:C.fns.get 428=some w428
 f429:C.fns.get 429=some w429
 f430:C.fns.get 430=some w430
 f514:C.fns.get 514=some w514
def plOk (k:Kd):Prop:=0≤k.pl∧k.pl≤16
theorem pbad_ok (H:HasQk C) (k:Kd) (h:plOk k):FnW C 427 [.agg (eKd k)]=some (.bool false):=by
 have h1:¬ k.pl < 0:=by have:=h.1;omega
 have h2:¬ 16 < k.pl:=by have:=h.2;omega
 rw [fnW_eq H.f427 rfl]
 simp [w427,h1,h2]
theorem pidx_loop (H:HasQk C) (ks:List Kd) (e:Bool) (hl:ks.length≤1000000) (hp:∀ k ∈ ks,plOk k):∀ n i,n+i=ks.length →
 w405_K0 C ⟨[(8,.int .i64 i),(7,.int .i64 ks.length),(1,.fn 427 []),(0,.ro 9 (ks.map eKd) e)],[],0⟩=some (.int .i64 (-1)):=by
 intro n
 induction n with
 | zero =>
  intro i hi
  have h3:¬ i < ks.length:=by omega
  simp only [w405_K0];rw [ck_unf w405_B0.eq_1]
  simp (disch:=omega) [ck_unf w405_c0.eq_1,h3]
 | succ n ih =>
  intro i hi
  have h1:i < ks.length:=by omega
  have hb:=pbad_ok H ks[i] (hp _ (List.getElem_mem h1))
  simp only [eKd] at hb
  have hv:=ih (i+1) (by omega)
  simp only [w405_K0] at hv ⊢;rw [ck_unf w405_B0.eq_1]
  simp at hv
  simp (disch:=omega) [h1,wI64,hb,H.toHasEq.inl,inlB,H.toHasEq.pp,ppB,hv]
theorem pcont_ok (H:HasQk C) (ks:List Kd) (e:Bool) (hl:ks.length≤1000000) (hp:∀ k ∈ ks,plOk k):FnW C 232 [.ro 9 (ks.map eKd) e,.fn 427 []]=some (.bool false):=by
 have h:=pidx_loop H ks e hl hp ks.length 0 (by simp)
 simp only [w405_K0] at h
 simp at h
 have h2:FnW C 405 [.ro 9 (ks.map eKd) e,.fn 427 []]=some (.int .i64 (-1)):=by
  rw [fnW_eq H.f405 rfl]
  simp [w405,h]
 rw [fnW_eq H.f232 rfl]
 simp [w232,H.toHasEq.inl,inlB,H.toHasEq.pp,ppB,h2]
theorem hrules_ok (H:HasQk C) (vw ov ls:Int) (ks:List Kd) (ke:Bool) (cap ar fl:Int):FnW C 279 [.agg (cCf vw ov ls ks ke cap ar fl)]=some (aR ks ke cap):=by
 rw [fnW_eq H.f279 rfl]
 simp [w279,H.toHasEq.inl,inlB,H.toHasEq.pp,ppB]
theorem hfits_ok (H:HasQk C) (vw ov ls:Int) (ks:List Kd) (ke:Bool) (cap ar fl:Int) (hr:RuIn ks) (hk:ruOk ks cap=true) (hl:ks.length≤1000) (hp:∀ k ∈ ks,plOk k) (ha:1≤ar∧ar≤65536):FnW C 277 [.agg (cCf vw ov ls ks ke cap ar fl)]=some (.int .i64 0):=by
 have h1:=hrules_ok H vw ov ls ks ke cap ar fl
 have h2:=valid_ok H.toHasK ks ke cap hr
 have h3:=pcont_ok H ks ke (by omega) hp
 rw [if_pos hk] at h2
 have a1:¬ ar < 1:=by omega
 have a2:¬ 65536 < ar:=by omega
 rw [fnW_eq H.f277 rfl]
 simp [w277,H.toHasEq.inl,inlB,H.toHasEq.pp,ppB,h1,h2,h3,a1,a2]
structure VH (ks:List Kd) (cap:Int) (h:Hd):Prop where
 k:h.k≠0
 t:∃ t:Nat,h.t=t∧t < ks.length
 c:cnt h.n≠0∧(cnt h.n:Int)≤cap
 n:h.n.k=(kdAt ks h.t).p.k∧h.n.t=(kdAt ks h.t).p.t
theorem hvalid_ok (H:HasQk C) (vw ov ls:Int) (ks:List Kd) (ke:Bool) (cap ar fl:Int) (h:Hd) (V:VH ks cap h) (hl:ks.length≤255):FnW C 428 [.agg (cCf vw ov ls ks ke cap ar fl),.agg (eHd h)]=some (.bool true):=by
 have h1:=check_ok H.toHasR.toHasM h.n
 have h2:=count_ok H.toHasR.toHasM h.n
 have hv:=V.k
 obtain ⟨t,ht,htl⟩:=V.t
 rw [if_neg V.c.1] at h1
 have hc:¬ cap < (cnt h.n:Int):=by have:=V.c.2;omega
 have hn:=V.n
 rw [ht,kdAt_get htl] at hn
 rw [Nd.c_eq,hn.1,hn.2] at h1 h2
 have c1:¬ (ks.length:Int)≤t:=by omega
 rw [fnW_eq H.f428 rfl]
 unfold eHd
 rw [Nd.c_eq]
 simp (disch:=omega) [w428,H.toHasEq.inl,inlB,H.toHasEq.pp,ppB,wI64,h1,h2,hv,ht,htl,hc,c1,hn.1,hn.2]
end Go.D
end
section
namespace Go.D
open Go Go.Pav Go.Pw P
attribute [-simp] List.getElem_cons_drop
variable {C:WProg}
section
variable (vw ov ls:Int) (ks:List Kd) (ke:Bool) (cap ar fl:Int)
theorem pin_ok (H:HasQk C) (hl:ks.length≤255) (i:Nat) (h:Hd) (V:VH ks cap h) (ht:h.t=i):FnW C 430 [.agg (eHd h),.rop [.int .i64 i],.rop (cCf vw ov ls ks ke cap ar fl)]=some (.bool false):=by
 have h1:=hvalid_ok H vw ov ls ks ke cap ar fl h V hl
 obtain ⟨t,hq,htl⟩:=V.t
 have hti:t=i:=by omega
 subst hti
 rw [fnW_eq H.f430 rfl]
 unfold eHd at h1 ⊢
 rw [Nd.c_eq] at h1 ⊢
 rw [ht] at h1 ⊢
 simp (disch:=omega) [w430,H.toHasEq.inl,inlB,H.toHasEq.pp,ppB,h1,wI64]
theorem pins_loop (H:HasQk C) (hl:ks.length≤255) (i:Nat) (l:List Hd) (e:Bool) (hll:l.length≤1000000) (hv:∀ h ∈ l,VH ks cap h∧h.t=i):∀ n k,n+k=l.length →
 w514_K0 C ⟨[(8,.int .i64 k),(7,.int .i64 l.length),(1,.fn 430 [.rop [.int .i64 i],.rop (cCf vw ov ls ks ke cap ar fl)]),(0,.ro 8 (l.map eHd) e)],[],0⟩=some (.int .i64 (-1)):=by
 intro n
 induction n with
 | zero =>
  intro k hk
  have h3:¬ k < l.length:=by omega
  simp only [w514_K0];rw [ck_unf w514_B0.eq_1]
  simp (disch:=omega) [ck_unf w514_c0.eq_1,h3]
 | succ n ih =>
  intro k hk
  have h1:k < l.length:=by omega
  have hb:=pin_ok vw ov ls ks ke cap ar fl H hl i l[k] (hv _ (List.getElem_mem h1)).1 (hv _ (List.getElem_mem h1)).2
  simp only [eHd] at hb
  have hq:=ih (k+1) (by omega)
  simp only [w514_K0] at hq ⊢;rw [ck_unf w514_B0.eq_1]
  simp at hq
  simp (disch:=omega) [h1,wI64,hb,H.toHasEq.inl,inlB,H.toHasEq.pp,ppB,hq]
theorem pins_ok (H:HasQk C) (hl:ks.length≤255) (i:Nat) (l:List Hd) (e:Bool) (hll:l.length≤1000000) (hv:∀ h ∈ l,VH ks cap h∧h.t=i) :
 FnW C 429 [.ro 8 (l.map eHd) e,.fn 430 [.rop [.int .i64 i],.rop (cCf vw ov ls ks ke cap ar fl)]]=some (.bool false):=by
 have h:=pins_loop vw ov ls ks ke cap ar fl H hl i l e hll hv l.length 0 (by simp)
 simp only [w514_K0] at h
 simp at h
 have h2:FnW C 514 [.ro 8 (l.map eHd) e,.fn 430 [.rop [.int .i64 i],.rop (cCf vw ov ls ks ke cap ar fl)]]=some (.int .i64 (-1)):=by
  rw [fnW_eq H.f514 rfl]
  simp [w514,h]
 rw [fnW_eq H.f429 rfl]
 simp [w429,H.toHasEq.inl,inlB,H.toHasEq.pp,ppB,h2]
structure CkS (ra:List Hd) (ps:List Pl):Prop where
 rl:ra.length≤1024
 rv:∀ h ∈ ra,VH ks cap h
 rn:(ra.map Hd.k).Nodup
 pl:ps.length=ks.length
 pv:∀ (i:Nat) (p:Pl),ps[i]?=some p→(p.1.length:Int)≤plAt ks i∧∀ h ∈ p.1,VH ks cap h∧h.t=i
theorem hpools_loop (H:HasQk C) (hl:ks.length≤255) (hpm:∀ k ∈ ks,plOk k) (ra:List Hd) (ps:List Pl) (pe:Bool) (S:CkS ks cap ra ps):∀ n i,n+i=ps.length →
 w278_K0 C ⟨[(54,.int .i64 i),(53,.int .i64 ps.length),(52,.ro 1 (ps.map ePl) pe),(2,.ptr 0 0 0)],[(0,.cells 7 [cCf vw ov ls ks ke cap ar fl] true true)],1⟩=some (.int .i64 0):=by
 intro n
 induction n with
 | zero =>
  intro i hi
  have h3:¬ i < ps.length:=by omega
  simp only [w278_K0];rw [ck_unf w278_B0.eq_1]
  simp (disch:=omega) [ck_unf w278_c0.eq_1,h3]
 | succ n ih =>
  intro i hi
  have h1:i < ps.length:=by omega
  have h2:i < ks.length:=by rw [← S.pl];exact h1
  obtain ⟨hc,hv⟩:=S.pv i ps[i] (List.getElem?_eq_getElem h1)
  have hm:=hpm _ (List.getElem_mem h2)
  have hk:=hc
  simp [plAt,h2] at hk
  have hb:=pins_ok vw ov ls ks ke cap ar fl H hl i ps[i].1 ps[i].2 (by have:=hm.2;omega) hv
  have hq:=ih (i+1) (by omega)
  simp only [w278_K0] at hq ⊢;rw [ck_unf w278_B0.eq_1]
  try simp at hb
  simp at hq
  have hk2:¬ ks[i].pl < (ps[i].1.length:Int):=by omega
  simp (disch:=omega) [H.toHasEq.inl,inlB,H.toHasEq.pp,ppB,h1,h2,hk2,hb,wI64,hq]
theorem hrows_loop (H:HasQk C) (hl:ks.length≤255) (ra:List Hd) (ea:Bool) (ps:List Pl) (pe:Bool) (S:CkS ks cap ra ps):∀ n i,n+i=ra.length →
 w278_K1 C ⟨[(33,.int .i64 i),(32,.int .i64 ra.length),(31,.ro 8 (ra.map eHd) ea),(6,.map 0),(3,.ptr 1 0 0),(2,.ptr 2 0 0)],
  [(0,.map (kmap ((ra.take i).map Hd.k))),(1,.cells 2 [[.ro 8 (ra.map eHd) ea,.ro 1 (ps.map ePl) pe]] true true),(2,.cells 7 [cCf vw ov ls ks ke cap ar fl] true true)],3⟩ =
  CK C 0 (pureFin [.tmp 4]) [] w278_c1 ⟨[(3,.ptr 0 0 0),(2,.ptr 1 0 0)],[(0,.cells 2 [[.ro 8 (ra.map eHd) ea,.ro 1 (ps.map ePl) pe]] true true),(1,.cells 7 [cCf vw ov ls ks ke cap ar fl] true true)],2⟩:=by
 intro n
 induction n with
 | zero =>
  intro i hi
  have h3:¬ i < ra.length:=by omega
  simp only [w278_K1];rw [ck_unf w278_B1.eq_1]
  simp (disch:=omega) [h3]
 | succ n ih =>
  intro i hi
  have h1:i < ra.length:=by omega
  have hrl:=S.rl
  have hv:=hvalid_ok H vw ov ls ks ke cap ar fl ra[i] (S.rv _ (List.getElem_mem h1)) hl
  have hno:((ra.take i).map Hd.k).contains ra[i].k=false:=by
   have hn:=S.rn
   rw [← List.take_append_drop i ra,List.map_append,List.nodup_append] at hn
   cases q:((ra.take i).map Hd.k).contains ra[i].k
   · rfl
   · have q1:=List.contains_iff_mem.1 q
     have q2:ra[i].k ∈ (ra.drop i).map Hd.k:=by rw [drop_cons h1];simp
     exact absurd rfl (hn.2.2 _ q1 _ q2)
  have hg:=kmap_get ra[i].k ((ra.take i).map Hd.k)
  have hp:=kmap_put ra[i].k ((ra.take i).map Hd.k) hno
  rw [hno] at hg
  have hq:=ih (i+1) (by omega)
  have ht:(ra.take (i+1)).map Hd.k=(ra.take i).map Hd.k++[ra[i].k]:=by rw [List.take_add_one,List.getElem?_eq_getElem h1,List.map_append];rfl
  rw [ht] at hq
  generalize (ra.take i).map Hd.k=K at *
  simp only [w278_K1] at hq ⊢;rw [ck_unf w278_B1.eq_1]
  unfold eHd at hv
  rw [Nd.c_eq] at hv
  simp at hq
  simp (disch:=omega) [H.toHasEq.inl,inlB,H.toHasEq.pp,ppB,h1,hv,hg,hp,wI64,hq,Nd.c_eq]
theorem hcheck_ok (H:HasQk C) (hF:FnW C 277 [.agg (cCf vw ov ls ks ke cap ar fl)]=some (.int .i64 0)) (hl:ks.length≤255) (hpm:∀ k ∈ ks,plOk k) (ra:List Hd) (ea:Bool) (ps:List Pl) (pe:Bool) (S:CkS ks cap ra ps) :
 FnW C 278 [.agg (cCf vw ov ls ks ke cap ar fl),aSt ra ea ps pe]=some (.int .i64 0):=by
 have h1:¬ 1024 < (ra.length:Int):=by have:=S.rl;omega
 have h2:=hrows_loop vw ov ls ks ke cap ar fl H hl ra ea ps pe S ra.length 0 (by simp)
 have h3:=hpools_loop vw ov ls ks ke cap ar fl H hl hpm ra ps pe S ps.length 0 (by simp)
 have hpl:=S.pl
 simp only [w278_K1,List.take_zero,List.map_nil,kmap_nil] at h2
 simp only [w278_K0] at h3
 rw [fnW_eq H.f278 rfl]
 rw [ck_unf w278_c1.eq_1] at h2
 simp at h2 h3
 simp [w278,H.toHasEq.inl,inlB,H.toHasEq.pp,ppB,hF,h1,hpl,h2]
 rw [hpl] at h3
 simpa using h3
end
end Go.D
end
section
namespace Go.D
open Go Go.Pav Go.Pw P
attribute [-simp] List.getElem_cons_drop
variable {C:WProg}
structure HasQu (C:WProg):Prop extends HasQk C where
 f290:C.fns.get 290=some w290
def tmP (n:Nat) (p:Pl):Pl:=((p.1.drop (p.1.length - n)).map kepH,true)
def tmD (n:Nat):List Pl→Nat
 | []=>0
 | p::r=>(p.1.length - n)+tmD n r
theorem tmD_le (n B:Nat):∀ l:List Pl,(∀ p ∈ l,p.1.length≤B)→tmD n l≤B * l.length
 | [],_=>by simp [tmD]
 | p::r,h=>by
  have h1:=tmD_le n B r (fun q hq=>h q (by simp [hq]))
  have h2:=h p (by simp)
  simp only [tmD,List.length_cons,Nat.mul_add,Nat.mul_one];omega
theorem htrim_loop (H:HasQu C) (rk:List Hd) (PK:List Pl) (n:Nat) (hn:n≤16) (hl:PK.length≤1000) (hp:∀ p ∈ PK,p.1.length≤1000000∧∀ x ∈ p.1,cnt x.n≠0):∀ m i,m+i=PK.length→∀ (G:List Pl) (d:Nat),G.length=i→d+1000000 * m≤1000000000 →
 w290_K0 C ⟨[(34,.int .i64 i),(33,.int .i64 PK.length),(32,.sl 0 1 0 PK.length PK.length true),(11,.int .i64 d),(10,.ptr 1 0 0),(6,.ptr 2 0 0),(2,.int .i64 n)],
  [(0,.cells 1 ((G++PK.drop i).map ePl) true true),(1,.cells 2 [[.ro 8 (rk.map eHd) true,.sl 0 1 0 PK.length PK.length true]] true false),(2,.cells 2 [[.ro 8 [] true,.ro 1 [] true]] true true)],3⟩ =
  some (.tup [aSt rk true (G++(PK.drop i).map (tmP n)) true,.int .i64 (d+tmD n (PK.drop i):Nat),.int .i64 0]):=by
 intro m
 induction m with
 | zero =>
  intro i hi G d hG hd
  have h3:¬ i < PK.length:=by omega
  have h4:PK.drop i=[]:=List.drop_eq_nil_of_le (by omega)
  have h5:List.take PK.length (G.map ePl)=G.map ePl:=List.take_of_length_le (by simp;omega)
  simp only [w290_K0];rw [ck_unf w290_B0.eq_1]
  rw [h4]
  simp (disch:=omega) [ck_unf w290_c0.eq_1,h3,h5,tmD,show G.length=PK.length by omega]
  trace_state
 | succ m ih =>
  intro i hi G d hG hd
  have h1:i < PK.length:=by omega
  have hh:=hp _ (List.getElem_mem h1)
  obtain ⟨D,hD⟩:∃ D,D=PK[i].1.length - n:=⟨_,rfl⟩
  have hx:imax 0 ((PK[i].1.length:Int) - n)=(D:Int):=by
   by_cases c:(PK[i].1.length:Int) - n≤0
   · rw [imax_l c];omega
   · rw [imax_r (by omega)];omega
  have hs:=qown_ok H.toHasQt (PK[i].1.drop D) PK[i].2 (by simp;omega) (fun x hx=>hh.2 x (List.mem_of_mem_drop hx))
  have ht:List.drop D (List.take PK[i].1.length (PK[i].1.map eHd))=(PK[i].1.drop D).map eHd:=by
   rw [List.take_of_length_le (by simp),List.map_drop]
  have hq:=ih (i+1) (by omega) (G++[tmP n PK[i]]) (d+D) (by simp [hG]) (by omega)
  have hg:((G++PK.drop i).map ePl)[i]?=some (ePl PK[i]):=by
   rw [List.getElem?_map,List.getElem?_append_right (by omega),hG,Nat.sub_self,drop_cons h1];rfl
  have hst:((G++PK.drop i).map ePl).set i (ePl (tmP n PK[i]))=(G++[tmP n PK[i]]++PK.drop (i+1)).map ePl:=by
   rw [drop_cons h1,List.map_append,List.set_append_right _ _ (by simp;omega)];simp [hG]
  have hr:d+tmD n (PK.drop i)=(d+D)+tmD n (PK.drop (i+1)):=by rw [drop_cons h1,tmD];omega
  have hr2:G++(PK.drop i).map (tmP n)=G++[tmP n PK[i]]++(PK.drop (i+1)).map (tmP n):=by rw [drop_cons h1];simp
  rw [hr,hr2]
  generalize G++[tmP n PK[i]]++(PK.drop (i+1)).map (tmP n)=RES at *
  rw [← hst] at hq
  generalize (G++PK.drop i).map ePl=Z at *
  simp only [w290_K0] at hq ⊢;rw [ck_unf w290_B0.eq_1]
  simp [tmP,← hD] at hq
  try simp at hs
  try simp at ht
  simp at hg
  have hDl:D≤PK[i].1.length:=by omega
  have hb1:=hh.1
  simp (disch:=omega) [H.toHasEq.inl,inlB,H.toHasEq.pp,ppB,h1,hx,hs,ht,hg,wI64,hDl,hq]
  trace_state
theorem cnt_kep (n:Nd):cnt (kepN n)=cnt n:=by rw [← cnt_z (kepN n),kepN_z,cnt_z]
theorem tmD_kep (n:Nat):∀ l:List Pl,tmD n (l.map kepP)=tmD n l
 | []=>rfl
 | p::r=>by simp only [List.map_cons,tmD,tmD_kep n r,kepP,List.length_map]
theorem htrim_ok (H:HasQu C) (vw ov ls:Int) (ks:List Kd) (ke:Bool) (cap ar fl:Int) (ra:List Hd) (ea:Bool) (ps:List Pl) (pe:Bool) (hF:FnW C 278 [.agg (cCf vw ov ls ks ke cap ar fl),aSt ra ea ps pe]=some (.int .i64 0)) (n:Nat) (hn:n≤16)
 (hr:ra.length≤1000000) (hrc:∀ x ∈ ra,cnt x.n≠0) (hl:ps.length≤1000) (hp:∀ p ∈ ps,p.1.length≤1000000∧∀ x ∈ p.1,cnt x.n≠0) :
 FnW C 290 [.agg (cCf vw ov ls ks ke cap ar fl),aSt ra ea ps pe,.int .i64 n]=some (.tup [aSt (ra.map kepH) true ((ps.map kepP).map (tmP n)) true,.int .i64 (tmD n ps:Nat),.int .i64 0]):=by
 have hx:=hexact_ok H.toHasQe ra ea ps pe hr hrc hl hp
 have h1:¬ (n:Int) < 0:=by omega
 have h2:¬ 16 < (n:Int):=by omega
 have h3:=htrim_loop H (ra.map kepH) (ps.map kepP) n hn (by simpa using hl) (fun p hp2=>by
  obtain ⟨q,hq,rfl⟩:=List.mem_map.1 hp2
  have:=hp q hq
  refine ⟨by simpa [kepP] using this.1,fun x hx=>?_⟩
  simp only [kepP,List.mem_map] at hx
  obtain ⟨y,hy,rfl⟩:=hx
  simp only [kepH,cnt_kep]
  exact this.2 y hy) (ps.map kepP).length 0 (by simp) [] 0 rfl (by simp;omega)
 rw [List.drop_zero,List.nil_append,tmD_kep] at h3
 simp only [List.nil_append,Nat.zero_add] at h3
 have hpl:(ps.map kepP).length=ps.length:=by simp
 rw [hpl] at h3
 generalize (ps.map kepP).map (tmP n)=RES at *
 generalize ps.map kepP=PK at *
 generalize ra.map kepH=rk at *
 simp only [w290_K0] at h3
 simp at h3
 rw [fnW_eq H.f290 rfl]
 simp [w290,H.toHasEq.inl,inlB,H.toHasEq.pp,ppB,hF,h1,h2,hx,h3]
theorem htrim_bad (H:HasQu C) (vw ov ls:Int) (ks:List Kd) (ke:Bool) (cap ar fl:Int) (ra:List Hd) (ea:Bool) (ps:List Pl) (pe:Bool) (hF:FnW C 278 [.agg (cCf vw ov ls ks ke cap ar fl),aSt ra ea ps pe]=some (.int .i64 0)) (n:Int) (hn:n < 0∨16 < n) :
 FnW C 290 [.agg (cCf vw ov ls ks ke cap ar fl),aSt ra ea ps pe,.int .i64 n]=some (.tup [aSt [] true [] true,.int .i64 0,.int .i64 4]):=by
 rw [fnW_eq H.f290 rfl]
 by_cases c:n < 0
 · simp [w290,H.toHasEq.inl,inlB,H.toHasEq.pp,ppB,hF,c]
 · have c2:16 < n:=by omega
   simp [w290,H.toHasEq.inl,inlB,H.toHasEq.pp,ppB,hF,c,c2]
end Go.D
end
section
namespace Go.D
open Go Go.Pav Go.Pw P
set_option maxHeartbeats 1000000
attribute [-simp] List.getElem_cons_drop
variable {C:WProg}
structure HasQv (C:WProg):Prop extends HasQu C where
 f291:C.fns.get 291=some w291
def TlH (o:Option WObj) (b:Nat) (v:AV) (d:List Hd):Prop :=
 (d=[]∧v=.sl b 8 0 0 0 true∧o=some (.cells 8 [] true true))∨∃ (es:List Hd) (j:Nat),d=es.drop j∧j≤es.length∧es≠[]∧o=some (.cells 8 (eHs es) true true) ∧
  ((j=es.length∧v=.ro 8 [] false)∨(j < es.length∧v=.sl b 8 j (es.length - j) (es.length - j) false))
theorem FullH.tl {o:Option WObj} {b:Nat} {v:AV} {d:List Hd} (h:FullH o b v d):TlH o b v d:=by
 rcases h with ⟨rfl,h1,h2⟩ | ⟨h0,h1,h2⟩
 · exact .inl ⟨rfl,h1,h2⟩
 · exact .inr ⟨d,0,rfl,Nat.zero_le _,h0,h2,.inr ⟨List.length_pos_iff.2 h0,by simpa using h1⟩⟩
theorem TlH.frz {h:WHeap} {b:Nat} {v:AV} {d:List Hd} (q:TlH (Pav.get h b) b v d) (n:Nat):∃ ex,frzW h (n+2) v=some (.ro 8 (eHs d) ex):=by
 rcases q with ⟨rfl,rfl,h2⟩ | ⟨es,j,rfl,hj,h0,h2,⟨rfl,rfl⟩ | ⟨hj2,rfl⟩⟩
 · exact ⟨true,by rw [frzW_sl,h2];simp [Pw.frzS,og]⟩
 · exact ⟨false,by rw [frzW_ro];simp⟩
 · refine ⟨false,?_⟩
   have h5:List.take (es.length - j) (List.drop j (eHs es))=eHs (es.drop j):=by
    rw [List.take_of_length_le (by simp)];simp
   rw [frzW_sl,h2]
   have h6:j+(es.length - j)=es.length:=by omega
   simp [Pw.frzS,og,h5,h6]
structure TmI (RW:AV) (pb q lo k:Nat) (hz:WHeap) (h:WHeap) (next:Nat) (cs:List (List AV)) (W:List (List Hd)) (id:Nat→Nat):Prop where
 R:Nst2 TlH h lo next id cs W
 wl:W.length=k
 gq:Pav.get h q=some (.cells 2 [[RW,.sl pb 1 0 k k false]] true false)
 gp:Pav.get h pb=some (.cells 1 cs true false)
 g1:Pav.get h 1=some (.cells 2 [[.ro 8 [] true,.ro 1 [] true]] true true)
 gz:∀ j,j < lo→Pav.get h j=Pav.get hz j
 ne:1 < lo∧lo≤pb∧lo≤q∧pb≠q∧pb < next∧q < next
 nd:∀ j,j < k→id j≠pb∧id j≠q
theorem TmI.later {RW:AV} {pb q lo k:Nat} {hz h:WHeap} {next next':Nat} {cs:List (List AV)} {W:List (List Hd)} {id:Nat→Nat} (T:TmI RW pb q lo k hz h next cs W id) (hn:next≤next'):TmI RW pb q lo k hz h next' cs W id :=
 ⟨T.R.mono hn (fun _ _=>rfl),T.wl,T.gq,T.gp,T.g1,T.gz,by have:=T.ne;omega,T.nd⟩
theorem qset_same {α:Type} {l:List α} {i:Nat} {a:α} (h:l[i]?=some a):l.set i a=l:=by
 obtain ⟨h1,rfl⟩:=List.getElem?_eq_some_iff.1 h
 exact List.set_getElem_self h1
theorem tm_in (RW:AV) (pb q lo k:Nat) (hz:WHeap) (i n:Nat) (hn:n≤16):∀ d (x:List Hd),x.length≤1000000→(x.length=n+d∨(d=0∧x.length≤n))→∀ (h:WHeap) (next:Nat) (cs:List (List AV)) (W:List (List Hd)) (id:Nat→Nat) (c:Nat),
 TmI RW pb q lo k hz h next cs W id→W[i]?=some x→c+d≤1000000000 →
 ∃ h' next' cs' id',CK C 0 (pureFin [.cell 4 2 true,.tmp 5]) [.sq w291_L1,.bk 2 ⟨true,[8,7,6,4,1],[(9999,65537)]⟩,.bk 1 ⟨true,[8,7,6,4,1],[(9999,65537)]⟩,.sq w291_c1,.sq w291_L0,.bk 0 ⟨true,[7,6,4],[(9999,65537)]⟩,.sq w291_c0] w291_B1
  ⟨[(8,.int .i64 i),(7,.int .i64 c),(6,.ptr q 0 0),(4,.ptr 1 0 0),(1,.int .i64 n)],h,next⟩ =
  CK C 0 (pureFin [.cell 4 2 true,.tmp 5]) [.sq w291_L0,.bk 0 ⟨true,[7,6,4],[(9999,65537)]⟩,.sq w291_c0] w291_c1
   ⟨[(8,.int .i64 i),(7,.int .i64 (c+d:Nat)),(6,.ptr q 0 0),(4,.ptr 1 0 0),(1,.int .i64 n)],h',next'⟩ ∧
  TmI RW pb q lo k hz h' next' cs' (W.set i (x.drop d)) id':=by
 intro d
 induction d with
 | zero =>
  intro x hx hd h next cs W id c T hw hc
  have hi:i < W.length:=(List.getElem?_eq_some_iff.1 hw).1
  obtain ⟨v,hv,hP⟩:=T.R.row i x hw
  have hi2:i < cs.length:=by rw [T.R.len];exact hi
  rw [List.getElem?_eq_getElem hi2] at hv
  replace hv:=Option.some.inj hv
  have hik:i < k:=by rw [← T.wl];exact hi
  have hto:¬ (n:Int) < (x.length:Int):=by omega
  refine ⟨h,next+8,cs,id,?_,by rw [List.drop_zero,qset_same hw];exact T.later (by omega)⟩
  rw [ck_unf w291_B1.eq_1]
  rcases hP with ⟨rfl,rfl,_⟩ | ⟨es,j,rfl,hj,h0,_,⟨rfl,rfl⟩ | ⟨hj2,rfl⟩⟩
  · simp (disch:=omega) [T.gq,T.gp,hi2,hik,hv,hto]
  · simp (disch:=omega) [T.gq,T.gp,hi2,hik,hv,hto]
  · rw [List.length_drop] at hto
    simp (disch:=omega) [T.gq,T.gp,hi2,hik,hv,hto]
 | succ d ih =>
  intro x hx hd h next cs W id c T hw hc
  replace hd:x.length=n+(d+1):=by rcases hd with q | ⟨q,_⟩ <;> omega
  have hi:i < W.length:=(List.getElem?_eq_some_iff.1 hw).1
  obtain ⟨v,hv,hP⟩:=T.R.row i x hw
  have hi2:i < cs.length:=by rw [T.R.len];exact hi
  rw [List.getElem?_eq_getElem hi2] at hv
  replace hv:=Option.some.inj hv
  have hik:i < k:=by rw [← T.wl];exact hi
  have hto:(n:Int) < (x.length:Int):=by omega
  have hbd:=T.R.bd i hi
  have ne:=T.ne
  have hnd:=T.nd i hik
  rcases hP with ⟨rfl,_⟩ | ⟨es,j,rfl,hj,h0,ho,⟨rfl,_⟩ | ⟨hj2,rfl⟩⟩
  · simp at hd
  · simp at hd
  rw [List.length_drop] at hd hto
  obtain ⟨nv,hnv⟩:∃ nv:AV,nv=if es.length - j=1 then .ro 8 [] false else .sl (id i) 8 (j+1) (es.length - j - 1) (es.length - j - 1) false:=⟨_,rfl⟩
  have hT:TmI RW pb q lo k hz (put h pb (.cells 1 (cs.set i [nv]) true false)) (next+22) (cs.set i [nv]) (W.set i (es.drop (j+1))) (fun u=>if u=i then id i else id u):=by
   refine ⟨T.R.set i hi (id i) (.inl rfl) hbd.1 (by omega) (by omega) nv (es.drop (j+1)) (fun u hu hui=>getPut_ne (Ne.symm (T.nd u (by rw [← T.wl];exact hu)).1)) ?_,by simp [T.wl],by rw [getPut_ne (by omega)];exact T.gq,getPut_self ..,by rw [getPut_ne (by omega)];exact T.g1,
    fun u hu=>by rw [getPut_ne (by omega)];exact T.gz u hu,by omega,fun u hu=>by have:=T.nd u hu;split <;> assumption⟩
   rw [getPut_ne (by omega)]
   refine .inr ⟨es,j+1,rfl,by omega,h0,ho,?_⟩
   rw [hnv]
   by_cases c1:es.length - j=1
   · rw [if_pos c1];exact .inl ⟨by omega,rfl⟩
   · rw [if_neg c1];exact .inr ⟨by omega,by rw [show es.length - (j+1)=es.length - j - 1 by omega]⟩
  obtain ⟨h',next',cs',id',e1,e2⟩:=ih (es.drop (j+1)) (by simp at hx ⊢;omega) (.inl (by simp;omega)) _ _ _ _ _ (c+1) hT (by rw [List.getElem?_set_self hi]) (by omega)
  refine ⟨h',next',cs',id',?_,?_⟩
  · rw [show c+(d+1)=c+1+d by omega,← e1,ck_unf w291_B1.eq_1]
    have hj3:1≤es.length - j:=by omega
    by_cases c1:es.length - j=1
    · rw [if_pos c1] at hnv
      subst hnv
      have hn0:n=0:=by omega
      simp (disch:=omega) [T.gq,T.gp,hi2,hik,hv,hto,hj3,c1,hn0,wI64,getPut_self,getPut_ne]
    · rw [if_neg c1] at hnv
      subst hnv
      have hj4:1 < es.length - j:=by omega
      simp (disch:=omega) [T.gq,T.gp,hi2,hik,hv,hto,hj3,hj4,c1,wI64,getPut_self,getPut_ne]
  · rw [List.set_set,List.drop_drop,show j+1+d=j+(d+1) by omega] at e2
    rw [List.drop_drop]
    exact e2
theorem frz_tm {h:WHeap} {lo hi pb rb:Nat} {id:Nat→Nat} {cs:List (List AV)} {W:List (List Hd)} {O:List Hd} {RW:AV} (hR:(O=[]∧RW=.ro 8 [] true)∨(RW=.sl rb 8 0 O.length O.length false∧Pav.get h rb=some (.cells 8 (eHs O) true true)))
 (R:Nst2 TlH h lo hi id cs W) (gp:Pav.get h pb=some (.cells 1 cs true false)) (r:Nat) (hr:r=W.length) (n:Nat):∃ eo ps' pe',ps'.map (·.1)=W∧frzW h (n+4) (.agg [RW,.sl pb 1 0 r r false])=some (aSt O eo ps' pe'):=by
 subst hr
 obtain ⟨ps,pe,h1,h2⟩:=R.frzS (enc:=eHs) (z:=8) n (fun b v d q=>TlH.frz q n) (mu:=true) (cap:=W.length) (ex:=false)
 rcases hR with ⟨rfl,rfl⟩ | ⟨rfl,h3⟩
 · refine ⟨true,ps,pe,h1,?_⟩
   rw [frzW_agg]
   simp only [mapO,frzW_ro,frzW_sl,gp,h2,ob,om,aggO]
   rfl
 · refine ⟨false,ps,pe,h1,?_⟩
   have h4:List.take O.length (eHs O)=eHs O:=List.take_of_length_le (by simp)
   rw [frzW_agg]
   simp only [mapO,frzW_sl,gp,h2,h3,ob,om,aggO]
   simp only [Pw.frzS,List.drop_zero,h4,List.length_map,decide_true,og,Bool.false_and,ob,om,aggO]
   rfl
def dN (n:Nat) (x:List Hd):List Hd:=x.drop (x.length - n)
def tmL (n:Nat):List (List Hd)→Nat
 | []=>0
 | x::r=>(x.length - n)+tmL n r
theorem tmL_ps (n:Nat):∀ l:List Pl,tmL n (l.map (·.1))=tmD n l
 | []=>rfl
 | p::r=>by simp only [List.map_cons,tmL,tmD,tmL_ps n r]
theorem tm_out (RW:AV) (pb q lo n0:Nat) (hz:WHeap) (ra:List Hd) (hRW:RowsV hz n0 lo RW ra) (n:Nat) (hn:n≤16) (L:List (List Hd)) (hL:L.length≤100) (hx:∀ x ∈ L,x.length≤1000000) (hn0:2≤n0):∀ m i,m+i=L.length→∀ (h:WHeap) (next:Nat) (cs:List (List AV)) (id:Nat→Nat) (c:Nat),
 TmI RW pb q lo L.length hz h next cs ((L.take i).map (dN n)++L.drop i) id→c≤1000000 * i →
 ∃ (eo:Bool) (ps':List Pl) (pe':Bool),ps'.map (·.1)=L.map (dN n)∧CK C 0 (pureFin [.cell 4 2 true,.tmp 5]) [.sq w291_L0,.bk 0 ⟨true,[7,6,4],[(9999,65537)]⟩,.sq w291_c0] w291_B0
  ⟨[(8,.int .i64 i),(7,.int .i64 c),(6,.ptr q 0 0),(4,.ptr 1 0 0),(1,.int .i64 n)],h,next⟩=some (.tup [aSt ra eo ps' pe',.int .i64 (c+tmL n (L.drop i):Nat)]):=by
 intro m
 induction m with
 | zero =>
  intro i hi h next cs id c T hc
  have h3:¬ i < L.length:=by omega
  rw [List.take_of_length_le (by omega),List.drop_eq_nil_of_le (by omega),List.append_nil] at T
  rw [List.drop_eq_nil_of_le (by omega)]
  have ne:=T.ne
  obtain ⟨hf,hfe⟩:∃ hf,hf=put h 1 (.cells 2 [[RW,.sl pb 1 0 L.length L.length false]] true false):=⟨_,rfl⟩
  have hg:∀ j,j≠1→Pav.get hf j=Pav.get h j:=fun j hj=>by rw [hfe,getPut_ne (by omega)]
  have hR:∃ rb,(ra=[]∧RW=.ro 8 [] true)∨(RW=.sl rb 8 0 ra.length ra.length false∧Pav.get hf rb=some (.cells 8 (eHs ra) true true)):=by
   rcases hRW with u | ⟨_,rb,u2,u3,u4,u5⟩
   · exact ⟨0,.inl u⟩
   · exact ⟨rb,.inr ⟨u2,by rw [hg rb (by omega),T.gz rb u5];exact u3⟩⟩
  obtain ⟨rb,hR⟩:=hR
  obtain ⟨eo,ps',pe',f1,f2⟩:=frz_tm hR (T.R.mono (Nat.le_refl _) (fun j hj=>hg (id j) (by have:=(T.R.bd j hj).1;omega))) (by rw [hg pb (by omega)];exact T.gp) L.length (by simp) 11
  refine ⟨eo,ps',pe',f1,?_⟩
  rw [hfe] at f2
  rw [ck_unf w291_B0.eq_1]
  rcases hR with ⟨r1,rfl⟩ | ⟨rfl,r2⟩
  · simp (disch:=omega) [T.gq,T.gp,T.g1,h3,ck_unf w291_c0.eq_1,getPut_self,getPut_ne,-frzW_agg,tmL]
    rw [f2];rfl
  · simp (disch:=omega) [T.gq,T.gp,T.g1,h3,ck_unf w291_c0.eq_1,getPut_self,getPut_ne,-frzW_agg,tmL]
    rw [f2];rfl
 | succ m ih =>
  intro i hi h next cs id c T hc
  have h3:i < L.length:=by omega
  have hxi:=hx _ (List.getElem_mem h3)
  have hW:((L.take i).map (dN n)++L.drop i)[i]?=some L[i]:=by
   rw [List.getElem?_append_right (by simp;omega),drop_cons h3]
   have:i - (List.map (dN n) (List.take i L)).length=0:=by simp;omega
   rw [this];rfl
  have hWs:((L.take i).map (dN n)++L.drop i).set i (dN n L[i])=(L.take (i+1)).map (dN n)++L.drop (i+1):=by
   rw [List.set_append_right _ _ (by simp;omega),drop_cons h3,List.take_succ_eq_append_getElem h3]
   have:i - (List.map (dN n) (List.take i L)).length=0:=by simp;omega
   rw [this,List.map_append,List.map_cons,List.set_cons_zero,List.append_assoc];rfl
  obtain ⟨h',next',cs',id',e1,e2⟩:=tm_in (C:=C) RW pb q lo L.length hz i n hn (L[i].length - n) L[i] hxi (by omega) h (next+5) cs _ id c (T.later (by omega)) hW (by omega)
  change TmI RW pb q lo L.length hz h' next' cs' (((L.take i).map (dN n)++L.drop i).set i (dN n L[i])) id' at e2
  rw [hWs] at e2
  obtain ⟨eo,ps',pe',f1,f2⟩:=ih (i+1) (by omega) h' (next'+3) cs' id' (c+(L[i].length - n)) (e2.later (by omega)) (by omega)
  refine ⟨eo,ps',pe',f1,?_⟩
  rw [drop_cons h3,tmL,← Nat.add_assoc,← f2,ck_unf w291_B0.eq_1]
  generalize L[i].length - n=D at *
  simp at e1
  simp (disch:=omega) [T.gq,h3]
  rw [e1,ck_unf w291_c1.eq_1]
  simp (disch:=omega) [wI64]
end Go.D
end
section
namespace Go.D
open Go Go.Pav Go.Pw P
set_option maxHeartbeats 2000000
attribute [-simp] List.getElem_cons_drop
variable {C:WProg}
theorem rhtrim_ok (H:HasQv C) (ra:List Hd) (ea:Bool) (ps:List Pl) (pe:Bool) (n:Nat) (hn:n≤16) (hra:ra.length≤1000) (hpl:ps.length≤100) (hp0:0 < ps.length) (hps:∀ p ∈ ps,p.1.length≤1000000) :
 ∃ (eo:Bool) (ps':List Pl) (pe':Bool),ps'.map (·.1)=(ps.map (·.1)).map (dN n)∧FnW C 291 [aSt ra ea ps pe,.int .i64 n]=some (.tup [aSt ra eo ps' pe',.int .i64 (tmD n ps:Nat)]):=by
 obtain ⟨v,h',n',e1,Rv,pb,cs,id,lo,rfl,e2,R,gp,l1,l2,l3,l4,l5⟩:=rcopyS_ok H.toHasQc ra ea ps pe (by omega) (by omega) (by omega) hps
  [(0,.cells 2 [[.ro 8 (ra.map eHd) ea,.ro 1 (ps.map ePl) pe]] true true),(1,.cells 2 [[.ro 8 [] true,.ro 1 [] true]] true true)] 5
 have g1:=l5 1 (by omega)
 simp at g1
 have hL:(ps.map (·.1)).length=ps.length:=by simp
 have hhf:∀ j,j < lo→Pav.get (put h' n' (.cells 2 [[Rv,.sl pb 1 0 ps.length ps.length false]] true false)) j=Pav.get h' j:=fun j hj=>getPut_ne (by omega)
 have T:TmI Rv pb n' lo (ps.map (·.1)).length h' (put h' n' (.cells 2 [[Rv,.sl pb 1 0 ps.length ps.length false]] true false)) (n'+4) cs (((ps.map (·.1)).take 0).map (dN n)++(ps.map (·.1)).drop 0) id:=by
  rw [hL]
  refine ⟨?_,by simp,getPut_self ..,by rw [getPut_ne (by omega)];exact gp,by rw [getPut_ne (by omega)];exact g1,hhf,by omega,fun j hj=>⟨l4 j hj,by have:=(R.bd j (by simpa using hj)).2;omega⟩⟩
  have:=(R.weak (fun _ _ _ _ q=>q.tl)).mono (h':=put h' n' (.cells 2 [[Rv,.sl pb 1 0 ps.length ps.length false]] true false)) (hi':=n'+4) (by omega) (fun j hj=>getPut_ne (by have:=(R.bd j hj).2;omega))
  simpa using this
 obtain ⟨eo,ps',pe',f1,f2⟩:=tm_out (C:=C) Rv pb n' lo 5 h' ra e2 n hn (ps.map (·.1)) (by omega) (fun x hx=>by obtain ⟨p,hp,rfl⟩:=List.mem_map.1 hx;exact hps p hp) (by omega) ps.length 0 (by simp) _ _ _ _ 0 T (by omega)
 refine ⟨eo,ps',pe',f1,?_⟩
 rw [List.drop_zero,tmL_ps,Nat.zero_add] at f2
 rw [fnW_eq H.f291 rfl]
 rcases e2 with ⟨_,rfl⟩ | ⟨_,rb,rfl,_⟩
 · simp (disch:=omega) [w291,H.toHasEq.inl,inlB,H.toHasEq.pp,ppB,e1,g1,getPut_self,getPut_ne,putPut]
   simpa [putPut] using f2
 · simp (disch:=omega) [w291,H.toHasEq.inl,inlB,H.toHasEq.pp,ppB,e1,g1,getPut_self,getPut_ne,putPut]
   simpa [putPut] using f2
end Go.D
end
section
namespace Go.D
open Go Go.Pav Go.Pw P
set_option maxHeartbeats 2000000
attribute [-simp] List.getElem_cons_drop
variable {C:WProg}
structure HasQx (C:WProg):Prop extends HasQv C where
 f287:C.fns.get 287=some w287
 f288:C.fns.get 288=some w288
theorem pooled_loop (H:HasQx C) (ra:List Hd) (ea:Bool) (ps:List Pl) (pe:Bool) (hl:ps.length≤1000) (hp:∀ p ∈ ps,p.1.length≤1000000):∀ m i,m+i=ps.length→∀ c:Nat,c+1000000 * m≤1000000000 →
 w288_K0 C ⟨[(4,.int .i64 i),(3,.int .i64 c),(1,.ptr 0 0 0)],[(0,.cells 2 [[.ro 8 (ra.map eHd) ea,.ro 1 (ps.map ePl) pe]] true true)],1⟩=some (.int .i64 (c+tmD 0 (ps.drop i):Nat)):=by
 intro m
 induction m with
 | zero =>
  intro i hi c hc
  have h3:¬ i < ps.length:=by omega
  have h2:ps.drop i=[]:=List.drop_eq_nil_of_le (by omega)
  simp only [w288_K0];rw [ck_unf w288_B0.eq_1,h2]
  simp (disch:=omega) [ck_unf w288_c0.eq_1,h3,tmD]
 | succ m ih =>
  intro i hi c hc
  have h1:i < ps.length:=by omega
  have hh:=hp _ (List.getElem_mem h1)
  have hq:=ih (i+1) (by omega) (c+ps[i].1.length) (by omega)
  rw [drop_cons h1,tmD,Nat.sub_zero,← Nat.add_assoc]
  simp only [w288_K0] at hq ⊢;rw [ck_unf w288_B0.eq_1]
  simp at hq
  simp (disch:=omega) [h1,wI64,hq]
theorem pooled_ok (H:HasQx C) (ra:List Hd) (ea:Bool) (ps:List Pl) (pe:Bool) (hl:ps.length≤1000) (hp:∀ p ∈ ps,p.1.length≤1000000):FnW C 288 [aSt ra ea ps pe]=some (.int .i64 (tmD 0 ps:Nat)):=by
 have h:=pooled_loop H ra ea ps pe hl hp ps.length 0 (by simp) 0 (by omega)
 rw [List.drop_zero,Nat.zero_add] at h
 generalize tmD 0 ps=D at *
 simp only [w288_K0] at h
 simp at h
 rw [fnW_eq H.f288 rfl]
 simp [w288,H.toHasEq.inl,inlB,H.toHasEq.pp,ppB,h]
theorem exact_loop2 (H:HasQx C) (ra:List Hd) (ea:Bool) (ps:List Pl) (pe:Bool) (hl:ps.length≤1000) (hp:∀ p ∈ ps,p.2=true):∀ m i,m+i=ps.length →
 w287_K0 C ⟨[(3,.int .i64 i),(1,.ptr 0 0 0)],[(0,.cells 2 [[.ro 8 (ra.map eHd) ea,.ro 1 (ps.map ePl) pe]] true true)],1⟩=some (.int .i64 1):=by
 intro m
 induction m with
 | zero =>
  intro i hi
  have h3:¬ i < ps.length:=by omega
  simp only [w287_K0];rw [ck_unf w287_B0.eq_1]
  simp (disch:=omega) [ck_unf w287_c0.eq_1,h3]
 | succ m ih =>
  intro i hi
  have h1:i < ps.length:=by omega
  have hh:=hp _ (List.getElem_mem h1)
  have hq:=ih (i+1) (by omega)
  simp only [w287_K0] at hq ⊢;rw [ck_unf w287_B0.eq_1]
  simp at hq
  simp (disch:=omega) [h1,hh,wI64,hq]
theorem lexact_ok (H:HasQx C) (ra:List Hd) (ps:List Pl) (hl:ps.length≤1000) (hp:∀ p ∈ ps,p.2=true):FnW C 287 [aSt ra true ps true]=some (.int .i64 1):=by
 have h:=exact_loop2 H ra true ps true hl hp ps.length 0 (by simp)
 simp only [w287_K0] at h
 simp at h
 rw [fnW_eq H.f287 rfl]
 simp [w287,H.toHasEq.inl,inlB,H.toHasEq.pp,ppB,h]
end Go.D
end
section
namespace Go.D
open Go Go.Pav Go.Pw P
set_option maxHeartbeats 2000000
attribute [-simp] List.getElem_cons_drop
variable {C:WProg}
def PV (ks:List Kd) (cap:Int) (W:List (List Hd)):Prop:=∀ (i:Nat) (w:List Hd),W[i]?=some w→(w.length:Int)≤plAt ks i∧∀ h ∈ w,VH ks cap h∧h.t=i
theorem rowAt_get {W:List (List Hd)} {t:Nat} (h:t < W.length):rowAt W t=W[t]:=by simp [rowAt,h]
theorem cm1_pv (ks:List Kd) (cap:Int) (l:List En) (A:List Nat):∀ (ra:List Hd) (s:List (List Hd) × Int),(∀ x ∈ ra,VH ks cap x)→s.1.length=ks.length→PV ks cap s.1→PV ks cap (cm1 ks l A ra s).1
 | [],s,_,_,h=>by simpa [cm1] using h
 | a::r,s,h1,hl,h=>by
  simp only [cm1]
  have ha:=h1 a (by simp)
  obtain ⟨t,ht,htl⟩:=ha.t
  split
  · exact cm1_pv ks cap l A r _ (fun x hx=>h1 x (by simp [hx])) hl h
  · split
    · exact cm1_pv ks cap l A r _ (fun x hx=>h1 x (by simp [hx])) hl h
    · rename_i c
      refine cm1_pv ks cap l A r _ (fun x hx=>h1 x (by simp [hx])) (by simpa using hl) ?_
      have htw:t < s.1.length:=by omega
      rw [ht,rowAt_get htw] at c
      obtain ⟨p1,p2⟩:=h t _ (List.getElem?_eq_getElem htw)
      intro i w hw
      simp only [ht] at hw
      rw [show ((t:Int)).toNat=t by omega,rowAt_get htw] at hw
      rw [List.getElem?_set] at hw
      split at hw
      · rename_i q
        subst q
        obtain rfl:=Option.some.inj hw
        refine ⟨by simp;omega,fun x hx=>?_⟩
        rcases List.mem_append.1 hx with q | q
        · exact p2 x q
        · rw [List.mem_singleton] at q;subst q;exact ⟨ha,ht⟩
      · exact h i w hw
theorem cm2_pv (ks:List Kd) (cap:Int) (tr:En→Nd) (ra:List Hd) (l:List En) (hl:∀ e ∈ l,∃ t:Nat,e.i.t=t):∀ (A:List Nat) (s:List Hd × List (List Hd) × Int × Int),PV ks cap s.2.1→PV ks cap (cm2 tr ra l A s).2.1
 | [],s,h=>by simpa [cm2] using h
 | a::r,s,h=>by
  simp only [cm2]
  cases hq:l[a]? with
  | none=>exact cm2_pv ks cap tr ra l hl r s h
  | some e =>
   obtain ⟨t,ht⟩:=hl e (List.mem_of_getElem? hq)
   simp only
   split
   · exact cm2_pv ks cap tr ra l hl r _ h
   · split
     · exact cm2_pv ks cap tr ra l hl r _ h
     · refine cm2_pv ks cap tr ra l hl r _ ?_
       intro i w hw
       simp only [ht] at hw
       rw [show ((t:Int)).toNat=t by omega,List.getElem?_set] at hw
       split at hw
       · rename_i q
         subst q
         split at hw
         · rename_i htw
           obtain rfl:=Option.some.inj hw
           obtain ⟨p1,p2⟩:=h t _ (List.getElem?_eq_getElem htw)
           rw [rowAt_get htw]
           exact ⟨by simp;omega,fun x hx=>p2 x (List.mem_of_mem_take hx)⟩
         · cases hw
       · exact h i w hw
theorem cm2_rows (tr:En→Nd) (ra:List Hd) (l:List En):∀ (A:List Nat) (s:List Hd × List (List Hd) × Int × Int),(∀ a ∈ A,a < l.length)→((cm2 tr ra l A s).1).map Hd.k=s.1.map Hd.k++A.map fun a=>(keysE l)[a]?.getD 0
 | [],s,_=>by simp [cm2]
 | a::r,s,h=>by
  have ha:=h a (by simp)
  have hr:=fun b hb=>h b (List.mem_cons_of_mem a hb)
  simp only [cm2,List.getElem?_eq_getElem ha]
  have hk:(keysE l)[a]?.getD 0=l[a].i.k:=by simp [keysE,ha]
  split
  · rw [cm2_rows tr ra l r _ hr];simp [ha]
  · split
    · rw [cm2_rows tr ra l r _ hr];simp [ha]
    · rw [cm2_rows tr ra l r _ hr];simp [ha]
theorem at_nodup {l:List Int} (h:l.Nodup):∀ (A:List Nat),A.Nodup→(∀ a ∈ A,a < l.length)→(A.map fun a=>l[a]?.getD 0).Nodup
 | [],_,_=>by simp
 | a::r,h1,h2=>by
  obtain ⟨h3,h4⟩:=List.nodup_cons.1 h1
  rw [List.map_cons,List.nodup_cons]
  refine ⟨fun q=>?_,at_nodup h r h4 (fun b hb=>h2 b (by simp [hb]))⟩
  obtain ⟨b,hb,hbe⟩:=List.mem_map.1 q
  have ha:=h2 a (by simp)
  have hb2:=h2 b (by simp [hb])
  simp only [List.getElem?_eq_getElem ha,List.getElem?_eq_getElem hb2,Option.getD_some] at hbe
  have:=(List.getElem_inj h).1 hbe
  subst this
  exact h3 hb
theorem vh_row {r:Int} {l:List En} (L:LG r l) (hg:∀ e ∈ l,GoodE (kindsOf r) e) {e:En} (he:e ∈ l):VH (kindsOf r) 12 ⟨e.i.k,e.i.t,trK (kindsOf r) e⟩:=by
 have h1:=(hg e he).i.k
 have h2:=L.t e he
 have h3:=L.rE e he
 have h4:=cnt_rnd h3
 have hz:cnt (trK (kindsOf r) e)=cnt (rndN (kdAt (kindsOf r) e.i.t).p e.i 12):=by
  unfold trK
  rw [← cnt_z,← rnd_z _ (fits_kd (ru_in r) h2),cnt_z]
 refine ⟨by simp only;omega,⟨e.i.t.toNat,by simp only;omega,by omega⟩,⟨by simp only;rw [hz];exact h4,?_⟩,?_⟩
 · simp only
   rw [hz]
   unfold rndN
   rw [if_pos h3]
   have h5:=h3
   unfold rndE at h5
   rw [if_neg (by omega)] at h5
   split at h5
   · cases h5
   · split at h5
     · cases h5
     · split at h5
       · cases h5
       · rename_i q;omega
 · simp only
   unfold trK rndR
   rw [if_pos h3]
   have hk:(kdAt (kindsOf r) e.i.t).p.k=1:=by
    have hl:(kindsOf r).length=3:=rfl
    obtain ⟨t,ht⟩:∃ t:Nat,e.i.t=t:=⟨e.i.t.toNat,by omega⟩
    rw [ht]
    have h6:t=0∨t=1∨t=2:=by omega
    rcases h6 with rfl | rfl | rfl <;> rfl
   generalize (kdAt (kindsOf r) e.i.t).p=p at *
   unfold mdN
   rw [md_eq,hk]
   simp [elemR]
end Go.D
end
section
namespace Go.D
open Go Go.Pav Go.Pw P
attribute [-simp] List.getElem_cons_drop
variable {C:WProg}
theorem hstep2_ok (H:HasQh C) {r:Int} {l:List En} (L:LG r l) (hg:∀ x ∈ l,GoodE (kindsOf r) x) (hn:(keysE l).Nodup) (e:Bool) {B:Nat} (hB:B≤84) {ra:List Hd} {ps:List Pl} (S:StOk B ra ps) (K:CkS (kindsOf r) 12 ra ps) (ea pe:Bool) (A:List Nat) (f:Bool) (hA:A.length≤12) (hAl:∀ a ∈ A,a < l.length) (hAn:A.Nodup) :
 ∃ (ra':List Hd) (ea':Bool) (ps':List Pl) (pe':Bool) (c:AV),StOk (B+12) ra' ps'∧CkS (kindsOf r) 12 ra' ps'∧FnW C 285 [.agg (cCf 100 1 1 (kindsOf r) true 12 65536 0),aSt ra ea ps pe,.ro 6 (l.map eEn) e,.ro 1 (A.map eAt) f]=some (.tup [aSt ra' ea' ps' pe',c,.int .i64 0]):=by
 have hk:(kindsOf r).length=3:=rfl
 obtain ⟨ps',ea',pe',h1,h2⟩:=rcommit_ok H.toHasQm (trK (kindsOf r)) 100 1 1 (kindsOf r) true 12 65536 0 ra ea ps pe l e A f (by omega) hAl (by have:=S.rl;omega) (by rw [S.pl];rfl) (by omega) (by omega)
  (fun p hp=>by have:=S.pb p hp;omega) (fun x hx=>⟨x.i.t.toNat,by have:=L.t x hx;omega,by have:=L.t x hx;omega⟩) (fun x hx=>by rw [hk];exact (S.q x hx).2) (fun a ha=>rtree2_ok H.toHasRo L e a ha)
 have l1:=cm1_len (kindsOf r) l A ra (ps.map (·.1),0) B (fun w hw=>by obtain ⟨p,hp,rfl⟩:=List.mem_map.1 hw;exact S.pb p hp)
 have l2:=cm2_len (trK (kindsOf r)) ra l A ([],(cm1 (kindsOf r) l A ra (ps.map (·.1),0)).1,0,0) (B+ra.length) l1
 have l3:=cm1_all (Q:=HQ) (kindsOf r) l A ra (ps.map (·.1),0) S.q (fun w hw=>by obtain ⟨p,hp,rfl⟩:=List.mem_map.1 hw;exact S.qp p hp)
 have l4:=cm2_all (Q:=HQ) (trK (kindsOf r)) ra l (fun x hx=>⟨trK_in L hx,x.i.t.toNat,by have:=L.t x hx;simp only;omega,by have:=L.t x hx;omega⟩) A ([],(cm1 (kindsOf r) l A ra (ps.map (·.1),0)).1,0,0) (by simp) l3
 have l5:=cm1_wl (kindsOf r) l A ra (ps.map (·.1),0)
 have hpv0:PV (kindsOf r) 12 (ps.map (·.1)):=by
  intro i w hw
  rw [List.getElem?_map] at hw
  cases hq:ps[i]? with
  | none=>rw [hq] at hw;cases hw
  | some p=>rw [hq] at hw;obtain rfl:=Option.some.inj hw;exact K.pv i p hq
 have l6:=cm1_pv (kindsOf r) 12 l A ra (ps.map (·.1),0) K.rv (by simp only [List.length_map];exact K.pl) hpv0
 have l7:=cm2_pv (kindsOf r) 12 (trK (kindsOf r)) ra l (fun x hx=>⟨x.i.t.toNat,by have:=L.t x hx;omega⟩) A ([],(cm1 (kindsOf r) l A ra (ps.map (·.1),0)).1,0,0) l6
 have l8:=cm2_rows (trK (kindsOf r)) ra l A ([],(cm1 (kindsOf r) l A ra (ps.map (·.1),0)).1,0,0) hAl
 have l9:=cm2_all (Q:=fun x=>NdIn x.n→VH (kindsOf r) 12 x) (trK (kindsOf r)) ra l (fun x hx _=>vh_row L hg hx) A ([],(cm1 (kindsOf r) l A ra (ps.map (·.1),0)).1,0,0) (by simp) (fun w hw x hx _=>by
  obtain ⟨i,hi,rfl⟩:=List.mem_iff_getElem.1 hw
  exact ((l6 i _ (List.getElem?_eq_getElem hi)).2 x hx).1)
 have l10:=at_nodup hn A hAn (fun a ha=>by have:=hAl a ha;simpa [keysE] using this)
 have hrl:=S.rl
 have hpl:=S.pl
 simp only [List.length_nil,Nat.zero_add,List.length_map] at l2 l5
 unfold cmF at h1 h2
 simp only at h1 h2
 generalize cm1 (kindsOf r) l A ra (ps.map (·.1),0)=s at *
 generalize cm2 (trK (kindsOf r)) ra l A ([],s.1,0,0)=u at *
 have hlv:¬ live (u.1::u.2.1) > 65536:=by
  have:=cntL_le (B+12) (u.1::u.2.1) (by
   intro w hw
   rcases List.mem_cons.1 hw with rfl | q
   · omega
   · have:=l2.2.1 w q;omega)
  have hlen:(u.1::u.2.1).length=4:=by simp;omega
  rw [hlen] at this
  unfold live
  split <;> omega
 rw [if_neg hlv] at h2
 refine ⟨u.1,ea',ps',pe',_,⟨by omega,?_,?_,l4.1,?_⟩,⟨by omega,fun x hx=>l9.1 x hx (l4.1 x hx).1,by rw [l8];simpa using l10,?_,?_⟩,h2⟩
 · have:=congrArg List.length h1;simp at this;omega
 · intro p hp
   have:=l2.2.1 p.1 (by rw [← h1];exact List.mem_map.2 ⟨p,hp,rfl⟩);omega
 · intro p hp
   exact l4.2 p.1 (by rw [← h1];exact List.mem_map.2 ⟨p,hp,rfl⟩)
 · have:=congrArg List.length h1;simp at this;omega
 · intro i p hp
   exact l7 i p.1 (by rw [← h1,List.getElem?_map,hp];rfl)
theorem of_loop2 (H:HasQh C) {r:Int} {R1 R2:List En} (L1:LG r R1) (L2:LG r R2) (G1:∀ x ∈ R1,GoodE (kindsOf r) x) (G2:∀ x ∈ R2,GoodE (kindsOf r) x) (N1:(keysE R1).Nodup) (N2:(keysE R2).Nodup) (g1 g2:Bool) (q1 q2:List Q4) (e1 e2:Bool) (z1 z2:List Int) (f1 f2:Bool) (w:List (Int × Int)) (we:Bool) (hw:∀ p ∈ w,0≤p.1∧∃ x:Nat,p.2=x∧x≤65535):∀ m i,m+i=min w.length 8 →
 ∀ (ra:List Hd) (ea:Bool) (ps:List Pl) (pe:Bool),StOk (12 * i) ra ps→CkS (kindsOf r) 12 ra ps→∃ (ra':List Hd) (ea':Bool) (ps':List Pl) (pe':Bool),StOk 96 ra' ps'∧CkS (kindsOf r) 12 ra' ps' ∧
 w283_K0 C ⟨ofE i,ofH (cCf 100 1 1 (kindsOf r) true 12 65536 0) R1 R2 g1 g2 [.ro 4 (q1.map eQ) e1,.ro 1 (z1.map eU8) f1,.int .u8 r,.ro 4 (q2.map eQ) e2,.ro 1 (z2.map eU8) f2,.int .u8 r,.ro 2 (w.map eW) we] w we ra ea ps pe,7⟩ =
  some (.tup [.agg (cCf 100 1 1 (kindsOf r) true 12 65536 0),aSt ra' ea' ps' pe',.agg [.ro 6 (R1.map eEn) g1,.ro 6 (R2.map eEn) g2]]):=by
 intro m
 induction m with
 | zero =>
  intro i hi ra ea ps pe S K
  refine ⟨ra,ea,ps,pe,⟨S.rl,S.pl,fun p hp=>by have:=S.pb p hp;omega,S.q,S.qp⟩,K,?_⟩
  generalize kindsOf r=ks at *
  simp only [w283_K0];rw [ck_unf w283_B0.eq_1]
  by_cases c:(i:Int) < w.length
  · have c2:¬ (i:Int) < 8:=by omega
    simp (disch:=omega) [ck_unf w283_c0.eq_1,c,c2]
  · simp (disch:=omega) [ck_unf w283_c0.eq_1,c]
 | succ m ih =>
  intro i hi ra ea ps pe S K
  have c1:i < w.length:=by omega
  have c2:(i:Int) < 8:=by omega
  have c3:(i:Int) < w.length:=by omega
  obtain ⟨hx0,x,hx,hx2⟩:=hw _ (List.getElem_mem c1)
  by_cases c:(w[i].1).tmod 2=0
  · have hb:=bits_ok H.toHasQo x R1.length hx2 (by have:=L1.hl;omega)
    have hbl:=bitF_len x (min R1.length 16) 0
    obtain ⟨ra1,ea1,ps1,pe1,cc,S1,K1,hs⟩:=hstep2_ok H L1 G1 N1 g1 (by omega) S K ea pe (bitF x 0 (min R1.length 16)) false (by have:=L1.hl;omega) (fun a ha=>by have:=bitF_in x _ 0 a ha;omega) (bitF_nd x _ 0)
    obtain ⟨ra2,ea2,ps2,pe2,S2,K2,h2⟩:=ih (i+1) (by omega) ra1 ea1 ps1 pe1 ⟨S1.rl,S1.pl,fun p hp=>by have:=S1.pb p hp;omega,S1.q,S1.qp⟩ K1
    refine ⟨ra2,ea2,ps2,pe2,S2,K2,?_⟩
    generalize kindsOf r=ks at *
    generalize bitF x 0 (min R1.length 16)=Z at *
    simp only [w283_K0] at h2 ⊢;rw [ck_unf w283_B0.eq_1]
    simp [ofE,ofH] at h2
    simp (disch:=omega) [ofE,ofH,c1,c2,c3,c,hx,hb,hs,h2,wI64,H.toHasEq.inl,inlB,H.toHasEq.pp,ppB]
  · have c':(w[i].1).tmod 2=1:=by have:=Int.tmod_eq_emod_of_nonneg (b:=2) hx0;omega
    have hb:=bits_ok H.toHasQo x R2.length hx2 (by have:=L2.hl;omega)
    have hbl:=bitF_len x (min R2.length 16) 0
    obtain ⟨ra1,ea1,ps1,pe1,cc,S1,K1,hs⟩:=hstep2_ok H L2 G2 N2 g2 (by omega) S K ea pe (bitF x 0 (min R2.length 16)) false (by have:=L2.hl;omega) (fun a ha=>by have:=bitF_in x _ 0 a ha;omega) (bitF_nd x _ 0)
    obtain ⟨ra2,ea2,ps2,pe2,S2,K2,h2⟩:=ih (i+1) (by omega) ra1 ea1 ps1 pe1 ⟨S1.rl,S1.pl,fun p hp=>by have:=S1.pb p hp;omega,S1.q,S1.qp⟩ K1
    refine ⟨ra2,ea2,ps2,pe2,S2,K2,?_⟩
    generalize kindsOf r=ks at *
    generalize bitF x 0 (min R2.length 16)=Z at *
    simp only [w283_K0] at h2 ⊢;rw [ck_unf w283_B0.eq_1]
    simp [ofE,ofH] at h2
    simp (disch:=omega) [ofE,ofH,c1,c2,c3,c',hx,hb,hs,h2,wI64,H.toHasEq.inl,inlB,H.toHasEq.pp,ppB]
theorem of_ok2 (H:HasQh C) (hone:∀ q:Q4,QIn q→∃ i:It,FnW C 422 [.agg (eQ q)]=some (eIt i)∧Good i) (q1 q2:List Q4) (e1 e2:Bool) (hq1:∀ x ∈ q1,QIn x) (hq2:∀ x ∈ q2,QIn x) (z1 z2:List Int) (f1 f2:Bool) (hz1:∀ s ∈ z1,0≤s∧s≤255) (hz2:∀ s ∈ z2,0≤s∧s≤255)
 (hl1:z1.length < 9223372036854775808) (hl2:z2.length < 9223372036854775808) (r r2:Int) (hr:0≤r∧r≤255) (w:List (Int × Int)) (we:Bool) (hw:∀ p ∈ w,0≤p.1∧∃ x:Nat,p.2=x∧x≤65535) :
 ∃ (R1 R2:List En) (g1 g2:Bool) (ra:List Hd) (ea:Bool) (ps:List Pl) (pe:Bool),LG r R1∧LG r R2∧StOk 96 ra ps∧CkS (kindsOf r) 12 ra ps∧FnW C 283 [.agg [.ro 4 (q1.map eQ) e1,.ro 1 (z1.map eU8) f1,.int .u8 r,.ro 4 (q2.map eQ) e2,.ro 1 (z2.map eU8) f2,.int .u8 r2,.ro 2 (w.map eW) we]] =
  some (.tup [.agg (cCf 100 1 1 (kindsOf r) true 12 65536 0),aSt ra ea ps pe,.agg [.ro 6 (R1.map eEn) g1,.ro 6 (R2.map eEn) g2]]):=by
 obtain ⟨R1,g1,h1,a1,a2,a3⟩:=lof_ok H.toHasG hone q1 e1 hq1 z1 f1 hz1 hl1 r hr
 obtain ⟨R2,g2,h2,b1,b2,b3⟩:=lof_ok H.toHasG hone q2 e2 hq2 z2 f2 hz2 hl2 r hr
 have L1:=LG.of_good hr a1 a2 a3
 have L2:=LG.of_good hr b1 b2 b3
 have hp16:∀ i:Nat,i < 3→0≤plAt (kindsOf r) i:=by
  intro i hi
  have h6:i=0∨i=1∨i=2:=by omega
  rcases h6 with rfl | rfl | rfl
  · show (0:Int)≤r % 4;omega
  · show (0:Int)≤r / 4 % 3;omega
  · show (0:Int)≤r / 8 % 3;omega
 have hk0:CkS (kindsOf r) 12 [] [([],true),([],true),([],true)]:=⟨by simp,by simp,by simp,rfl,fun i p hp=>by
  have hi:i < 3:=(List.getElem?_eq_some_iff.1 hp).1
  have h6:i=0∨i=1∨i=2:=by omega
  rcases h6 with rfl | rfl | rfl <;> (obtain rfl:=Option.some.inj hp;exact ⟨by simpa using hp16 _ hi,by simp⟩)⟩
 have h3:FnW C 296 [.agg (cCf 100 1 1 (kindsOf r) true 12 65536 0)]=some (aSt [] true [([],true),([],true),([],true)] false):=rempty_ok H 100 1 1 _ _ _ true 12 65536 0
 obtain ⟨ra,ea,ps,pe,S,K,h4⟩:=of_loop2 H L1 L2 a2 b2 a3 b3 g1 g2 q1 q2 e1 e2 z1 z2 f1 f2 w we hw (min w.length 8) 0 rfl [] true [([],true),([],true),([],true)] false ⟨by simp,rfl,by simp,by simp,by simp⟩ hk0
 refine ⟨R1,R2,g1,g2,ra,ea,ps,pe,L1,L2,S,K,?_⟩
 rw [fnW_eq H.f283 rfl]
 generalize kindsOf r=ks at *
 simp only [w283_K0] at h4
 simp [ofE,ofH] at h4
 simp [w283,H.toHasEq.inl,inlB,H.toHasEq.pp,ppB,h1,h2,h3,h4]
end Go.D
end
section
namespace Go.D
open Go Go.Pav Go.Pw P
set_option maxHeartbeats 2000000
attribute [-simp] List.getElem_cons_drop
def hz (h:Hd):Int × Int × Nd:=(h.k,h.t,h.n.z)
theorem hz_kep (h:Hd):hz (kepH h)=hz h:=by simp [hz,kepH,kepN_z]
theorem hz_keps (l:List Hd):(l.map kepH).map hz=l.map hz:=by rw [List.map_map];exact List.map_congr_left fun h _=>hz_kep h
theorem sameH_z:∀ a b:List Hd,a.map hz=b.map hz→sameH a b=true
 | [],[],_=>rfl
 | x::a,y::b,h=>by
  simp only [List.map_cons,List.cons.injEq,hz,Prod.mk.injEq] at h
  simp [sameH,h.1.1,h.1.2.1,eqN_z _ _ h.1.2.2,sameH_z a b h.2]
 | [],_::_,h=>by simp at h
 | _::_,[],h=>by simp at h
theorem samePs_z:∀ a b:List Pl,(a.map fun p=>p.1.map hz)=(b.map fun p=>p.1.map hz)→samePs a b=true
 | [],[],_=>rfl
 | x::a,y::b,h=>by
  simp only [List.map_cons,List.cons.injEq] at h
  simp [samePs,sameH_z _ _ h.1,samePs_z a b h.2]
 | [],_::_,h=>by simp at h
 | _::_,[],h=>by simp at h
abbrev tms (n:Nat) (ps:List Pl):List Pl:=(ps.map kepP).map (tmP n)
theorem tms_z (n:Nat) (ps:List Pl):((tms n ps).map fun p=>p.1.map hz)=((ps.map (·.1)).map (dN n)).map fun x=>x.map hz:=by
 rw [List.map_map,List.map_map,List.map_map,List.map_map]
 refine List.map_congr_left fun p _=>?_
 simp only [Function.comp,kepP,tmP,dN,hz_keps,List.length_map,List.map_drop]
theorem tms_tms_z (a b:Nat) (ps:List Pl):((tms b (tms a ps)).map fun p=>p.1.map hz)=((ps.map (·.1)).map (dN (min a b))).map fun x=>x.map hz:=by
 rw [tms_z,List.map_map,List.map_map,List.map_map,List.map_map,List.map_map,List.map_map]
 refine List.map_congr_left fun p _=>?_
 simp only [Function.comp,kepP,tmP,dN,List.length_map,List.length_drop,List.map_drop,hz_keps,List.drop_drop]
 congr 1
 omega
theorem tmD_tms (a:Nat):∀ ps:List Pl,tmD 0 (tms a ps)+tmD a ps=tmD 0 ps
 | []=>rfl
 | p::r=>by
  have:=tmD_tms a r
  simp only [tms,List.map_cons,tmD,kepP,tmP,List.length_map,List.length_drop] at this ⊢
  omega
theorem tmD_two (a b:Nat):∀ ps:List Pl,tmD a ps+tmD b (tms a ps)=tmD (min a b) ps
 | []=>rfl
 | p::r=>by
  have:=tmD_two a b r
  simp only [tms,List.map_cons,tmD,kepP,tmP,List.length_map,List.length_drop] at this ⊢
  omega
theorem vh_kep {ks:List Kd} {cap:Int} {h:Hd} (V:VH ks cap h):VH ks cap (kepH h):=by
 refine ⟨V.k,V.t,by simpa only [kepH,cnt_kep] using V.c,?_⟩
 have:=V.n
 simp only [kepH]
 rw [kepN_eq]
 exact this
theorem cks_tms {ks:List Kd} {cap:Int} {ra:List Hd} {ps:List Pl} (S:CkS ks cap ra ps) (n:Nat):CkS ks cap (ra.map kepH) (tms n ps):=by
 refine ⟨by simpa using S.rl,fun h hh=>?_,?_,by simpa using S.pl,fun i p hp=>?_⟩
 · obtain ⟨g,hg,rfl⟩:=List.mem_map.1 hh
   exact vh_kep (S.rv g hg)
 · rw [List.map_map]
   exact S.rn
 · rw [tms,List.getElem?_map,List.getElem?_map] at hp
   cases hq:ps[i]? with
   | none=>rw [hq] at hp;cases hp
   | some q =>
    rw [hq] at hp
    obtain rfl:=Option.some.inj hp
    obtain ⟨h1,h2⟩:=S.pv i q hq
    refine ⟨by simp only [kepP,tmP,List.length_map,List.length_drop];omega,fun h hh=>?_⟩
    simp only [kepP,tmP,List.mem_map] at hh
    obtain ⟨g,hg,rfl⟩:=hh
    have hg2:=List.mem_of_mem_drop hg
    obtain ⟨g2,hg3,rfl⟩:=List.mem_map.1 hg2
    exact ⟨vh_kep (vh_kep (h2 g2 hg3).1),(h2 g2 hg3).2⟩
theorem tms_len {B n:Nat} {ps:List Pl} (h:∀ p ∈ ps,p.1.length≤B):∀ p ∈ tms n ps,p.1.length≤B:=by
 intro p hp
 simp only [tms,List.map_map,List.mem_map,Function.comp] at hp
 obtain ⟨q,hq,rfl⟩:=hp
 have:=h q hq
 simp only [kepP,tmP,List.length_map,List.length_drop];omega
theorem cks_hdin {ks:List Kd} {cap:Int} {ra:List Hd} {ps:List Pl} (S:CkS ks cap ra ps) (h:∀ p ∈ ps,p.1.length≤1000000):HdIn ra∧(∀ p ∈ ps,HdIn p.1)∧(∀ x ∈ ra,cnt x.n≠0)∧∀ p ∈ ps,p.1.length≤1000000∧∀ x ∈ p.1,cnt x.n≠0:=by
 have hp:∀ p ∈ ps,∀ x ∈ p.1,cnt x.n≠0:=fun p hp x hx=>by
  obtain ⟨i,hi,rfl⟩:=List.mem_iff_getElem.1 hp
  exact ((S.pv i _ (List.getElem?_eq_getElem hi)).2 x hx).1.c.1
 have hr:∀ x ∈ ra,cnt x.n≠0:=fun x hx=>(S.rv x hx).c.1
 exact ⟨⟨by have:=S.rl;omega,fun x hx=>ndin_v (ndv_of (hr x hx))⟩,fun p hq=>⟨h p hq,fun x hx=>ndin_v (ndv_of (hp p hq x hx))⟩,hr,fun p hq=>⟨h p hq,hp p hq⟩⟩
end Go.D
end
section
namespace Go.D
open Go Go.Pav Go.Pw P
attribute [-simp] List.getElem_cons_drop
variable {C:WProg}
structure HasQy (C:WProg):Prop extends HasQx C where
 f142:C.fns.get 142=some w142
theorem pl_ok (r:Int):∀ k ∈ kindsOf r,plOk k:=by
 intro k hk
 simp only [kindsOf,List.mem_cons,List.not_mem_nil,or_false] at hk
 rcases hk with rfl | rfl | rfl <;> (unfold plOk;simp only;omega)
theorem htlaw_ok (H:HasQy C) (hl:FnW C 145 []=some (.bool true)) (q1 q2:List Q4) (e1 e2:Bool) (z1 z2:List Int) (f1 f2:Bool) (r r2:Int) (hr:0≤r∧r≤255) (w:List (Int × Int)) (we:Bool) (a b:Int)
 {ra:List Hd} {ea:Bool} {ps:List Pl} {pe:Bool} (S:StOk 96 ra ps) (K:CkS (kindsOf r) 12 ra ps) (R1 R2:List En) (g1 g2:Bool)
 (ha:FnW C 283 [.agg [.ro 4 (q1.map eQ) e1,.ro 1 (z1.map eU8) f1,.int .u8 r,.ro 4 (q2.map eQ) e2,.ro 1 (z2.map eU8) f2,.int .u8 r2,.ro 2 (w.map eW) we]]=some (.tup [.agg (cCf 100 1 1 (kindsOf r) true 12 65536 0),aSt ra ea ps pe,.agg [.ro 6 (R1.map eEn) g1,.ro 6 (R2.map eEn) g2]])) :
 FnW C 142 [.agg [.ro 4 (q1.map eQ) e1,.ro 1 (z1.map eU8) f1,.int .u8 r,.ro 4 (q2.map eQ) e2,.ro 1 (z2.map eU8) f2,.int .u8 r2,.ro 2 (w.map eW) we],.agg [.int .i64 a,.int .i64 b]]=some (.bool true):=by
 have hk3:(kindsOf r).length=3:=rfl
 have hF:=hfits_ok H.toHasQk 100 1 1 (kindsOf r) true 12 65536 0 (ru_in r) (ru_ok r hr) (by omega) (pl_ok r) (by omega)
 have hC1:=hcheck_ok 100 1 1 (kindsOf r) true 12 65536 0 H.toHasQk hF (by omega) (pl_ok r) ra ea ps pe K
 obtain ⟨i1,i2,i3,i4⟩:=cks_hdin K (fun p hp=>by have:=S.pb p hp;omega)
 have hrl:=S.rl
 have hpl:=S.pl
 have hpo:=pl_ok r
 generalize kindsOf r=ks at *
 by_cases ca:a < 0∨16 < a
 · have t1:=htrim_bad H.toHasQu 100 1 1 ks true 12 65536 0 ra ea ps pe hC1 a ca
   have t2:=rhsame_ok H.toHasQo [] [] true true [] [] true true ⟨by simp,by simp⟩ (by simp) (by simp)
   have t3:(sameH [] []&&samePs [] [])=true:=rfl
   rw [if_pos t3] at t2
   simp only [aSt,List.map_nil] at t1 t2
   rw [fnW_eq H.f142 rfl]
   by_cases c1:a < 0
   · simp [w142,H.toHasEq.inl,inlB,H.toHasEq.pp,ppB,ha,t1,t2,hl,c1]
   · have c2:16 < a:=by omega
     simp [w142,H.toHasEq.inl,inlB,H.toHasEq.pp,ppB,ha,t1,t2,hl,c1,c2]
 · obtain ⟨n,rfl⟩:∃ n:Nat,a=n:=⟨a.toNat,by omega⟩
   have hn:n≤16:=by omega
   have c1:¬ (n:Int) < 0:=by omega
   have c2:¬ 16 < (n:Int):=by omega
   have t1:=htrim_ok H.toHasQu 100 1 1 ks true 12 65536 0 ra ea ps pe hC1 n hn (by omega) i3 (by omega) i4
   change FnW C 290 _=some (.tup [aSt (ra.map kepH) true (tms n ps) true,_,_]) at t1
   obtain ⟨eo,ps',pe',u1,t2⟩:=rhtrim_ok H.toHasQv ra ea ps pe n hn (by omega) (by omega) (by omega) (fun p hp=>(i4 p hp).1)
   have K1:=cks_tms K n
   have B1:=tms_len (n:=n) S.pb
   obtain ⟨j1,j2,j3,j4⟩:=cks_hdin K1 (fun p hp=>by have:=B1 p hp;omega)
   have hl1:(tms n ps).length=3:=by simpa using hpl
   have hq1:(sameH (ra.map kepH) ra&&samePs (tms n ps) ps')=true:=by
    rw [sameH_z _ _ (hz_keps ra),samePs_z _ _ (by rw [tms_z,← u1,List.map_map];rfl)];rfl
   have t3:=rhsame_ok H.toHasQo (ra.map kepH) ra true eo (tms n ps) ps' true pe' j1 (by omega) j2
   rw [if_pos hq1] at t3
   have t4:=lexact_ok H.toHasQx (ra.map kepH) (tms n ps) (by omega) (fun p hp=>by
    simp only [tms,List.map_map,List.mem_map,Function.comp] at hp
    obtain ⟨q,_,rfl⟩:=hp
    rfl)
   have t5:=hcheck_ok 100 1 1 ks true 12 65536 0 H.toHasQk hF (by omega) hpo (ra.map kepH) true (tms n ps) true K1
   have t6:=pooled_ok H.toHasQx (ra.map kepH) true (tms n ps) true (by omega) (fun p hp=>(j4 p hp).1)
   have t7:=pooled_ok H.toHasQx ra ea ps pe (by omega) (fun p hp=>(i4 p hp).1)
   have hsum:=tmD_tms n ps
   have hb1:=tmD_le n 96 ps S.pb
   have hb2:=tmD_le 0 96 (tms n ps) B1
   have hb3:=tmD_le 0 96 ps S.pb
   by_cases cb:b < 0∨16 < b
   · generalize tms n ps=T1 at *
     generalize ra.map kepH=rk at *
     generalize tmD n ps=D at *
     generalize tmD 0 T1=D2 at *
     generalize tmD 0 ps=D3 at *
     have hs:(D2:Int)+D=D3:=by omega
     rw [fnW_eq H.f142 rfl]
     by_cases d1:b < 0
     · simp (disch:=omega) [w142,H.toHasEq.inl,inlB,H.toHasEq.pp,ppB,ha,t1,t2,t3,t4,t5,t6,t7,hl,c1,c2,d1,wI64,hs]
     · have d2:16 < b:=by omega
       simp (disch:=omega) [w142,H.toHasEq.inl,inlB,H.toHasEq.pp,ppB,ha,t1,t2,t3,t4,t5,t6,t7,hl,c1,c2,d1,d2,wI64,hs]
   · obtain ⟨m,rfl⟩:∃ m:Nat,b=m:=⟨b.toNat,by omega⟩
     have hm:m≤16:=by omega
     have d1:¬ (m:Int) < 0:=by omega
     have d2:¬ 16 < (m:Int):=by omega
     have v1:=htrim_ok H.toHasQu 100 1 1 ks true 12 65536 0 (ra.map kepH) true (tms n ps) true t5 m hm (by simp;omega) j3 (by omega) j4
     obtain ⟨eo2,ps2,pe2,u2,v2⟩:=rhtrim_ok H.toHasQv ra ea ps pe (min n m) (by omega) (by omega) (by omega) (by omega) (fun p hp=>(i4 p hp).1)
     have K2:=cks_tms K1 m
     have B2:=tms_len (n:=m) B1
     obtain ⟨k1,k2,_,_⟩:=cks_hdin K2 (fun p hp=>by have:=B2 p hp;omega)
     have hl2:(tms m (tms n ps)).length=3:=by simpa using hpl
     have hq2:(sameH ((ra.map kepH).map kepH) ra&&samePs (tms m (tms n ps)) ps2)=true:=by
      rw [sameH_z _ _ (by rw [hz_keps,hz_keps]),samePs_z _ _ (by rw [tms_tms_z,← u2,List.map_map];rfl)];rfl
     have v3:=rhsame_ok H.toHasQo ((ra.map kepH).map kepH) ra true eo2 (tms m (tms n ps)) ps2 true pe2 k1 (by omega) k2
     rw [if_pos hq2] at v3
     have hsum2:=tmD_two n m ps
     have hb4:=tmD_le m 96 (tms n ps) B1
     have hmn:imin (n:Int) (m:Int)=((min n m:Nat):Int):=by
      by_cases q:n≤m
      · rw [imin_l (by omega),Nat.min_eq_left q]
      · rw [imin_r (by omega),Nat.min_eq_right (by omega)]
     generalize min n m=mi at *
     change FnW C 290 _=some (.tup [aSt ((ra.map kepH).map kepH) true (tms m (tms n ps)) true,_,_]) at v1
     generalize tms m (tms n ps)=T2 at *
     generalize tmD m (tms n ps)=D5 at *
     generalize tms n ps=T1 at *
     generalize (ra.map kepH).map kepH=rkk at *
     generalize ra.map kepH=rk at *
     generalize tmD n ps=D at *
     generalize tmD 0 T1=D2 at *
     generalize tmD 0 ps=D3 at *
     generalize tmD mi ps=D4 at *
     have hs:(D2:Int)+D=D3:=by omega
     have hs2:(D:Int)+D5=D4:=by omega
     rw [fnW_eq H.f142 rfl]
     simp (disch:=omega) [w142,H.toHasEq.inl,inlB,H.toHasEq.pp,ppB,ha,t1,t2,t3,t4,t5,t6,t7,v1,v2,v3,hl,c1,c2,d1,d2,hmn,wI64,hs,hs2]
end Go.D
end
