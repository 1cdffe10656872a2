/- Part of the theory that the claims of this work use: Q14, Q15, Q16, Q17, Q18, Q19, Q20, Q21, Q22, Q23, Q24, Q25, Q26, Q27, Q28, Q29, Q30, Q31, Q32, Q33, Q34, Q35, Q36, Q37. No conditions of its own. -/
import Derived.Test.YtfkdbfgdncamdaaGreatT7
set_option linter.unusedVariables false
set_option linter.unusedSimpArgs false
set_option maxHeartbeats 4000000
set_option maxRecDepth 10000
section
namespace Go.D
open Go Go.Pav Go.Pw P
attribute [-simp] List.getElem_cons_drop
variable {C:WProg}
structure HasQe (C:WProg):Prop extends HasQt C
def kepP (p:Pl):Pl:=(p.1.map kepH,true)
structure HasQk (C:WProg):Prop extends HasQe C where
 f277:C.fns.get 277=some w277
 f278:C.fns.get 278=some w278
 f279:C.fns.get 279=some w279
 f427:C.fns.get 427=some w427
 f428:C.fns.get 428=some w428
 f429:C.fns.get 429=some w429
 f430:C.fns.get 430=some w430
 f514:C.fns.get 514=some w514
def plOk (k:Kd):Prop:=0≤k.pl∧k.pl≤16
theorem pbad_ok (H:HasQk C) (k:Kd) (h:plOk k):FnW C 427 [.agg (eKd k)]=some (.bool false):=by
 have h1:¬ k.pl < 0:=by have:=h.1;omega
 have h2:¬ 16 < k.pl:=by have:=h.2;omega
 rw [fnW_eq H.f427 rfl]
 simp [w427,h1,h2]
theorem pidx_loop (H:HasQk C) (ks:List Kd) (e:Bool) (hl:ks.length≤1000000) (hp:∀ k ∈ ks,plOk k):∀ n i,n+i=ks.length →
 w405_K0 C ⟨[(8,.int .i64 i),(7,.int .i64 ks.length),(1,.fn 427 []),(0,.ro 9 (ks.map eKd) e)],[],0⟩=some (.int .i64 (-1)):=by
 intro n
 induction n with
 | zero =>
  intro i hi
  have h3:¬ i < ks.length:=by omega
  simp only [w405_K0];rw [ck_unf w405_B0.eq_1]
  simp (disch:=omega) [ck_unf w405_c0.eq_1,h3]
 | succ n ih =>
  intro i hi
  have h1:i < ks.length:=by omega
  have hb:=pbad_ok H ks[i] (hp _ (List.getElem_mem h1))
  simp only [eKd] at hb
  have hv:=ih (i+1) (by omega)
  simp only [w405_K0] at hv ⊢;rw [ck_unf w405_B0.eq_1]
  simp at hv
  simp (disch:=omega) [h1,wI64,hb,H.toHasEq.inl,inlB,H.toHasEq.pp,ppB,hv]
theorem pcont_ok (H:HasQk C) (ks:List Kd) (e:Bool) (hl:ks.length≤1000000) (hp:∀ k ∈ ks,plOk k):FnW C 232 [.ro 9 (ks.map eKd) e,.fn 427 []]=some (.bool false):=by
 have h:=pidx_loop H ks e hl hp ks.length 0 (by simp)
 simp only [w405_K0] at h
 simp at h
 have h2:FnW C 405 [.ro 9 (ks.map eKd) e,.fn 427 []]=some (.int .i64 (-1)):=by
  rw [fnW_eq H.f405 rfl]
  simp [w405,h]
 rw [fnW_eq H.f232 rfl]
 simp [w232,H.toHasEq.inl,inlB,H.toHasEq.pp,ppB,h2]
theorem hrules_ok (H:HasQk C) (vw ov ls:Int) (ks:List Kd) (ke:Bool) (cap ar fl:Int):FnW C 279 [.agg (cCf vw ov ls ks ke cap ar fl)]=some (aR ks ke cap):=by
 rw [fnW_eq H.f279 rfl]
 simp [w279,H.toHasEq.inl,inlB,H.toHasEq.pp,ppB]
theorem hfits_ok (H:HasQk C) (vw ov ls:Int) (ks:List Kd) (ke:Bool) (cap ar fl:Int) (hr:RuIn ks) (hk:ruOk ks cap=true) (hl:ks.length≤1000) (hp:∀ k ∈ ks,plOk k) (ha:1≤ar∧ar≤65536):FnW C 277 [.agg (cCf vw ov ls ks ke cap ar fl)]=some (.int .i64 0):=by
 have h1:=hrules_ok H vw ov ls ks ke cap ar fl
 have h2:=valid_ok H.toHasK ks ke cap hr
 have h3:=pcont_ok H ks ke (by omega) hp
 rw [if_pos hk] at h2
 have a1:¬ ar < 1:=by omega
 have a2:¬ 65536 < ar:=by omega
 rw [fnW_eq H.f277 rfl]
 simp [w277,H.toHasEq.inl,inlB,H.toHasEq.pp,ppB,h1,h2,h3,a1,a2]
structure VH (ks:List Kd) (cap:Int) (h:Hd):Prop where
 k:h.k≠0
 t:∃ t:Nat,h.t=t∧t < ks.length
 c:cnt h.n≠0∧(cnt h.n:Int)≤cap
 n:h.n.k=(kdAt ks h.t).p.k∧h.n.t=(kdAt ks h.t).p.t
theorem hvalid_ok (H:HasQk C) (vw ov ls:Int) (ks:List Kd) (ke:Bool) (cap ar fl:Int) (h:Hd) (V:VH ks cap h) (hl:ks.length≤255):FnW C 428 [.agg (cCf vw ov ls ks ke cap ar fl),.agg (eHd h)]=some (.bool true):=by
 have h1:=check_ok H.toHasR.toHasM h.n
 have h2:=count_ok H.toHasR.toHasM h.n
 have hv:=V.k
 obtain ⟨t,ht,htl⟩:=V.t
 rw [if_neg V.c.1] at h1
 have hc:¬ cap < (cnt h.n:Int):=by have:=V.c.2;omega
 have hn:=V.n
 rw [ht,kdAt_get htl] at hn
 rw [Nd.c_eq,hn.1,hn.2] at h1 h2
 have c1:¬ (ks.length:Int)≤t:=by omega
 rw [fnW_eq H.f428 rfl]
 unfold eHd
 rw [Nd.c_eq]
 simp (disch:=omega) [w428,H.toHasEq.inl,inlB,H.toHasEq.pp,ppB,wI64,h1,h2,hv,ht,htl,hc,c1,hn.1,hn.2]
end Go.D
end
section
namespace Go.D
open Go Go.Pav Go.Pw P
attribute [-simp] List.getElem_cons_drop
variable {C:WProg}
section
variable (vw ov ls:Int) (ks:List Kd) (ke:Bool) (cap ar fl:Int)
theorem pin_ok (H:HasQk C) (hl:ks.length≤255) (i:Nat) (h:Hd) (V:VH ks cap h) (ht:h.t=i):FnW C 430 [.agg (eHd h),.rop [.int .i64 i],.rop (cCf vw ov ls ks ke cap ar fl)]=some (.bool false):=by
 have h1:=hvalid_ok H vw ov ls ks ke cap ar fl h V hl
 obtain ⟨t,hq,htl⟩:=V.t
 have hti:t=i:=by omega
 subst hti
 rw [fnW_eq H.f430 rfl]
 unfold eHd at h1 ⊢
 rw [Nd.c_eq] at h1 ⊢
 rw [ht] at h1 ⊢
 simp (disch:=omega) [w430,H.toHasEq.inl,inlB,H.toHasEq.pp,ppB,h1,wI64]
theorem pins_loop (H:HasQk C) (hl:ks.length≤255) (i:Nat) (l:List Hd) (e:Bool) (hll:l.length≤1000000) (hv:∀ h ∈ l,VH ks cap h∧h.t=i):∀ n k,n+k=l.length →
 w514_K0 C ⟨[(8,.int .i64 k),(7,.int .i64 l.length),(1,.fn 430 [.rop [.int .i64 i],.rop (cCf vw ov ls ks ke cap ar fl)]),(0,.ro 8 (l.map eHd) e)],[],0⟩=some (.int .i64 (-1)):=by
 intro n
 induction n with
 | zero =>
  intro k hk
  have h3:¬ k < l.length:=by omega
  simp only [w514_K0];rw [ck_unf w514_B0.eq_1]
  simp (disch:=omega) [ck_unf w514_c0.eq_1,h3]
 | succ n ih =>
  intro k hk
  have h1:k < l.length:=by omega
  have hb:=pin_ok vw ov ls ks ke cap ar fl H hl i l[k] (hv _ (List.getElem_mem h1)).1 (hv _ (List.getElem_mem h1)).2
  simp only [eHd] at hb
  have hq:=ih (k+1) (by omega)
  simp only [w514_K0] at hq ⊢;rw [ck_unf w514_B0.eq_1]
  simp at hq
  simp (disch:=omega) [h1,wI64,hb,H.toHasEq.inl,inlB,H.toHasEq.pp,ppB,hq]
theorem pins_ok (H:HasQk C) (hl:ks.length≤255) (i:Nat) (l:List Hd) (e:Bool) (hll:l.length≤1000000) (hv:∀ h ∈ l,VH ks cap h∧h.t=i) :
 FnW C 429 [.ro 8 (l.map eHd) e,.fn 430 [.rop [.int .i64 i],.rop (cCf vw ov ls ks ke cap ar fl)]]=some (.bool false):=by
 have h:=pins_loop vw ov ls ks ke cap ar fl H hl i l e hll hv l.length 0 (by simp)
 simp only [w514_K0] at h
 simp at h
 have h2:FnW C 514 [.ro 8 (l.map eHd) e,.fn 430 [.rop [.int .i64 i],.rop (cCf vw ov ls ks ke cap ar fl)]]=some (.int .i64 (-1)):=by
  rw [fnW_eq H.f514 rfl]
  simp [w514,h]
 rw [fnW_eq H.f429 rfl]
 simp [w429,H.toHasEq.inl,inlB,H.toHasEq.pp,ppB,h2]
structure CkS (ra:List Hd) (ps:List Pl):Prop where
 rl:ra.length≤1024
 rv:∀ h ∈ ra,VH ks cap h
 rn:(ra.map Hd.k).Nodup
 pl:ps.length=ks.length
 pv:∀ (i:Nat) (p:Pl),ps[i]?=some p→(p.1.length:Int)≤plAt ks i∧∀ h ∈ p.1,VH ks cap h∧h.t=i
theorem hpools_loop (H:HasQk C) (hl:ks.length≤255) (hpm:∀ k ∈ ks,plOk k) (ra:List Hd) (ps:List Pl) (pe:Bool) (S:CkS ks cap ra ps):∀ n i,n+i=ps.length →
 w278_K0 C ⟨[(54,.int .i64 i),(53,.int .i64 ps.length),(52,.ro 1 (ps.map ePl) pe),(2,.ptr 0 0 0)],[(0,.cells 7 [cCf vw ov ls ks ke cap ar fl] true true)],1⟩=some (.int .i64 0):=by
 intro n
 induction n with
 | zero =>
  intro i hi
  have h3:¬ i < ps.length:=by omega
  simp only [w278_K0];rw [ck_unf w278_B0.eq_1]
  simp (disch:=omega) [ck_unf w278_c0.eq_1,h3]
 | succ n ih =>
  intro i hi
  have h1:i < ps.length:=by omega
  have h2:i < ks.length:=by rw [← S.pl];exact h1
  obtain ⟨hc,hv⟩:=S.pv i ps[i] (List.getElem?_eq_getElem h1)
  have hm:=hpm _ (List.getElem_mem h2)
  have hk:=hc
  simp [plAt,h2] at hk
  have hb:=pins_ok vw ov ls ks ke cap ar fl H hl i ps[i].1 ps[i].2 (by have:=hm.2;omega) hv
  have hq:=ih (i+1) (by omega)
  simp only [w278_K0] at hq ⊢;rw [ck_unf w278_B0.eq_1]
  try simp at hb
  simp at hq
  have hk2:¬ ks[i].pl < (ps[i].1.length:Int):=by omega
  simp (disch:=omega) [H.toHasEq.inl,inlB,H.toHasEq.pp,ppB,h1,h2,hk2,hb,wI64,hq]
theorem hrows_loop (H:HasQk C) (hl:ks.length≤255) (ra:List Hd) (ea:Bool) (ps:List Pl) (pe:Bool) (S:CkS ks cap ra ps):∀ n i,n+i=ra.length →
 w278_K1 C ⟨[(33,.int .i64 i),(32,.int .i64 ra.length),(31,.ro 8 (ra.map eHd) ea),(6,.map 0),(3,.ptr 1 0 0),(2,.ptr 2 0 0)],
  [(0,.map (kmap ((ra.take i).map Hd.k))),(1,.cells 2 [[.ro 8 (ra.map eHd) ea,.ro 1 (ps.map ePl) pe]] true true),(2,.cells 7 [cCf vw ov ls ks ke cap ar fl] true true)],3⟩ =
  CK C 0 (pureFin [.tmp 4]) [] w278_c1 ⟨[(3,.ptr 0 0 0),(2,.ptr 1 0 0)],[(0,.cells 2 [[.ro 8 (ra.map eHd) ea,.ro 1 (ps.map ePl) pe]] true true),(1,.cells 7 [cCf vw ov ls ks ke cap ar fl] true true)],2⟩:=by
 intro n
 induction n with
 | zero =>
  intro i hi
  have h3:¬ i < ra.length:=by omega
  simp only [w278_K1];rw [ck_unf w278_B1.eq_1]
  simp (disch:=omega) [h3]
 | succ n ih =>
  intro i hi
  have h1:i < ra.length:=by omega
  have hrl:=S.rl
  have hv:=hvalid_ok H vw ov ls ks ke cap ar fl ra[i] (S.rv _ (List.getElem_mem h1)) hl
  have hno:((ra.take i).map Hd.k).contains ra[i].k=false:=by
   have hn:=S.rn
   rw [← List.take_append_drop i ra,List.map_append,List.nodup_append] at hn
   cases q:((ra.take i).map Hd.k).contains ra[i].k
   · rfl
   · have q1:=List.contains_iff_mem.1 q
     have q2:ra[i].k ∈ (ra.drop i).map Hd.k:=by rw [drop_cons h1];simp
     exact absurd rfl (hn.2.2 _ q1 _ q2)
  have hg:=kmap_get ra[i].k ((ra.take i).map Hd.k)
  have hp:=kmap_put ra[i].k ((ra.take i).map Hd.k) hno
  rw [hno] at hg
  have hq:=ih (i+1) (by omega)
  have ht:(ra.take (i+1)).map Hd.k=(ra.take i).map Hd.k++[ra[i].k]:=by rw [List.take_add_one,List.getElem?_eq_getElem h1,List.map_append];rfl
  rw [ht] at hq
  generalize (ra.take i).map Hd.k=K at *
  simp only [w278_K1] at hq ⊢;rw [ck_unf w278_B1.eq_1]
  unfold eHd at hv
  rw [Nd.c_eq] at hv
  simp at hq
  simp (disch:=omega) [H.toHasEq.inl,inlB,H.toHasEq.pp,ppB,h1,hv,hg,hp,wI64,hq,Nd.c_eq]
theorem hcheck_ok (H:HasQk C) (hF:FnW C 277 [.agg (cCf vw ov ls ks ke cap ar fl)]=some (.int .i64 0)) (hl:ks.length≤255) (hpm:∀ k ∈ ks,plOk k) (ra:List Hd) (ea:Bool) (ps:List Pl) (pe:Bool) (S:CkS ks cap ra ps) :
 FnW C 278 [.agg (cCf vw ov ls ks ke cap ar fl),aSt ra ea ps pe]=some (.int .i64 0):=by
 have h1:¬ 1024 < (ra.length:Int):=by have:=S.rl;omega
 have h2:=hrows_loop vw ov ls ks ke cap ar fl H hl ra ea ps pe S ra.length 0 (by simp)
 have h3:=hpools_loop vw ov ls ks ke cap ar fl H hl hpm ra ps pe S ps.length 0 (by simp)
 have hpl:=S.pl
 simp only [w278_K1,List.take_zero,List.map_nil,kmap_nil] at h2
 simp only [w278_K0] at h3
 rw [fnW_eq H.f278 rfl]
 rw [ck_unf w278_c1.eq_1] at h2
 simp at h2 h3
 simp [w278,H.toHasEq.inl,inlB,H.toHasEq.pp,ppB,hF,h1,hpl,h2]
 rw [hpl] at h3
 simpa using h3
end
end Go.D
end
section
namespace Go.D
open Go Go.Pav Go.Pw P
attribute [-simp] List.getElem_cons_drop
variable {C:WProg}
structure HasQu (C:WProg):Prop extends HasQk C
theorem cnt_kep (n:Nd):cnt (kepN n)=cnt n:=by rw [← cnt_z (kepN n),kepN_z,cnt_z]
end Go.D
end
section
namespace Go.D
open Go Go.Pav Go.Pw P
set_option maxHeartbeats 1000000
attribute [-simp] List.getElem_cons_drop
variable {C:WProg}
structure HasQv (C:WProg):Prop extends HasQu C
def TlH (o:Option WObj) (b:Nat) (v:AV) (d:List Hd):Prop :=
 (d=[]∧v=.sl b 8 0 0 0 true∧o=some (.cells 8 [] true true))∨∃ (es:List Hd) (j:Nat),d=es.drop j∧j≤es.length∧es≠[]∧o=some (.cells 8 (eHs es) true true) ∧
  ((j=es.length∧v=.ro 8 [] false)∨(j < es.length∧v=.sl b 8 j (es.length - j) (es.length - j) false))
theorem TlH.frz {h:WHeap} {b:Nat} {v:AV} {d:List Hd} (q:TlH (Pav.get h b) b v d) (n:Nat):∃ ex,frzW h (n+2) v=some (.ro 8 (eHs d) ex):=by
 rcases q with ⟨rfl,rfl,h2⟩ | ⟨es,j,rfl,hj,h0,h2,⟨rfl,rfl⟩ | ⟨hj2,rfl⟩⟩
 · exact ⟨true,by rw [frzW_sl,h2];simp [Pw.frzS,og]⟩
 · exact ⟨false,by rw [frzW_ro];simp⟩
 · refine ⟨false,?_⟩
   have h5:List.take (es.length - j) (List.drop j (eHs es))=eHs (es.drop j):=by
    rw [List.take_of_length_le (by simp)];simp
   rw [frzW_sl,h2]
   have h6:j+(es.length - j)=es.length:=by omega
   simp [Pw.frzS,og,h5,h6]
structure TmI (RW:AV) (pb q lo k:Nat) (hz:WHeap) (h:WHeap) (next:Nat) (cs:List (List AV)) (W:List (List Hd)) (id:Nat→Nat):Prop where
 R:Nst2 TlH h lo next id cs W
 wl:W.length=k
 gq:Pav.get h q=some (.cells 2 [[RW,.sl pb 1 0 k k false]] true false)
 gp:Pav.get h pb=some (.cells 1 cs true false)
 g1:Pav.get h 1=some (.cells 2 [[.ro 8 [] true,.ro 1 [] true]] true true)
 gz:∀ j,j < lo→Pav.get h j=Pav.get hz j
 ne:1 < lo∧lo≤pb∧lo≤q∧pb≠q∧pb < next∧q < next
 nd:∀ j,j < k→id j≠pb∧id j≠q
theorem TmI.later {RW:AV} {pb q lo k:Nat} {hz h:WHeap} {next next':Nat} {cs:List (List AV)} {W:List (List Hd)} {id:Nat→Nat} (T:TmI RW pb q lo k hz h next cs W id) (hn:next≤next'):TmI RW pb q lo k hz h next' cs W id :=
 ⟨T.R.mono hn (fun _ _=>rfl),T.wl,T.gq,T.gp,T.g1,T.gz,by have:=T.ne;omega,T.nd⟩
end Go.D
end
section
namespace Go.D
open Go Go.Pav Go.Pw P
set_option maxHeartbeats 2000000
attribute [-simp] List.getElem_cons_drop
variable {C:WProg}
structure HasQx (C:WProg):Prop extends HasQv C
end Go.D
end
section
namespace Go.D
open Go Go.Pav Go.Pw P
set_option maxHeartbeats 2000000
attribute [-simp] List.getElem_cons_drop
variable {C:WProg}
def PV (ks:List Kd) (cap:Int) (W:List (List Hd)):Prop:=∀ (i:Nat) (w:List Hd),W[i]?=some w→(w.length:Int)≤plAt ks i∧∀ h ∈ w,VH ks cap h∧h.t=i
theorem rowAt_get {W:List (List Hd)} {t:Nat} (h:t < W.length):rowAt W t=W[t]:=by simp [rowAt,h]
theorem cm1_pv (ks:List Kd) (cap:Int) (l:List En) (A:List Nat):∀ (ra:List Hd) (s:List (List Hd) × Int),(∀ x ∈ ra,VH ks cap x)→s.1.length=ks.length→PV ks cap s.1→PV ks cap (cm1 ks l A ra s).1
 | [],s,_,_,h=>by simpa [cm1] using h
 | a::r,s,h1,hl,h=>by
  simp only [cm1]
  have ha:=h1 a (by simp)
  obtain ⟨t,ht,htl⟩:=ha.t
  split
  · exact cm1_pv ks cap l A r _ (fun x hx=>h1 x (by simp [hx])) hl h
  · split
    · exact cm1_pv ks cap l A r _ (fun x hx=>h1 x (by simp [hx])) hl h
    · rename_i c
      refine cm1_pv ks cap l A r _ (fun x hx=>h1 x (by simp [hx])) (by simpa using hl) ?_
      have htw:t < s.1.length:=by omega
      rw [ht,rowAt_get htw] at c
      obtain ⟨p1,p2⟩:=h t _ (List.getElem?_eq_getElem htw)
      intro i w hw
      simp only [ht] at hw
      rw [show ((t:Int)).toNat=t by omega,rowAt_get htw] at hw
      rw [List.getElem?_set] at hw
      split at hw
      · rename_i q
        subst q
        obtain rfl:=Option.some.inj hw
        refine ⟨by simp;omega,fun x hx=>?_⟩
        rcases List.mem_append.1 hx with q | q
        · exact p2 x q
        · rw [List.mem_singleton] at q;subst q;exact ⟨ha,ht⟩
      · exact h i w hw
theorem cm2_pv (ks:List Kd) (cap:Int) (tr:En→Nd) (ra:List Hd) (l:List En) (hl:∀ e ∈ l,∃ t:Nat,e.i.t=t):∀ (A:List Nat) (s:List Hd × List (List Hd) × Int × Int),PV ks cap s.2.1→PV ks cap (cm2 tr ra l A s).2.1
 | [],s,h=>by simpa [cm2] using h
 | a::r,s,h=>by
  simp only [cm2]
  cases hq:l[a]? with
  | none=>exact cm2_pv ks cap tr ra l hl r s h
  | some e =>
   obtain ⟨t,ht⟩:=hl e (List.mem_of_getElem? hq)
   simp only
   split
   · exact cm2_pv ks cap tr ra l hl r _ h
   · split
     · exact cm2_pv ks cap tr ra l hl r _ h
     · refine cm2_pv ks cap tr ra l hl r _ ?_
       intro i w hw
       simp only [ht] at hw
       rw [show ((t:Int)).toNat=t by omega,List.getElem?_set] at hw
       split at hw
       · rename_i q
         subst q
         split at hw
         · rename_i htw
           obtain rfl:=Option.some.inj hw
           obtain ⟨p1,p2⟩:=h t _ (List.getElem?_eq_getElem htw)
           rw [rowAt_get htw]
           exact ⟨by simp;omega,fun x hx=>p2 x (List.mem_of_mem_take hx)⟩
         · cases hw
       · exact h i w hw
theorem cm2_rows (tr:En→Nd) (ra:List Hd) (l:List En):∀ (A:List Nat) (s:List Hd × List (List Hd) × Int × Int),(∀ a ∈ A,a < l.length)→((cm2 tr ra l A s).1).map Hd.k=s.1.map Hd.k++A.map fun a=>(keysE l)[a]?.getD 0
 | [],s,_=>by simp [cm2]
 | a::r,s,h=>by
  have ha:=h a (by simp)
  have hr:=fun b hb=>h b (List.mem_cons_of_mem a hb)
  simp only [cm2,List.getElem?_eq_getElem ha]
  have hk:(keysE l)[a]?.getD 0=l[a].i.k:=by simp [keysE,ha]
  split
  · rw [cm2_rows tr ra l r _ hr];simp [ha]
  · split
    · rw [cm2_rows tr ra l r _ hr];simp [ha]
    · rw [cm2_rows tr ra l r _ hr];simp [ha]
theorem at_nodup {l:List Int} (h:l.Nodup):∀ (A:List Nat),A.Nodup→(∀ a ∈ A,a < l.length)→(A.map fun a=>l[a]?.getD 0).Nodup
 | [],_,_=>by simp
 | a::r,h1,h2=>by
  obtain ⟨h3,h4⟩:=List.nodup_cons.1 h1
  rw [List.map_cons,List.nodup_cons]
  refine ⟨fun q=>?_,at_nodup h r h4 (fun b hb=>h2 b (by simp [hb]))⟩
  obtain ⟨b,hb,hbe⟩:=List.mem_map.1 q
  have ha:=h2 a (by simp)
  have hb2:=h2 b (by simp [hb])
  simp only [List.getElem?_eq_getElem ha,List.getElem?_eq_getElem hb2,Option.getD_some] at hbe
  have:=(List.getElem_inj h).1 hbe
  subst this
  exact h3 hb
theorem vh_row {r:Int} {l:List En} (L:LG r l) (hg:∀ e ∈ l,GoodE (kindsOf r) e) {e:En} (he:e ∈ l):VH (kindsOf r) 12 ⟨e.i.k,e.i.t,trK (kindsOf r) e⟩:=by
 have h1:=(hg e he).i.k
 have h2:=L.t e he
 have h3:=L.rE e he
 have h4:=cnt_rnd h3
 have hz:cnt (trK (kindsOf r) e)=cnt (rndN (kdAt (kindsOf r) e.i.t).p e.i 12):=by
  unfold trK
  rw [← cnt_z,← rnd_z _ (fits_kd (ru_in r) h2),cnt_z]
 refine ⟨by simp only;omega,⟨e.i.t.toNat,by simp only;omega,by omega⟩,⟨by simp only;rw [hz];exact h4,?_⟩,?_⟩
 · simp only
   rw [hz]
   unfold rndN
   rw [if_pos h3]
   have h5:=h3
   unfold rndE at h5
   rw [if_neg (by omega)] at h5
   split at h5
   · cases h5
   · split at h5
     · cases h5
     · split at h5
       · cases h5
       · rename_i q;omega
 · simp only
   unfold trK rndR
   rw [if_pos h3]
   have hk:(kdAt (kindsOf r) e.i.t).p.k=1:=by
    have hl:(kindsOf r).length=3:=rfl
    obtain ⟨t,ht⟩:∃ t:Nat,e.i.t=t:=⟨e.i.t.toNat,by omega⟩
    rw [ht]
    have h6:t=0∨t=1∨t=2:=by omega
    rcases h6 with rfl | rfl | rfl <;> rfl
   generalize (kdAt (kindsOf r) e.i.t).p=p at *
   unfold mdN
   rw [md_eq,hk]
   simp [elemR]
end Go.D
end
section
namespace Go.D
open Go Go.Pav Go.Pw P
attribute [-simp] List.getElem_cons_drop
variable {C:WProg}
theorem hstep2_ok (H:HasQh C) {r:Int} {l:List En} (L:LG r l) (hg:∀ x ∈ l,GoodE (kindsOf r) x) (hn:(keysE l).Nodup) (e:Bool) {B:Nat} (hB:B≤84) {ra:List Hd} {ps:List Pl} (S:StOk B ra ps) (K:CkS (kindsOf r) 12 ra ps) (ea pe:Bool) (A:List Nat) (f:Bool) (hA:A.length≤12) (hAl:∀ a ∈ A,a < l.length) (hAn:A.Nodup) :
 ∃ (ra':List Hd) (ea':Bool) (ps':List Pl) (pe':Bool) (c:AV),StOk (B+12) ra' ps'∧CkS (kindsOf r) 12 ra' ps'∧FnW C 285 [.agg (cCf 100 1 1 (kindsOf r) true 12 65536 0),aSt ra ea ps pe,.ro 6 (l.map eEn) e,.ro 1 (A.map eAt) f]=some (.tup [aSt ra' ea' ps' pe',c,.int .i64 0]):=by
 have hk:(kindsOf r).length=3:=rfl
 obtain ⟨ps',ea',pe',h1,h2⟩:=rcommit_ok H.toHasQm (trK (kindsOf r)) 100 1 1 (kindsOf r) true 12 65536 0 ra ea ps pe l e A f (by omega) hAl (by have:=S.rl;omega) (by rw [S.pl];rfl) (by omega) (by omega)
  (fun p hp=>by have:=S.pb p hp;omega) (fun x hx=>⟨x.i.t.toNat,by have:=L.t x hx;omega,by have:=L.t x hx;omega⟩) (fun x hx=>by rw [hk];exact (S.q x hx).2) (fun a ha=>rtree2_ok H.toHasRo L e a ha)
 have l1:=cm1_len (kindsOf r) l A ra (ps.map (·.1),0) B (fun w hw=>by obtain ⟨p,hp,rfl⟩:=List.mem_map.1 hw;exact S.pb p hp)
 have l2:=cm2_len (trK (kindsOf r)) ra l A ([],(cm1 (kindsOf r) l A ra (ps.map (·.1),0)).1,0,0) (B+ra.length) l1
 have l3:=cm1_all (Q:=HQ) (kindsOf r) l A ra (ps.map (·.1),0) S.q (fun w hw=>by obtain ⟨p,hp,rfl⟩:=List.mem_map.1 hw;exact S.qp p hp)
 have l4:=cm2_all (Q:=HQ) (trK (kindsOf r)) ra l (fun x hx=>⟨trK_in L hx,x.i.t.toNat,by have:=L.t x hx;simp only;omega,by have:=L.t x hx;omega⟩) A ([],(cm1 (kindsOf r) l A ra (ps.map (·.1),0)).1,0,0) (by simp) l3
 have l5:=cm1_wl (kindsOf r) l A ra (ps.map (·.1),0)
 have hpv0:PV (kindsOf r) 12 (ps.map (·.1)):=by
  intro i w hw
  rw [List.getElem?_map] at hw
  cases hq:ps[i]? with
  | none=>rw [hq] at hw;cases hw
  | some p=>rw [hq] at hw;obtain rfl:=Option.some.inj hw;exact K.pv i p hq
 have l6:=cm1_pv (kindsOf r) 12 l A ra (ps.map (·.1),0) K.rv (by simp only [List.length_map];exact K.pl) hpv0
 have l7:=cm2_pv (kindsOf r) 12 (trK (kindsOf r)) ra l (fun x hx=>⟨x.i.t.toNat,by have:=L.t x hx;omega⟩) A ([],(cm1 (kindsOf r) l A ra (ps.map (·.1),0)).1,0,0) l6
 have l8:=cm2_rows (trK (kindsOf r)) ra l A ([],(cm1 (kindsOf r) l A ra (ps.map (·.1),0)).1,0,0) hAl
 have l9:=cm2_all (Q:=fun x=>NdIn x.n→VH (kindsOf r) 12 x) (trK (kindsOf r)) ra l (fun x hx _=>vh_row L hg hx) A ([],(cm1 (kindsOf r) l A ra (ps.map (·.1),0)).1,0,0) (by simp) (fun w hw x hx _=>by
  obtain ⟨i,hi,rfl⟩:=List.mem_iff_getElem.1 hw
  exact ((l6 i _ (List.getElem?_eq_getElem hi)).2 x hx).1)
 have l10:=at_nodup hn A hAn (fun a ha=>by have:=hAl a ha;simpa [keysE] using this)
 have hrl:=S.rl
 have hpl:=S.pl
 simp only [List.length_nil,Nat.zero_add,List.length_map] at l2 l5
 unfold cmF at h1 h2
 simp only at h1 h2
 generalize cm1 (kindsOf r) l A ra (ps.map (·.1),0)=s at *
 generalize cm2 (trK (kindsOf r)) ra l A ([],s.1,0,0)=u at *
 have hlv:¬ live (u.1::u.2.1) > 65536:=by
  have:=cntL_le (B+12) (u.1::u.2.1) (by
   intro w hw
   rcases List.mem_cons.1 hw with rfl | q
   · omega
   · have:=l2.2.1 w q;omega)
  have hlen:(u.1::u.2.1).length=4:=by simp;omega
  rw [hlen] at this
  unfold live
  split <;> omega
 rw [if_neg hlv] at h2
 refine ⟨u.1,ea',ps',pe',_,⟨by omega,?_,?_,l4.1,?_⟩,⟨by omega,fun x hx=>l9.1 x hx (l4.1 x hx).1,by rw [l8];simpa using l10,?_,?_⟩,h2⟩
 · have:=congrArg List.length h1;simp at this;omega
 · intro p hp
   have:=l2.2.1 p.1 (by rw [← h1];exact List.mem_map.2 ⟨p,hp,rfl⟩);omega
 · intro p hp
   exact l4.2 p.1 (by rw [← h1];exact List.mem_map.2 ⟨p,hp,rfl⟩)
 · have:=congrArg List.length h1;simp at this;omega
 · intro i p hp
   exact l7 i p.1 (by rw [← h1,List.getElem?_map,hp];rfl)
theorem of_loop2 (H:HasQh C) {r:Int} {R1 R2:List En} (L1:LG r R1) (L2:LG r R2) (G1:∀ x ∈ R1,GoodE (kindsOf r) x) (G2:∀ x ∈ R2,GoodE (kindsOf r) x) (N1:(keysE R1).Nodup) (N2:(keysE R2).Nodup) (g1 g2:Bool) (q1 q2:List Q4) (e1 e2:Bool) (z1 z2:List Int) (f1 f2:Bool) (w:List (Int × Int)) (we:Bool) (hw:∀ p ∈ w,0≤p.1∧∃ x:Nat,p.2=x∧x≤65535):∀ m i,m+i=min w.length 8 →
 ∀ (ra:List Hd) (ea:Bool) (ps:List Pl) (pe:Bool),StOk (12 * i) ra ps→CkS (kindsOf r) 12 ra ps→∃ (ra':List Hd) (ea':Bool) (ps':List Pl) (pe':Bool),StOk 96 ra' ps'∧CkS (kindsOf r) 12 ra' ps' ∧
 w283_K0 C ⟨ofE i,ofH (cCf 100 1 1 (kindsOf r) true 12 65536 0) R1 R2 g1 g2 [.ro 4 (q1.map eQ) e1,.ro 1 (z1.map eU8) f1,.int .u8 r,.ro 4 (q2.map eQ) e2,.ro 1 (z2.map eU8) f2,.int .u8 r,.ro 2 (w.map eW) we] w we ra ea ps pe,7⟩ =
  some (.tup [.agg (cCf 100 1 1 (kindsOf r) true 12 65536 0),aSt ra' ea' ps' pe',.agg [.ro 6 (R1.map eEn) g1,.ro 6 (R2.map eEn) g2]]):=by
 intro m
 induction m with
 | zero =>
  intro i hi ra ea ps pe S K
  refine ⟨ra,ea,ps,pe,⟨S.rl,S.pl,fun p hp=>by have:=S.pb p hp;omega,S.q,S.qp⟩,K,?_⟩
  generalize kindsOf r=ks at *
  simp only [w283_K0];rw [ck_unf w283_B0.eq_1]
  by_cases c:(i:Int) < w.length
  · have c2:¬ (i:Int) < 8:=by omega
    simp (disch:=omega) [ck_unf w283_c0.eq_1,c,c2]
  · simp (disch:=omega) [ck_unf w283_c0.eq_1,c]
 | succ m ih =>
  intro i hi ra ea ps pe S K
  have c1:i < w.length:=by omega
  have c2:(i:Int) < 8:=by omega
  have c3:(i:Int) < w.length:=by omega
  obtain ⟨hx0,x,hx,hx2⟩:=hw _ (List.getElem_mem c1)
  by_cases c:(w[i].1).tmod 2=0
  · have hb:=bits_ok H.toHasQo x R1.length hx2 (by have:=L1.hl;omega)
    have hbl:=bitF_len x (min R1.length 16) 0
    obtain ⟨ra1,ea1,ps1,pe1,cc,S1,K1,hs⟩:=hstep2_ok H L1 G1 N1 g1 (by omega) S K ea pe (bitF x 0 (min R1.length 16)) false (by have:=L1.hl;omega) (fun a ha=>by have:=bitF_in x _ 0 a ha;omega) (bitF_nd x _ 0)
    obtain ⟨ra2,ea2,ps2,pe2,S2,K2,h2⟩:=ih (i+1) (by omega) ra1 ea1 ps1 pe1 ⟨S1.rl,S1.pl,fun p hp=>by have:=S1.pb p hp;omega,S1.q,S1.qp⟩ K1
    refine ⟨ra2,ea2,ps2,pe2,S2,K2,?_⟩
    generalize kindsOf r=ks at *
    generalize bitF x 0 (min R1.length 16)=Z at *
    simp only [w283_K0] at h2 ⊢;rw [ck_unf w283_B0.eq_1]
    simp [ofE,ofH] at h2
    simp (disch:=omega) [ofE,ofH,c1,c2,c3,c,hx,hb,hs,h2,wI64,H.toHasEq.inl,inlB,H.toHasEq.pp,ppB]
  · have c':(w[i].1).tmod 2=1:=by have:=Int.tmod_eq_emod_of_nonneg (b:=2) hx0;omega
    have hb:=bits_ok H.toHasQo x R2.length hx2 (by have:=L2.hl;omega)
    have hbl:=bitF_len x (min R2.length 16) 0
    obtain ⟨ra1,ea1,ps1,pe1,cc,S1,K1,hs⟩:=hstep2_ok H L2 G2 N2 g2 (by omega) S K ea pe (bitF x 0 (min R2.length 16)) false (by have:=L2.hl;omega) (fun a ha=>by have:=bitF_in x _ 0 a ha;omega) (bitF_nd x _ 0)
    obtain ⟨ra2,ea2,ps2,pe2,S2,K2,h2⟩:=ih (i+1) (by omega) ra1 ea1 ps1 pe1 ⟨S1.rl,S1.pl,fun p hp=>by have:=S1.pb p hp;omega,S1.q,S1.qp⟩ K1
    refine ⟨ra2,ea2,ps2,pe2,S2,K2,?_⟩
    generalize kindsOf r=ks at *
    generalize bitF x 0 (min R2.length 16)=Z at *
    simp only [w283_K0] at h2 ⊢;rw [ck_unf w283_B0.eq_1]
    simp [ofE,ofH] at h2
    simp (disch:=omega) [ofE,ofH,c1,c2,c3,c',hx,hb,hs,h2,wI64,H.toHasEq.inl,inlB,H.toHasEq.pp,ppB]
theorem of_ok3 (H:HasQh C) (hone:∀ q:Q4,QIn q→∃ i:It,FnW C 422 [.agg (eQ q)]=some (eIt i)∧Good i) (q1 q2:List Q4) (e1 e2:Bool) (hq1:∀ x ∈ q1,QIn x) (hq2:∀ x ∈ q2,QIn x) (z1 z2:List Int) (f1 f2:Bool) (hz1:∀ s ∈ z1,0≤s∧s≤255) (hz2:∀ s ∈ z2,0≤s∧s≤255)
 (hl1:z1.length < 9223372036854775808) (hl2:z2.length < 9223372036854775808) (r r2:Int) (hr:0≤r∧r≤255) (w:List (Int × Int)) (we:Bool) (hw:∀ p ∈ w,0≤p.1∧∃ x:Nat,p.2=x∧x≤65535) :
 ∃ (R1 R2:List En) (g1 g2:Bool) (ra:List Hd) (ea:Bool) (ps:List Pl) (pe:Bool),LG r R1∧LG r R2∧(∀ x ∈ R1,GoodE (kindsOf r) x)∧(∀ x ∈ R2,GoodE (kindsOf r) x)∧(keysE R1).Nodup∧(keysE R2).Nodup∧StOk 96 ra ps∧CkS (kindsOf r) 12 ra ps∧FnW C 283 [.agg [.ro 4 (q1.map eQ) e1,.ro 1 (z1.map eU8) f1,.int .u8 r,.ro 4 (q2.map eQ) e2,.ro 1 (z2.map eU8) f2,.int .u8 r2,.ro 2 (w.map eW) we]] =
  some (.tup [.agg (cCf 100 1 1 (kindsOf r) true 12 65536 0),aSt ra ea ps pe,.agg [.ro 6 (R1.map eEn) g1,.ro 6 (R2.map eEn) g2]]):=by
 obtain ⟨R1,g1,h1,a1,a2,a3⟩:=lof_ok H.toHasG hone q1 e1 hq1 z1 f1 hz1 hl1 r hr
 obtain ⟨R2,g2,h2,b1,b2,b3⟩:=lof_ok H.toHasG hone q2 e2 hq2 z2 f2 hz2 hl2 r hr
 have L1:=LG.of_good hr a1 a2 a3
 have L2:=LG.of_good hr b1 b2 b3
 have hp16:∀ i:Nat,i < 3→0≤plAt (kindsOf r) i:=by
  intro i hi
  have h6:i=0∨i=1∨i=2:=by omega
  rcases h6 with rfl | rfl | rfl
  · show (0:Int)≤r % 4;omega
  · show (0:Int)≤r / 4 % 3;omega
  · show (0:Int)≤r / 8 % 3;omega
 have hk0:CkS (kindsOf r) 12 [] [([],true),([],true),([],true)]:=⟨by simp,by simp,by simp,rfl,fun i p hp=>by
  have hi:i < 3:=(List.getElem?_eq_some_iff.1 hp).1
  have h6:i=0∨i=1∨i=2:=by omega
  rcases h6 with rfl | rfl | rfl <;> (obtain rfl:=Option.some.inj hp;exact ⟨by simpa using hp16 _ hi,by simp⟩)⟩
 have h3:FnW C 296 [.agg (cCf 100 1 1 (kindsOf r) true 12 65536 0)]=some (aSt [] true [([],true),([],true),([],true)] false):=rempty_ok H 100 1 1 _ _ _ true 12 65536 0
 obtain ⟨ra,ea,ps,pe,S,K,h4⟩:=of_loop2 H L1 L2 a2 b2 a3 b3 g1 g2 q1 q2 e1 e2 z1 z2 f1 f2 w we hw (min w.length 8) 0 rfl [] true [([],true),([],true),([],true)] false ⟨by simp,rfl,by simp,by simp,by simp⟩ hk0
 refine ⟨R1,R2,g1,g2,ra,ea,ps,pe,L1,L2,a2,b2,a3,b3,S,K,?_⟩
 rw [fnW_eq H.f283 rfl]
 generalize kindsOf r=ks at *
 simp only [w283_K0] at h4
 simp [ofE,ofH] at h4
 simp [w283,H.toHasEq.inl,inlB,H.toHasEq.pp,ppB,h1,h2,h3,h4]
end Go.D
end
section
namespace Go.D
open Go Go.Pav Go.Pw P
set_option maxHeartbeats 2000000
attribute [-simp] List.getElem_cons_drop
def hz (h:Hd):Int × Int × Nd:=(h.k,h.t,h.n.z)
theorem hz_kep (h:Hd):hz (kepH h)=hz h:=by simp [hz,kepH,kepN_z]
theorem hz_keps (l:List Hd):(l.map kepH).map hz=l.map hz:=by rw [List.map_map];exact List.map_congr_left fun h _=>hz_kep h
theorem sameH_z:∀ a b:List Hd,a.map hz=b.map hz→sameH a b=true
 | [],[],_=>rfl
 | x::a,y::b,h=>by
  simp only [List.map_cons,List.cons.injEq,hz,Prod.mk.injEq] at h
  simp [sameH,h.1.1,h.1.2.1,eqN_z _ _ h.1.2.2,sameH_z a b h.2]
 | [],_::_,h=>by simp at h
 | _::_,[],h=>by simp at h
theorem samePs_z:∀ a b:List Pl,(a.map fun p=>p.1.map hz)=(b.map fun p=>p.1.map hz)→samePs a b=true
 | [],[],_=>rfl
 | x::a,y::b,h=>by
  simp only [List.map_cons,List.cons.injEq] at h
  simp [samePs,sameH_z _ _ h.1,samePs_z a b h.2]
 | [],_::_,h=>by simp at h
 | _::_,[],h=>by simp at h
end Go.D
end
section
namespace Go.D
open Go Go.Pav Go.Pw P
attribute [-simp] List.getElem_cons_drop
variable {C:WProg}
theorem pl_ok (r:Int):∀ k ∈ kindsOf r,plOk k:=by
 intro k hk
 simp only [kindsOf,List.mem_cons,List.not_mem_nil,or_false] at hk
 rcases hk with rfl | rfl | rfl <;> (unfold plOk;simp only;omega)
end Go.D
end
section
namespace Go.D
open Go Go.Pav Go.Pw P
set_option maxHeartbeats 2000000
attribute [-simp] List.getElem_cons_drop
variable {C:WProg}
structure HasQz (C:WProg):Prop extends HasQx C where
 f281:C.fns.get 281=some w281
 f139:C.fns.get 139=some w139
 f280:C.fns.get 280=some w280
 f3009:C.fns.get 3009=some w431
theorem exd_loop (H:HasQz C) (rk:List Hd) (ps:List Pl) (pe:Bool) (hl:ps.length≤1000) (hp:∀ p ∈ ps,p.1.length≤1000000∧∀ x ∈ p.1,cnt x.n≠0):∀ m i,m+i=ps.length→∀ G:List Pl,G.length=i→G=(ps.take i).map kepP →
 w281_K0 C
  ⟨[(17,.int .i64 i),(16,.int .i64 ps.length),(15,.ro 1 (ps.map ePl) pe),(3,.ptr 0 0 0),(2,.ptr 2 0 0)],
   [(0,.cells 2 [[.ro 8 (rk.map eHd) true,.sl 1 1 0 ps.length ps.length true]] true false),(1,.cells 1 (G.map ePl++List.replicate m [.ro 8 [] true]) true true),(2,.cells 2 [[.ro 8 [] true,.ro 1 [] true]] true true)],3⟩ =
  some (aSt rk true (ps.map kepP) true):=by
 intro m
 induction m with
 | zero =>
  intro i hi G hG hGe
  have h3:¬ i < ps.length:=by omega
  have e1:ps.take i=ps:=List.take_of_length_le (by omega)
  have e2:List.take ps.length (G.map ePl)=G.map ePl:=List.take_of_length_le (by simp;omega)
  rw [e1] at hGe
  rw [← hGe]
  have h4:G.length=ps.length:=by omega
  simp only [w281_K0];rw [ck_unf w281_B0.eq_1]
  simp (disch:=omega) [ck_unf w281_c0.eq_1,h3,e2,h4]
 | succ m ihm =>
  intro i hi G hG hGe
  have h1:i < ps.length:=by omega
  have this:=ihm (i+1) (by omega) (G++[kepP ps[i]]) (by simp [hG]) (by rw [hGe,List.take_add_one,List.getElem?_eq_getElem h1,List.map_append];rfl)
  have hh:=hp _ (List.getElem_mem h1)
  have hs:=qown_ok H.toHasQt ps[i].1 ps[i].2 hh.1 hh.2
  have g1:=gr_get ePl G [.ro 8 [] true] m
  have g2:=gr_set ePl G [.ro 8 [] true] m (kepP ps[i])
  rw [hG] at g1 g2
  generalize ps.map kepP=PK at *
  simp only [w281_K0] at this ⊢;rw [ck_unf w281_B0.eq_1]
  simp [kepP] at this g2
  simp at hs
  simp (disch:=omega) [h1,hs,wI64,H.toHasEq.inl,inlB,H.toHasEq.pp,ppB,g1,g2,this]
theorem exd_ok (H:HasQz C) (ra:List Hd) (ea:Bool) (ps:List Pl) (pe:Bool) (hr:ra.length≤1000000) (hrc:∀ x ∈ ra,cnt x.n≠0) (hl:ps.length≤1000) (hp:∀ p ∈ ps,p.1.length≤1000000∧∀ x ∈ p.1,cnt x.n≠0) :
 FnW C 281 [aSt ra ea ps pe]=some (aSt (ra.map kepH) true (ps.map kepP) true):=by
 have h0:=qown_ok H.toHasQt ra ea hr hrc
 have h4:ps.length * 25≤35184372088832:=by omega
 generalize ra.map kepH=rk at *
 have h:=exd_loop H rk ps pe hl hp ps.length 0 (by simp) [] rfl rfl
 generalize ps.map kepP=PK at *
 simp only [w281_K0] at h
 simp at h
 rw [fnW_eq H.f281 rfl]
 simp [w281,H.toHasEq.inl,inlB,H.toHasEq.pp,ppB,h0,h4,h]
end Go.D
end
section
namespace Go.D
open Go Go.Pav Go.Pw P
set_option maxHeartbeats 2000000
def tmap (s:List (Int × Int)):List (AV × AV):=s.map fun p=>(.int .u64 p.1,.int .u8 p.2)
def tfind (k:Int):List (Int × Int)→Option Int
 | []=>none
 | p::r=>if k=p.1 then some p.2 else tfind k r
theorem tmap_get (k:Int):∀ s:List (Int × Int),mapGet (tmap s) (.int .u64 k)=some ((tfind k s).map (AV.int .u8))
 | []=>rfl
 | a::r=>by
  have ih:=tmap_get k r
  unfold tmap at ih ⊢
  rw [List.map_cons,mapGet,tfind]
  simp only [eqCell,if_true,ob]
  by_cases c:k=a.1
  · simp [c]
  · simp [c,ih]
theorem tmap_put (k t:Int):∀ s:List (Int × Int),tfind k s=none→mapPut (tmap s) (.int .u64 k) (.int .u8 t)=some (tmap (s++[(k,t)]))
 | [],_=>rfl
 | a::r,h=>by
  rw [tfind] at h
  by_cases c:k=a.1
  · rw [if_pos c] at h;cases h
  · rw [if_neg c] at h
    have ih:=tmap_put k t r h
    unfold tmap at ih ⊢
    rw [List.map_cons,mapPut]
    simp only [eqCell,if_true,ob]
    simp [c,ih,om]
def nexM (l:List En) (A:List Nat):List (Int × Int):=A.map fun a=>match l[a]? with | some e=>(e.i.k,e.i.t) | none=>(0,0)
theorem tfind_none {k:Int}:∀ {s:List (Int × Int)},(∀ p ∈ s,p.1≠k)→tfind k s=none
 | [],_=>rfl
 | p::r,h=>by
  rw [tfind,if_neg (fun q=>h p (by simp) q.symm)]
  exact tfind_none (fun q hq=>h q (by simp [hq]))
theorem key_inj {l:List En} (hn:(keysE l).Nodup) {a b:Nat} (ha:a < l.length) (hb:b < l.length) (h:l[a].i.k=l[b].i.k):a=b:=by
 have h1:(keysE l)[a]'(by simpa [keysE] using ha)=(keysE l)[b]'(by simpa [keysE] using hb):=by simpa [keysE] using h
 exact (List.getElem_inj hn).1 h1
theorem nex_st {l:List En} (hn:(keysE l).Nodup) (h:Hd):∀ (A:List Nat),A.Nodup→(∀ a ∈ A,a < l.length)→(stF h l A=true↔tfind h.k (nexM l A)=some h.t)
 | [],_,_=>by simp [stF,nexM,tfind]
 | a::r,h1,h2=>by
  obtain ⟨h3,h4⟩:=List.nodup_cons.1 h1
  have ha:=h2 a (by simp)
  have hr:=fun b hb=>h2 b (List.mem_cons_of_mem a hb)
  have ih:=nex_st hn h r h4 hr
  have hcons:stF h l (a::r)=((decide (l[a].i.k=h.k)&&decide (l[a].i.t=h.t))||stF h l r):=by
   unfold stF
   rw [List.any_cons,List.getElem?_eq_getElem ha]
  have hm:nexM l (a::r)=(l[a].i.k,l[a].i.t)::nexM l r:=by unfold nexM;rw [List.map_cons,List.getElem?_eq_getElem ha]
  rw [hcons,hm,tfind]
  by_cases c:l[a].i.k=h.k
  · have hno:stF h l r=false:=by
     cases q:stF h l r
     · rfl
     · have q2:=ih.1 q
       unfold stF at q
       obtain ⟨b,hb,hbe⟩:=List.any_eq_true.1 q
       have hbl:=hr b hb
       rw [List.getElem?_eq_getElem hbl] at hbe
       simp only [Bool.and_eq_true,decide_eq_true_eq] at hbe
       have:=key_inj hn ha hbl (c.trans hbe.1.symm)
       subst this
       exact absurd hb h3
    rw [if_pos c.symm,hno]
    simp [c]
  · rw [if_neg (fun q=>c q.symm)]
    simp [c,ih]
theorem atF_mem {k:Int}:∀ (ra:List Hd) (i:Nat) (h:Hd),(ra.map Hd.k).Nodup→h ∈ ra→h.k=k→∃ j:Nat,atF k i ra=((i+j:Nat):Int)∧ra[j]?=some h
 | [],_,_,_,hm,_=>by cases hm
 | x::r,i,h,hn,hm,hk=>by
  rw [List.map_cons,List.nodup_cons] at hn
  rw [atF]
  rcases List.mem_cons.1 hm with q | q
  · subst q
    rw [if_pos hk]
    exact ⟨0,rfl,rfl⟩
  · have hx:¬ x.k=k:=fun c=>hn.1 (List.mem_map.2 ⟨h,q,hk.trans c.symm⟩)
    rw [if_neg hx]
    obtain ⟨j,h1,h2⟩:=atF_mem r (i+1) h hn.2 q hk
    exact ⟨j+1,by rw [h1];congr 1;omega,by simpa using h2⟩
def stay (ra:List Hd) (l:List En) (A:List Nat):List Int:=(ra.filter fun h=>stF h l A).map Hd.k
theorem stay_was {ra:List Hd} (hr:(ra.map Hd.k).Nodup) {l:List En} (hn:(keysE l).Nodup) {A:List Nat} (hA:∀ a ∈ A,a < l.length) {a:Nat} (ha:a ∈ A) (hal:a < l.length):(stay ra l A).contains l[a].i.k=wasF ra l[a]:=by
 have key:(stay ra l A).contains l[a].i.k=true↔∃ h ∈ ra,h.k=l[a].i.k∧h.t=l[a].i.t:=by
  rw [List.contains_iff_mem,stay,List.mem_map]
  constructor
  · rintro ⟨h,hh,hk⟩
    obtain ⟨h1,h2⟩:=List.mem_filter.1 hh
    refine ⟨h,h1,hk,?_⟩
    unfold stF at h2
    obtain ⟨b,hb,hbe⟩:=List.any_eq_true.1 h2
    have hbl:=hA b hb
    rw [List.getElem?_eq_getElem hbl] at hbe
    simp only [Bool.and_eq_true,decide_eq_true_eq] at hbe
    have:=key_inj hn hbl hal (hbe.1.trans hk)
    subst this
    exact hbe.2.symm
  · rintro ⟨h,h1,h2,h3⟩
    refine ⟨h,List.mem_filter.2 ⟨h1,?_⟩,h2⟩
    unfold stF
    refine List.any_eq_true.2 ⟨a,ha,?_⟩
    rw [List.getElem?_eq_getElem hal]
    simp [h2,h3]
 have key2:wasF ra l[a]=true↔∃ h ∈ ra,h.k=l[a].i.k∧h.t=l[a].i.t:=by
  unfold wasF
  constructor
  · intro q
    simp only [Bool.and_eq_true,decide_eq_true_eq] at q
    obtain ⟨q1,q2⟩:=q
    cases hq:ra[(atF l[a].i.k 0 ra).toNat]? with
    | none=>rw [hq] at q2;cases q2
    | some h =>
     rw [hq] at q2
     have hm:=List.mem_of_getElem? hq
     by_cases c:∃ g ∈ ra,g.k=l[a].i.k
     · obtain ⟨g,hg,hgk⟩:=c
       obtain ⟨j,j1,j2⟩:=atF_mem ra 0 g hr hg hgk
       rw [j1,Nat.zero_add,Int.toNat_natCast,j2] at hq
       obtain rfl:=Option.some.inj hq
       exact ⟨g,hg,hgk,by simpa using q2⟩
     · exfalso
       have:∀ (r:List Hd) (i:Nat),(∀ g ∈ r,g.k≠l[a].i.k)→atF l[a].i.k i r=-1:=by
        intro r
        induction r with
        | nil=>intro i _;rfl
        | cons x r ih=>intro i hh;rw [atF,if_neg (hh x (by simp))];exact ih _ (fun g hg=>hh g (by simp [hg]))
       rw [this ra 0 (fun g hg hk=>c ⟨g,hg,hk⟩)] at q1
       omega
  · rintro ⟨h,h1,h2,h3⟩
    obtain ⟨j,j1,j2⟩:=atF_mem ra 0 h hr h1 h2
    rw [j1,Nat.zero_add,Int.toNat_natCast,j2]
    simp [h3]
 cases q:wasF ra l[a]
 · cases p:(stay ra l A).contains l[a].i.k
   · rfl
   · rw [key2.2 (key.1 p)] at q;cases q
 · exact key.2 (key2.1 q)
end Go.D
end
section
namespace Go.D
open Go Go.Pav Go.Pw P
set_option maxHeartbeats 2000000
attribute [-simp] List.getElem_cons_drop
variable {C:WProg}
section
variable (vw ov ls:Int) (ks:List Kd) (ke:Bool) (cap ar fl:Int) (ra:List Hd) (ea:Bool) (ps:List Pl) (pe:Bool) (l:List En) (e:Bool)
structure PcM (K:List (AV × AV)) (h:WHeap) (next:Nat):Prop where
 g0:Pav.get h 0=some (.cells 7 [cCf vw ov ls ks ke cap ar fl] true true)
 g1:Pav.get h 1=some (.cells 2 [[.ro 8 (ra.map eHd) ea,.ro 1 (ps.map ePl) pe]] true true)
 g2:Pav.get h 2=some (.cells 1 [[.ro 6 (l.map eEn) e]] true true)
 g3:Pav.get h 3=some (.cells 2 [[.ro 8 [] true,.ro 1 [] true]] true true)
 g4:Pav.get h 4=some (.cells 4 [[.int .i64 0,.int .i64 0,.int .i64 0,.int .i64 0]] true true)
 g5:Pav.get h 5=some (.map K)
 nx:10≤next
theorem pcm_loop (A:List Nat) (f:Bool) (hA:A.length≤1000) (hAl:∀ a ∈ A,a < l.length) (hAn:A.Nodup) (hn:(keysE l).Nodup):∀ m i,m+i=A.length→∀ h next,PcM vw ov ls ks ke cap ar fl ra ea ps pe l e (tmap (nexM l (A.take i))) h next→∃ h' next',PcM vw ov ls ks ke cap ar fl ra ea ps pe l e (tmap (nexM l A)) h' next' ∧
 CK C 0 (pureFin [.cell 8 2 true,.cell 9 4 true]) [.sq w280_L3,.bk 0 ⟨true,[10,9,8,6,5,4,3],[(9999,65537)]⟩,.sq w280_c3] w280_B3
  ⟨[(32,.int .i64 i),(31,.int .i64 A.length),(30,.ro 1 (A.map eAt) f),(10,.map 5),(9,.ptr 4 0 0),(8,.ptr 3 0 0),(6,.ptr 2 0 0),(5,.ptr 1 0 0),(4,.ptr 0 0 0),(3,.ro 1 (A.map eAt) f)],h,next⟩ =
 CK C 0 (pureFin [.cell 8 2 true,.cell 9 4 true]) [] w280_c3 ⟨[(10,.map 5),(9,.ptr 4 0 0),(8,.ptr 3 0 0),(6,.ptr 2 0 0),(5,.ptr 1 0 0),(4,.ptr 0 0 0),(3,.ro 1 (A.map eAt) f)],h',next'⟩:=by
 intro m
 induction m with
 | zero =>
  intro i hi h next T
  have h3:¬ i < A.length:=by omega
  rw [List.take_of_length_le (by omega)] at T
  refine ⟨h,next+1,⟨T.g0,T.g1,T.g2,T.g3,T.g4,T.g5,by have:=T.nx;omega⟩,?_⟩
  rw [ck_unf w280_B3.eq_1]
  simp (disch:=omega) [h3]
 | succ m ih =>
  intro i hi h next T
  have h1:i < A.length:=by omega
  have h2:=hAl _ (List.getElem_mem h1)
  have ht:nexM l (A.take (i+1))=nexM l (A.take i)++[(l[A[i]].i.k,l[A[i]].i.t)]:=by
   unfold nexM
   rw [List.take_succ_eq_append_getElem h1,List.map_append,List.map_cons,List.getElem?_eq_getElem h2];rfl
  have hno:tfind l[A[i]].i.k (nexM l (A.take i))=none:=by
   refine tfind_none fun p hp q=>?_
   unfold nexM at hp
   obtain ⟨b,hb,rfl⟩:=List.mem_map.1 hp
   have hbA:=List.mem_of_mem_take hb
   have hbl:=hAl b hbA
   rw [List.getElem?_eq_getElem hbl] at q
   have:=key_inj hn hbl h2 q
   obtain ⟨j,hj,hje⟩:=List.mem_iff_getElem.1 hb
   rw [List.length_take] at hj
   rw [List.getElem_take] at hje
   have:=(List.getElem_inj hAn).1 (hje.trans this)
   omega
  have hp:=tmap_put l[A[i]].i.k l[A[i]].i.t _ hno
  have nx:=T.nx
  have T2:PcM vw ov ls ks ke cap ar fl ra ea ps pe l e (tmap (nexM l (A.take (i+1)))) (put (put h (next+10) (.cells 4 [[.int .u64 l[A[i]].i.k,.int .u8 l[A[i]].i.t,.str l[A[i]].i.x,.ro 1 (l[A[i]].i.m.map eS) l[A[i]].i.e]] true true)) 5 (.map (tmap (nexM l (A.take (i+1)))))) (next+20):=by
   refine ⟨?_,?_,?_,?_,?_,getPut_self ..,by omega⟩
   · simp (disch:=omega) only [getPut_ne];exact T.g0
   · simp (disch:=omega) only [getPut_ne];exact T.g1
   · simp (disch:=omega) only [getPut_ne];exact T.g2
   · simp (disch:=omega) only [getPut_ne];exact T.g3
   · simp (disch:=omega) only [getPut_ne];exact T.g4
  obtain ⟨h',n',hn',hq⟩:=ih (i+1) (by omega) _ _ T2
  refine ⟨h',n',hn',?_⟩
  rw [← hq,ck_unf w280_B3.eq_1]
  rw [ht] at *
  have g5:=T.g5
  generalize nexM l (A.take i)=K at *
  generalize tmap (K++[(l[A[i]].i.k,l[A[i]].i.t)])=K2 at *
  generalize tmap K=K1 at *
  simp (disch:=omega) [h1,h2,hp,wI64,T.g0,T.g1,T.g2,g5,getPut_self,getPut_ne,putPut]
end
end Go.D
end
section
namespace Go.D
open Go Go.Pav Go.Pw P
set_option maxHeartbeats 2000000
attribute [-simp] List.getElem_cons_drop
variable {C:WProg}
theorem hclone_nil (H:HasQz C) (e:Bool) (nid:Nat):freshCallW (RnW C) 3009 [.ro 8 [] e] nid=some (.sl nid 8 0 0 0 true,[(nid,some (.cells 8 [] true true))]):=by
 have hr:=rnW_eq (args:=[.ro 8 [] e]) H.f3009 rfl [] 0
 unfold freshCallW
 rw [hr]
 simp [w431,ck_cln,ownOf,freshOfW,hand,om]
theorem hclone_cons (H:HasQz C) (l:List Hd) (h0:l≠[]) (hp:l.length≤1000000) (e:Bool) (nid:Nat):freshCallW (RnW C) 3009 [.ro 8 (l.map eHd) e] nid=some (.sl nid 8 0 l.length l.length false,[(nid,some (.cells 8 (eHs l) true true))]):=by
 have hr:=rnW_eq (args:=[.ro 8 (l.map eHd) e]) H.f3009 rfl [] 0
 unfold freshCallW
 rw [hr]
 cases l with
 | nil=>exact absurd rfl h0
 | cons a r =>
  simp at hp
  have h1:(r.length+1) * 121≤35184372088832:=by omega
  have h2:List.take r.length (List.map eHd r)=List.map eHd r:=List.take_of_length_le (by simp)
  simp [w431,ck_cln2,clnC,isEmptyRo,h1,h2,ownOf,freshOfW,hand,om]
end Go.D
end
section
namespace Go.D
open Go Go.Pav Go.Pw P
set_option maxHeartbeats 2000000
attribute [-simp] List.getElem_cons_drop
variable {C:WProg}
section
variable (vw ov ls:Int) (ks:List Kd) (ke:Bool) (cap ar fl:Int) (ra:List Hd) (ea:Bool) (ps:List Pl) (pe:Bool) (l:List En) (e:Bool)
structure PcN (K:List (AV × AV)) (pb lo:Nat) (h:WHeap) (next:Nat) (cs:List (List AV)) (id:Nat→Nat) (i:Nat) (dt:Bool):Prop where
 g0:Pav.get h 0=some (.cells 7 [cCf vw ov ls ks ke cap ar fl] true true)
 g1:Pav.get h 1=some (.cells 2 [[.ro 8 (ra.map eHd) ea,.ro 1 (ps.map ePl) pe]] true true)
 g2:Pav.get h 2=some (.cells 1 [[.ro 6 (l.map eEn) e]] true true)
 g3:Pav.get h 3=some (.cells 2 [[.ro 8 [] true,.sl pb 1 0 ps.length ps.length true]] true false)
 g4:Pav.get h 4=some (.cells 4 [[.int .i64 0,.int .i64 0,.int .i64 0,.int .i64 0]] true true)
 g5:Pav.get h 5=some (.map K)
 gp:Pav.get h pb=some (.cells 1 (cs++List.replicate (ps.length - i) [.ro 8 [] true]) true dt)
 R:Nst2 FullH h lo next id cs ((ps.map (·.1)).take i)
 ne:6≤lo∧lo≤pb∧pb < next
 nd:∀ j,j < i→id j≠pb
theorem PcN.wl {K:List (AV × AV)} {pb lo:Nat} {h:WHeap} {next:Nat} {cs:List (List AV)} {id:Nat→Nat} {i:Nat} {dt:Bool} (T:PcN vw ov ls ks ke cap ar fl ra ea ps pe l e K pb lo h next cs id i dt) (hi:i≤ps.length):cs.length=i:=by
 rw [T.R.len];simp;omega
theorem pcn_loop (H:HasQz C) (A:List Nat) (f:Bool) (hl:ps.length≤1000) (hp:∀ p ∈ ps,p.1.length≤1000000) (K:List (AV × AV)) (pb lo:Nat):∀ m i,m+i=ps.length→∀ h next cs id dt,PcN vw ov ls ks ke cap ar fl ra ea ps pe l e K pb lo h next cs id i dt →
 ∃ h' next' cs' id' dt',PcN vw ov ls ks ke cap ar fl ra ea ps pe l e K pb lo h' next' cs' id' ps.length dt'∧(dt=false∨0 < m→dt'=false) ∧
 CK C 0 (pureFin [.cell 8 2 true,.cell 9 4 true]) [.sq w280_L2,.bk 2 ⟨true,[10,9,8,6,5,4,3],[(9999,65537)]⟩,.sq w280_c2] w280_B2
  ⟨[(56,.int .i64 i),(55,.int .i64 ps.length),(54,.ro 1 (ps.map ePl) pe),(10,.map 5),(9,.ptr 4 0 0),(8,.ptr 3 0 0),(6,.ptr 2 0 0),(5,.ptr 1 0 0),(4,.ptr 0 0 0),(3,.ro 1 (A.map eAt) f)],h,next⟩ =
 CK C 0 (pureFin [.cell 8 2 true,.cell 9 4 true]) [] w280_c2 ⟨[(10,.map 5),(9,.ptr 4 0 0),(8,.ptr 3 0 0),(6,.ptr 2 0 0),(5,.ptr 1 0 0),(4,.ptr 0 0 0),(3,.ro 1 (A.map eAt) f)],h',next'⟩:=by
 intro m
 induction m with
 | zero =>
  intro i hi h next cs id dt T
  have h3:¬ i < ps.length:=by omega
  have hil:i=ps.length:=by omega
  subst hil
  have ne:=T.ne
  refine ⟨h,next+1,cs,id,dt,⟨T.g0,T.g1,T.g2,T.g3,T.g4,T.g5,T.gp,T.R.mono (by omega) (fun _ _=>rfl),by omega,T.nd⟩,fun q=>by rcases q with q | q;exact q;omega,?_⟩
  rw [ck_unf w280_B2.eq_1]
  simp (disch:=omega)
 | succ m ih =>
  intro i hi h next cs id dt T
  have h1:i < ps.length:=by omega
  have hpi:=hp _ (List.getElem_mem h1)
  have ne:=T.ne
  have hcl:=T.wl vw ov ls ks ke cap ar fl ra ea ps pe l e (by omega)
  have hcs:i < (cs++List.replicate (ps.length - i) [AV.ro 8 [] true]).length:=by simp;omega
  have hci:(cs++List.replicate (ps.length - i) [AV.ro 8 [] true])[i]=[AV.ro 8 [] true]:=by
   rw [List.getElem_append_right (by omega)];simp
  have hset:∀ v:AV,(cs++List.replicate (ps.length - i) [AV.ro 8 [] true]).set i [v]=(cs++[[v]])++List.replicate (ps.length - (i+1)) [AV.ro 8 [] true]:=by
   intro v
   rw [List.set_append_right _ _ (by omega),hcl,Nat.sub_self,show ps.length - i=(ps.length - (i+1))+1 by omega,List.replicate_succ]
   simp
  have htk:(ps.map (·.1)).take (i+1)=(ps.map (·.1)).take i++[ps[i].1]:=by
   rw [List.take_succ_eq_append_getElem (by simpa using h1)];simp
  have hlen:((ps.map (·.1)).take i).length=i:=by simp;omega
  have key:∀ (v:AV) (o:WObj),FullH (some o) (next+10) v ps[i].1 →
   PcN vw ov ls ks ke cap ar fl ra ea ps pe l e K pb lo (put (put h (next+10) o) pb (.cells 1 ((cs++[[v]])++List.replicate (ps.length - (i+1)) [.ro 8 [] true]) true false)) (next+15) (cs++[[v]]) (fun u=>if u=i then next+10 else id u) (i+1) false:=by
   intro v o hv
   refine ⟨?_,?_,?_,?_,?_,?_,getPut_self ..,?_,by omega,fun j hj=>?_⟩
   · simp (disch:=omega) only [getPut_ne];exact T.g0
   · simp (disch:=omega) only [getPut_ne];exact T.g1
   · simp (disch:=omega) only [getPut_ne];exact T.g2
   · simp (disch:=omega) only [getPut_ne];exact T.g3
   · simp (disch:=omega) only [getPut_ne];exact T.g4
   · simp (disch:=omega) only [getPut_ne];exact T.g5
   · have hs:=T.R.snoc (h':=put (put h (next+10) o) pb (.cells 1 ((cs++[[v]])++List.replicate (ps.length - (i+1)) [.ro 8 [] true]) true false)) (hi':=next+15) (next+10) (by omega) (by omega) (by omega) v ps[i].1
      (fun j hj=>by
       have h1:=T.R.bd j hj
       have h2:=T.nd j (by omega)
       rw [getPut_ne (by omega),getPut_ne (by omega)])
      (by rw [getPut_ne (by omega),getPut_self];exact hv)
     rw [hlen] at hs
     rw [htk]
     exact hs
   · split
     · omega
     · exact T.nd j (by omega)
  by_cases c:ps[i].1=[]
  · have hcl2:=hclone_nil H ps[i].2
    obtain ⟨h',n',cs',id',dt',T2,hd,hq⟩:=ih (i+1) (by omega) _ _ _ _ _ (key (.sl (next+10) 8 0 0 0 true) (.cells 8 [] true true) (.inl ⟨c,rfl,rfl⟩))
    refine ⟨h',n',cs',id',dt',T2,fun _=>hd (.inl rfl),?_⟩
    rw [← hq,ck_unf w280_B2.eq_1]
    have gp:=T.gp
    rw [← hset] at *
    generalize cs++List.replicate (ps.length - i) [AV.ro 8 [] true]=Z at *
    simp (disch:=omega) [T.g1,T.g3,gp,h1,hcs,hci,c,hcl2,getPut_self,getPut_ne,putPut,H.toHasEq.inl,inlB,H.toHasEq.pp,ppB,wI64]
  · have hcl2:=hclone_cons H ps[i].1 c hpi ps[i].2
    obtain ⟨h',n',cs',id',dt',T2,hd,hq⟩:=ih (i+1) (by omega) _ _ _ _ _ (key (.sl (next+10) 8 0 ps[i].1.length ps[i].1.length false) (.cells 8 (eHs ps[i].1) true true) (.inr ⟨c,rfl,rfl⟩))
    refine ⟨h',n',cs',id',dt',T2,fun _=>hd (.inl rfl),?_⟩
    rw [← hq,ck_unf w280_B2.eq_1]
    have gp:=T.gp
    rw [← hset] at *
    generalize cs++List.replicate (ps.length - i) [AV.ro 8 [] true]=Z at *
    simp (disch:=omega) [T.g1,T.g3,gp,h1,hcs,hci,hcl2,getPut_self,getPut_ne,putPut,H.toHasEq.inl,inlB,H.toHasEq.pp,ppB,wI64]
end
end Go.D
end
section
namespace Go.D
open Go Go.Pav Go.Pw P
set_option maxHeartbeats 2000000
attribute [-simp] List.getElem_cons_drop
variable {C:WProg}
section
variable (vw ov ls:Int) (ks:List Kd) (ke:Bool) (cap ar fl:Int) (l:List En) (e:Bool)
structure PcO (M S:List (AV × AV)) (sb pb lo:Nat) (RW:AV) (P:Option WObj→Nat→AV→List Hd→Prop) (W:List (List Hd)) (N:List Int) (h:WHeap) (next:Nat) (cs:List (List AV)) (id:Nat→Nat):Prop where
 g0:Pav.get h 0=some (.cells 7 [cCf vw ov ls ks ke cap ar fl] true true)
 g2:Pav.get h 2=some (.cells 1 [[.ro 6 (l.map eEn) e]] true true)
 g3:Pav.get h 3=some (.cells 2 [[RW,.sl pb 1 0 ks.length ks.length true]] true false)
 g4:Pav.get h 4=some (.cells 4 [N.map (AV.int .i64)] true true)
 g5:Pav.get h 5=some (.map M)
 gs:Pav.get h sb=some (.map S)
 gp:Pav.get h pb=some (.cells 1 cs true false)
 R:Nst2 P h lo next id cs W
 wl:W.length=ks.length
 ne:6≤lo∧lo≤pb∧lo≤sb∧pb < next∧sb < next∧pb≠sb
 nd:∀ j,j < ks.length→id j≠pb∧id j≠sb
theorem PcO.later {M S:List (AV × AV)} {sb pb lo:Nat} {RW:AV} {P:Option WObj→Nat→AV→List Hd→Prop} {W:List (List Hd)} {N:List Int} {h h':WHeap} {next next':Nat} {cs:List (List AV)} {id:Nat→Nat}
 (T:PcO vw ov ls ks ke cap ar fl l e M S sb pb lo RW P W N h next cs id) (hn:next≤next') (hg:∀ j,j < next→Pav.get h' j=Pav.get h j):PcO vw ov ls ks ke cap ar fl l e M S sb pb lo RW P W N h' next' cs id:=by
 have ne:=T.ne
 exact ⟨by rw [hg _ (by omega)];exact T.g0,by rw [hg _ (by omega)];exact T.g2,by rw [hg _ (by omega)];exact T.g3,by rw [hg _ (by omega)];exact T.g4,by rw [hg _ (by omega)];exact T.g5,by rw [hg _ (by omega)];exact T.gs,by rw [hg _ (by omega)];exact T.gp,
  T.R.mono hn (fun j hj=>hg _ (T.R.bd j hj).2),T.wl,by omega,T.nd⟩
theorem PcO.setN {M S:List (AV × AV)} {sb pb lo:Nat} {RW:AV} {P:Option WObj→Nat→AV→List Hd→Prop} {W:List (List Hd)} {N:List Int} {h:WHeap} {next:Nat} {cs:List (List AV)} {id:Nat→Nat}
 (T:PcO vw ov ls ks ke cap ar fl l e M S sb pb lo RW P W N h next cs id) (N':List Int):PcO vw ov ls ks ke cap ar fl l e M S sb pb lo RW P W N' (put h 4 (.cells 4 [N'.map (AV.int .i64)] true true)) next cs id:=by
 have ne:=T.ne
 refine ⟨by rw [getPut_ne (by omega)];exact T.g0,by rw [getPut_ne (by omega)];exact T.g2,by rw [getPut_ne (by omega)];exact T.g3,getPut_self ..,by rw [getPut_ne (by omega)];exact T.g5,by rw [getPut_ne (by omega)];exact T.gs,by rw [getPut_ne (by omega)];exact T.gp,
  T.R.mono (Nat.le_refl _) (fun j hj=>getPut_ne (by have:=(T.R.bd j hj).1;omega)),T.wl,T.ne,T.nd⟩
theorem PcO.setS {M S:List (AV × AV)} {sb pb lo:Nat} {RW:AV} {P:Option WObj→Nat→AV→List Hd→Prop} {W:List (List Hd)} {N:List Int} {h:WHeap} {next:Nat} {cs:List (List AV)} {id:Nat→Nat}
 (T:PcO vw ov ls ks ke cap ar fl l e M S sb pb lo RW P W N h next cs id) (S':List (AV × AV)):PcO vw ov ls ks ke cap ar fl l e M S' sb pb lo RW P W N (put h sb (.map S')) next cs id:=by
 have ne:=T.ne
 refine ⟨by rw [getPut_ne (by omega)];exact T.g0,by rw [getPut_ne (by omega)];exact T.g2,by rw [getPut_ne (by omega)];exact T.g3,by rw [getPut_ne (by omega)];exact T.g4,by rw [getPut_ne (by omega)];exact T.g5,getPut_self ..,by rw [getPut_ne (by omega)];exact T.gp,
  T.R.mono (Nat.le_refl _) (fun j hj=>getPut_ne (Ne.symm (T.nd j (by rw [← T.wl];exact hj)).2)),T.wl,T.ne,T.nd⟩
theorem PcO.setP {M S:List (AV × AV)} {sb pb lo:Nat} {RW:AV} {P:Option WObj→Nat→AV→List Hd→Prop} {W:List (List Hd)} {N:List Int} {h h':WHeap} {next next':Nat} {cs:List (List AV)} {id:Nat→Nat}
 (T:PcO vw ov ls ks ke cap ar fl l e M S sb pb lo RW P W N h next cs id) (t:Nat) (ht:t < ks.length) (b:Nat) (hb:b=id t∨next≤b) (hb2:b < next') (hn:next≤next') (v:AV) (d:List Hd) (hP:P (Pav.get h' b) b v d)
 (hp:Pav.get h' pb=some (.cells 1 (cs.set t [v]) true false)) (hg:∀ j,j < next→j≠id t→j≠pb→Pav.get h' j=Pav.get h j) :
 PcO vw ov ls ks ke cap ar fl l e M S sb pb lo RW P (W.set t d) N h' next' (cs.set t [v]) (fun i=>if i=t then b else id i):=by
 have ne:=T.ne
 have wl:=T.wl
 have hbd:=T.R.bd t (by omega)
 have hnt:=T.nd t ht
 refine ⟨?_,?_,?_,?_,?_,?_,hp,T.R.set t (by omega) b hb (by omega) hb2 hn v d (fun j hj hjt=>?_) hP,by simp [wl],by omega,fun j hj=>?_⟩
 · rw [hg _ (by omega) (by omega) (by omega)];exact T.g0
 · rw [hg _ (by omega) (by omega) (by omega)];exact T.g2
 · rw [hg _ (by omega) (by omega) (by omega)];exact T.g3
 · rw [hg _ (by omega) (by omega) (by omega)];exact T.g4
 · rw [hg _ (by omega) (by omega) (by omega)];exact T.g5
 · rw [hg _ (by omega) (by omega) (by omega)];exact T.gs
 · have h1:=T.R.bd j hj
   exact hg _ h1.2 (fun q=>hjt (T.R.inj j t hj (by omega) q)) (T.nd j (by omega)).1
 · have h1:=T.nd j hj
   split
   · rcases hb with q | q
     · rw [q];exact hnt
     · omega
   · exact h1
end
end Go.D
end
section
namespace Go.D
open Go Go.Pav Go.Pw P
set_option maxHeartbeats 2000000
attribute [-simp] List.getElem_cons_drop
variable {C:WProg}
section
variable (vw ov ls:Int) (ks:List Kd) (ke:Bool) (cap ar fl:Int) (l:List En) (e:Bool)
theorem pco_loop (H:HasQz C) (A:List Nat) (f:Bool) (ra:List Hd) (ea:Bool) (hra:ra.length≤1000) (hrn:(ra.map Hd.k).Nodup) (hty:∀ x ∈ ra,∃ t:Nat,x.t=t∧t < ks.length) (K:List (Int × Int)) (hM:∀ x ∈ ra,(stF x l A=true↔tfind x.k K=some x.t)) (sb pb lo:Nat):∀ m i,m+i=ra.length →
 ∀ (W:List (List Hd)) (d:Int) (h:WHeap) (next:Nat) (cs:List (List AV)) (id:Nat→Nat),
 PcO vw ov ls ks ke cap ar fl l e (tmap K) (kmap (stay (ra.take i) l A)) sb pb lo (.ro 8 [] true) FullH W [0,0,d,0] h next cs id→(∀ w ∈ W,w.length+m≤1000000)→(∀ (j:Nat) (w:List Hd),W[j]?=some w→(w.length:Int)≤plAt ks j)→0≤d→d+m≤1000000 →
 ∃ h' next' cs' id',PcO vw ov ls ks ke cap ar fl l e (tmap K) (kmap (stay ra l A)) sb pb lo (.ro 8 [] true) FullH (cm1 ks l A (ra.drop i) (W,d)).1 [0,0,(cm1 ks l A (ra.drop i) (W,d)).2,0] h' next' cs' id' ∧
 CK C 0 (pureFin [.cell 8 2 true,.cell 9 4 true]) [.sq w280_L1,.bk 4 ⟨true,[16,9,8,6,4,3],[(9999,65537)]⟩,.sq w280_c1] w280_B1
  ⟨[(72,.int .i64 i),(71,.int .i64 ra.length),(70,.ro 8 (ra.map eHd) ea),(16,.map sb),(10,.map 5),(9,.ptr 4 0 0),(8,.ptr 3 0 0),(6,.ptr 2 0 0),(4,.ptr 0 0 0),(3,.ro 1 (A.map eAt) f)],h,next⟩ =
 CK C 0 (pureFin [.cell 8 2 true,.cell 9 4 true]) [] w280_c1 ⟨[(16,.map sb),(9,.ptr 4 0 0),(8,.ptr 3 0 0),(6,.ptr 2 0 0),(4,.ptr 0 0 0),(3,.ro 1 (A.map eAt) f)],h',next'⟩:=by
 intro m
 induction m with
 | zero =>
  intro i hi W d h next cs id T hW hWp h0 h1
  have h2:ra.drop i=[]:=List.drop_eq_nil_of_le (by omega)
  have h3:¬ i < ra.length:=by omega
  rw [List.take_of_length_le (by omega)] at T
  rw [h2]
  refine ⟨h,next+1,cs,id,T.later vw ov ls ks ke cap ar fl l e (by omega) (fun _ _=>rfl),?_⟩
  rw [ck_unf w280_B1.eq_1]
  simp (disch:=omega) [h3]
 | succ m ih =>
  intro i hi W d h next cs id T hW hWp h0 h1
  have h3:i < ra.length:=by omega
  obtain ⟨t,ht,htl⟩:=hty _ (List.getElem_mem h3)
  have hg:=tmap_get ra[i].k K
  have hMi:=hM _ (List.getElem_mem h3)
  have ne:=T.ne
  have hwl:=T.wl
  have hcl:cs.length=ks.length:=by rw [T.R.len,hwl]
  have htc:t < cs.length:=by omega
  have htW:t < W.length:=by omega
  have nd:=T.nd t htl
  have bd:=T.R.bd t htW
  have hW1:=hW _ (List.getElem_mem htW)
  have hrow:rowAt W ra[i].t=W[t]:=by rw [ht];simp [rowAt,htW]
  have hpl:plAt ks ra[i].t=ks[t].pl:=by rw [ht];simp [plAt,htl]
  have htk:ra.take (i+1)=ra.take i++[ra[i]]:=List.take_succ_eq_append_getElem h3
  rw [drop_cons h3]
  by_cases c:stF ra[i] l A=true
  · have hS:(stay (ra.take i) l A).contains ra[i].k=false:=by
     cases q:(stay (ra.take i) l A).contains ra[i].k
     · rfl
     · exfalso
       obtain ⟨x,hx,hxk⟩:=List.mem_map.1 (List.contains_iff_mem.1 q)
       have hx2:=(List.mem_filter.1 hx).1
       have hn:=hrn
       rw [← List.take_append_drop i ra,List.map_append,List.nodup_append] at hn
       exact hn.2.2 _ (List.mem_map.2 ⟨x,hx2,rfl⟩) _ (by rw [drop_cons h3];simp) hxk
    have hSt:stay (ra.take (i+1)) l A=stay (ra.take i) l A++[ra[i].k]:=by unfold stay;rw [htk,List.filter_append,List.map_append];simp [c]
    have hp:=kmap_put ra[i].k _ hS
    rw [hMi.1 c,ht] at hg
    rw [← hSt] at hp
    have T1:=(T.later vw ov ls ks ke cap ar fl l e (h':=put h (next+3) (.cells 8 [AV.int .u64 ra[i].k::AV.int .u8 t::ra[i].n.c] true true)) (next':=next+34) (by omega) (fun j hj=>getPut_ne (by omega))).setS vw ov ls ks ke cap ar fl l e (kmap (stay (ra.take (i+1)) l A))
    obtain ⟨h',n',cs',id',e2,e1⟩:=ih (i+1) (by omega) W d _ _ _ _ T1 (fun w hw=>by have:=hW w hw;omega) hWp h0 (by omega)
    refine ⟨h',n',cs',id',by simp only [cm1,c,if_true];exact e2,?_⟩
    rw [← e1]
    have gs:=T.gs
    generalize kmap (stay (ra.take (i+1)) l A)=S1 at *
    generalize kmap (stay (ra.take i) l A)=S0 at *
    rw [ck_unf w280_B1.eq_1]
    simp at hg
    simp (disch:=omega) [T.g0,T.g2,T.g3,T.g4,T.g5,gs,T.gp,h3,ht,htl,htc,hg,hp,getPut_self,getPut_ne,putPut,wI64]
  · have hSt:stay (ra.take (i+1)) l A=stay (ra.take i) l A:=by unfold stay;rw [htk,List.filter_append,List.map_append];simp [c]
    rw [← hSt] at T
    have hlk:∃ u:Option Int,tfind ra[i].k K=u∧u≠some (t:Int):=⟨_,rfl,fun q=>c (hMi.2 (by rw [q,ht]))⟩
    obtain ⟨u,hu,hun⟩:=hlk
    rw [hu] at hg
    obtain ⟨v,hv,hP⟩:=T.R.row t W[t] (List.getElem?_eq_getElem htW)
    rw [List.getElem?_eq_getElem htc] at hv
    replace hv:=Option.some.inj hv
    have hWt:=hWp t W[t] (List.getElem?_eq_getElem htW)
    rw [← ht,hpl] at hWt
    by_cases c2:(W[t].length:Int)=ks[t].pl
    · have hcm:∀ r s,cm1 ks l A (ra[i]::r) (W,s)=cm1 ks l A r (W,s+1):=by
       intro r s
       simp only [cm1,if_neg c]
       rw [if_pos (by rw [hrow,hpl];exact c2)]
      rw [hcm]
      have T1:=(T.later vw ov ls ks ke cap ar fl l e (h':=put h (next+3) (.cells 8 [AV.int .u64 ra[i].k::AV.int .u8 t::ra[i].n.c] true true)) (next':=next+48) (by omega) (fun j hj=>getPut_ne (by omega))).setN vw ov ls ks ke cap ar fl l e [0,0,d+1,0]
      obtain ⟨h',n',cs',id',e2,e1⟩:=ih (i+1) (by omega) W (d+1) _ _ _ _ T1 (fun w hw=>by have:=hW w hw;omega) hWp (by omega) (by omega)
      refine ⟨h',n',cs',id',e2,?_⟩
      rw [← e1]
      have gs:=T.gs
      generalize kmap (stay (ra.take (i+1)) l A)=S0 at *
      have c3:¬ (W[t].length:Int) < ks[t].pl:=by omega
      have g4:=T.g4
      rw [ck_unf w280_B1.eq_1]
      rcases hP with ⟨p0,p1,p2⟩ | ⟨p0,p1,p2⟩
      · rw [p1] at hv
        rw [p0] at c3
        simp at c3
        have c4:¬ 0 < ks[t].pl:=by omega
        cases u with
        | none =>
         simp at hg
         simp (disch:=omega) [T.g0,T.g2,T.g3,g4,T.g5,gs,T.gp,p2,h3,ht,htl,htc,hg,hv,c3,c4,getPut_self,getPut_ne,putPut,wI64]
        | some u =>
         simp at hg
         have hun2:¬ u=(t:Int):=fun q=>hun (by rw [q])
         simp (disch:=omega) [T.g0,T.g2,T.g3,g4,T.g5,gs,T.gp,p2,h3,ht,htl,htc,hg,hv,c3,c4,hun2,getPut_self,getPut_ne,putPut,wI64]
      · rw [p1] at hv
        cases u with
        | none =>
         simp at hg
         simp (disch:=omega) [T.g0,T.g2,T.g3,g4,T.g5,gs,T.gp,p2,h3,ht,htl,htc,hg,hv,c3,getPut_self,getPut_ne,putPut,wI64]
        | some u =>
         simp at hg
         have hun2:¬ u=(t:Int):=fun q=>hun (by rw [q])
         simp (disch:=omega) [T.g0,T.g2,T.g3,g4,T.g5,gs,T.gp,p2,h3,ht,htl,htc,hg,hv,c3,hun2,getPut_self,getPut_ne,putPut,wI64]
    · have hcm:∀ r s,cm1 ks l A (ra[i]::r) (W,s)=cm1 ks l A r (W.set t (W[t]++[ra[i]]),s):=by
       intro r s
       have:ra[i].t.toNat=t:=by omega
       simp only [cm1,if_neg c]
       rw [if_neg (by rw [hrow,hpl];exact c2),hrow,this]
      rw [hcm]
      have hft:(W[t].length+1) * 121≤35184372088832:=by omega
      have c3:(W[t].length:Int) < ks[t].pl:=by omega
      have hplt:plAt ks t=ks[t].pl:=by rw [← ht];exact hpl
      have hWn:∀ w ∈ W.set t (W[t]++[ra[i]]),w.length+m≤1000000:=by
       intro w hw
       rcases List.mem_or_eq_of_mem_set hw with q | q
       · have:=hW w q;omega
       · subst q;simp;omega
      have hWpn:∀ (j:Nat) (w:List Hd),(W.set t (W[t]++[ra[i]]))[j]?=some w→(w.length:Int)≤plAt ks j:=by
       intro j w hw
       rw [List.getElem?_set] at hw
       split at hw
       · rename_i q
         subst q
         obtain rfl:=Option.some.inj hw
         rw [hplt];simp;omega
       · exact hWp j w hw
      have gs:=T.gs
      have g4:=T.g4
      rcases hP with ⟨p0,p1,p2⟩ | ⟨p0,p1,p2⟩
      · rw [p1] at hv
        have T1:=T.setP vw ov ls ks ke cap ar fl l e t htl (next+47) (.inr (by omega)) (show next+47 < next+52 by omega) (by omega) (.sl (next+47) 8 0 1 1 false) (W[t]++[ra[i]])
         (h':=put (put (put (put h (next+3) (.cells 8 [(AV.int .u64 ra[i].k::AV.int .u8 t::ra[i].n.c)] true true)) (next+46) (.cells 8 [(AV.int .u64 ra[i].k::AV.int .u8 t::ra[i].n.c)] true true)) (next+47) (.cells 8 [(AV.int .u64 ra[i].k::AV.int .u8 t::ra[i].n.c)] true true)) pb (.cells 1 (cs.set t [.sl (next+47) 8 0 1 1 false]) true false))
         (.inr ⟨by simp,by rw [p0];rfl,by simp (disch:=omega) only [getPut_self,getPut_ne];rw [p0];simp [ht]⟩) (by rw [getPut_self]) (fun j h1 h2 h3=>by simp (disch:=omega) only [getPut_self,getPut_ne])
        obtain ⟨h',n',cs',id',e2,e1⟩:=ih (i+1) (by omega) _ d _ _ _ _ T1 hWn hWpn h0 (by omega)
        refine ⟨h',n',cs',id',e2,?_⟩
        rw [← e1]
        generalize kmap (stay (ra.take (i+1)) l A)=S0 at *
        rw [ck_unf w280_B1.eq_1]
        rw [p0] at c3
        simp at c3
        cases u with
        | none =>
         simp at hg
         simp (disch:=omega) [T.g0,T.g2,T.g3,g4,T.g5,gs,T.gp,p2,h3,ht,htl,htc,hg,hv,c3,getPut_self,getPut_ne,getDel_ne,putPut,wI64,ltF,gtF,neF,fits]
        | some u =>
         simp at hg
         have hun2:¬ u=(t:Int):=fun q=>hun (by rw [q])
         simp (disch:=omega) [T.g0,T.g2,T.g3,g4,T.g5,gs,T.gp,p2,h3,ht,htl,htc,hg,hv,c3,hun2,getPut_self,getPut_ne,getDel_ne,putPut,wI64,ltF,gtF,neF,fits]
      · rw [p1] at hv
        have T1:=T.setP vw ov ls ks ke cap ar fl l e t htl (next+47) (.inr (by omega)) (show next+47 < next+52 by omega) (by omega) (.sl (next+47) 8 0 (W[t].length+1) (W[t].length+1) false) (W[t]++[ra[i]])
         (h':=put (put (del (put (put h (next+3) (.cells 8 [(AV.int .u64 ra[i].k::AV.int .u8 t::ra[i].n.c)] true true)) (next+46) (.cells 8 [(AV.int .u64 ra[i].k::AV.int .u8 t::ra[i].n.c)] true true)) (id t)) (next+47) (.cells 8 (eHs W[t]++[(AV.int .u64 ra[i].k::AV.int .u8 t::ra[i].n.c)]) true true)) pb (.cells 1 (cs.set t [.sl (next+47) 8 0 (W[t].length+1) (W[t].length+1) false]) true false))
         (.inr ⟨by simp,by simp,by simp (disch:=omega) only [getPut_self,getPut_ne];simp [ht]⟩) (by rw [getPut_self]) (fun j h1 h2 h3=>by
          have:=Ne.symm h2
          simp (disch:=omega) only [getPut_self,getPut_ne,getDel_ne])
        obtain ⟨h',n',cs',id',e2,e1⟩:=ih (i+1) (by omega) _ d _ _ _ _ T1 hWn hWpn h0 (by omega)
        refine ⟨h',n',cs',id',e2,?_⟩
        rw [← e1]
        generalize kmap (stay (ra.take (i+1)) l A)=S0 at *
        rw [ck_unf w280_B1.eq_1]
        cases u with
        | none =>
         simp at hg
         simp (disch:=omega) [T.g0,T.g2,T.g3,g4,T.g5,gs,T.gp,p2,h3,ht,htl,htc,hg,hv,c3,getPut_self,getPut_ne,getDel_ne,putPut,wI64,ltF,gtF,neF,hft]
        | some u =>
         simp at hg
         have hun2:¬ u=(t:Int):=fun q=>hun (by rw [q])
         simp (disch:=omega) [T.g0,T.g2,T.g3,g4,T.g5,gs,T.gp,p2,h3,ht,htl,htc,hg,hv,c3,hun2,getPut_self,getPut_ne,getDel_ne,putPut,wI64,ltF,gtF,neF,hft]
end
end Go.D
end
section
namespace Go.D
open Go Go.Pav Go.Pw P
set_option maxHeartbeats 2000000
attribute [-simp] List.getElem_cons_drop
variable {C:WProg}
section
variable (vw ov ls:Int) (ks:List Kd) (ke:Bool) (cap ar fl:Int) (l:List En) (e:Bool)
theorem PcO.any {M S:List (AV × AV)} {sb pb lo:Nat} {RW:AV} {W:List (List Hd)} {N:List Int} {h:WHeap} {next:Nat} {cs:List (List AV)} {id:Nat→Nat}
 (T:PcO vw ov ls ks ke cap ar fl l e M S sb pb lo RW FullH W N h next cs id):PcO vw ov ls ks ke cap ar fl l e M S sb pb lo RW AnyH W N h next cs id :=
 ⟨T.g0,T.g2,T.g3,T.g4,T.g5,T.gs,T.gp,T.R.weak (fun _ _ _ _ q=>q.any),T.wl,T.ne,T.nd⟩
theorem pcr_loop (H:HasQz C) (tp:En→Nd) (A:List Nat) (f:Bool) (ra:List Hd) (hA:A.length≤1000) (hAl:∀ a ∈ A,a < l.length) (hll:l.length≤100000)
 (hty:∀ x ∈ l,∃ t:Nat,x.i.t=t∧t < ks.length) (htr:∀ (a:Nat) (h:a < l.length) (q:Bool),FnW C 238 [aR ks ke cap,aL [l[a]] q,.int .i64 0]=some (.tup [.agg (tp l[a]).c,.int .i64 0]))
 (M S:List (AV × AV)) (hS:∀ a ∈ A,∀ (h:a < l.length),mapGet S (.int .u64 l[a].i.k)=some (if wasF ra l[a]=true then some (.bool true) else none)) (sb pb lo:Nat):∀ m i,m+i=A.length→∀ (RW:AV) (O:List Hd) (rbk:Nat) (W:List (List Hd)) (rb mk d:Int) (h:WHeap) (next:Nat) (cs:List (List AV)) (id:Nat→Nat),
 PcO vw ov ls ks ke cap ar fl l e M S sb pb lo RW AnyH W [rb,mk,d,0] h next cs id→RwsI ks pb sb sb lo RW O rbk h next id→O.length+m≤1000000→0≤rb→rb+m≤1000000→0≤mk→mk+m≤1000000→(∀ w ∈ W,w.length≤1000000) →
 ∃ h' next' cs' id' RW' rbk',CK C 0 (pureFin [.cell 8 2 true,.cell 9 4 true]) [.sq w280_L0,.bk 7 ⟨true,[9,8],[(9999,65537)]⟩,.sq w280_c0] w280_B0
  ⟨[(127,.int .i64 i),(126,.int .i64 A.length),(125,.ro 1 (A.map eAt) f),(16,.map sb),(9,.ptr 4 0 0),(8,.ptr 3 0 0),(6,.ptr 2 0 0),(4,.ptr 0 0 0)],h,next⟩ =
  CK C 0 (pureFin [.cell 8 2 true,.cell 9 4 true]) [] w280_c0 ⟨[(9,.ptr 4 0 0),(8,.ptr 3 0 0)],h',next'⟩ ∧
  PcO vw ov ls ks ke cap ar fl l e M S sb pb lo RW' AnyH (cm2 tp ra l (A.drop i) (O,W,rb,mk)).2.1 [(cm2 tp ra l (A.drop i) (O,W,rb,mk)).2.2.1,(cm2 tp ra l (A.drop i) (O,W,rb,mk)).2.2.2,d,0] h' next' cs' id' ∧
  RwsI ks pb sb sb lo RW' (cm2 tp ra l (A.drop i) (O,W,rb,mk)).1 rbk' h' next' id':=by
 intro m
 induction m with
 | zero =>
  intro i hi RW O rbk W rb mk d h next cs id T U hO hrb hrb2 hmk hmk2 hW
  have h2:A.drop i=[]:=List.drop_eq_nil_of_le (by omega)
  have h3:¬ i < A.length:=by omega
  rw [h2]
  refine ⟨h,next+1,cs,id,RW,rbk,?_,T.later vw ov ls ks ke cap ar fl l e (by omega) (fun _ _=>rfl),?_⟩
  · rw [ck_unf w280_B0.eq_1]
    simp (disch:=omega) [h3]
  · rcases U with u | ⟨u1,u2,u3,u4,u5,u6⟩
    · exact .inl u
    · exact .inr ⟨u1,u2,u3,u4,by omega,u6⟩
 | succ m ih =>
  intro i hi RW O rbk W rb mk d h next cs id T U hO hrb hrb2 hmk hmk2 hW
  have h3:i < A.length:=by omega
  have hAi:=hAl _ (List.getElem_mem h3)
  obtain ⟨t,ht,htl⟩:=hty _ (List.getElem_mem hAi)
  have htree:FnW C 238 [.agg [.ro 9 (ks.map eKd) ke,.int .i64 cap],.agg [.ro 6 [[.int .u64 l[A[i]].i.k,.int .u8 (t:Int),.str l[A[i]].i.x,.ro 1 (l[A[i]].i.m.map eS) l[A[i]].i.e,.int .i64 l[A[i]].s,.bool l[A[i]].kn]] true],.int .i64 0]=some (.tup [.agg (tp l[A[i]]).c,.int .i64 0]):=by
   rw [← ht];exact htr A[i] hAi true
  have hrules:=hrules_ok H.toHasQk vw ov ls ks ke cap ar fl
  have hg:=hS _ (List.getElem_mem h3) hAi
  have ne:=T.ne
  have hwl:=T.wl
  have htW:t < W.length:=by omega
  have hcl:cs.length=ks.length:=by rw [T.R.len,hwl]
  have htc:t < cs.length:=by omega
  have hW1:=hW _ (List.getElem_mem htW)
  have hrow:rowAt W l[A[i]].i.t=W[t]:=by rw [ht];simp [rowAt,htW]
  have hft:(O.length+1) * 121≤35184372088832:=by omega
  have hA1:A[i]+1≤l.length:=by omega
  have hsl:List.drop A[i] (List.take (A[i]+1) (l.map eEn))=[eEn l[A[i]]]:=by
   rw [List.drop_take,List.drop_eq_getElem_cons (by simpa using hAi)];simp
  rw [drop_cons h3]
  obtain ⟨v,hv,hP⟩:=T.R.row t W[t] (List.getElem?_eq_getElem htW)
  rw [List.getElem?_eq_getElem htc] at hv
  replace hv:=Option.some.inj hv
  obtain ⟨cap2,ex,es,rfl,q1,q2,q3,q4⟩:=hP
  have bd:=T.R.bd t htW
  have nd:=T.nd t htl
  have hatt:l[A[i]].i.t.toNat=t:=by omega
  have gp:=T.gp
  have gs:=T.gs
  have g4:=T.g4
  have g5:=T.g5
  rcases U with ⟨u1,u2⟩ | ⟨u1,u2,u3,u4,u5,u6,u7,u8,u9⟩
  · subst u1;subst u2
    obtain ⟨L,hL⟩:∃ L,L=CK C 0 (pureFin [.cell 8 2 true,.cell 9 4 true]) [.sq w280_L0,.bk 7 ⟨true,[9,8],[(9999,65537)]⟩,.sq w280_c0] w280_B0 ⟨[(127,.int .i64 i),(126,.int .i64 A.length),(125,.ro 1 (A.map eAt) f),(16,.map sb),(9,.ptr 4 0 0),(8,.ptr 3 0 0),(6,.ptr 2 0 0),(4,.ptr 0 0 0)],h,next⟩:=⟨_,rfl⟩
    rw [← hL]
    rw [ck_unf w280_B0.eq_1] at hL
    simp (disch:=omega) [T.g0,T.g2,T.g3,g4,gp,gs,hv,h3,hAi,getPut_self,getPut_ne,getDel_ne,H.toHasEq.inl,inlB,H.toHasEq.pp,ppB,htree,hrules,wI64,putPut,ltF,gtF,neF,fits,hft,ht,htl,htc,hA1,hsl] at hL
    by_cases c:wasF ra l[A[i]]=true
    · have hcm:∀ O r,cm2 tp ra l (A[i]::r) (O,W,rb,mk)=cm2 tp ra l r (O++[⟨l[A[i]].i.k,l[A[i]].i.t,tp l[A[i]]⟩],W,rb,mk):=by
       intro O r
       simp only [cm2,List.getElem?_eq_getElem hAi,c,if_true]
      rw [if_pos c] at hg
      have T1:PcO vw ov ls ks ke cap ar fl l e M S sb pb lo (.sl (next+39) 8 0 1 1 false) AnyH W [rb,mk,d,0] (put (put (put (put (put h (next+10) (.cells 4 [[AV.int .u64 l[A[i]].i.k,AV.int .u8 (t:Int),AV.str l[A[i]].i.x,AV.ro 1 (List.map eS l[A[i]].i.m) l[A[i]].i.e]] true true)) (next+27) (.cells 6 [(tp l[A[i]]).c] true true)) (next+38) (.cells 8 [(AV.int .u64 l[A[i]].i.k::AV.int .u8 (t:Int)::(tp l[A[i]]).c)] true true)) (next+39) (.cells 8 [(AV.int .u64 l[A[i]].i.k::AV.int .u8 (t:Int)::(tp l[A[i]]).c)] true true)) 3 (.cells 2 [[.sl (next+39) 8 0 1 1 false,.sl pb 1 0 ks.length ks.length true]] true false)) (next+60) cs id:=by
       refine ⟨?_,?_,?_,?_,?_,?_,?_,T.R.mono (by omega) (fun j hj=>by have:=T.R.bd j (by omega);have:=T.nd j (by omega);simp (disch:=omega) only [getPut_self,getPut_ne,getDel_ne]),by simp [hwl],by omega,fun j hj=>?_⟩
       · simp (disch:=omega) only [getPut_self,getPut_ne,getDel_ne];exact T.g0
       · simp (disch:=omega) only [getPut_self,getPut_ne,getDel_ne];exact T.g2
       · simp (disch:=omega) only [getPut_self,getPut_ne,getDel_ne]
       · simp (disch:=omega) only [getPut_self,getPut_ne,getDel_ne];exact g4
       · simp (disch:=omega) only [getPut_self,getPut_ne,getDel_ne];exact g5
       · simp (disch:=omega) only [getPut_self,getPut_ne,getDel_ne];exact gs
       · simp (disch:=omega) only [getPut_self,getPut_ne,getDel_ne];exact gp
       · have:=T.nd j hj
         exact this
      have U1:RwsI ks pb sb sb lo (.sl (next+39) 8 0 1 1 false) [⟨l[A[i]].i.k,l[A[i]].i.t,tp l[A[i]]⟩] (next+39) (put (put (put (put (put h (next+10) (.cells 4 [[AV.int .u64 l[A[i]].i.k,AV.int .u8 (t:Int),AV.str l[A[i]].i.x,AV.ro 1 (List.map eS l[A[i]].i.m) l[A[i]].i.e]] true true)) (next+27) (.cells 6 [(tp l[A[i]]).c] true true)) (next+38) (.cells 8 [(AV.int .u64 l[A[i]].i.k::AV.int .u8 (t:Int)::(tp l[A[i]]).c)] true true)) (next+39) (.cells 8 [(AV.int .u64 l[A[i]].i.k::AV.int .u8 (t:Int)::(tp l[A[i]]).c)] true true)) 3 (.cells 2 [[.sl (next+39) 8 0 1 1 false,.sl pb 1 0 ks.length ks.length true]] true false)) (next+60) id:=by
       refine .inr ⟨by simp,by simp,?_,by omega,by omega,by omega,by omega,by omega,fun j hj=>?_⟩
       · simp (disch:=omega) only [getPut_self,getPut_ne,getDel_ne];simp [ht]
       · have:=T.R.bd j (by omega);have:=T.R.bd t htW;omega
      obtain ⟨h',n',cs',id',RW',rbk',e1,e2,e3⟩:=ih (i+1) (by omega) _ [⟨l[A[i]].i.k,l[A[i]].i.t,tp l[A[i]]⟩] _ W rb mk d _ _ _ _ T1 U1 (by simp;omega) (by omega) (by omega) (by omega) (by omega) hW
      refine ⟨h',n',cs',id',RW',rbk',?_,by rw [hcm];exact e2,by rw [hcm];exact e3⟩
      rw [hL,← e1]
      simp (disch:=omega) [T.g0,T.g2,T.g3,g4,gp,gs,hAi,getPut_self,getPut_ne,getDel_ne,H.toHasEq.inl,inlB,H.toHasEq.pp,ppB,wI64,putPut,ltF,gtF,neF,fits,hft,ht,htl,htc,hv,hg]
    · have c':wasF ra l[A[i]]=false:=by simpa using c
      rw [if_neg c] at hg
      by_cases c3:W[t].length=0
      · have hcm:∀ O r,cm2 tp ra l (A[i]::r) (O,W,rb,mk)=cm2 tp ra l r (O++[⟨l[A[i]].i.k,l[A[i]].i.t,tp l[A[i]]⟩],W,rb,mk+1):=by
         intro O r
         simp only [cm2,List.getElem?_eq_getElem hAi,c',hrow,c3,if_true,Bool.false_eq_true,if_false]
        have T1:PcO vw ov ls ks ke cap ar fl l e M S sb pb lo (.sl (next+39) 8 0 1 1 false) AnyH W [rb,mk+1,d,0] (put (put (put (put (put (put h (next+10) (.cells 4 [[AV.int .u64 l[A[i]].i.k,AV.int .u8 (t:Int),AV.str l[A[i]].i.x,AV.ro 1 (List.map eS l[A[i]].i.m) l[A[i]].i.e]] true true)) (next+27) (.cells 6 [(tp l[A[i]]).c] true true)) (next+38) (.cells 8 [(AV.int .u64 l[A[i]].i.k::AV.int .u8 (t:Int)::(tp l[A[i]]).c)] true true)) (next+39) (.cells 8 [(AV.int .u64 l[A[i]].i.k::AV.int .u8 (t:Int)::(tp l[A[i]]).c)] true true)) 3 (.cells 2 [[.sl (next+39) 8 0 1 1 false,.sl pb 1 0 ks.length ks.length true]] true false)) 4 (.cells 4 [[.int .i64 rb,.int .i64 (mk+1),.int .i64 d,.int .i64 0]] true true)) (next+68) cs id:=by
         refine ⟨?_,?_,?_,?_,?_,?_,?_,T.R.mono (by omega) (fun j hj=>by have:=T.R.bd j (by omega);have:=T.nd j (by omega);simp (disch:=omega) only [getPut_self,getPut_ne,getDel_ne]),by simp [hwl],by omega,fun j hj=>?_⟩
         · simp (disch:=omega) only [getPut_self,getPut_ne,getDel_ne];exact T.g0
         · simp (disch:=omega) only [getPut_self,getPut_ne,getDel_ne];exact T.g2
         · simp (disch:=omega) only [getPut_self,getPut_ne,getDel_ne]
         · simp (disch:=omega) only [getPut_self,getPut_ne,getDel_ne];rfl
         · simp (disch:=omega) only [getPut_self,getPut_ne,getDel_ne];exact g5
         · simp (disch:=omega) only [getPut_self,getPut_ne,getDel_ne];exact gs
         · simp (disch:=omega) only [getPut_self,getPut_ne,getDel_ne];exact gp
         · have:=T.nd j hj
           exact this
        have U1:RwsI ks pb sb sb lo (.sl (next+39) 8 0 1 1 false) [⟨l[A[i]].i.k,l[A[i]].i.t,tp l[A[i]]⟩] (next+39) (put (put (put (put (put (put h (next+10) (.cells 4 [[AV.int .u64 l[A[i]].i.k,AV.int .u8 (t:Int),AV.str l[A[i]].i.x,AV.ro 1 (List.map eS l[A[i]].i.m) l[A[i]].i.e]] true true)) (next+27) (.cells 6 [(tp l[A[i]]).c] true true)) (next+38) (.cells 8 [(AV.int .u64 l[A[i]].i.k::AV.int .u8 (t:Int)::(tp l[A[i]]).c)] true true)) (next+39) (.cells 8 [(AV.int .u64 l[A[i]].i.k::AV.int .u8 (t:Int)::(tp l[A[i]]).c)] true true)) 3 (.cells 2 [[.sl (next+39) 8 0 1 1 false,.sl pb 1 0 ks.length ks.length true]] true false)) 4 (.cells 4 [[.int .i64 rb,.int .i64 (mk+1),.int .i64 d,.int .i64 0]] true true)) (next+68) id:=by
         refine .inr ⟨by simp,by simp,?_,by omega,by omega,by omega,by omega,by omega,fun j hj=>?_⟩
         · simp (disch:=omega) only [getPut_self,getPut_ne,getDel_ne];simp [ht]
         · have:=T.R.bd j (by omega);have:=T.R.bd t htW;omega
        obtain ⟨h',n',cs',id',RW',rbk',e1,e2,e3⟩:=ih (i+1) (by omega) _ [⟨l[A[i]].i.k,l[A[i]].i.t,tp l[A[i]]⟩] _ W rb (mk+1) d _ _ _ _ T1 U1 (by simp;omega) (by omega) (by omega) (by omega) (by omega) hW
        refine ⟨h',n',cs',id',RW',rbk',?_,by rw [hcm];exact e2,by rw [hcm];exact e3⟩
        rw [hL,← e1]
        simp (disch:=omega) [T.g0,T.g2,T.g3,g4,gp,gs,hAi,getPut_self,getPut_ne,getDel_ne,H.toHasEq.inl,inlB,H.toHasEq.pp,ppB,wI64,putPut,ltF,gtF,neF,fits,hft,ht,htl,htc,hv,hg,c3]
      · obtain ⟨n,hn⟩:∃ n,W[t].length=n+1:=⟨W[t].length - 1,by omega⟩
        have hcm:∀ O r,cm2 tp ra l (A[i]::r) (O,W,rb,mk)=cm2 tp ra l r (O++[⟨l[A[i]].i.k,l[A[i]].i.t,tp l[A[i]]⟩],W.set t (W[t].take n),rb+1,mk):=by
         intro O r
         have:W[t].length - 1=n:=by omega
         simp only [cm2,List.getElem?_eq_getElem hAi,c',hrow,c3,Bool.false_eq_true,if_false,hatt,this]
        have hnl:(W[t].take n).length=n:=by simp;omega
        have hwn:IntKind.i64.wrap (n:Int)=n:=wI64 (by omega) (by omega)
        have hne0:¬ ((n:Int)+1=0):=by omega
        have hncap:n≤cap2:=by omega
        have hcap1:n+1≤cap2:=by omega
        have hcap0:0 < cap2:=by omega
        have hif:(if 0 < n then some (AV.sl (id t) 8 0 n n true) else some (AV.sl (id t) 8 0 0 0 true))=some (AV.sl (id t) 8 0 n n true):=by
         split
         · rfl
         · rw [show n=0 by omega]
        have hWs:∀ w ∈ W.set t (W[t].take n),w.length≤1000000:=by
         intro w hw
         rcases List.mem_or_eq_of_mem_set hw with q | q
         · exact hW w q
         · subst q;omega
        have hANY:∀ o,o=some (WObj.cells 8 (eHs es) true true)→AnyH o (id t) (.sl (id t) 8 0 n n true) (W[t].take n):=by
         rintro o rfl
         refine ⟨n,true,es,by rw [hnl],by omega,by omega,?_,rfl⟩
         rw [hnl,← q3,List.take_take]
         congr 1
         omega
        have T1:PcO vw ov ls ks ke cap ar fl l e M S sb pb lo (.sl (next+39) 8 0 1 1 false) AnyH (W.set t (W[t].take n)) [rb+1,mk,d,0] (put (put (put (put (put (put (put h (next+10) (.cells 4 [[AV.int .u64 l[A[i]].i.k,AV.int .u8 (t:Int),AV.str l[A[i]].i.x,AV.ro 1 (List.map eS l[A[i]].i.m) l[A[i]].i.e]] true true)) (next+27) (.cells 6 [(tp l[A[i]]).c] true true)) (next+38) (.cells 8 [(AV.int .u64 l[A[i]].i.k::AV.int .u8 (t:Int)::(tp l[A[i]]).c)] true true)) (next+39) (.cells 8 [(AV.int .u64 l[A[i]].i.k::AV.int .u8 (t:Int)::(tp l[A[i]]).c)] true true)) 3 (.cells 2 [[.sl (next+39) 8 0 1 1 false,.sl pb 1 0 ks.length ks.length true]] true false)) pb (.cells 1 (cs.set t [.sl (id t) 8 0 n n true]) true false)) 4 (.cells 4 [[.int .i64 (rb+1),.int .i64 mk,.int .i64 d,.int .i64 0]] true true)) (next+79) (cs.set t [.sl (id t) 8 0 n n true]) (fun j=>if j=t then id t else id j):=by
         refine ⟨?_,?_,?_,?_,?_,?_,?_,T.R.set t htW (id t) (.inl rfl) bd.1 (by omega) (by omega) _ _ (fun j hj hjt=>by have:=T.R.bd j (by omega);have:=T.nd j (by omega);simp (disch:=omega) only [getPut_self,getPut_ne,getDel_ne]) (hANY _ (by simp (disch:=omega) only [getPut_self,getPut_ne,getDel_ne];exact q4)),by simp [hwl],by omega,fun j hj=>?_⟩
         · simp (disch:=omega) only [getPut_self,getPut_ne,getDel_ne];exact T.g0
         · simp (disch:=omega) only [getPut_self,getPut_ne,getDel_ne];exact T.g2
         · simp (disch:=omega) only [getPut_self,getPut_ne,getDel_ne]
         · simp (disch:=omega) only [getPut_self,getPut_ne,getDel_ne];rfl
         · simp (disch:=omega) only [getPut_self,getPut_ne,getDel_ne];exact g5
         · simp (disch:=omega) only [getPut_self,getPut_ne,getDel_ne];exact gs
         · simp (disch:=omega) only [getPut_self,getPut_ne,getDel_ne]
         · have h1:=T.nd j hj
           have h2:=T.nd t htl
           split <;> assumption
        have U1:RwsI ks pb sb sb lo (.sl (next+39) 8 0 1 1 false) [⟨l[A[i]].i.k,l[A[i]].i.t,tp l[A[i]]⟩] (next+39) (put (put (put (put (put (put (put h (next+10) (.cells 4 [[AV.int .u64 l[A[i]].i.k,AV.int .u8 (t:Int),AV.str l[A[i]].i.x,AV.ro 1 (List.map eS l[A[i]].i.m) l[A[i]].i.e]] true true)) (next+27) (.cells 6 [(tp l[A[i]]).c] true true)) (next+38) (.cells 8 [(AV.int .u64 l[A[i]].i.k::AV.int .u8 (t:Int)::(tp l[A[i]]).c)] true true)) (next+39) (.cells 8 [(AV.int .u64 l[A[i]].i.k::AV.int .u8 (t:Int)::(tp l[A[i]]).c)] true true)) 3 (.cells 2 [[.sl (next+39) 8 0 1 1 false,.sl pb 1 0 ks.length ks.length true]] true false)) pb (.cells 1 (cs.set t [.sl (id t) 8 0 n n true]) true false)) 4 (.cells 4 [[.int .i64 (rb+1),.int .i64 mk,.int .i64 d,.int .i64 0]] true true)) (next+79) (fun j=>if j=t then id t else id j):=by
         refine .inr ⟨by simp,by simp,?_,by omega,by omega,by omega,by omega,by omega,fun j hj=>?_⟩
         · simp (disch:=omega) only [getPut_self,getPut_ne,getDel_ne];simp [ht]
         · have:=T.R.bd j (by omega);have:=T.R.bd t htW;show (if j=t then id t else id j)≠next+39;split <;> omega
        obtain ⟨h',n',cs',id',RW',rbk',e1,e2,e3⟩:=ih (i+1) (by omega) _ [⟨l[A[i]].i.k,l[A[i]].i.t,tp l[A[i]]⟩] _ (W.set t (W[t].take n)) (rb+1) mk d _ _ _ _ T1 U1 (by simp;omega) (by omega) (by omega) (by omega) (by omega) hWs
        refine ⟨h',n',cs',id',RW',rbk',?_,by rw [hcm];exact e2,by rw [hcm];exact e3⟩
        rw [hL,← e1]
        simp (disch:=omega) [T.g0,T.g2,T.g3,g4,gp,gs,hAi,getPut_self,getPut_ne,getDel_ne,H.toHasEq.inl,inlB,H.toHasEq.pp,ppB,wI64,putPut,ltF,gtF,neF,fits,hft,ht,htl,htc,hv,hg,hn,hwn,hncap,hne0,hcap1,hcap0,hif]
  · subst u2
    obtain ⟨L,hL⟩:∃ L,L=CK C 0 (pureFin [.cell 8 2 true,.cell 9 4 true]) [.sq w280_L0,.bk 7 ⟨true,[9,8],[(9999,65537)]⟩,.sq w280_c0] w280_B0 ⟨[(127,.int .i64 i),(126,.int .i64 A.length),(125,.ro 1 (A.map eAt) f),(16,.map sb),(9,.ptr 4 0 0),(8,.ptr 3 0 0),(6,.ptr 2 0 0),(4,.ptr 0 0 0)],h,next⟩:=⟨_,rfl⟩
    rw [← hL]
    rw [ck_unf w280_B0.eq_1] at hL
    simp (disch:=omega) [T.g0,T.g2,T.g3,g4,gp,gs,hv,h3,hAi,getPut_self,getPut_ne,getDel_ne,H.toHasEq.inl,inlB,H.toHasEq.pp,ppB,htree,hrules,wI64,putPut,ltF,gtF,neF,fits,hft,ht,htl,htc,hA1,hsl,u3] at hL
    by_cases c:wasF ra l[A[i]]=true
    · have hcm:∀ O r,cm2 tp ra l (A[i]::r) (O,W,rb,mk)=cm2 tp ra l r (O++[⟨l[A[i]].i.k,l[A[i]].i.t,tp l[A[i]]⟩],W,rb,mk):=by
       intro O r
       simp only [cm2,List.getElem?_eq_getElem hAi,c,if_true]
      rw [if_pos c] at hg
      have T1:PcO vw ov ls ks ke cap ar fl l e M S sb pb lo (.sl (next+39) 8 0 (O.length+1) (O.length+1) false) AnyH W [rb,mk,d,0] (put (put (del (put (put (put h (next+10) (.cells 4 [[AV.int .u64 l[A[i]].i.k,AV.int .u8 (t:Int),AV.str l[A[i]].i.x,AV.ro 1 (List.map eS l[A[i]].i.m) l[A[i]].i.e]] true true)) (next+27) (.cells 6 [(tp l[A[i]]).c] true true)) (next+38) (.cells 8 [(AV.int .u64 l[A[i]].i.k::AV.int .u8 (t:Int)::(tp l[A[i]]).c)] true true)) rbk) (next+39) (.cells 8 (eHs O++[(AV.int .u64 l[A[i]].i.k::AV.int .u8 (t:Int)::(tp l[A[i]]).c)]) true true)) 3 (.cells 2 [[.sl (next+39) 8 0 (O.length+1) (O.length+1) false,.sl pb 1 0 ks.length ks.length true]] true false)) (next+60) cs id:=by
       refine ⟨?_,?_,?_,?_,?_,?_,?_,T.R.mono (by omega) (fun j hj=>by have:=T.R.bd j (by omega);have:=T.nd j (by omega);have:=u9 j (by omega);simp (disch:=omega) only [getPut_self,getPut_ne,getDel_ne]),by simp [hwl],by omega,fun j hj=>?_⟩
       · simp (disch:=omega) only [getPut_self,getPut_ne,getDel_ne];exact T.g0
       · simp (disch:=omega) only [getPut_self,getPut_ne,getDel_ne];exact T.g2
       · simp (disch:=omega) only [getPut_self,getPut_ne,getDel_ne]
       · simp (disch:=omega) only [getPut_self,getPut_ne,getDel_ne];exact g4
       · simp (disch:=omega) only [getPut_self,getPut_ne,getDel_ne];exact g5
       · simp (disch:=omega) only [getPut_self,getPut_ne,getDel_ne];exact gs
       · simp (disch:=omega) only [getPut_self,getPut_ne,getDel_ne];exact gp
       · have:=T.nd j hj
         exact this
      have U1:RwsI ks pb sb sb lo (.sl (next+39) 8 0 (O.length+1) (O.length+1) false) (O++[⟨l[A[i]].i.k,l[A[i]].i.t,tp l[A[i]]⟩]) (next+39) (put (put (del (put (put (put h (next+10) (.cells 4 [[AV.int .u64 l[A[i]].i.k,AV.int .u8 (t:Int),AV.str l[A[i]].i.x,AV.ro 1 (List.map eS l[A[i]].i.m) l[A[i]].i.e]] true true)) (next+27) (.cells 6 [(tp l[A[i]]).c] true true)) (next+38) (.cells 8 [(AV.int .u64 l[A[i]].i.k::AV.int .u8 (t:Int)::(tp l[A[i]]).c)] true true)) rbk) (next+39) (.cells 8 (eHs O++[(AV.int .u64 l[A[i]].i.k::AV.int .u8 (t:Int)::(tp l[A[i]]).c)]) true true)) 3 (.cells 2 [[.sl (next+39) 8 0 (O.length+1) (O.length+1) false,.sl pb 1 0 ks.length ks.length true]] true false)) (next+60) id:=by
       refine .inr ⟨by simp,by simp,?_,by omega,by omega,by omega,by omega,by omega,fun j hj=>?_⟩
       · simp (disch:=omega) only [getPut_self,getPut_ne,getDel_ne];simp [ht]
       · have:=T.R.bd j (by omega);have:=T.R.bd t htW;omega
      obtain ⟨h',n',cs',id',RW',rbk',e1,e2,e3⟩:=ih (i+1) (by omega) _ (O++[⟨l[A[i]].i.k,l[A[i]].i.t,tp l[A[i]]⟩]) _ W rb mk d _ _ _ _ T1 U1 (by simp;omega) (by omega) (by omega) (by omega) (by omega) hW
      refine ⟨h',n',cs',id',RW',rbk',?_,by rw [hcm];exact e2,by rw [hcm];exact e3⟩
      rw [hL,← e1]
      simp (disch:=omega) [T.g0,T.g2,T.g3,g4,gp,gs,hAi,getPut_self,getPut_ne,getDel_ne,H.toHasEq.inl,inlB,H.toHasEq.pp,ppB,wI64,putPut,ltF,gtF,neF,fits,hft,ht,htl,htc,hv,hg,u3]
    · have c':wasF ra l[A[i]]=false:=by simpa using c
      rw [if_neg c] at hg
      by_cases c3:W[t].length=0
      · have hcm:∀ O r,cm2 tp ra l (A[i]::r) (O,W,rb,mk)=cm2 tp ra l r (O++[⟨l[A[i]].i.k,l[A[i]].i.t,tp l[A[i]]⟩],W,rb,mk+1):=by
         intro O r
         simp only [cm2,List.getElem?_eq_getElem hAi,c',hrow,c3,if_true,Bool.false_eq_true,if_false]
        have T1:PcO vw ov ls ks ke cap ar fl l e M S sb pb lo (.sl (next+39) 8 0 (O.length+1) (O.length+1) false) AnyH W [rb,mk+1,d,0] (put (put (put (del (put (put (put h (next+10) (.cells 4 [[AV.int .u64 l[A[i]].i.k,AV.int .u8 (t:Int),AV.str l[A[i]].i.x,AV.ro 1 (List.map eS l[A[i]].i.m) l[A[i]].i.e]] true true)) (next+27) (.cells 6 [(tp l[A[i]]).c] true true)) (next+38) (.cells 8 [(AV.int .u64 l[A[i]].i.k::AV.int .u8 (t:Int)::(tp l[A[i]]).c)] true true)) rbk) (next+39) (.cells 8 (eHs O++[(AV.int .u64 l[A[i]].i.k::AV.int .u8 (t:Int)::(tp l[A[i]]).c)]) true true)) 3 (.cells 2 [[.sl (next+39) 8 0 (O.length+1) (O.length+1) false,.sl pb 1 0 ks.length ks.length true]] true false)) 4 (.cells 4 [[.int .i64 rb,.int .i64 (mk+1),.int .i64 d,.int .i64 0]] true true)) (next+68) cs id:=by
         refine ⟨?_,?_,?_,?_,?_,?_,?_,T.R.mono (by omega) (fun j hj=>by have:=T.R.bd j (by omega);have:=T.nd j (by omega);have:=u9 j (by omega);simp (disch:=omega) only [getPut_self,getPut_ne,getDel_ne]),by simp [hwl],by omega,fun j hj=>?_⟩
         · simp (disch:=omega) only [getPut_self,getPut_ne,getDel_ne];exact T.g0
         · simp (disch:=omega) only [getPut_self,getPut_ne,getDel_ne];exact T.g2
         · simp (disch:=omega) only [getPut_self,getPut_ne,getDel_ne]
         · simp (disch:=omega) only [getPut_self,getPut_ne,getDel_ne];rfl
         · simp (disch:=omega) only [getPut_self,getPut_ne,getDel_ne];exact g5
         · simp (disch:=omega) only [getPut_self,getPut_ne,getDel_ne];exact gs
         · simp (disch:=omega) only [getPut_self,getPut_ne,getDel_ne];exact gp
         · have:=T.nd j hj
           exact this
        have U1:RwsI ks pb sb sb lo (.sl (next+39) 8 0 (O.length+1) (O.length+1) false) (O++[⟨l[A[i]].i.k,l[A[i]].i.t,tp l[A[i]]⟩]) (next+39) (put (put (put (del (put (put (put h (next+10) (.cells 4 [[AV.int .u64 l[A[i]].i.k,AV.int .u8 (t:Int),AV.str l[A[i]].i.x,AV.ro 1 (List.map eS l[A[i]].i.m) l[A[i]].i.e]] true true)) (next+27) (.cells 6 [(tp l[A[i]]).c] true true)) (next+38) (.cells 8 [(AV.int .u64 l[A[i]].i.k::AV.int .u8 (t:Int)::(tp l[A[i]]).c)] true true)) rbk) (next+39) (.cells 8 (eHs O++[(AV.int .u64 l[A[i]].i.k::AV.int .u8 (t:Int)::(tp l[A[i]]).c)]) true true)) 3 (.cells 2 [[.sl (next+39) 8 0 (O.length+1) (O.length+1) false,.sl pb 1 0 ks.length ks.length true]] true false)) 4 (.cells 4 [[.int .i64 rb,.int .i64 (mk+1),.int .i64 d,.int .i64 0]] true true)) (next+68) id:=by
         refine .inr ⟨by simp,by simp,?_,by omega,by omega,by omega,by omega,by omega,fun j hj=>?_⟩
         · simp (disch:=omega) only [getPut_self,getPut_ne,getDel_ne];simp [ht]
         · have:=T.R.bd j (by omega);have:=T.R.bd t htW;omega
        obtain ⟨h',n',cs',id',RW',rbk',e1,e2,e3⟩:=ih (i+1) (by omega) _ (O++[⟨l[A[i]].i.k,l[A[i]].i.t,tp l[A[i]]⟩]) _ W rb (mk+1) d _ _ _ _ T1 U1 (by simp;omega) (by omega) (by omega) (by omega) (by omega) hW
        refine ⟨h',n',cs',id',RW',rbk',?_,by rw [hcm];exact e2,by rw [hcm];exact e3⟩
        rw [hL,← e1]
        simp (disch:=omega) [T.g0,T.g2,T.g3,g4,gp,gs,hAi,getPut_self,getPut_ne,getDel_ne,H.toHasEq.inl,inlB,H.toHasEq.pp,ppB,wI64,putPut,ltF,gtF,neF,fits,hft,ht,htl,htc,hv,hg,c3,u3]
      · obtain ⟨n,hn⟩:∃ n,W[t].length=n+1:=⟨W[t].length - 1,by omega⟩
        have hcm:∀ O r,cm2 tp ra l (A[i]::r) (O,W,rb,mk)=cm2 tp ra l r (O++[⟨l[A[i]].i.k,l[A[i]].i.t,tp l[A[i]]⟩],W.set t (W[t].take n),rb+1,mk):=by
         intro O r
         have:W[t].length - 1=n:=by omega
         simp only [cm2,List.getElem?_eq_getElem hAi,c',hrow,c3,Bool.false_eq_true,if_false,hatt,this]
        have hnl:(W[t].take n).length=n:=by simp;omega
        have hwn:IntKind.i64.wrap (n:Int)=n:=wI64 (by omega) (by omega)
        have hne0:¬ ((n:Int)+1=0):=by omega
        have hncap:n≤cap2:=by omega
        have hcap1:n+1≤cap2:=by omega
        have hcap0:0 < cap2:=by omega
        have hif:(if 0 < n then some (AV.sl (id t) 8 0 n n true) else some (AV.sl (id t) 8 0 0 0 true))=some (AV.sl (id t) 8 0 n n true):=by
         split
         · rfl
         · rw [show n=0 by omega]
        have hWs:∀ w ∈ W.set t (W[t].take n),w.length≤1000000:=by
         intro w hw
         rcases List.mem_or_eq_of_mem_set hw with q | q
         · exact hW w q
         · subst q;omega
        have hANY:∀ o,o=some (WObj.cells 8 (eHs es) true true)→AnyH o (id t) (.sl (id t) 8 0 n n true) (W[t].take n):=by
         rintro o rfl
         refine ⟨n,true,es,by rw [hnl],by omega,by omega,?_,rfl⟩
         rw [hnl,← q3,List.take_take]
         congr 1
         omega
        have T1:PcO vw ov ls ks ke cap ar fl l e M S sb pb lo (.sl (next+39) 8 0 (O.length+1) (O.length+1) false) AnyH (W.set t (W[t].take n)) [rb+1,mk,d,0] (put (put (put (put (del (put (put (put h (next+10) (.cells 4 [[AV.int .u64 l[A[i]].i.k,AV.int .u8 (t:Int),AV.str l[A[i]].i.x,AV.ro 1 (List.map eS l[A[i]].i.m) l[A[i]].i.e]] true true)) (next+27) (.cells 6 [(tp l[A[i]]).c] true true)) (next+38) (.cells 8 [(AV.int .u64 l[A[i]].i.k::AV.int .u8 (t:Int)::(tp l[A[i]]).c)] true true)) rbk) (next+39) (.cells 8 (eHs O++[(AV.int .u64 l[A[i]].i.k::AV.int .u8 (t:Int)::(tp l[A[i]]).c)]) true true)) 3 (.cells 2 [[.sl (next+39) 8 0 (O.length+1) (O.length+1) false,.sl pb 1 0 ks.length ks.length true]] true false)) pb (.cells 1 (cs.set t [.sl (id t) 8 0 n n true]) true false)) 4 (.cells 4 [[.int .i64 (rb+1),.int .i64 mk,.int .i64 d,.int .i64 0]] true true)) (next+79) (cs.set t [.sl (id t) 8 0 n n true]) (fun j=>if j=t then id t else id j):=by
         refine ⟨?_,?_,?_,?_,?_,?_,?_,T.R.set t htW (id t) (.inl rfl) bd.1 (by omega) (by omega) _ _ (fun j hj hjt=>by have:=T.R.bd j (by omega);have:=T.nd j (by omega);have:=u9 j (by omega);simp (disch:=omega) only [getPut_self,getPut_ne,getDel_ne]) (hANY _ (by have:=u9 t htl;simp (disch:=omega) only [getPut_self,getPut_ne,getDel_ne];exact q4)),by simp [hwl],by omega,fun j hj=>?_⟩
         · simp (disch:=omega) only [getPut_self,getPut_ne,getDel_ne];exact T.g0
         · simp (disch:=omega) only [getPut_self,getPut_ne,getDel_ne];exact T.g2
         · simp (disch:=omega) only [getPut_self,getPut_ne,getDel_ne]
         · simp (disch:=omega) only [getPut_self,getPut_ne,getDel_ne];rfl
         · simp (disch:=omega) only [getPut_self,getPut_ne,getDel_ne];exact g5
         · simp (disch:=omega) only [getPut_self,getPut_ne,getDel_ne];exact gs
         · simp (disch:=omega) only [getPut_self,getPut_ne,getDel_ne]
         · have h1:=T.nd j hj
           have h2:=T.nd t htl
           split <;> assumption
        have U1:RwsI ks pb sb sb lo (.sl (next+39) 8 0 (O.length+1) (O.length+1) false) (O++[⟨l[A[i]].i.k,l[A[i]].i.t,tp l[A[i]]⟩]) (next+39) (put (put (put (put (del (put (put (put h (next+10) (.cells 4 [[AV.int .u64 l[A[i]].i.k,AV.int .u8 (t:Int),AV.str l[A[i]].i.x,AV.ro 1 (List.map eS l[A[i]].i.m) l[A[i]].i.e]] true true)) (next+27) (.cells 6 [(tp l[A[i]]).c] true true)) (next+38) (.cells 8 [(AV.int .u64 l[A[i]].i.k::AV.int .u8 (t:Int)::(tp l[A[i]]).c)] true true)) rbk) (next+39) (.cells 8 (eHs O++[(AV.int .u64 l[A[i]].i.k::AV.int .u8 (t:Int)::(tp l[A[i]]).c)]) true true)) 3 (.cells 2 [[.sl (next+39) 8 0 (O.length+1) (O.length+1) false,.sl pb 1 0 ks.length ks.length true]] true false)) pb (.cells 1 (cs.set t [.sl (id t) 8 0 n n true]) true false)) 4 (.cells 4 [[.int .i64 (rb+1),.int .i64 mk,.int .i64 d,.int .i64 0]] true true)) (next+79) (fun j=>if j=t then id t else id j):=by
         refine .inr ⟨by simp,by simp,?_,by omega,by omega,by omega,by omega,by omega,fun j hj=>?_⟩
         · simp (disch:=omega) only [getPut_self,getPut_ne,getDel_ne];simp [ht]
         · have:=T.R.bd j (by omega);have:=T.R.bd t htW;show (if j=t then id t else id j)≠next+39;split <;> omega
        obtain ⟨h',n',cs',id',RW',rbk',e1,e2,e3⟩:=ih (i+1) (by omega) _ (O++[⟨l[A[i]].i.k,l[A[i]].i.t,tp l[A[i]]⟩]) _ (W.set t (W[t].take n)) (rb+1) mk d _ _ _ _ T1 U1 (by simp;omega) (by omega) (by omega) (by omega) (by omega) hWs
        refine ⟨h',n',cs',id',RW',rbk',?_,by rw [hcm];exact e2,by rw [hcm];exact e3⟩
        rw [hL,← e1]
        simp (disch:=omega) [T.g0,T.g2,T.g3,g4,gp,gs,hAi,getPut_self,getPut_ne,getDel_ne,H.toHasEq.inl,inlB,H.toHasEq.pp,ppB,wI64,putPut,ltF,gtF,neF,fits,hft,ht,htl,htc,hv,hg,hn,hwn,hncap,hne0,hcap1,hcap0,hif,u3]
end
end Go.D
end
section
namespace Go.D
open Go Go.Pav Go.Pw P
set_option maxHeartbeats 2000000
attribute [-simp] List.getElem_cons_drop
variable {C:WProg}
theorem frz_st2 {h:WHeap} {lo hi pb rb:Nat} {id:Nat→Nat} {cs:List (List AV)} {W:List (List Hd)} {O:List Hd} {RW:AV} (hR:(O=[]∧RW=.ro 8 [] true)∨(RW=.sl rb 8 0 O.length O.length false∧Pav.get h rb=some (.cells 8 (eHs O) true true)))
 (R:Nst2 AnyH h lo hi id cs W) (gp:Pav.get h pb=some (.cells 1 cs true false)) (r:Nat) (hr:r=W.length) (n:Nat):∃ eo ps' pe',ps'.map (·.1)=W∧frzW h (n+4) (.agg [RW,.sl pb 1 0 r r true])=some (aSt O eo ps' pe'):=by
 subst hr
 obtain ⟨ps,pe,h1,h2⟩:=R.frzS (enc:=eHs) (z:=8) n (fun b v d q=>AnyH.frz q n) (mu:=true) (cap:=W.length) (ex:=true)
 rcases hR with ⟨rfl,rfl⟩ | ⟨rfl,h3⟩
 · refine ⟨true,ps,pe,h1,?_⟩
   rw [frzW_agg]
   simp only [mapO,frzW_ro,frzW_sl,gp,h2,ob,om,aggO]
   rfl
 · refine ⟨false,ps,pe,h1,?_⟩
   have h4:List.take O.length (eHs O)=eHs O:=List.take_of_length_le (by simp)
   rw [frzW_agg]
   simp only [mapO,frzW_sl,gp,h2,h3,ob,om,aggO]
   simp only [Pw.frzS,List.drop_zero,h4,List.length_map,decide_true,og,Bool.false_and,ob,om,aggO]
   rfl
theorem hcommitD_ok (H:HasQz C) (tp:En→Nd) (vw ov ls:Int) (ks:List Kd) (ke:Bool) (cap ar fl:Int) (ra:List Hd) (ea:Bool) (ps:List Pl) (pe:Bool) (l:List En) (e:Bool) (A:List Nat) (f:Bool)
 (hA:A.length≤1000) (hAl:∀ a ∈ A,a < l.length) (hAn:A.Nodup) (hn:(keysE l).Nodup) (hll:l.length≤100000) (hra:ra.length≤1000) (hrn:(ra.map Hd.k).Nodup) (hpk:ps.length=ks.length) (hkl:ks.length≤1000) (hk0:0 < ks.length) (hps:∀ p ∈ ps,p.1.length≤100000)
 (hpp:∀ (j:Nat) (w:List Hd),(ps.map (·.1))[j]?=some w→(w.length:Int)≤plAt ks j)
 (hty:∀ x ∈ l,∃ t:Nat,x.i.t=t∧t < ks.length) (htyr:∀ x ∈ ra,∃ t:Nat,x.t=t∧t < ks.length) (htr:∀ (a:Nat) (h:a < l.length) (q:Bool),FnW C 238 [aR ks ke cap,aL [l[a]] q,.int .i64 0]=some (.tup [.agg (tp l[a]).c,.int .i64 0])) :
 ∃ (ps':List Pl) (ea' pe':Bool),ps'.map (·.1)=(cmF tp ks ra (ps.map (·.1)) l A).2.1 ∧
  FnW C 280 [.agg (cCf vw ov ls ks ke cap ar fl),aSt ra ea ps pe,aL l e,.ro 1 (A.map eAt) f]=some (.tup [aSt (cmF tp ks ra (ps.map (·.1)) l A).1 ea' ps' pe',aCn (cmF tp ks ra (ps.map (·.1)) l A).2.2.1 (cmF tp ks ra (ps.map (·.1)) l A).2.2.2.1 (cmF tp ks ra (ps.map (·.1)) l A).2.2.2.2 (live ((cmF tp ks ra (ps.map (·.1)) l A).1::(cmF tp ks ra (ps.map (·.1)) l A).2.1))]):=by
 rw [fnW_eq H.f280 rfl]
 obtain ⟨L,hL⟩:∃ L,L=CK C 0 (pureFin w280.res) [] w280.body ⟨argW 0 [.agg (cCf vw ov ls ks ke cap ar fl),aSt ra ea ps pe,aL l e,.ro 1 (A.map eAt) f] [],[],0⟩:=⟨_,rfl⟩
 rw [← hL]
 simp [w280] at hL
 obtain ⟨h1,n1,T1,x1⟩:=pcm_loop (C:=C) vw ov ls ks ke cap ar fl ra ea ps pe l e A f hA hAl hAn hn A.length 0 (by simp)
  [(0,.cells 7 [cCf vw ov ls ks ke cap ar fl] true true),(1,.cells 2 [[.ro 8 (ra.map eHd) ea,.ro 1 (ps.map ePl) pe]] true true),(2,.cells 1 [[.ro 6 (l.map eEn) e]] true true),(3,.cells 2 [[.ro 8 [] true,.ro 1 [] true]] true true),(4,.cells 4 [[.int .i64 0,.int .i64 0,.int .i64 0,.int .i64 0]] true true),(5,.map [])] 10
  ⟨rfl,rfl,rfl,rfl,rfl,rfl,by omega⟩
 have x1':=hL.trans x1
 clear hL x1
 have nx:=T1.nx
 have T2:PcN vw ov ls ks ke cap ar fl ra ea ps pe l e (tmap (nexM l A)) (n1+3) (n1+3) (put (put h1 (n1+3) (.cells 1 (List.replicate ps.length [.ro 8 [] true]) true true)) 3 (.cells 2 [[.ro 8 [] true,.sl (n1+3) 1 0 ps.length ps.length true]] true false)) (n1+10) [] (fun _=>0) 0 true:=by
  refine ⟨?_,?_,?_,getPut_self ..,?_,?_,?_,by simpa using Nst2.nil,by omega,fun j hj=>by omega⟩
  · simp (disch:=omega) only [getPut_ne];exact T1.g0
  · simp (disch:=omega) only [getPut_ne];exact T1.g1
  · simp (disch:=omega) only [getPut_ne];exact T1.g2
  · simp (disch:=omega) only [getPut_ne];exact T1.g4
  · simp (disch:=omega) only [getPut_ne];exact T1.g5
  · simp (disch:=omega) only [getPut_ne,getPut_self];simp
 obtain ⟨h2,n2,cs,id,dt,T3,hd,x2⟩:=pcn_loop vw ov ls ks ke cap ar fl ra ea ps pe l e H A f (by omega) (fun p hp=>by have:=hps p hp;omega) (tmap (nexM l A)) (n1+3) (n1+3) ps.length 0 (by simp) _ _ _ _ _ T2
 have hdt:dt=false:=hd (.inr (by omega))
 subst hdt
 rw [ck_unf w280_c3.eq_1] at x1'
 have hk25:ps.length * 25≤35184372088832:=by omega
 simp (disch:=omega) [T1.g0,T1.g1,T1.g2,T1.g3,T1.g4,T1.g5,getPut_self,getPut_ne,hk25,wI64] at x1'
 have x2':=x1'.trans x2
 clear x1' x2
 have ne:=T3.ne
 have gp:=T3.gp
 rw [Nat.sub_self,List.replicate_zero,List.append_nil] at gp
 have hR:=T3.R
 rw [show ps.length=(ps.map (·.1)).length by simp,List.take_length] at hR
 have nd3:=T3.nd
 have T4:PcO vw ov ls ks ke cap ar fl l e (tmap (nexM l A)) (kmap (stay (ra.take 0) l A)) n2 (n1+3) (n1+3) (.ro 8 [] true) FullH (ps.map (·.1)) [0,0,0,0] (put h2 n2 (.map [])) (n2+6) cs id:=by
  refine ⟨?_,?_,?_,?_,?_,getPut_self ..,?_,hR.mono (by omega) (fun j hj=>getPut_ne (by have:=(hR.bd j hj).2;omega)),by simpa using hpk,by omega,fun j hj=>⟨nd3 j (by omega),by have:=(hR.bd j (by simp;omega)).2;omega⟩⟩
  · rw [getPut_ne (by omega)];exact T3.g0
  · rw [getPut_ne (by omega)];exact T3.g2
  · rw [getPut_ne (by omega),← hpk];exact T3.g3
  · rw [getPut_ne (by omega)];exact T3.g4
  · rw [getPut_ne (by omega)];exact T3.g5
  · rw [getPut_ne (by omega)];exact gp
 obtain ⟨h3,n3,cs3,id3,T5,x3⟩:=pco_loop vw ov ls ks ke cap ar fl l e H A f ra ea hra hrn htyr (nexM l A) (fun x hx=>nex_st hn x A hAn hAl) n2 (n1+3) (n1+3) ra.length 0 (by simp) (ps.map (·.1)) 0 _ _ _ _ T4 (fun w hw=>by obtain ⟨p,hp,rfl⟩:=List.mem_map.1 hw;have:=hps p hp;omega) hpp (by omega) (by omega)
 rw [ck_unf w280_c2.eq_1] at x2'
 simp (disch:=omega) [T3.g0,T3.g1,T3.g2,T3.g3,T3.g4,T3.g5,gp,getPut_self,getPut_ne,wI64] at x2'
 have x3':=x2'.trans x3
 clear x2' x3
 rw [List.drop_zero] at T5
 have hl1:=cm1_len ks l A ra (ps.map (·.1),0) 100000 (fun w hw=>by obtain ⟨p,hp,rfl⟩:=List.mem_map.1 hw;exact hps p hp)
 generalize hS:cm1 ks l A ra (ps.map (·.1),0)=S at *
 obtain ⟨h4,n4,cs4,id4,RW,rbk,x4,T6,U6⟩:=pcr_loop vw ov ls ks ke cap ar fl l e H tp A f ra hA hAl hll hty htr (tmap (nexM l A)) (kmap (stay ra l A)) (fun a ha h=>by rw [kmap_get,stay_was hrn hn hAl ha h]) n2 (n1+3) (n1+3) A.length 0 (by simp) (.ro 8 [] true) [] 0 S.1 0 0 S.2 _ _ _ _ ((T5.any vw ov ls ks ke cap ar fl l e).later vw ov ls ks ke cap ar fl l e (show n3≤n3+3 by omega) (fun _ _=>rfl)) (.inl ⟨rfl,rfl⟩) (by simp;omega) (by omega) (by omega) (by omega) (by omega) (fun w hw=>by have:=hl1 w hw;omega)
 rw [ck_unf w280_c1.eq_1] at x3'
 simp (disch:=omega) at x3'
 have x4':=x3'.trans x4
 clear x3' x4
 rw [List.drop_zero] at T6 U6
 have hl2:=cm2_len tp ra l A ([],S.1,0,0) _ hl1
 unfold cmF
 simp only
 rw [hS]
 simp only [List.length_nil,Nat.zero_add] at hl2
 generalize hV:cm2 tp ra l A ([],S.1,0,0)=V at *
 have hR2:(V.1=[]∧RW=.ro 8 [] true)∨(RW=.sl rbk 8 0 V.1.length V.1.length false∧Pav.get h4 rbk=some (.cells 8 (eHs V.1) true true)):=by
  rcases U6 with u | ⟨_,u2,u3,_⟩
  · exact .inl u
  · exact .inr ⟨u2,u3⟩
 have hR4:∀ hf:WHeap,(∀ j,n1+3≤j→Pav.get hf j=Pav.get h4 j)→(V.1=[]∧RW=.ro 8 [] true)∨(RW=.sl rbk 8 0 V.1.length V.1.length false∧Pav.get hf rbk=some (.cells 8 (eHs V.1) true true)):=by
  intro hf hg
  rcases U6 with u | ⟨_,u2,u3,u4,_⟩
  · exact .inl u
  · exact .inr ⟨u2,by rw [hg _ u4];exact u3⟩
 have ne6:=T6.ne
 obtain ⟨eo,ps1,pe1,f1,f2⟩:=frz_st2 hR2 T6.R T6.gp ks.length T6.wl.symm 12
 have hlv:=hlive_ok V.1 eo ps1 pe1 H.toHasQs (by omega) (fun p hp=>by have:=hl2.2.1 p.1 (by rw [← f1];exact List.mem_map.2 ⟨p,hp,rfl⟩);omega) (by have:=congrArg List.length f1;simp at this;have:=T6.wl;omega)
 rw [f1] at hlv
 obtain ⟨lv,hlve⟩:∃ lv,live (V.1::V.2.1)=lv:=⟨_,rfl⟩
 rw [hlve] at hlv ⊢
 rw [x4',ck_unf w280_c0.eq_1]
 clear hV hS x4'
 rcases hR2 with ⟨q1,rfl⟩ | ⟨rfl,q3⟩
 · obtain ⟨hf,hfe⟩:∃ hf,hf=put (put (put h4 4 (.cells 4 [[.int .i64 V.2.2.1,.int .i64 V.2.2.2,.int .i64 S.2,.int .i64 lv]] true true)) 3 (.cells 2 [[.ro 8 [] true,.sl (n1+3) 1 0 ks.length ks.length true]] true false)) 4 (.cells 4 [[.int .i64 V.2.2.1,.int .i64 V.2.2.2,.int .i64 S.2,.int .i64 lv]] true true):=⟨_,rfl⟩
   have hg:∀ j,n1+3≤j→Pav.get hf j=Pav.get h4 j:=fun j h1=>by rw [hfe];simp (disch:=omega) only [getPut_ne]
   obtain ⟨eo',ps2,pe2,f3,f4⟩:=frz_st2 (hR4 hf hg) (T6.R.mono (Nat.le_refl _) (fun j hj=>hg _ (T6.R.bd j hj).1)) (by rw [hg (n1+3) (by omega)];exact T6.gp) ks.length T6.wl.symm 11
   refine ⟨ps2,eo',pe2,f3,?_⟩
   rw [hfe] at f4
   rw [q1] at f2 hlv
   simp (disch:=omega) [T6.g0,T6.g2,T6.g3,T6.g4,getPut_self,getPut_ne,H.toHasEq.inl,inlB,H.toHasEq.pp,ppB,f2,hlv,-frzW_agg,putPut]
   rw [f4,frz_cn];rfl
 · obtain ⟨hf,hfe⟩:∃ hf,hf=put (put (put h4 4 (.cells 4 [[.int .i64 V.2.2.1,.int .i64 V.2.2.2,.int .i64 S.2,.int .i64 lv]] true true)) 3 (.cells 2 [[.sl rbk 8 0 V.1.length V.1.length false,.sl (n1+3) 1 0 ks.length ks.length true]] true false)) 4 (.cells 4 [[.int .i64 V.2.2.1,.int .i64 V.2.2.2,.int .i64 S.2,.int .i64 lv]] true true):=⟨_,rfl⟩
   have hg:∀ j,n1+3≤j→Pav.get hf j=Pav.get h4 j:=fun j h1=>by rw [hfe];simp (disch:=omega) only [getPut_ne]
   obtain ⟨eo',ps2,pe2,f3,f4⟩:=frz_st2 (hR4 hf hg) (T6.R.mono (Nat.le_refl _) (fun j hj=>hg _ (T6.R.bd j hj).1)) (by rw [hg (n1+3) (by omega)];exact T6.gp) ks.length T6.wl.symm 11
   refine ⟨ps2,eo',pe2,f3,?_⟩
   rw [hfe] at f4
   simp (disch:=omega) [T6.g0,T6.g2,T6.g3,T6.g4,getPut_self,getPut_ne,H.toHasEq.inl,inlB,H.toHasEq.pp,ppB,f2,hlv,-frzW_agg,putPut]
   rw [f4,frz_cn];rfl
end Go.D
end
section
namespace Go.D
open Go Go.Pav Go.Pw P
set_option maxHeartbeats 2000000
attribute [-simp] List.getElem_cons_drop
variable {C:WProg}
section
variable (vw ov ls:Int) (ks:List Kd) (ke:Bool) (cap ar fl:Int) (ra:List Hd) (ea:Bool) (ps:List Pl) (pe:Bool) (l:List En) (e:Bool)
abbrev hpC:WHeap:=[(0,.cells 4 [[.int .i64 0,.int .i64 0,.int .i64 0,.int .i64 0]] true true),(1,.cells 2 [[.ro 8 [] true,.ro 1 [] true]] true true),(2,.cells 1 [[.ro 6 (l.map eEn) e]] true true),
 (3,.cells 2 [[.ro 8 (ra.map eHd) ea,.ro 1 (ps.map ePl) pe]] true true),(4,.cells 7 [cCf vw ov ls ks ke cap ar fl] true true)]
theorem rise_loop (H:HasQz C) (A:List Nat) (f:Bool) (hA:A.length≤1000) (hAl:∀ a ∈ A,a < l.length) (hll:l.length≤100000) (hri:∀ (i:Nat) (h:i+1 < A.length),A[i] < A[i+1]):∀ m i,m+i=A.length →
 CK C 0 (pureFin [.cell 8 2 true,.cell 9 4 true,.tmp 10]) [.sq w139_L0,.bk 0 ⟨true,[9,8,6,5,4,3],[]⟩,.sq w139_c0] w139_B0
  ⟨[(36,.int .i64 i),(35,.int .i64 A.length),(34,.ro 1 (A.map eAt) f),(9,.ptr 0 0 0),(8,.ptr 1 0 0),(6,.ptr 2 0 0),(5,.ptr 3 0 0),(4,.ptr 4 0 0),(3,.ro 1 (A.map eAt) f)],hpC vw ov ls ks ke cap ar fl ra ea ps pe l e,5⟩ =
 CK C 0 (pureFin [.cell 8 2 true,.cell 9 4 true,.tmp 10]) [] w139_c0
  ⟨[(9,.ptr 0 0 0),(8,.ptr 1 0 0),(6,.ptr 2 0 0),(5,.ptr 3 0 0),(4,.ptr 4 0 0),(3,.ro 1 (A.map eAt) f)],hpC vw ov ls ks ke cap ar fl ra ea ps pe l e,5⟩:=by
 intro m
 induction m with
 | zero =>
  intro i hi
  have h3:¬ i < A.length:=by omega
  rw [ck_unf w139_B0.eq_1]
  simp (disch:=omega) [h3]
 | succ m ih =>
  intro i hi
  have h1:i < A.length:=by omega
  have h2:=hAl _ (List.getElem_mem h1)
  have h3:=ih (i+1) (by omega)
  rw [← h3]
  have h4:¬ (l.length:Int)≤A[i]:=by omega
  have h5:¬ l.length≤A[i]:=by omega
  rw [ck_unf w139_B0.eq_1]
  cases i with
  | zero=>simp (disch:=omega) [h1,h2,h4,h5,wI64]
  | succ j =>
   have h6:=hri j h1
   have h7:j < A.length:=by omega
   have h8:¬ (A[j+1]:Int)≤A[j]:=by omega
   have h9:¬ A[j+1]≤A[j]:=by omega
   have h10:IntKind.i64.wrap (j:Int)=j:=wI64 (by omega) (by omega)
   have h11:(0:Int) < j+1:=by omega
   simp (disch:=omega) [h1,h2,h4,h5,h7,h8,h9,h10,h11,wI64]
   intro q;omega
theorem hCommit_ok (H:HasQz C) (tp:En→Nd) (A:List Nat) (f:Bool)
 (hchk:FnW C 278 [.agg (cCf vw ov ls ks ke cap ar fl),aSt ra ea ps pe]=some (.int .i64 0)) (hlc:FnW C 223 [aR ks ke cap,aL l e]=some (.int .i64 0)) (hri:∀ (i:Nat) (h:i+1 < A.length),A[i] < A[i+1])
 (hA:A.length≤1000) (hAl:∀ a ∈ A,a < l.length) (hAn:A.Nodup) (hn:(keysE l).Nodup) (hll:l.length≤100000) (hra:ra.length≤1000) (hrn:(ra.map Hd.k).Nodup) (hpk:ps.length=ks.length) (hkl:ks.length≤1000) (hk0:0 < ks.length) (hps:∀ p ∈ ps,p.1.length≤100000)
 (hpp:∀ (j:Nat) (w:List Hd),(ps.map (·.1))[j]?=some w→(w.length:Int)≤plAt ks j)
 (hty:∀ x ∈ l,∃ t:Nat,x.i.t=t∧t < ks.length) (htyr:∀ x ∈ ra,∃ t:Nat,x.t=t∧t < ks.length) (htr:∀ (a:Nat) (h:a < l.length) (q:Bool),FnW C 238 [aR ks ke cap,aL [l[a]] q,.int .i64 0]=some (.tup [.agg (tp l[a]).c,.int .i64 0]))
 (hrc:(cmF tp ks ra (ps.map (·.1)) l A).1.length≤1000000∧∀ x ∈ (cmF tp ks ra (ps.map (·.1)) l A).1,cnt x.n≠0) (hpc:∀ w ∈ (cmF tp ks ra (ps.map (·.1)) l A).2.1,w.length≤1000000∧∀ x ∈ w,cnt x.n≠0) (hplen:(cmF tp ks ra (ps.map (·.1)) l A).2.1.length≤1000) :
 ∃ ps':List Pl,ps'.map (·.1)=(cmF tp ks ra (ps.map (·.1)) l A).2.1.map (fun w=>w.map kepH) ∧
 FnW C 139 [.agg (cCf vw ov ls ks ke cap ar fl),aSt ra ea ps pe,aL l e,.ro 1 (A.map eAt) f]=some (.tup (
  if live ((cmF tp ks ra (ps.map (·.1)) l A).1::(cmF tp ks ra (ps.map (·.1)) l A).2.1) > ar then [aSt [] true [] true,aCn 0 0 0 0,.int .i64 15]
  else [aSt ((cmF tp ks ra (ps.map (·.1)) l A).1.map kepH) true ps' true,aCn (cmF tp ks ra (ps.map (·.1)) l A).2.2.1 (cmF tp ks ra (ps.map (·.1)) l A).2.2.2.1 (cmF tp ks ra (ps.map (·.1)) l A).2.2.2.2 (live ((cmF tp ks ra (ps.map (·.1)) l A).1::(cmF tp ks ra (ps.map (·.1)) l A).2.1)),.int .i64 0])):=by
 obtain ⟨ps1,ea1,pe1,u1,u2⟩:=hcommitD_ok H tp vw ov ls ks ke cap ar fl ra ea ps pe l e A f hA hAl hAn hn hll hra hrn hpk hkl hk0 hps hpp hty htyr htr
 have hrules:=hrules_ok H.toHasQk vw ov ls ks ke cap ar fl
 have h2:=rise_loop vw ov ls ks ke cap ar fl ra ea ps pe l e H A f hA hAl hll hri A.length 0 (by simp)
 generalize cmF tp ks ra (ps.map (·.1)) l A=V at *
 have h3:=exd_ok H V.1 ea1 ps1 pe1 hrc.1 hrc.2 (by have:=congrArg List.length u1;simp at this;omega) (fun p hp=>hpc p.1 (by rw [← u1];exact List.mem_map.2 ⟨p,hp,rfl⟩))
 refine ⟨ps1.map kepP,by rw [← u1,List.map_map,List.map_map];rfl,?_⟩
 rw [fnW_eq H.f139 rfl]
 rw [ck_unf w139_c0.eq_1] at h2
 generalize live (V.1::V.2.1)=lv at *
 generalize V.1.map kepH=rk at *
 generalize ps1.map kepP=pk at *
 simp [hpC] at h2
 by_cases c:ar < lv
 · rw [if_pos c]
   simp (disch:=omega) [w139,H.toHasEq.inl,inlB,H.toHasEq.pp,ppB,hchk,hrules,hlc,h2,u2,h3,c,ck_unf w139_c0.eq_1]
 · rw [if_neg c]
   simp (disch:=omega) [w139,H.toHasEq.inl,inlB,H.toHasEq.pp,ppB,hchk,hrules,hlc,h2,u2,h3,c,ck_unf w139_c0.eq_1]
end
end Go.D
end
section
namespace Go.D
open Go Go.Pav Go.Pw P
set_option maxHeartbeats 2000000
attribute [-simp] List.getElem_cons_drop
variable {C:WProg}
def trN (ks:List Kd) (x:En):Nd:=rndN (kdAt ks x.i.t).p x.i 12
theorem cm2_two {tp tr:En→Nd} {l:List En} (hz':∀ e ∈ l,(tp e).z=(tr e).z) (ra:List Hd):∀ (A:List Nat) (s s':List Hd × List (List Hd) × Int × Int),s.1.map hz=s'.1.map hz→s.2=s'.2 →
 (cm2 tp ra l A s).1.map hz=(cm2 tr ra l A s').1.map hz∧(cm2 tp ra l A s).2=(cm2 tr ra l A s').2
 | [],s,s',h1,h2=>by simpa [cm2] using ⟨h1,h2⟩
 | a::r,(o,w),(o',w'),h1,h2=>by
  simp only at h1 h2
  subst h2
  simp only [cm2]
  cases hq:l[a]? with
  | none=>exact cm2_two hz' ra r _ _ h1 rfl
  | some e =>
   have he:=hz' e (List.mem_of_getElem? hq)
   have h3:(o++[(⟨e.i.k,e.i.t,tp e⟩:Hd)]).map hz=(o'++[(⟨e.i.k,e.i.t,tr e⟩:Hd)]).map hz:=by
    rw [List.map_append,List.map_append,h1];simp [hz,he]
   simp only
   split
   · exact cm2_two hz' ra r _ _ h3 rfl
   · split
     · exact cm2_two hz' ra r _ _ h3 rfl
     · exact cm2_two hz' ra r _ _ h3 rfl
theorem cmF_two {tp tr:En→Nd} {l:List En} (hz':∀ e ∈ l,(tp e).z=(tr e).z) (ks:List Kd) (ra:List Hd) (W:List (List Hd)) (A:List Nat):(cmF tp ks ra W l A).1.map hz=(cmF tr ks ra W l A).1.map hz∧(cmF tp ks ra W l A).2=(cmF tr ks ra W l A).2:=by
 obtain ⟨h1,h2⟩:=cm2_two hz' ra A ([],(cm1 ks l A ra (W,0)).1,0,0) ([],(cm1 ks l A ra (W,0)).1,0,0) rfl rfl
 unfold cmF
 simp only
 exact ⟨h1,by rw [h2]⟩
theorem cnt_hz {a b:Hd} (h:hz a=hz b):cnt a.n=cnt b.n:=by
 simp only [hz,Prod.mk.injEq] at h
 rw [← cnt_z,h.2.2,cnt_z]
theorem okS_hz:∀ {a b:List Hd},a.map hz=b.map hz→okS a=okS b∧cntS a=cntS b
 | [],[],_=>⟨rfl,rfl⟩
 | x::a,y::b,h=>by
  simp only [List.map_cons,List.cons.injEq] at h
  obtain ⟨h1,h2⟩:=okS_hz h.2
  have h3:=cnt_hz h.1
  unfold okS at h1 ⊢
  simp only [List.all_cons,cntS,h3,h2,h1,and_self]
 | [],_::_,h=>by simp at h
 | _::_,[],h=>by simp at h
theorem live_hz {a b:List Hd} (h:a.map hz=b.map hz) (L:List (List Hd)):live (a::L)=live (b::L):=by
 obtain ⟨h1,h2⟩:=okS_hz h
 unfold live
 rw [okL_cons,okL_cons,h1]
 simp only [cntL,h2]
theorem mem_hz:∀ {a b:List Hd},a.map hz=b.map hz→∀ x ∈ a,∃ y ∈ b,hz x=hz y
 | [],_,_,x,hx=>by cases hx
 | x::a,y::b,h,u,hu=>by
  simp only [List.map_cons,List.cons.injEq] at h
  rcases List.mem_cons.1 hu with rfl | hu
  · exact ⟨y,by simp,h.1⟩
  · obtain ⟨v,hv,h3⟩:=mem_hz h.2 u hu
    exact ⟨v,by simp [hv],h3⟩
 | _::_,[],h,_,_=>by simp at h
theorem trN_z {r:Int} {l:List En} (L:LG r l):∀ e ∈ l,(trN (kindsOf r) e).z=(trK (kindsOf r) e).z:=fun e he=>by
 unfold trN trK
 rw [rnd_z _ (fits_kd (ru_in r) (L.t e he))]
structure RdOk (r:Int) (B:Nat) (U:List Hd × List (List Hd) × Int × Int × Int):Prop where
 l1:U.1.length≤12
 v1:∀ x ∈ U.1,VH (kindsOf r) 12 x
 n1:(U.1.map Hd.k).Nodup
 l2:U.2.1.length=3
 v2:PV (kindsOf r) 12 U.2.1
 b2:∀ w ∈ U.2.1,w.length≤B
 lv:0≤live (U.1::U.2.1)∧live (U.1::U.2.1)≤64 * B * 4+1
theorem round_ok {r:Int} {l:List En} (L:LG r l) (hg:∀ x ∈ l,GoodE (kindsOf r) x) (hn:(keysE l).Nodup) {B:Nat} {ra:List Hd} {ps:List Pl} (S:StOk B ra ps) (K:CkS (kindsOf r) 12 ra ps) (A:List Nat) (hA:A.length≤12) (hAl:∀ a ∈ A,a < l.length) (hAn:A.Nodup) :
 RdOk r (B+12) (cmF (trK (kindsOf r)) (kindsOf r) ra (ps.map (·.1)) l A):=by
 have l1:=cm1_len (kindsOf r) l A ra (ps.map (·.1),0) B (fun w hw=>by obtain ⟨p,hp,rfl⟩:=List.mem_map.1 hw;exact S.pb p hp)
 have l2:=cm2_len (trK (kindsOf r)) ra l A ([],(cm1 (kindsOf r) l A ra (ps.map (·.1),0)).1,0,0) (B+ra.length) l1
 have l3:=cm1_all (Q:=HQ) (kindsOf r) l A ra (ps.map (·.1),0) S.q (fun w hw=>by obtain ⟨p,hp,rfl⟩:=List.mem_map.1 hw;exact S.qp p hp)
 have l4:=cm2_all (Q:=HQ) (trK (kindsOf r)) ra l (fun x hx=>⟨trK_in L hx,x.i.t.toNat,by have:=L.t x hx;simp only;omega,by have:=L.t x hx;have hk:(kindsOf r).length=3:=rfl;omega⟩) A ([],(cm1 (kindsOf r) l A ra (ps.map (·.1),0)).1,0,0) (by simp) l3
 have l5:=cm1_wl (kindsOf r) l A ra (ps.map (·.1),0)
 have hpv0:PV (kindsOf r) 12 (ps.map (·.1)):=by
  intro i w hw
  rw [List.getElem?_map] at hw
  cases hq:ps[i]? with
  | none=>rw [hq] at hw;cases hw
  | some p=>rw [hq] at hw;obtain rfl:=Option.some.inj hw;exact K.pv i p hq
 have l6:=cm1_pv (kindsOf r) 12 l A ra (ps.map (·.1),0) K.rv (by simp only [List.length_map];exact K.pl) hpv0
 have l7:=cm2_pv (kindsOf r) 12 (trK (kindsOf r)) ra l (fun x hx=>⟨x.i.t.toNat,by have:=L.t x hx;omega⟩) A ([],(cm1 (kindsOf r) l A ra (ps.map (·.1),0)).1,0,0) l6
 have l8:=cm2_rows (trK (kindsOf r)) ra l A ([],(cm1 (kindsOf r) l A ra (ps.map (·.1),0)).1,0,0) hAl
 have l9:=cm2_all (Q:=fun x=>NdIn x.n→VH (kindsOf r) 12 x) (trK (kindsOf r)) ra l (fun x hx _=>vh_row L hg hx) A ([],(cm1 (kindsOf r) l A ra (ps.map (·.1),0)).1,0,0) (by simp) (fun w hw x hx _=>by
  obtain ⟨i,hi,rfl⟩:=List.mem_iff_getElem.1 hw
  exact ((l6 i _ (List.getElem?_eq_getElem hi)).2 x hx).1)
 have l10:=at_nodup hn A hAn (fun a ha=>by have:=hAl a ha;simpa [keysE] using this)
 have hrl:=S.rl
 have hpl:=S.pl
 simp only [List.length_nil,Nat.zero_add,List.length_map] at l2 l5
 unfold cmF
 simp only
 generalize cm1 (kindsOf r) l A ra (ps.map (·.1),0)=s at *
 generalize cm2 (trK (kindsOf r)) ra l A ([],s.1,0,0)=u at *
 have hb:∀ w ∈ u.2.1,w.length≤B+12:=fun w hw=>by have:=l2.2.1 w hw;omega
 have hlv:=cntL_le (B+12) (u.1::u.2.1) (by
  intro w hw
  rcases List.mem_cons.1 hw with rfl | q
  · omega
  · exact hb w q)
 have hlen:(u.1::u.2.1).length=4:=by simp;omega
 rw [hlen] at hlv
 refine ⟨by simp only;omega,fun x hx=>l9.1 x hx (l4.1 x hx).1,by rw [l8];simpa using l10,by simp only;omega,l7,hb,?_⟩
 simp only
 unfold live
 split <;> omega
theorem round_two {r:Int} {l:List En} (L:LG r l) {B:Nat} {ra:List Hd} {W:List (List Hd)} {A:List Nat} (R:RdOk r B (cmF (trK (kindsOf r)) (kindsOf r) ra W l A)) :
 (cmF (trN (kindsOf r)) (kindsOf r) ra W l A).1.map hz=(cmF (trK (kindsOf r)) (kindsOf r) ra W l A).1.map hz∧(cmF (trN (kindsOf r)) (kindsOf r) ra W l A).2=(cmF (trK (kindsOf r)) (kindsOf r) ra W l A).2 ∧
 live ((cmF (trN (kindsOf r)) (kindsOf r) ra W l A).1::(cmF (trN (kindsOf r)) (kindsOf r) ra W l A).2.1)=live ((cmF (trK (kindsOf r)) (kindsOf r) ra W l A).1::(cmF (trK (kindsOf r)) (kindsOf r) ra W l A).2.1) ∧
 (cmF (trN (kindsOf r)) (kindsOf r) ra W l A).1.length≤12∧(∀ x ∈ (cmF (trN (kindsOf r)) (kindsOf r) ra W l A).1,cnt x.n≠0)∧∀ w ∈ (cmF (trK (kindsOf r)) (kindsOf r) ra W l A).2.1,w.length≤B∧∀ x ∈ w,cnt x.n≠0:=by
 obtain ⟨h1,h2⟩:=cmF_two (trN_z L) (kindsOf r) ra W A
 have h3:=congrArg List.length h1
 simp only [List.length_map] at h3
 refine ⟨h1,h2,?_,by rw [h3];exact R.l1,fun x hx=>?_,fun w hw=>⟨R.b2 w hw,fun x hx=>?_⟩⟩
 · rw [h2];exact live_hz h1 _
 · obtain ⟨y,hy,e⟩:=mem_hz h1 x hx
   rw [cnt_hz e];exact (R.v1 y hy).c.1
 · obtain ⟨i,hi,rfl⟩:=List.mem_iff_getElem.1 hw
   exact ((R.v2 i _ (List.getElem?_eq_getElem hi)).2 x hx).1.c.1
end Go.D
end
section
namespace Go.D
open Go Go.Pav Go.Pw P
attribute [-simp] List.getElem_cons_drop
variable {C:WProg}
structure HasQb (C:WProg):Prop extends HasQz C where
 f143:C.fns.get 143=some w143
theorem bitF_rise (x:Nat):∀ m i,∀ (j:Nat) (h:j+1 < (bitF x i m).length),(bitF x i m)[j] < (bitF x i m)[j+1]
 | 0,i,j,h=>by simp [bitF] at h
 | m+1,i,j,h=>by
  have hh:=h
  unfold bitF at hh
  by_cases c:x / 2 ^ i % 2=1
  · rw [if_pos c] at hh
    have e:bitF x i (m+1)=i::bitF x (i+1) m:=by rw [bitF,if_pos c]
    simp only [e]
    cases j with
    | zero =>
     simp only [List.getElem_cons_zero,List.getElem_cons_succ]
     have hl:0 < (bitF x (i+1) m).length:=by simpa using hh
     have:=bitF_in x m (i+1) _ (List.getElem_mem hl)
     omega
    | succ j =>
     simp only [List.getElem_cons_succ]
     exact bitF_rise x m (i+1) j (by simpa using hh)
  · rw [if_neg c] at hh
    have e:bitF x i (m+1)=bitF x (i+1) m:=by rw [bitF,if_neg c]
    simp only [e]
    exact bitF_rise x m (i+1) j hh
theorem ptree2_ok (H:HasRo C) {r:Int} {l:List En} (L:LG r l) (a:Nat) (ha:a < l.length) (q:Bool):FnW C 238 [aR (kindsOf r) true 12,aL [l[a]] q,.int .i64 0]=some (.tup [.agg (trN (kindsOf r) l[a]).c,.int .i64 0]):=by
 have hx:=List.getElem_mem ha
 have h1:ckE (kindsOf r) 12 [l[a]]=0:=L.ck1 _ hx
 have h2:=tree_at H.toHasTr (kindsOf r) true 12 (ru_in r) [l[a]] q (by simp) (by intro y hy;rw [List.mem_singleton] at hy;subst hy;exact L.en _ hx) h1 0 (by simp) (L.t _ hx).2
 simp only [List.getElem_cons_zero] at h2
 rw [L.rE _ hx] at h2
 exact h2
theorem arena_ok (H:HasQz C) {r:Int} {l:List En} (L:LG r l) (hg:∀ x ∈ l,GoodE (kindsOf r) x) (hn:(keysE l).Nodup) (e:Bool) {B:Nat} (hB:B≤200) {ra:List Hd} {ps:List Pl} (S:StOk B ra ps) (K:CkS (kindsOf r) 12 ra ps) (ea pe:Bool) (A:List Nat) (f:Bool) (hA:A.length≤12) (hAl:∀ a ∈ A,a < l.length) (hAn:A.Nodup) (hri:∀ (i:Nat) (h:i+1 < A.length),A[i] < A[i+1]) :
 ∃ lv:Int,0≤lv∧lv≤60000∧∀ ar,1≤ar→ar≤65536→∃ (r1 r2:List Hd) (e1 e2:Bool) (p1 p2:List Pl) (g1 g2:Bool) (rb mk d:Int),
  FnW C 285 [.agg (cCf 100 1 1 (kindsOf r) true 12 ar 0),aSt ra ea ps pe,.ro 6 (l.map eEn) e,.ro 1 (A.map eAt) f]=some (.tup [aSt r1 e1 p1 g1,aCn rb mk d (if lv > ar then 0 else lv),.int .i64 (if lv > ar then 15 else 0)]) ∧
  FnW C 139 [.agg (cCf 100 1 1 (kindsOf r) true 12 ar 0),aSt ra ea ps pe,.agg [.ro 6 (l.map eEn) e],.ro 1 (A.map eAt) f]=some (.tup [aSt r2 e2 p2 g2,aCn rb mk d (if lv > ar then 0 else lv),.int .i64 (if lv > ar then 15 else 0)]) ∧
  FnW C 286 [aSt r2 e2 p2 g2,aSt r1 e1 p1 g1]=some (.int .i64 1):=by
 have hk:(kindsOf r).length=3:=rfl
 have R:=round_ok L hg hn S K A hA hAl hAn
 obtain ⟨z1,z2,z3,z4,z5,z6⟩:=round_two L R
 have hrl:=S.rl
 have hpl:=S.pl
 obtain ⟨lv,hlv⟩:∃ lv,live ((cmF (trK (kindsOf r)) (kindsOf r) ra (ps.map (·.1)) l A).1::(cmF (trK (kindsOf r)) (kindsOf r) ra (ps.map (·.1)) l A).2.1)=lv:=⟨_,rfl⟩
 have hlb:=R.lv
 rw [hlv] at hlb
 refine ⟨lv,hlb.1,by omega,fun ar ha1 ha2=>?_⟩
 have htyl:∀ x ∈ l,∃ t:Nat,x.i.t=t∧t < (kindsOf r).length:=fun x hx=>⟨x.i.t.toNat,by have:=L.t x hx;omega,by have:=L.t x hx;omega⟩
 have htyr:∀ x ∈ ra,∃ t:Nat,x.t=t∧t < (kindsOf r).length:=fun x hx=>by rw [hk];exact (S.q x hx).2
 obtain ⟨ps1,ea1,pe1,h1,h2⟩:=rcommit_ok H.toHasQm (trK (kindsOf r)) 100 1 1 (kindsOf r) true 12 ar 0 ra ea ps pe l e A f (by omega) hAl (by omega) (by rw [hpl];rfl) (by omega) (by omega)
  (fun p hp=>by have:=S.pb p hp;omega) htyl htyr (fun a ha=>rtree2_ok H.toHasRo L e a ha)
 have hF:=hfits_ok H.toHasQk 100 1 1 (kindsOf r) true 12 ar 0 (ru_in r) (ru_ok r L.hr) (by omega) (pl_ok r) ⟨ha1,ha2⟩
 have hC:=hcheck_ok 100 1 1 (kindsOf r) true 12 ar 0 H.toHasQk hF (by omega) (pl_ok r) ra ea ps pe K
 have hlc:=lcheck_ok H.toHasK (kindsOf r) true 12 (ru_in r) l e (by have:=L.hl;omega) L.en
 rw [L.ck] at hlc
 obtain ⟨ps2,h3,h4⟩:=hCommit_ok 100 1 1 (kindsOf r) true 12 ar 0 ra ea ps pe l e H (trN (kindsOf r)) A f hC hlc hri (by omega) hAl hAn hn (by have:=L.hl;omega) (by omega) K.rn (by rw [hpl];rfl) (by omega) (by omega) (fun p hp=>by have:=S.pb p hp;omega)
  (fun j w hw=>by
   rw [List.getElem?_map] at hw
   cases hq:ps[j]? with
   | none=>rw [hq] at hw;cases hw
   | some p=>rw [hq] at hw;obtain rfl:=Option.some.inj hw;exact (K.pv j p hq).1)
  htyl htyr (fun a ha q=>ptree2_ok H.toHasRo L a ha q) ⟨by omega,z5⟩ (fun w hw=>by rw [z2] at hw;have:=z6 w hw;exact ⟨by omega,this.2⟩) (by rw [z2,R.l2];omega)
 rw [z3,hlv,z2] at h4
 rw [z2] at h3
 rw [hlv] at h2
 by_cases c:lv > ar
 · rw [if_pos c] at h2 h4 ⊢
   have t2:=rhsame_ok H.toHasQo [] [] true true [] [] true true ⟨by simp,by simp⟩ (by simp) (by simp)
   have t3:(sameH [] []&&samePs [] [])=true:=rfl
   rw [if_pos t3] at t2
   refine ⟨[],[],true,true,[],[],true,true,0,0,0,?_,?_,t2⟩
   · rw [if_pos c];exact h2
   · rw [if_pos c];exact h4
 · rw [if_neg c] at h2 h4 ⊢
   rw [if_neg c]
   refine ⟨_,_,_,_,_,_,_,_,_,_,_,h2,h4,?_⟩
   have hs:∀ x ∈ ((cmF (trN (kindsOf r)) (kindsOf r) ra (ps.map (·.1)) l A).1.map kepH),NdIn x.n:=fun x hx=>by
    obtain ⟨y,hy,rfl⟩:=List.mem_map.1 hx
    exact ndin_v (ndv_of (by simp only [kepH];rw [cnt_kep];exact z5 y hy))
   have hq:(sameH ((cmF (trN (kindsOf r)) (kindsOf r) ra (ps.map (·.1)) l A).1.map kepH) (cmF (trK (kindsOf r)) (kindsOf r) ra (ps.map (·.1)) l A).1&&samePs ps2 ps1)=true:=by
    rw [sameH_z _ _ (by rw [hz_keps,z1]),samePs_z _ _ (by
     have e1:(ps2.map fun p=>p.1.map hz)=(ps2.map (·.1)).map fun w=>w.map hz:=by rw [List.map_map];rfl
     have e2:(ps1.map fun p=>p.1.map hz)=(ps1.map (·.1)).map fun w=>w.map hz:=by rw [List.map_map];rfl
     rw [e1,e2,h3,h1,List.map_map]
     exact List.map_congr_left fun w _=>hz_keps w)];rfl
   have hp2:ps2.length=3:=by have:=congrArg List.length h3;simp at this;rw [this];exact R.l2
   have t3:=rhsame_ok H.toHasQo ((cmF (trN (kindsOf r)) (kindsOf r) ra (ps.map (·.1)) l A).1.map kepH) (cmF (trK (kindsOf r)) (kindsOf r) ra (ps.map (·.1)) l A).1 true ea1 ps2 ps1 true pe1 ⟨by simp;omega,hs⟩ (by omega) (fun p hp=>by
    have:p.1 ∈ ps2.map (·.1):=List.mem_map.2 ⟨p,hp,rfl⟩
    rw [h3] at this
    obtain ⟨w,hw,he⟩:=List.mem_map.1 this
    have hw2:=z6 w hw
    rw [← he]
    refine ⟨by simp;omega,fun x hx=>?_⟩
    obtain ⟨y,hy,rfl⟩:=List.mem_map.1 hx
    exact ndin_v (ndv_of (by simp only [kepH];rw [cnt_kep];exact hw2.2 y hy)))
   rw [if_pos hq] at t3
   exact t3
theorem halaw_ok (H:HasQb C) (hl:FnW C 145 []=some (.bool true)) (q1 q2:List Q4) (e1 e2:Bool) (z1 z2:List Int) (f1 f2:Bool) (r r2:Int) (hr:0≤r∧r≤255) (w:List (Int × Int)) (we:Bool) (a b:Nat) (hb:b≤65535) (y:Int) (hy:-128≤y∧y≤127)
 {ra:List Hd} {ea:Bool} {ps:List Pl} {pe:Bool} (S:StOk 96 ra ps) (K:CkS (kindsOf r) 12 ra ps) (R1 R2:List En) (g1 g2:Bool) (L1:LG r R1) (L2:LG r R2) (G1:∀ x ∈ R1,GoodE (kindsOf r) x) (G2:∀ x ∈ R2,GoodE (kindsOf r) x) (N1:(keysE R1).Nodup) (N2:(keysE R2).Nodup)
 (ha:FnW C 283 [.agg [.ro 4 (q1.map eQ) e1,.ro 1 (z1.map eU8) f1,.int .u8 r,.ro 4 (q2.map eQ) e2,.ro 1 (z2.map eU8) f2,.int .u8 r2,.ro 2 (w.map eW) we]]=some (.tup [.agg (cCf 100 1 1 (kindsOf r) true 12 65536 0),aSt ra ea ps pe,.agg [.ro 6 (R1.map eEn) g1,.ro 6 (R2.map eEn) g2]])) :
 FnW C 143 [.agg [.ro 4 (q1.map eQ) e1,.ro 1 (z1.map eU8) f1,.int .u8 r,.ro 4 (q2.map eQ) e2,.ro 1 (z2.map eU8) f2,.int .u8 r2,.ro 2 (w.map eW) we],.agg [.int .u16 a,.int .u16 b],.int .i8 y]=some (.bool true):=by
 by_cases c:(a:Int).tmod 2=0
 · have hb2:=bits_ok H.toHasQo b R1.length hb (by have:=L1.hl;omega)
   have hbl:=bitF_len b (min R1.length 16) 0
   obtain ⟨lv,h0,h1,h2⟩:=arena_ok H.toHasQz L1 G1 N1 g1 (B:=96) (by omega) S K ea pe (bitF b 0 (min R1.length 16)) false (by have:=L1.hl;omega) (fun a ha=>by have:=bitF_in b _ 0 a ha;omega) (bitF_nd b _ 0) (bitF_rise b _ 0)
   obtain ⟨r1,_,x1,_,p1,_,y1,_,rb,mk,d,t1,_,_⟩:=h2 65536 (by omega) (by omega)
   rw [if_neg (by omega),if_neg (by omega)] at t1
   have hw:IntKind.i64.wrap (lv+y)=lv+y:=wI64 (by omega) (by omega)
   obtain ⟨ar,har⟩:∃ ar,imax 1 (lv+y)=ar:=⟨_,rfl⟩
   have har2:1≤ar∧ar≤65536:=by rw [← har];unfold imax;split <;> omega
   obtain ⟨r1',r2',x1',x2',p1',p2',y1',y2',rb',mk',d',s1,s2,s3⟩:=h2 ar har2.1 har2.2
   generalize kindsOf r=ks at *
   generalize bitF b 0 (min R1.length 16)=Z at *
   rw [fnW_eq H.f143 rfl]
   by_cases c2:ar < lv
   · simp only [gt_iff_lt,c2,if_true] at s1 s2
     simp (disch:=omega) [w143,H.toHasEq.inl,inlB,H.toHasEq.pp,ppB,ha,c,hb2,t1,hw,har,s1,s2,s3,hl,c2,wI64]
   · simp only [gt_iff_lt,c2,if_false] at s1 s2
     simp (disch:=omega) [w143,H.toHasEq.inl,inlB,H.toHasEq.pp,ppB,ha,c,hb2,t1,hw,har,s1,s2,s3,hl,c2,wI64]
 · have c':(a:Int).tmod 2=1:=by have:=Int.tmod_eq_emod_of_nonneg (a:=(a:Int)) (b:=2) (by omega);omega
   have hb2:=bits_ok H.toHasQo b R2.length hb (by have:=L2.hl;omega)
   have hbl:=bitF_len b (min R2.length 16) 0
   obtain ⟨lv,h0,h1,h2⟩:=arena_ok H.toHasQz L2 G2 N2 g2 (B:=96) (by omega) S K ea pe (bitF b 0 (min R2.length 16)) false (by have:=L2.hl;omega) (fun a ha=>by have:=bitF_in b _ 0 a ha;omega) (bitF_nd b _ 0) (bitF_rise b _ 0)
   obtain ⟨r1,_,x1,_,p1,_,y1,_,rb,mk,d,t1,_,_⟩:=h2 65536 (by omega) (by omega)
   rw [if_neg (by omega),if_neg (by omega)] at t1
   have hw:IntKind.i64.wrap (lv+y)=lv+y:=wI64 (by omega) (by omega)
   obtain ⟨ar,har⟩:∃ ar,imax 1 (lv+y)=ar:=⟨_,rfl⟩
   have har2:1≤ar∧ar≤65536:=by rw [← har];unfold imax;split <;> omega
   obtain ⟨r1',r2',x1',x2',p1',p2',y1',y2',rb',mk',d',s1,s2,s3⟩:=h2 ar har2.1 har2.2
   generalize kindsOf r=ks at *
   generalize bitF b 0 (min R2.length 16)=Z at *
   rw [fnW_eq H.f143 rfl]
   by_cases c2:ar < lv
   · simp only [gt_iff_lt,c2,if_true] at s1 s2
     simp (disch:=omega) [w143,H.toHasEq.inl,inlB,H.toHasEq.pp,ppB,ha,c',hb2,t1,hw,har,s1,s2,s3,hl,c2,wI64]
   · simp only [gt_iff_lt,c2,if_false] at s1 s2
     simp (disch:=omega) [w143,H.toHasEq.inl,inlB,H.toHasEq.pp,ppB,ha,c',hb2,t1,hw,har,s1,s2,s3,hl,c2,wI64]
end Go.D
end
