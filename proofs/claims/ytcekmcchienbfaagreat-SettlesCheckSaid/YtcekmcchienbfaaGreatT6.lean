/- Part of the theory that the claims of this work use: D25, D26, D27, D28, D29, D32, D34, D35, D36, GTy, V27, E01, E02, E03, E04, E06, E08, G01, E12, E13, E07, E09, D46, E15, E16, E10, E11, D30. No conditions of its own. -/
import Derived.Test.YtcekmcchienbfaaGreatT5
set_option linter.unusedVariables false
set_option linter.unusedSimpArgs false
set_option maxHeartbeats 4000000
set_option maxRecDepth 10000
section
namespace Go.D
open Go Go.Pav Go.Pw P
attribute [-simp] List.getElem_cons_drop
variable {C:WProg}
theorem exactS_ok (H:HasL C) (m:List Bs) (e:Bool) (hl:m.length≤1000000):FnW C 460 [.ro 1 (m.map eS) e]=some (.ro 1 (m.map eS) true):=by
 rw [fnW_eq H.f460 rfl]
 by_cases h:m=[]
 · subst h;simp [w460]
 · have h2:m.length * 17≤35184372088832:=by omega
   have hT:List.take m.length (List.map eS m)=List.map eS m:=List.take_of_length_le (by simp)
   simp (disch:=omega) [w460,h,h2,isE,hT]
theorem copy1_ok (H:HasL C) (x:It) (e:Bool) (hl:x.m.length≤1000000):FnW C 340 [.ro 4 [cIt x] e]=some (.ro 4 [cIt x.own] true):=by
 have hg:=fun a h n=>rnW_eq (args:=[a]) H.f459 rfl h n
 have he:=exactS_ok H x.m x.e hl
 rw [fnW_eq H.f340 rfl]
 simp (disch:=omega) [w340,ck_unf w340_B0.eq_1,ck_unf w340_c0.eq_1,hg,w459,he,H.inl,inlB,H.pp,ppB,It.own,wI64]
section
variable {β:Type} {base:Nat} {fin:Ex × WSt→Option β} {K:List Pw.Frame} {a:Ann} {l:List COper} {d:Option Nat} {e:Env} {n:Nat}
theorem sk_app0 {z bytes N nid:Nat} {zz:List AV} {xs:List (List AV)} {ex:Bool} (h:xs.length≤N) :
 SK C base fin K a l d e [(0,.cells z (List.replicate N zz) true true)] n (wEvApp [(0,.cells z (List.replicate N zz) true true)] nid z bytes (.sl 0 z 0 0 N ex) xs true) =
  OK C base fin K a l ⟨setD e d (.sl 0 z 0 xs.length N ex),[(0,.cells z (xs++List.replicate (N - xs.length) zz) true true)],n⟩:=by
 by_cases c:xs=[]
 · subst c;simp [sk_some]
 · simp [isE c,h,sk_some]
theorem sk_app {z bytes N nid k m:Nat} {zz:List AV} {A xs:List (List AV)} {ex:Bool} (hA:A.length=k) (hm:k+m=N) (h:xs.length≤m) :
 SK C base fin K a l d e [(0,.cells z (A++List.replicate m zz) true true)] n (wEvApp [(0,.cells z (A++List.replicate m zz) true true)] nid z bytes (.sl 0 z 0 k N ex) xs true) =
  OK C base fin K a l ⟨setD e d (.sl 0 z 0 (k+xs.length) N ex),[(0,.cells z (A++(xs++List.replicate (m - xs.length) zz)) true true)],n⟩:=by
 have h1:k+xs.length≤N:=by omega
 have h2:List.take k A=A:=List.take_of_length_le (by omega)
 have h3:List.drop (k+xs.length) A=[]:=List.drop_eq_nil_of_le (by omega)
 by_cases c:xs=[]
 · subst c;simp [sk_some]
 · simp (disch:=omega) [isE c,hA,hm,h1,h2,h3,sk_some,List.take_append,List.drop_append]
theorem sk_app2 {z bytes N nid k m:Nat} {zz:List AV} {A B xs:List (List AV)} {ex:Bool} (hA:A.length+B.length=k) (hm:k+m=N) (h:xs.length≤m) :
 SK C base fin K a l d e [(0,.cells z (A++(B++List.replicate m zz)) true true)] n (wEvApp [(0,.cells z (A++(B++List.replicate m zz)) true true)] nid z bytes (.sl 0 z 0 k N ex) xs true) =
  OK C base fin K a l ⟨setD e d (.sl 0 z 0 (k+xs.length) N ex),[(0,.cells z (A++(B++(xs++List.replicate (m - xs.length) zz))) true true)],n⟩:=by
 have:=sk_app (C:=C) (base:=base) (fin:=fin) (K:=K) (a:=a) (l:=l) (d:=d) (e:=e) (n:=n) (z:=z) (bytes:=bytes) (N:=N) (nid:=nid) (k:=k) (m:=m) (zz:=zz) (A:=A++B) (xs:=xs) (ex:=ex) (by simpa using hA) hm h
 simpa only [List.append_assoc] using this
end
theorem splice_ok (H:HasL C) (l x:List En) (e e2:Bool) (a c:Nat) (hl:l.length≤1000000) (hx:x.length≤1000000) (hac:a+c≤l.length) :
 FnW C 221 [.ro 6 (l.map eEn) e,.int .i64 a,.int .i64 c,.ro 6 (x.map eEn) e2]=some (.ro 6 ((spl l a c x).map eEn) true):=by
 rw [fnW_eq H.f221 rfl]
 obtain ⟨N,hN,hN2⟩:∃ N:Nat,(l.length:Int) - c+x.length=N∧N=l.length - c+x.length:=⟨_,by omega,rfl⟩
 have h1:(c:Int)≤l.length:=by omega
 have h2:N * 73≤35184372088832:=by omega
 have hA:min a l.length=a:=by omega
 have h3:a≤N:=by omega
 have h4:a+x.length≤N:=by omega
 have h5:a+x.length+(l.length - (a+c))=N:=by omega
 have h6:a≤l.length:=by omega
 have hT:List.take l.length (List.map eEn l)=List.map eEn l:=List.take_of_length_le (by simp)
 have h9:a+(x.length+(l.length - (a+c)))=N:=by omega
 have h7:N - a - x.length=l.length - (a+c):=by omega
 have h8:List.take N (List.map eEn (spl l a c x))=List.map eEn (spl l a c x):=List.take_of_length_le (by simp [spl];omega)
 simp only [spl] at h8 ⊢
 simp at h8
 simp (disch:=first | omega | (simp;done) | (simp;omega)) [w221,wI64,h1,hN,h2,hA,h3,h4,h5,h6,hac,-wEvApp_sl,sk_app0,sk_app,sk_app2,hT,h7,h8,h9]
end Go.D
end
section
namespace Go.D
open Go Go.Pav Go.Pw P
attribute [-simp] List.getElem_cons_drop
variable {C:WProg}
structure HasK (C:WProg):Prop extends HasZ C,HasL C where
 f399:C.fns.get 399=some w399
 f230:C.fns.get 230=some w230
 f405:C.fns.get 405=some w405
 f232:C.fns.get 232=some w232
 f115:C.fns.get 115=some w115
 f236:C.fns.get 236=some w236
 f271:C.fns.get 271=some w271
 f223:C.fns.get 223=some w223
 f235:C.fns.get 235=some w235
theorem kdAt_get {ks:List Kd} {t:Nat} (h:t < ks.length):kdAt ks t=ks[t]:=by
 unfold kdAt;simp [h]
theorem itOk_t {n:Int} {x:It} (h:itOk n x=true):x.t < n:=by
 unfold itOk at h;simp at h;exact h.1.1.2
theorem rrender_ok (H:HasK C) (ks:List Kd) (ke:Bool) (cap:Int) (x:It) (hx:ItIn x) (ht:x.t < ks.length) (hr:RuIn ks) :
 FnW C 399 [aR ks ke cap,eIt x]=some (.tup [.agg (rndN (kdAt ks x.t).p x cap).c,.int .i64 (rndE (kdAt ks x.t).p x cap)]):=by
 obtain ⟨t,hT⟩:∃ t:Nat,x.t=t:=⟨x.t.toNat,by have:=hx.t;omega⟩
 have h1:t < ks.length:=by omega
 have h:=render_ok H.toHasZ ks[t].p (hr.f _ (List.getElem_mem h1)) x hx.k cap
 rw [hT,kdAt_get h1]
 rw [fnW_eq H.f399 rfl]
 generalize (rndN ks[t].p x cap)=N at *
 generalize rndE ks[t].p x cap=E at *
 rw [Pt.c_eq] at h
 simp only [eIt,hT] at h
 simp (disch:=omega) [w399,hT,h1,h,H.inl,inlB,H.pp,ppB]
theorem bad_ok (H:HasK C) (k:Kd):FnW C 230 [.agg (eKd k)]=some (.bool (!kdOk k)):=by
 have h1:=height_ok H.toHasL k.b
 have h2:=tCheck_ok H.toHasT k.p
 rw [Pt.c_eq] at h2
 rw [fnW_eq H.f230 rfl]
 unfold kdOk
 generalize hOk k.b=X at *
 cases X
 · simp [w230,h1,H.inl,inlB,H.pp,ppB]
 · by_cases c:tcnt k.p=0
   · simp [c] at h2
     simp [w230,h1,h2,c,H.inl,inlB,H.pp,ppB]
   · simp [c] at h2
     simp [w230,h1,h2,c,H.inl,inlB,H.pp,ppB]
theorem indexK_loop (H:HasK C) (ks:List Kd) (e:Bool) (hl:ks.length≤1000000):∀ n i,n+i=ks.length →
 ∃ v:Int,w405_K0 C ⟨[(8,.int .i64 i),(7,.int .i64 ks.length),(1,.fn 230 []),(0,.ro 9 (ks.map eKd) e)],[],0⟩=some (.int .i64 v)∧decide (v < 0)=(ks.drop i).all kdOk:=by
 intro n
 induction n with
 | zero =>
  intro i hi
  simp only [w405_K0];rw [ck_unf w405_B0.eq_1]
  have h1:ks.drop i=[]:=List.drop_eq_nil_of_le (by omega)
  have h3:¬ i < ks.length:=by omega
  exact ⟨-1,by simp (disch:=omega) [ck_unf w405_c0.eq_1,h1,h3],by simp [h1]⟩
 | succ n ih =>
  intro i hi
  have h1:i < ks.length:=by omega
  have hb:=bad_ok H ks[i]
  simp only [eKd] at hb
  rw [drop_cons h1]
  cases c:kdOk ks[i]
  · refine ⟨i,?_,by simp [c]⟩
    rw [c] at hb
    simp only [w405_K0];rw [ck_unf w405_B0.eq_1]
    simp (disch:=omega) [h1,hb,H.inl,inlB,H.pp,ppB]
  · obtain ⟨v,hv,hq⟩:=ih (i+1) (by omega)
    refine ⟨v,?_,by simp [hq,c]⟩
    rw [c] at hb
    simp only [w405_K0] at hv ⊢;rw [ck_unf w405_B0.eq_1]
    simp at hv
    simp (disch:=omega) [h1,wI64,hb,H.inl,inlB,H.pp,ppB,hv]
theorem containsK_ok (H:HasK C) (ks:List Kd) (e:Bool) (hl:ks.length≤1000000):FnW C 232 [.ro 9 (ks.map eKd) e,.fn 230 []]=some (.bool (!ks.all kdOk)):=by
 obtain ⟨v,h,q⟩:=indexK_loop H ks e hl ks.length 0 (by simp)
 simp only [w405_K0] at h
 simp at h
 have h2:FnW C 405 [.ro 9 (ks.map eKd) e,.fn 230 []]=some (.int .i64 v):=by
  rw [fnW_eq H.f405 rfl]
  simp [w405,h]
 rw [fnW_eq H.f232 rfl]
 rw [List.drop_zero] at q
 rw [← q]
 by_cases c:v < 0
 · have c':¬ 0≤v:=by omega
   simp [w232,H.inl,inlB,H.pp,ppB,h2,c,c']
 · have c':0≤v:=by omega
   simp [w232,H.inl,inlB,H.pp,ppB,h2,c,c']
theorem valid_ok (H:HasK C) (ks:List Kd) (ke:Bool) (cap:Int) (hr:RuIn ks):FnW C 115 [aR ks ke cap]=some (.int .i64 (if ruOk ks cap=true then 0 else 7)):=by
 have h:=containsK_ok H ks ke hr.n
 have hl:=hr.n
 rw [fnW_eq H.f115 rfl]
 unfold ruOk
 by_cases c1:1≤ks.length
 · have c1':¬ ((ks.length:Int) < 1):=by omega
   by_cases c2:ks.length≤8
   · have c2':¬ (8 < (ks.length:Int)):=by omega
     by_cases c3:1≤cap
     · have c3':¬ cap < 1:=by omega
       by_cases c4:cap≤64
       · have c4':¬ 64 < cap:=by omega
         cases c5:ks.all kdOk
         · rw [c5] at h
           simp [w115,c1,c1',c2,c2',c3,c3',c4,c4',h,H.inl,inlB,H.pp,ppB]
         · rw [c5] at h
           simp [w115,c1,c1',c2,c2',c3,c3',c4,c4',h,H.inl,inlB,H.pp,ppB]
       · have c4':64 < cap:=by omega
         simp [w115,c1,c1',c2,c2',c3,c3',c4,c4']
     · have c3':cap < 1:=by omega
       simp [w115,c1,c1',c2,c2',c3,c3']
   · have c2':(8 < (ks.length:Int)):=by omega
     simp [w115,c1,c1',c2,c2']
 · have c1':((ks.length:Int) < 1):=by omega
   simp [w115,c1,c1']
theorem rvalid_loop (H:HasK C) (ks:List Kd) (ke:Bool) (cap:Int) (hr:RuIn ks):∀ n i,n+i=ks.length →
 w236_K0 C ⟨[(3,.int .i64 i),(1,.ptr 0 0 0)],[(0,.cells 2 [[.ro 9 (ks.map eKd) ke,.int .i64 cap]] true true)],1⟩=some (.int .i64 (if (ks.drop i).all kdOk=true then 0 else 7)):=by
 have hl:=hr.n
 intro n
 induction n with
 | zero =>
  intro i hi
  simp only [w236_K0];rw [ck_unf w236_B0.eq_1]
  have h1:ks.drop i=[]:=List.drop_eq_nil_of_le (by omega)
  have h3:¬ i < ks.length:=by omega
  simp (disch:=omega) [ck_unf w236_c0.eq_1,h1,h3]
 | succ n ih =>
  intro i hi
  have h1:i < ks.length:=by omega
  have hc:=trCheck_ok H.toHasU ks[i].p (hr.f _ (List.getElem_mem h1))
  rw [Pt.c_eq] at hc
  have:=ih (i+1) (by omega)
  rw [drop_cons h1,List.all_cons]
  generalize (ks.drop (i+1)).all kdOk=X at *
  simp only [w236_K0] at this ⊢;rw [ck_unf w236_B0.eq_1]
  simp at this
  unfold kdOk hOk
  by_cases c1:1≤ks[i].b
  · have c1':¬ ks[i].b < 1:=by omega
    by_cases c2:ks[i].b≤2305843009213693952
    · have c2':¬ 2305843009213693952 < ks[i].b:=by omega
      by_cases c3:tcnt ks[i].p=0
      · simp [c3] at hc
        simp (disch:=omega) [h1,wI64,c1,c1',c2,c2',c3,hc,H.inl,inlB,H.pp,ppB]
      · simp [c3] at hc
        simp (disch:=omega) [h1,wI64,c1,c1',c2,c2',c3,hc,H.inl,inlB,H.pp,ppB,this]
    · have c2':2305843009213693952 < ks[i].b:=by omega
      simp (disch:=omega) [h1,wI64,c1,c1',c2,c2']
  · have c1':ks[i].b < 1:=by omega
    simp (disch:=omega) [h1,wI64,c1,c1']
theorem rvalid_ok (H:HasK C) (ks:List Kd) (ke:Bool) (cap:Int) (hr:RuIn ks):FnW C 236 [aR ks ke cap]=some (.int .i64 (if ruOk ks cap=true then 0 else 7)):=by
 have h:=rvalid_loop H ks ke cap hr ks.length 0 (by simp)
 rw [List.drop_zero] at h
 have hl:=hr.n
 rw [fnW_eq H.f236 rfl]
 unfold ruOk
 generalize ks.all kdOk=X at *
 simp only [w236_K0] at h
 simp at h
 by_cases c1:1≤ks.length
 · have c1':¬ ks=[]:=by intro q;subst q;simp at c1
   by_cases c2:ks.length≤8
   · have c2':¬ (8 < (ks.length:Int)):=by omega
     by_cases c3:1≤cap
     · have c3':¬ cap < 1:=by omega
       by_cases c4:cap≤64
       · have c4':¬ 64 < cap:=by omega
         simp [w236,c1,c1',c2,c2',c3,c3',c4,c4',h]
       · have c4':64 < cap:=by omega
         simp [w236,c1,c1',c2,c2',c3,c3',c4,c4']
     · have c3':cap < 1:=by omega
       simp [w236,c1,c1',c2,c2',c3,c3']
   · have c2':(8 < (ks.length:Int)):=by omega
     simp [w236,c1,c1',c2,c2']
 · have c1':ks=[]:=by cases ks with | nil=>rfl | cons a r=>simp at c1
   subst c1'
   simp [w236]
theorem ritem_ok (H:HasK C) (ks:List Kd) (ke:Bool) (cap:Int) (x:It) (hx:ItIn x) (hr:RuIn ks) (seen:Bool) :
 FnW C 271 [aR ks ke cap,eIt x,.int .i64 (if seen=true then 1 else 0)]=some (.int .i64 (itE ks cap x seen)):=by
 have hc:=rcheck_ok H.toHasI x ks.length hx.t hx.m
 rw [fnW_eq H.f271 rfl]
 unfold itE
 cases c1:itOk ks.length x
 · rw [c1] at hc
   simp at hc
   simp [w271,hc,H.inl,inlB,H.pp,ppB]
 · rw [c1] at hc
   cases seen
   · have ht:=itOk_t c1
     obtain ⟨t,hT⟩:∃ t:Nat,x.t=t:=⟨x.t.toNat,by have:=hx.t;omega⟩
     have h1:t < ks.length:=by omega
     have h:=rRender_ok H.toHasZ ks[t].p (hr.f _ (List.getElem_mem h1)) x hx.k cap
     rw [hT,kdAt_get h1]
     have hE:0≤rndE ks[t].p x cap:=by unfold rndE;repeat (first | omega | split)
     generalize (rndR ks[t].p x cap)=N at *
     generalize rndE ks[t].p x cap=E at *
     rw [Pt.c_eq] at h
     simp only [eIt,hT] at h hc
     by_cases c:E=0
     · subst c
       simp at hc
       simp (disch:=omega) [w271,hc,hT,h1,h,H.inl,inlB,H.pp,ppB]
     · have c':0 < E:=by omega
       simp at hc
       simp (disch:=omega) [w271,hc,hT,h1,h,c,c',H.inl,inlB,H.pp,ppB]
   · simp at hc
     simp [w271,hc,H.inl,inlB,H.pp,ppB]
def kmap (s:List Int):List (AV × AV):=s.map fun k=>(.int .u64 k,.bool true)
theorem kmap_nil:kmap []=[]:=rfl
theorem kmap_get (k:Int):∀ s:List Int,mapGet (kmap s) (.int .u64 k)=some (if s.contains k=true then some (.bool true) else none)
 | []=>rfl
 | a::r=>by
  have ih:=kmap_get k r
  unfold kmap at ih ⊢
  rw [List.map_cons,mapGet]
  simp only [eqCell,if_true,ob]
  by_cases c:k=a
  · subst c;simp
  · simp [c,ih]
theorem kmap_put (k:Int):∀ s:List Int,s.contains k=false→mapPut (kmap s) (.int .u64 k) (.bool true)=some (kmap (s++[k]))
 | [],_=>rfl
 | a::r,h=>by
  simp at h
  have ih:=kmap_put k r (by simpa using h.2)
  unfold kmap at ih ⊢
  rw [List.map_cons,mapPut]
  simp only [eqCell,if_true,ob]
  simp [h.1,ih,om]
theorem fndF_has (k:Int):∀ (l:List En) (i:Nat),decide (0≤fndF k i l)=(l.map fun e=>e.i.k).contains k
 | [],_=>rfl
 | e::r,i=>by
  rw [fndF]
  by_cases c:e.i.k=k
  · rw [if_pos c];simp [c]
  · have c':¬ k=e.i.k:=fun q=>c q.symm
    rw [if_neg c,fndF_has k r (i+1)]
    simp [c']
abbrev keysE (l:List En):List Int:=l.map fun e=>e.i.k
theorem check_loop (H:HasK C) (ks:List Kd) (ke:Bool) (cap:Int) (hr:RuIn ks) (l:List En) (e:Bool) (hl:l.length≤1000000) (hs:∀ x ∈ l,EnIn x):∀ n i,n+i=l.length→∀ seen:List Int,
 w223_K0 C ⟨[(25,.int .i64 i),(24,.int .i64 l.length),(23,.ro 6 (l.map eEn) e),(6,.map 0),(3,.ptr 1 0 0),(2,.ptr 2 0 0)],[(0,.map (kmap seen)),(1,.cells 1 [[.ro 6 (l.map eEn) e]] true true),(2,.cells 2 [[.ro 9 (ks.map eKd) ke,.int .i64 cap]] true true)],3⟩ =
  some (.int .i64 (if chk ks cap seen (l.drop i)≠0 then chk ks cap seen (l.drop i) else ovE l)):=by
 intro n
 induction n with
 | zero =>
  intro i hi seen
  have ht:=total_ok H.toHasL l e hl hs
  simp only [w223_K0];rw [ck_unf w223_B0.eq_1]
  have h1:l.drop i=[]:=List.drop_eq_nil_of_le (by omega)
  have h3:¬ i < l.length:=by omega
  simp (disch:=omega) [ck_unf w223_c0.eq_1,h1,h3,chk,ht,H.inl,inlB,H.pp,ppB]
 | succ n ih =>
  intro i hi seen
  have h1:i < l.length:=by omega
  have hx:=hs _ (List.getElem_mem h1)
  have hc:=icheck_ok H.toHasI l[i].i ks.length hx.i.t
  have hg:=kmap_get l[i].i.k seen
  rw [drop_cons h1,chk]
  cases c1:itOk ks.length l[i].i
  · have hE:enE ks cap l[i] (seen.contains l[i].i.k)=6:=by unfold enE itE;simp [c1]
    rw [hE]
    rw [c1] at hc
    simp at hc
    simp only [w223_K0];rw [ck_unf w223_B0.eq_1]
    simp (disch:=omega) [h1,hc,H.inl,inlB,H.pp,ppB]
  · rw [c1] at hc
    simp at hc
    cases c2:seen.contains l[i].i.k
    · have ht:=itOk_t c1
      obtain ⟨t,hT⟩:∃ t:Nat,l[i].i.t=t:=⟨l[i].i.t.toNat,by have:=hx.i.t;omega⟩
      have h2:t < ks.length:=by omega
      have hp:=kmap_put l[i].i.k seen c2
      have hre:=rrender_ok H ks ke cap l[i].i hx.i ht hr
      have hh:=height_ok H.toHasL l[i].s
      have this:=ih (i+1) (by omega) (seen++[l[i].i.k])
      rw [c2] at hg
      simp only [aR,eIt] at hre
      have hk:=kdAt_get h2
      have hE:enE ks cap l[i] false=if rndE ks[t].p l[i].i cap=0 then (if hOk l[i].s=true∧(l[i].kn=true∨l[i].s=ks[t].b) then 0 else 12) else 14:=by
       unfold enE itE
       rw [c1,hT,hk]
       by_cases q:rndE ks[t].p l[i].i cap=0 <;> simp [q]
      simp only [eIt,hT,hk] at hc hre
      generalize rndN ks[t].p l[i].i cap=N at *
      generalize rndE ks[t].p l[i].i cap=E at *
      by_cases c3:E=0
      · subst c3
        cases c4:hOk l[i].s
        · rw [c4] at hh
          have hE':enE ks cap l[i] false=12:=by rw [hE];simp [c4]
          rw [hE']
          simp only [w223_K0];rw [ck_unf w223_B0.eq_1]
          simp (disch:=omega) [h1,h2,hT,hc,hg,hp,hre,hh,H.inl,inlB,H.pp,ppB]
        · rw [c4] at hh
          cases c5:l[i].kn
          · by_cases c6:l[i].s=ks[t].b
            · have hE':enE ks cap l[i] false=0:=by rw [hE,if_pos rfl,if_pos ⟨c4,.inr c6⟩]
              rw [hE']
              simp only [w223_K0] at this ⊢;rw [ck_unf w223_B0.eq_1]
              generalize chk ks cap (seen++[l[i].i.k]) (List.drop (i+1) l)=Z at *
              simp at this
              simp (disch:=omega) [h1,h2,hT,hc,hg,hp,hre,hh,c5,eq_true c6,wI64,H.inl,inlB,H.pp,ppB,this]
            · have hE':enE ks cap l[i] false=12:=by rw [hE];simp [c5,c6]
              rw [hE']
              simp only [w223_K0];rw [ck_unf w223_B0.eq_1]
              simp (disch:=omega) [h1,h2,hT,hc,hg,hp,hre,hh,c5,c6,H.inl,inlB,H.pp,ppB]
          · have hE':enE ks cap l[i] false=0:=by rw [hE];simp [c4,c5]
            rw [hE']
            simp only [w223_K0] at this ⊢;rw [ck_unf w223_B0.eq_1]
            generalize chk ks cap (seen++[l[i].i.k]) (List.drop (i+1) l)=Z at *
            simp at this
            simp (disch:=omega) [h1,h2,hT,hc,hg,hp,hre,hh,c5,wI64,H.inl,inlB,H.pp,ppB,this]
      · have hE':enE ks cap l[i] false=14:=by rw [hE];simp [c3]
        rw [hE']
        simp only [w223_K0];rw [ck_unf w223_B0.eq_1]
        simp (disch:=omega) [h1,h2,hT,hc,hg,hp,hre,c3,H.inl,inlB,H.pp,ppB]
    · have hE:enE ks cap l[i] true=8:=by unfold enE itE;simp [c1]
      rw [hE]
      rw [c2] at hg
      simp only [w223_K0];rw [ck_unf w223_B0.eq_1]
      simp (disch:=omega) [h1,hc,hg,H.inl,inlB,H.pp,ppB]
theorem lcheck_ok (H:HasK C) (ks:List Kd) (ke:Bool) (cap:Int) (hr:RuIn ks) (l:List En) (e:Bool) (hl:l.length≤1000000) (hs:∀ x ∈ l,EnIn x) :
 FnW C 223 [aR ks ke cap,aL l e]=some (.int .i64 (ckE ks cap l)):=by
 have hv:=valid_ok H ks ke cap hr
 have h:=check_loop H ks ke cap hr l e hl hs l.length 0 (by simp) []
 rw [List.drop_zero,kmap_nil] at h
 rw [fnW_eq H.f223 rfl]
 unfold ckE
 generalize (if chk ks cap [] l≠0 then chk ks cap [] l else ovE l)=R at *
 simp only [w223_K0] at h
 simp at h
 cases c1:ruOk ks cap
 · rw [c1] at hv
   simp at hv
   simp [w223,hv,H.inl,inlB,H.pp,ppB]
 · rw [c1] at hv
   simp at hv
   by_cases c2:1024 < l.length
   · have c2':1024 < (l.length:Int):=by omega
     simp [w223,hv,c2,c2',H.inl,inlB,H.pp,ppB]
   · have c2':¬ 1024 < (l.length:Int):=by omega
     simp [w223,hv,c2,c2',h,H.inl,inlB,H.pp,ppB]
theorem rcheck_loop2 (H:HasK C) (ks:List Kd) (ke:Bool) (cap:Int) (hr:RuIn ks) (l:List En) (e:Bool) (hl:l.length≤1000000) (hs:∀ x ∈ l,EnIn x):∀ n i,n+i=l.length →
 w235_K0 C ⟨[(5,.int .i64 i),(2,.ptr 0 0 0),(1,.ro 6 (l.map eEn) e)],[(0,.cells 2 [[.ro 9 (ks.map eKd) ke,.int .i64 cap]] true true)],1⟩ =
  some (.int .i64 (if chk ks cap (keysE (l.take i)) (l.drop i)≠0 then chk ks cap (keysE (l.take i)) (l.drop i) else ovE l)):=by
 intro n
 induction n with
 | zero =>
  intro i hi
  have ht:=rover_ok H.toHasL l e hl hs
  simp only [w235_K0];rw [ck_unf w235_B0.eq_1]
  have h1:l.drop i=[]:=List.drop_eq_nil_of_le (by omega)
  have h3:¬ i < l.length:=by omega
  simp (disch:=omega) [ck_unf w235_c0.eq_1,h1,h3,chk,ht,H.inl,inlB,H.pp,ppB]
 | succ n ih =>
  intro i hi
  have h1:i < l.length:=by omega
  have h1':i≤l.length:=by omega
  have hx:=hs _ (List.getElem_mem h1)
  have hf:=fun e=>rfind_ok H.toHasL (l.take i) e l[i].i.k (by rw [List.length_take];omega)
  have hb:=is_ok H.toHasL (decide (0≤fndF l[i].i.k 0 (l.take i)))
  have hii:=ritem_ok H ks ke cap l[i].i hx.i hr (decide (0≤fndF l[i].i.k 0 (l.take i)))
  have this:=ih (i+1) (by omega)
  rw [show keysE (l.take (i+1))=keysE (l.take i)++[l[i].i.k] by rw [keysE,List.take_succ_eq_append_getElem h1,List.map_append];rfl] at this
  rw [drop_cons h1,chk,← fndF_has l[i].i.k (l.take i) 0]
  generalize fndF l[i].i.k 0 (l.take i)=F at *
  simp only [List.map_take] at hf
  simp only [aR,eIt] at hii
  have hE:enE ks cap l[i] (decide (0≤F))=if itE ks cap l[i].i (decide (0≤F))≠0 then itE ks cap l[i].i (decide (0≤F)) else if hOk l[i].s=true∧(l[i].kn=true∨l[i].s=(kdAt ks l[i].i.t).b) then 0 else 12:=rfl
  have hE0:0≤itE ks cap l[i].i (decide (0≤F)):=by unfold itE;repeat (first | omega | split)
  have hEt:itE ks cap l[i].i (decide (0≤F))=0→l[i].i.t < ks.length:=by
   intro q
   unfold itE at q
   cases c:itOk ks.length l[i].i
   · rw [if_pos c] at q;cases q
   · exact itOk_t c
  generalize itE ks cap l[i].i (decide (0≤F))=E at *
  generalize enE ks cap l[i] (decide (0≤F))=V at *
  generalize (if decide (0≤F)=true then (1:Int) else 0)=S at *
  by_cases c3:E=0
  · subst c3
    obtain ⟨t,hT⟩:∃ t:Nat,l[i].i.t=t:=⟨l[i].i.t.toNat,by have:=hx.i.t;omega⟩
    have h2:t < ks.length:=by have:=hEt rfl;omega
    rw [hT,kdAt_get h2] at hE
    simp only [hT] at hii
    unfold hOk at hE
    by_cases c4:1≤l[i].s
    · have c4':¬ l[i].s < 1:=by omega
      by_cases c5:l[i].s≤2305843009213693952
      · have c5':¬ 2305843009213693952 < l[i].s:=by omega
        cases c6:l[i].kn
        · by_cases c7:l[i].s=ks[t].b
          · have hV:V=0:=by rw [hE,if_neg (by simp),if_pos ⟨by simp [c4,c5],.inr c7⟩]
            rw [hV]
            simp only [w235_K0] at this ⊢;rw [ck_unf w235_B0.eq_1]
            generalize chk ks cap (keysE (l.take i)++[l[i].i.k]) (List.drop (i+1) l)=Z at *
            simp at this
            simp (disch:=omega) [h1,h1',h2,hT,hf,hb,hii,c4,c4',c5,c5',c6,eq_true c7,wI64,H.inl,inlB,H.pp,ppB,this]
          · have hV:V=12:=by rw [hE,if_neg (by simp),if_neg (by simp [c6,c7])]
            rw [hV]
            simp only [w235_K0];rw [ck_unf w235_B0.eq_1]
            simp (disch:=omega) [h1,h1',h2,hT,hf,hb,hii,c4,c4',c5,c5',c6,c7,H.inl,inlB,H.pp,ppB]
        · have hV:V=0:=by rw [hE,if_neg (by simp),if_pos ⟨by simp [c4,c5],.inl c6⟩]
          rw [hV]
          simp only [w235_K0] at this ⊢;rw [ck_unf w235_B0.eq_1]
          generalize chk ks cap (keysE (l.take i)++[l[i].i.k]) (List.drop (i+1) l)=Z at *
          simp at this
          simp (disch:=omega) [h1,h1',h2,hT,hf,hb,hii,c4,c4',c5,c5',c6,wI64,H.inl,inlB,H.pp,ppB,this]
      · have c5':2305843009213693952 < l[i].s:=by omega
        have hV:V=12:=by rw [hE,if_neg (by simp),if_neg (by simp [c5])]
        rw [hV]
        simp only [w235_K0];rw [ck_unf w235_B0.eq_1]
        simp (disch:=omega) [h1,h1',h2,hT,hf,hb,hii,c4,c4',c5,c5',H.inl,inlB,H.pp,ppB]
    · have c4':l[i].s < 1:=by omega
      have hV:V=12:=by rw [hE,if_neg (by simp),if_neg (by simp [c4])]
      rw [hV]
      simp only [w235_K0];rw [ck_unf w235_B0.eq_1]
      simp (disch:=omega) [h1,h1',h2,hT,hf,hb,hii,c4,c4',H.inl,inlB,H.pp,ppB]
  · have c3':0 < E:=by omega
    have hV:V=E:=by rw [hE,if_pos c3]
    rw [hV]
    simp only [w235_K0];rw [ck_unf w235_B0.eq_1]
    simp (disch:=omega) [h1,h1',hf,hb,hii,c3,c3',H.inl,inlB,H.pp,ppB]
theorem rlcheck_ok (H:HasK C) (ks:List Kd) (ke:Bool) (cap:Int) (hr:RuIn ks) (l:List En) (e:Bool) (hl:l.length≤1000000) (hs:∀ x ∈ l,EnIn x) :
 FnW C 235 [aR ks ke cap,.ro 6 (l.map eEn) e]=some (.int .i64 (ckE ks cap l)):=by
 have hv:=rvalid_ok H ks ke cap hr
 have h:=rcheck_loop2 H ks ke cap hr l e hl hs l.length 0 (by simp)
 rw [List.drop_zero,List.take_zero] at h
 rw [fnW_eq H.f235 rfl]
 unfold ckE
 simp only [keysE,List.map_nil] at h
 generalize (if chk ks cap [] l≠0 then chk ks cap [] l else ovE l)=R at *
 simp only [w235_K0] at h
 simp at h
 cases c1:ruOk ks cap
 · rw [c1] at hv
   simp at hv
   simp [w235,hv,H.inl,inlB,H.pp,ppB]
 · rw [c1] at hv
   simp at hv
   by_cases c2:1024 < l.length
   · have c2':1024 < (l.length:Int):=by omega
     simp [w235,hv,c2,c2',H.inl,inlB,H.pp,ppB]
   · have c2':¬ 1024 < (l.length:Int):=by omega
     simp [w235,hv,c2,c2',h,H.inl,inlB,H.pp,ppB]
structure HasO (C:WProg):Prop extends HasK C where
 f222:C.fns.get 222=some w222
theorem rfresh_ok (H:HasK C) (ks:List Kd) (ke:Bool) (cap:Int) (x:It) (hx:ItIn x) (ht:x.t < ks.length) :
 FnW C 240 [aR ks ke cap,eIt x]=some (aE (fre ks x)):=by
 obtain ⟨t,hT⟩:∃ t:Nat,x.t=t:=⟨x.t.toNat,by have:=hx.t;omega⟩
 have h1:t < ks.length:=by omega
 rw [fnW_eq H.f240 rfl]
 unfold fre
 rw [hT,kdAt_get h1]
 simp (disch:=omega) [w240,hT,h1]
theorem fresh_loop (H:HasK C) (ks:List Kd) (ke:Bool) (cap:Int) (x:List It) (e:Bool) (hxl:x.length≤1000000) (hx:∀ i ∈ x,ItIn i∧i.t < ks.length):∀ n i,n+i=x.length→∀ G:List En,G.length=i →
 w400_K0 C ⟨[(13,.int .i64 i),(12,.int .i64 x.length),(11,.ro 4 (x.map cIt) e),(5,.sl 0 6 0 x.length x.length true),(2,.ptr 1 0 0)],[(0,.cells 6 (G.map eEn++List.replicate n [.int .u64 0,.int .u8 0,.str [],.ro 1 [] true,.int .i64 0,.bool false]) true true),(1,.cells 2 [[.ro 9 (ks.map eKd) ke,.int .i64 cap]] true true)],2⟩ =
  some (.ro 6 ((G++(x.drop i).map (fre ks)).map eEn) true):=by
 intro n
 induction n with
 | zero =>
  intro i hi G hG
  have h1:x.drop i=[]:=List.drop_eq_nil_of_le (by omega)
  have h3:¬ i < x.length:=by omega
  have h6:List.take x.length (List.map eEn G)=List.map eEn G:=List.take_of_length_le (by simp;omega)
  have h7:G.length=x.length:=by omega
  simp only [w400_K0];rw [ck_unf w400_B0.eq_1]
  simp [ck_unf w400_c0.eq_1,h1,h3,h6,h7]
 | succ n ih =>
  intro i hi G hG
  have h1:i < x.length:=by omega
  have hxi:=hx _ (List.getElem_mem h1)
  obtain ⟨t,hT⟩:∃ t:Nat,x[i].t=t:=⟨x[i].t.toNat,by have:=hxi.1.t;omega⟩
  have h2:t < ks.length:=by have:=hxi.2;omega
  have:=ih (i+1) (by omega) (G++[fre ks x[i]]) (by simp [hG])
  rw [drop_cons h1]
  simp only [w400_K0] at this ⊢;rw [ck_unf w400_B0.eq_1]
  simp [fre,hT,kdAt_get h2] at this
  simp (disch:=omega) [h1,h2,hT,wI64,fill_get,fill_set,hG,fre,kdAt_get h2,this]
theorem fresh_ok (H:HasK C) (ks:List Kd) (ke:Bool) (cap:Int) (x:List It) (e:Bool) (hxl:x.length≤1000000) (hx:∀ i ∈ x,ItIn i∧i.t < ks.length) :
 FnW C 400 [aR ks ke cap,.ro 4 (x.map cIt) e]=some (.ro 6 ((x.map (fre ks)).map eEn) true):=by
 rw [fnW_eq H.f400 rfl]
 by_cases hne:x=[]
 · subst hne
   simp (disch:=omega) [w400,ck_unf w400_B0.eq_1,ck_unf w400_c0.eq_1]
 · have h:=fresh_loop H ks ke cap x e hxl hx x.length 0 (by simp) [] rfl
   have h2:x.length * 73≤35184372088832:=by omega
   simp only [w400_K0] at h
   simp at h
   simp (disch:=omega) [w400,hne,h2,h]
theorem mk222_ok (H:HasO C) (X:AV) (hX:∃ es ex,X=.ro 6 es ex) (l:List En) (e:Bool) (a c:Nat) (hl:l.length≤1000000) (hac:a+c≤l.length) :
 FnW C 222 [X,.rop [.ro 6 (l.map eEn) e],.rop [.int .i64 a],.rop [.int .i64 c]]=some (.ro 6 ((spl l a c []).map eEn) true):=by
 obtain ⟨es,ex,rfl⟩:=hX
 have h:=splice_ok H.toHasL l [] e true a c hl (by simp) hac
 simp only [List.map_nil] at h
 rw [fnW_eq H.f222 rfl]
 generalize spl l a c []=R at *
 simp [w222,h,H.inl,inlB,H.pp,ppB]
structure HasQ (C:WProg):Prop extends HasO C
structure HasG (C:WProg):Prop extends HasQ C where
 f422:C.fns.get 422=some w422
 f270:C.fns.get 270=some w270
 f126:C.fns.get 126=some w126
 f130:C.fns.get 130=some w130
structure Good (i:It):Prop where
 k:1≤i.k∧i.k≤60
 t:0≤i.t∧i.t≤2
 x:isText i.x=true
 l:i.m.length≤8
 m:i.m.all isName=true
def OneR (k t:Int) (x:Bs) (o:Option AV):Prop:=∃ (m:List Bs) (e:Bool),o=some (eIt ⟨k,t,x,m,e⟩)∧m.length≤8∧m.all isName=true
theorem one_sl3 (H:HasG C) (k t a b c d:Int) (hd:0≤d∧d≤255) (x:Bs) (G:List Bs) (hG:G≠[]) (hl:G.length≤3) (hm:G.all isName=true) :
 OneR k t x (w422_K0 C ⟨[(4,.int .i64 3),(3,.ptr 0 0 0),(2,.ptr 2 0 0),(1,.ptr 3 0 0)],[(0,.cells 4 [[.int .u64 k,.int .u8 t,.str x,.sl 1 1 0 G.length G.length false]] true false),(1,.cells 1 (G.map eS) true true),(2,.cells 4 [[.int .u64 0,.int .u8 0,.str [],.ro 1 [] true]] true true),(3,.cells 4 [[.int .u8 a,.int .u8 b,.int .u8 c,.int .u8 d]] true true)],4⟩):=by
 have hfit:(G.length+1) * 17≤35184372088832:=by omega
 have hfit2:(G.length+2) * 17≤35184372088832:=by omega
 have h4:List.take G.length (List.map eS G)=List.map eS G:=List.take_of_length_le (by simp)
 by_cases c1:240≤d
 · refine ⟨G++[[97],[97]],false,?_,by simp;omega,by simp only [List.all_append,hm];decide⟩
   have h5:List.take (G.length+2) (List.map eS G++[[.str [97]],[.str [97]]])=List.map eS G++[[.str [97]],[.str [97]]]:=List.take_of_length_le (by simp)
   simp only [w422_K0];rw [ck_unf w422_B0.eq_1]
   simp (disch:=omega) [ck_unf w422_c0.eq_1,c1,h4,h5,hfit2]
 · refine ⟨G,false,?_,by omega,hm⟩
   simp only [w422_K0];rw [ck_unf w422_B0.eq_1]
   simp (disch:=omega) [ck_unf w422_c0.eq_1,c1,h4]
theorem one_nil3 (H:HasG C) (k t a b c d:Int) (hd:0≤d∧d≤255) (x:Bs) :
 OneR k t x (w422_K0 C ⟨[(4,.int .i64 3),(3,.ptr 0 0 0),(2,.ptr 1 0 0),(1,.ptr 2 0 0)],[(0,.cells 4 [[.int .u64 k,.int .u8 t,.str x,.ro 1 [] true]] true true),(1,.cells 4 [[.int .u64 0,.int .u8 0,.str [],.ro 1 [] true]] true true),(2,.cells 4 [[.int .u8 a,.int .u8 b,.int .u8 c,.int .u8 d]] true true)],3⟩):=by
 by_cases c1:240≤d
 · refine ⟨[[97],[97]],false,?_,by simp,by decide⟩
   simp only [w422_K0];rw [ck_unf w422_B0.eq_1]
   simp (disch:=omega) [ck_unf w422_c0.eq_1,c1]
 · refine ⟨[],true,?_,by simp,rfl⟩
   simp only [w422_K0];rw [ck_unf w422_B0.eq_1]
   simp (disch:=omega) [ck_unf w422_c0.eq_1,c1]
theorem one_sl2 (H:HasG C) (k t a b c d:Int) (hd:0≤d∧d≤255) (x:Bs) (G:List Bs) (hG:G≠[]) (hl:G.length≤2) (hm:G.all isName=true) :
 OneR k t x (w422_K0 C ⟨[(4,.int .i64 2),(3,.ptr 0 0 0),(2,.ptr 2 0 0),(1,.ptr 3 0 0)],[(0,.cells 4 [[.int .u64 k,.int .u8 t,.str x,.sl 1 1 0 G.length G.length false]] true false),(1,.cells 1 (G.map eS) true true),(2,.cells 4 [[.int .u64 0,.int .u8 0,.str [],.ro 1 [] true]] true true),(3,.cells 4 [[.int .u8 a,.int .u8 b,.int .u8 c,.int .u8 d]] true true)],4⟩):=by
 have hfit:(G.length+1) * 17≤35184372088832:=by omega
 have hfit2:(G.length+2) * 17≤35184372088832:=by omega
 have h4:List.take G.length (List.map eS G)=List.map eS G:=List.take_of_length_le (by simp)
 have h6:d.tdiv 8=d / 8:=Int.tdiv_eq_ediv_of_nonneg (by omega)
 have h5:(2+d / 8).tmod 3=(2+d / 8) % 3:=Int.tmod_eq_emod_of_nonneg (by omega)
 have hJ:(2+d / 8) % 3=0∨(2+d / 8) % 3=1∨(2+d / 8) % 3=2:=by omega
 simp only [w422_K0];rw [ck_unf w422_B0.eq_1]
 rcases hJ with hj | hj | hj
 · simp (disch:=omega) [wI64,wU8,h5,h6,hj,h4,hfit]
   split
   · have h:=one_sl3 H k t a b c d hd x (G++[[97]]) (by simp) (by simp;omega) (by simp only [List.all_append,hm];decide)
     simp only [w422_K0] at h
     simpa using h
   · exact one_sl3 H k t a b c d hd x G hG (by omega) hm
 · simp (disch:=omega) [wI64,wU8,h5,h6,hj,h4,hfit]
   split
   · have h:=one_sl3 H k t a b c d hd x (G++[[98,50]]) (by simp) (by simp;omega) (by simp only [List.all_append,hm];decide)
     simp only [w422_K0] at h
     simpa using h
   · exact one_sl3 H k t a b c d hd x G hG (by omega) hm
 · simp (disch:=omega) [wI64,wU8,h5,h6,hj,h4,hfit]
   split
   · have h:=one_sl3 H k t a b c d hd x (G++[[107,101,121]]) (by simp) (by simp;omega) (by simp only [List.all_append,hm];decide)
     simp only [w422_K0] at h
     simpa using h
   · exact one_sl3 H k t a b c d hd x G hG (by omega) hm
theorem one_nil2 (H:HasG C) (k t a b c d:Int) (hd:0≤d∧d≤255) (x:Bs) :
 OneR k t x (w422_K0 C ⟨[(4,.int .i64 2),(3,.ptr 0 0 0),(2,.ptr 1 0 0),(1,.ptr 2 0 0)],[(0,.cells 4 [[.int .u64 k,.int .u8 t,.str x,.ro 1 [] true]] true true),(1,.cells 4 [[.int .u64 0,.int .u8 0,.str [],.ro 1 [] true]] true true),(2,.cells 4 [[.int .u8 a,.int .u8 b,.int .u8 c,.int .u8 d]] true true)],3⟩):=by
 have h6:d.tdiv 8=d / 8:=Int.tdiv_eq_ediv_of_nonneg (by omega)
 have h5:(2+d / 8).tmod 3=(2+d / 8) % 3:=Int.tmod_eq_emod_of_nonneg (by omega)
 have hJ:(2+d / 8) % 3=0∨(2+d / 8) % 3=1∨(2+d / 8) % 3=2:=by omega
 simp only [w422_K0];rw [ck_unf w422_B0.eq_1]
 rcases hJ with hj | hj | hj
 · simp (disch:=omega) [wI64,wU8,h5,h6,hj]
   split
   · exact one_sl3 H k t a b c d hd x [[97]] (by simp) (by simp) (by decide)
   · exact one_nil3 H k t a b c d hd x
 · simp (disch:=omega) [wI64,wU8,h5,h6,hj]
   split
   · exact one_sl3 H k t a b c d hd x [[98,50]] (by simp) (by simp) (by decide)
   · exact one_nil3 H k t a b c d hd x
 · simp (disch:=omega) [wI64,wU8,h5,h6,hj]
   split
   · exact one_sl3 H k t a b c d hd x [[107,101,121]] (by simp) (by simp) (by decide)
   · exact one_nil3 H k t a b c d hd x
theorem one_sl1 (H:HasG C) (k t a b c d:Int) (hd:0≤d∧d≤255) (x:Bs) (G:List Bs) (hG:G≠[]) (hl:G.length≤1) (hm:G.all isName=true) :
 OneR k t x (w422_K0 C ⟨[(4,.int .i64 1),(3,.ptr 0 0 0),(2,.ptr 2 0 0),(1,.ptr 3 0 0)],[(0,.cells 4 [[.int .u64 k,.int .u8 t,.str x,.sl 1 1 0 G.length G.length false]] true false),(1,.cells 1 (G.map eS) true true),(2,.cells 4 [[.int .u64 0,.int .u8 0,.str [],.ro 1 [] true]] true true),(3,.cells 4 [[.int .u8 a,.int .u8 b,.int .u8 c,.int .u8 d]] true true)],4⟩):=by
 have hfit:(G.length+1) * 17≤35184372088832:=by omega
 have hfit2:(G.length+2) * 17≤35184372088832:=by omega
 have h4:List.take G.length (List.map eS G)=List.map eS G:=List.take_of_length_le (by simp)
 have h6:d.tdiv 8=d / 8:=Int.tdiv_eq_ediv_of_nonneg (by omega)
 have h5:(1+d / 8).tmod 3=(1+d / 8) % 3:=Int.tmod_eq_emod_of_nonneg (by omega)
 have hJ:(1+d / 8) % 3=0∨(1+d / 8) % 3=1∨(1+d / 8) % 3=2:=by omega
 simp only [w422_K0];rw [ck_unf w422_B0.eq_1]
 rcases hJ with hj | hj | hj
 · simp (disch:=omega) [wI64,wU8,h5,h6,hj,h4,hfit]
   split
   · have h:=one_sl2 H k t a b c d hd x (G++[[97]]) (by simp) (by simp;omega) (by simp only [List.all_append,hm];decide)
     simp only [w422_K0] at h
     simpa using h
   · exact one_sl2 H k t a b c d hd x G hG (by omega) hm
 · simp (disch:=omega) [wI64,wU8,h5,h6,hj,h4,hfit]
   split
   · have h:=one_sl2 H k t a b c d hd x (G++[[98,50]]) (by simp) (by simp;omega) (by simp only [List.all_append,hm];decide)
     simp only [w422_K0] at h
     simpa using h
   · exact one_sl2 H k t a b c d hd x G hG (by omega) hm
 · simp (disch:=omega) [wI64,wU8,h5,h6,hj,h4,hfit]
   split
   · have h:=one_sl2 H k t a b c d hd x (G++[[107,101,121]]) (by simp) (by simp;omega) (by simp only [List.all_append,hm];decide)
     simp only [w422_K0] at h
     simpa using h
   · exact one_sl2 H k t a b c d hd x G hG (by omega) hm
theorem one_nil1 (H:HasG C) (k t a b c d:Int) (hd:0≤d∧d≤255) (x:Bs) :
 OneR k t x (w422_K0 C ⟨[(4,.int .i64 1),(3,.ptr 0 0 0),(2,.ptr 1 0 0),(1,.ptr 2 0 0)],[(0,.cells 4 [[.int .u64 k,.int .u8 t,.str x,.ro 1 [] true]] true true),(1,.cells 4 [[.int .u64 0,.int .u8 0,.str [],.ro 1 [] true]] true true),(2,.cells 4 [[.int .u8 a,.int .u8 b,.int .u8 c,.int .u8 d]] true true)],3⟩):=by
 have h6:d.tdiv 8=d / 8:=Int.tdiv_eq_ediv_of_nonneg (by omega)
 have h5:(1+d / 8).tmod 3=(1+d / 8) % 3:=Int.tmod_eq_emod_of_nonneg (by omega)
 have hJ:(1+d / 8) % 3=0∨(1+d / 8) % 3=1∨(1+d / 8) % 3=2:=by omega
 simp only [w422_K0];rw [ck_unf w422_B0.eq_1]
 rcases hJ with hj | hj | hj
 · simp (disch:=omega) [wI64,wU8,h5,h6,hj]
   split
   · exact one_sl2 H k t a b c d hd x [[97]] (by simp) (by simp) (by decide)
   · exact one_nil2 H k t a b c d hd x
 · simp (disch:=omega) [wI64,wU8,h5,h6,hj]
   split
   · exact one_sl2 H k t a b c d hd x [[98,50]] (by simp) (by simp) (by decide)
   · exact one_nil2 H k t a b c d hd x
 · simp (disch:=omega) [wI64,wU8,h5,h6,hj]
   split
   · exact one_sl2 H k t a b c d hd x [[107,101,121]] (by simp) (by simp) (by decide)
   · exact one_nil2 H k t a b c d hd x
theorem one_nil0 (H:HasG C) (k t a b c d:Int) (hd:0≤d∧d≤255) (x:Bs) :
 OneR k t x (w422_K0 C ⟨[(4,.int .i64 0),(3,.ptr 0 0 0),(2,.ptr 1 0 0),(1,.ptr 2 0 0)],[(0,.cells 4 [[.int .u64 k,.int .u8 t,.str x,.ro 1 [] true]] true true),(1,.cells 4 [[.int .u64 0,.int .u8 0,.str [],.ro 1 [] true]] true true),(2,.cells 4 [[.int .u8 a,.int .u8 b,.int .u8 c,.int .u8 d]] true true)],3⟩):=by
 have h6:d.tdiv 8=d / 8:=Int.tdiv_eq_ediv_of_nonneg (by omega)
 have h5:(0+d / 8).tmod 3=(0+d / 8) % 3:=Int.tmod_eq_emod_of_nonneg (by omega)
 have hJ:(0+d / 8) % 3=0∨(0+d / 8) % 3=1∨(0+d / 8) % 3=2:=by omega
 simp only [w422_K0];rw [ck_unf w422_B0.eq_1]
 simp only [Int.zero_add] at h5 hJ
 rcases hJ with hj | hj | hj
 · simp (disch:=omega) [wI64,wU8,h5,h6,hj]
   split
   · exact one_sl1 H k t a b c d hd x [[97]] (by simp) (by simp) (by decide)
   · exact one_nil1 H k t a b c d hd x
 · simp (disch:=omega) [wI64,wU8,h5,h6,hj]
   split
   · exact one_sl1 H k t a b c d hd x [[98,50]] (by simp) (by simp) (by decide)
   · exact one_nil1 H k t a b c d hd x
 · simp (disch:=omega) [wI64,wU8,h5,h6,hj]
   split
   · exact one_sl1 H k t a b c d hd x [[107,101,121]] (by simp) (by simp) (by decide)
   · exact one_nil1 H k t a b c d hd x
structure Q4 where
 (a b c d:Int)
@[simp] def eQ (q:Q4):List AV:=[.int .u8 q.a,.int .u8 q.b,.int .u8 q.c,.int .u8 q.d]
structure QIn (q:Q4):Prop where
 a:0≤q.a∧q.a≤255
 b:0≤q.b∧q.b≤255
 c:0≤q.c∧q.c≤255
 d:0≤q.d∧q.d≤255
theorem item1_ok (H:HasG C) (q:Q4) (hq:QIn q):∃ i:It,FnW C 422 [.agg (eQ q)]=some (eIt i)∧Good i:=by
 obtain ⟨a,b,c,d⟩:=q
 obtain ⟨ha,hb,hc,hd⟩:=hq
 simp only at ha hb hc hd
 have h1:a.tmod 60=a % 60:=Int.tmod_eq_emod_of_nonneg (by omega)
 have h2:b.tmod 3=b % 3:=Int.tmod_eq_emod_of_nonneg (by omega)
 have h3:c.tmod 8=c % 8:=Int.tmod_eq_emod_of_nonneg (by omega)
 have hx:∀ x:Bs,isText x=true→∃ i:It,w422_K0 C ⟨[(4,.int .i64 0),(3,.ptr 0 0 0),(2,.ptr 1 0 0),(1,.ptr 2 0 0)],[(0,.cells 4 [[.int .u64 (1+a % 60),.int .u8 (b % 3),.str x,.ro 1 [] true]] true true),(1,.cells 4 [[.int .u64 0,.int .u8 0,.str [],.ro 1 [] true]] true true),(2,.cells 4 [[.int .u8 a,.int .u8 b,.int .u8 c,.int .u8 d]] true true)],3⟩=some (eIt i)∧Good i:=by
  intro x hx
  obtain ⟨m,e,h,r1,r2⟩:=one_nil0 H (1+a % 60) (b % 3) a b c d hd x
  exact ⟨_,h,⟨by simp only;omega,by simp only;omega,hx,r1,r2⟩⟩
 rw [fnW_eq H.f422 rfl]
 have hJ:c % 8=0∨c % 8=1∨c % 8=2∨c % 8=3∨c % 8=4∨c % 8=5∨c % 8=6∨c % 8=7:=by omega
 rcases hJ with hj | hj | hj | hj | hj | hj | hj | hj
 · obtain ⟨i,h,g⟩:=hx [] (by decide)
   refine ⟨i,?_,g⟩
   simp only [w422_K0] at h
   simp (disch:=omega) [w422,h1,h2,h3,hj,wI64,wU8,wU64,h]
 · obtain ⟨i,h,g⟩:=hx [97] (by decide)
   refine ⟨i,?_,g⟩
   simp only [w422_K0] at h
   simp (disch:=omega) [w422,h1,h2,h3,hj,wI64,wU8,wU64,h]
 · obtain ⟨i,h,g⟩:=hx [114,111,119] (by decide)
   refine ⟨i,?_,g⟩
   simp only [w422_K0] at h
   simp (disch:=omega) [w422,h1,h2,h3,hj,wI64,wU8,wU64,h]
 · obtain ⟨i,h,g⟩:=hx [116,119,111,32,119,111,114,100,115] (by decide)
   refine ⟨i,?_,g⟩
   simp only [w422_K0] at h
   simp (disch:=omega) [w422,h1,h2,h3,hj,wI64,wU8,wU64,h]
 · obtain ⟨i,h,g⟩:=hx [32,32] (by decide)
   refine ⟨i,?_,g⟩
   simp only [w422_K0] at h
   simp (disch:=omega) [w422,h1,h2,h3,hj,wI64,wU8,wU64,h]
 · obtain ⟨i,h,g⟩:=hx [126,33,45,44] (by decide)
   refine ⟨i,?_,g⟩
   simp only [w422_K0] at h
   simp (disch:=omega) [w422,h1,h2,h3,hj,wI64,wU8,wU64,h]
 · obtain ⟨i,h,g⟩:=hx [97,32,108,111,110,103,101,114,32,116,101,120,116,32,111,102,32,116,104,105,115,32,107,105,110,100] (by decide)
   refine ⟨i,?_,g⟩
   simp only [w422_K0] at h
   simp (disch:=omega) [w422,h1,h2,h3,hj,wI64,wU8,wU64,h]
 · obtain ⟨i,h,g⟩:=hx [57] (by decide)
   refine ⟨i,?_,g⟩
   simp only [w422_K0] at h
   simp (disch:=omega) [w422,h1,h2,h3,hj,wI64,wU8,wU64,h]
theorem Good.it {i:It} (h:Good i):ItIn i:=⟨by have:=h.k;omega,by have:=h.t;omega,by have:=h.l;omega⟩
theorem Good.ok {i:It} (h:Good i):itOk 3 i=true:=by
 have h1:=h.k;have h2:=h.t;have h3:=h.x;have h4:=h.l;have h5:=h.m
 unfold itOk
 simp only [Bool.and_eq_true,decide_eq_true_eq]
 exact ⟨⟨⟨by omega,by omega⟩,h3⟩,h4,h5⟩
theorem fndI_no {k:Int}:∀ (l:List It) (i:Nat),fndI k i l < 0→∀ x ∈ l,x.k≠k
 | [],_,_=>by simp
 | e::r,i,h=>by
  rw [fndI] at h
  split at h
  · omega
  · rename_i c
    intro x hx
    rcases List.mem_cons.1 hx with rfl | hx
    · exact c
    · exact fndI_no r (i+1) h x hx
theorem items_loop (H:HasG C) (hone:∀ q:Q4,QIn q→∃ i:It,FnW C 422 [.agg (eQ q)]=some (eIt i)∧Good i) (l:List Q4) (e:Bool) (hq:∀ q ∈ l,QIn q):∀ n i,n+i=min l.length 12→∀ G:List It,G.length≤i→(∀ x ∈ G,Good x)→(G.map It.k).Nodup →
 ∃ R:List It,w270_K0 C ⟨[(4,.int .i64 i),(3,.sl 0 4 0 G.length G.length false),(1,.ptr 1 0 0)],[(0,.cells 4 (G.map cIt) true true),(1,.cells 1 [[.ro 4 (l.map eQ) e]] true true)],2⟩=some (.ro 4 (R.map cIt) false) ∧
  R.length≤12∧(∀ x ∈ R,Good x)∧(R.map It.k).Nodup:=by
 intro n
 induction n with
 | zero =>
  intro i hi G hG hg hn
  refine ⟨G,?_,by omega,hg,hn⟩
  simp only [w270_K0];rw [ck_unf w270_B0.eq_1]
  have h6:List.take G.length (List.map cIt G)=List.map cIt G:=List.take_of_length_le (by simp)
  by_cases h3:i < l.length
  · have h4:¬ (i:Int) < 12:=by omega
    simp [ck_unf w270_c0.eq_1,h3,h4,h6]
  · simp [ck_unf w270_c0.eq_1,h3,h6]
 | succ n ih =>
  intro i hi G hG hg hn
  have h1:i < l.length:=by omega
  have h2:(i:Int) < 12:=by omega
  obtain ⟨x,hx,gx⟩:=hone l[i] (hq _ (List.getElem_mem h1))
  have hf:=ifind_ok H.toHasL G false x.k (by omega)
  have h6:List.take G.length (List.map cIt G)=List.map cIt G:=List.take_of_length_le (by simp)
  have hfit:(G.length+1) * 57≤35184372088832:=by omega
  simp only [eQ] at hx
  by_cases c:fndI x.k 0 G < 0
  · have hno:=fndI_no G 0 c
    obtain ⟨R,this,r1,r2,r3⟩:=ih (i+1) (by omega) (G++[x]) (by simp;omega) (by
     intro y hy
     rcases List.mem_append.1 hy with q | q
     · exact hg y q
     · simp at q;rw [q];exact gx) (by
     rw [List.map_append,List.nodup_append]
     refine ⟨hn,by simp,?_⟩
     intro a ha b hb
     simp at hb
     obtain ⟨y,hy,rfl⟩:=List.mem_map.1 ha
     rw [hb];exact hno y hy)
    refine ⟨R,?_,r1,r2,r3⟩
    simp only [w270_K0] at this ⊢;rw [ck_unf w270_B0.eq_1]
    simp at this
    simp (disch:=omega) [h1,h2,hx,hf,h6,c,hfit,wI64,H.inl,inlB,H.pp,ppB,this]
  · obtain ⟨R,this,r1,r2,r3⟩:=ih (i+1) (by omega) G (by omega) hg hn
    refine ⟨R,?_,r1,r2,r3⟩
    simp only [w270_K0] at this ⊢;rw [ck_unf w270_B0.eq_1]
    simp at this
    simp (disch:=omega) [h1,h2,hx,hf,h6,c,wI64,H.inl,inlB,H.pp,ppB,this]
theorem items_ok (H:HasG C) (hone:∀ q:Q4,QIn q→∃ i:It,FnW C 422 [.agg (eQ q)]=some (eIt i)∧Good i) (l:List Q4) (e:Bool) (hq:∀ q ∈ l,QIn q) :
 ∃ R:List It,FnW C 270 [.agg [.ro 4 (l.map eQ) e]]=some (.ro 4 (R.map cIt) false)∧R.length≤12∧(∀ x ∈ R,Good x)∧(R.map It.k).Nodup:=by
 obtain ⟨R,h,r⟩:=items_loop H hone l e hq (min l.length 12) 0 (by simp) [] (by simp) (by simp) (by simp)
 refine ⟨R,?_,r⟩
 simp only [w270_K0] at h
 simp at h
 rw [fnW_eq H.f270 rfl]
 simp [w270,h]
def leafP (k:Int) (t:Bs):Pt:=⟨k,[],[],[],true,t,[],true⟩
def tmRow:Pt:=⟨1,[114,111,119],[],[⟨[110],3,[]⟩,⟨[116,101,120,116],1,[]⟩],true,[],[leafP 3 []],true⟩
def tmHead:Pt:=⟨1,[104,101,97,100],[104],[⟨[105,100],2,[]⟩],true,[],[leafP 2 [35],leafP 4 []],true⟩
def tmTags:Pt:=⟨1,[114,111,119],[],[],true,[],[⟨1,[98],[98,50],[],true,[],[leafP 3 []],true⟩,⟨5,[116,97,103],[],[⟨[111,102],2,[]⟩],true,[],[],true⟩],true⟩
def kindsOf (n:Int):List Kd:=[⟨tmRow,10+n % 7,false,n % 4⟩,⟨tmHead,6+n % 3,true,n / 4 % 3⟩,⟨tmTags,20,decide (n % 16=15),n / 8 % 3⟩]
theorem kinds_ok (H:HasG C) (n:Int) (hn:0≤n∧n≤255):FnW C 126 [.int .u8 n]=some (.ro 9 ((kindsOf n).map eKd) true):=by
 rw [fnW_eq H.f126 rfl]
 have h1:n.tmod 7=n % 7:=Int.tmod_eq_emod_of_nonneg (by omega)
 have h2:n.tmod 4=n % 4:=Int.tmod_eq_emod_of_nonneg (by omega)
 have h3:n.tmod 3=n % 3:=Int.tmod_eq_emod_of_nonneg (by omega)
 have h4:n.tdiv 4=n / 4:=Int.tdiv_eq_ediv_of_nonneg (by omega)
 have h5:n.tdiv 8=n / 8:=Int.tdiv_eq_ediv_of_nonneg (by omega)
 have h6:(n / 4).tmod 3=n / 4 % 3:=Int.tmod_eq_emod_of_nonneg (by omega)
 have h7:(n / 8).tmod 3=n / 8 % 3:=Int.tmod_eq_emod_of_nonneg (by omega)
 have h8:n.tmod 16=n % 16:=Int.tmod_eq_emod_of_nonneg (by omega)
 simp (disch:=omega) [w126,kindsOf,tmRow,tmHead,tmTags,leafP,h1,h2,h3,h4,h5,h6,h7,h8,wI64,wU8,Pt.c_eq]
 rfl
theorem fits_leaf (k:Int) (t:Bs):FitsAll (leafP k t):=.mk _ ⟨by simp [leafP],by simp [leafP],by simp [leafP]⟩ (by simp [leafP])
theorem fits_row:FitsAll tmRow:=.mk _ ⟨by simp [tmRow],by simp [tmRow],by simp [tmRow]⟩ (by simp only [tmRow,List.mem_cons,List.not_mem_nil,or_false];rintro m rfl;exact fits_leaf _ _)
theorem fits_head:FitsAll tmHead:=.mk _ ⟨by simp [tmHead],by simp [tmHead],by simp [tmHead]⟩ (by simp only [tmHead,List.mem_cons,List.not_mem_nil,or_false];rintro m (rfl | rfl) <;> exact fits_leaf _ _)
theorem fits_tags:FitsAll tmTags:=.mk _ ⟨by simp [tmTags],by simp [tmTags],by simp [tmTags]⟩ (by
 simp only [tmTags,List.mem_cons,List.not_mem_nil,or_false]
 rintro m (rfl | rfl)
 · exact .mk _ ⟨by simp,by simp,by simp⟩ (by simp only [List.mem_cons,List.not_mem_nil,or_false];rintro m rfl;exact fits_leaf _ _)
 · exact .mk _ ⟨by simp,by simp,by simp⟩ (by simp))
theorem ru_in (n:Int):RuIn (kindsOf n):=⟨by simp [kindsOf],by
 simp only [kindsOf,List.mem_cons,List.not_mem_nil,or_false]
 rintro k (rfl | rfl | rfl)
 · exact fits_row
 · exact fits_head
 · exact fits_tags⟩
theorem kd_base (n:Int) (hn:0≤n∧n≤255) (t:Int) (ht:0≤t∧t≤2):1≤(kdAt (kindsOf n) t).b∧(kdAt (kindsOf n) t).b≤30:=by
 have:t=0∨t=1∨t=2:=by omega
 rcases this with rfl | rfl | rfl <;> simp [kdAt,kindsOf] <;> omega
structure GoodE (ks:List Kd) (e:En):Prop where
 i:Good e.i
 ok:itE ks 12 e.i false=0
 s:1≤e.s∧e.s≤40
 b:e.kn=true∨e.s=(kdAt ks e.i.t).b
structure KsIn (ks:List Kd):Prop where
 r:RuIn ks
 l:ks.length=3
 b:∀ t:Int,0≤t→t≤2→1≤(kdAt ks t).b∧(kdAt ks t).b≤30
theorem ks_in (n:Int) (hn:0≤n∧n≤255):KsIn (kindsOf n):=⟨ru_in n,rfl,fun t h1 h2=>kd_base n hn t ⟨h1,h2⟩⟩
theorem lof_sl (H:HasG C) (ks:List Kd) (hks:KsIn ks) (l:List It) (le:Bool) (hl:l.length≤12) (hg:∀ x ∈ l,Good x) (q:List Q4) (qe:Bool) (z:List Int) (ze:Bool) (hz:∀ s ∈ z,0≤s∧s≤255) (hzl:z.length < 9223372036854775808) (r:Int):∀ n i,n+i=l.length →
 ∀ G:List En,G≠[]→G.length≤i→(∀ x ∈ G,GoodE ks x)→(keysE G++(l.drop i).map It.k).Nodup →
 ∃ (R:List En) (f:Bool),w130_K0 C ⟨[(7,.int .i64 i),(6,.ptr 0 0 0),(5,.ro 4 (l.map cIt) le),(4,.ptr 2 0 0),(3,.ptr 3 0 0),(2,.ptr 4 0 0),(1,.ptr 5 0 0)],[(0,.cells 1 [[.sl 1 6 0 G.length G.length false]] true false),(1,.cells 6 (G.map eEn) true true),(2,.cells 2 [[.ro 9 (ks.map eKd) true,.int .i64 12]] true true),(3,.cells 1 [[.ro 6 [] true]] true true),(4,.cells 2 [[.ro 9 [] true,.int .i64 0]] true true),(5,.cells 3 [[.ro 4 (q.map eQ) qe,.ro 1 (z.map eU8) ze,.int .u8 r]] true true)],6⟩=some (.tup [aR ks true 12,aL R f])∧R.length≤12∧(∀ e ∈ R,GoodE ks e)∧(keysE R).Nodup:=by
 intro n
 induction n with
 | zero =>
  intro i hi G hne hG hge hn
  have h1:l.drop i=[]:=List.drop_eq_nil_of_le (by omega)
  have h3:¬ i < l.length:=by omega
  have h6:List.take G.length (List.map eEn G)=List.map eEn G:=List.take_of_length_le (by simp)
  refine ⟨G,false,?_,by omega,hge,by rw [h1] at hn;simpa using hn⟩
  simp only [w130_K0];rw [ck_unf w130_B0.eq_1]
  simp [ck_unf w130_c0.eq_1,h3,h6]
 | succ n ih =>
  intro i hi G hne hG hge hn
  have h1:i < l.length:=by omega
  have gx:=hg _ (List.getElem_mem h1)
  have hii:=ritem_ok H.toHasK ks true 12 l[i] gx.it hks.r false
  have hfr:=rfresh_ok H.toHasK ks true 12 l[i] gx.it (by have:=gx.t;have:=hks.l;omega)
  have hbase:=hks.b l[i].t gx.t.1 gx.t.2
  rw [drop_cons h1,List.map_cons] at hn
  have hfit:(G.length+1) * 73≤35184372088832:=by omega
  simp only [aR,eIt,Bool.false_eq_true,if_false] at hii
  simp only [aR,eIt,aE,eEn,fre] at hfr
  have hE0:0≤itE ks 12 l[i] false:=by unfold itE;repeat (first | omega | split)
  by_cases c1:itE ks 12 l[i] false=0
  · have step:∀ e:En,e.i=l[i]→GoodE ks e→∃ (R:List En) (f:Bool),w130_K0 C ⟨[(7,.int .i64 ((i:Int)+1)),(6,.ptr 0 0 0),(5,.ro 4 (l.map cIt) le),(4,.ptr 2 0 0),(3,.ptr 3 0 0),(2,.ptr 4 0 0),(1,.ptr 5 0 0)],[(0,.cells 1 [[.sl 1 6 0 (G.length+1) (G.length+1) false]] true false),(1,.cells 6 (G.map eEn++[eEn e]) true true),(2,.cells 2 [[.ro 9 (ks.map eKd) true,.int .i64 12]] true true),(3,.cells 1 [[.ro 6 [] true]] true true),(4,.cells 2 [[.ro 9 [] true,.int .i64 0]] true true),(5,.cells 3 [[.ro 4 (q.map eQ) qe,.ro 1 (z.map eU8) ze,.int .u8 r]] true true)],6⟩=some (.tup [aR ks true 12,aL R f])∧R.length≤12∧(∀ e ∈ R,GoodE ks e)∧(keysE R).Nodup:=by
     intro e he hge2
     have:=ih (i+1) (by omega) (G++[e]) (by simp) (by simp;omega) (by
      intro y hy
      rcases List.mem_append.1 hy with q | q
      · exact hge y q
      · simp at q;rw [q];exact hge2) (by simpa [keysE,he] using hn)
     simpa using this
    by_cases c2:G.length < z.length
    · by_cases c3:(0:Int) < z[G.length]
      · have hzz:=hz _ (List.getElem_mem c2)
        have hm:z[G.length].tmod 40=z[G.length] % 40:=Int.tmod_eq_emod_of_nonneg hzz.1
        have hm1:(0:Int)≤z[G.length] % 40:=Int.emod_nonneg _ (by omega)
        have hm2:z[G.length] % 40 < 40:=Int.emod_lt_of_pos _ (by omega)
        obtain ⟨R,f,this,hR⟩:=step ⟨l[i],1+z[G.length] % 40,true⟩ rfl ⟨gx,c1,by simp only;omega,.inl rfl⟩
        refine ⟨R,f,?_,hR⟩
        rw [c1] at hii
        generalize z[G.length] % 40=M at *
        simp only [w130_K0] at this ⊢;rw [ck_unf w130_B0.eq_1]
        simp at this
        simp (disch:=omega) [h1,c2,c3,hm,hii,hfr,hfit,wI64,wU8,H.inl,inlB,H.pp,ppB,this]
      · obtain ⟨R,f,this,hR⟩:=step (fre ks l[i]) rfl ⟨gx,c1,by unfold fre;simp only;omega,.inr rfl⟩
        refine ⟨R,f,?_,hR⟩
        rw [c1] at hii
        simp only [fre] at this
        simp only [w130_K0] at this ⊢;rw [ck_unf w130_B0.eq_1]
        simp at this
        simp (disch:=omega) [h1,c2,c3,hii,hfr,hfit,wI64,wU8,H.inl,inlB,H.pp,ppB,this]
    · obtain ⟨R,f,this,hR⟩:=step (fre ks l[i]) rfl ⟨gx,c1,by unfold fre;simp only;omega,.inr rfl⟩
      refine ⟨R,f,?_,hR⟩
      rw [c1] at hii
      simp only [fre] at this
      simp only [w130_K0] at this ⊢;rw [ck_unf w130_B0.eq_1]
      simp at this
      simp (disch:=omega) [h1,c2,hii,hfr,hfit,wI64,wU8,H.inl,inlB,H.pp,ppB,this]
  · have c1':0 < itE ks 12 l[i] false:=by omega
    obtain ⟨R,f,this,hR⟩:=ih (i+1) (by omega) G hne (by omega) hge (by
     refine List.Nodup.sublist ?_ hn;exact List.Sublist.append (List.Sublist.refl _) (List.sublist_cons_self _ _))
    refine ⟨R,f,?_,hR⟩
    generalize itE ks 12 l[i] false=E at *
    simp only [w130_K0] at this ⊢;rw [ck_unf w130_B0.eq_1]
    simp at this
    simp (disch:=omega) [h1,c1',hii,wI64,H.inl,inlB,H.pp,ppB,this]
theorem lof_nil (H:HasG C) (ks:List Kd) (hks:KsIn ks) (l:List It) (le:Bool) (hl:l.length≤12) (hg:∀ x ∈ l,Good x) (q:List Q4) (qe:Bool) (z:List Int) (ze:Bool) (hz:∀ s ∈ z,0≤s∧s≤255) (hzl:z.length < 9223372036854775808) (r:Int):∀ n i,n+i=l.length →
 (keysE []++(l.drop i).map It.k).Nodup →
 ∃ (R:List En) (f:Bool),w130_K0 C ⟨[(7,.int .i64 i),(6,.ptr 0 0 0),(5,.ro 4 (l.map cIt) le),(4,.ptr 1 0 0),(3,.ptr 2 0 0),(2,.ptr 3 0 0),(1,.ptr 4 0 0)],[(0,.cells 1 [[.ro 6 [] true]] true true),(1,.cells 2 [[.ro 9 (ks.map eKd) true,.int .i64 12]] true true),(2,.cells 1 [[.ro 6 [] true]] true true),(3,.cells 2 [[.ro 9 [] true,.int .i64 0]] true true),(4,.cells 3 [[.ro 4 (q.map eQ) qe,.ro 1 (z.map eU8) ze,.int .u8 r]] true true)],5⟩=some (.tup [aR ks true 12,aL R f])∧R.length≤12∧(∀ e ∈ R,GoodE ks e)∧(keysE R).Nodup:=by
 intro n
 induction n with
 | zero =>
  intro i hi  hn
  have h1:l.drop i=[]:=List.drop_eq_nil_of_le (by omega)
  have h3:¬ i < l.length:=by omega
  refine ⟨[],true,?_,by simp,by simp,by simp⟩
  simp only [w130_K0];rw [ck_unf w130_B0.eq_1]
  simp [ck_unf w130_c0.eq_1,h3]
 | succ n ih =>
  intro i hi  hn
  have h1:i < l.length:=by omega
  have gx:=hg _ (List.getElem_mem h1)
  have hii:=ritem_ok H.toHasK ks true 12 l[i] gx.it hks.r false
  have hfr:=rfresh_ok H.toHasK ks true 12 l[i] gx.it (by have:=gx.t;have:=hks.l;omega)
  have hbase:=hks.b l[i].t gx.t.1 gx.t.2
  rw [drop_cons h1,List.map_cons] at hn
  simp only [aR,eIt,Bool.false_eq_true,if_false] at hii
  simp only [aR,eIt,aE,eEn,fre] at hfr
  have hE0:0≤itE ks 12 l[i] false:=by unfold itE;repeat (first | omega | split)
  by_cases c1:itE ks 12 l[i] false=0
  · have step:∀ e:En,e.i=l[i]→GoodE ks e→∃ (R:List En) (f:Bool),w130_K0 C ⟨[(7,.int .i64 ((i:Int)+1)),(6,.ptr 0 0 0),(5,.ro 4 (l.map cIt) le),(4,.ptr 2 0 0),(3,.ptr 3 0 0),(2,.ptr 4 0 0),(1,.ptr 5 0 0)],[(0,.cells 1 [[.sl 1 6 0 1 1 false]] true false),(1,.cells 6 [eEn e] true true),(2,.cells 2 [[.ro 9 (ks.map eKd) true,.int .i64 12]] true true),(3,.cells 1 [[.ro 6 [] true]] true true),(4,.cells 2 [[.ro 9 [] true,.int .i64 0]] true true),(5,.cells 3 [[.ro 4 (q.map eQ) qe,.ro 1 (z.map eU8) ze,.int .u8 r]] true true)],6⟩=some (.tup [aR ks true 12,aL R f])∧R.length≤12∧(∀ e ∈ R,GoodE ks e)∧(keysE R).Nodup:=by
     intro e he hge2
     have:=lof_sl H ks hks l le hl hg q qe z ze hz hzl r n (i+1) (by omega) [e] (by simp) (by simp) (by simpa using hge2) (by simpa [keysE,he] using hn)
     simpa using this
    by_cases c2:0 < z.length
    · by_cases c3:(0:Int) < z[0]
      · have hzz:=hz _ (List.getElem_mem c2)
        have hm:z[0].tmod 40=z[0] % 40:=Int.tmod_eq_emod_of_nonneg hzz.1
        have hm1:(0:Int)≤z[0] % 40:=Int.emod_nonneg _ (by omega)
        have hm2:z[0] % 40 < 40:=Int.emod_lt_of_pos _ (by omega)
        obtain ⟨R,f,this,hR⟩:=step ⟨l[i],1+z[0] % 40,true⟩ rfl ⟨gx,c1,by simp only;omega,.inl rfl⟩
        refine ⟨R,f,?_,hR⟩
        rw [c1] at hii
        generalize z[0] % 40=M at *
        simp only [w130_K0] at this ⊢;rw [ck_unf w130_B0.eq_1]
        simp at this
        simp (disch:=omega) [h1,c2,c3,hm,hii,hfr,wI64,wU8,H.inl,inlB,H.pp,ppB,this]
      · obtain ⟨R,f,this,hR⟩:=step (fre ks l[i]) rfl ⟨gx,c1,by unfold fre;simp only;omega,.inr rfl⟩
        refine ⟨R,f,?_,hR⟩
        rw [c1] at hii
        simp only [fre] at this
        simp only [w130_K0] at this ⊢;rw [ck_unf w130_B0.eq_1]
        simp at this
        simp (disch:=omega) [h1,c2,c3,hii,hfr,wI64,wU8,H.inl,inlB,H.pp,ppB,this]
    · obtain ⟨R,f,this,hR⟩:=step (fre ks l[i]) rfl ⟨gx,c1,by unfold fre;simp only;omega,.inr rfl⟩
      refine ⟨R,f,?_,hR⟩
      rw [c1] at hii
      simp only [fre] at this
      simp only [w130_K0] at this ⊢;rw [ck_unf w130_B0.eq_1]
      simp at this
      simp (disch:=omega) [h1,c2,hii,hfr,wI64,wU8,H.inl,inlB,H.pp,ppB,this]
  · have c1':0 < itE ks 12 l[i] false:=by omega
    obtain ⟨R,f,this,hR⟩:=ih (i+1) (by omega) (by
     simp only [keysE,List.map_nil,List.nil_append] at hn ⊢;exact (List.nodup_cons.1 hn).2)
    refine ⟨R,f,?_,hR⟩
    generalize itE ks 12 l[i] false=E at *
    simp only [w130_K0] at this ⊢;rw [ck_unf w130_B0.eq_1]
    simp at this
    simp (disch:=omega) [h1,c1',hii,wI64,H.inl,inlB,H.pp,ppB,this]
theorem lof_ok (H:HasG C) (hone:∀ q:Q4,QIn q→∃ i:It,FnW C 422 [.agg (eQ q)]=some (eIt i)∧Good i) (q:List Q4) (qe:Bool) (hq:∀ x ∈ q,QIn x) (z:List Int) (ze:Bool) (hz:∀ s ∈ z,0≤s∧s≤255) (hzl:z.length < 9223372036854775808) (r:Int) (hr:0≤r∧r≤255) :
 ∃ (R:List En) (f:Bool),FnW C 130 [.agg [.ro 4 (q.map eQ) qe,.ro 1 (z.map eU8) ze,.int .u8 r]]=some (.tup [aR (kindsOf r) true 12,aL R f])∧R.length≤12∧(∀ e ∈ R,GoodE (kindsOf r) e)∧(keysE R).Nodup:=by
 obtain ⟨I,hI,l1,l2,l3⟩:=items_ok H hone q qe hq
 have hk:=kinds_ok H r hr
 obtain ⟨R,f,h,hR⟩:=lof_nil H (kindsOf r) (ks_in r hr) I false l1 l2 q qe z ze hz hzl r I.length 0 (by simp) (by simpa [keysE] using l3)
 refine ⟨R,f,?_,hR⟩
 rw [fnW_eq H.f130 rfl]
 generalize kindsOf r=ks at *
 simp only [w130_K0] at h
 simp at h
 simp [w130,hI,hk,h,H.inl,inlB,H.pp,ppB]
mutual
theorem mk_own (i:It):∀ p:Pt,mk i.own p=mk i p
 | ⟨k,t,y,s,se,tx,ch,ce⟩=>by rw [mk,mk,mks_own i ch];rfl
theorem mks_own (i:It):∀ l:List Pt,mks i.own l=mks i l
 | []=>rfl
 | p::r=>by rw [mks,mks,mk_own i p,mks_own i r]
end
theorem GoodE.en {ks:List Kd} {e:En} (h:GoodE ks e):EnIn e:=⟨h.i.it,by have:=h.s;omega⟩
end Go.D
end
section
namespace Go.D
open Go Go.Pav Go.Pw
abbrev enT:List CT:=[.int .u64,.int .u8,.str,.slice [.str],.int .i64,.bool]
structure EnTy (e:En):Prop where
 k:0≤e.i.k∧e.i.k < 18446744073709551616
 t:0≤e.i.t∧e.i.t≤255
 s:-9223372036854775808≤e.s∧e.s≤9223372036854775807
 m:e.i.m.length≤9223372036854775807
theorem ty_marks {a:AV} (h:Ty (.slice [.str]) a):∃ (m:List Bs) (e:Bool),a=.ro 1 (m.map eS) e∧m.length≤9223372036854775807:=by
 obtain ⟨m,me,rfl,hl,h4⟩:=ty_slice h
 obtain ⟨ms,rfl,_⟩:=ty_map2 (g:=eS) (R:=fun _:Bs=>True) (fun l q=>by
  obtain ⟨q1,q2⟩:=q
  match l,q1 with
  | [v],_ =>
   obtain ⟨n,rfl,_⟩:=ty_str (q2 0 _ v rfl rfl)
   exact ⟨n,rfl,trivial⟩) m h4
 refine ⟨ms,me,rfl,?_⟩
 simp at hl;omega
theorem ty_en {l:List AV} (q1:l.length=6) (q2:∀ (j:Nat) (ct:CT) (v:AV),enT[j]?=some ct→l[j]?=some v→Ty ct v):∃ e:En,l=eEn e∧EnTy e:=by
 match l,q1 with
 | [u,v,w,x,y,z],_ =>
  obtain ⟨k,rfl,h1⟩:=ty_u64 (q2 0 _ u rfl rfl)
  obtain ⟨t,rfl,h2⟩:=ty_u8 (q2 1 _ v rfl rfl)
  obtain ⟨s,rfl,h3⟩:=ty_str (q2 2 _ w rfl rfl)
  obtain ⟨m,me,rfl,h4⟩:=ty_marks (q2 3 _ x rfl rfl)
  obtain ⟨n,rfl,h5⟩:=ty_i64 (q2 4 _ y rfl rfl)
  obtain ⟨b,rfl⟩:=ty_bool (q2 5 _ z rfl rfl)
  exact ⟨⟨⟨k,t,s,m,me⟩,n,b⟩,rfl,⟨h1.1,by simp only;omega⟩,h2,h5,h4⟩
theorem ty_ens {a:AV} (h:Ty (.slice enT) a):∃ (l:List En) (e:Bool),a=.ro 6 (l.map eEn) e∧(∀ x ∈ l,EnTy x)∧l.length≤9223372036854775807:=by
 obtain ⟨es,e,rfl,hl,hx⟩:=ty_slice h
 obtain ⟨xs,rfl,hr⟩:=ty_map2 (g:=eEn) (R:=EnTy) (fun l q=>ty_en q.1 q.2) es hx
 refine ⟨xs,e,rfl,hr,?_⟩
 simp at hl;omega
end Go.D
end
section
end
section
namespace Go.D
open Go Go.Pav Go.Pw P
def sm:List En→Int
 | []=>0
 | e::r=>e.s+sm r
def top (l:List En) (i:Nat):Int:=sm (l.take i)
theorem top_0 (l:List En):top l 0=0:=rfl
theorem sm_app:∀ (a b:List En),sm (a++b)=sm a+sm b
 | [],b=>by simp [sm]
 | e::r,b=>by simp only [List.cons_append,sm];rw [sm_app r b];omega
theorem top_succ {l:List En} {i:Nat} (h:i < l.length):top l (i+1)=top l i+l[i].s:=by
 unfold top
 rw [List.take_add_one,List.getElem?_eq_getElem h,sm_app]
 simp [sm]
theorem top_len (l:List En):top l l.length=sm l:=by unfold top;rw [List.take_length]
theorem top_ge {l:List En} {i:Nat} (h:l.length≤i):top l i=sm l:=by unfold top;rw [List.take_of_length_le h]
def szE (l:List En):Int:=if 1024 < l.length then 3 else if l.any (fun e=>!hOk e.s) then 12 else ovE l
structure Szd (l:List En):Prop where
 n:l.length≤1024
 s:∀ x ∈ l,1≤x.s∧x.s≤2305843009213693952
 t:sm l≤4611686018427387904
theorem sm_nn:∀ (l:List En),(∀ x ∈ l,1≤x.s)→0≤sm l
 | [],_=>by simp [sm]
 | e::r,h=>by
  have h1:=h e (by simp)
  have h2:=sm_nn r fun x hx=>h x (by simp [hx])
  rw [sm];omega
theorem totG_sm:∀ (l:List En) (s:Int),(∀ x ∈ l,1≤x.s)→s≤4611686018427387904 →
 (s+sm l≤4611686018427387904∧totG s l=s+sm l)∨(4611686018427387904 < s+sm l∧totG s l=4611686018427387905)
 | [],s,_,h=>by left;simp [sm,totG,h]
 | e::r,s,hs,h=>by
  have h1:=hs e (by simp)
  have h2:=sm_nn r fun x hx=>hs x (by simp [hx])
  have h3:imax e.s 0=e.s:=imax_l (by omega)
  rw [totG,sm,h3]
  by_cases c:4611686018427387904 - s < e.s
  · right;rw [if_pos c];omega
  · rw [if_neg c]
    have:=totG_sm r (s+e.s) (fun x hx=>hs x (by simp [hx])) (by omega)
    rw [← Int.add_assoc];exact this
theorem hOk_iff (n:Int):hOk n=true↔1≤n∧n≤2305843009213693952:=by unfold hOk;simp
theorem szd_of {l:List En} (h:szE l=0):Szd l:=by
 unfold szE at h
 by_cases c1:1024 < l.length
 · rw [if_pos c1] at h;omega
 · rw [if_neg c1] at h
   by_cases c2:l.any (fun e=>!hOk e.s)=true
   · rw [if_pos c2] at h;omega
   · rw [if_neg c2] at h
     have hs:∀ x ∈ l,1≤x.s∧x.s≤2305843009213693952:=by
      intro x hx
      rw [← hOk_iff]
      simp only [List.any_eq_true,not_exists,not_and] at c2
      simpa using c2 x hx
     refine ⟨by omega,hs,?_⟩
     rcases totG_sm l 0 (fun x hx=>(hs x hx).1) (by omega) with q | q
     · omega
     · unfold ovE tot at h
       rw [q.2] at h
       simp at h
theorem Szd.tot {l:List En} (h:Szd l):tot l=sm l:=by
 unfold Go.D.tot
 have h2:=h.t
 rcases totG_sm l 0 (fun x hx=>(h.s x hx).1) (by omega) with q | q
 · omega
 · omega
theorem szE_of {l:List En} (h:Szd l):szE l=0:=by
 have h1:=h.n
 have h2:=h.t
 have h3:ovE l=0:=by unfold ovE;rw [h.tot,if_neg (by omega)]
 unfold szE
 rw [if_neg (by omega),h3,if_neg]
 intro c
 obtain ⟨x,hx,c⟩:=List.any_eq_true.1 c
 have:=(hOk_iff x.s).2 (h.s x hx)
 rw [this] at c
 cases c
theorem Szd.nn {l:List En} (h:Szd l):0≤sm l:=sm_nn l fun x hx=>(h.s x hx).1
theorem Szd.lt {l:List En} (h:Szd l) {i:Nat} (hi:i < l.length):top l i+1≤top l (i+1):=by
 rw [top_succ hi]
 have:=(h.s _ (List.getElem_mem hi)).1
 omega
theorem Szd.mono {l:List En} (h:Szd l) {i:Nat}:∀ {j:Nat},i≤j→j≤l.length→top l i+((j:Int) - i)≤top l j:=by
 intro j hij
 induction j with
 | zero => intro _; have : i = 0 := by omega
           subst this;simp
 | succ j ih =>
  intro hj
  by_cases c:i=j+1
  · subst c;omega
  · have h1:=ih (by omega) (by omega)
    have h2:=h.lt (i:=j) (by omega)
    omega
theorem Szd.rng {l:List En} (h:Szd l) (i:Nat):0≤top l i∧top l i≤sm l:=by
 by_cases c:i≤l.length
 · have h1:=h.mono (i:=0) (j:=i) (by omega) c
   have h2:=h.mono (i:=i) (j:=l.length) c (by omega)
   rw [top_0] at h1
   rw [top_len] at h2
   omega
 · rw [top_ge (by omega)];have:=h.nn;omega
theorem Szd.small {l:List En} (h:Szd l) (i:Nat):-9223372036854775808≤top l i∧top l i≤4611686018427387904:=by
 have:=h.rng i
 have:=h.t
 omega
def rowF (l:List En) (x:Int):Nat→Nat→Int
 | 0,_=>-1
 | n+1,i=>if top l i≤x∧x < top l (i+1) then i else rowF l x n (i+1)
def rowA (l:List En) (x:Int):Int:=rowF l x l.length 0
theorem Szd.rowF_eq {l:List En} (h:Szd l) {x:Int} {p:Nat} (hp:p < l.length) (h1:top l p≤x) (h2:x < top l (p+1)):∀ n i,n+i=l.length→i≤p→rowF l x n i=p:=by
 intro n
 induction n with
 | zero=>intro i hi hip;omega
 | succ n ih =>
  intro i hi hip
  rw [rowF]
  by_cases c:i=p
  · subst c;rw [if_pos ⟨h1,h2⟩]
  · have:=h.mono (i:=i+1) (j:=p) (by omega) (by omega)
    rw [if_neg (by omega)]
    exact ih (i+1) (by omega) (by omega)
theorem Szd.rowA_eq {l:List En} (h:Szd l) {x:Int} {p:Nat} (hp:p < l.length) (h1:top l p≤x) (h2:x < top l (p+1)):rowA l x=p:=h.rowF_eq hp h1 h2 _ _ (by simp) (by omega)
theorem Szd.row {l:List En} (h:Szd l) {x:Int} (h0:0≤x) (h1:x < sm l):∃ p,p < l.length∧top l p≤x∧x < top l (p+1):=by
 have key:∀ n,n≤l.length→top l n≤x∨∃ p,p < n∧top l p≤x∧x < top l (p+1):=by
  intro n
  induction n with
  | zero=>intro _;left;rw [top_0];exact h0
  | succ n ih =>
   intro hn
   rcases ih (by omega) with q | ⟨p,q1,q2⟩
   · by_cases c:top l (n+1)≤x
     · exact .inl c
     · exact .inr ⟨n,by omega,q,by omega⟩
   · exact .inr ⟨p,by omega,q2⟩
 rcases key l.length (by omega) with q | ⟨p,q⟩
 · rw [top_len] at q;omega
 · exact ⟨p,q⟩
def mostS (l:List En) (v:Int):Int:=if sm l < v then 0 else sm l - v
def vpE (l:List En) (s v:Int):Int:=if szE l≠0 then szE l else if v < 1∨2147483648 < v then 1 else if s < 0∨mostS l v < s then 4 else 0
def visF (l:List En) (s v:Int):Int:=if l.length=0 then 0 else rowA l s
def visT (l:List En) (s v:Int):Int:=if l.length=0 then 0 else rowA l (imin (s+v) (sm l) - 1)+1
structure Vp (l:List En) (o v:Int):Prop extends Szd l where
 v0:1≤v∧v≤2147483648
 s0:0≤o∧o≤mostS l v
theorem vp_of {l:List En} {s v:Int} (h:vpE l s v=0):Vp l s v:=by
 unfold vpE at h
 by_cases c1:szE l=0
 · rw [if_neg (by simpa using c1)] at h
   by_cases c2:v < 1∨2147483648 < v
   · rw [if_pos c2] at h;omega
   · rw [if_neg c2] at h
     by_cases c3:s < 0∨mostS l v < s
     · rw [if_pos c3] at h;omega
     · exact ⟨szd_of c1,by omega,by omega⟩
 · rw [if_pos c1] at h;exact absurd h c1
theorem vpE_of {l:List En} {s v:Int} (h:Vp l s v):vpE l s v=0:=by
 have:=h.v0
 have:=h.s0
 unfold vpE
 rw [szE_of h.toSzd,if_neg (by simp),if_neg (by omega),if_neg (by omega)]
theorem Vp.ends {l:List En} {s v:Int} (h:Vp l s v) (hl:0 < l.length):∃ p q:Nat,p < l.length∧q < l.length∧p≤q∧(top l p≤s∧s < top l (p+1))∧(top l q≤imin (s+v) (sm l) - 1∧imin (s+v) (sm l) - 1 < top l (q+1)):=by
 have h1:=h.v0
 have h2:=h.s0
 have h3:1≤sm l:=by
  have:=h.mono (i:=0) (j:=l.length) (by omega) (by omega)
  rw [top_0,top_len] at this;omega
 have h4:s < sm l:=by unfold mostS at h2;split at h2 <;> omega
 have h5:s+1≤imin (s+v) (sm l)∧imin (s+v) (sm l)≤sm l:=by unfold imin;split <;> omega
 obtain ⟨p,p1,p2,p3⟩:=h.row h2.1 h4
 obtain ⟨q,q1,q2,q3⟩:=h.row (x:=imin (s+v) (sm l) - 1) (by omega) (by omega)
 refine ⟨p,q,p1,q1,?_,⟨p2,p3⟩,q2,q3⟩
 by_cases c:p≤q
 · exact c
 · have:=h.mono (i:=q+1) (j:=p) (by omega) (by omega)
   omega
theorem Vp.seen {l:List En} {s v:Int} (h:Vp l s v) {p q:Nat} (hp:p < l.length) (hq:q < l.length) (h1:top l p≤s∧s < top l (p+1)) (h2:top l q≤imin (s+v) (sm l) - 1∧imin (s+v) (sm l) - 1 < top l (q+1)) {i:Nat} (hi:i < l.length) :
 (top l i < s+v∧s < top l (i+1))↔(p≤i∧i≤q):=by
 have e1:imin (s+v) (sm l)≤s+v:=by unfold imin;split <;> omega
 have hm:=h.rng (i+1)
 have hlt:=h.lt hi
 constructor
 · rintro ⟨a,b⟩
   constructor
   · by_cases c:p≤i
     · exact c
     · have:=h.mono (i:=i+1) (j:=p) (by omega) (by omega);omega
   · by_cases c:i≤q
     · exact c
     · have:=h.mono (i:=q+1) (j:=i) (by omega) (by omega)
       have e2:s+v≤top l i:=by
        unfold imin at h2;split at h2 <;> omega
       omega
 · rintro ⟨a,b⟩
   have m1:=h.mono (i:=i) (j:=q) b (by omega)
   have m2:=h.mono (i:=p+1) (j:=i+1) (by omega) (by omega)
   omega
end Go.D
end
section
namespace Go.D
open Go Go.Pav Go.Pw P
attribute [-simp] List.getElem_cons_drop
variable {C:WProg}
structure HasSz (C:WProg):Prop extends HasL C where
 f122:C.fns.get 122=some w122
 f249:C.fns.get 249=some w249
 f250:C.fns.get 250=some w250
 f246:C.fns.get 246=some w246
 f247:C.fns.get 247=some w247
 f411:C.fns.get 411=some w411
 f412:C.fns.get 412=some w412
 f248:C.fns.get 248=some w248
 f121:C.fns.get 121=some w121
 f251:C.fns.get 251=some w251
 f252:C.fns.get 252=some w252
 f253:C.fns.get 253=some w253
 f272:C.fns.get 272=some w272
 f327:C.fns.get 327=some w327
def SzB (l:List En):Prop:=∀ x ∈ l,-9223372036854775808≤x.s∧x.s≤9223372036854775807
def szF:Nat→List En→Int
 | _,[]=>-1
 | i,e::r=>if hOk e.s=true then szF (i+1) r else i
theorem szF_any:∀ (l:List En) (i:Nat),decide (0≤szF i l)=l.any (fun e=>!hOk e.s)
 | [],i=>by simp [szF]
 | e::r,i=>by
  rw [szF,List.any_cons]
  cases c:hOk e.s
  · simp
  · simp [szF_any r (i+1)]
theorem szbad_ok (H:HasSz C) (x:En):FnW C 250 [aE x]=some (.bool (!hOk x.s)):=by
 rw [fnW_eq H.f250 rfl]
 unfold hOk
 by_cases c1:1≤x.s
 · have c1':¬ x.s < 1:=by omega
   by_cases c2:x.s≤2305843009213693952
   · have c2':¬ 2305843009213693952 < x.s:=by omega
     simp [w250,c1,c1',c2,c2']
   · have c2':2305843009213693952 < x.s:=by omega
     simp [w250,c1,c1',c2,c2']
 · have c1':x.s < 1:=by omega
   simp [w250,c1,c1']
theorem szidx_loop (H:HasSz C) (l:List En) (e:Bool) (hl:l.length≤1000000):∀ n i,n+i=l.length →
 w402_K0 C ⟨[(8,.int .i64 i),(7,.int .i64 l.length),(1,.fn 250 []),(0,.ro 6 (l.map eEn) e)],[],0⟩=some (.int .i64 (szF i (l.drop i))):=by
 intro n
 induction n with
 | zero =>
  intro i hi
  simp only [w402_K0];rw [ck_unf w402_B0.eq_1]
  have h1:l.drop i=[]:=List.drop_eq_nil_of_le (by omega)
  have h3:¬ i < l.length:=by omega
  simp (disch:=omega) [ck_unf w402_c0.eq_1,h1,h3,szF]
 | succ n ih =>
  intro i hi
  have h1:i < l.length:=by omega
  have hf:=szbad_ok H l[i]
  have:=ih (i+1) (by omega)
  rw [drop_cons h1,szF]
  simp only [aE,eEn] at hf
  cases c:hOk l[i].s
  · rw [if_neg (by simp)]
    simp [c] at hf
    simp only [w402_K0];rw [ck_unf w402_B0.eq_1]
    simp (disch:=omega) [h1,wI64,hf,H.inl,inlB,H.pp,ppB]
  · rw [if_pos rfl]
    simp [c] at hf
    simp only [w402_K0] at this ⊢;rw [ck_unf w402_B0.eq_1]
    simp at this
    simp (disch:=omega) [h1,wI64,hf,H.inl,inlB,H.pp,ppB,this]
theorem szcon_ok (H:HasSz C) (l:List En) (e:Bool) (hl:l.length≤1000000):FnW C 249 [.ro 6 (l.map eEn) e,.fn 250 []]=some (.bool (l.any fun e=>!hOk e.s)):=by
 have h:=szidx_loop H l e hl l.length 0 (by simp)
 have key:FnW C 402 [.ro 6 (l.map eEn) e,.fn 250 []]=some (.int .i64 (szF 0 l)):=by
  simp only [w402_K0] at h
  simp at h
  rw [fnW_eq H.f402 rfl]
  simp [w402,h]
 have h2:=szF_any l 0
 rw [fnW_eq H.f249 rfl,← h2]
 simp [w249,key,H.inl,inlB,H.pp,ppB]
theorem sized_ok (H:HasSz C) (l:List En) (e:Bool) (hl:l.length≤1000000) (hs:SzB l):FnW C 122 [aL l e]=some (.int .i64 (szE l)):=by
 have h1:=szcon_ok H l e hl
 have h2:=totW_ok H.toHasL l e hl hs
 rw [fnW_eq H.f122 rfl]
 unfold szE ovE
 generalize tot l=T at *
 by_cases c1:1024 < l.length
 · simp [w122,c1]
 · cases c2:l.any fun e=>!hOk e.s
   · rw [c2] at h1
     by_cases c3:4611686018427387904 < T <;> simp [w122,c1,h1,h2,c3,H.inl,inlB,H.pp,ppB]
   · rw [c2] at h1
     simp [w122,c1,h1,h2,H.inl,inlB,H.pp,ppB]
theorem roverW_ok (H:HasL C) (l:List En) (e:Bool) (hl:l.length≤1000000) (hs:SzB l):FnW C 407 [.ro 6 (l.map eEn) e]=some (.int .i64 (ovE l)):=by
 have h:=rtotW_ok H l e hl hs
 rw [fnW_eq H.f407 rfl]
 unfold ovE
 by_cases c:4611686018427387904 < tot l <;> simp [w407,h,H.inl,inlB,H.pp,ppB,c]
theorem rsized_loop (H:HasSz C) (l:List En) (e:Bool) (hl:l.length≤1000000) (hs:SzB l):∀ n i,n+i=l.length →
 w251_K0 C ⟨[(3,.int .i64 i),(0,.ro 6 (l.map eEn) e)],[],0⟩=some (.int .i64 (if (l.drop i).any (fun e=>!hOk e.s) then 12 else ovE l)):=by
 intro n
 induction n with
 | zero =>
  intro i hi
  have h1:l.drop i=[]:=List.drop_eq_nil_of_le (by omega)
  have h3:¬ i < l.length:=by omega
  have ht:=roverW_ok H.toHasL l e hl hs
  simp only [w251_K0];rw [ck_unf w251_B0.eq_1]
  simp (disch:=omega) [ck_unf w251_c0.eq_1,h1,h3,ht,H.inl,inlB,H.pp,ppB]
 | succ n ih =>
  intro i hi
  have h1:i < l.length:=by omega
  have:=ih (i+1) (by omega)
  rw [drop_cons h1,List.any_cons]
  generalize (l.drop (i+1)).any (fun e=>!hOk e.s)=X at *
  unfold hOk
  by_cases c1:1≤l[i].s
  · have c1':¬ l[i].s < 1:=by omega
    by_cases c2:l[i].s≤2305843009213693952
    · have c2':¬ 2305843009213693952 < l[i].s:=by omega
      simp only [w251_K0] at this ⊢;rw [ck_unf w251_B0.eq_1]
      simp at this
      simp (disch:=omega) [h1,wI64,c1,c1',c2,c2',this]
    · have c2':2305843009213693952 < l[i].s:=by omega
      simp only [w251_K0];rw [ck_unf w251_B0.eq_1]
      simp (disch:=omega) [h1,wI64,c1,c1',c2,c2']
  · have c1':l[i].s < 1:=by omega
    simp only [w251_K0];rw [ck_unf w251_B0.eq_1]
    simp (disch:=omega) [h1,wI64,c1,c1']
theorem rsized_ok (H:HasSz C) (l:List En) (e:Bool) (hl:l.length≤1000000) (hs:SzB l):FnW C 251 [.ro 6 (l.map eEn) e]=some (.int .i64 (szE l)):=by
 have h:=rsized_loop H l e hl hs l.length 0 (by simp)
 rw [List.drop_zero] at h
 rw [fnW_eq H.f251 rfl]
 unfold szE
 by_cases c1:1024 < l.length
 · simp [w251,c1]
 · generalize l.any (fun e=>!hOk e.s)=X at *
   simp only [w251_K0] at h
   simp at h
   simp [w251,c1,h]
def tps (l:List En):List Int:=(List.range (l.length+1)).map (top l)
theorem tps_len (l:List En):(tps l).length=l.length+1:=by simp [tps]
theorem tps_get (l:List En) {i:Nat} (h:i < (tps l).length):(tps l)[i]=top l i:=by simp [tps]
theorem tops_loop (H:HasSz C) (l:List En) (e:Bool) (hz:Szd l):∀ n i,n+i=l.length→∀ G:List Int,G=(List.range (i+1)).map (top l)→G.length=i+1 →
 w246_K0 C ⟨[(20,.int .i64 i),(19,.int .i64 l.length),(5,.sl 0 1 0 (l.length+1) (l.length+1) true),(1,.ptr 1 0 0)],[(0,.cells 1 (G.map eI++List.replicate n [.int .i64 0]) true true),(1,.cells 1 [[.ro 6 (l.map eEn) e]] true true)],2⟩ =
  some (.tup [.ro 1 ((tps l).map eI) true,.int .i64 0]):=by
 intro n
 induction n with
 | zero =>
  intro i hi G hG hGl
  have h3:¬ i < l.length:=by omega
  have h6:List.take (l.length+1) (List.map eI G)=List.map eI G:=List.take_of_length_le (by simp;omega)
  have h7:G.length=l.length+1:=by omega
  have h8:tps l=G:=by rw [hG];unfold tps;rw [show i=l.length by omega]
  rw [h8]
  simp only [w246_K0];rw [ck_unf w246_B0.eq_1]
  simp [ck_unf w246_c0.eq_1,h3,h6,h7]
 | succ n ih =>
  intro i hi G hG hGl
  have hn:=hz.n
  have h1:i < l.length:=by omega
  have hr:=hz.small i
  have hr2:=hz.small (i+1)
  have this:=ih (i+1) (by omega) (G++[top l (i+1)]) (by rw [List.range_succ,List.map_append,← hG];rfl) (by simp [hGl])
  have hg:(G.map eI++List.replicate (n+1) [AV.int .i64 0])[i]?=some (eI (top l i)):=by
   rw [List.getElem?_append_left (by simp;omega),List.getElem?_map,hG]
   simp
  have h1b:i < l.length+1:=by omega
  rw [top_succ h1] at hr2 this
  simp only [w246_K0] at this ⊢;rw [ck_unf w246_B0.eq_1]
  simp at this
  simp (disch:=omega) [h1,h1b,wI64,hg,fill_get,fill_set,hGl,this]
theorem tops_ok (H:HasSz C) (l:List En) (e:Bool) (hz:Szd l):FnW C 246 [aL l e]=some (.tup [.ro 1 ((tps l).map eI) true,.int .i64 0]):=by
 have hn:=hz.n
 have h1:=sized_ok H l e (by omega) (fun x hx=>by have:=hz.s x hx;omega)
 rw [szE_of hz] at h1
 have h:=tops_loop H l e hz l.length 0 (by simp) [0] (by simp [top_0]) rfl
 have h2:(l.length+1) * 9≤35184372088832:=by omega
 have h3:(l.length:Int)+1=((l.length+1:Nat):Int):=by omega
 rw [fnW_eq H.f246 rfl]
 simp only [w246_K0] at h
 simp at h
 simp (disch:=omega) [w246,h1,h2,wI64,List.replicate_succ,h,H.inl,inlB,H.pp,ppB]
theorem ftest_ok (H:HasSz C) (l:List En) (x:Int) (k:Nat) (hk:k < l.length) (hn:l.length≤1024) :
 FnW C 412 [.int .i64 k,.rop [.ro 1 ((tps l).map eI) true],.rop [.int .i64 x]]=some (.bool (decide (x < top l (k+1)))):=by
 have h1:k+1 < (tps l).length:=by rw [tps_len];omega
 have h2:=tps_get l h1
 rw [fnW_eq H.f412 rfl]
 simp (disch:=omega) [w412,wI64,h1,h2]
theorem search_loop (H:HasSz C) (l:List En) (x:Int) (hz:Szd l) (p:Nat) (hp:p < l.length) (hp1:top l p≤x) (hp2:x < top l (p+1)):∀ (n i j:Nat),j - i≤n→i≤p→p≤j→j≤l.length →
 w411_K0 C ⟨[(6,.int .i64 j),(5,.int .i64 i),(1,.fn 412 [.rop [.ro 1 ((tps l).map eI) true],.rop [.int .i64 x]])],[],0⟩=some (.int .i64 p):=by
 intro n
 induction n with
 | zero =>
  intro i j h1 h2 h3 h4
  have h5:i=p:=by omega
  have h6:j=p:=by omega
  subst h5
  subst h6
  simp only [w411_K0];rw [ck_unf w411_B0.eq_1]
  simp (disch:=omega) [ck_unf w411_c0.eq_1]
 | succ n ih =>
  intro i j h1 h2 h3 h4
  have hn:=hz.n
  by_cases c:i < j
  · obtain ⟨m,hm⟩:∃ m,m=(i+j) / 2:=⟨_,rfl⟩
    have hk:m < l.length:=by omega
    have hf:=ftest_ok H l x m hk hn
    have hw:IntKind.i64.wrap ((IntKind.u64.wrap ((i:Int)+j)).fdiv (2 ^ min 1 IntKind.u64.bits))=m:=by
     have e1:(2:Int) ^ min 1 IntKind.u64.bits=2:=by decide
     rw [wU64 (by omega) (by omega),e1,Int.fdiv_eq_ediv_of_nonneg _ (by omega)]
     have e2:((i:Int)+j) / 2=m:=by omega
     rw [e2,wI64 (by omega) (by omega)]
    by_cases c2:x < top l (m+1)
    · have h7:p≤m:=by
       by_cases d:p≤m
       · exact d
       · have:=hz.mono (i:=m+1) (j:=p) (by omega) (by omega);omega
      have this:=ih i m (by omega) h2 h7 (by omega)
      rw [decide_eq_true c2] at hf
      simp only [w411_K0] at this ⊢;rw [ck_unf w411_B0.eq_1]
      try simp at this
      simp (disch:=omega) [c,wI64,hw,hf,this,H.inl,inlB,H.pp,ppB]
    · have h7:m+1≤p:=by
       by_cases d:m+1≤p
       · exact d
       · have:=hz.mono (i:=p+1) (j:=m+1) (by omega) (by omega);omega
      have this:=ih (m+1) j (by omega) h7 h3 h4
      rw [decide_eq_false c2] at hf
      simp only [w411_K0] at this ⊢;rw [ck_unf w411_B0.eq_1]
      try simp at this
      simp (disch:=omega) [c,wI64,hw,hf,this,H.inl,inlB,H.pp,ppB]
  · have h5:i=p:=by omega
    have h6:j=p:=by omega
    subst h5
    subst h6
    simp only [w411_K0];rw [ck_unf w411_B0.eq_1]
    simp (disch:=omega) [ck_unf w411_c0.eq_1]
theorem findT_ok (H:HasSz C) (l:List En) (x:Int) (hz:Szd l) (p:Nat) (hp:p < l.length) (hp1:top l p≤x) (hp2:x < top l (p+1)):FnW C 247 [.ro 1 ((tps l).map eI) true,.int .i64 x]=some (.int .i64 p):=by
 have hn:=hz.n
 have h:=search_loop H l x hz p hp hp1 hp2 l.length 0 l.length (by omega) (by omega) (by omega) (by omega)
 have key:FnW C 411 [.int .i64 l.length,.fn 412 [.rop [.ro 1 ((tps l).map eI) true],.rop [.int .i64 x]]]=some (.int .i64 p):=by
  rw [fnW_eq H.f411 rfl]
  simp only [w411_K0] at h
  simp at h
  simp [w411,h]
 have h3:((l.length:Int)+1) - 1=l.length:=by omega
 rw [fnW_eq H.f247 rfl]
 simp (disch:=omega) [w247,tps_len,wI64,h3,key,H.inl,inlB,H.pp,ppB]
theorem tps_last (l:List En) (h:l.length < (tps l).length):(tps l)[l.length]=sm l:=by
 rw [tps_get,top_len]
theorem viewport_ok (H:HasSz C) (l:List En) (e:Bool) (hl:l.length≤1000000) (hs:SzB l) (o v:Int) (ho:-9223372036854775808≤o∧o≤9223372036854775807) (hv:-9223372036854775808≤v∧v≤9223372036854775807) :
 FnW C 248 [aL l e,.int .i64 o,.int .i64 v]=some (.int .i64 (vpE l o v)):=by
 have h1:=sized_ok H l e hl hs
 rw [fnW_eq H.f248 rfl]
 unfold vpE
 by_cases hz0:szE l=0
 · rw [hz0] at h1 ⊢
   have hz:=szd_of hz0
   have h2:=totW_ok H.toHasL l e hl hs
   have h3:=hz.nn
   have h4:=hz.t
   rw [hz.tot] at h2
   rw [if_neg (by simp)]
   by_cases c1:v < 1
   · simp (disch:=omega) [w248,h1,c1,H.inl,inlB,H.pp,ppB]
   · by_cases c2:2147483648 < v
     · simp (disch:=omega) [w248,h1,c1,c2,H.inl,inlB,H.pp,ppB]
     · rw [if_neg (by omega)]
       by_cases c3:o < 0
       · simp (disch:=omega) [w248,h1,c1,c2,c3,H.inl,inlB,H.pp,ppB]
       · have h5:(if v < sm l then sm l - v else 0)=mostS l v:=by unfold mostS;split <;> split <;> omega
         by_cases c4:mostS l v < o
         · simp (disch:=omega) [w248,h1,c1,c2,c3,c4,h2,h5,wI64,imax,H.inl,inlB,H.pp,ppB]
         · simp (disch:=omega) [w248,h1,c1,c2,c3,c4,h2,h5,wI64,imax,H.inl,inlB,H.pp,ppB]
 · rw [if_pos hz0]
   generalize szE l=E at *
   simp (disch:=omega) [w248,h1,hz0,H.inl,inlB,H.pp,ppB]
theorem visible_ok (H:HasSz C) (l:List En) (e:Bool) (hl:l.length≤1000000) (hs:SzB l) (o v:Int) (ho:-9223372036854775808≤o∧o≤9223372036854775807) (hv:-9223372036854775808≤v∧v≤9223372036854775807) :
 FnW C 121 [aL l e,.int .i64 o,.int .i64 v]=some (if vpE l o v≠0 then .tup [.int .i64 0,.int .i64 0,.int .i64 (vpE l o v)] else .tup [.int .i64 (visF l o v),.int .i64 (visT l o v),.int .i64 0]):=by
 have h1:=viewport_ok H l e hl hs o v ho hv
 rw [fnW_eq H.f121 rfl]
 by_cases c0:vpE l o v=0
 · rw [if_neg (by simpa using c0)]
   have hp:=vp_of c0
   have hn:=hp.n
   rw [c0] at h1
   have h2:=tops_ok H l e hp.toSzd
   have h4:=tps_last l
   have h5':l.length < (tps l).length:=by rw [tps_len];omega
   have h3:((l.length:Int)+1) - 1=l.length:=by omega
   have hv0:=hp.v0
   have hs0:=hp.s0
   have ht:=hp.t
   have hnn:=hp.nn
   unfold visF visT
   by_cases c1:l.length=0
   · simp (disch:=omega) [w121,h1,h2,c1,tps_len,wI64,H.inl,inlB,H.pp,ppB]
   · rw [if_neg c1,if_neg c1]
     obtain ⟨p,q,p1,q1,hpq,a,b⟩:=hp.ends (by omega)
     have hm:imin (o+v) (sm l)≤sm l:=by unfold imin;split <;> omega
     have hlo:mostS l v≤sm l:=by unfold mostS;split <;> omega
     have h5:=findT_ok H l o hp.toSzd p p1 a.1 a.2
     have h6:=findT_ok H l _ hp.toSzd q q1 b.1 b.2
     have hq:=hp.rng q
     rw [hp.rowA_eq p1 a.1 a.2,hp.rowA_eq q1 b.1 b.2]
     have c1':¬ ((l.length:Int)+1=1):=by omega
     generalize hM:imin (o+v) (sm l)=M at *
     simp (disch:=omega) [w121,h1,h2,c1',tps_len,h3,h4,h5',h5,h6,hM,wI64,H.inl,inlB,H.pp,ppB]
 · rw [if_pos c0]
   generalize vpE l o v=E at *
   simp (disch:=omega) [w121,h1,c0,H.inl,inlB,H.pp,ppB]
theorem rtop_loop (H:HasSz C) (l:List En) (e:Bool) (hz:Szd l) (j:Nat) (hj:j≤l.length):∀ n i,n+i=j →
 w253_K0 C ⟨[(6,.int .i64 i),(5,.int .i64 (top l i)),(1,.int .i64 j),(0,.ro 6 (l.map eEn) e)],[],0⟩=some (.int .i64 (top l j)):=by
 intro n
 induction n with
 | zero =>
  intro i hi
  have h1:i=j:=by omega
  subst h1
  simp only [w253_K0];rw [ck_unf w253_B0.eq_1]
  simp (disch:=omega) [ck_unf w253_c0.eq_1]
 | succ n ih =>
  intro i hi
  have h1:i < l.length:=by omega
  have h2:i < j:=by omega
  have hn:=hz.n
  have hr:=hz.small (i+1)
  have this:=ih (i+1) (by omega)
  rw [top_succ h1] at this hr
  simp only [w253_K0] at this ⊢;rw [ck_unf w253_B0.eq_1]
  simp at this
  simp (disch:=omega) [h1,h2,wI64,this]
theorem rtop_ok (H:HasSz C) (l:List En) (e:Bool) (hz:Szd l) (j:Nat) (hj:j≤l.length):FnW C 253 [.ro 6 (l.map eEn) e,.int .i64 j]=some (.int .i64 (top l j)):=by
 have h:=rtop_loop H l e hz j hj j 0 (by simp)
 rw [top_0] at h
 rw [fnW_eq H.f253 rfl]
 simp only [w253_K0] at h
 try simp at h
 simp [w253,h]
theorem rtop_ok1 (H:HasSz C) (l:List En) (e:Bool) (hz:Szd l) (j:Nat) (hj:j < l.length):FnW C 253 [.ro 6 (l.map eEn) e,.int .i64 ((j:Int)+1)]=some (.int .i64 (top l (j+1))):=rtop_ok H l e hz (j+1) hj
theorem rmost_ok (H:HasSz C) (l:List En) (e:Bool) (hz:Szd l) (v:Int) (hv:-9223372036854775808≤sm l - v∧sm l - v≤9223372036854775807):FnW C 327 [.ro 6 (l.map eEn) e,.int .i64 v]=some (.int .i64 (mostS l v)):=by
 have h:=rtop_ok H l e hz l.length (Nat.le_refl _)
 rw [top_len] at h
 rw [fnW_eq H.f327 rfl]
 unfold mostS
 by_cases c:sm l < v
 · simp (disch:=omega) [w327,h,c,wI64,H.inl,inlB,H.pp,ppB]
 · simp (disch:=omega) [w327,h,c,wI64,H.inl,inlB,H.pp,ppB]
theorem rviewport_ok (H:HasSz C) (l:List En) (e:Bool) (hl:l.length≤1000000) (hs:SzB l) (o v:Int) (ho:-9223372036854775808≤o∧o≤9223372036854775807) (hv:-9223372036854775808≤v∧v≤9223372036854775807) :
 FnW C 252 [.ro 6 (l.map eEn) e,.int .i64 o,.int .i64 v]=some (.int .i64 (vpE l o v)):=by
 have h1:=rsized_ok H l e hl hs
 rw [fnW_eq H.f252 rfl]
 unfold vpE
 by_cases hz0:szE l=0
 · rw [hz0] at h1 ⊢
   have hz:=szd_of hz0
   have h3:=hz.nn
   have h4:=hz.t
   rw [if_neg (by simp)]
   by_cases c1:v < 1
   · simp (disch:=omega) [w252,h1,c1,H.inl,inlB,H.pp,ppB]
   · by_cases c2:2147483648 < v
     · simp (disch:=omega) [w252,h1,c1,c2,H.inl,inlB,H.pp,ppB]
     · rw [if_neg (by omega)]
       have h2:=rmost_ok H l e hz v (by omega)
       by_cases c3:o < 0
       · simp (disch:=omega) [w252,h1,c1,c2,c3,H.inl,inlB,H.pp,ppB]
       · by_cases c4:mostS l v < o
         · simp (disch:=omega) [w252,h1,c1,c2,c3,c4,h2,wI64,H.inl,inlB,H.pp,ppB]
         · simp (disch:=omega) [w252,h1,c1,c2,c3,c4,h2,wI64,H.inl,inlB,H.pp,ppB]
 · rw [if_pos hz0]
   have hp:0 < szE l:=by
    have:0≤szE l:=by unfold szE ovE;repeat (first | omega | split)
    omega
   generalize szE l=E at *
   simp (disch:=omega) [w252,h1,hz0,hp,H.inl,inlB,H.pp,ppB]
theorem rseen_ok (H:HasSz C) (l:List En) (e:Bool) (o v:Int) (hp:Vp l o v) (i:Nat) (hi:i < l.length):FnW C 272 [.ro 6 (l.map eEn) e,.int .i64 o,.int .i64 v,.int .i64 i]=some (.int .i64 (if top l i < o+v∧o < top l (i+1) then 1 else 0)):=by
 have hn:=hp.n
 have hv:=hp.v0
 have ho:=hp.s0
 have ht:=hp.t
 have hnn:=hp.nn
 have hlo:mostS l v≤sm l:=by unfold mostS;split <;> omega
 have q1:=rtop_ok H l e hp.toSzd i (by omega)
 have q2:=rtop_ok1 H l e hp.toSzd i hi
 rw [fnW_eq H.f272 rfl]
 by_cases c1:top l i < o+v
 · by_cases c2:o < top l (i+1)
   · rw [if_pos ⟨c1,c2⟩]
     simp (disch:=omega) [w272,q1,q2,c1,c2,wI64,H.inl,inlB,H.pp,ppB]
   · rw [if_neg (fun q=>c2 q.2)]
     simp (disch:=omega) [w272,q1,q2,c1,c2,wI64,H.inl,inlB,H.pp,ppB]
 · rw [if_neg (fun q=>c1 q.1)]
   simp (disch:=omega) [w272,q1,q2,c1,wI64,H.inl,inlB,H.pp,ppB]
structure HasWn (C:WProg):Prop extends HasS C
def bdBad (v least over:Int):Prop:=v < 1∨2147483648 < v∨least < 1∨2305843009213693952 < least∨over < 0∨16 < over
instance (v least over:Int):Decidable (bdBad v least over):=by unfold bdBad;infer_instance
def risB:Int→List Int→Bool
 | _,[]=>true
 | p,x::r=>decide (p < x)&&risB x r
structure HasAt (C:WProg):Prop extends HasSz C,HasWn C,HasG C where
 f132:C.fns.get 132=some w132
 f273:C.fns.get 273=some w273
def wF (l:List En) (o v k:Int):Int:=imax 0 (visF l o v - k)
def wT (l:List En) (o v k:Int):Int:=imin l.length (visT l o v+k)
theorem Vp.vis {l:List En} {o v:Int} (h:Vp l o v):(l.length=0∧visF l o v=0∧visT l o v=0)∨(∃ p q:Nat,p < l.length∧q < l.length∧p≤q∧visF l o v=p∧visT l o v=(q:Int)+1∧(top l p≤o∧o < top l (p+1)) ∧
 ∀ i,i < l.length→((top l i < o+v∧o < top l (i+1))↔(p≤i∧i≤q))):=by
 by_cases c:l.length=0
 · left;exact ⟨c,by unfold visF;rw [if_pos c],by unfold visT;rw [if_pos c]⟩
 · right
   obtain ⟨p,q,p1,q1,hpq,a,b⟩:=h.ends (by omega)
   refine ⟨p,q,p1,q1,hpq,?_,?_,a,fun i hi=>h.seen p1 q1 a b hi⟩
   · unfold visF;rw [if_neg c,h.rowA_eq p1 a.1 a.2]
   · unfold visT;rw [if_neg c,h.rowA_eq q1 b.1 b.2]
theorem window_ok (H:HasAt C) (l:List En) (e:Bool) (o v k:Int) (hp:Vp l o v) (hk:0≤k∧k≤16):FnW C 132 [aL l e,.int .i64 o,.int .i64 v,.int .i64 k]=some (.tup [.agg [.int .i64 (wF l o v k),.int .i64 (wT l o v k)],.int .i64 0]):=by
 have hn:=hp.n
 have hv:=hp.v0
 have ho:=hp.s0
 have ht:=hp.t
 have hlo:mostS l v≤4611686018427387904:=by unfold mostS;split <;> omega
 have h1:=visible_ok H.toHasSz l e (by omega) (fun x hx=>by have:=hp.s x hx;omega) o v (by omega) (by omega)
 rw [vpE_of hp,if_neg (by simp)] at h1
 have c1:¬ k < 0:=by omega
 have c2:¬ 16 < k:=by omega
 rw [fnW_eq H.f132 rfl]
 unfold wF wT
 rcases hp.vis with ⟨a,b,c⟩ | ⟨p,q,p1,q1,hpq,a,b,_⟩
 · rw [b,c] at h1
   rw [b,c]
   have e1:imax 0 (0 - k)=0:=by unfold imax;split <;> omega
   have e2:imin (l.length:Int) (0+k)=0:=by unfold imin;split <;> omega
   rw [e1,e2]
   simp (disch:=omega) [w132,h1,c1,c2,H.inl,inlB,H.pp,ppB]
 · rw [a,b] at h1
   rw [a,b]
   have c3:¬ (q:Int)+1=0:=by omega
   simp (disch:=omega) [w132,h1,c1,c2,c3,wI64,H.inl,inlB,H.pp,ppB]
def hdF (ks:List Kd) (l:List En) (o:Int):Nat→Nat→Int→Int
 | 0,_,a=>a
 | n+1,i,a=>if o < top l i then a else hdF ks l o n (i+1) (match l[i]? with | some x=>if (kdAt ks x.i.t).st=true then (i:Int) else a | none=>a)
def hdA (ks:List Kd) (l:List En) (o:Int):Int:=hdF ks l o l.length 0 (-1)
theorem hdF_bd (ks:List Kd) (l:List En) (hz:Szd l) (o:Int) (p:Nat) (hp:top l p≤o∧o < top l (p+1)) (hpl:p < l.length):∀ (n i:Nat) (a:Int),n+i=l.length→-1≤a∧a≤p→-1≤hdF ks l o n i a∧hdF ks l o n i a≤p:=by
 intro n
 induction n with
 | zero=>intro i a _ h;exact h
 | succ n ih =>
  intro i a hi h
  rw [hdF]
  by_cases c:o < top l i
  · rw [if_pos c];exact h
  · rw [if_neg c]
    refine ih (i+1) _ (by omega) ?_
    have hip:i≤p:=by
     by_cases d:i≤p
     · exact d
     · have:=hz.mono (i:=p+1) (j:=i) (by omega) (by omega);omega
    split
    · split <;> omega
    · exact h
theorem whead_loop (H:HasAt C) (ks:List Kd) (ke:Bool) (cap:Int) (l:List En) (e:Bool) (o:Int) (hz:Szd l) (ht:∀ x ∈ l,0≤x.i.t∧x.i.t < ks.length):∀ n i,n+i=l.length→∀ a:Int,
 w273_K0 C ⟨[(20,.int .i64 i),(19,.int .i64 l.length),(18,.ro 6 (l.map eEn) e),(9,.int .i64 a),(7,.ro 1 ((tps l).map eI) true),(3,.ptr 0 0 0),(2,.int .i64 o)],[(0,.cells 2 [[.ro 9 (ks.map eKd) ke,.int .i64 cap]] true true)],1⟩=some (.int .i64 (hdF ks l o n i a)):=by
 intro n
 induction n with
 | zero =>
  intro i hi a
  have h3:¬ i < l.length:=by omega
  simp only [w273_K0];rw [ck_unf w273_B0.eq_1]
  simp (disch:=omega) [ck_unf w273_c0.eq_1,h3,hdF]
 | succ n ih =>
  intro i hi a
  have h1:i < l.length:=by omega
  have hn:=hz.n
  have h2:i < (tps l).length:=by rw [tps_len];omega
  have q2:=tps_get l h2
  have hx:=ht _ (List.getElem_mem h1)
  obtain ⟨t,hT⟩:∃ t:Nat,l[i].i.t=t:=⟨l[i].i.t.toNat,by omega⟩
  have h4:t < ks.length:=by omega
  rw [hdF,List.getElem?_eq_getElem h1]
  simp only [hT,kdAt_get h4]
  by_cases c1:o < top l i
  · rw [if_pos c1]
    simp only [w273_K0];rw [ck_unf w273_B0.eq_1]
    simp (disch:=omega) [ck_unf w273_c0.eq_1,h1,h2,q2,c1,wI64]
  · rw [if_neg c1]
    cases c2:ks[t].st
    · have this:=ih (i+1) (by omega) a
      rw [if_neg (by simp)]
      generalize hdF ks l o n (i+1) a=R at *
      simp only [w273_K0] at this ⊢;rw [ck_unf w273_B0.eq_1]
      simp at this
      simp (disch:=omega) [h1,h2,q2,c1,hT,h4,c2,wI64,this]
    · have this:=ih (i+1) (by omega) i
      rw [if_pos rfl]
      generalize hdF ks l o n (i+1) i=R at *
      simp only [w273_K0] at this ⊢;rw [ck_unf w273_B0.eq_1]
      simp at this
      simp (disch:=omega) [h1,h2,q2,c1,hT,h4,c2,wI64,this]
theorem whead_ok (H:HasAt C) (ks:List Kd) (ke:Bool) (cap:Int) (l:List En) (e:Bool) (o:Int) (hz:Szd l) (ht:∀ x ∈ l,0≤x.i.t∧x.i.t < ks.length):FnW C 273 [aR ks ke cap,aL l e,.int .i64 o]=some (.int .i64 (hdA ks l o)):=by
 have hn:=hz.n
 have h:=whead_loop H ks ke cap l e o hz ht l.length 0 (by simp) (-1)
 have h1:=tops_ok H.toHasSz l e hz
 rw [fnW_eq H.f273 rfl]
 unfold hdA
 generalize hdF ks l o l.length 0 (-1)=R at *
 simp only [w273_K0] at h
 try simp at h
 simp [w273,h1,h,H.inl,inlB,H.pp,ppB]
def seqI (a n:Nat):List Int:=(List.range n).map fun i=>((a+i:Nat):Int)
theorem seqI_len (a n:Nat):(seqI a n).length=n:=by simp [seqI]
end Go.D
end
section
namespace Go.Proofs.YtcekmcchienbfaaGreat
open Go.ChangeShapes Go.WideShapes Go.ChangeAt Go.RowKit Go.Pav Go.Pw P Go.D
theorem has_:HasG prog:={ f561:=rfl,f517:=rfl,f557:=rfl,f556:=rfl,f511:=rfl,f510:=rfl,f560:=rfl,f545:=rfl,f578:=rfl,f543:=rfl,f495:=rfl,f516:=rfl,f500:=rfl,inl:=rfl,pp:=rfl,f434:=rfl,f519:=rfl,f518:=rfl,f562:=rfl,f433:=rfl,f282:=rfl,f140:=rfl,f439:=rfl,f581:=rfl,f579:=rfl,f585:=rfl,f549:=rfl,f502:=rfl,f503:=rfl,f548:=rfl,f404:=rfl,f231:=rfl,f594:=rfl,f586:=rfl,f550:=rfl,f505:=rfl,f408:=rfl,f398:=rfl,f424:=rfl,f494:=rfl,f496:=rfl,f497:=rfl,f498:=rfl,f499:=rfl,f544:=rfl,f546:=rfl,f580:=rfl,f512:=rfl,f584:=rfl,f558:=rfl,f559:=rfl,f592:=rfl,f582:=rfl,f583:=rfl,f593:=rfl,f563:=rfl,f520:=rfl,f442:=rfl,f441:=rfl,f547:=rfl,f513:=rfl,f501:=rfl,f425:=rfl,f225:=rfl,f111:=rfl,f227:=rfl,f403:=rfl,f402:=rfl,f224:=rfl,f460:=rfl,f459:=rfl,f340:=rfl,f221:=rfl,f400:=rfl,f219:=rfl,f504:=rfl,f407:=rfl,f239:=rfl,f406:=rfl,f240:=rfl,f423:=rfl,f399:=rfl,f230:=rfl,f405:=rfl,f232:=rfl,f115:=rfl,f236:=rfl,f271:=rfl,f223:=rfl,f235:=rfl,f222:=rfl,f422:=rfl,f270:=rfl,f126:=rfl,f130:=rfl }
theorem ty_four {a:AV} (h:Ty (.slice [.int .u8,.int .u8,.int .u8,.int .u8]) a):∃ (xs:List Q4) (e:Bool),a=.ro 4 (xs.map eQ) e∧∀ s ∈ xs,QIn s:=by
 obtain ⟨es,e,rfl,_,hx⟩:=ty_slice h
 obtain ⟨xs,rfl,hr⟩:=ty_map2 (g:=eQ) (R:=QIn) (fun l q=>by
  obtain ⟨q1,q2⟩:=q
  match l,q1 with
  | [u,v,w,x],_ =>
   obtain ⟨n1,rfl,h1⟩:=ty_u8 (q2 0 _ u rfl rfl)
   obtain ⟨n2,rfl,h2⟩:=ty_u8 (q2 1 _ v rfl rfl)
   obtain ⟨n3,rfl,h3⟩:=ty_u8 (q2 2 _ w rfl rfl)
   obtain ⟨n4,rfl,h4⟩:=ty_u8 (q2 3 _ x rfl rfl)
   exact ⟨⟨n1,n2,n3,n4⟩,rfl,h1,h2,h3,h4⟩) es hx
 exact ⟨xs,e,rfl,hr⟩
theorem ty_bytes2 {a:AV} (h:Ty (.slice [.int .u8]) a):∃ (xs:List Int) (e:Bool),a=.ro 1 (xs.map eU8) e∧(∀ x ∈ xs,0≤x∧x≤255)∧xs.length < 9223372036854775808:=by
 obtain ⟨es,e,rfl,hl,hx⟩:=ty_slice h
 obtain ⟨xs,rfl,hr⟩:=ty_map2 (g:=eU8) (R:=fun x:Int=>0≤x∧x≤255) (fun l q=>by
  obtain ⟨q1,q2⟩:=q
  match l,q1 with
  | [v],_ =>
   obtain ⟨n,rfl,h1⟩:=ty_u8 (q2 0 _ v rfl rfl)
   exact ⟨n,rfl,h1⟩) es hx
 exact ⟨xs,e,rfl,hr,by simpa using hl⟩
end Go.Proofs.YtcekmcchienbfaaGreat
end
section
namespace Go.D
open Go Go.Pav Go.Pw P
attribute [-simp] List.getElem_cons_drop
variable {C:WProg}
structure HasEq (C:WProg):Prop extends HasS C
structure Rw where
 k:Int
 t:Int
 s:Int
 n:Nd
@[simp] def eRw (r:Rw):List AV:=[.int .u64 r.k,.int .i64 r.t,.int .i64 r.s,.int .u8 r.n.k,.str r.n.t,.str r.n.y,.ro 2 (r.n.a.map eA) r.n.ae,.str r.n.x,.ro 6 (r.n.ch.map Nd.c) r.n.ce]
structure Sc where
 o:Int
 r:List Rw
 e:Bool
 p:Bool
 h:Rw
@[simp] def eSc (x:Sc):List AV:=[.int .i64 x.o,.ro 9 (x.r.map eRw) x.e,.bool x.p,.int .u64 x.h.k,.int .i64 x.h.t,.int .i64 x.h.s,.int .u8 x.h.n.k,.str x.h.n.t,.str x.h.n.y,.ro 2 (x.h.n.a.map eA) x.h.n.ae,.str x.h.n.x,.ro 6 (x.h.n.ch.map Nd.c) x.h.n.ce]
def attL (ks:List Kd) (l:List En) (o v k:Int):List Int :=
 (if 0≤hdA ks l o∧hdA ks l o < wF l o v k then [hdA ks l o] else [])++seqI (wF l o v k).toNat ((wT l o v k).toNat - (wF l o v k).toNat)
theorem Vp.win {l:List En} {o v:Int} (h:Vp l o v) (k:Int) (hk:0≤k∧k≤16):∃ a b:Nat,wF l o v k=a∧wT l o v k=b∧a≤b∧b≤l.length:=by
 have hn:=h.n
 unfold wF wT imax imin
 rcases h.vis with ⟨a,b,c⟩ | ⟨p,q,p1,q1,hpq,a,b,_⟩
 · rw [b,c]
   exact ⟨0,0,by split <;> omega,by split <;> omega,by omega,by omega⟩
 · rw [a,b]
   refine ⟨(if (p:Int) - k > 0 then (p:Int) - k else 0).toNat,(if (q:Int)+1+k < l.length then (q:Int)+1+k else l.length).toNat,?_,?_,?_,?_⟩
   · split <;> omega
   · split <;> omega
   · split <;> split <;> omega
   · split <;> omega
theorem mem_seqI (a n:Nat) (x:Int):x ∈ seqI a n↔(a:Int)≤x∧x < (a:Int)+n:=by
 unfold seqI
 simp only [List.mem_map,List.mem_range]
 constructor
 · rintro ⟨i,hi,rfl⟩;omega
 · intro h;exact ⟨(x - a).toNat,by omega,by omega⟩
theorem ris_seqI:∀ (n a:Nat) (p:Int),p < a→risB p (seqI a n)=true
 | 0,_,_,_=>rfl
 | n+1,a,p,h=>by
  have:seqI a (n+1)=(a:Int)::seqI (a+1) n:=by
   unfold seqI;rw [List.range_succ_eq_map,List.map_cons,List.map_map]
   refine congr (congrArg _ (by simp)) (List.map_congr_left fun j _=>?_)
   simp only [Function.comp];omega
  rw [this,risB,decide_eq_true h,Bool.true_and]
  exact ris_seqI n (a+1) a (by omega)
theorem ris_att {ks:List Kd} {l:List En} {o v k:Int} (hp:Vp l o v) (hk:0≤k∧k≤16):risB (-1) (attL ks l o v k)=true:=by
 obtain ⟨a,b,ea,eb,hab,hbn⟩:=hp.win k hk
 unfold attL
 rw [ea,eb]
 simp only [Int.toNat_natCast]
 by_cases c:0≤hdA ks l o∧hdA ks l o < (a:Int)
 · rw [if_pos c,List.singleton_append,risB,decide_eq_true (by omega),Bool.true_and]
   exact ris_seqI _ _ _ c.2
 · rw [if_neg c,List.nil_append]
   exact ris_seqI _ _ _ (by omega)
theorem mem_att {ks:List Kd} {l:List En} {o v k:Int} (hp:Vp l o v) (hk:0≤k∧k≤16) (x:Int):x ∈ attL ks l o v k↔(0≤hdA ks l o∧hdA ks l o < wF l o v k∧x=hdA ks l o)∨(wF l o v k≤x∧x < wT l o v k):=by
 obtain ⟨a,b,ea,eb,hab,hbn⟩:=hp.win k hk
 unfold attL
 rw [ea,eb,List.mem_append,mem_seqI]
 simp only [Int.toNat_natCast]
 by_cases c:0≤hdA ks l o∧hdA ks l o < (a:Int)
 · rw [if_pos c,List.mem_singleton]
   constructor
   · rintro (h | h)
     · exact .inl ⟨c.1,c.2,h⟩
     · exact .inr (by omega)
   · rintro (h | h)
     · exact .inl h.2.2
     · exact .inr (by omega)
 · rw [if_neg c]
   constructor
   · rintro (h | h)
     · cases h
     · exact .inr (by omega)
   · rintro (h | h)
     · exact absurd ⟨h.1,h.2.1⟩ c
     · exact .inr (by omega)
theorem att_len {ks:List Kd} {l:List En} {o v k:Int} (hp:Vp l o v) (hk:0≤k∧k≤16):(attL ks l o v k).length≤1025∧wT l o v k - wF l o v k≤(attL ks l o v k).length∧((attL ks l o v k).length:Int)≤wT l o v k - wF l o v k+1:=by
 have hn:=hp.n
 obtain ⟨a,b,ea,eb,hab,hbn⟩:=hp.win k hk
 unfold attL
 rw [ea,eb,List.length_append,seqI_len]
 simp only [Int.toNat_natCast]
 split <;> simp <;> omega
structure HasTr (C:WProg):Prop extends HasG C
structure HasCp (C:WProg):Prop extends HasEq C,HasTr C,HasAt C
end Go.D
end
