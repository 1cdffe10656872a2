/- Part of the theory that the claims of this work use: D28, D29, D32, D34, D35, D36, GTy, V27, E01, E02, E03, E04, E06, E08, G01, S01. No conditions of its own. -/
import Derived.Test.YtmpenhhlkcehpaaGreatT5
section
set_option linter.unusedSimpArgs false
set_option linter.unusedVariables false
namespace Go.D
open Go Go.Pav Go.Pw P
set_option maxRecDepth 10000
set_option maxHeartbeats 4000000
set_option linter.unusedSimpArgs false
set_option linter.unusedVariables false
attribute [-simp] List.getElem_cons_drop
variable {C:WProg}
end Go.D
end
section
set_option linter.unusedSimpArgs false
set_option linter.unusedVariables false
namespace Go.D
open Go Go.Pav Go.Pw P
set_option maxRecDepth 10000
set_option maxHeartbeats 4000000
set_option linter.unusedSimpArgs false
set_option linter.unusedVariables false
attribute [-simp] List.getElem_cons_drop
variable {C:WProg}
structure HasO (C:WProg):Prop extends HasK C
theorem rfresh_ok (H:HasK C) (ks:List Kd) (ke:Bool) (cap:Int) (x:It) (hx:ItIn x) (ht:x.t < ks.length) :
 FnW C 240 [aR ks ke cap,eIt x]=some (aE (fre ks x)):=by
 obtain ⟨t,hT⟩:∃ t:Nat,x.t=t:=⟨x.t.toNat,by have:=hx.t;omega⟩
 have h1:t < ks.length:=by omega
 rw [fnW_eq H.f240 rfl]
 unfold fre
 rw [hT,kdAt_get h1]
 simp (disch:=omega) [w240,hT,h1]
end Go.D
end
section
set_option linter.unusedSimpArgs false
set_option linter.unusedVariables false
namespace Go.D
open Go Go.Pav Go.Pw P
set_option maxRecDepth 10000
set_option maxHeartbeats 4000000
set_option linter.unusedSimpArgs false
set_option linter.unusedVariables false
attribute [-simp] List.getElem_cons_drop
variable {C:WProg}
structure HasQ (C:WProg):Prop extends HasO C
end Go.D
end
section
set_option linter.unusedSimpArgs false
set_option linter.unusedVariables false
namespace Go.D
open Go Go.Pav Go.Pw P
set_option maxRecDepth 10000
set_option maxHeartbeats 4000000
set_option linter.unusedSimpArgs false
set_option linter.unusedVariables false
attribute [-simp] List.getElem_cons_drop
variable {C:WProg}
structure HasG (C:WProg):Prop extends HasQ C where
 f422:C.fns.get 422=some w422
 f270:C.fns.get 270=some w270
 f126:C.fns.get 126=some w126
 f130:C.fns.get 130=some w130
structure Good (i:It):Prop where
 k:1≤i.k∧i.k≤60
 t:0≤i.t∧i.t≤2
 x:isText i.x=true
 l:i.m.length≤8
 m:i.m.all isName=true
def OneR (k t:Int) (x:Bs) (o:Option AV):Prop:=∃ (m:List Bs) (e:Bool),o=some (eIt ⟨k,t,x,m,e⟩)∧m.length≤8∧m.all isName=true
theorem one_sl3 (H:HasG C) (k t a b c d:Int) (hd:0≤d∧d≤255) (x:Bs) (G:List Bs) (hG:G≠[]) (hl:G.length≤3) (hm:G.all isName=true) :
 OneR k t x (w422_K0 C ⟨[(4,.int .i64 3),(3,.ptr 0 0 0),(2,.ptr 2 0 0),(1,.ptr 3 0 0)],[(0,.cells 4 [[.int .u64 k,.int .u8 t,.str x,.sl 1 1 0 G.length G.length false]] true false),(1,.cells 1 (G.map eS) true true),(2,.cells 4 [[.int .u64 0,.int .u8 0,.str [],.ro 1 [] true]] true true),(3,.cells 4 [[.int .u8 a,.int .u8 b,.int .u8 c,.int .u8 d]] true true)],4⟩):=by
 have hfit:(G.length+1) * 17≤35184372088832:=by omega
 have hfit2:(G.length+2) * 17≤35184372088832:=by omega
 have h4:List.take G.length (List.map eS G)=List.map eS G:=List.take_of_length_le (by simp)
 by_cases c1:240≤d
 · refine ⟨G++[[97],[97]],false,?_,by simp;omega,by simp only [List.all_append,hm];decide⟩
   have h5:List.take (G.length+2) (List.map eS G++[[.str [97]],[.str [97]]])=List.map eS G++[[.str [97]],[.str [97]]]:=List.take_of_length_le (by simp)
   simp only [w422_K0];rw [ck_unf w422_B0.eq_1]
   simp (disch:=omega) [ck_unf w422_c0.eq_1,c1,h4,h5,hfit2]
 · refine ⟨G,false,?_,by omega,hm⟩
   simp only [w422_K0];rw [ck_unf w422_B0.eq_1]
   simp (disch:=omega) [ck_unf w422_c0.eq_1,c1,h4]
theorem one_nil3 (H:HasG C) (k t a b c d:Int) (hd:0≤d∧d≤255) (x:Bs) :
 OneR k t x (w422_K0 C ⟨[(4,.int .i64 3),(3,.ptr 0 0 0),(2,.ptr 1 0 0),(1,.ptr 2 0 0)],[(0,.cells 4 [[.int .u64 k,.int .u8 t,.str x,.ro 1 [] true]] true true),(1,.cells 4 [[.int .u64 0,.int .u8 0,.str [],.ro 1 [] true]] true true),(2,.cells 4 [[.int .u8 a,.int .u8 b,.int .u8 c,.int .u8 d]] true true)],3⟩):=by
 by_cases c1:240≤d
 · refine ⟨[[97],[97]],false,?_,by simp,by decide⟩
   simp only [w422_K0];rw [ck_unf w422_B0.eq_1]
   simp (disch:=omega) [ck_unf w422_c0.eq_1,c1]
 · refine ⟨[],true,?_,by simp,rfl⟩
   simp only [w422_K0];rw [ck_unf w422_B0.eq_1]
   simp (disch:=omega) [ck_unf w422_c0.eq_1,c1]
theorem one_sl2 (H:HasG C) (k t a b c d:Int) (hd:0≤d∧d≤255) (x:Bs) (G:List Bs) (hG:G≠[]) (hl:G.length≤2) (hm:G.all isName=true) :
 OneR k t x (w422_K0 C ⟨[(4,.int .i64 2),(3,.ptr 0 0 0),(2,.ptr 2 0 0),(1,.ptr 3 0 0)],[(0,.cells 4 [[.int .u64 k,.int .u8 t,.str x,.sl 1 1 0 G.length G.length false]] true false),(1,.cells 1 (G.map eS) true true),(2,.cells 4 [[.int .u64 0,.int .u8 0,.str [],.ro 1 [] true]] true true),(3,.cells 4 [[.int .u8 a,.int .u8 b,.int .u8 c,.int .u8 d]] true true)],4⟩):=by
 have hfit:(G.length+1) * 17≤35184372088832:=by omega
 have hfit2:(G.length+2) * 17≤35184372088832:=by omega
 have h4:List.take G.length (List.map eS G)=List.map eS G:=List.take_of_length_le (by simp)
 have h6:d.tdiv 8=d / 8:=Int.tdiv_eq_ediv_of_nonneg (by omega)
 have h5:(2+d / 8).tmod 3=(2+d / 8) % 3:=Int.tmod_eq_emod_of_nonneg (by omega)
 have hJ:(2+d / 8) % 3=0∨(2+d / 8) % 3=1∨(2+d / 8) % 3=2:=by omega
 simp only [w422_K0];rw [ck_unf w422_B0.eq_1]
 rcases hJ with hj | hj | hj
 · simp (disch:=omega) [wI64,wU8,h5,h6,hj,h4,hfit]
   split
   · have h:=one_sl3 H k t a b c d hd x (G++[[97]]) (by simp) (by simp;omega) (by simp only [List.all_append,hm];decide)
     simp only [w422_K0] at h
     simpa using h
   · exact one_sl3 H k t a b c d hd x G hG (by omega) hm
 · simp (disch:=omega) [wI64,wU8,h5,h6,hj,h4,hfit]
   split
   · have h:=one_sl3 H k t a b c d hd x (G++[[98,50]]) (by simp) (by simp;omega) (by simp only [List.all_append,hm];decide)
     simp only [w422_K0] at h
     simpa using h
   · exact one_sl3 H k t a b c d hd x G hG (by omega) hm
 · simp (disch:=omega) [wI64,wU8,h5,h6,hj,h4,hfit]
   split
   · have h:=one_sl3 H k t a b c d hd x (G++[[107,101,121]]) (by simp) (by simp;omega) (by simp only [List.all_append,hm];decide)
     simp only [w422_K0] at h
     simpa using h
   · exact one_sl3 H k t a b c d hd x G hG (by omega) hm
theorem one_nil2 (H:HasG C) (k t a b c d:Int) (hd:0≤d∧d≤255) (x:Bs) :
 OneR k t x (w422_K0 C ⟨[(4,.int .i64 2),(3,.ptr 0 0 0),(2,.ptr 1 0 0),(1,.ptr 2 0 0)],[(0,.cells 4 [[.int .u64 k,.int .u8 t,.str x,.ro 1 [] true]] true true),(1,.cells 4 [[.int .u64 0,.int .u8 0,.str [],.ro 1 [] true]] true true),(2,.cells 4 [[.int .u8 a,.int .u8 b,.int .u8 c,.int .u8 d]] true true)],3⟩):=by
 have h6:d.tdiv 8=d / 8:=Int.tdiv_eq_ediv_of_nonneg (by omega)
 have h5:(2+d / 8).tmod 3=(2+d / 8) % 3:=Int.tmod_eq_emod_of_nonneg (by omega)
 have hJ:(2+d / 8) % 3=0∨(2+d / 8) % 3=1∨(2+d / 8) % 3=2:=by omega
 simp only [w422_K0];rw [ck_unf w422_B0.eq_1]
 rcases hJ with hj | hj | hj
 · simp (disch:=omega) [wI64,wU8,h5,h6,hj]
   split
   · exact one_sl3 H k t a b c d hd x [[97]] (by simp) (by simp) (by decide)
   · exact one_nil3 H k t a b c d hd x
 · simp (disch:=omega) [wI64,wU8,h5,h6,hj]
   split
   · exact one_sl3 H k t a b c d hd x [[98,50]] (by simp) (by simp) (by decide)
   · exact one_nil3 H k t a b c d hd x
 · simp (disch:=omega) [wI64,wU8,h5,h6,hj]
   split
   · exact one_sl3 H k t a b c d hd x [[107,101,121]] (by simp) (by simp) (by decide)
   · exact one_nil3 H k t a b c d hd x
theorem one_sl1 (H:HasG C) (k t a b c d:Int) (hd:0≤d∧d≤255) (x:Bs) (G:List Bs) (hG:G≠[]) (hl:G.length≤1) (hm:G.all isName=true) :
 OneR k t x (w422_K0 C ⟨[(4,.int .i64 1),(3,.ptr 0 0 0),(2,.ptr 2 0 0),(1,.ptr 3 0 0)],[(0,.cells 4 [[.int .u64 k,.int .u8 t,.str x,.sl 1 1 0 G.length G.length false]] true false),(1,.cells 1 (G.map eS) true true),(2,.cells 4 [[.int .u64 0,.int .u8 0,.str [],.ro 1 [] true]] true true),(3,.cells 4 [[.int .u8 a,.int .u8 b,.int .u8 c,.int .u8 d]] true true)],4⟩):=by
 have hfit:(G.length+1) * 17≤35184372088832:=by omega
 have hfit2:(G.length+2) * 17≤35184372088832:=by omega
 have h4:List.take G.length (List.map eS G)=List.map eS G:=List.take_of_length_le (by simp)
 have h6:d.tdiv 8=d / 8:=Int.tdiv_eq_ediv_of_nonneg (by omega)
 have h5:(1+d / 8).tmod 3=(1+d / 8) % 3:=Int.tmod_eq_emod_of_nonneg (by omega)
 have hJ:(1+d / 8) % 3=0∨(1+d / 8) % 3=1∨(1+d / 8) % 3=2:=by omega
 simp only [w422_K0];rw [ck_unf w422_B0.eq_1]
 rcases hJ with hj | hj | hj
 · simp (disch:=omega) [wI64,wU8,h5,h6,hj,h4,hfit]
   split
   · have h:=one_sl2 H k t a b c d hd x (G++[[97]]) (by simp) (by simp;omega) (by simp only [List.all_append,hm];decide)
     simp only [w422_K0] at h
     simpa using h
   · exact one_sl2 H k t a b c d hd x G hG (by omega) hm
 · simp (disch:=omega) [wI64,wU8,h5,h6,hj,h4,hfit]
   split
   · have h:=one_sl2 H k t a b c d hd x (G++[[98,50]]) (by simp) (by simp;omega) (by simp only [List.all_append,hm];decide)
     simp only [w422_K0] at h
     simpa using h
   · exact one_sl2 H k t a b c d hd x G hG (by omega) hm
 · simp (disch:=omega) [wI64,wU8,h5,h6,hj,h4,hfit]
   split
   · have h:=one_sl2 H k t a b c d hd x (G++[[107,101,121]]) (by simp) (by simp;omega) (by simp only [List.all_append,hm];decide)
     simp only [w422_K0] at h
     simpa using h
   · exact one_sl2 H k t a b c d hd x G hG (by omega) hm
theorem one_nil1 (H:HasG C) (k t a b c d:Int) (hd:0≤d∧d≤255) (x:Bs) :
 OneR k t x (w422_K0 C ⟨[(4,.int .i64 1),(3,.ptr 0 0 0),(2,.ptr 1 0 0),(1,.ptr 2 0 0)],[(0,.cells 4 [[.int .u64 k,.int .u8 t,.str x,.ro 1 [] true]] true true),(1,.cells 4 [[.int .u64 0,.int .u8 0,.str [],.ro 1 [] true]] true true),(2,.cells 4 [[.int .u8 a,.int .u8 b,.int .u8 c,.int .u8 d]] true true)],3⟩):=by
 have h6:d.tdiv 8=d / 8:=Int.tdiv_eq_ediv_of_nonneg (by omega)
 have h5:(1+d / 8).tmod 3=(1+d / 8) % 3:=Int.tmod_eq_emod_of_nonneg (by omega)
 have hJ:(1+d / 8) % 3=0∨(1+d / 8) % 3=1∨(1+d / 8) % 3=2:=by omega
 simp only [w422_K0];rw [ck_unf w422_B0.eq_1]
 rcases hJ with hj | hj | hj
 · simp (disch:=omega) [wI64,wU8,h5,h6,hj]
   split
   · exact one_sl2 H k t a b c d hd x [[97]] (by simp) (by simp) (by decide)
   · exact one_nil2 H k t a b c d hd x
 · simp (disch:=omega) [wI64,wU8,h5,h6,hj]
   split
   · exact one_sl2 H k t a b c d hd x [[98,50]] (by simp) (by simp) (by decide)
   · exact one_nil2 H k t a b c d hd x
 · simp (disch:=omega) [wI64,wU8,h5,h6,hj]
   split
   · exact one_sl2 H k t a b c d hd x [[107,101,121]] (by simp) (by simp) (by decide)
   · exact one_nil2 H k t a b c d hd x
theorem one_nil0 (H:HasG C) (k t a b c d:Int) (hd:0≤d∧d≤255) (x:Bs) :
 OneR k t x (w422_K0 C ⟨[(4,.int .i64 0),(3,.ptr 0 0 0),(2,.ptr 1 0 0),(1,.ptr 2 0 0)],[(0,.cells 4 [[.int .u64 k,.int .u8 t,.str x,.ro 1 [] true]] true true),(1,.cells 4 [[.int .u64 0,.int .u8 0,.str [],.ro 1 [] true]] true true),(2,.cells 4 [[.int .u8 a,.int .u8 b,.int .u8 c,.int .u8 d]] true true)],3⟩):=by
 have h6:d.tdiv 8=d / 8:=Int.tdiv_eq_ediv_of_nonneg (by omega)
 have h5:(0+d / 8).tmod 3=(0+d / 8) % 3:=Int.tmod_eq_emod_of_nonneg (by omega)
 have hJ:(0+d / 8) % 3=0∨(0+d / 8) % 3=1∨(0+d / 8) % 3=2:=by omega
 simp only [w422_K0];rw [ck_unf w422_B0.eq_1]
 simp only [Int.zero_add] at h5 hJ
 rcases hJ with hj | hj | hj
 · simp (disch:=omega) [wI64,wU8,h5,h6,hj]
   split
   · exact one_sl1 H k t a b c d hd x [[97]] (by simp) (by simp) (by decide)
   · exact one_nil1 H k t a b c d hd x
 · simp (disch:=omega) [wI64,wU8,h5,h6,hj]
   split
   · exact one_sl1 H k t a b c d hd x [[98,50]] (by simp) (by simp) (by decide)
   · exact one_nil1 H k t a b c d hd x
 · simp (disch:=omega) [wI64,wU8,h5,h6,hj]
   split
   · exact one_sl1 H k t a b c d hd x [[107,101,121]] (by simp) (by simp) (by decide)
   · exact one_nil1 H k t a b c d hd x
structure Q4 where
 (a b c d:Int)
@[simp] def eQ (q:Q4):List AV:=[.int .u8 q.a,.int .u8 q.b,.int .u8 q.c,.int .u8 q.d]
structure QIn (q:Q4):Prop where
 a:0≤q.a∧q.a≤255
 b:0≤q.b∧q.b≤255
 c:0≤q.c∧q.c≤255
 d:0≤q.d∧q.d≤255
theorem item1_ok (H:HasG C) (q:Q4) (hq:QIn q):∃ i:It,FnW C 422 [.agg (eQ q)]=some (eIt i)∧Good i:=by
 obtain ⟨a,b,c,d⟩:=q
 obtain ⟨ha,hb,hc,hd⟩:=hq
 simp only at ha hb hc hd
 have h1:a.tmod 60=a % 60:=Int.tmod_eq_emod_of_nonneg (by omega)
 have h2:b.tmod 3=b % 3:=Int.tmod_eq_emod_of_nonneg (by omega)
 have h3:c.tmod 8=c % 8:=Int.tmod_eq_emod_of_nonneg (by omega)
 have hx:∀ x:Bs,isText x=true→∃ i:It,w422_K0 C ⟨[(4,.int .i64 0),(3,.ptr 0 0 0),(2,.ptr 1 0 0),(1,.ptr 2 0 0)],[(0,.cells 4 [[.int .u64 (1+a % 60),.int .u8 (b % 3),.str x,.ro 1 [] true]] true true),(1,.cells 4 [[.int .u64 0,.int .u8 0,.str [],.ro 1 [] true]] true true),(2,.cells 4 [[.int .u8 a,.int .u8 b,.int .u8 c,.int .u8 d]] true true)],3⟩=some (eIt i)∧Good i:=by
  intro x hx
  obtain ⟨m,e,h,r1,r2⟩:=one_nil0 H (1+a % 60) (b % 3) a b c d hd x
  exact ⟨_,h,⟨by simp only;omega,by simp only;omega,hx,r1,r2⟩⟩
 rw [fnW_eq H.f422 rfl]
 have hJ:c % 8=0∨c % 8=1∨c % 8=2∨c % 8=3∨c % 8=4∨c % 8=5∨c % 8=6∨c % 8=7:=by omega
 rcases hJ with hj | hj | hj | hj | hj | hj | hj | hj
 · obtain ⟨i,h,g⟩:=hx [] (by decide)
   refine ⟨i,?_,g⟩
   simp only [w422_K0] at h
   simp (disch:=omega) [w422,h1,h2,h3,hj,wI64,wU8,wU64,h]
 · obtain ⟨i,h,g⟩:=hx [97] (by decide)
   refine ⟨i,?_,g⟩
   simp only [w422_K0] at h
   simp (disch:=omega) [w422,h1,h2,h3,hj,wI64,wU8,wU64,h]
 · obtain ⟨i,h,g⟩:=hx [114,111,119] (by decide)
   refine ⟨i,?_,g⟩
   simp only [w422_K0] at h
   simp (disch:=omega) [w422,h1,h2,h3,hj,wI64,wU8,wU64,h]
 · obtain ⟨i,h,g⟩:=hx [116,119,111,32,119,111,114,100,115] (by decide)
   refine ⟨i,?_,g⟩
   simp only [w422_K0] at h
   simp (disch:=omega) [w422,h1,h2,h3,hj,wI64,wU8,wU64,h]
 · obtain ⟨i,h,g⟩:=hx [32,32] (by decide)
   refine ⟨i,?_,g⟩
   simp only [w422_K0] at h
   simp (disch:=omega) [w422,h1,h2,h3,hj,wI64,wU8,wU64,h]
 · obtain ⟨i,h,g⟩:=hx [126,33,45,44] (by decide)
   refine ⟨i,?_,g⟩
   simp only [w422_K0] at h
   simp (disch:=omega) [w422,h1,h2,h3,hj,wI64,wU8,wU64,h]
 · obtain ⟨i,h,g⟩:=hx [97,32,108,111,110,103,101,114,32,116,101,120,116,32,111,102,32,116,104,105,115,32,107,105,110,100] (by decide)
   refine ⟨i,?_,g⟩
   simp only [w422_K0] at h
   simp (disch:=omega) [w422,h1,h2,h3,hj,wI64,wU8,wU64,h]
 · obtain ⟨i,h,g⟩:=hx [57] (by decide)
   refine ⟨i,?_,g⟩
   simp only [w422_K0] at h
   simp (disch:=omega) [w422,h1,h2,h3,hj,wI64,wU8,wU64,h]
end Go.D
end
section
set_option linter.unusedSimpArgs false
set_option linter.unusedVariables false
namespace Go.D
open Go Go.Pav Go.Pw P
set_option maxRecDepth 10000
set_option maxHeartbeats 4000000
set_option linter.unusedSimpArgs false
set_option linter.unusedVariables false
attribute [-simp] List.getElem_cons_drop
variable {C:WProg}
theorem Good.it {i:It} (h:Good i):ItIn i:=⟨by have:=h.k;omega,by have:=h.t;omega,by have:=h.l;omega⟩
theorem Good.ok {i:It} (h:Good i):itOk 3 i=true:=by
 have h1:=h.k;have h2:=h.t;have h3:=h.x;have h4:=h.l;have h5:=h.m
 unfold itOk
 simp only [Bool.and_eq_true,decide_eq_true_eq]
 exact ⟨⟨⟨by omega,by omega⟩,h3⟩,h4,h5⟩
theorem fndI_no {k:Int}:∀ (l:List It) (i:Nat),fndI k i l < 0→∀ x ∈ l,x.k≠k
 | [],_,_=>by simp
 | e::r,i,h=>by
  rw [fndI] at h
  split at h
  · omega
  · rename_i c
    intro x hx
    rcases List.mem_cons.1 hx with rfl | hx
    · exact c
    · exact fndI_no r (i+1) h x hx
theorem items_loop (H:HasG C) (hone:∀ q:Q4,QIn q→∃ i:It,FnW C 422 [.agg (eQ q)]=some (eIt i)∧Good i) (l:List Q4) (e:Bool) (hq:∀ q ∈ l,QIn q):∀ n i,n+i=min l.length 12→∀ G:List It,G.length≤i→(∀ x ∈ G,Good x)→(G.map It.k).Nodup →
 ∃ R:List It,w270_K0 C ⟨[(4,.int .i64 i),(3,.sl 0 4 0 G.length G.length false),(1,.ptr 1 0 0)],[(0,.cells 4 (G.map cIt) true true),(1,.cells 1 [[.ro 4 (l.map eQ) e]] true true)],2⟩=some (.ro 4 (R.map cIt) false) ∧
  R.length≤12∧(∀ x ∈ R,Good x)∧(R.map It.k).Nodup:=by
 intro n
 induction n with
 | zero =>
  intro i hi G hG hg hn
  refine ⟨G,?_,by omega,hg,hn⟩
  simp only [w270_K0];rw [ck_unf w270_B0.eq_1]
  have h6:List.take G.length (List.map cIt G)=List.map cIt G:=List.take_of_length_le (by simp)
  by_cases h3:i < l.length
  · have h4:¬ (i:Int) < 12:=by omega
    simp [ck_unf w270_c0.eq_1,h3,h4,h6]
  · simp [ck_unf w270_c0.eq_1,h3,h6]
 | succ n ih =>
  intro i hi G hG hg hn
  have h1:i < l.length:=by omega
  have h2:(i:Int) < 12:=by omega
  obtain ⟨x,hx,gx⟩:=hone l[i] (hq _ (List.getElem_mem h1))
  have hf:=ifind_ok H.toHasL G false x.k (by omega)
  have h6:List.take G.length (List.map cIt G)=List.map cIt G:=List.take_of_length_le (by simp)
  have hfit:(G.length+1) * 57≤35184372088832:=by omega
  simp only [eQ] at hx
  by_cases c:fndI x.k 0 G < 0
  · have hno:=fndI_no G 0 c
    obtain ⟨R,this,r1,r2,r3⟩:=ih (i+1) (by omega) (G++[x]) (by simp;omega) (by
     intro y hy
     rcases List.mem_append.1 hy with q | q
     · exact hg y q
     · simp at q;rw [q];exact gx) (by
     rw [List.map_append,List.nodup_append]
     refine ⟨hn,by simp,?_⟩
     intro a ha b hb
     simp at hb
     obtain ⟨y,hy,rfl⟩:=List.mem_map.1 ha
     rw [hb];exact hno y hy)
    refine ⟨R,?_,r1,r2,r3⟩
    simp only [w270_K0] at this ⊢;rw [ck_unf w270_B0.eq_1]
    simp at this
    simp (disch:=omega) [h1,h2,hx,hf,h6,c,hfit,wI64,H.inl,inlB,H.pp,ppB,this]
  · obtain ⟨R,this,r1,r2,r3⟩:=ih (i+1) (by omega) G (by omega) hg hn
    refine ⟨R,?_,r1,r2,r3⟩
    simp only [w270_K0] at this ⊢;rw [ck_unf w270_B0.eq_1]
    simp at this
    simp (disch:=omega) [h1,h2,hx,hf,h6,c,wI64,H.inl,inlB,H.pp,ppB,this]
theorem items_ok (H:HasG C) (hone:∀ q:Q4,QIn q→∃ i:It,FnW C 422 [.agg (eQ q)]=some (eIt i)∧Good i) (l:List Q4) (e:Bool) (hq:∀ q ∈ l,QIn q) :
 ∃ R:List It,FnW C 270 [.agg [.ro 4 (l.map eQ) e]]=some (.ro 4 (R.map cIt) false)∧R.length≤12∧(∀ x ∈ R,Good x)∧(R.map It.k).Nodup:=by
 obtain ⟨R,h,r⟩:=items_loop H hone l e hq (min l.length 12) 0 (by simp) [] (by simp) (by simp) (by simp)
 refine ⟨R,?_,r⟩
 simp only [w270_K0] at h
 simp at h
 rw [fnW_eq H.f270 rfl]
 simp [w270,h]
def leafP (k:Int) (t:Bs):Pt:=⟨k,[],[],[],true,t,[],true⟩
def tmRow:Pt:=⟨1,[114,111,119],[],[⟨[110],3,[]⟩,⟨[116,101,120,116],1,[]⟩],true,[],[leafP 3 []],true⟩
def tmHead:Pt:=⟨1,[104,101,97,100],[104],[⟨[105,100],2,[]⟩],true,[],[leafP 2 [35],leafP 4 []],true⟩
def tmTags:Pt:=⟨1,[114,111,119],[],[],true,[],[⟨1,[98],[98,50],[],true,[],[leafP 3 []],true⟩,⟨5,[116,97,103],[],[⟨[111,102],2,[]⟩],true,[],[],true⟩],true⟩
def kindsOf (n:Int):List Kd:=[⟨tmRow,10+n % 7,false,n % 4⟩,⟨tmHead,6+n % 3,true,n / 4 % 3⟩,⟨tmTags,20,decide (n % 16=15),n / 8 % 3⟩]
theorem kinds_ok (H:HasG C) (n:Int) (hn:0≤n∧n≤255):FnW C 126 [.int .u8 n]=some (.ro 9 ((kindsOf n).map eKd) true):=by
 rw [fnW_eq H.f126 rfl]
 have h1:n.tmod 7=n % 7:=Int.tmod_eq_emod_of_nonneg (by omega)
 have h2:n.tmod 4=n % 4:=Int.tmod_eq_emod_of_nonneg (by omega)
 have h3:n.tmod 3=n % 3:=Int.tmod_eq_emod_of_nonneg (by omega)
 have h4:n.tdiv 4=n / 4:=Int.tdiv_eq_ediv_of_nonneg (by omega)
 have h5:n.tdiv 8=n / 8:=Int.tdiv_eq_ediv_of_nonneg (by omega)
 have h6:(n / 4).tmod 3=n / 4 % 3:=Int.tmod_eq_emod_of_nonneg (by omega)
 have h7:(n / 8).tmod 3=n / 8 % 3:=Int.tmod_eq_emod_of_nonneg (by omega)
 have h8:n.tmod 16=n % 16:=Int.tmod_eq_emod_of_nonneg (by omega)
 simp (disch:=omega) [w126,kindsOf,tmRow,tmHead,tmTags,leafP,h1,h2,h3,h4,h5,h6,h7,h8,wI64,wU8,Pt.c_eq]
 rfl
theorem fits_leaf (k:Int) (t:Bs):FitsAll (leafP k t):=.mk _ ⟨by simp [leafP],by simp [leafP],by simp [leafP]⟩ (by simp [leafP])
theorem fits_row:FitsAll tmRow:=.mk _ ⟨by simp [tmRow],by simp [tmRow],by simp [tmRow]⟩ (by simp only [tmRow,List.mem_cons,List.not_mem_nil,or_false];rintro m rfl;exact fits_leaf _ _)
theorem fits_head:FitsAll tmHead:=.mk _ ⟨by simp [tmHead],by simp [tmHead],by simp [tmHead]⟩ (by simp only [tmHead,List.mem_cons,List.not_mem_nil,or_false];rintro m (rfl | rfl) <;> exact fits_leaf _ _)
theorem fits_tags:FitsAll tmTags:=.mk _ ⟨by simp [tmTags],by simp [tmTags],by simp [tmTags]⟩ (by
 simp only [tmTags,List.mem_cons,List.not_mem_nil,or_false]
 rintro m (rfl | rfl)
 · exact .mk _ ⟨by simp,by simp,by simp⟩ (by simp only [List.mem_cons,List.not_mem_nil,or_false];rintro m rfl;exact fits_leaf _ _)
 · exact .mk _ ⟨by simp,by simp,by simp⟩ (by simp))
theorem ru_in (n:Int):RuIn (kindsOf n):=⟨by simp [kindsOf],by
 simp only [kindsOf,List.mem_cons,List.not_mem_nil,or_false]
 rintro k (rfl | rfl | rfl)
 · exact fits_row
 · exact fits_head
 · exact fits_tags⟩
theorem kd_base (n:Int) (hn:0≤n∧n≤255) (t:Int) (ht:0≤t∧t≤2):1≤(kdAt (kindsOf n) t).b∧(kdAt (kindsOf n) t).b≤30:=by
 have:t=0∨t=1∨t=2:=by omega
 rcases this with rfl | rfl | rfl <;> simp [kdAt,kindsOf] <;> omega
end Go.D
end
section
set_option linter.unusedSimpArgs false
set_option linter.unusedVariables false
namespace Go.D
open Go Go.Pav Go.Pw P
set_option maxRecDepth 10000
set_option maxHeartbeats 4000000
set_option linter.unusedSimpArgs false
set_option linter.unusedVariables false
attribute [-simp] List.getElem_cons_drop
variable {C:WProg}
structure GoodE (ks:List Kd) (e:En):Prop where
 i:Good e.i
 ok:itE ks 12 e.i false=0
 s:1≤e.s∧e.s≤40
 b:e.kn=true∨e.s=(kdAt ks e.i.t).b
structure KsIn (ks:List Kd):Prop where
 r:RuIn ks
 l:ks.length=3
 b:∀ t:Int,0≤t→t≤2→1≤(kdAt ks t).b∧(kdAt ks t).b≤30
theorem ks_in (n:Int) (hn:0≤n∧n≤255):KsIn (kindsOf n):=⟨ru_in n,rfl,fun t h1 h2=>kd_base n hn t ⟨h1,h2⟩⟩
theorem lof_sl (H:HasG C) (ks:List Kd) (hks:KsIn ks) (l:List It) (le:Bool) (hl:l.length≤12) (hg:∀ x ∈ l,Good x) (q:List Q4) (qe:Bool) (z:List Int) (ze:Bool) (hz:∀ s ∈ z,0≤s∧s≤255) (hzl:z.length < 9223372036854775808) (r:Int):∀ n i,n+i=l.length →
 ∀ G:List En,G≠[]→G.length≤i→(∀ x ∈ G,GoodE ks x)→(keysE G++(l.drop i).map It.k).Nodup →
 ∃ (R:List En) (f:Bool),w130_K0 C ⟨[(7,.int .i64 i),(6,.ptr 0 0 0),(5,.ro 4 (l.map cIt) le),(4,.ptr 2 0 0),(3,.ptr 3 0 0),(2,.ptr 4 0 0),(1,.ptr 5 0 0)],[(0,.cells 1 [[.sl 1 6 0 G.length G.length false]] true false),(1,.cells 6 (G.map eEn) true true),(2,.cells 2 [[.ro 9 (ks.map eKd) true,.int .i64 12]] true true),(3,.cells 1 [[.ro 6 [] true]] true true),(4,.cells 2 [[.ro 9 [] true,.int .i64 0]] true true),(5,.cells 3 [[.ro 4 (q.map eQ) qe,.ro 1 (z.map eU8) ze,.int .u8 r]] true true)],6⟩=some (.tup [aR ks true 12,aL R f])∧R.length≤12∧(∀ e ∈ R,GoodE ks e)∧(keysE R).Nodup:=by
 intro n
 induction n with
 | zero =>
  intro i hi G hne hG hge hn
  have h1:l.drop i=[]:=List.drop_eq_nil_of_le (by omega)
  have h3:¬ i < l.length:=by omega
  have h6:List.take G.length (List.map eEn G)=List.map eEn G:=List.take_of_length_le (by simp)
  refine ⟨G,false,?_,by omega,hge,by rw [h1] at hn;simpa using hn⟩
  simp only [w130_K0];rw [ck_unf w130_B0.eq_1]
  simp [ck_unf w130_c0.eq_1,h3,h6]
 | succ n ih =>
  intro i hi G hne hG hge hn
  have h1:i < l.length:=by omega
  have gx:=hg _ (List.getElem_mem h1)
  have hii:=ritem_ok H.toHasK ks true 12 l[i] gx.it hks.r false
  have hfr:=rfresh_ok H.toHasK ks true 12 l[i] gx.it (by have:=gx.t;have:=hks.l;omega)
  have hbase:=hks.b l[i].t gx.t.1 gx.t.2
  rw [drop_cons h1,List.map_cons] at hn
  have hfit:(G.length+1) * 73≤35184372088832:=by omega
  simp only [aR,eIt,Bool.false_eq_true,if_false] at hii
  simp only [aR,eIt,aE,eEn,fre] at hfr
  have hE0:0≤itE ks 12 l[i] false:=by unfold itE;repeat (first | omega | split)
  by_cases c1:itE ks 12 l[i] false=0
  · have step:∀ e:En,e.i=l[i]→GoodE ks e→∃ (R:List En) (f:Bool),w130_K0 C ⟨[(7,.int .i64 ((i:Int)+1)),(6,.ptr 0 0 0),(5,.ro 4 (l.map cIt) le),(4,.ptr 2 0 0),(3,.ptr 3 0 0),(2,.ptr 4 0 0),(1,.ptr 5 0 0)],[(0,.cells 1 [[.sl 1 6 0 (G.length+1) (G.length+1) false]] true false),(1,.cells 6 (G.map eEn++[eEn e]) true true),(2,.cells 2 [[.ro 9 (ks.map eKd) true,.int .i64 12]] true true),(3,.cells 1 [[.ro 6 [] true]] true true),(4,.cells 2 [[.ro 9 [] true,.int .i64 0]] true true),(5,.cells 3 [[.ro 4 (q.map eQ) qe,.ro 1 (z.map eU8) ze,.int .u8 r]] true true)],6⟩=some (.tup [aR ks true 12,aL R f])∧R.length≤12∧(∀ e ∈ R,GoodE ks e)∧(keysE R).Nodup:=by
     intro e he hge2
     have:=ih (i+1) (by omega) (G++[e]) (by simp) (by simp;omega) (by
      intro y hy
      rcases List.mem_append.1 hy with q | q
      · exact hge y q
      · simp at q;rw [q];exact hge2) (by simpa [keysE,he] using hn)
     simpa using this
    by_cases c2:G.length < z.length
    · by_cases c3:(0:Int) < z[G.length]
      · have hzz:=hz _ (List.getElem_mem c2)
        have hm:z[G.length].tmod 40=z[G.length] % 40:=Int.tmod_eq_emod_of_nonneg hzz.1
        have hm1:(0:Int)≤z[G.length] % 40:=Int.emod_nonneg _ (by omega)
        have hm2:z[G.length] % 40 < 40:=Int.emod_lt_of_pos _ (by omega)
        obtain ⟨R,f,this,hR⟩:=step ⟨l[i],1+z[G.length] % 40,true⟩ rfl ⟨gx,c1,by simp only;omega,.inl rfl⟩
        refine ⟨R,f,?_,hR⟩
        rw [c1] at hii
        generalize z[G.length] % 40=M at *
        simp only [w130_K0] at this ⊢;rw [ck_unf w130_B0.eq_1]
        simp at this
        simp (disch:=omega) [h1,c2,c3,hm,hii,hfr,hfit,wI64,wU8,H.inl,inlB,H.pp,ppB,this]
      · obtain ⟨R,f,this,hR⟩:=step (fre ks l[i]) rfl ⟨gx,c1,by unfold fre;simp only;omega,.inr rfl⟩
        refine ⟨R,f,?_,hR⟩
        rw [c1] at hii
        simp only [fre] at this
        simp only [w130_K0] at this ⊢;rw [ck_unf w130_B0.eq_1]
        simp at this
        simp (disch:=omega) [h1,c2,c3,hii,hfr,hfit,wI64,wU8,H.inl,inlB,H.pp,ppB,this]
    · obtain ⟨R,f,this,hR⟩:=step (fre ks l[i]) rfl ⟨gx,c1,by unfold fre;simp only;omega,.inr rfl⟩
      refine ⟨R,f,?_,hR⟩
      rw [c1] at hii
      simp only [fre] at this
      simp only [w130_K0] at this ⊢;rw [ck_unf w130_B0.eq_1]
      simp at this
      simp (disch:=omega) [h1,c2,hii,hfr,hfit,wI64,wU8,H.inl,inlB,H.pp,ppB,this]
  · have c1':0 < itE ks 12 l[i] false:=by omega
    obtain ⟨R,f,this,hR⟩:=ih (i+1) (by omega) G hne (by omega) hge (by
     refine List.Nodup.sublist ?_ hn;exact List.Sublist.append (List.Sublist.refl _) (List.sublist_cons_self _ _))
    refine ⟨R,f,?_,hR⟩
    generalize itE ks 12 l[i] false=E at *
    simp only [w130_K0] at this ⊢;rw [ck_unf w130_B0.eq_1]
    simp at this
    simp (disch:=omega) [h1,c1',hii,wI64,H.inl,inlB,H.pp,ppB,this]
theorem lof_nil (H:HasG C) (ks:List Kd) (hks:KsIn ks) (l:List It) (le:Bool) (hl:l.length≤12) (hg:∀ x ∈ l,Good x) (q:List Q4) (qe:Bool) (z:List Int) (ze:Bool) (hz:∀ s ∈ z,0≤s∧s≤255) (hzl:z.length < 9223372036854775808) (r:Int):∀ n i,n+i=l.length →
 (keysE []++(l.drop i).map It.k).Nodup →
 ∃ (R:List En) (f:Bool),w130_K0 C ⟨[(7,.int .i64 i),(6,.ptr 0 0 0),(5,.ro 4 (l.map cIt) le),(4,.ptr 1 0 0),(3,.ptr 2 0 0),(2,.ptr 3 0 0),(1,.ptr 4 0 0)],[(0,.cells 1 [[.ro 6 [] true]] true true),(1,.cells 2 [[.ro 9 (ks.map eKd) true,.int .i64 12]] true true),(2,.cells 1 [[.ro 6 [] true]] true true),(3,.cells 2 [[.ro 9 [] true,.int .i64 0]] true true),(4,.cells 3 [[.ro 4 (q.map eQ) qe,.ro 1 (z.map eU8) ze,.int .u8 r]] true true)],5⟩=some (.tup [aR ks true 12,aL R f])∧R.length≤12∧(∀ e ∈ R,GoodE ks e)∧(keysE R).Nodup:=by
 intro n
 induction n with
 | zero =>
  intro i hi  hn
  have h1:l.drop i=[]:=List.drop_eq_nil_of_le (by omega)
  have h3:¬ i < l.length:=by omega
  refine ⟨[],true,?_,by simp,by simp,by simp⟩
  simp only [w130_K0];rw [ck_unf w130_B0.eq_1]
  simp [ck_unf w130_c0.eq_1,h3]
 | succ n ih =>
  intro i hi  hn
  have h1:i < l.length:=by omega
  have gx:=hg _ (List.getElem_mem h1)
  have hii:=ritem_ok H.toHasK ks true 12 l[i] gx.it hks.r false
  have hfr:=rfresh_ok H.toHasK ks true 12 l[i] gx.it (by have:=gx.t;have:=hks.l;omega)
  have hbase:=hks.b l[i].t gx.t.1 gx.t.2
  rw [drop_cons h1,List.map_cons] at hn
  simp only [aR,eIt,Bool.false_eq_true,if_false] at hii
  simp only [aR,eIt,aE,eEn,fre] at hfr
  have hE0:0≤itE ks 12 l[i] false:=by unfold itE;repeat (first | omega | split)
  by_cases c1:itE ks 12 l[i] false=0
  · have step:∀ e:En,e.i=l[i]→GoodE ks e→∃ (R:List En) (f:Bool),w130_K0 C ⟨[(7,.int .i64 ((i:Int)+1)),(6,.ptr 0 0 0),(5,.ro 4 (l.map cIt) le),(4,.ptr 2 0 0),(3,.ptr 3 0 0),(2,.ptr 4 0 0),(1,.ptr 5 0 0)],[(0,.cells 1 [[.sl 1 6 0 1 1 false]] true false),(1,.cells 6 [eEn e] true true),(2,.cells 2 [[.ro 9 (ks.map eKd) true,.int .i64 12]] true true),(3,.cells 1 [[.ro 6 [] true]] true true),(4,.cells 2 [[.ro 9 [] true,.int .i64 0]] true true),(5,.cells 3 [[.ro 4 (q.map eQ) qe,.ro 1 (z.map eU8) ze,.int .u8 r]] true true)],6⟩=some (.tup [aR ks true 12,aL R f])∧R.length≤12∧(∀ e ∈ R,GoodE ks e)∧(keysE R).Nodup:=by
     intro e he hge2
     have:=lof_sl H ks hks l le hl hg q qe z ze hz hzl r n (i+1) (by omega) [e] (by simp) (by simp) (by simpa using hge2) (by simpa [keysE,he] using hn)
     simpa using this
    by_cases c2:0 < z.length
    · by_cases c3:(0:Int) < z[0]
      · have hzz:=hz _ (List.getElem_mem c2)
        have hm:z[0].tmod 40=z[0] % 40:=Int.tmod_eq_emod_of_nonneg hzz.1
        have hm1:(0:Int)≤z[0] % 40:=Int.emod_nonneg _ (by omega)
        have hm2:z[0] % 40 < 40:=Int.emod_lt_of_pos _ (by omega)
        obtain ⟨R,f,this,hR⟩:=step ⟨l[i],1+z[0] % 40,true⟩ rfl ⟨gx,c1,by simp only;omega,.inl rfl⟩
        refine ⟨R,f,?_,hR⟩
        rw [c1] at hii
        generalize z[0] % 40=M at *
        simp only [w130_K0] at this ⊢;rw [ck_unf w130_B0.eq_1]
        simp at this
        simp (disch:=omega) [h1,c2,c3,hm,hii,hfr,wI64,wU8,H.inl,inlB,H.pp,ppB,this]
      · obtain ⟨R,f,this,hR⟩:=step (fre ks l[i]) rfl ⟨gx,c1,by unfold fre;simp only;omega,.inr rfl⟩
        refine ⟨R,f,?_,hR⟩
        rw [c1] at hii
        simp only [fre] at this
        simp only [w130_K0] at this ⊢;rw [ck_unf w130_B0.eq_1]
        simp at this
        simp (disch:=omega) [h1,c2,c3,hii,hfr,wI64,wU8,H.inl,inlB,H.pp,ppB,this]
    · obtain ⟨R,f,this,hR⟩:=step (fre ks l[i]) rfl ⟨gx,c1,by unfold fre;simp only;omega,.inr rfl⟩
      refine ⟨R,f,?_,hR⟩
      rw [c1] at hii
      simp only [fre] at this
      simp only [w130_K0] at this ⊢;rw [ck_unf w130_B0.eq_1]
      simp at this
      simp (disch:=omega) [h1,c2,hii,hfr,wI64,wU8,H.inl,inlB,H.pp,ppB,this]
  · have c1':0 < itE ks 12 l[i] false:=by omega
    obtain ⟨R,f,this,hR⟩:=ih (i+1) (by omega) (by
     simp only [keysE,List.map_nil,List.nil_append] at hn ⊢;exact (List.nodup_cons.1 hn).2)
    refine ⟨R,f,?_,hR⟩
    generalize itE ks 12 l[i] false=E at *
    simp only [w130_K0] at this ⊢;rw [ck_unf w130_B0.eq_1]
    simp at this
    simp (disch:=omega) [h1,c1',hii,wI64,H.inl,inlB,H.pp,ppB,this]
theorem lof_ok (H:HasG C) (hone:∀ q:Q4,QIn q→∃ i:It,FnW C 422 [.agg (eQ q)]=some (eIt i)∧Good i) (q:List Q4) (qe:Bool) (hq:∀ x ∈ q,QIn x) (z:List Int) (ze:Bool) (hz:∀ s ∈ z,0≤s∧s≤255) (hzl:z.length < 9223372036854775808) (r:Int) (hr:0≤r∧r≤255) :
 ∃ (R:List En) (f:Bool),FnW C 130 [.agg [.ro 4 (q.map eQ) qe,.ro 1 (z.map eU8) ze,.int .u8 r]]=some (.tup [aR (kindsOf r) true 12,aL R f])∧R.length≤12∧(∀ e ∈ R,GoodE (kindsOf r) e)∧(keysE R).Nodup:=by
 obtain ⟨I,hI,l1,l2,l3⟩:=items_ok H hone q qe hq
 have hk:=kinds_ok H r hr
 obtain ⟨R,f,h,hR⟩:=lof_nil H (kindsOf r) (ks_in r hr) I false l1 l2 q qe z ze hz hzl r I.length 0 (by simp) (by simpa [keysE] using l3)
 refine ⟨R,f,?_,hR⟩
 rw [fnW_eq H.f130 rfl]
 generalize kindsOf r=ks at *
 simp only [w130_K0] at h
 simp at h
 simp [w130,hI,hk,h,H.inl,inlB,H.pp,ppB]
end Go.D
end
section
set_option linter.unusedSimpArgs false
set_option linter.unusedVariables false
namespace Go.D
open Go Go.Pav Go.Pw
theorem ty_marks {a:AV} (h:Ty (.slice [.str]) a):∃ (m:List Bs) (e:Bool),a=.ro 1 (m.map eS) e∧m.length≤9223372036854775807:=by
 obtain ⟨m,me,rfl,hl,h4⟩:=ty_slice h
 obtain ⟨ms,rfl,_⟩:=ty_map2 (g:=eS) (R:=fun _:Bs=>True) (fun l q=>by
  obtain ⟨q1,q2⟩:=q
  match l,q1 with
  | [v],_ =>
   obtain ⟨n,rfl,_⟩:=ty_str (q2 0 _ v rfl rfl)
   exact ⟨n,rfl,trivial⟩) m h4
 refine ⟨ms,me,rfl,?_⟩
 simp at hl;omega
end Go.D
end
section
set_option linter.unusedSimpArgs false
set_option linter.unusedVariables false
end
section
set_option linter.unusedSimpArgs false
set_option linter.unusedVariables false
namespace Go.D
open Go Go.Pav Go.Pw P
set_option linter.unusedSimpArgs false
set_option linter.unusedVariables false
def sm:List En→Int
 | []=>0
 | e::r=>e.s+sm r
def top (l:List En) (i:Nat):Int:=sm (l.take i)
theorem top_0 (l:List En):top l 0=0:=rfl
theorem sm_app:∀ (a b:List En),sm (a++b)=sm a+sm b
 | [],b=>by simp [sm]
 | e::r,b=>by simp only [List.cons_append,sm];rw [sm_app r b];omega
theorem top_succ {l:List En} {i:Nat} (h:i < l.length):top l (i+1)=top l i+l[i].s:=by
 unfold top
 rw [List.take_add_one,List.getElem?_eq_getElem h,sm_app]
 simp [sm]
theorem top_len (l:List En):top l l.length=sm l:=by unfold top;rw [List.take_length]
theorem top_ge {l:List En} {i:Nat} (h:l.length≤i):top l i=sm l:=by unfold top;rw [List.take_of_length_le h]
structure Szd (l:List En):Prop where
 n:l.length≤1024
 s:∀ x ∈ l,1≤x.s∧x.s≤2305843009213693952
 t:sm l≤4611686018427387904
theorem sm_nn:∀ (l:List En),(∀ x ∈ l,1≤x.s)→0≤sm l
 | [],_=>by simp [sm]
 | e::r,h=>by
  have h1:=h e (by simp)
  have h2:=sm_nn r fun x hx=>h x (by simp [hx])
  rw [sm];omega
theorem Szd.nn {l:List En} (h:Szd l):0≤sm l:=sm_nn l fun x hx=>(h.s x hx).1
theorem Szd.lt {l:List En} (h:Szd l) {i:Nat} (hi:i < l.length):top l i+1≤top l (i+1):=by
 rw [top_succ hi]
 have:=(h.s _ (List.getElem_mem hi)).1
 omega
theorem Szd.mono {l:List En} (h:Szd l) {i:Nat}:∀ {j:Nat},i≤j→j≤l.length→top l i+((j:Int) - i)≤top l j:=by
 intro j hij
 induction j with
 | zero => intro _; have : i = 0 := by omega
           subst this;simp
 | succ j ih =>
  intro hj
  by_cases c:i=j+1
  · subst c;omega
  · have h1:=ih (by omega) (by omega)
    have h2:=h.lt (i:=j) (by omega)
    omega
theorem Szd.rng {l:List En} (h:Szd l) (i:Nat):0≤top l i∧top l i≤sm l:=by
 by_cases c:i≤l.length
 · have h1:=h.mono (i:=0) (j:=i) (by omega) c
   have h2:=h.mono (i:=i) (j:=l.length) c (by omega)
   rw [top_0] at h1
   rw [top_len] at h2
   omega
 · rw [top_ge (by omega)];have:=h.nn;omega
theorem Szd.row {l:List En} (h:Szd l) {x:Int} (h0:0≤x) (h1:x < sm l):∃ p,p < l.length∧top l p≤x∧x < top l (p+1):=by
 have key:∀ n,n≤l.length→top l n≤x∨∃ p,p < n∧top l p≤x∧x < top l (p+1):=by
  intro n
  induction n with
  | zero=>intro _;left;rw [top_0];exact h0
  | succ n ih =>
   intro hn
   rcases ih (by omega) with q | ⟨p,q1,q2⟩
   · by_cases c:top l (n+1)≤x
     · exact .inl c
     · exact .inr ⟨n,by omega,q,by omega⟩
   · exact .inr ⟨p,by omega,q2⟩
 rcases key l.length (by omega) with q | ⟨p,q⟩
 · rw [top_len] at q;omega
 · exact ⟨p,q⟩
def mostS (l:List En) (v:Int):Int:=if sm l < v then 0 else sm l - v
structure Vp (l:List En) (o v:Int):Prop extends Szd l where
 v0:1≤v∧v≤2147483648
 s0:0≤o∧o≤mostS l v
theorem Vp.ends {l:List En} {s v:Int} (h:Vp l s v) (hl:0 < l.length):∃ p q:Nat,p < l.length∧q < l.length∧p≤q∧(top l p≤s∧s < top l (p+1))∧(top l q≤imin (s+v) (sm l) - 1∧imin (s+v) (sm l) - 1 < top l (q+1)):=by
 have h1:=h.v0
 have h2:=h.s0
 have h3:1≤sm l:=by
  have:=h.mono (i:=0) (j:=l.length) (by omega) (by omega)
  rw [top_0,top_len] at this;omega
 have h4:s < sm l:=by unfold mostS at h2;split at h2 <;> omega
 have h5:s+1≤imin (s+v) (sm l)∧imin (s+v) (sm l)≤sm l:=by unfold imin;split <;> omega
 obtain ⟨p,p1,p2,p3⟩:=h.row h2.1 h4
 obtain ⟨q,q1,q2,q3⟩:=h.row (x:=imin (s+v) (sm l) - 1) (by omega) (by omega)
 refine ⟨p,q,p1,q1,?_,⟨p2,p3⟩,q2,q3⟩
 by_cases c:p≤q
 · exact c
 · have:=h.mono (i:=q+1) (j:=p) (by omega) (by omega)
   omega
theorem Vp.seen {l:List En} {s v:Int} (h:Vp l s v) {p q:Nat} (hp:p < l.length) (hq:q < l.length) (h1:top l p≤s∧s < top l (p+1)) (h2:top l q≤imin (s+v) (sm l) - 1∧imin (s+v) (sm l) - 1 < top l (q+1)) {i:Nat} (hi:i < l.length) :
 (top l i < s+v∧s < top l (i+1))↔(p≤i∧i≤q):=by
 have e1:imin (s+v) (sm l)≤s+v:=by unfold imin;split <;> omega
 have hm:=h.rng (i+1)
 have hlt:=h.lt hi
 constructor
 · rintro ⟨a,b⟩
   constructor
   · by_cases c:p≤i
     · exact c
     · have:=h.mono (i:=i+1) (j:=p) (by omega) (by omega);omega
   · by_cases c:i≤q
     · exact c
     · have:=h.mono (i:=q+1) (j:=i) (by omega) (by omega)
       have e2:s+v≤top l i:=by
        unfold imin at h2;split at h2 <;> omega
       omega
 · rintro ⟨a,b⟩
   have m1:=h.mono (i:=i) (j:=q) b (by omega)
   have m2:=h.mono (i:=p+1) (j:=i+1) (by omega) (by omega)
   omega
end Go.D
end
section
set_option linter.unusedSimpArgs false
set_option linter.unusedVariables false
namespace Go.D
open Go Go.Pav Go.Pw P
set_option maxRecDepth 10000
set_option maxHeartbeats 4000000
set_option linter.unusedSimpArgs false
set_option linter.unusedVariables false
attribute [-simp] List.getElem_cons_drop
variable {C:WProg}
end Go.D
end
section
set_option linter.unusedSimpArgs false
set_option linter.unusedVariables false
namespace Go.D
open Go Go.Pav Go.Pw P
set_option maxRecDepth 10000
set_option maxHeartbeats 4000000
set_option linter.unusedSimpArgs false
set_option linter.unusedVariables false
attribute [-simp] List.getElem_cons_drop
variable {C:WProg}
end Go.D
end
section
set_option linter.unusedSimpArgs false
set_option linter.unusedVariables false
namespace Go.D
open Go Go.Pav Go.Pw P
set_option maxRecDepth 10000
set_option maxHeartbeats 4000000
set_option linter.unusedSimpArgs false
set_option linter.unusedVariables false
attribute [-simp] List.getElem_cons_drop
variable {C:WProg}
end Go.D
end
section
set_option linter.unusedSimpArgs false
set_option linter.unusedVariables false
namespace Go.D
open Go Go.Pav Go.Pw P
set_option maxRecDepth 10000
set_option maxHeartbeats 4000000
set_option linter.unusedSimpArgs false
set_option linter.unusedVariables false
attribute [-simp] List.getElem_cons_drop
variable {C:WProg}
def bdBad (v least over:Int):Prop:=v < 1∨2147483648 < v∨least < 1∨2305843009213693952 < least∨over < 0∨16 < over
instance (v least over:Int):Decidable (bdBad v least over):=by unfold bdBad;infer_instance
end Go.D
end
section
set_option linter.unusedSimpArgs false
set_option linter.unusedVariables false
namespace Go.D
open Go Go.Pav Go.Pw P
set_option maxRecDepth 10000
set_option maxHeartbeats 4000000
set_option linter.unusedSimpArgs false
set_option linter.unusedVariables false
attribute [-simp] List.getElem_cons_drop
variable {C:WProg}
end Go.D
end
section
set_option linter.unusedSimpArgs false
set_option linter.unusedVariables false
namespace Go.Proofs.YtmpenhhlkcehpaaGreat
open Go.ChangeShapes Go.WideShapes Go.ChangeAt Go.RowKit Go.Pav Go.Pw P Go.D
theorem has_:HasG prog:={ f557:=rfl,f556:=rfl,f511:=rfl,f510:=rfl,inl:=rfl,pp:=rfl,f594:=rfl,f586:=rfl,f550:=rfl,f505:=rfl,f408:=rfl,f424:=rfl,f512:=rfl,f558:=rfl,f559:=rfl,f563:=rfl,f520:=rfl,f442:=rfl,f441:=rfl,f513:=rfl,f425:=rfl,f240:=rfl,f423:=rfl,f271:=rfl,f422:=rfl,f270:=rfl,f126:=rfl,f130:=rfl }
theorem ty_four {a:AV} (h:Ty (.slice [.int .u8,.int .u8,.int .u8,.int .u8]) a):∃ (xs:List Q4) (e:Bool),a=.ro 4 (xs.map eQ) e∧∀ s ∈ xs,QIn s:=by
 obtain ⟨es,e,rfl,_,hx⟩:=ty_slice h
 obtain ⟨xs,rfl,hr⟩:=ty_map2 (g:=eQ) (R:=QIn) (fun l q=>by
  obtain ⟨q1,q2⟩:=q
  match l,q1 with
  | [u,v,w,x],_ =>
   obtain ⟨n1,rfl,h1⟩:=ty_u8 (q2 0 _ u rfl rfl)
   obtain ⟨n2,rfl,h2⟩:=ty_u8 (q2 1 _ v rfl rfl)
   obtain ⟨n3,rfl,h3⟩:=ty_u8 (q2 2 _ w rfl rfl)
   obtain ⟨n4,rfl,h4⟩:=ty_u8 (q2 3 _ x rfl rfl)
   exact ⟨⟨n1,n2,n3,n4⟩,rfl,h1,h2,h3,h4⟩) es hx
 exact ⟨xs,e,rfl,hr⟩
theorem ty_bytes2 {a:AV} (h:Ty (.slice [.int .u8]) a):∃ (xs:List Int) (e:Bool),a=.ro 1 (xs.map eU8) e∧(∀ x ∈ xs,0≤x∧x≤255)∧xs.length < 9223372036854775808:=by
 obtain ⟨es,e,rfl,hl,hx⟩:=ty_slice h
 obtain ⟨xs,rfl,hr⟩:=ty_map2 (g:=eU8) (R:=fun x:Int=>0≤x∧x≤255) (fun l q=>by
  obtain ⟨q1,q2⟩:=q
  match l,q1 with
  | [v],_ =>
   obtain ⟨n,rfl,h1⟩:=ty_u8 (q2 0 _ v rfl rfl)
   exact ⟨n,rfl,h1⟩) es hx
 exact ⟨xs,e,rfl,hr,by simpa using hl⟩
end Go.Proofs.YtmpenhhlkcehpaaGreat
end
section
set_option linter.unusedSimpArgs false
set_option linter.unusedVariables false
namespace Go.D
open Go Go.Pav Go.Pw P
set_option maxRecDepth 10000
set_option maxHeartbeats 4000000
set_option linter.unusedSimpArgs false
set_option linter.unusedVariables false
attribute [-simp] List.getElem_cons_drop
variable {C:WProg}
structure Ht where
 k:Int
 s:Int
def eHt (x:Ht):List AV:=[.int .u64 x.k,.int .i64 x.s]
def htAt (k:Int):List Ht→Nat→Int
 | [],_=>-1
 | x::r,i=>if x.k=k then i else htAt k r (i+1)
def htOf (ks:List Kd) (i:It) (l:List Ht):Int:=match l.find? (fun x=>decide (x.k=i.k)) with
 | some x=>x.s
 | none=>match ks[i.t.toNat]? with | some k=>k.b | none=>0
theorem htAt_find (k:Int):∀ (l:List Ht) (i:Nat),(l.find? (fun x=>decide (x.k=k))=none∧htAt k l i=-1)∨∃ (j:Nat) (h:j < l.length),htAt k l i=((i+j:Nat):Int)∧l.find? (fun x=>decide (x.k=k))=some l[j]:=by
 intro l
 induction l with
 | nil=>intro i;exact .inl ⟨rfl,rfl⟩
 | cons x r ih =>
  intro i
  rw [htAt,List.find?_cons]
  by_cases c:x.k=k
  · exact .inr ⟨0,by simp,by simp [c]⟩
  · simp only [c,decide_false,if_false]
    rcases ih (i+1) with ⟨h,h'⟩ | ⟨j,h1,h2,h3⟩
    · exact .inl ⟨h,h'⟩
    · exact .inr ⟨j+1,by simpa using h1,by rw [h2];congr 1;omega,by simpa using h3⟩
structure HasMs (C:WProg):Prop extends HasG C where
 f351:C.fns.get 351=some w351
 f465:C.fns.get 465=some w465
 f466:C.fns.get 466=some w466
 f467:C.fns.get 467=some w467
 f616:C.fns.get 616=some w616
theorem isht_ok (H:HasMs C) (x:Ht) (i:It):FnW C 467 [.agg (eHt x),.rop (cIt i)]=some (.bool (decide (x.k=i.k))):=by
 rw [fnW_eq H.f467 rfl]
 by_cases c:x.k=i.k
 · simp (disch:=omega) [w467,eHt,c,H.inl,inlB,H.pp,ppB]
 · simp (disch:=omega) [w467,eHt,c,H.inl,inlB,H.pp,ppB]
theorem htx_loop (H:HasMs C) (l:List Ht) (e:Bool) (hl:l.length≤1000000) (it:It):∀ n i,n+i=l.length →
 w466_K0 C ⟨[(8,.int .i64 i),(7,.int .i64 l.length),(1,.fn 467 [.rop (cIt it)]),(0,.ro 2 (l.map eHt) e)],[],0⟩=some (.int .i64 (htAt it.k (l.drop i) i)):=by
 intro n
 induction n with
 | zero =>
  intro i hi
  have h3:¬ i < l.length:=by omega
  have h1:l.drop i=[]:=List.drop_eq_nil_of_le (by omega)
  rw [h1,htAt]
  simp only [w466_K0];rw [ck_unf w466_B0.eq_1]
  simp (disch:=omega) [ck_unf w466_c0.eq_1,h3]
 | succ n ih =>
  intro i hii
  have h1:i < l.length:=by omega
  have hk:=isht_ok H l[i] it
  simp only [eHt,cIt] at hk
  rw [drop_cons h1,htAt]
  by_cases c:l[i].k=it.k
  · rw [if_pos c]
    rw [decide_eq_true c] at hk
    simp only [w466_K0];rw [ck_unf w466_B0.eq_1]
    simp (disch:=omega) [h1,hk,eHt,inlB,ppB,wI64,H.inl,H.pp]
  · rw [if_neg c]
    rw [decide_eq_false c] at hk
    have this:=ih (i+1) (by omega)
    generalize htAt it.k (l.drop (i+1)) (i+1)=R at *
    simp only [w466_K0] at this ⊢;rw [ck_unf w466_B0.eq_1]
    simp at this
    simp (disch:=omega) [h1,hk,eHt,inlB,ppB,wI64,H.inl,H.pp,this]
theorem htx_ok (H:HasMs C) (l:List Ht) (e:Bool) (hl:l.length≤1000000) (it:It) :
 FnW C 466 [.ro 2 (l.map eHt) e,.fn 467 [.rop (cIt it)]]=some (.int .i64 (htAt it.k l 0)):=by
 have k:=htx_loop H l e hl it l.length 0 (by simp)
 rw [List.drop_zero] at k
 generalize htAt it.k l 0=R at *
 rw [fnW_eq H.f466 rfl]
 simp only [w466_K0] at k
 try simp at k
 simp (disch:=omega) [w466,k,H.inl,inlB,H.pp,ppB]
abbrev aF (ks:List Kd) (ke:Bool) (a b c d:Int):AV:=.agg [.ro 9 (ks.map eKd) ke,.int .i64 a,.int .i64 b,.int .i64 c,.int .i64 d]
theorem meas_ok (H:HasMs C) (ks:List Kd) (ke:Bool) (a b c d:Int) (it:It) (ht:0≤it.t∧it.t≤255) (hk:ks.length≤1000) (l:List Ht) (e:Bool) (hl:l.length≤1000000) :
 FnW C 351 [aF ks ke a b c d,eIt it,.ro 2 (l.map eHt) e]=some (.int .i64 (htOf ks it l)):=by
 have h1:=htx_ok H l e hl it
 rw [fnW_eq H.f351 rfl]
 obtain ⟨t,ht⟩:∃ t:Nat,it.t=t:=⟨it.t.toNat,by omega⟩
 simp only [cIt,ht] at h1
 unfold htOf
 rcases htAt_find it.k l 0 with ⟨h2,h3⟩ | ⟨j,hj,h2,h3⟩
 · rw [h3] at h1
   rw [h2]
   rw [ht,Int.toNat_natCast]
   by_cases c:t < ks.length
   · rw [List.getElem?_eq_getElem c]
     simp (disch:=omega) [w351,h1,ht,c,wI64,H.inl,inlB,H.pp,ppB]
   · rw [List.getElem?_eq_none (by omega)]
     simp (disch:=omega) [w351,h1,ht,c,wI64,H.inl,inlB,H.pp,ppB]
 · rw [h2] at h1
   rw [h3]
   have h4:(0:Int)≤j:=by omega
   rw [Nat.zero_add] at h1
   simp (disch:=omega) [w351,h1,hj,h4,ht,eHt,wI64,H.inl,inlB,H.pp,ppB]
theorem rmeas_loop (H:HasMs C) (ks:List Kd) (ke:Bool) (a b c d:Int) (it:It) (ht:0≤it.t∧it.t≤255) (hk:ks.length≤1000) (l:List Ht) (e:Bool) (hl:l.length≤1000000):∀ n i,n+i=l.length →
 w465_K0 C ⟨[(7,.int .i64 i),(4,.ptr 0 0 0),(3,.ptr 1 0 0),(2,.ro 2 (l.map eHt) e)],[(0,.cells 4 [cIt it] true true),(1,.cells 5 [[.ro 9 (ks.map eKd) ke,.int .i64 a,.int .i64 b,.int .i64 c,.int .i64 d]] true true)],2⟩=some (.int .i64 (htOf ks it (l.drop i))):=by
 intro n
 induction n with
 | zero =>
  intro i hi
  have h3:¬ i < l.length:=by omega
  have h1:l.drop i=[]:=List.drop_eq_nil_of_le (by omega)
  rw [h1,htOf,List.find?_nil]
  obtain ⟨t,ht⟩:∃ t:Nat,it.t=t:=⟨it.t.toNat,by omega⟩
  rw [ht,Int.toNat_natCast]
  simp only [w465_K0];rw [ck_unf w465_B0.eq_1]
  by_cases c:t < ks.length
  · rw [List.getElem?_eq_getElem c]
    simp (disch:=omega) [ck_unf w465_c0.eq_1,h3,ht,c,wI64]
  · rw [List.getElem?_eq_none (by omega)]
    simp (disch:=omega) [ck_unf w465_c0.eq_1,h3,ht,c,wI64]
 | succ n ih =>
  intro i hii
  have h1:i < l.length:=by omega
  rw [drop_cons h1,htOf,List.find?_cons]
  by_cases c:l[i].k=it.k
  · simp only [c,decide_true]
    simp only [w465_K0];rw [ck_unf w465_B0.eq_1]
    simp (disch:=omega) [h1,c,eHt,inlB,ppB,wI64,H.inl,H.pp]
  · simp only [c,decide_false]
    have this:=ih (i+1) (by omega)
    rw [htOf] at this
    generalize (match (l.drop (i+1)).find? (fun x=>decide (x.k=it.k)) with
     | some x=>x.s
     | none=>match ks[it.t.toNat]? with | some k=>k.b | none=>0)=R at *
    simp only [w465_K0] at this ⊢;rw [ck_unf w465_B0.eq_1]
    simp at this
    simp (disch:=omega) [h1,c,eHt,inlB,ppB,wI64,H.inl,H.pp,this]
theorem rmeas_ok (H:HasMs C) (ks:List Kd) (ke:Bool) (a b c d:Int) (it:It) (ht:0≤it.t∧it.t≤255) (hk:ks.length≤1000) (l:List Ht) (e:Bool) (hl:l.length≤1000000) :
 FnW C 465 [aF ks ke a b c d,eIt it,.ro 2 (l.map eHt) e]=some (.int .i64 (htOf ks it l)):=by
 have k:=rmeas_loop H ks ke a b c d it ht hk l e hl l.length 0 (by simp)
 rw [List.drop_zero] at k
 generalize htOf ks it l=R at *
 rw [fnW_eq H.f465 rfl]
 simp only [w465_K0] at k
 try simp at k
 simp (disch:=omega) [w465,k,H.inl,inlB,H.pp,ppB]
theorem smlaw_ok (H:HasMs C) (hone:∀ q:Q4,QIn q→∃ i:It,FnW C 422 [.agg (eQ q)]=some (eIt i)∧Good i) (hlives:FnW C 178 []=some (.bool true)) (q:List Q4) (qe:Bool) (hq:∀ x ∈ q,QIn x) (z:List Int) (ze:Bool) (hz:∀ s ∈ z,0≤s∧s≤255) (hzl:z.length < 9223372036854775808) (r:Int) (hr:0≤r∧r≤255)
 (it:It) (ht:0≤it.t∧it.t≤255) (l:List Ht) (e:Bool):FnW C 616 [.agg [.ro 4 (q.map eQ) qe,.ro 1 (z.map eU8) ze,.int .u8 r],eIt it,.ro 2 (l.map eHt) e]=some (.bool true):=by
 rw [fnW_eq H.f616 rfl]
 by_cases c:(40:Int) < l.length
 · simp (disch:=omega) [w616,c,hlives,wI64,H.inl,inlB,H.pp,ppB]
 · obtain ⟨R,f,hL,_⟩:=lof_ok H.toHasG hone q qe hq z ze hz hzl r hr
   have hkl:(kindsOf r).length≤1000:=by simp [kindsOf]
   have h1:=meas_ok H (kindsOf r) true 12 0 0 0 it ht hkl l e (by omega)
   have h2:=rmeas_ok H (kindsOf r) true 12 0 0 0 it ht hkl l e (by omega)
   have h3:FnW C 351 [aF [] true 0 0 0 0,eIt it,.ro 2 [] true]=some (.int .i64 0):=by
    have h:=meas_ok H [] true 0 0 0 0 it ht (by simp) [] true (by simp)
    have hh:htOf [] it []=0:=by simp [htOf]
    rw [hh] at h
    exact h
   generalize htOf (kindsOf r) it l=R' at *
   generalize kindsOf r=ks at *
   simp only [eIt,aF,List.map_nil] at h3
   simp (disch:=omega) [w616,c,hL,h1,h2,h3,hlives,wI64,H.inl,inlB,H.pp,ppB]
end Go.D
end
