/- Part of the theory that the claims of this work use: D28, D29, D32, D34, D35, D36, GTy, V27, E01, E02, E03, E04, E06, E08, G01, E12, Q01, Q02, PwNest, PwNest2, Q03, Q04, Q05. No conditions of its own. -/
import Derived.Test.YtfkdbfgdncamdaaGreatT5
set_option linter.unusedVariables false
set_option linter.unusedSimpArgs false
set_option maxHeartbeats 4000000
set_option maxRecDepth 10000
section
namespace Go.D
open Go Go.Pav Go.Pw P
attribute [-simp] List.getElem_cons_drop
variable {C:WProg}
structure HasO (C:WProg):Prop extends HasK C
theorem rfresh_ok (H:HasK C) (ks:List Kd) (ke:Bool) (cap:Int) (x:It) (hx:ItIn x) (ht:x.t < ks.length) :
 FnW C 240 [aR ks ke cap,eIt x]=some (aE (fre ks x)):=by
 obtain ⟨t,hT⟩:∃ t:Nat,x.t=t:=⟨x.t.toNat,by have:=hx.t;omega⟩
 have h1:t < ks.length:=by omega
 rw [fnW_eq H.f240 rfl]
 unfold fre
 rw [hT,kdAt_get h1]
 simp (disch:=omega) [w240,hT,h1]
structure HasQ (C:WProg):Prop extends HasO C
structure HasG (C:WProg):Prop extends HasQ C where
 f422:C.fns.get 422=some w422
 f270:C.fns.get 270=some w270
 f126:C.fns.get 126=some w126
 f130:C.fns.get 130=some w130
structure Good (i:It):Prop where
 k:1≤i.k∧i.k≤60
 t:0≤i.t∧i.t≤2
 x:isText i.x=true
 l:i.m.length≤8
 m:i.m.all isName=true
def OneR (k t:Int) (x:Bs) (o:Option AV):Prop:=∃ (m:List Bs) (e:Bool),o=some (eIt ⟨k,t,x,m,e⟩)∧m.length≤8∧m.all isName=true
theorem one_sl3 (H:HasG C) (k t a b c d:Int) (hd:0≤d∧d≤255) (x:Bs) (G:List Bs) (hG:G≠[]) (hl:G.length≤3) (hm:G.all isName=true) :
 OneR k t x (w422_K0 C ⟨[(4,.int .i64 3),(3,.ptr 0 0 0),(2,.ptr 2 0 0),(1,.ptr 3 0 0)],[(0,.cells 4 [[.int .u64 k,.int .u8 t,.str x,.sl 1 1 0 G.length G.length false]] true false),(1,.cells 1 (G.map eS) true true),(2,.cells 4 [[.int .u64 0,.int .u8 0,.str [],.ro 1 [] true]] true true),(3,.cells 4 [[.int .u8 a,.int .u8 b,.int .u8 c,.int .u8 d]] true true)],4⟩):=by
 have hfit:(G.length+1) * 17≤35184372088832:=by omega
 have hfit2:(G.length+2) * 17≤35184372088832:=by omega
 have h4:List.take G.length (List.map eS G)=List.map eS G:=List.take_of_length_le (by simp)
 by_cases c1:240≤d
 · refine ⟨G++[[97],[97]],false,?_,by simp;omega,by simp only [List.all_append,hm];decide⟩
   have h5:List.take (G.length+2) (List.map eS G++[[.str [97]],[.str [97]]])=List.map eS G++[[.str [97]],[.str [97]]]:=List.take_of_length_le (by simp)
   simp only [w422_K0];rw [ck_unf w422_B0.eq_1]
   simp (disch:=omega) [ck_unf w422_c0.eq_1,c1,h4,h5,hfit2]
 · refine ⟨G,false,?_,by omega,hm⟩
   simp only [w422_K0];rw [ck_unf w422_B0.eq_1]
   simp (disch:=omega) [ck_unf w422_c0.eq_1,c1,h4]
theorem one_nil3 (H:HasG C) (k t a b c d:Int) (hd:0≤d∧d≤255) (x:Bs) :
 OneR k t x (w422_K0 C ⟨[(4,.int .i64 3),(3,.ptr 0 0 0),(2,.ptr 1 0 0),(1,.ptr 2 0 0)],[(0,.cells 4 [[.int .u64 k,.int .u8 t,.str x,.ro 1 [] true]] true true),(1,.cells 4 [[.int .u64 0,.int .u8 0,.str [],.ro 1 [] true]] true true),(2,.cells 4 [[.int .u8 a,.int .u8 b,.int .u8 c,.int .u8 d]] true true)],3⟩):=by
 by_cases c1:240≤d
 · refine ⟨[[97],[97]],false,?_,by simp,by decide⟩
   simp only [w422_K0];rw [ck_unf w422_B0.eq_1]
   simp (disch:=omega) [ck_unf w422_c0.eq_1,c1]
 · refine ⟨[],true,?_,by simp,rfl⟩
   simp only [w422_K0];rw [ck_unf w422_B0.eq_1]
   simp (disch:=omega) [ck_unf w422_c0.eq_1,c1]
theorem one_sl2 (H:HasG C) (k t a b c d:Int) (hd:0≤d∧d≤255) (x:Bs) (G:List Bs) (hG:G≠[]) (hl:G.length≤2) (hm:G.all isName=true) :
 OneR k t x (w422_K0 C ⟨[(4,.int .i64 2),(3,.ptr 0 0 0),(2,.ptr 2 0 0),(1,.ptr 3 0 0)],[(0,.cells 4 [[.int .u64 k,.int .u8 t,.str x,.sl 1 1 0 G.length G.length false]] true false),(1,.cells 1 (G.map eS) true true),(2,.cells 4 [[.int .u64 0,.int .u8 0,.str [],.ro 1 [] true]] true true),(3,.cells 4 [[.int .u8 a,.int .u8 b,.int .u8 c,.int .u8 d]] true true)],4⟩):=by
 have hfit:(G.length+1) * 17≤35184372088832:=by omega
 have hfit2:(G.length+2) * 17≤35184372088832:=by omega
 have h4:List.take G.length (List.map eS G)=List.map eS G:=List.take_of_length_le (by simp)
 have h6:d.tdiv 8=d / 8:=Int.tdiv_eq_ediv_of_nonneg (by omega)
 have h5:(2+d / 8).tmod 3=(2+d / 8) % 3:=Int.tmod_eq_emod_of_nonneg (by omega)
 have hJ:(2+d / 8) % 3=0∨(2+d / 8) % 3=1∨(2+d / 8) % 3=2:=by omega
 simp only [w422_K0];rw [ck_unf w422_B0.eq_1]
 rcases hJ with hj | hj | hj
 · simp (disch:=omega) [wI64,wU8,h5,h6,hj,h4,hfit]
   split
   · have h:=one_sl3 H k t a b c d hd x (G++[[97]]) (by simp) (by simp;omega) (by simp only [List.all_append,hm];decide)
     simp only [w422_K0] at h
     simpa using h
   · exact one_sl3 H k t a b c d hd x G hG (by omega) hm
 · simp (disch:=omega) [wI64,wU8,h5,h6,hj,h4,hfit]
   split
   · have h:=one_sl3 H k t a b c d hd x (G++[[98,50]]) (by simp) (by simp;omega) (by simp only [List.all_append,hm];decide)
     simp only [w422_K0] at h
     simpa using h
   · exact one_sl3 H k t a b c d hd x G hG (by omega) hm
 · simp (disch:=omega) [wI64,wU8,h5,h6,hj,h4,hfit]
   split
   · have h:=one_sl3 H k t a b c d hd x (G++[[107,101,121]]) (by simp) (by simp;omega) (by simp only [List.all_append,hm];decide)
     simp only [w422_K0] at h
     simpa using h
   · exact one_sl3 H k t a b c d hd x G hG (by omega) hm
theorem one_nil2 (H:HasG C) (k t a b c d:Int) (hd:0≤d∧d≤255) (x:Bs) :
 OneR k t x (w422_K0 C ⟨[(4,.int .i64 2),(3,.ptr 0 0 0),(2,.ptr 1 0 0),(1,.ptr 2 0 0)],[(0,.cells 4 [[.int .u64 k,.int .u8 t,.str x,.ro 1 [] true]] true true),(1,.cells 4 [[.int .u64 0,.int .u8 0,.str [],.ro 1 [] true]] true true),(2,.cells 4 [[.int .u8 a,.int .u8 b,.int .u8 c,.int .u8 d]] true true)],3⟩):=by
 have h6:d.tdiv 8=d / 8:=Int.tdiv_eq_ediv_of_nonneg (by omega)
 have h5:(2+d / 8).tmod 3=(2+d / 8) % 3:=Int.tmod_eq_emod_of_nonneg (by omega)
 have hJ:(2+d / 8) % 3=0∨(2+d / 8) % 3=1∨(2+d / 8) % 3=2:=by omega
 simp only [w422_K0];rw [ck_unf w422_B0.eq_1]
 rcases hJ with hj | hj | hj
 · simp (disch:=omega) [wI64,wU8,h5,h6,hj]
   split
   · exact one_sl3 H k t a b c d hd x [[97]] (by simp) (by simp) (by decide)
   · exact one_nil3 H k t a b c d hd x
 · simp (disch:=omega) [wI64,wU8,h5,h6,hj]
   split
   · exact one_sl3 H k t a b c d hd x [[98,50]] (by simp) (by simp) (by decide)
   · exact one_nil3 H k t a b c d hd x
 · simp (disch:=omega) [wI64,wU8,h5,h6,hj]
   split
   · exact one_sl3 H k t a b c d hd x [[107,101,121]] (by simp) (by simp) (by decide)
   · exact one_nil3 H k t a b c d hd x
theorem one_sl1 (H:HasG C) (k t a b c d:Int) (hd:0≤d∧d≤255) (x:Bs) (G:List Bs) (hG:G≠[]) (hl:G.length≤1) (hm:G.all isName=true) :
 OneR k t x (w422_K0 C ⟨[(4,.int .i64 1),(3,.ptr 0 0 0),(2,.ptr 2 0 0),(1,.ptr 3 0 0)],[(0,.cells 4 [[.int .u64 k,.int .u8 t,.str x,.sl 1 1 0 G.length G.length false]] true false),(1,.cells 1 (G.map eS) true true),(2,.cells 4 [[.int .u64 0,.int .u8 0,.str [],.ro 1 [] true]] true true),(3,.cells 4 [[.int .u8 a,.int .u8 b,.int .u8 c,.int .u8 d]] true true)],4⟩):=by
 have hfit:(G.length+1) * 17≤35184372088832:=by omega
 have hfit2:(G.length+2) * 17≤35184372088832:=by omega
 have h4:List.take G.length (List.map eS G)=List.map eS G:=List.take_of_length_le (by simp)
 have h6:d.tdiv 8=d / 8:=Int.tdiv_eq_ediv_of_nonneg (by omega)
 have h5:(1+d / 8).tmod 3=(1+d / 8) % 3:=Int.tmod_eq_emod_of_nonneg (by omega)
 have hJ:(1+d / 8) % 3=0∨(1+d / 8) % 3=1∨(1+d / 8) % 3=2:=by omega
 simp only [w422_K0];rw [ck_unf w422_B0.eq_1]
 rcases hJ with hj | hj | hj
 · simp (disch:=omega) [wI64,wU8,h5,h6,hj,h4,hfit]
   split
   · have h:=one_sl2 H k t a b c d hd x (G++[[97]]) (by simp) (by simp;omega) (by simp only [List.all_append,hm];decide)
     simp only [w422_K0] at h
     simpa using h
   · exact one_sl2 H k t a b c d hd x G hG (by omega) hm
 · simp (disch:=omega) [wI64,wU8,h5,h6,hj,h4,hfit]
   split
   · have h:=one_sl2 H k t a b c d hd x (G++[[98,50]]) (by simp) (by simp;omega) (by simp only [List.all_append,hm];decide)
     simp only [w422_K0] at h
     simpa using h
   · exact one_sl2 H k t a b c d hd x G hG (by omega) hm
 · simp (disch:=omega) [wI64,wU8,h5,h6,hj,h4,hfit]
   split
   · have h:=one_sl2 H k t a b c d hd x (G++[[107,101,121]]) (by simp) (by simp;omega) (by simp only [List.all_append,hm];decide)
     simp only [w422_K0] at h
     simpa using h
   · exact one_sl2 H k t a b c d hd x G hG (by omega) hm
theorem one_nil1 (H:HasG C) (k t a b c d:Int) (hd:0≤d∧d≤255) (x:Bs) :
 OneR k t x (w422_K0 C ⟨[(4,.int .i64 1),(3,.ptr 0 0 0),(2,.ptr 1 0 0),(1,.ptr 2 0 0)],[(0,.cells 4 [[.int .u64 k,.int .u8 t,.str x,.ro 1 [] true]] true true),(1,.cells 4 [[.int .u64 0,.int .u8 0,.str [],.ro 1 [] true]] true true),(2,.cells 4 [[.int .u8 a,.int .u8 b,.int .u8 c,.int .u8 d]] true true)],3⟩):=by
 have h6:d.tdiv 8=d / 8:=Int.tdiv_eq_ediv_of_nonneg (by omega)
 have h5:(1+d / 8).tmod 3=(1+d / 8) % 3:=Int.tmod_eq_emod_of_nonneg (by omega)
 have hJ:(1+d / 8) % 3=0∨(1+d / 8) % 3=1∨(1+d / 8) % 3=2:=by omega
 simp only [w422_K0];rw [ck_unf w422_B0.eq_1]
 rcases hJ with hj | hj | hj
 · simp (disch:=omega) [wI64,wU8,h5,h6,hj]
   split
   · exact one_sl2 H k t a b c d hd x [[97]] (by simp) (by simp) (by decide)
   · exact one_nil2 H k t a b c d hd x
 · simp (disch:=omega) [wI64,wU8,h5,h6,hj]
   split
   · exact one_sl2 H k t a b c d hd x [[98,50]] (by simp) (by simp) (by decide)
   · exact one_nil2 H k t a b c d hd x
 · simp (disch:=omega) [wI64,wU8,h5,h6,hj]
   split
   · exact one_sl2 H k t a b c d hd x [[107,101,121]] (by simp) (by simp) (by decide)
   · exact one_nil2 H k t a b c d hd x
theorem one_nil0 (H:HasG C) (k t a b c d:Int) (hd:0≤d∧d≤255) (x:Bs) :
 OneR k t x (w422_K0 C ⟨[(4,.int .i64 0),(3,.ptr 0 0 0),(2,.ptr 1 0 0),(1,.ptr 2 0 0)],[(0,.cells 4 [[.int .u64 k,.int .u8 t,.str x,.ro 1 [] true]] true true),(1,.cells 4 [[.int .u64 0,.int .u8 0,.str [],.ro 1 [] true]] true true),(2,.cells 4 [[.int .u8 a,.int .u8 b,.int .u8 c,.int .u8 d]] true true)],3⟩):=by
 have h6:d.tdiv 8=d / 8:=Int.tdiv_eq_ediv_of_nonneg (by omega)
 have h5:(0+d / 8).tmod 3=(0+d / 8) % 3:=Int.tmod_eq_emod_of_nonneg (by omega)
 have hJ:(0+d / 8) % 3=0∨(0+d / 8) % 3=1∨(0+d / 8) % 3=2:=by omega
 simp only [w422_K0];rw [ck_unf w422_B0.eq_1]
 simp only [Int.zero_add] at h5 hJ
 rcases hJ with hj | hj | hj
 · simp (disch:=omega) [wI64,wU8,h5,h6,hj]
   split
   · exact one_sl1 H k t a b c d hd x [[97]] (by simp) (by simp) (by decide)
   · exact one_nil1 H k t a b c d hd x
 · simp (disch:=omega) [wI64,wU8,h5,h6,hj]
   split
   · exact one_sl1 H k t a b c d hd x [[98,50]] (by simp) (by simp) (by decide)
   · exact one_nil1 H k t a b c d hd x
 · simp (disch:=omega) [wI64,wU8,h5,h6,hj]
   split
   · exact one_sl1 H k t a b c d hd x [[107,101,121]] (by simp) (by simp) (by decide)
   · exact one_nil1 H k t a b c d hd x
structure Q4 where
 (a b c d:Int)
@[simp] def eQ (q:Q4):List AV:=[.int .u8 q.a,.int .u8 q.b,.int .u8 q.c,.int .u8 q.d]
structure QIn (q:Q4):Prop where
 a:0≤q.a∧q.a≤255
 b:0≤q.b∧q.b≤255
 c:0≤q.c∧q.c≤255
 d:0≤q.d∧q.d≤255
theorem item1_ok (H:HasG C) (q:Q4) (hq:QIn q):∃ i:It,FnW C 422 [.agg (eQ q)]=some (eIt i)∧Good i:=by
 obtain ⟨a,b,c,d⟩:=q
 obtain ⟨ha,hb,hc,hd⟩:=hq
 simp only at ha hb hc hd
 have h1:a.tmod 60=a % 60:=Int.tmod_eq_emod_of_nonneg (by omega)
 have h2:b.tmod 3=b % 3:=Int.tmod_eq_emod_of_nonneg (by omega)
 have h3:c.tmod 8=c % 8:=Int.tmod_eq_emod_of_nonneg (by omega)
 have hx:∀ x:Bs,isText x=true→∃ i:It,w422_K0 C ⟨[(4,.int .i64 0),(3,.ptr 0 0 0),(2,.ptr 1 0 0),(1,.ptr 2 0 0)],[(0,.cells 4 [[.int .u64 (1+a % 60),.int .u8 (b % 3),.str x,.ro 1 [] true]] true true),(1,.cells 4 [[.int .u64 0,.int .u8 0,.str [],.ro 1 [] true]] true true),(2,.cells 4 [[.int .u8 a,.int .u8 b,.int .u8 c,.int .u8 d]] true true)],3⟩=some (eIt i)∧Good i:=by
  intro x hx
  obtain ⟨m,e,h,r1,r2⟩:=one_nil0 H (1+a % 60) (b % 3) a b c d hd x
  exact ⟨_,h,⟨by simp only;omega,by simp only;omega,hx,r1,r2⟩⟩
 rw [fnW_eq H.f422 rfl]
 have hJ:c % 8=0∨c % 8=1∨c % 8=2∨c % 8=3∨c % 8=4∨c % 8=5∨c % 8=6∨c % 8=7:=by omega
 rcases hJ with hj | hj | hj | hj | hj | hj | hj | hj
 · obtain ⟨i,h,g⟩:=hx [] (by decide)
   refine ⟨i,?_,g⟩
   simp only [w422_K0] at h
   simp (disch:=omega) [w422,h1,h2,h3,hj,wI64,wU8,wU64,h]
 · obtain ⟨i,h,g⟩:=hx [97] (by decide)
   refine ⟨i,?_,g⟩
   simp only [w422_K0] at h
   simp (disch:=omega) [w422,h1,h2,h3,hj,wI64,wU8,wU64,h]
 · obtain ⟨i,h,g⟩:=hx [114,111,119] (by decide)
   refine ⟨i,?_,g⟩
   simp only [w422_K0] at h
   simp (disch:=omega) [w422,h1,h2,h3,hj,wI64,wU8,wU64,h]
 · obtain ⟨i,h,g⟩:=hx [116,119,111,32,119,111,114,100,115] (by decide)
   refine ⟨i,?_,g⟩
   simp only [w422_K0] at h
   simp (disch:=omega) [w422,h1,h2,h3,hj,wI64,wU8,wU64,h]
 · obtain ⟨i,h,g⟩:=hx [32,32] (by decide)
   refine ⟨i,?_,g⟩
   simp only [w422_K0] at h
   simp (disch:=omega) [w422,h1,h2,h3,hj,wI64,wU8,wU64,h]
 · obtain ⟨i,h,g⟩:=hx [126,33,45,44] (by decide)
   refine ⟨i,?_,g⟩
   simp only [w422_K0] at h
   simp (disch:=omega) [w422,h1,h2,h3,hj,wI64,wU8,wU64,h]
 · obtain ⟨i,h,g⟩:=hx [97,32,108,111,110,103,101,114,32,116,101,120,116,32,111,102,32,116,104,105,115,32,107,105,110,100] (by decide)
   refine ⟨i,?_,g⟩
   simp only [w422_K0] at h
   simp (disch:=omega) [w422,h1,h2,h3,hj,wI64,wU8,wU64,h]
 · obtain ⟨i,h,g⟩:=hx [57] (by decide)
   refine ⟨i,?_,g⟩
   simp only [w422_K0] at h
   simp (disch:=omega) [w422,h1,h2,h3,hj,wI64,wU8,wU64,h]
theorem Good.it {i:It} (h:Good i):ItIn i:=⟨by have:=h.k;omega,by have:=h.t;omega,by have:=h.l;omega⟩
theorem Good.ok {i:It} (h:Good i):itOk 3 i=true:=by
 have h1:=h.k;have h2:=h.t;have h3:=h.x;have h4:=h.l;have h5:=h.m
 unfold itOk
 simp only [Bool.and_eq_true,decide_eq_true_eq]
 exact ⟨⟨⟨by omega,by omega⟩,h3⟩,h4,h5⟩
theorem fndI_no {k:Int}:∀ (l:List It) (i:Nat),fndI k i l < 0→∀ x ∈ l,x.k≠k
 | [],_,_=>by simp
 | e::r,i,h=>by
  rw [fndI] at h
  split at h
  · omega
  · rename_i c
    intro x hx
    rcases List.mem_cons.1 hx with rfl | hx
    · exact c
    · exact fndI_no r (i+1) h x hx
theorem items_loop (H:HasG C) (hone:∀ q:Q4,QIn q→∃ i:It,FnW C 422 [.agg (eQ q)]=some (eIt i)∧Good i) (l:List Q4) (e:Bool) (hq:∀ q ∈ l,QIn q):∀ n i,n+i=min l.length 12→∀ G:List It,G.length≤i→(∀ x ∈ G,Good x)→(G.map It.k).Nodup →
 ∃ R:List It,w270_K0 C ⟨[(4,.int .i64 i),(3,.sl 0 4 0 G.length G.length false),(1,.ptr 1 0 0)],[(0,.cells 4 (G.map cIt) true true),(1,.cells 1 [[.ro 4 (l.map eQ) e]] true true)],2⟩=some (.ro 4 (R.map cIt) false) ∧
  R.length≤12∧(∀ x ∈ R,Good x)∧(R.map It.k).Nodup:=by
 intro n
 induction n with
 | zero =>
  intro i hi G hG hg hn
  refine ⟨G,?_,by omega,hg,hn⟩
  simp only [w270_K0];rw [ck_unf w270_B0.eq_1]
  have h6:List.take G.length (List.map cIt G)=List.map cIt G:=List.take_of_length_le (by simp)
  by_cases h3:i < l.length
  · have h4:¬ (i:Int) < 12:=by omega
    simp [ck_unf w270_c0.eq_1,h3,h4,h6]
  · simp [ck_unf w270_c0.eq_1,h3,h6]
 | succ n ih =>
  intro i hi G hG hg hn
  have h1:i < l.length:=by omega
  have h2:(i:Int) < 12:=by omega
  obtain ⟨x,hx,gx⟩:=hone l[i] (hq _ (List.getElem_mem h1))
  have hf:=ifind_ok H.toHasL G false x.k (by omega)
  have h6:List.take G.length (List.map cIt G)=List.map cIt G:=List.take_of_length_le (by simp)
  have hfit:(G.length+1) * 57≤35184372088832:=by omega
  simp only [eQ] at hx
  by_cases c:fndI x.k 0 G < 0
  · have hno:=fndI_no G 0 c
    obtain ⟨R,this,r1,r2,r3⟩:=ih (i+1) (by omega) (G++[x]) (by simp;omega) (by
     intro y hy
     rcases List.mem_append.1 hy with q | q
     · exact hg y q
     · simp at q;rw [q];exact gx) (by
     rw [List.map_append,List.nodup_append]
     refine ⟨hn,by simp,?_⟩
     intro a ha b hb
     simp at hb
     obtain ⟨y,hy,rfl⟩:=List.mem_map.1 ha
     rw [hb];exact hno y hy)
    refine ⟨R,?_,r1,r2,r3⟩
    simp only [w270_K0] at this ⊢;rw [ck_unf w270_B0.eq_1]
    simp at this
    simp (disch:=omega) [h1,h2,hx,hf,h6,c,hfit,wI64,H.inl,inlB,H.pp,ppB,this]
  · obtain ⟨R,this,r1,r2,r3⟩:=ih (i+1) (by omega) G (by omega) hg hn
    refine ⟨R,?_,r1,r2,r3⟩
    simp only [w270_K0] at this ⊢;rw [ck_unf w270_B0.eq_1]
    simp at this
    simp (disch:=omega) [h1,h2,hx,hf,h6,c,wI64,H.inl,inlB,H.pp,ppB,this]
theorem items_ok (H:HasG C) (hone:∀ q:Q4,QIn q→∃ i:It,FnW C 422 [.agg (eQ q)]=some (eIt i)∧Good i) (l:List Q4) (e:Bool) (hq:∀ q ∈ l,QIn q) :
 ∃ R:List It,FnW C 270 [.agg [.ro 4 (l.map eQ) e]]=some (.ro 4 (R.map cIt) false)∧R.length≤12∧(∀ x ∈ R,Good x)∧(R.map It.k).Nodup:=by
 obtain ⟨R,h,r⟩:=items_loop H hone l e hq (min l.length 12) 0 (by simp) [] (by simp) (by simp) (by simp)
 refine ⟨R,?_,r⟩
 simp only [w270_K0] at h
 simp at h
 rw [fnW_eq H.f270 rfl]
 simp [w270,h]
def leafP (k:Int) (t:Bs):Pt:=⟨k,[],[],[],true,t,[],true⟩
def tmRow:Pt:=⟨1,[114,111,119],[],[⟨[110],3,[]⟩,⟨[116,101,120,116],1,[]⟩],true,[],[leafP 3 []],true⟩
def tmHead:Pt:=⟨1,[104,101,97,100],[104],[⟨[105,100],2,[]⟩],true,[],[leafP 2 [35],leafP 4 []],true⟩
def tmTags:Pt:=⟨1,[114,111,119],[],[],true,[],[⟨1,[98],[98,50],[],true,[],[leafP 3 []],true⟩,⟨5,[116,97,103],[],[⟨[111,102],2,[]⟩],true,[],[],true⟩],true⟩
def kindsOf (n:Int):List Kd:=[⟨tmRow,10+n % 7,false,n % 4⟩,⟨tmHead,6+n % 3,true,n / 4 % 3⟩,⟨tmTags,20,decide (n % 16=15),n / 8 % 3⟩]
theorem kinds_ok (H:HasG C) (n:Int) (hn:0≤n∧n≤255):FnW C 126 [.int .u8 n]=some (.ro 9 ((kindsOf n).map eKd) true):=by
 rw [fnW_eq H.f126 rfl]
 have h1:n.tmod 7=n % 7:=Int.tmod_eq_emod_of_nonneg (by omega)
 have h2:n.tmod 4=n % 4:=Int.tmod_eq_emod_of_nonneg (by omega)
 have h3:n.tmod 3=n % 3:=Int.tmod_eq_emod_of_nonneg (by omega)
 have h4:n.tdiv 4=n / 4:=Int.tdiv_eq_ediv_of_nonneg (by omega)
 have h5:n.tdiv 8=n / 8:=Int.tdiv_eq_ediv_of_nonneg (by omega)
 have h6:(n / 4).tmod 3=n / 4 % 3:=Int.tmod_eq_emod_of_nonneg (by omega)
 have h7:(n / 8).tmod 3=n / 8 % 3:=Int.tmod_eq_emod_of_nonneg (by omega)
 have h8:n.tmod 16=n % 16:=Int.tmod_eq_emod_of_nonneg (by omega)
 simp (disch:=omega) [w126,kindsOf,tmRow,tmHead,tmTags,leafP,h1,h2,h3,h4,h5,h6,h7,h8,wI64,wU8,Pt.c_eq]
 rfl
theorem fits_leaf (k:Int) (t:Bs):FitsAll (leafP k t):=.mk _ ⟨by simp [leafP],by simp [leafP],by simp [leafP]⟩ (by simp [leafP])
theorem fits_row:FitsAll tmRow:=.mk _ ⟨by simp [tmRow],by simp [tmRow],by simp [tmRow]⟩ (by simp only [tmRow,List.mem_cons,List.not_mem_nil,or_false];rintro m rfl;exact fits_leaf _ _)
theorem fits_head:FitsAll tmHead:=.mk _ ⟨by simp [tmHead],by simp [tmHead],by simp [tmHead]⟩ (by simp only [tmHead,List.mem_cons,List.not_mem_nil,or_false];rintro m (rfl | rfl) <;> exact fits_leaf _ _)
theorem fits_tags:FitsAll tmTags:=.mk _ ⟨by simp [tmTags],by simp [tmTags],by simp [tmTags]⟩ (by
 simp only [tmTags,List.mem_cons,List.not_mem_nil,or_false]
 rintro m (rfl | rfl)
 · exact .mk _ ⟨by simp,by simp,by simp⟩ (by simp only [List.mem_cons,List.not_mem_nil,or_false];rintro m rfl;exact fits_leaf _ _)
 · exact .mk _ ⟨by simp,by simp,by simp⟩ (by simp))
theorem ru_in (n:Int):RuIn (kindsOf n):=⟨by simp [kindsOf],by
 simp only [kindsOf,List.mem_cons,List.not_mem_nil,or_false]
 rintro k (rfl | rfl | rfl)
 · exact fits_row
 · exact fits_head
 · exact fits_tags⟩
theorem tc_row:tcnt tmRow≠0:=by decide +kernel
theorem tc_head:tcnt tmHead≠0:=by decide +kernel
theorem tc_tags:tcnt tmTags≠0:=by decide +kernel
theorem ru_ok (n:Int) (hn:0≤n∧n≤255):ruOk (kindsOf n) 12=true:=by
 have e1:(1:Int)≤10+n % 7∧10+n % 7≤2305843009213693952:=by omega
 have e2:(1:Int)≤6+n % 3∧6+n % 3≤2305843009213693952:=by omega
 simp [ruOk,kdOk,hOk,kindsOf,tc_row,tc_head,tc_tags,e1,e2]
theorem kd_base (n:Int) (hn:0≤n∧n≤255) (t:Int) (ht:0≤t∧t≤2):1≤(kdAt (kindsOf n) t).b∧(kdAt (kindsOf n) t).b≤30:=by
 have:t=0∨t=1∨t=2:=by omega
 rcases this with rfl | rfl | rfl <;> simp [kdAt,kindsOf] <;> omega
structure GoodE (ks:List Kd) (e:En):Prop where
 i:Good e.i
 ok:itE ks 12 e.i false=0
 s:1≤e.s∧e.s≤40
 b:e.kn=true∨e.s=(kdAt ks e.i.t).b
structure KsIn (ks:List Kd):Prop where
 r:RuIn ks
 l:ks.length=3
 b:∀ t:Int,0≤t→t≤2→1≤(kdAt ks t).b∧(kdAt ks t).b≤30
theorem ks_in (n:Int) (hn:0≤n∧n≤255):KsIn (kindsOf n):=⟨ru_in n,rfl,fun t h1 h2=>kd_base n hn t ⟨h1,h2⟩⟩
theorem lof_sl (H:HasG C) (ks:List Kd) (hks:KsIn ks) (l:List It) (le:Bool) (hl:l.length≤12) (hg:∀ x ∈ l,Good x) (q:List Q4) (qe:Bool) (z:List Int) (ze:Bool) (hz:∀ s ∈ z,0≤s∧s≤255) (hzl:z.length < 9223372036854775808) (r:Int):∀ n i,n+i=l.length →
 ∀ G:List En,G≠[]→G.length≤i→(∀ x ∈ G,GoodE ks x)→(keysE G++(l.drop i).map It.k).Nodup →
 ∃ (R:List En) (f:Bool),w130_K0 C ⟨[(7,.int .i64 i),(6,.ptr 0 0 0),(5,.ro 4 (l.map cIt) le),(4,.ptr 2 0 0),(3,.ptr 3 0 0),(2,.ptr 4 0 0),(1,.ptr 5 0 0)],[(0,.cells 1 [[.sl 1 6 0 G.length G.length false]] true false),(1,.cells 6 (G.map eEn) true true),(2,.cells 2 [[.ro 9 (ks.map eKd) true,.int .i64 12]] true true),(3,.cells 1 [[.ro 6 [] true]] true true),(4,.cells 2 [[.ro 9 [] true,.int .i64 0]] true true),(5,.cells 3 [[.ro 4 (q.map eQ) qe,.ro 1 (z.map eU8) ze,.int .u8 r]] true true)],6⟩=some (.tup [aR ks true 12,aL R f])∧R.length≤12∧(∀ e ∈ R,GoodE ks e)∧(keysE R).Nodup:=by
 intro n
 induction n with
 | zero =>
  intro i hi G hne hG hge hn
  have h1:l.drop i=[]:=List.drop_eq_nil_of_le (by omega)
  have h3:¬ i < l.length:=by omega
  have h6:List.take G.length (List.map eEn G)=List.map eEn G:=List.take_of_length_le (by simp)
  refine ⟨G,false,?_,by omega,hge,by rw [h1] at hn;simpa using hn⟩
  simp only [w130_K0];rw [ck_unf w130_B0.eq_1]
  simp [ck_unf w130_c0.eq_1,h3,h6]
 | succ n ih =>
  intro i hi G hne hG hge hn
  have h1:i < l.length:=by omega
  have gx:=hg _ (List.getElem_mem h1)
  have hii:=ritem_ok H.toHasK ks true 12 l[i] gx.it hks.r false
  have hfr:=rfresh_ok H.toHasK ks true 12 l[i] gx.it (by have:=gx.t;have:=hks.l;omega)
  have hbase:=hks.b l[i].t gx.t.1 gx.t.2
  rw [drop_cons h1,List.map_cons] at hn
  have hfit:(G.length+1) * 73≤35184372088832:=by omega
  simp only [aR,eIt,Bool.false_eq_true,if_false] at hii
  simp only [aR,eIt,aE,eEn,fre] at hfr
  have hE0:0≤itE ks 12 l[i] false:=by unfold itE;repeat (first | omega | split)
  by_cases c1:itE ks 12 l[i] false=0
  · have step:∀ e:En,e.i=l[i]→GoodE ks e→∃ (R:List En) (f:Bool),w130_K0 C ⟨[(7,.int .i64 ((i:Int)+1)),(6,.ptr 0 0 0),(5,.ro 4 (l.map cIt) le),(4,.ptr 2 0 0),(3,.ptr 3 0 0),(2,.ptr 4 0 0),(1,.ptr 5 0 0)],[(0,.cells 1 [[.sl 1 6 0 (G.length+1) (G.length+1) false]] true false),(1,.cells 6 (G.map eEn++[eEn e]) true true),(2,.cells 2 [[.ro 9 (ks.map eKd) true,.int .i64 12]] true true),(3,.cells 1 [[.ro 6 [] true]] true true),(4,.cells 2 [[.ro 9 [] true,.int .i64 0]] true true),(5,.cells 3 [[.ro 4 (q.map eQ) qe,.ro 1 (z.map eU8) ze,.int .u8 r]] true true)],6⟩=some (.tup [aR ks true 12,aL R f])∧R.length≤12∧(∀ e ∈ R,GoodE ks e)∧(keysE R).Nodup:=by
     intro e he hge2
     have:=ih (i+1) (by omega) (G++[e]) (by simp) (by simp;omega) (by
      intro y hy
      rcases List.mem_append.1 hy with q | q
      · exact hge y q
      · simp at q;rw [q];exact hge2) (by simpa [keysE,he] using hn)
     simpa using this
    by_cases c2:G.length < z.length
    · by_cases c3:(0:Int) < z[G.length]
      · have hzz:=hz _ (List.getElem_mem c2)
        have hm:z[G.length].tmod 40=z[G.length] % 40:=Int.tmod_eq_emod_of_nonneg hzz.1
        have hm1:(0:Int)≤z[G.length] % 40:=Int.emod_nonneg _ (by omega)
        have hm2:z[G.length] % 40 < 40:=Int.emod_lt_of_pos _ (by omega)
        obtain ⟨R,f,this,hR⟩:=step ⟨l[i],1+z[G.length] % 40,true⟩ rfl ⟨gx,c1,by simp only;omega,.inl rfl⟩
        refine ⟨R,f,?_,hR⟩
        rw [c1] at hii
        generalize z[G.length] % 40=M at *
        simp only [w130_K0] at this ⊢;rw [ck_unf w130_B0.eq_1]
        simp at this
        simp (disch:=omega) [h1,c2,c3,hm,hii,hfr,hfit,wI64,wU8,H.inl,inlB,H.pp,ppB,this]
      · obtain ⟨R,f,this,hR⟩:=step (fre ks l[i]) rfl ⟨gx,c1,by unfold fre;simp only;omega,.inr rfl⟩
        refine ⟨R,f,?_,hR⟩
        rw [c1] at hii
        simp only [fre] at this
        simp only [w130_K0] at this ⊢;rw [ck_unf w130_B0.eq_1]
        simp at this
        simp (disch:=omega) [h1,c2,c3,hii,hfr,hfit,wI64,wU8,H.inl,inlB,H.pp,ppB,this]
    · obtain ⟨R,f,this,hR⟩:=step (fre ks l[i]) rfl ⟨gx,c1,by unfold fre;simp only;omega,.inr rfl⟩
      refine ⟨R,f,?_,hR⟩
      rw [c1] at hii
      simp only [fre] at this
      simp only [w130_K0] at this ⊢;rw [ck_unf w130_B0.eq_1]
      simp at this
      simp (disch:=omega) [h1,c2,hii,hfr,hfit,wI64,wU8,H.inl,inlB,H.pp,ppB,this]
  · have c1':0 < itE ks 12 l[i] false:=by omega
    obtain ⟨R,f,this,hR⟩:=ih (i+1) (by omega) G hne (by omega) hge (by
     refine List.Nodup.sublist ?_ hn;exact List.Sublist.append (List.Sublist.refl _) (List.sublist_cons_self _ _))
    refine ⟨R,f,?_,hR⟩
    generalize itE ks 12 l[i] false=E at *
    simp only [w130_K0] at this ⊢;rw [ck_unf w130_B0.eq_1]
    simp at this
    simp (disch:=omega) [h1,c1',hii,wI64,H.inl,inlB,H.pp,ppB,this]
theorem lof_nil (H:HasG C) (ks:List Kd) (hks:KsIn ks) (l:List It) (le:Bool) (hl:l.length≤12) (hg:∀ x ∈ l,Good x) (q:List Q4) (qe:Bool) (z:List Int) (ze:Bool) (hz:∀ s ∈ z,0≤s∧s≤255) (hzl:z.length < 9223372036854775808) (r:Int):∀ n i,n+i=l.length →
 (keysE []++(l.drop i).map It.k).Nodup →
 ∃ (R:List En) (f:Bool),w130_K0 C ⟨[(7,.int .i64 i),(6,.ptr 0 0 0),(5,.ro 4 (l.map cIt) le),(4,.ptr 1 0 0),(3,.ptr 2 0 0),(2,.ptr 3 0 0),(1,.ptr 4 0 0)],[(0,.cells 1 [[.ro 6 [] true]] true true),(1,.cells 2 [[.ro 9 (ks.map eKd) true,.int .i64 12]] true true),(2,.cells 1 [[.ro 6 [] true]] true true),(3,.cells 2 [[.ro 9 [] true,.int .i64 0]] true true),(4,.cells 3 [[.ro 4 (q.map eQ) qe,.ro 1 (z.map eU8) ze,.int .u8 r]] true true)],5⟩=some (.tup [aR ks true 12,aL R f])∧R.length≤12∧(∀ e ∈ R,GoodE ks e)∧(keysE R).Nodup:=by
 intro n
 induction n with
 | zero =>
  intro i hi  hn
  have h1:l.drop i=[]:=List.drop_eq_nil_of_le (by omega)
  have h3:¬ i < l.length:=by omega
  refine ⟨[],true,?_,by simp,by simp,by simp⟩
  simp only [w130_K0];rw [ck_unf w130_B0.eq_1]
  simp [ck_unf w130_c0.eq_1,h3]
 | succ n ih =>
  intro i hi  hn
  have h1:i < l.length:=by omega
  have gx:=hg _ (List.getElem_mem h1)
  have hii:=ritem_ok H.toHasK ks true 12 l[i] gx.it hks.r false
  have hfr:=rfresh_ok H.toHasK ks true 12 l[i] gx.it (by have:=gx.t;have:=hks.l;omega)
  have hbase:=hks.b l[i].t gx.t.1 gx.t.2
  rw [drop_cons h1,List.map_cons] at hn
  simp only [aR,eIt,Bool.false_eq_true,if_false] at hii
  simp only [aR,eIt,aE,eEn,fre] at hfr
  have hE0:0≤itE ks 12 l[i] false:=by unfold itE;repeat (first | omega | split)
  by_cases c1:itE ks 12 l[i] false=0
  · have step:∀ e:En,e.i=l[i]→GoodE ks e→∃ (R:List En) (f:Bool),w130_K0 C ⟨[(7,.int .i64 ((i:Int)+1)),(6,.ptr 0 0 0),(5,.ro 4 (l.map cIt) le),(4,.ptr 2 0 0),(3,.ptr 3 0 0),(2,.ptr 4 0 0),(1,.ptr 5 0 0)],[(0,.cells 1 [[.sl 1 6 0 1 1 false]] true false),(1,.cells 6 [eEn e] true true),(2,.cells 2 [[.ro 9 (ks.map eKd) true,.int .i64 12]] true true),(3,.cells 1 [[.ro 6 [] true]] true true),(4,.cells 2 [[.ro 9 [] true,.int .i64 0]] true true),(5,.cells 3 [[.ro 4 (q.map eQ) qe,.ro 1 (z.map eU8) ze,.int .u8 r]] true true)],6⟩=some (.tup [aR ks true 12,aL R f])∧R.length≤12∧(∀ e ∈ R,GoodE ks e)∧(keysE R).Nodup:=by
     intro e he hge2
     have:=lof_sl H ks hks l le hl hg q qe z ze hz hzl r n (i+1) (by omega) [e] (by simp) (by simp) (by simpa using hge2) (by simpa [keysE,he] using hn)
     simpa using this
    by_cases c2:0 < z.length
    · by_cases c3:(0:Int) < z[0]
      · have hzz:=hz _ (List.getElem_mem c2)
        have hm:z[0].tmod 40=z[0] % 40:=Int.tmod_eq_emod_of_nonneg hzz.1
        have hm1:(0:Int)≤z[0] % 40:=Int.emod_nonneg _ (by omega)
        have hm2:z[0] % 40 < 40:=Int.emod_lt_of_pos _ (by omega)
        obtain ⟨R,f,this,hR⟩:=step ⟨l[i],1+z[0] % 40,true⟩ rfl ⟨gx,c1,by simp only;omega,.inl rfl⟩
        refine ⟨R,f,?_,hR⟩
        rw [c1] at hii
        generalize z[0] % 40=M at *
        simp only [w130_K0] at this ⊢;rw [ck_unf w130_B0.eq_1]
        simp at this
        simp (disch:=omega) [h1,c2,c3,hm,hii,hfr,wI64,wU8,H.inl,inlB,H.pp,ppB,this]
      · obtain ⟨R,f,this,hR⟩:=step (fre ks l[i]) rfl ⟨gx,c1,by unfold fre;simp only;omega,.inr rfl⟩
        refine ⟨R,f,?_,hR⟩
        rw [c1] at hii
        simp only [fre] at this
        simp only [w130_K0] at this ⊢;rw [ck_unf w130_B0.eq_1]
        simp at this
        simp (disch:=omega) [h1,c2,c3,hii,hfr,wI64,wU8,H.inl,inlB,H.pp,ppB,this]
    · obtain ⟨R,f,this,hR⟩:=step (fre ks l[i]) rfl ⟨gx,c1,by unfold fre;simp only;omega,.inr rfl⟩
      refine ⟨R,f,?_,hR⟩
      rw [c1] at hii
      simp only [fre] at this
      simp only [w130_K0] at this ⊢;rw [ck_unf w130_B0.eq_1]
      simp at this
      simp (disch:=omega) [h1,c2,hii,hfr,wI64,wU8,H.inl,inlB,H.pp,ppB,this]
  · have c1':0 < itE ks 12 l[i] false:=by omega
    obtain ⟨R,f,this,hR⟩:=ih (i+1) (by omega) (by
     simp only [keysE,List.map_nil,List.nil_append] at hn ⊢;exact (List.nodup_cons.1 hn).2)
    refine ⟨R,f,?_,hR⟩
    generalize itE ks 12 l[i] false=E at *
    simp only [w130_K0] at this ⊢;rw [ck_unf w130_B0.eq_1]
    simp at this
    simp (disch:=omega) [h1,c1',hii,wI64,H.inl,inlB,H.pp,ppB,this]
theorem lof_ok (H:HasG C) (hone:∀ q:Q4,QIn q→∃ i:It,FnW C 422 [.agg (eQ q)]=some (eIt i)∧Good i) (q:List Q4) (qe:Bool) (hq:∀ x ∈ q,QIn x) (z:List Int) (ze:Bool) (hz:∀ s ∈ z,0≤s∧s≤255) (hzl:z.length < 9223372036854775808) (r:Int) (hr:0≤r∧r≤255) :
 ∃ (R:List En) (f:Bool),FnW C 130 [.agg [.ro 4 (q.map eQ) qe,.ro 1 (z.map eU8) ze,.int .u8 r]]=some (.tup [aR (kindsOf r) true 12,aL R f])∧R.length≤12∧(∀ e ∈ R,GoodE (kindsOf r) e)∧(keysE R).Nodup:=by
 obtain ⟨I,hI,l1,l2,l3⟩:=items_ok H hone q qe hq
 have hk:=kinds_ok H r hr
 obtain ⟨R,f,h,hR⟩:=lof_nil H (kindsOf r) (ks_in r hr) I false l1 l2 q qe z ze hz hzl r I.length 0 (by simp) (by simpa [keysE] using l3)
 refine ⟨R,f,?_,hR⟩
 rw [fnW_eq H.f130 rfl]
 generalize kindsOf r=ks at *
 simp only [w130_K0] at h
 simp at h
 simp [w130,hI,hk,h,H.inl,inlB,H.pp,ppB]
theorem chk_good (ks:List Kd) (hb:∀ t:Int,0≤t→t≤2→1≤(kdAt ks t).b∧(kdAt ks t).b≤30):∀ (l:List En) (s:List Int),(∀ e ∈ l,GoodE ks e)→(s++keysE l).Nodup→chk ks 12 s l=0
 | [],_,_,_=>rfl
 | e::r,s,hg,hn=>by
  have h1:=hg e (by simp)
  have h2:s.contains e.i.k=false:=by
   simp only [keysE,List.map_cons] at hn
   have:=(List.nodup_append.1 hn).2.2
   simp only [List.contains_eq_mem,decide_eq_false_iff_not]
   intro q
   exact this _ q _ (by simp) rfl
  have h3:enE ks 12 e false=0:=by
   unfold enE
   rw [h1.ok]
   have hh:hOk e.s=true:=by unfold hOk;have:=h1.s;simp;omega
   simp [hh,h1.b]
  rw [chk,h2,h3]
  simp only [ne_eq,not_true_eq_false,if_false]
  refine chk_good ks hb r _ (fun x hx=>hg x (by simp [hx])) ?_
  simpa [keysE] using hn
theorem tot_good (ks:List Kd):∀ (l:List En) (s:Int),(∀ e ∈ l,GoodE ks e)→0≤s→s+40 * l.length≤4611686018427387904→totG s l≤s+40 * l.length
 | [],s,_,_,_=>by simp [totG]
 | e::r,s,hg,h0,h=>by
  have h1:=(hg e (by simp)).s
  have h2:imax e.s 0=e.s:=imax_l (by omega)
  simp only [List.length_cons] at h ⊢
  rw [totG,h2,if_neg (by omega)]
  have:=tot_good ks r (s+e.s) (fun x hx=>hg x (by simp [hx])) (by omega) (by omega)
  omega
theorem ck_good (r:Int) (hr:0≤r∧r≤255) (l:List En) (hl:l.length≤1024) (hg:∀ e ∈ l,GoodE (kindsOf r) e) (hn:(keysE l).Nodup):ckE (kindsOf r) 12 l=0:=by
 have h1:=chk_good (kindsOf r) (fun t a b=>kd_base r hr t ⟨a,b⟩) l [] hg (by simpa using hn)
 have h2:=tot_good (kindsOf r) l 0 hg (by omega) (by omega)
 have h3:ovE l=0:=by unfold ovE tot;rw [if_neg (by omega)]
 unfold ckE
 rw [ru_ok r hr,h1,if_neg (by simp),if_neg (by omega),if_neg (by simp),h3]
theorem GoodE.en {ks:List Kd} {e:En} (h:GoodE ks e):EnIn e:=⟨h.i.it,by have:=h.s;omega⟩
end Go.D
end
section
namespace Go.D
open Go Go.Pav Go.Pw
theorem ty_u16 {v:AV} (h:Ty (.int .u16) v):∃ n:Int,v=.int .u16 n∧0≤n∧n≤65535:=by
 cases h with | int k n h1 h2=>exact ⟨n,rfl,h1,h2⟩
end Go.D
end
section
end
section
namespace Go.D
open Go Go.Pav Go.Pw P
def sm:List En→Int
 | []=>0
 | e::r=>e.s+sm r
def top (l:List En) (i:Nat):Int:=sm (l.take i)
theorem top_0 (l:List En):top l 0=0:=rfl
theorem sm_app:∀ (a b:List En),sm (a++b)=sm a+sm b
 | [],b=>by simp [sm]
 | e::r,b=>by simp only [List.cons_append,sm];rw [sm_app r b];omega
theorem top_succ {l:List En} {i:Nat} (h:i < l.length):top l (i+1)=top l i+l[i].s:=by
 unfold top
 rw [List.take_add_one,List.getElem?_eq_getElem h,sm_app]
 simp [sm]
theorem top_len (l:List En):top l l.length=sm l:=by unfold top;rw [List.take_length]
theorem top_ge {l:List En} {i:Nat} (h:l.length≤i):top l i=sm l:=by unfold top;rw [List.take_of_length_le h]
structure Szd (l:List En):Prop where
 n:l.length≤1024
 s:∀ x ∈ l,1≤x.s∧x.s≤2305843009213693952
 t:sm l≤4611686018427387904
theorem sm_nn:∀ (l:List En),(∀ x ∈ l,1≤x.s)→0≤sm l
 | [],_=>by simp [sm]
 | e::r,h=>by
  have h1:=h e (by simp)
  have h2:=sm_nn r fun x hx=>h x (by simp [hx])
  rw [sm];omega
theorem totG_sm:∀ (l:List En) (s:Int),(∀ x ∈ l,1≤x.s)→s≤4611686018427387904 →
 (s+sm l≤4611686018427387904∧totG s l=s+sm l)∨(4611686018427387904 < s+sm l∧totG s l=4611686018427387905)
 | [],s,_,h=>by left;simp [sm,totG,h]
 | e::r,s,hs,h=>by
  have h1:=hs e (by simp)
  have h2:=sm_nn r fun x hx=>hs x (by simp [hx])
  have h3:imax e.s 0=e.s:=imax_l (by omega)
  rw [totG,sm,h3]
  by_cases c:4611686018427387904 - s < e.s
  · right;rw [if_pos c];omega
  · rw [if_neg c]
    have:=totG_sm r (s+e.s) (fun x hx=>hs x (by simp [hx])) (by omega)
    rw [← Int.add_assoc];exact this
theorem Szd.tot {l:List En} (h:Szd l):tot l=sm l:=by
 unfold Go.D.tot
 have h2:=h.t
 rcases totG_sm l 0 (fun x hx=>(h.s x hx).1) (by omega) with q | q
 · omega
 · omega
theorem Szd.nn {l:List En} (h:Szd l):0≤sm l:=sm_nn l fun x hx=>(h.s x hx).1
theorem Szd.lt {l:List En} (h:Szd l) {i:Nat} (hi:i < l.length):top l i+1≤top l (i+1):=by
 rw [top_succ hi]
 have:=(h.s _ (List.getElem_mem hi)).1
 omega
theorem Szd.mono {l:List En} (h:Szd l) {i:Nat}:∀ {j:Nat},i≤j→j≤l.length→top l i+((j:Int) - i)≤top l j:=by
 intro j hij
 induction j with
 | zero => intro _; have : i = 0 := by omega
           subst this;simp
 | succ j ih =>
  intro hj
  by_cases c:i=j+1
  · subst c;omega
  · have h1:=ih (by omega) (by omega)
    have h2:=h.lt (i:=j) (by omega)
    omega
theorem Szd.rng {l:List En} (h:Szd l) (i:Nat):0≤top l i∧top l i≤sm l:=by
 by_cases c:i≤l.length
 · have h1:=h.mono (i:=0) (j:=i) (by omega) c
   have h2:=h.mono (i:=i) (j:=l.length) c (by omega)
   rw [top_0] at h1
   rw [top_len] at h2
   omega
 · rw [top_ge (by omega)];have:=h.nn;omega
theorem Szd.row {l:List En} (h:Szd l) {x:Int} (h0:0≤x) (h1:x < sm l):∃ p,p < l.length∧top l p≤x∧x < top l (p+1):=by
 have key:∀ n,n≤l.length→top l n≤x∨∃ p,p < n∧top l p≤x∧x < top l (p+1):=by
  intro n
  induction n with
  | zero=>intro _;left;rw [top_0];exact h0
  | succ n ih =>
   intro hn
   rcases ih (by omega) with q | ⟨p,q1,q2⟩
   · by_cases c:top l (n+1)≤x
     · exact .inl c
     · exact .inr ⟨n,by omega,q,by omega⟩
   · exact .inr ⟨p,by omega,q2⟩
 rcases key l.length (by omega) with q | ⟨p,q⟩
 · rw [top_len] at q;omega
 · exact ⟨p,q⟩
def mostS (l:List En) (v:Int):Int:=if sm l < v then 0 else sm l - v
structure Vp (l:List En) (o v:Int):Prop extends Szd l where
 v0:1≤v∧v≤2147483648
 s0:0≤o∧o≤mostS l v
theorem Vp.ends {l:List En} {s v:Int} (h:Vp l s v) (hl:0 < l.length):∃ p q:Nat,p < l.length∧q < l.length∧p≤q∧(top l p≤s∧s < top l (p+1))∧(top l q≤imin (s+v) (sm l) - 1∧imin (s+v) (sm l) - 1 < top l (q+1)):=by
 have h1:=h.v0
 have h2:=h.s0
 have h3:1≤sm l:=by
  have:=h.mono (i:=0) (j:=l.length) (by omega) (by omega)
  rw [top_0,top_len] at this;omega
 have h4:s < sm l:=by unfold mostS at h2;split at h2 <;> omega
 have h5:s+1≤imin (s+v) (sm l)∧imin (s+v) (sm l)≤sm l:=by unfold imin;split <;> omega
 obtain ⟨p,p1,p2,p3⟩:=h.row h2.1 h4
 obtain ⟨q,q1,q2,q3⟩:=h.row (x:=imin (s+v) (sm l) - 1) (by omega) (by omega)
 refine ⟨p,q,p1,q1,?_,⟨p2,p3⟩,q2,q3⟩
 by_cases c:p≤q
 · exact c
 · have:=h.mono (i:=q+1) (j:=p) (by omega) (by omega)
   omega
theorem Vp.seen {l:List En} {s v:Int} (h:Vp l s v) {p q:Nat} (hp:p < l.length) (hq:q < l.length) (h1:top l p≤s∧s < top l (p+1)) (h2:top l q≤imin (s+v) (sm l) - 1∧imin (s+v) (sm l) - 1 < top l (q+1)) {i:Nat} (hi:i < l.length) :
 (top l i < s+v∧s < top l (i+1))↔(p≤i∧i≤q):=by
 have e1:imin (s+v) (sm l)≤s+v:=by unfold imin;split <;> omega
 have hm:=h.rng (i+1)
 have hlt:=h.lt hi
 constructor
 · rintro ⟨a,b⟩
   constructor
   · by_cases c:p≤i
     · exact c
     · have:=h.mono (i:=i+1) (j:=p) (by omega) (by omega);omega
   · by_cases c:i≤q
     · exact c
     · have:=h.mono (i:=q+1) (j:=i) (by omega) (by omega)
       have e2:s+v≤top l i:=by
        unfold imin at h2;split at h2 <;> omega
       omega
 · rintro ⟨a,b⟩
   have m1:=h.mono (i:=i) (j:=q) b (by omega)
   have m2:=h.mono (i:=p+1) (j:=i+1) (by omega) (by omega)
   omega
end Go.D
end
section
namespace Go.D
open Go Go.Pav Go.Pw P
attribute [-simp] List.getElem_cons_drop
variable {C:WProg}
structure HasSz (C:WProg):Prop extends HasL C
structure HasWn (C:WProg):Prop extends HasS C
def bdBad (v least over:Int):Prop:=v < 1∨2147483648 < v∨least < 1∨2305843009213693952 < least∨over < 0∨16 < over
instance (v least over:Int):Decidable (bdBad v least over):=by unfold bdBad;infer_instance
structure HasAt (C:WProg):Prop extends HasSz C,HasWn C,HasG C
end Go.D
end
section
namespace Go.Proofs.YtfkdbfgdncamdaaGreat
open Go.ChangeShapes Go.WideShapes Go.ChangeAt Go.RowKit Go.Pav Go.Pw P Go.D
theorem has_:HasG prog:={ f561:=rfl,f517:=rfl,f557:=rfl,f556:=rfl,f511:=rfl,f510:=rfl,f560:=rfl,f545:=rfl,f578:=rfl,f543:=rfl,f495:=rfl,f516:=rfl,f500:=rfl,inl:=rfl,pp:=rfl,f434:=rfl,f519:=rfl,f518:=rfl,f562:=rfl,f433:=rfl,f282:=rfl,f140:=rfl,f439:=rfl,f581:=rfl,f579:=rfl,f585:=rfl,f549:=rfl,f502:=rfl,f503:=rfl,f548:=rfl,f404:=rfl,f231:=rfl,f594:=rfl,f586:=rfl,f550:=rfl,f505:=rfl,f408:=rfl,f398:=rfl,f424:=rfl,f494:=rfl,f496:=rfl,f497:=rfl,f498:=rfl,f499:=rfl,f544:=rfl,f546:=rfl,f580:=rfl,f512:=rfl,f584:=rfl,f558:=rfl,f559:=rfl,f592:=rfl,f582:=rfl,f583:=rfl,f593:=rfl,f563:=rfl,f520:=rfl,f442:=rfl,f441:=rfl,f547:=rfl,f513:=rfl,f501:=rfl,f425:=rfl,f225:=rfl,f111:=rfl,f227:=rfl,f240:=rfl,f423:=rfl,f399:=rfl,f230:=rfl,f405:=rfl,f232:=rfl,f115:=rfl,f271:=rfl,f223:=rfl,f422:=rfl,f270:=rfl,f126:=rfl,f130:=rfl }
theorem ty_four {a:AV} (h:Ty (.slice [.int .u8,.int .u8,.int .u8,.int .u8]) a):∃ (xs:List Q4) (e:Bool),a=.ro 4 (xs.map eQ) e∧∀ s ∈ xs,QIn s:=by
 obtain ⟨es,e,rfl,_,hx⟩:=ty_slice h
 obtain ⟨xs,rfl,hr⟩:=ty_map2 (g:=eQ) (R:=QIn) (fun l q=>by
  obtain ⟨q1,q2⟩:=q
  match l,q1 with
  | [u,v,w,x],_ =>
   obtain ⟨n1,rfl,h1⟩:=ty_u8 (q2 0 _ u rfl rfl)
   obtain ⟨n2,rfl,h2⟩:=ty_u8 (q2 1 _ v rfl rfl)
   obtain ⟨n3,rfl,h3⟩:=ty_u8 (q2 2 _ w rfl rfl)
   obtain ⟨n4,rfl,h4⟩:=ty_u8 (q2 3 _ x rfl rfl)
   exact ⟨⟨n1,n2,n3,n4⟩,rfl,h1,h2,h3,h4⟩) es hx
 exact ⟨xs,e,rfl,hr⟩
theorem ty_bytes2 {a:AV} (h:Ty (.slice [.int .u8]) a):∃ (xs:List Int) (e:Bool),a=.ro 1 (xs.map eU8) e∧(∀ x ∈ xs,0≤x∧x≤255)∧xs.length < 9223372036854775808:=by
 obtain ⟨es,e,rfl,hl,hx⟩:=ty_slice h
 obtain ⟨xs,rfl,hr⟩:=ty_map2 (g:=eU8) (R:=fun x:Int=>0≤x∧x≤255) (fun l q=>by
  obtain ⟨q1,q2⟩:=q
  match l,q1 with
  | [v],_ =>
   obtain ⟨n,rfl,h1⟩:=ty_u8 (q2 0 _ v rfl rfl)
   exact ⟨n,rfl,h1⟩) es hx
 exact ⟨xs,e,rfl,hr,by simpa using hl⟩
end Go.Proofs.YtfkdbfgdncamdaaGreat
end
section
namespace Go.D
open Go Go.Pav Go.Pw P
attribute [-simp] List.getElem_cons_drop
variable {C:WProg}
structure HasEq (C:WProg):Prop extends HasS C where
 f415:C.fns.get 415=some w415
mutual
/-- Are two trees equal? -/
def eqN:Nd→Nd→Bool
 | ⟨k,t,y,a,_,x,ch,_⟩,⟨k',t',y',a',_,x',ch',_⟩=>decide (k=k')&&decide (t=t')&&decide (y=y')&&decide (x=x')&&decide (a=a')&&eqNs ch ch'
def eqNs:List Nd→List Nd→Bool
 | [],[]=>true
 | n::r,m::s=>eqN n m&&eqNs r s
 | _,_=>false
end
theorem eqN_eq (n m:Nd):eqN n m=(decide (n.k=m.k)&&decide (n.t=m.t)&&decide (n.y=m.y)&&decide (n.x=m.x)&&decide (n.a=m.a)&&eqNs n.ch m.ch):=by
 cases n;cases m;rw [eqN]
theorem eqNs_len:∀ (l r:List Nd),eqNs l r=true→l.length=r.length
 | [],[],_=>rfl
 | n::l,m::r,h=>by
  rw [eqNs,Bool.and_eq_true] at h
  simp [eqNs_len l r h.2]
 | [],_::_,h=>by simp [eqNs] at h
 | _::_,[],h=>by simp [eqNs] at h
inductive NdIn:Nd→Prop
 | mk (n:Nd) (h1:n.a.length≤9223372036854775807) (h2:n.ch.length≤9223372036854775807) (h:∀ m ∈ n.ch,NdIn m):NdIn n
theorem st_ch (H:HasEq C) (a b:Nd) (hl:a.ch.length=b.ch.length) (h2:a.ch.length≤9223372036854775807)
 (ih:∀ c ∈ a.ch,∀ m:Nd,FnW C 415 [.agg c.c,.agg m.c]=some (.int .i64 (if eqN c m=true then 1 else 0))):∀ n i,n+i=a.ch.length →
 w415_K0 C ⟨[(6,.int .i64 i),(3,.ptr 0 0 0),(2,.ptr 1 0 0)],[(0,.cells 6 [b.c] true true),(1,.cells 6 [a.c] true true)],2⟩=some (.int .i64 (if eqNs (a.ch.drop i) (b.ch.drop i)=true then 1 else 0)):=by
 intro n
 induction n with
 | zero =>
  intro i hi
  have h3:¬ i < a.ch.length:=by omega
  have e1:a.ch.drop i=[]:=List.drop_eq_nil_of_le (by omega)
  have e2:b.ch.drop i=[]:=List.drop_eq_nil_of_le (by omega)
  simp only [w415_K0];rw [ck_unf w415_B0.eq_1]
  simp (disch:=omega) [ck_unf w415_c0.eq_1,h3,e1,e2,eqNs]
 | succ n ihn =>
  intro i hi
  have h1:i < a.ch.length:=by omega
  have h1':i < b.ch.length:=by omega
  have this:=ihn (i+1) (by omega)
  have hs:=ih a.ch[i] (List.getElem_mem h1) b.ch[i]
  rw [drop_cons h1,drop_cons h1',eqNs]
  cases c:eqN a.ch[i] b.ch[i]
  · rw [c] at hs
    simp at hs
    simp only [w415_K0];rw [ck_unf w415_B0.eq_1]
    simp (disch:=omega) [h1,h1',hs,wI64,H.inl,inlB,H.pp,ppB]
  · rw [c] at hs
    simp at hs
    rw [Bool.true_and]
    generalize (if eqNs (a.ch.drop (i+1)) (b.ch.drop (i+1))=true then (1:Int) else 0)=R at *
    simp only [w415_K0] at this ⊢;rw [ck_unf w415_B0.eq_1]
    simp at this
    simp (disch:=omega) [h1,h1',hs,wI64,H.inl,inlB,H.pp,ppB,this]
theorem st_at (H:HasEq C) (a b:Nd) (hl:a.a.length=b.a.length) (h1:a.a.length≤9223372036854775807) (X:Int)
 (h0:w415_K0 C ⟨[(6,.int .i64 0),(3,.ptr 0 0 0),(2,.ptr 1 0 0)],[(0,.cells 6 [b.c] true true),(1,.cells 6 [a.c] true true)],2⟩=some (.int .i64 X)):∀ n i,n+i=a.a.length →
 w415_K1 C ⟨[(5,.int .i64 i),(3,.ptr 0 0 0),(2,.ptr 1 0 0)],[(0,.cells 6 [b.c] true true),(1,.cells 6 [a.c] true true)],2⟩=some (.int .i64 (if a.a.drop i=b.a.drop i then X else 0)):=by
 intro n
 induction n with
 | zero =>
  intro i hi
  have h3:¬ i < a.a.length:=by omega
  have e1:a.a.drop i=[]:=List.drop_eq_nil_of_le (by omega)
  have e2:b.a.drop i=[]:=List.drop_eq_nil_of_le (by omega)
  rw [e1,e2,if_pos rfl]
  simp only [w415_K0] at h0
  try simp at h0
  simp only [w415_K1];rw [ck_unf w415_B1.eq_1]
  simp (disch:=omega) [ck_unf w415_c1.eq_1,h3,h0]
 | succ n ihn =>
  intro i hi
  have hi1:i < a.a.length:=by omega
  have hi2:i < b.a.length:=by omega
  have this:=ihn (i+1) (by omega)
  rw [drop_cons hi1,drop_cons hi2]
  by_cases c1:a.a[i].1=b.a[i].1
  · by_cases c2:a.a[i].2=b.a[i].2
    · have c:a.a[i]=b.a[i]:=Prod.ext c1 c2
      have hq:(if a.a[i]::a.a.drop (i+1)=b.a[i]::b.a.drop (i+1) then X else 0)=if a.a.drop (i+1)=b.a.drop (i+1) then X else 0:=by simp [c]
      rw [hq]
      generalize (if a.a.drop (i+1)=b.a.drop (i+1) then X else 0)=R at *
      simp only [w415_K1] at this ⊢;rw [ck_unf w415_B1.eq_1]
      simp at this
      simp (disch:=omega) [hi1,hi2,eq_true c1,eq_true c2,wI64,H.inl,inlB,H.pp,ppB,this]
    · have hq:(if a.a[i]::a.a.drop (i+1)=b.a[i]::b.a.drop (i+1) then X else 0)=0:=by
       rw [if_neg];intro q;exact c2 (congrArg Prod.snd (List.cons.inj q).1)
      rw [hq]
      simp only [w415_K1];rw [ck_unf w415_B1.eq_1]
      simp (disch:=omega) [hi1,hi2,eq_true c1,c2,wI64,H.inl,inlB,H.pp,ppB]
  · have hq:(if a.a[i]::a.a.drop (i+1)=b.a[i]::b.a.drop (i+1) then X else 0)=0:=by
     rw [if_neg];intro q;exact c1 (congrArg Prod.fst (List.cons.inj q).1)
    rw [hq]
    simp only [w415_K1];rw [ck_unf w415_B1.eq_1]
    simp (disch:=omega) [hi1,hi2,c1,wI64,H.inl,inlB,H.pp,ppB]
theorem stree_ok (H:HasEq C) {a:Nd} (ha:NdIn a):∀ b:Nd,FnW C 415 [.agg a.c,.agg b.c]=some (.int .i64 (if eqN a b=true then 1 else 0)):=by
 induction ha with
 | mk a h1 h2 h ih =>
  intro b
  rw [fnW_eq H.f415 rfl,eqN_eq]
  by_cases c1:a.k=b.k
  · by_cases c2:a.t=b.t
    · by_cases c3:a.y=b.y
      · by_cases c4:a.x=b.x
        · by_cases c5:a.a.length=b.a.length
          · by_cases c6:a.ch.length=b.ch.length
            · have k0:=st_ch H a b c6 h2 ih a.ch.length 0 (by simp)
              rw [List.drop_zero,List.drop_zero] at k0
              have k1:=st_at H a b c5 h1 _ k0 a.a.length 0 (by simp)
              rw [List.drop_zero,List.drop_zero] at k1
              have hq:(if (decide (a.k=b.k)&&decide (a.t=b.t)&&decide (a.y=b.y)&&decide (a.x=b.x)&&decide (a.a=b.a)&&eqNs a.ch b.ch)=true then (1:Int) else 0)=if a.a=b.a then (if eqNs a.ch b.ch=true then 1 else 0) else 0:=by
               by_cases q:a.a=b.a <;> simp [c1,c2,c3,c4,q]
              rw [hq]
              generalize (if a.a=b.a then (if eqNs a.ch b.ch=true then (1:Int) else 0) else 0)=R at *
              simp only [w415_K1] at k1
              simp at k1
              simp (disch:=omega) [w415,eq_true c1,eq_true c2,eq_true c3,eq_true c4,c5,c6,k1]
            · have hq:eqNs a.ch b.ch=false:=by
               cases q:eqNs a.ch b.ch
               · rfl
               · exact absurd (eqNs_len _ _ q) c6
              simp (disch:=omega) [w415,eq_true c1,eq_true c2,eq_true c3,eq_true c4,c5,c6,hq]
          · have hq:¬ a.a=b.a:=fun q=>c5 (by rw [q])
            simp (disch:=omega) [w415,eq_true c1,eq_true c2,eq_true c3,eq_true c4,c5,hq]
        · simp (disch:=omega) [w415,eq_true c1,eq_true c2,eq_true c3,c4]
      · simp (disch:=omega) [w415,eq_true c1,eq_true c2,c3]
    · simp (disch:=omega) [w415,eq_true c1,c2]
  · simp (disch:=omega) [w415,c1]
end Go.D
end
section
namespace Go.D
open Go Go.Pav Go.Pw P
attribute [-simp] List.getElem_cons_drop
variable {C:WProg}
structure Hd where
 k:Int
 t:Int
 n:Nd
@[simp] def eHd (h:Hd):List AV:=.int .u64 h.k::.int .u8 h.t::h.n.c
abbrev Pl:=List Hd × Bool
@[simp] def ePl (p:Pl):List AV:=[.ro 8 (p.1.map eHd) p.2]
abbrev aSt (rows:List Hd) (re:Bool) (ps:List Pl) (pe:Bool):AV:=.agg [.ro 8 (rows.map eHd) re,.ro 1 (ps.map ePl) pe]
@[simp] def eAt (a:Nat):List AV:=[.int .i64 a]
structure HasQo (C:WProg):Prop extends HasEq C,HasR C where
 f435:C.fns.get 435=some w435
 f436:C.fns.get 436=some w436
 f437:C.fns.get 437=some w437
 f286:C.fns.get 286=some w286
 f297:C.fns.get 297=some w297
 f284:C.fns.get 284=some w284
def atF (k:Int):Nat→List Hd→Int
 | _,[]=>-1
 | i,h::r=>if h.k=k then i else atF k (i+1) r
theorem qrat_loop (H:HasQo C) (l:List Hd) (e:Bool) (k:Int) (hl:l.length≤1000000):∀ n i,n+i=l.length →
 w436_K0 C ⟨[(5,.int .i64 i),(1,.int .u64 k),(0,.ro 8 (l.map eHd) e)],[],0⟩=some (.int .i64 (atF k i (l.drop i))):=by
 intro n
 induction n with
 | zero =>
  intro i hi
  have h1:l.drop i=[]:=List.drop_eq_nil_of_le (by omega)
  have h3:¬ i < l.length:=by omega
  simp only [w436_K0];rw [ck_unf w436_B0.eq_1]
  simp [ck_unf w436_c0.eq_1,h1,h3,atF]
 | succ n ih =>
  intro i hi
  have h1:i < l.length:=by omega
  have:=ih (i+1) (by omega)
  rw [drop_cons h1]
  simp only [w436_K0] at this ⊢;rw [ck_unf w436_B0.eq_1]
  simp at this
  by_cases c:l[i].k=k
  · simp (disch:=omega) [h1,wI64,c,atF]
  · simp (disch:=omega) [h1,wI64,c,atF,this]
theorem at_row (H:HasQo C) (l:List Hd) (e:Bool) (k:Int) (hl:l.length≤1000000):FnW C 436 [.ro 8 (l.map eHd) e,.int .u64 k]=some (.int .i64 (atF k 0 l)):=by
 have h:=qrat_loop H l e k hl l.length 0 (by simp)
 rw [fnW_eq H.f436 rfl]
 simp only [w436_K0] at h
 simp at h
 simp [w436,h]
def stF (h:Hd) (l:List En) (A:List Nat):Bool:=A.any fun a=>match l[a]? with
 | some e=>decide (e.i.k=h.k)&&decide (e.i.t=h.t)
 | none=>false
theorem rst_loop (H:HasQo C) (h:Hd) (l:List En) (e f:Bool) (A:List Nat) (hA:A.length≤1000000) (hb:∀ a ∈ A,a < l.length):∀ n i,n+i=A.length →
 w435_K0 C ⟨[(7,.int .i64 i),(3,.ptr 0 0 0),(2,.ro 1 (A.map eAt) f),(1,.ro 6 (l.map eEn) e)],[(0,.cells 8 [eHd h] true true)],1⟩=some (.int .i64 (if stF h l (A.drop i)=true then 1 else 0)):=by
 intro n
 induction n with
 | zero =>
  intro i hi
  have h1:A.drop i=[]:=List.drop_eq_nil_of_le (by omega)
  have h3:¬ i < A.length:=by omega
  simp only [w435_K0];rw [ck_unf w435_B0.eq_1]
  simp [ck_unf w435_c0.eq_1,h1,h3,stF]
 | succ n ih =>
  intro i hi
  have h1:i < A.length:=by omega
  have hai:=hb _ (List.getElem_mem h1)
  have:=ih (i+1) (by omega)
  have hs:stF h l (A.drop i)=((decide (l[A[i]].i.k=h.k)&&decide (l[A[i]].i.t=h.t))||stF h l (A.drop (i+1))):=by
   rw [drop_cons h1]
   simp only [stF,List.any_cons,List.getElem?_eq_getElem hai]
  rw [hs]
  simp only [w435_K0] at this ⊢;rw [ck_unf w435_B0.eq_1]
  simp at this
  by_cases c:l[A[i]].i.k=h.k
  · by_cases c2:l[A[i]].i.t=h.t
    · simp (disch:=omega) [h1,hai,wI64,c,c2]
    · simp (disch:=omega) [h1,hai,wI64,c,c2,this]
  · simp (disch:=omega) [h1,hai,wI64,c,this]
theorem stays_ok (H:HasQo C) (h:Hd) (l:List En) (e f:Bool) (A:List Nat) (hA:A.length≤1000000) (hb:∀ a ∈ A,a < l.length) :
 FnW C 435 [.agg (eHd h),.ro 6 (l.map eEn) e,.ro 1 (A.map eAt) f]=some (.int .i64 (if stF h l A=true then 1 else 0)):=by
 have h1:=rst_loop H h l e f A hA hb A.length 0 (by simp)
 rw [fnW_eq H.f435 rfl]
 simp only [w435_K0] at h1
 simp at h1
 simp [w435,h1]
def sameH:List Hd→List Hd→Bool
 | [],[]=>true
 | a::l,b::r=>decide (a.k=b.k)&&decide (a.t=b.t)&&eqN a.n b.n&&sameH l r
 | _,_=>false
theorem sameH_len:∀ l r,sameH l r=true→l.length=r.length
 | [],[],_=>rfl
 | a::l,b::r,h=>by simp only [sameH,Bool.and_eq_true] at h;simp [sameH_len l r h.2]
 | [],_::_,h=>by cases h
 | _::_,[],h=>by cases h
theorem rsr_loop (H:HasQo C) (a b:List Hd) (e f:Bool) (hl:a.length=b.length) (hb:a.length≤1000000) (hi:∀ x ∈ a,NdIn x.n):∀ n i,n+i=a.length →
 w437_K0 C ⟨[(5,.int .i64 i),(1,.ro 8 (b.map eHd) f),(0,.ro 8 (a.map eHd) e)],[],0⟩=some (.int .i64 (if sameH (a.drop i) (b.drop i)=true then 1 else 0)):=by
 intro n
 induction n with
 | zero =>
  intro i hi'
  have h1:a.drop i=[]:=List.drop_eq_nil_of_le (by omega)
  have h2:b.drop i=[]:=List.drop_eq_nil_of_le (by omega)
  have h3:¬ i < a.length:=by omega
  simp only [w437_K0];rw [ck_unf w437_B0.eq_1]
  simp [ck_unf w437_c0.eq_1,h1,h2,h3,sameH]
 | succ n ih =>
  intro i hi'
  have h1:i < a.length:=by omega
  have h2:i < b.length:=by omega
  have ht:=stree_ok H.toHasEq (hi _ (List.getElem_mem h1)) b[i].n
  have:=ih (i+1) (by omega)
  rw [drop_cons h1,drop_cons h2]
  simp only [w437_K0] at this ⊢;rw [ck_unf w437_B0.eq_1]
  simp at this
  by_cases c1:a[i].k=b[i].k
  · by_cases c2:a[i].t=b[i].t
    · by_cases c3:eqN a[i].n b[i].n=true
      · rw [if_pos c3] at ht
        simp (disch:=omega) [h1,h2,wI64,c1,c2,c3,ht,sameH,H.toHasEq.inl,inlB,H.toHasEq.pp,ppB,this]
      · rw [if_neg c3] at ht
        have c3:eqN a[i].n b[i].n=false:=by simpa using c3
        simp (disch:=omega) [h1,h2,wI64,c1,c2,c3,ht,sameH,H.toHasEq.inl,inlB,H.toHasEq.pp,ppB]
    · simp (disch:=omega) [h1,h2,wI64,c1,c2,sameH]
  · simp (disch:=omega) [h1,h2,wI64,c1,sameH]
theorem srows_ok (H:HasQo C) (a b:List Hd) (e f:Bool) (hb:a.length≤1000000) (hi:∀ x ∈ a,NdIn x.n):FnW C 437 [.ro 8 (a.map eHd) e,.ro 8 (b.map eHd) f]=some (.int .i64 (if sameH a b=true then 1 else 0)):=by
 rw [fnW_eq H.f437 rfl]
 by_cases hl:a.length=b.length
 · have h1:=rsr_loop H a b e f hl hb hi a.length 0 (by simp)
   simp only [w437_K0] at h1
   simp at h1
   simp [w437,hl,h1]
 · have:sameH a b=false:=by
    cases h:sameH a b
    · rfl
    · exact absurd (sameH_len a b h) hl
   simp [w437,hl,this]
end Go.D
end
section
namespace Go.D
open Go Go.Pav Go.Pw P
attribute [-simp] List.getElem_cons_drop
variable {C:WProg}
def samePs:List Pl→List Pl→Bool
 | [],[]=>true
 | a::l,b::r=>sameH a.1 b.1&&samePs l r
 | _,_=>false
theorem samePs_len:∀ l r,samePs l r=true→l.length=r.length
 | [],[],_=>rfl
 | a::l,b::r,h=>by simp only [samePs,Bool.and_eq_true] at h;simp [samePs_len l r h.2]
 | [],_::_,h=>by cases h
 | _::_,[],h=>by cases h
structure HdIn (l:List Hd):Prop where
 len:l.length≤1000000
 nd:∀ x ∈ l,NdIn x.n
theorem rhs_loop (H:HasQo C) (ra rb:List Hd) (ea eb:Bool) (a b:List Pl) (e f:Bool) (hl:a.length=b.length) (hb:a.length≤1000000) (hi:∀ p ∈ a,HdIn p.1):∀ n i,n+i=a.length →
 w286_K0 C ⟨[(5,.int .i64 i),(3,.ptr 0 0 0),(2,.ptr 1 0 0)],[(0,.cells 2 [[.ro 8 (rb.map eHd) eb,.ro 1 (b.map ePl) f]] true true),(1,.cells 2 [[.ro 8 (ra.map eHd) ea,.ro 1 (a.map ePl) e]] true true)],2⟩=some (.int .i64 (if samePs (a.drop i) (b.drop i)=true then 1 else 0)):=by
 intro n
 induction n with
 | zero =>
  intro i hi'
  have h1:a.drop i=[]:=List.drop_eq_nil_of_le (by omega)
  have h2:b.drop i=[]:=List.drop_eq_nil_of_le (by omega)
  have h3:¬ i < a.length:=by omega
  simp only [w286_K0];rw [ck_unf w286_B0.eq_1]
  simp [ck_unf w286_c0.eq_1,h1,h2,h3,samePs]
 | succ n ih =>
  intro i hi'
  have h1:i < a.length:=by omega
  have h2:i < b.length:=by omega
  have hh:=hi _ (List.getElem_mem h1)
  have ht:=srows_ok H a[i].1 b[i].1 a[i].2 b[i].2 hh.len hh.nd
  have:=ih (i+1) (by omega)
  rw [drop_cons h1,drop_cons h2]
  simp only [w286_K0] at this ⊢;rw [ck_unf w286_B0.eq_1]
  simp at this
  try simp at ht
  by_cases c1:sameH a[i].1 b[i].1=true
  · rw [if_pos c1] at ht
    simp (disch:=omega) [h1,h2,wI64,c1,ht,samePs,H.toHasEq.inl,inlB,H.toHasEq.pp,ppB,this]
  · rw [if_neg c1] at ht
    have c1:sameH a[i].1 b[i].1=false:=by simpa using c1
    simp (disch:=omega) [h1,h2,wI64,c1,ht,samePs,H.toHasEq.inl,inlB,H.toHasEq.pp,ppB]
theorem rhsame_ok (H:HasQo C) (ra rb:List Hd) (ea eb:Bool) (a b:List Pl) (e f:Bool) (h0:HdIn ra) (hb:a.length≤1000000) (hi:∀ p ∈ a,HdIn p.1) :
 FnW C 286 [aSt ra ea a e,aSt rb eb b f]=some (.int .i64 (if (sameH ra rb&&samePs a b)=true then 1 else 0)):=by
 have h1:=srows_ok H ra rb ea eb h0.len h0.nd
 rw [fnW_eq H.f286 rfl]
 try simp at h1
 by_cases c1:sameH ra rb=true
 · rw [if_pos c1] at h1
   by_cases hl:a.length=b.length
   · have h2:=rhs_loop H ra rb ea eb a b e f hl hb hi a.length 0 (by simp)
     simp only [w286_K0] at h2
     simp at h2
     simp [w286,H.toHasEq.inl,inlB,H.toHasEq.pp,ppB,h1,c1,hl]
     simpa [hl] using h2
   · have:samePs a b=false:=by
      cases h:samePs a b
      · rfl
      · exact absurd (samePs_len a b h) hl
     simp [w286,H.toHasEq.inl,inlB,H.toHasEq.pp,ppB,h1,c1,hl,this]
 · rw [if_neg c1] at h1
   have c1:sameH ra rb=false:=by simpa using c1
   simp [w286,H.toHasEq.inl,inlB,H.toHasEq.pp,ppB,h1,c1]
def okS (l:List Hd):Bool:=l.all fun h=>decide (cnt h.n≠0)
def cntS:List Hd→Nat
 | []=>0
 | h::r=>cnt h.n+cntS r
def okL (L:List (List Hd)):Bool:=L.all okS
def cntL:List (List Hd)→Nat
 | []=>0
 | l::r=>cntS l+cntL r
def live (L:List (List Hd)):Int:=if okL L=true then 1+(cntL L:Nat) else 0
theorem okL_cons (l:List Hd) (L:List (List Hd)):okL (l::L)=(okS l&&okL L):=rfl
theorem live_bad {l:List Hd} (L:List (List Hd)) (c:okS l=false):live (l::L)=0:=by simp [live,okL_cons,c]
theorem live_ok {l:List Hd} (L:List (List Hd)) (c:okS l=true):live (l::L)=if okL L=true then 1+((cntS l:Nat):Int)+(cntL L:Nat) else 0:=by simp [live,okL_cons,c,cntL,Int.add_assoc]
theorem cnt_le (n:Nd):cnt n≤64:=by rw [cnt_rc];split <;> omega
theorem cntS_le:∀ l:List Hd,cntS l≤64 * l.length
 | []=>by simp [cntS]
 | h::r=>by have:=cnt_le h.n;have:=cntS_le r;simp only [cntS,List.length_cons];omega
section
variable (ra:List Hd) (ea:Bool) (ps:List Pl) (pe:Bool)
abbrev hpL:WHeap:=[(0,.cells 2 [[.ro 8 (ra.map eHd) ea,.ro 1 (ps.map ePl) pe]] true true)]
theorem lv_in (H:HasQo C) (l:List Hd) (e:Bool) (i:Int) (hl:l.length≤1000000):∀ m k,m+k=l.length→∀ n:Int,0≤n→n+64 * m≤1000000000000000 →
 (okS (l.drop k)=false→w297_K1 C ⟨[(6,.int .i64 k),(5,.ro 8 (l.map eHd) e),(4,.int .i64 i),(3,.int .i64 n),(1,.ptr 0 0 0)],hpL ra ea ps pe,1⟩=some (.int .i64 0)) ∧
 (okS (l.drop k)=true→w297_K1 C ⟨[(6,.int .i64 k),(5,.ro 8 (l.map eHd) e),(4,.int .i64 i),(3,.int .i64 n),(1,.ptr 0 0 0)],hpL ra ea ps pe,1⟩ =
  CK C 0 (pureFin [.tmp 2]) [.sq w297_L0,.bk 0 ⟨true,[3],[]⟩,.sq w297_c0] w297_c1 ⟨[(4,.int .i64 i),(3,.int .i64 (n+(cntS (l.drop k):Nat))),(1,.ptr 0 0 0)],hpL ra ea ps pe,1⟩):=by
 intro m
 induction m with
 | zero =>
  intro k hk n h0 h1
  have h2:l.drop k=[]:=List.drop_eq_nil_of_le (by omega)
  have h3:¬ k < l.length:=by omega
  rw [h2]
  refine ⟨fun h=>by simp [okS] at h,fun _=>?_⟩
  simp only [w297_K1];rw [ck_unf w297_B1.eq_1]
  simp [h3,cntS]
 | succ m ih =>
  intro k hk n h0 h1
  have h3:k < l.length:=by omega
  have hr1:=rCheck_ok H.toHasR l[k].n
  have hr2:=rCount_ok H.toHasR l[k].n
  have hc:=cnt_le l[k].n
  have hm:mapO (frzW (hpL ra ea ps pe) 15) l[k].n.c=some l[k].n.c:=l[k].n.c_frz _ 14
  rw [drop_cons h3]
  by_cases c:cnt l[k].n=0
  · rw [if_pos c] at hr1
    have ho:okS (l[k]::l.drop (k+1))=false:=by simp [okS,c]
    rw [ho]
    refine ⟨fun _=>?_,fun h=>by cases h⟩
    simp only [w297_K1];rw [ck_unf w297_B1.eq_1]
    simp (disch:=omega) [h3,hr1,H.toHasEq.inl,inlB,H.toHasEq.pp,ppB]
  · rw [if_neg c] at hr1
    have ho:okS (l[k]::l.drop (k+1))=okS (l.drop (k+1)):=by simp [okS,c]
    have:=ih (k+1) (by omega) (n+(cnt l[k].n:Nat)) (by omega) (by omega)
    rw [ho]
    simp only [cntS,w297_K1] at this ⊢;rw [ck_unf w297_B1.eq_1]
    simp (disch:=omega) [h3,hr1,hr2,H.toHasEq.inl,inlB,H.toHasEq.pp,ppB,wI64]
    simp at this
    refine ⟨this.1,fun q=>?_⟩
    rw [this.2 q]
    simp [Int.add_assoc]
theorem lv_out (H:HasQo C) (hps:∀ p ∈ ps,p.1.length≤1000000) (hpl:ps.length≤1000000):∀ m j,m+j=ps.length→∀ n:Int,0≤n→n+64000000 * m≤1000000000000000 →
 w297_K0 C ⟨[(4,.int .i64 (j:Nat)),(3,.int .i64 n),(1,.ptr 0 0 0)],hpL ra ea ps pe,1⟩=some (.int .i64 (if okL ((ps.drop j).map (·.1))=true then n+(cntL ((ps.drop j).map (·.1)):Nat) else 0)):=by
 intro m
 induction m with
 | zero =>
  intro j hj n h0 h1
  have h2:ps.drop j=[]:=List.drop_eq_nil_of_le (by omega)
  have h3:¬ j < ps.length:=by omega
  simp only [w297_K0];rw [ck_unf w297_B0.eq_1]
  simp [ck_unf w297_c0.eq_1,h2,h3,okL,cntL]
 | succ m ih =>
  intro j hj n h0 h1
  have h3:j < ps.length:=by omega
  have hl:=hps _ (List.getElem_mem h3)
  have hc:=cntS_le ps[j].1
  obtain ⟨i1,i2⟩:=lv_in ra ea ps pe H ps[j].1 ps[j].2 (j:Nat) hl ps[j].1.length 0 (by simp) n h0 (by omega)
  rw [List.drop_zero] at i1 i2
  rw [drop_cons h3]
  simp only [List.map_cons,okL,List.all_cons,cntL]
  simp only [w297_K0,w297_K1] at i1 i2 ⊢;rw [ck_unf w297_B0.eq_1]
  have hj0:¬ (j:Int) < 0:=by omega
  cases c:okS ps[j].1
  · have:=i1 c
    simp at this
    simp (disch:=omega) [h3,hj0,this]
  · have:=i2 c
    have h4:=ih (j+1) (by omega) (n+(cntS ps[j].1:Nat)) (by omega) (by omega)
    simp only [w297_K0,okL] at h4
    simp at this h4
    simp (disch:=omega) [h3,hj0,this,ck_unf w297_c1.eq_1,wI64,h4,Int.add_assoc]
end
theorem rhlive_ok (H:HasQo C) (ra:List Hd) (ea:Bool) (ps:List Pl) (pe:Bool) (hra:ra.length≤1000000) (hps:∀ p ∈ ps,p.1.length≤1000000) (hpl:ps.length≤1000):FnW C 297 [aSt ra ea ps pe]=some (.int .i64 (live (ra::ps.map (·.1)))):=by
 obtain ⟨i1,i2⟩:=lv_in ra ea ps pe H ra ea (-1) hra ra.length 0 (by simp) 1 (by omega) (by omega)
 have hc:=cntS_le ra
 rw [List.drop_zero] at i1 i2
 rw [fnW_eq H.f297 rfl]
 simp only [w297_K1] at i1 i2
 by_cases c:okS ra=true
 rotate_left
 · have c:okS ra=false:=by simpa using c
   have:=i1 c
   rw [live_bad _ c]
   simp at this
   have hng:(-1:Int) < (ps.length:Int):=by omega
   simp [w297]
   rw [ck_unf w297_B0.eq_1]
   simp (disch:=omega) [this,hng]
 · have:=i2 c
   have h4:=lv_out ra ea ps pe H hps (by omega) ps.length 0 (by simp) (1+(cntS ra:Nat)) (by omega) (by omega)
   rw [List.drop_zero] at h4
   rw [live_ok _ c]
   generalize (if okL (ps.map (·.1))=true then 1+((cntS ra:Nat):Int)+(cntL (ps.map (·.1)):Nat) else 0)=Z at *
   simp only [w297_K0] at h4
   simp at this h4
   have hng:(-1:Int) < (ps.length:Int):=by omega
   simp [w297]
   rw [ck_unf w297_B0.eq_1]
   simp (disch:=omega) [this,hng]
   rw [ck_unf w297_c1.eq_1]
   simp (disch:=omega) [wI64,h4]
def bitF (x:Nat):Nat→Nat→List Nat
 | _,0=>[]
 | i,m+1=>if x / 2 ^ i % 2=1 then i::bitF x (i+1) m else bitF x (i+1) m
theorem bitF_in (x:Nat):∀ m i,∀ a ∈ bitF x i m,i≤a∧a < i+m
 | 0,_,a,h=>by simp [bitF] at h
 | m+1,i,a,h=>by
  simp only [bitF] at h
  split at h
  · rcases List.mem_cons.1 h with rfl | h
    · omega
    · have:=bitF_in x m (i+1) a h;omega
  · have:=bitF_in x m (i+1) a h;omega
theorem bitF_nd (x:Nat):∀ m i,(bitF x i m).Nodup
 | 0,_=>by simp [bitF]
 | m+1,i=>by
  simp only [bitF]
  split
  · refine List.nodup_cons.2 ⟨fun h=>?_,bitF_nd x m (i+1)⟩
    have:=bitF_in x m (i+1) i h;omega
  · exact bitF_nd x m (i+1)
theorem bitF_len (x:Nat):∀ m i,(bitF x i m).length≤m
 | 0,_=>by simp [bitF]
 | m+1,i=>by
  have:=bitF_len x m (i+1)
  simp only [bitF];split <;> simp <;> omega
theorem bit_eq (x i:Nat) (hi:i < 16):((x:Int).fdiv (2 ^ min i IntKind.u16.bits)).tmod 2=((x / 2 ^ i % 2:Nat):Int):=by
 have h1:min i IntKind.u16.bits=i:=by show min i 16=i;omega
 rw [h1]
 have h2:((x:Int).fdiv (2 ^ i))=((x / 2 ^ i:Nat):Int):=by
  rw [Int.fdiv_eq_ediv_of_nonneg _ (Int.le_of_lt (Int.pow_pos (by omega)))]
  rw [Int.natCast_ediv,Int.natCast_pow];rfl
 rw [h2]
 rfl
theorem bits_loop (H:HasQo C) (x n:Nat) (hx:x≤65535) (hn:n≤1000000):∀ m i,m+i=min n 16→∀ G:List Nat,G.length≤i →
 w284_K0 C ⟨[(6,.int .i64 i),(5,.sl 0 1 0 G.length G.length false),(1,.int .i64 n),(0,.int .u16 x)],[(0,.cells 1 (G.map eAt) true true)],1⟩=some (.ro 1 ((G++bitF x i m).map eAt) false):=by
 intro m
 induction m with
 | zero =>
  intro i hi G hG
  have hT:List.take G.length (List.map eAt G)=List.map eAt G:=List.take_of_length_le (by simp)
  simp only [w284_K0];rw [ck_unf w284_B0.eq_1]
  by_cases c:(i:Int) < n
  · have c2:¬ (i:Int) < 16:=by omega
    simp [c,c2,ck_unf w284_c0.eq_1,bitF,hT]
  · simp [c,ck_unf w284_c0.eq_1,bitF,hT]
 | succ m ih =>
  intro i hi G hG
  have c:(i:Int) < n:=by omega
  have c2:(i:Int) < 16:=by omega
  simp only [bitF]
  simp only [w284_K0] at ih ⊢;rw [ck_unf w284_B0.eq_1]
  by_cases cb:x / 2 ^ i % 2=1
  · have:=ih (i+1) (by omega) (G++[i]) (by simp;omega)
    have hft:(G.length+1) * 9≤35184372088832:=by omega
    rw [if_pos cb]
    simp at this
    simp (disch:=omega) [c,c2,wI64,bit_eq,cb,hft,this]
  · have:=ih (i+1) (by omega) G (by omega)
    have cb0:x / 2 ^ i % 2=0:=by omega
    rw [if_neg cb]
    simp at this
    simp (disch:=omega) [c,c2,wI64,bit_eq,cb0,this]
theorem bits_ok (H:HasQo C) (x n:Nat) (hx:x≤65535) (hn:n≤1000000):FnW C 284 [.int .u16 x,.int .i64 n]=some (.ro 1 ((bitF x 0 (min n 16)).map eAt) false):=by
 have:=bits_loop H x n hx hn (min n 16) 0 rfl [] (by simp)
 rw [fnW_eq H.f284 rfl]
 simp only [w284_K0] at this
 simp at this
 simp [w284,this]
end Go.D
end
section
namespace Go.Pw
open Go Go.Pav
theorem getPut {α:Type} (l:List (Nat × α)) (k:Nat) (x:α) (j:Nat):Pav.get (Pav.put l k x) j=if k=j then some x else Pav.get l j:=get_put l k x j
theorem getPut_self {α:Type} (l:List (Nat × α)) (k:Nat) (x:α):Pav.get (Pav.put l k x) k=some x:=by rw [getPut,if_pos rfl]
theorem getPut_ne {α:Type} {l:List (Nat × α)} {k:Nat} {x:α} {j:Nat} (h:k≠j):Pav.get (Pav.put l k x) j=Pav.get l j:=by rw [getPut,if_neg h]
theorem putPut {α:Type} (l:List (Nat × α)) (k:Nat) (x y:α):Pav.put (Pav.put l k x) k y=Pav.put l k y:=by
 induction l with
 | nil=>simp [Pav.put]
 | cons a r ih =>
  obtain ⟨j,v⟩:=a
  simp only [Pav.put]
  by_cases h1:j=k
  · simp [h1,Pav.put]
  · by_cases h2:k≤j
    · simp [h1,h2,Pav.put]
    · simp [h1,h2,Pav.put,ih]
theorem getDel {α:Type} (l:List (Nat × α)) (k:Nat) (j:Nat):Pav.get (Pav.del l k) j=if k=j then none else Pav.get l j:=get_del l k j
theorem getDel_ne {α:Type} {l:List (Nat × α)} {k:Nat} {j:Nat} (h:k≠j):Pav.get (Pav.del l k) j=Pav.get l j:=by rw [getDel,if_neg h]
theorem ltF {a b:Nat} (h:a < b):(a=b)=False:=eq_false (by omega)
theorem gtF {a b:Nat} (h:b < a):(a=b)=False:=eq_false (by omega)
theorem neF {a b:Nat} (h:a≠b):(a=b)=False:=eq_false h
structure Rw where
 i:Nat
 len:Nat
 cap:Nat
 es:List (List AV)
abbrev Rw.of (es:List (List AV)):Rw:=⟨0,es.length,es.length,es⟩
def Rw.c (w:Rw):List (List AV):=(w.es.drop w.i).take w.len
def Rw.v (z b:Nat) (w:Rw):AV:=match w.es with
 | []=>.ro z [] true
 | _::_=>if w.cap=0 then .ro z [] false else .sl b z w.i w.len w.cap false
def Rw.d (z:Nat) (w:Rw):AV:=match w.es with
 | []=>.ro z [] true
 | _::_=>.ro z w.c false
structure Rw.Ok (w:Rw):Prop where
 le:w.i+w.len≤w.es.length
 c0:w.cap=0→w.len=0
structure Nst (z:Nat) (h:WHeap) (lo hi:Nat) (id:Nat→Nat) (cs:List (List AV)) (W:List Rw):Prop where
 len:cs.length=W.length
 bd:∀ i,i < W.length→lo≤id i∧id i < hi
 inj:∀ i j,i < W.length→j < W.length→id i=id j→i=j
 cell:∀ (i:Nat) (w:Rw),W[i]?=some w→cs[i]?=some [w.v z (id i)]
 blk:∀ (i:Nat) (w:Rw),W[i]?=some w→w.es≠[]→Pav.get h (id i)=some (.cells z w.es true true)
 ok:∀ w,w ∈ W→w.Ok
section
variable {z:Nat} {h h':WHeap} {lo hi hi':Nat} {id:Nat→Nat} {cs:List (List AV)} {W:List Rw}
theorem Nst.nil:Nst z h lo hi id [] []:=⟨rfl,fun i h=>by simp at h,fun i j h=>by simp at h,fun i w h=>by simp at h,fun i w h=>by simp at h,fun w h=>by simp at h⟩
theorem Nst.mono (R:Nst z h lo hi id cs W) (hh:hi≤hi') (hg:∀ j,lo≤j→j < hi→Pav.get h' j=Pav.get h j):Nst z h' lo hi' id cs W where
 len:=R.len
 bd i hi:=⟨(R.bd i hi).1,Nat.lt_of_lt_of_le (R.bd i hi).2 hh⟩
 inj:=R.inj
 cell:=R.cell
 blk i w hw hn:=by
  have hl:i < W.length:=(List.getElem?_eq_some_iff.1 hw).1
  rw [hg _ (R.bd i hl).1 (R.bd i hl).2]
  exact R.blk i w hw hn
 ok:=R.ok
theorem Nst.snoc (R:Nst z h lo hi id cs W) (b:Nat) (hb:hi≤b) (hb2:lo≤b) (hh:b < hi') (w:Rw) (hw:w.Ok)
 (hg:∀ j,lo≤j→j < hi→Pav.get h' j=Pav.get h j) (hn:w.es≠[]→Pav.get h' b=some (.cells z w.es true true)) :
 Nst z h' lo hi' (fun i=>if i=W.length then b else id i) (cs++[[w.v z b]]) (W++[w]):=by
 have hid:∀ i,i < W.length→(if i=W.length then b else id i)=id i:=fun i hi=>if_neg (by omega)
 have hlt:∀ i,i < (W++[w]).length→i=W.length∨i < W.length:=by intro i hi;simp at hi;omega
 refine ⟨by simp [R.len],?_,?_,?_,?_,?_⟩
 · intro i hi
   rcases hlt i hi with q | q
   · rw [if_pos q];exact ⟨hb2,hh⟩
   · rw [hid i q];exact ⟨(R.bd i q).1,by have:=(R.bd i q).2;omega⟩
 · intro i j hi hj he
   rcases hlt i hi with q | q <;> rcases hlt j hj with q' | q'
   · omega
   · rw [if_pos q,hid j q'] at he;have:=(R.bd j q').2;omega
   · rw [if_pos q',hid i q] at he;have:=(R.bd i q).2;omega
   · rw [hid i q,hid j q'] at he;exact R.inj i j q q' he
 · intro i x hx
   have hi:i < (W++[w]).length:=(List.getElem?_eq_some_iff.1 hx).1
   rcases hlt i hi with q | q
   · subst q
     rw [if_pos rfl]
     simp at hx;subst hx
     rw [← R.len];simp
   · rw [hid i q]
     rw [List.getElem?_append_left q] at hx
     rw [List.getElem?_append_left (by rw [R.len];exact q)]
     exact R.cell i x hx
 · intro i x hx hne
   have hi:i < (W++[w]).length:=(List.getElem?_eq_some_iff.1 hx).1
   rcases hlt i hi with q | q
   · subst q
     rw [if_pos rfl]
     simp at hx;subst hx
     exact hn hne
   · rw [hid i q,hg _ (R.bd i q).1 (R.bd i q).2]
     rw [List.getElem?_append_left q] at hx
     exact R.blk i x hx hne
 · intro x hx
   rcases List.mem_append.1 hx with q | q
   · exact R.ok x q
   · simp at q;subst q;exact hw
theorem Nst.set (R:Nst z h lo hi id cs W) (k:Nat) (hk:k < W.length) (b:Nat) (hb:b=id k∨hi≤b) (hb2:lo≤b) (hh:b < hi') (hhi:hi≤hi') (w:Rw) (hw:w.Ok)
 (hg:∀ j,j < W.length→j≠k→Pav.get h' (id j)=Pav.get h (id j)) (hn:w.es≠[]→Pav.get h' b=some (.cells z w.es true true)) :
 Nst z h' lo hi' (fun i=>if i=k then b else id i) (cs.set k [w.v z b]) (W.set k w):=by
 refine ⟨by simp [R.len],?_,?_,?_,?_,?_⟩
 · intro i hi
   rw [List.length_set] at hi
   by_cases q:i=k
   · rw [if_pos q];exact ⟨hb2,hh⟩
   · rw [if_neg q];exact ⟨(R.bd i hi).1,by have:=(R.bd i hi).2;omega⟩
 · intro i j hi hj he
   rw [List.length_set] at hi hj
   have hne:∀ j,j < W.length→j≠k→b≠id j:=by
    intro j hj q e
    rcases hb with q2 | q2
    · exact q (R.inj j k hj hk (by rw [← e,q2]))
    · have:=(R.bd j hj).2;omega
   by_cases q:i=k <;> by_cases q':j=k
   · omega
   · rw [if_pos q,if_neg q'] at he;exact absurd he (hne j hj q')
   · rw [if_neg q,if_pos q'] at he;exact absurd he.symm (hne i hi q)
   · rw [if_neg q,if_neg q'] at he;exact R.inj i j hi hj he
 · intro i x hx
   by_cases q:i=k
   · subst q
     rw [List.getElem?_set_self hk] at hx
     cases hx
     rw [if_pos rfl,List.getElem?_set_self (by rw [R.len];exact hk)]
   · rw [if_neg q]
     rw [List.getElem?_set_ne (by omega)] at hx ⊢
     exact R.cell i x hx
 · intro i x hx hne
   by_cases q:i=k
   · subst q
     rw [List.getElem?_set_self hk] at hx
     cases hx
     rw [if_pos rfl]
     exact hn hne
   · rw [if_neg q]
     rw [List.getElem?_set_ne (by omega)] at hx
     have hi:i < W.length:=(List.getElem?_eq_some_iff.1 hx).1
     rw [hg i hi q]
     exact R.blk i x hx hne
 · intro x hx
   rcases List.mem_or_eq_of_mem_set hx with q | q
   · exact R.ok x q
   · subst q;exact hw
theorem Nst.frzOne (R:Nst z h lo hi id cs W) (n:Nat) {i:Nat} {w:Rw} (hw:W[i]?=some w):mapO (frzW h (n+2)) [w.v z (id i)]=some [w.d z]:=by
 have hb:=R.blk i w hw
 have hok:=(R.ok w (List.mem_of_getElem? hw)).le
 have hc0:=(R.ok w (List.mem_of_getElem? hw)).c0
 unfold Rw.v Rw.d
 cases he:w.es with
 | nil=>simp [mapO,ob,om]
 | cons a r =>
  simp only
  have:=hb (by simp [he])
  by_cases hcap:w.cap=0
  · rw [if_pos hcap]
    have hl0:=hc0 hcap
    simp [mapO,ob,om,Rw.c,hl0]
  rw [if_neg hcap]
  simp only [mapO,frzW_sl,this,frzS]
  have hl:((w.es.drop w.i).take w.len).length=w.len:=by rw [List.length_take,List.length_drop];omega
  simp [hl,og,ob,Rw.c]
theorem Nst.frz (R:Nst z h lo hi id cs W) (n:Nat):mapO (mapO (frzW h (n+2))) cs=some (W.map fun w=>[w.d z]):=by
 have key:∀ (cs:List (List AV)) (W:List Rw) (id:Nat→Nat),cs.length=W.length→(∀ (i:Nat) (w:Rw),W[i]?=some w→∃ c,cs[i]?=some c∧mapO (frzW h (n+2)) c=some [w.d z])→mapO (mapO (frzW h (n+2))) cs=some (W.map fun w=>[w.d z]):=by
  intro cs
  induction cs with
  | nil=>intro W id hl _;cases W with
   | nil=>rfl
   | cons _ _=>simp at hl
  | cons c cs ih =>
   intro W id hl hc
   cases W with
   | nil=>simp at hl
   | cons w W =>
    obtain ⟨c',h1,h2⟩:=hc 0 w rfl
    simp at h1;subst h1
    have:=ih W (fun i=>id (i+1)) (by simpa using hl) (fun i w hw=>by simpa using hc (i+1) w (by simpa using hw))
    simp only [mapO,h2,this,ob,om,List.map_cons]
 exact key cs W id R.len fun i w hw=>⟨_,R.cell i w hw,R.frzOne n hw⟩
theorem Nst.flat (R:Nst z h lo hi id cs W) (h0:∀ w ∈ W,w.es=[]):cs=W.map fun w=>[w.d z]:=by
 apply List.ext_getElem?
 intro i
 rw [List.getElem?_map]
 cases hw:W[i]? with
 | none =>
  rw [List.getElem?_eq_none_iff] at hw
  rw [List.getElem?_eq_none_iff.2 (by rw [R.len];exact hw)];rfl
 | some w =>
  rw [R.cell i w hw]
  have:=h0 w (List.mem_of_getElem? hw)
  simp [Rw.v,Rw.d,this]
theorem Rw.d_isC (z:Nat) (w:Rw):isC (w.d z)=true:=by unfold Rw.d;split <;> rfl
theorem Nst.frzS (R:Nst z h lo hi id cs W) (n:Nat) {mu dt ex:Bool} (hd:dt=true→∀ w ∈ W,w.es=[]) :
 Pw.frzS h (n+2) 1 0 W.length W.length ex (some (.cells 1 cs mu dt))=some (.ro 1 (W.map fun w=>[w.d z]) ex):=by
 have hl:=R.len
 cases dt with
 | true =>
  have:=R.flat (hd rfl)
  simp only [Pw.frzS,List.drop_zero]
  rw [List.take_of_length_le (by omega),this]
  simp [og]
 | false =>
  simp only [Pw.frzS,List.drop_zero]
  rw [List.take_of_length_le (by omega),R.frz n]
  have:((W.map fun w=>[w.d z]).all fun e=>e.all isC)=true:=by
   rw [List.all_eq_true]
   intro x hx
   obtain ⟨w,_,rfl⟩:=List.mem_map.1 hx
   simp only [List.all_cons,List.all_nil,Rw.d_isC,Bool.and_self]
  simp only [ob,List.length_map,decide_true,this,Bool.and_self,og,Bool.and_true]
theorem ex3 {x:Option (AV × WHeap × Nat)} {P:AV→WHeap→Nat→Prop} {v:AV} {h:WHeap} {n:Nat} (h1:x=some (v,h,n)) (h2:P v h n):∃ v h n,x=some (v,h,n)∧P v h n:=⟨v,h,n,h1,h2⟩
end
end Go.Pw
end
section
namespace Go.Pw
open Go Go.Pav
structure Nst2 {α:Type} (P:Option WObj→Nat→AV→α→Prop) (h:WHeap) (lo hi:Nat) (id:Nat→Nat) (cs:List (List AV)) (D:List α):Prop where
 len:cs.length=D.length
 bd:∀ i,i < D.length→lo≤id i∧id i < hi
 inj:∀ i j,i < D.length→j < D.length→id i=id j→i=j
 row:∀ (i:Nat) (d:α),D[i]?=some d→∃ v,cs[i]?=some [v]∧P (Pav.get h (id i)) (id i) v d
section
variable {α:Type} {P Q:Option WObj→Nat→AV→α→Prop} {h h':WHeap} {lo hi hi':Nat} {id:Nat→Nat} {cs:List (List AV)} {D:List α}
theorem Nst2.nil:Nst2 P h lo hi id [] []:=⟨rfl,fun i h=>by simp at h,fun i j h=>by simp at h,fun i w h=>by simp at h⟩
theorem Nst2.weak (R:Nst2 P h lo hi id cs D) (hq:∀ o b v d,P o b v d→Q o b v d):Nst2 Q h lo hi id cs D :=
 ⟨R.len,R.bd,R.inj,fun i d hd=>by obtain ⟨v,h1,h2⟩:=R.row i d hd;exact ⟨v,h1,hq _ _ _ _ h2⟩⟩
theorem Nst2.mono (R:Nst2 P h lo hi id cs D) (hh:hi≤hi') (hg:∀ j,j < D.length→Pav.get h' (id j)=Pav.get h (id j)):Nst2 P h' lo hi' id cs D where
 len:=R.len
 bd i hi:=⟨(R.bd i hi).1,Nat.lt_of_lt_of_le (R.bd i hi).2 hh⟩
 inj:=R.inj
 row i d hd:=by
  have hl:i < D.length:=(List.getElem?_eq_some_iff.1 hd).1
  rw [hg i hl]
  exact R.row i d hd
theorem Nst2.snoc (R:Nst2 P h lo hi id cs D) (b:Nat) (hb:hi≤b) (hb2:lo≤b) (hh:b < hi') (v:AV) (d:α)
 (hg:∀ j,j < D.length→Pav.get h' (id j)=Pav.get h (id j)) (hp:P (Pav.get h' b) b v d) :
 Nst2 P h' lo hi' (fun i=>if i=D.length then b else id i) (cs++[[v]]) (D++[d]):=by
 have hid:∀ i,i < D.length→(if i=D.length then b else id i)=id i:=fun i hi=>if_neg (by omega)
 have hlt:∀ i,i < (D++[d]).length→i=D.length∨i < D.length:=by intro i hi;simp at hi;omega
 refine ⟨by simp [R.len],?_,?_,?_⟩
 · intro i hi
   rcases hlt i hi with q | q
   · rw [if_pos q];exact ⟨hb2,hh⟩
   · rw [hid i q];exact ⟨(R.bd i q).1,by have:=(R.bd i q).2;omega⟩
 · intro i j hi hj he
   rcases hlt i hi with q | q <;> rcases hlt j hj with q' | q'
   · omega
   · rw [if_pos q,hid j q'] at he;have:=(R.bd j q').2;omega
   · rw [if_pos q',hid i q] at he;have:=(R.bd i q).2;omega
   · rw [hid i q,hid j q'] at he;exact R.inj i j q q' he
 · intro i x hx
   have hi:i < (D++[d]).length:=(List.getElem?_eq_some_iff.1 hx).1
   rcases hlt i hi with q | q
   · subst q
     rw [if_pos rfl]
     simp at hx;subst hx
     refine ⟨v,?_,hp⟩
     rw [← R.len];simp
   · rw [hid i q]
     rw [List.getElem?_append_left q] at hx
     rw [List.getElem?_append_left (by rw [R.len];exact q),hg i q]
     exact R.row i x hx
theorem Nst2.set (R:Nst2 P h lo hi id cs D) (k:Nat) (hk:k < D.length) (b:Nat) (hb:b=id k∨hi≤b) (hb2:lo≤b) (hh:b < hi') (hhi:hi≤hi') (v:AV) (d:α)
 (hg:∀ j,j < D.length→j≠k→Pav.get h' (id j)=Pav.get h (id j)) (hp:P (Pav.get h' b) b v d) :
 Nst2 P h' lo hi' (fun i=>if i=k then b else id i) (cs.set k [v]) (D.set k d):=by
 refine ⟨by simp [R.len],?_,?_,?_⟩
 · intro i hi
   rw [List.length_set] at hi
   by_cases q:i=k
   · rw [if_pos q];exact ⟨hb2,hh⟩
   · rw [if_neg q];exact ⟨(R.bd i hi).1,by have:=(R.bd i hi).2;omega⟩
 · intro i j hi hj he
   rw [List.length_set] at hi hj
   have hne:∀ j,j < D.length→j≠k→b≠id j:=by
    intro j hj q e
    rcases hb with q2 | q2
    · exact q (R.inj j k hj hk (by rw [← e,q2]))
    · have:=(R.bd j hj).2;omega
   by_cases q:i=k <;> by_cases q':j=k
   · omega
   · rw [if_pos q,if_neg q'] at he;exact absurd he (hne j hj q')
   · rw [if_neg q,if_pos q'] at he;exact absurd he.symm (hne i hi q)
   · rw [if_neg q,if_neg q'] at he;exact R.inj i j hi hj he
 · intro i x hx
   by_cases q:i=k
   · subst q
     rw [List.getElem?_set_self hk] at hx
     cases hx
     rw [if_pos rfl]
     exact ⟨v,List.getElem?_set_self (by rw [R.len];exact hk),hp⟩
   · rw [if_neg q]
     rw [List.getElem?_set_ne (by omega)] at hx
     rw [List.getElem?_set_ne (by omega)]
     have hi:i < D.length:=(List.getElem?_eq_some_iff.1 hx).1
     rw [hg i hi q]
     exact R.row i x hx
theorem Nst2.frz {z:Nat} {enc:α→List (List AV)} (R:Nst2 P h lo hi id cs D) (n:Nat) (hf:∀ b v d,P (Pav.get h b) b v d→∃ ex,frzW h (n+2) v=some (.ro z (enc d) ex)) :
 ∃ ps:List (α × Bool),ps.map (·.1)=D∧mapO (mapO (frzW h (n+2))) cs=some (ps.map fun p=>[.ro z (enc p.1) p.2]):=by
 have key:∀ (cs:List (List AV)) (D:List α),cs.length=D.length→(∀ (i:Nat) (d:α),D[i]?=some d→∃ v ex,cs[i]?=some [v]∧frzW h (n+2) v=some (.ro z (enc d) ex)) →
  ∃ ps:List (α × Bool),ps.map (·.1)=D∧mapO (mapO (frzW h (n+2))) cs=some (ps.map fun p=>[.ro z (enc p.1) p.2]):=by
  intro cs
  induction cs with
  | nil=>intro D hl _;cases D with
   | nil=>exact ⟨[],rfl,rfl⟩
   | cons _ _=>simp at hl
  | cons c cs ih =>
   intro D hl hc
   cases D with
   | nil=>simp at hl
   | cons d D =>
    obtain ⟨v,ex,h1,h2⟩:=hc 0 d rfl
    simp at h1;subst h1
    obtain ⟨ps,h3,h4⟩:=ih D (by simpa using hl) (fun i w hw=>by simpa using hc (i+1) w (by simpa using hw))
    exact ⟨(d,ex)::ps,by simp [h3],by simp only [mapO,h2,h4,ob,om,List.map_cons]⟩
 exact key cs D R.len fun i d hd=>by
  obtain ⟨v,h1,h2⟩:=R.row i d hd
  obtain ⟨ex,h3⟩:=hf _ _ _ h2
  exact ⟨v,ex,h1,h3⟩
theorem Nst2.frzS {z:Nat} {enc:α→List (List AV)} (R:Nst2 P h lo hi id cs D) (n:Nat) (hf:∀ b v d,P (Pav.get h b) b v d→∃ ex,frzW h (n+2) v=some (.ro z (enc d) ex)) {mu:Bool} {cap:Nat} {ex:Bool} :
 ∃ (ps:List (α × Bool)) (pe:Bool),ps.map (·.1)=D∧Pw.frzS h (n+2) 1 0 D.length cap ex (some (.cells 1 cs mu false))=some (.ro 1 (ps.map fun p=>[.ro z (enc p.1) p.2]) pe):=by
 obtain ⟨ps,h1,h2⟩:=R.frz n hf
 refine ⟨ps,ex&&decide (cap=D.length),h1,?_⟩
 have hl:=R.len
 have hpl:ps.length=D.length:=by rw [← h1];simp
 simp only [Pw.frzS,List.drop_zero]
 rw [List.take_of_length_le (by omega),h2]
 have:((ps.map fun p=>[AV.ro z (enc p.1) p.2]).all fun e=>e.all isC)=true:=by
  rw [List.all_eq_true]
  intro x hx
  obtain ⟨w,_,rfl⟩:=List.mem_map.1 hx
  rfl
 simp only [ob,List.length_map,hpl,decide_true,this,Bool.and_self,og]
end
end Go.Pw
end
section
namespace Go.D
open Go Go.Pav Go.Pw P
set_option maxHeartbeats 1000000
attribute [-simp] List.getElem_cons_drop
variable {C:WProg}
abbrev eHs (l:List Hd):List (List AV):=l.map eHd
def FullH (o:Option WObj) (b:Nat) (v:AV) (d:List Hd):Prop :=
 (d=[]∧v=.sl b 8 0 0 0 true∧o=some (.cells 8 [] true true))∨(d≠[]∧v=.sl b 8 0 d.length d.length false∧o=some (.cells 8 (eHs d) true true))
def AnyH (o:Option WObj) (b:Nat) (v:AV) (d:List Hd):Prop :=
 ∃ cap ex es,v=.sl b 8 0 d.length cap ex∧d.length≤cap∧d.length≤es.length∧es.take d.length=d∧o=some (.cells 8 (eHs es) true true)
theorem FullH.any {o:Option WObj} {b:Nat} {v:AV} {d:List Hd} (h:FullH o b v d):AnyH o b v d:=by
 rcases h with ⟨rfl,h1,h2⟩ | ⟨h0,h1,h2⟩
 · exact ⟨0,true,[],by simpa using h1,by simp,by simp,by simp,by simpa using h2⟩
 · exact ⟨d.length,false,d,h1,Nat.le_refl _,Nat.le_refl _,by simp,h2⟩
theorem AnyH.frz {h:WHeap} {b:Nat} {v:AV} {d:List Hd} (q:AnyH (Pav.get h b) b v d) (n:Nat):∃ ex,frzW h (n+2) v=some (.ro 8 (eHs d) ex):=by
 obtain ⟨cap,ex,es,rfl,h1,h2,h3,h4⟩:=q
 refine ⟨ex&&decide (cap=d.length),?_⟩
 have h5:List.take d.length (eHs es)=eHs d:=by rw [← List.map_take,h3]
 rw [frzW_sl,h4]
 simp only [Pw.frzS,List.drop_zero,h5,List.length_map,decide_true,og]
structure CpI (ra:List Hd) (ea:Bool) (ps:List Pl) (pe:Bool) (Rv:AV) (q rr bx lo:Nat) (i:Nat) (h0 h:WHeap) (next:Nat) (cs:List (List AV)) (pb:Nat) (id:Nat→Nat) (dq:Bool):Prop where
 R:Nst2 FullH h lo next id cs ((ps.take i).map (·.1))
 gq:Pav.get h q=some (.cells 2 [[Rv,if i=0 then .ro 1 [] true else .sl pb 1 0 i i false]] true dq)
 gp:i≠0→Pav.get h pb=some (.cells 1 cs true false)
 pl:i≠0→lo≤pb∧pb < next∧∀ j,j < i→id j≠pb
 gb:Pav.get h bx=some (.cells 2 [[.ro 8 (ra.map eHd) ea,.ro 1 (ps.map ePl) pe]] true true)
 gr:Pav.get h rr=some (.cells 2 [[.ro 8 [] true,.ro 1 [] true]] true true)
 lt:q < lo∧rr < lo∧bx < lo∧q≠rr∧q≠bx∧rr≠bx∧lo≤next
 un:∀ j,j < lo→j≠q→Pav.get h j=Pav.get h0 j
def CpP (ps:List Pl) (Rv:AV) (q rr lo next:Nat) (h0:WHeap) (v:AV) (h':WHeap) (n':Nat):Prop :=
 ∃ pb cs id,v=.agg [Rv,.sl pb 1 0 ps.length ps.length false]∧Nst2 FullH h' lo n' id cs (ps.map (·.1))∧Pav.get h' pb=some (.cells 1 cs true false)∧lo≤pb∧pb < n'∧(∀ j,j < ps.length→id j≠pb)∧next≤n' ∧
  ∀ j,j < lo→j≠q→j≠rr→Pav.get h' j=Pav.get h0 j
theorem cps_loopn (base:Nat) (ra:List Hd) (ea:Bool) (ps:List Pl) (pe:Bool) (q rr bx lo:Nat) (h0:WHeap) (hps:ps.length≤1000) (hpos:0 < ps.length) (hr:∀ p ∈ ps,p.1.length≤1000000):∀ m i,m+i=ps.length→∀ (h:WHeap) (next:Nat) (cs:List (List AV)) (pb:Nat) (id:Nat→Nat) (dq:Bool),
 CpI ra ea ps pe (.ro 8 [] true) q rr bx lo i h0 h next cs pb id dq →
 ∃ v h' n',CK C base (fnEndW [.cell 2 2 true]) [.sq w293_L0,.bk 0 ⟨true,[3,2],[(9999,65537)]⟩,.sq w293_c0] w293_B0 ⟨[(4,.int .i64 i),(3,.ptr q 0 0),(2,.ptr rr 0 0),(1,.ptr bx 0 0)],h,next⟩ =
  some (v,h',n')∧CpP ps (.ro 8 [] true) q rr lo next h0 v h' n':=by
 intro m
 induction m with
 | zero =>
  intro i hi h next cs pb id dq T
  have h3:¬ i < ps.length:=by omega
  have hine:i≠0:=by omega
  have hie:i=ps.length:=by omega
  have R:=T.R
  have gq:=T.gq
  have gp:=T.gp hine
  have pl:=T.pl hine
  have lt:=T.lt
  rw [if_neg hine] at gq
  rw [List.take_of_length_le (by omega)] at R
  subst hie
  rw [ck_unf w293_B0.eq_1]
  apply ex3
  · simp (disch:=omega) [T.gb,h3,ck_unf w293_c0.eq_1,gq,T.gr,getPut_self,getPut_ne]
    exact ⟨rfl,rfl,rfl⟩
  · refine ⟨pb,cs,id,rfl,R.mono (by omega) (fun j hj=>by have:=R.bd j hj;rw [getPut_ne (by omega)]),by rw [getPut_ne (by omega)];exact gp,pl.1,by omega,pl.2.2,by omega,fun j h1 h2 h3=>?_⟩
    rw [getPut_ne (Ne.symm h3)]
    exact T.un j h1 h2
 | succ m ih =>
  intro i hi h next cs pb id dq T
  have h3:i < ps.length:=by omega
  have hri:=hr _ (List.getElem_mem h3)
  have htk:ps.take (i+1)=ps.take i++[ps[i]]:=by rw [List.take_succ_eq_append_getElem h3]
  have htm:(ps.take (i+1)).map (·.1)=(ps.take i).map (·.1)++[ps[i].1]:=by rw [htk,List.map_append];rfl
  have R:=T.R
  have gq:=T.gq
  have lt:=T.lt
  have hlen:((ps.take i).map (·.1)).length=i:=by simp;omega
  have hcl:cs.length=i:=by rw [R.len,hlen]
  rw [ck_unf w293_B0.eq_1]
  by_cases c:ps[i].1=[]
  · by_cases c0:i=0
    · subst c0
      obtain rfl:cs=[]:=List.length_eq_zero_iff.1 hcl
      simp at gq
      have key:CpI ra ea ps pe (.ro 8 [] true) q rr bx lo (0+1) h0 (put (put (put (put h (next+7) (.cells 8 [] true true)) (next+14) (.cells 1 [[.sl (next+7) 8 0 0 0 true]] true false)) (next+15) (.cells 1 ([]++[[.sl (next+7) 8 0 0 0 true]]) true false)) q (.cells 2 [[(.ro 8 [] true),.sl (next+15) 1 0 (0+1) (0+1) false]] true false)) (next+21) ([]++[[.sl (next+7) 8 0 0 0 true]]) (next+15) (fun j=>if j=((ps.take 0).map (·.1)).length then next+7 else id j) false:=by
       refine ⟨by rw [htm];exact R.snoc (next+7) (by omega) (by omega) (by omega) _ _ (fun j hj=>by have:=R.bd j hj;rw [hlen] at hj;simp (disch:=omega) only [getPut_self,getPut_ne,getDel_ne]) (.inl ⟨c,rfl,by simp (disch:=omega) only [getPut_self,getPut_ne,getDel_ne]⟩),?_,fun _=>?_,fun _=>⟨by omega,by omega,fun j hj=>?_⟩,?_,?_,by omega,fun j h1 h2=>?_⟩
       · rw [if_neg (by omega),getPut_self]
       · simp (disch:=omega) only [getPut_self,getPut_ne,getDel_ne]
       · rw [hlen];split
         · omega
         · have:=R.bd j (by omega);omega
       · simp (disch:=omega) only [getPut_self,getPut_ne,getDel_ne];exact T.gb
       · simp (disch:=omega) only [getPut_self,getPut_ne,getDel_ne];exact T.gr
       · rw [← T.un j h1 h2];simp (disch:=omega) only [getPut_self,getPut_ne,getDel_ne]
      obtain ⟨v,h',n',e1,pb',cs',id',e2,e3,e4,e5,e6,e7,e8,e9⟩:=ih (0+1) (by omega) _ _ _ _ _ _ key
      refine ⟨v,h',n',?_,pb',cs',id',e2,e3,e4,e5,e6,e7,by omega,e9⟩
      simp (disch:=omega) [T.gb,h3,gq,getPut_self,getPut_ne,getDel_ne,c,wI64,fits,ltF,gtF,neF]
      simpa using e1
    · rw [if_neg c0] at gq
      have gp:=T.gp c0
      have pl:=T.pl c0
      have hft:(i+1) * 25≤35184372088832:=by omega
      have key:CpI ra ea ps pe (.ro 8 [] true) q rr bx lo (i+1) h0 (put (put (del (put (put h (next+7) (.cells 8 [] true true)) (next+14) (.cells 1 [[.sl (next+7) 8 0 0 0 true]] true false)) pb) (next+15) (.cells 1 (cs++[[.sl (next+7) 8 0 0 0 true]]) true false)) q (.cells 2 [[(.ro 8 [] true),.sl (next+15) 1 0 (i+1) (i+1) false]] true false)) (next+21) (cs++[[.sl (next+7) 8 0 0 0 true]]) (next+15) (fun j=>if j=((ps.take i).map (·.1)).length then next+7 else id j) false:=by
       refine ⟨by rw [htm];exact R.snoc (next+7) (by omega) (by omega) (by omega) _ _ (fun j hj=>by have:=R.bd j hj;rw [hlen] at hj;have:=pl.2.2 j (by omega);simp (disch:=omega) only [getPut_self,getPut_ne,getDel_ne]) (.inl ⟨c,rfl,by simp (disch:=omega) only [getPut_self,getPut_ne,getDel_ne]⟩),?_,fun _=>?_,fun _=>⟨by omega,by omega,fun j hj=>?_⟩,?_,?_,by omega,fun j h1 h2=>?_⟩
       · rw [if_neg (by omega),getPut_self]
       · simp (disch:=omega) only [getPut_self,getPut_ne,getDel_ne]
       · rw [hlen];split
         · omega
         · have:=R.bd j (by omega);omega
       · simp (disch:=omega) only [getPut_self,getPut_ne,getDel_ne];exact T.gb
       · simp (disch:=omega) only [getPut_self,getPut_ne,getDel_ne];exact T.gr
       · rw [← T.un j h1 h2];simp (disch:=omega) only [getPut_self,getPut_ne,getDel_ne]
      obtain ⟨v,h',n',e1,pb',cs',id',e2,e3,e4,e5,e6,e7,e8,e9⟩:=ih (i+1) (by omega) _ _ _ _ _ _ key
      refine ⟨v,h',n',?_,pb',cs',id',e2,e3,e4,e5,e6,e7,by omega,e9⟩
      simp (disch:=omega) [T.gb,h3,gq,getPut_self,getPut_ne,getDel_ne,c,wI64,fits,ltF,gtF,neF,gp,hft,hcl]
      simpa using e1
  · have hft2:ps[i].1.length * 121≤35184372088832:=by omega
    by_cases c0:i=0
    · subst c0
      obtain rfl:cs=[]:=List.length_eq_zero_iff.1 hcl
      simp at gq
      have key:CpI ra ea ps pe (.ro 8 [] true) q rr bx lo (0+1) h0 (put (put (put (put (put h (next+7) (.cells 8 [] true true)) (next+13) (.cells 8 (ps[0].1.map eHd) true true)) (next+14) (.cells 1 [[.sl (next+13) 8 0 ps[0].1.length ps[0].1.length false]] true false)) (next+15) (.cells 1 ([]++[[.sl (next+13) 8 0 ps[0].1.length ps[0].1.length false]]) true false)) q (.cells 2 [[(.ro 8 [] true),.sl (next+15) 1 0 (0+1) (0+1) false]] true false)) (next+21) ([]++[[.sl (next+13) 8 0 ps[0].1.length ps[0].1.length false]]) (next+15) (fun j=>if j=((ps.take 0).map (·.1)).length then next+13 else id j) false:=by
       refine ⟨by rw [htm];exact R.snoc (next+13) (by omega) (by omega) (by omega) _ _ (fun j hj=>by have:=R.bd j hj;rw [hlen] at hj;simp (disch:=omega) only [getPut_self,getPut_ne,getDel_ne]) (.inr ⟨c,rfl,by simp (disch:=omega) only [getPut_self,getPut_ne,getDel_ne]⟩),?_,fun _=>?_,fun _=>⟨by omega,by omega,fun j hj=>?_⟩,?_,?_,by omega,fun j h1 h2=>?_⟩
       · rw [if_neg (by omega),getPut_self]
       · simp (disch:=omega) only [getPut_self,getPut_ne,getDel_ne]
       · rw [hlen];split
         · omega
         · have:=R.bd j (by omega);omega
       · simp (disch:=omega) only [getPut_self,getPut_ne,getDel_ne];exact T.gb
       · simp (disch:=omega) only [getPut_self,getPut_ne,getDel_ne];exact T.gr
       · rw [← T.un j h1 h2];simp (disch:=omega) only [getPut_self,getPut_ne,getDel_ne]
      obtain ⟨v,h',n',e1,pb',cs',id',e2,e3,e4,e5,e6,e7,e8,e9⟩:=ih (0+1) (by omega) _ _ _ _ _ _ key
      refine ⟨v,h',n',?_,pb',cs',id',e2,e3,e4,e5,e6,e7,by omega,e9⟩
      simp (disch:=omega) [T.gb,h3,gq,getPut_self,getPut_ne,getDel_ne,c,wI64,fits,ltF,gtF,neF,hft2]
      simpa using e1
    · rw [if_neg c0] at gq
      have gp:=T.gp c0
      have pl:=T.pl c0
      have hft:(i+1) * 25≤35184372088832:=by omega
      have key:CpI ra ea ps pe (.ro 8 [] true) q rr bx lo (i+1) h0 (put (put (del (put (put (put h (next+7) (.cells 8 [] true true)) (next+13) (.cells 8 (ps[i].1.map eHd) true true)) (next+14) (.cells 1 [[.sl (next+13) 8 0 ps[i].1.length ps[i].1.length false]] true false)) pb) (next+15) (.cells 1 (cs++[[.sl (next+13) 8 0 ps[i].1.length ps[i].1.length false]]) true false)) q (.cells 2 [[(.ro 8 [] true),.sl (next+15) 1 0 (i+1) (i+1) false]] true false)) (next+21) (cs++[[.sl (next+13) 8 0 ps[i].1.length ps[i].1.length false]]) (next+15) (fun j=>if j=((ps.take i).map (·.1)).length then next+13 else id j) false:=by
       refine ⟨by rw [htm];exact R.snoc (next+13) (by omega) (by omega) (by omega) _ _ (fun j hj=>by have:=R.bd j hj;rw [hlen] at hj;have:=pl.2.2 j (by omega);simp (disch:=omega) only [getPut_self,getPut_ne,getDel_ne]) (.inr ⟨c,rfl,by simp (disch:=omega) only [getPut_self,getPut_ne,getDel_ne]⟩),?_,fun _=>?_,fun _=>⟨by omega,by omega,fun j hj=>?_⟩,?_,?_,by omega,fun j h1 h2=>?_⟩
       · rw [if_neg (by omega),getPut_self]
       · simp (disch:=omega) only [getPut_self,getPut_ne,getDel_ne]
       · rw [hlen];split
         · omega
         · have:=R.bd j (by omega);omega
       · simp (disch:=omega) only [getPut_self,getPut_ne,getDel_ne];exact T.gb
       · simp (disch:=omega) only [getPut_self,getPut_ne,getDel_ne];exact T.gr
       · rw [← T.un j h1 h2];simp (disch:=omega) only [getPut_self,getPut_ne,getDel_ne]
      obtain ⟨v,h',n',e1,pb',cs',id',e2,e3,e4,e5,e6,e7,e8,e9⟩:=ih (i+1) (by omega) _ _ _ _ _ _ key
      refine ⟨v,h',n',?_,pb',cs',id',e2,e3,e4,e5,e6,e7,by omega,e9⟩
      simp (disch:=omega) [T.gb,h3,gq,getPut_self,getPut_ne,getDel_ne,c,wI64,fits,ltF,gtF,neF,gp,hft,hcl,hft2]
      simpa using e1
theorem cps_loops (base:Nat) (ra:List Hd) (ea:Bool) (ps:List Pl) (pe:Bool) (rb rn:Nat) (q rr bx lo:Nat) (h0:WHeap) (hps:ps.length≤1000) (hpos:0 < ps.length) (hr:∀ p ∈ ps,p.1.length≤1000000):∀ m i,m+i=ps.length→∀ (h:WHeap) (next:Nat) (cs:List (List AV)) (pb:Nat) (id:Nat→Nat) (dq:Bool),
 CpI ra ea ps pe (.sl rb 8 0 rn rn false) q rr bx lo i h0 h next cs pb id dq →
 ∃ v h' n',CK C base (fnEndW [.cell 2 2 true]) [.sq w293_L0,.bk 0 ⟨true,[3,2],[(9999,65537)]⟩,.sq w293_c0] w293_B0 ⟨[(4,.int .i64 i),(3,.ptr q 0 0),(2,.ptr rr 0 0),(1,.ptr bx 0 0)],h,next⟩ =
  some (v,h',n')∧CpP ps (.sl rb 8 0 rn rn false) q rr lo next h0 v h' n':=by
 intro m
 induction m with
 | zero =>
  intro i hi h next cs pb id dq T
  have h3:¬ i < ps.length:=by omega
  have hine:i≠0:=by omega
  have hie:i=ps.length:=by omega
  have R:=T.R
  have gq:=T.gq
  have gp:=T.gp hine
  have pl:=T.pl hine
  have lt:=T.lt
  rw [if_neg hine] at gq
  rw [List.take_of_length_le (by omega)] at R
  subst hie
  rw [ck_unf w293_B0.eq_1]
  apply ex3
  · simp (disch:=omega) [T.gb,h3,ck_unf w293_c0.eq_1,gq,T.gr,getPut_self,getPut_ne]
    exact ⟨rfl,rfl,rfl⟩
  · refine ⟨pb,cs,id,rfl,R.mono (by omega) (fun j hj=>by have:=R.bd j hj;rw [getPut_ne (by omega)]),by rw [getPut_ne (by omega)];exact gp,pl.1,by omega,pl.2.2,by omega,fun j h1 h2 h3=>?_⟩
    rw [getPut_ne (Ne.symm h3)]
    exact T.un j h1 h2
 | succ m ih =>
  intro i hi h next cs pb id dq T
  have h3:i < ps.length:=by omega
  have hri:=hr _ (List.getElem_mem h3)
  have htk:ps.take (i+1)=ps.take i++[ps[i]]:=by rw [List.take_succ_eq_append_getElem h3]
  have htm:(ps.take (i+1)).map (·.1)=(ps.take i).map (·.1)++[ps[i].1]:=by rw [htk,List.map_append];rfl
  have R:=T.R
  have gq:=T.gq
  have lt:=T.lt
  have hlen:((ps.take i).map (·.1)).length=i:=by simp;omega
  have hcl:cs.length=i:=by rw [R.len,hlen]
  rw [ck_unf w293_B0.eq_1]
  by_cases c:ps[i].1=[]
  · by_cases c0:i=0
    · subst c0
      obtain rfl:cs=[]:=List.length_eq_zero_iff.1 hcl
      simp at gq
      have key:CpI ra ea ps pe (.sl rb 8 0 rn rn false) q rr bx lo (0+1) h0 (put (put (put (put h (next+7) (.cells 8 [] true true)) (next+14) (.cells 1 [[.sl (next+7) 8 0 0 0 true]] true false)) (next+15) (.cells 1 ([]++[[.sl (next+7) 8 0 0 0 true]]) true false)) q (.cells 2 [[(.sl rb 8 0 rn rn false),.sl (next+15) 1 0 (0+1) (0+1) false]] true false)) (next+21) ([]++[[.sl (next+7) 8 0 0 0 true]]) (next+15) (fun j=>if j=((ps.take 0).map (·.1)).length then next+7 else id j) false:=by
       refine ⟨by rw [htm];exact R.snoc (next+7) (by omega) (by omega) (by omega) _ _ (fun j hj=>by have:=R.bd j hj;rw [hlen] at hj;simp (disch:=omega) only [getPut_self,getPut_ne,getDel_ne]) (.inl ⟨c,rfl,by simp (disch:=omega) only [getPut_self,getPut_ne,getDel_ne]⟩),?_,fun _=>?_,fun _=>⟨by omega,by omega,fun j hj=>?_⟩,?_,?_,by omega,fun j h1 h2=>?_⟩
       · rw [if_neg (by omega),getPut_self]
       · simp (disch:=omega) only [getPut_self,getPut_ne,getDel_ne]
       · rw [hlen];split
         · omega
         · have:=R.bd j (by omega);omega
       · simp (disch:=omega) only [getPut_self,getPut_ne,getDel_ne];exact T.gb
       · simp (disch:=omega) only [getPut_self,getPut_ne,getDel_ne];exact T.gr
       · rw [← T.un j h1 h2];simp (disch:=omega) only [getPut_self,getPut_ne,getDel_ne]
      obtain ⟨v,h',n',e1,pb',cs',id',e2,e3,e4,e5,e6,e7,e8,e9⟩:=ih (0+1) (by omega) _ _ _ _ _ _ key
      refine ⟨v,h',n',?_,pb',cs',id',e2,e3,e4,e5,e6,e7,by omega,e9⟩
      simp (disch:=omega) [T.gb,h3,gq,getPut_self,getPut_ne,getDel_ne,c,wI64,fits,ltF,gtF,neF]
      simpa using e1
    · rw [if_neg c0] at gq
      have gp:=T.gp c0
      have pl:=T.pl c0
      have hft:(i+1) * 25≤35184372088832:=by omega
      have key:CpI ra ea ps pe (.sl rb 8 0 rn rn false) q rr bx lo (i+1) h0 (put (put (del (put (put h (next+7) (.cells 8 [] true true)) (next+14) (.cells 1 [[.sl (next+7) 8 0 0 0 true]] true false)) pb) (next+15) (.cells 1 (cs++[[.sl (next+7) 8 0 0 0 true]]) true false)) q (.cells 2 [[(.sl rb 8 0 rn rn false),.sl (next+15) 1 0 (i+1) (i+1) false]] true false)) (next+21) (cs++[[.sl (next+7) 8 0 0 0 true]]) (next+15) (fun j=>if j=((ps.take i).map (·.1)).length then next+7 else id j) false:=by
       refine ⟨by rw [htm];exact R.snoc (next+7) (by omega) (by omega) (by omega) _ _ (fun j hj=>by have:=R.bd j hj;rw [hlen] at hj;have:=pl.2.2 j (by omega);simp (disch:=omega) only [getPut_self,getPut_ne,getDel_ne]) (.inl ⟨c,rfl,by simp (disch:=omega) only [getPut_self,getPut_ne,getDel_ne]⟩),?_,fun _=>?_,fun _=>⟨by omega,by omega,fun j hj=>?_⟩,?_,?_,by omega,fun j h1 h2=>?_⟩
       · rw [if_neg (by omega),getPut_self]
       · simp (disch:=omega) only [getPut_self,getPut_ne,getDel_ne]
       · rw [hlen];split
         · omega
         · have:=R.bd j (by omega);omega
       · simp (disch:=omega) only [getPut_self,getPut_ne,getDel_ne];exact T.gb
       · simp (disch:=omega) only [getPut_self,getPut_ne,getDel_ne];exact T.gr
       · rw [← T.un j h1 h2];simp (disch:=omega) only [getPut_self,getPut_ne,getDel_ne]
      obtain ⟨v,h',n',e1,pb',cs',id',e2,e3,e4,e5,e6,e7,e8,e9⟩:=ih (i+1) (by omega) _ _ _ _ _ _ key
      refine ⟨v,h',n',?_,pb',cs',id',e2,e3,e4,e5,e6,e7,by omega,e9⟩
      simp (disch:=omega) [T.gb,h3,gq,getPut_self,getPut_ne,getDel_ne,c,wI64,fits,ltF,gtF,neF,gp,hft,hcl]
      simpa using e1
  · have hft2:ps[i].1.length * 121≤35184372088832:=by omega
    by_cases c0:i=0
    · subst c0
      obtain rfl:cs=[]:=List.length_eq_zero_iff.1 hcl
      simp at gq
      have key:CpI ra ea ps pe (.sl rb 8 0 rn rn false) q rr bx lo (0+1) h0 (put (put (put (put (put h (next+7) (.cells 8 [] true true)) (next+13) (.cells 8 (ps[0].1.map eHd) true true)) (next+14) (.cells 1 [[.sl (next+13) 8 0 ps[0].1.length ps[0].1.length false]] true false)) (next+15) (.cells 1 ([]++[[.sl (next+13) 8 0 ps[0].1.length ps[0].1.length false]]) true false)) q (.cells 2 [[(.sl rb 8 0 rn rn false),.sl (next+15) 1 0 (0+1) (0+1) false]] true false)) (next+21) ([]++[[.sl (next+13) 8 0 ps[0].1.length ps[0].1.length false]]) (next+15) (fun j=>if j=((ps.take 0).map (·.1)).length then next+13 else id j) false:=by
       refine ⟨by rw [htm];exact R.snoc (next+13) (by omega) (by omega) (by omega) _ _ (fun j hj=>by have:=R.bd j hj;rw [hlen] at hj;simp (disch:=omega) only [getPut_self,getPut_ne,getDel_ne]) (.inr ⟨c,rfl,by simp (disch:=omega) only [getPut_self,getPut_ne,getDel_ne]⟩),?_,fun _=>?_,fun _=>⟨by omega,by omega,fun j hj=>?_⟩,?_,?_,by omega,fun j h1 h2=>?_⟩
       · rw [if_neg (by omega),getPut_self]
       · simp (disch:=omega) only [getPut_self,getPut_ne,getDel_ne]
       · rw [hlen];split
         · omega
         · have:=R.bd j (by omega);omega
       · simp (disch:=omega) only [getPut_self,getPut_ne,getDel_ne];exact T.gb
       · simp (disch:=omega) only [getPut_self,getPut_ne,getDel_ne];exact T.gr
       · rw [← T.un j h1 h2];simp (disch:=omega) only [getPut_self,getPut_ne,getDel_ne]
      obtain ⟨v,h',n',e1,pb',cs',id',e2,e3,e4,e5,e6,e7,e8,e9⟩:=ih (0+1) (by omega) _ _ _ _ _ _ key
      refine ⟨v,h',n',?_,pb',cs',id',e2,e3,e4,e5,e6,e7,by omega,e9⟩
      simp (disch:=omega) [T.gb,h3,gq,getPut_self,getPut_ne,getDel_ne,c,wI64,fits,ltF,gtF,neF,hft2]
      simpa using e1
    · rw [if_neg c0] at gq
      have gp:=T.gp c0
      have pl:=T.pl c0
      have hft:(i+1) * 25≤35184372088832:=by omega
      have key:CpI ra ea ps pe (.sl rb 8 0 rn rn false) q rr bx lo (i+1) h0 (put (put (del (put (put (put h (next+7) (.cells 8 [] true true)) (next+13) (.cells 8 (ps[i].1.map eHd) true true)) (next+14) (.cells 1 [[.sl (next+13) 8 0 ps[i].1.length ps[i].1.length false]] true false)) pb) (next+15) (.cells 1 (cs++[[.sl (next+13) 8 0 ps[i].1.length ps[i].1.length false]]) true false)) q (.cells 2 [[(.sl rb 8 0 rn rn false),.sl (next+15) 1 0 (i+1) (i+1) false]] true false)) (next+21) (cs++[[.sl (next+13) 8 0 ps[i].1.length ps[i].1.length false]]) (next+15) (fun j=>if j=((ps.take i).map (·.1)).length then next+13 else id j) false:=by
       refine ⟨by rw [htm];exact R.snoc (next+13) (by omega) (by omega) (by omega) _ _ (fun j hj=>by have:=R.bd j hj;rw [hlen] at hj;have:=pl.2.2 j (by omega);simp (disch:=omega) only [getPut_self,getPut_ne,getDel_ne]) (.inr ⟨c,rfl,by simp (disch:=omega) only [getPut_self,getPut_ne,getDel_ne]⟩),?_,fun _=>?_,fun _=>⟨by omega,by omega,fun j hj=>?_⟩,?_,?_,by omega,fun j h1 h2=>?_⟩
       · rw [if_neg (by omega),getPut_self]
       · simp (disch:=omega) only [getPut_self,getPut_ne,getDel_ne]
       · rw [hlen];split
         · omega
         · have:=R.bd j (by omega);omega
       · simp (disch:=omega) only [getPut_self,getPut_ne,getDel_ne];exact T.gb
       · simp (disch:=omega) only [getPut_self,getPut_ne,getDel_ne];exact T.gr
       · rw [← T.un j h1 h2];simp (disch:=omega) only [getPut_self,getPut_ne,getDel_ne]
      obtain ⟨v,h',n',e1,pb',cs',id',e2,e3,e4,e5,e6,e7,e8,e9⟩:=ih (i+1) (by omega) _ _ _ _ _ _ key
      refine ⟨v,h',n',?_,pb',cs',id',e2,e3,e4,e5,e6,e7,by omega,e9⟩
      simp (disch:=omega) [T.gb,h3,gq,getPut_self,getPut_ne,getDel_ne,c,wI64,fits,ltF,gtF,neF,gp,hft,hcl,hft2]
      simpa using e1
end Go.D
end
section
namespace Go.D
open Go Go.Pav Go.Pw P
set_option maxHeartbeats 1000000
attribute [-simp] List.getElem_cons_drop
variable {C:WProg}
structure HasQc (C:WProg):Prop extends HasQo C where
 f2031:C.fns.get 2031=some w293
def RowsV (h:WHeap) (lo hi:Nat) (v:AV) (ra:List Hd):Prop:=(ra=[]∧v=.ro 8 [] true)∨(ra≠[]∧∃ rb,v=.sl rb 8 0 ra.length ra.length false∧Pav.get h rb=some (.cells 8 (eHs ra) true true)∧lo≤rb∧rb < hi)
def CopyS (ra:List Hd) (ps:List Pl) (h:WHeap) (n:Nat) (v:AV) (h':WHeap) (n':Nat):Prop :=
 ∃ Rv pb cs id lo,v=.agg [Rv,.sl pb 1 0 ps.length ps.length false]∧RowsV h' n lo Rv ra∧Nst2 FullH h' lo n' id cs (ps.map (·.1))∧Pav.get h' pb=some (.cells 1 cs true false)∧n≤lo∧lo≤pb∧pb < n'∧(∀ j,j < ps.length→id j≠pb) ∧
  ∀ j,j < n→Pav.get h' j=Pav.get h j
theorem rcopyS_ok (H:HasQc C) (ra:List Hd) (ea:Bool) (ps:List Pl) (pe:Bool) (hra:ra.length≤1000000) (hps:ps.length≤1000) (hpos:0 < ps.length) (hr:∀ p ∈ ps,p.1.length≤1000000) (h:WHeap) (n:Nat) :
 ∃ v h' n',RnW C 2031 [aSt ra ea ps pe] h n=some (v,h',n')∧CopyS ra ps h n v h' n':=by
 have hft:ra.length * 121≤35184372088832:=by omega
 by_cases c:ra=[]
 · subst c
   have T:CpI [] ea ps pe (.ro 8 [] true) (n+2) (n+1) n (n+11) 0 (put (put (put h n (.cells 2 [[.ro 8 [] ea,.ro 1 (ps.map ePl) pe]] true true)) (n+1) (.cells 2 [[.ro 8 [] true,.ro 1 [] true]] true true)) (n+2) (.cells 2 [[.ro 8 [] true,.ro 1 [] true]] true true))
    (put (put (put h n (.cells 2 [[.ro 8 [] ea,.ro 1 (ps.map ePl) pe]] true true)) (n+1) (.cells 2 [[.ro 8 [] true,.ro 1 [] true]] true true)) (n+2) (.cells 2 [[.ro 8 [] true,.ro 1 [] true]] true true)) (n+11) [] 0 (fun _=>0) true :=
    ⟨by simpa using Nst2.nil,by simp (disch:=omega) only [getPut_self,getPut_ne];rfl,fun q=>absurd rfl q,fun q=>absurd rfl q,by simp (disch:=omega) only [getPut_self,getPut_ne];rfl,by simp (disch:=omega) only [getPut_self,getPut_ne],by omega,fun _ _ _=>rfl⟩
   obtain ⟨v,h',n',e1,pb,cs,id,e2,e3,e4,e5,e6,e7,e8,e9⟩:=cps_loopn (C:=C) n [] ea ps pe (n+2) (n+1) n (n+11) _ hps hpos hr ps.length 0 (by simp) _ _ _ _ _ _ T
   refine ⟨v,h',n',?_,_,pb,cs,id,n+11,e2,.inl ⟨rfl,rfl⟩,e3,e4,by omega,e5,e6,e7,fun j hj=>?_⟩
   · rw [rnW_eq H.f2031 rfl]
     simp (disch:=omega) [w293,getPut_self,getPut_ne,putPut]
     simpa [putPut] using e1
   · rw [e9 j (by omega) (by omega) (by omega)]
     simp (disch:=omega) only [getPut_ne]
 · have T:CpI ra ea ps pe (.sl (n+7) 8 0 ra.length ra.length false) (n+2) (n+1) n (n+11) 0 (put (put (put (put (put h n (.cells 2 [[.ro 8 (ra.map eHd) ea,.ro 1 (ps.map ePl) pe]] true true)) (n+1) (.cells 2 [[.ro 8 [] true,.ro 1 [] true]] true true)) (n+2) (.cells 2 [[.ro 8 [] true,.ro 1 [] true]] true true)) (n+7) (.cells 8 (ra.map eHd) true true)) (n+2) (.cells 2 [[.sl (n+7) 8 0 ra.length ra.length false,.ro 1 [] true]] true false))
    (put (put (put (put (put h n (.cells 2 [[.ro 8 (ra.map eHd) ea,.ro 1 (ps.map ePl) pe]] true true)) (n+1) (.cells 2 [[.ro 8 [] true,.ro 1 [] true]] true true)) (n+2) (.cells 2 [[.ro 8 [] true,.ro 1 [] true]] true true)) (n+7) (.cells 8 (ra.map eHd) true true)) (n+2) (.cells 2 [[.sl (n+7) 8 0 ra.length ra.length false,.ro 1 [] true]] true false)) (n+11) [] 0 (fun _=>0) false :=
    ⟨by simpa using Nst2.nil,by simp (disch:=omega) only [getPut_self,getPut_ne];rfl,fun q=>absurd rfl q,fun q=>absurd rfl q,by simp (disch:=omega) only [getPut_self,getPut_ne],by simp (disch:=omega) only [getPut_self,getPut_ne],by omega,fun _ _ _=>rfl⟩
   obtain ⟨v,h',n',e1,pb,cs,id,e2,e3,e4,e5,e6,e7,e8,e9⟩:=cps_loops (C:=C) n ra ea ps pe (n+7) ra.length (n+2) (n+1) n (n+11) _ hps hpos hr ps.length 0 (by simp) _ _ _ _ _ _ T
   refine ⟨v,h',n',?_,_,pb,cs,id,n+11,e2,.inr ⟨c,n+7,rfl,?_,by omega,by omega⟩,e3,e4,by omega,e5,e6,e7,fun j hj=>?_⟩
   · rw [rnW_eq H.f2031 rfl]
     simp (disch:=omega) [w293,getPut_self,getPut_ne,putPut,c,hft]
     exact e1
   · rw [e9 _ (by omega) (by omega) (by omega)]
     simp (disch:=omega) only [getPut_self,getPut_ne]
   · rw [e9 j (by omega) (by omega) (by omega)]
     simp (disch:=omega) only [getPut_ne]
end Go.D
end
section
namespace Go.D
open Go Go.Pav Go.Pw P
set_option maxHeartbeats 1000000
attribute [-simp] List.getElem_cons_drop
variable {C:WProg}
abbrev cCf (vw ov ls:Int) (ks:List Kd) (ke:Bool) (cap ar fl:Int):List AV:=[.int .i64 vw,.int .i64 ov,.int .i64 ls,.ro 9 (ks.map eKd) ke,.int .i64 cap,.int .i64 ar,.int .u8 fl]
def plAt (ks:List Kd) (t:Int):Int:=match ks[t.toNat]? with | some k=>k.pl | none=>0
def rowAt (W:List (List Hd)) (t:Int):List Hd:=W[t.toNat]?.getD []
def cm1 (ks:List Kd) (l:List En) (A:List Nat):List Hd→List (List Hd) × Int→List (List Hd) × Int
 | [],s=>s
 | h::r,s=>cm1 ks l A r (if stF h l A=true then s else if ((rowAt s.1 h.t).length:Int)=plAt ks h.t then (s.1,s.2+1) else (s.1.set h.t.toNat (rowAt s.1 h.t++[h]),s.2))
section
variable (vw ov ls:Int) (ks:List Kd) (ke:Bool) (cap ar fl:Int) (ra:List Hd) (ea:Bool) (ps:List Pl) (pe:Bool)
structure CmI (RW:AV) (pb ob nb lo:Nat) (P:Option WObj→Nat→AV→List Hd→Prop) (W:List (List Hd)) (N:List Int) (h:WHeap) (next:Nat) (cs:List (List AV)) (id:Nat→Nat):Prop where
 R:Nst2 P h lo next id cs W
 wl:W.length=ks.length
 go:Pav.get h ob=some (.cells 2 [[RW,.sl pb 1 0 ks.length ks.length false]] true false)
 gp:Pav.get h pb=some (.cells 1 cs true false)
 gn:Pav.get h nb=some (.cells 4 [N.map (AV.int .i64)] true true)
 g0:Pav.get h 0=some (.cells 7 [cCf vw ov ls ks ke cap ar fl] true true)
 g1:Pav.get h 1=some (.cells 2 [[.ro 8 (ra.map eHd) ea,.ro 1 (ps.map ePl) pe]] true true)
 g2:Pav.get h 2=some (.cells 2 [[.ro 8 [] true,.ro 1 [] true]] true true)
 g3:Pav.get h 3=some (.cells 4 [[.int .i64 0,.int .i64 0,.int .i64 0,.int .i64 0]] true true)
 ne:4≤lo∧lo≤pb∧lo≤ob∧lo≤nb∧pb < next∧ob < next∧nb < next∧pb≠ob∧pb≠nb∧ob≠nb
 nd:∀ j,j < ks.length→id j≠pb∧id j≠ob∧id j≠nb
theorem CmI.later {RW:AV} {pb ob nb lo:Nat} {P:Option WObj→Nat→AV→List Hd→Prop} {W:List (List Hd)} {N:List Int} {h h':WHeap} {next next':Nat} {cs:List (List AV)} {id:Nat→Nat}
 (T:CmI vw ov ls ks ke cap ar fl ra ea ps pe RW pb ob nb lo P W N h next cs id) (hn:next≤next') (hg:∀ j,j < next→Pav.get h' j=Pav.get h j):CmI vw ov ls ks ke cap ar fl ra ea ps pe RW pb ob nb lo P W N h' next' cs id:=by
 have ne:=T.ne
 exact ⟨T.R.mono hn (fun j hj=>hg _ (T.R.bd j hj).2),T.wl,by rw [hg _ (by omega)];exact T.go,by rw [hg _ (by omega)];exact T.gp,by rw [hg _ (by omega)];exact T.gn,by rw [hg _ (by omega)];exact T.g0,
  by rw [hg _ (by omega)];exact T.g1,by rw [hg _ (by omega)];exact T.g2,by rw [hg _ (by omega)];exact T.g3,by omega,T.nd⟩
theorem CmI.setN {RW:AV} {pb ob nb lo:Nat} {P:Option WObj→Nat→AV→List Hd→Prop} {W:List (List Hd)} {N:List Int} {h:WHeap} {next:Nat} {cs:List (List AV)} {id:Nat→Nat}
 (T:CmI vw ov ls ks ke cap ar fl ra ea ps pe RW pb ob nb lo P W N h next cs id) (N':List Int):CmI vw ov ls ks ke cap ar fl ra ea ps pe RW pb ob nb lo P W N' (put h nb (.cells 4 [N'.map (AV.int .i64)] true true)) next cs id:=by
 have ne:=T.ne
 exact ⟨T.R.mono (Nat.le_refl _) (fun j hj=>getPut_ne (Ne.symm (T.nd j (by rw [← T.wl];exact hj)).2.2)),T.wl,by rw [getPut_ne (by omega)];exact T.go,by rw [getPut_ne (by omega)];exact T.gp,getPut_self ..,by rw [getPut_ne (by omega)];exact T.g0,
  by rw [getPut_ne (by omega)];exact T.g1,by rw [getPut_ne (by omega)];exact T.g2,by rw [getPut_ne (by omega)];exact T.g3,T.ne,T.nd⟩
theorem CmI.setP {RW:AV} {pb ob nb lo:Nat} {P:Option WObj→Nat→AV→List Hd→Prop} {W:List (List Hd)} {N:List Int} {h h':WHeap} {next next':Nat} {cs:List (List AV)} {id:Nat→Nat}
 (T:CmI vw ov ls ks ke cap ar fl ra ea ps pe RW pb ob nb lo P W N h next cs id) (t:Nat) (ht:t < ks.length) (b:Nat) (hb:b=id t∨next≤b) (hb2:b < next') (hn:next≤next') (v:AV) (d:List Hd) (hP:P (Pav.get h' b) b v d)
 (hp:Pav.get h' pb=some (.cells 1 (cs.set t [v]) true false)) (hg:∀ j,j < next→j≠id t→j≠pb→Pav.get h' j=Pav.get h j) :
 CmI vw ov ls ks ke cap ar fl ra ea ps pe RW pb ob nb lo P (W.set t d) N h' next' (cs.set t [v]) (fun i=>if i=t then b else id i):=by
 have ne:=T.ne
 have wl:=T.wl
 have hbd:=T.R.bd t (by omega)
 have hnt:=T.nd t ht
 refine ⟨T.R.set t (by omega) b hb (by omega) hb2 hn v d (fun j hj hjt=>?_) hP,by simp [wl],?_,hp,?_,?_,?_,?_,?_,by omega,fun j hj=>?_⟩
 · have h1:=T.R.bd j hj
   exact hg _ h1.2 (fun q=>hjt (T.R.inj j t hj (by omega) q)) (T.nd j (by omega)).1
 · rw [hg _ (by omega) (by omega) (by omega)];exact T.go
 · rw [hg _ (by omega) (by omega) (by omega)];exact T.gn
 · rw [hg _ (by omega) (by omega) (by omega)];exact T.g0
 · rw [hg _ (by omega) (by omega) (by omega)];exact T.g1
 · rw [hg _ (by omega) (by omega) (by omega)];exact T.g2
 · rw [hg _ (by omega) (by omega) (by omega)];exact T.g3
 · have h1:=T.nd j hj
   split
   · rcases hb with q | q
     · rw [q];exact hnt
     · omega
   · exact h1
theorem cm1_loop (H:HasQc C) (l:List En) (e:Bool) (A:List Nat) (f:Bool) (hA:A.length≤1000000) (hAl:∀ a ∈ A,a < l.length) (hra:ra.length≤1000) (hty:∀ x ∈ ra,∃ t:Nat,x.t=t∧t < ks.length)
 (pb ob nb lo:Nat):∀ m i,m+i=ra.length→∀ (W:List (List Hd)) (d:Int) (h:WHeap) (next:Nat) (cs:List (List AV)) (id:Nat→Nat),
 CmI vw ov ls ks ke cap ar fl ra ea ps pe (.ro 8 [] true) pb ob nb lo FullH W [0,0,d,0] h next cs id→(∀ w ∈ W,w.length+m≤1000000)→0≤d→d+m≤1000000 →
 ∃ h' next' cs' id',CK C 0 (pureFin [.cell 8 2 true,.cell 9 4 true,.tmp 10]) [.sq w285_L1,.bk 0 ⟨true,[12,11,9,8,5,4,3,2],[(9999,65537)]⟩,.sq w285_c1] w285_B1
  ⟨[(13,.int .i64 i),(12,.ptr nb 0 0),(11,.ptr ob 0 0),(9,.ptr 3 0 0),(8,.ptr 2 0 0),(5,.ptr 1 0 0),(4,.ptr 0 0 0),(3,.ro 1 (A.map eAt) f),(2,.ro 6 (l.map eEn) e)],h,next⟩ =
  CK C 0 (pureFin [.cell 8 2 true,.cell 9 4 true,.tmp 10]) [] w285_c1
   ⟨[(12,.ptr nb 0 0),(11,.ptr ob 0 0),(9,.ptr 3 0 0),(8,.ptr 2 0 0),(5,.ptr 1 0 0),(4,.ptr 0 0 0),(3,.ro 1 (A.map eAt) f),(2,.ro 6 (l.map eEn) e)],h',next'⟩ ∧
  CmI vw ov ls ks ke cap ar fl ra ea ps pe (.ro 8 [] true) pb ob nb lo FullH (cm1 ks l A (ra.drop i) (W,d)).1 [0,0,(cm1 ks l A (ra.drop i) (W,d)).2,0] h' next' cs' id':=by
 intro m
 induction m with
 | zero =>
  intro i hi W d h next cs id T hW h0 h1
  have h2:ra.drop i=[]:=List.drop_eq_nil_of_le (by omega)
  have h3:¬ i < ra.length:=by omega
  rw [h2]
  refine ⟨h,next+5,cs,id,?_,T.later vw ov ls ks ke cap ar fl ra ea ps pe (by omega) (fun _ _=>rfl)⟩
  rw [ck_unf w285_B1.eq_1]
  simp (disch:=omega) [T.g1,h3]
 | succ m ih =>
  intro i hi W d h next cs id T hW h0 h1
  have h3:i < ra.length:=by omega
  obtain ⟨t,ht,htl⟩:=hty _ (List.getElem_mem h3)
  have hst:=stays_ok H.toHasQo ra[i] l e f A hA hAl
  have ne:=T.ne
  rw [drop_cons h3]
  have hwl:=T.wl
  have htW:t < W.length:=by omega
  have hrow:rowAt W ra[i].t=W[t]:=by rw [ht];simp [rowAt,htW]
  have hpl:plAt ks ra[i].t=ks[t].pl:=by rw [ht];simp [plAt,htl]
  have hW1:=hW _ (List.getElem_mem htW)
  have hcl:cs.length=ks.length:=by rw [T.R.len,hwl]
  have htc:t < cs.length:=by omega
  by_cases c:stF ra[i] l A=true
  · rw [if_pos c] at hst
    obtain ⟨h',n',cs',id',e1,e2⟩:=ih (i+1) (by omega) W d (put h (next+10) (.cells 8 [eHd ra[i]] true true)) (next+20) cs id (T.later vw ov ls ks ke cap ar fl ra ea ps pe (by omega) (fun j hj=>getPut_ne (by omega)))
     (fun w hw=>by have:=hW w hw;omega) h0 (by omega)
    refine ⟨h',n',cs',id',?_,by simp only [cm1,c,if_true];exact e2⟩
    rw [← e1]
    rw [ck_unf w285_B1.eq_1]
    simp at hst
    simp (disch:=omega) [T.g1,h3,getPut_self,getPut_ne,H.toHasEq.inl,inlB,H.toHasEq.pp,ppB,hst,wI64,putPut]
  · rw [if_neg c] at hst
    obtain ⟨v,hv,hP⟩:=T.R.row t W[t] (List.getElem?_eq_getElem htW)
    rw [List.getElem?_eq_getElem htc] at hv
    replace hv:=Option.some.inj hv
    by_cases c2:(W[t].length:Int)=ks[t].pl
    · have hcm:∀ r s,cm1 ks l A (ra[i]::r) (W,s)=cm1 ks l A r (W,s+1):=by
       intro r s
       simp only [cm1,if_neg c]
       rw [if_pos (by rw [hrow,hpl];exact c2)]
      rw [hcm]
      have T1:=(T.later vw ov ls ks ke cap ar fl ra ea ps pe (h':=put h (next+10) (.cells 8 [eHd ra[i]] true true)) (next':=next+40) (by omega) (fun j hj=>getPut_ne (by omega))).setN vw ov ls ks ke cap ar fl ra ea ps pe [0,0,d+1,0]
      obtain ⟨h',n',cs',id',e1,e2⟩:=ih (i+1) (by omega) W (d+1) _ _ cs id T1 (fun w hw=>by have:=hW w hw;omega) (by omega) (by omega)
      refine ⟨h',n',cs',id',?_,e2⟩
      rw [← e1]
      rw [ck_unf w285_B1.eq_1]
      simp [ht] at hst
      rcases hP with ⟨p0,p1,p2⟩ | ⟨p0,p1,p2⟩
      · rw [p1] at hv
        rw [p0] at c2
        simp at c2
        have c2:=c2.symm
        simp (disch:=omega) [T.g0,T.g1,T.go,T.gp,T.gn,p2,h3,getPut_self,getPut_ne,getDel_ne,H.toHasEq.inl,inlB,H.toHasEq.pp,ppB,hst,wI64,putPut,ht,htl,htc,hv,c2]
      · rw [p1] at hv
        simp (disch:=omega) [T.g0,T.g1,T.go,T.gp,T.gn,p2,h3,getPut_self,getPut_ne,getDel_ne,H.toHasEq.inl,inlB,H.toHasEq.pp,ppB,hst,wI64,putPut,ht,htl,htc,hv,c2]
    · have hcm:∀ r s,cm1 ks l A (ra[i]::r) (W,s)=cm1 ks l A r (W.set t (W[t]++[ra[i]]),s):=by
       intro r s
       have:ra[i].t.toNat=t:=by omega
       simp only [cm1,if_neg c]
       rw [if_neg (by rw [hrow,hpl];exact c2),hrow,this]
      rw [hcm]
      have nd:=T.nd t htl
      have bd:=T.R.bd t htW
      have hft:(W[t].length+1) * 121≤35184372088832:=by omega
      have hWn:∀ w ∈ W.set t (W[t]++[ra[i]]),w.length+m≤1000000:=by
       intro w hw
       rcases List.mem_or_eq_of_mem_set hw with q | q
       · have:=hW w q;omega
       · subst q;simp;omega
      rcases hP with ⟨p0,p1,p2⟩ | ⟨p0,p1,p2⟩
      · rw [p1] at hv
        have T1:=T.setP vw ov ls ks ke cap ar fl ra ea ps pe t htl (next+44) (.inr (by omega)) (show next+44 < next+50 by omega) (by omega) (.sl (next+44) 8 0 1 1 false) (W[t]++[ra[i]])
         (h':=put (put (put (put h (next+10) (.cells 8 [(AV.int .u64 ra[i].k::AV.int .u8 t::ra[i].n.c)] true true)) (next+43) (.cells 8 [(AV.int .u64 ra[i].k::AV.int .u8 t::ra[i].n.c)] true true)) (next+44) (.cells 8 [(AV.int .u64 ra[i].k::AV.int .u8 t::ra[i].n.c)] true true)) pb (.cells 1 (cs.set t [.sl (next+44) 8 0 1 1 false]) true false))
         (.inr ⟨by simp,by rw [p0];rfl,by simp (disch:=omega) only [getPut_self,getPut_ne];rw [p0];simp [ht]⟩) (by rw [getPut_self]) (fun j h1 h2 h3=>by simp (disch:=omega) only [getPut_self,getPut_ne])
        obtain ⟨h',n',cs',id',e1,e2⟩:=ih (i+1) (by omega) _ d _ _ _ _ T1 hWn h0 (by omega)
        refine ⟨h',n',cs',id',?_,e2⟩
        rw [← e1]
        rw [ck_unf w285_B1.eq_1]
        rw [p0] at c2
        simp at c2
        simp [ht] at hst
        simp (disch:=omega) [T.g0,T.g1,T.go,T.gp,T.gn,p2,h3,getPut_self,getPut_ne,getDel_ne,H.toHasEq.inl,inlB,H.toHasEq.pp,ppB,hst,wI64,putPut,ht,htl,htc,hv,c2,ltF,gtF,neF,fits]
      · rw [p1] at hv
        have T1:=T.setP vw ov ls ks ke cap ar fl ra ea ps pe t htl (next+44) (.inr (by omega)) (show next+44 < next+50 by omega) (by omega) (.sl (next+44) 8 0 (W[t].length+1) (W[t].length+1) false) (W[t]++[ra[i]])
         (h':=put (put (del (put (put h (next+10) (.cells 8 [(AV.int .u64 ra[i].k::AV.int .u8 t::ra[i].n.c)] true true)) (next+43) (.cells 8 [(AV.int .u64 ra[i].k::AV.int .u8 t::ra[i].n.c)] true true)) (id t)) (next+44) (.cells 8 (eHs W[t]++[(AV.int .u64 ra[i].k::AV.int .u8 t::ra[i].n.c)]) true true)) pb (.cells 1 (cs.set t [.sl (next+44) 8 0 (W[t].length+1) (W[t].length+1) false]) true false))
         (.inr ⟨by simp,by simp,by simp (disch:=omega) only [getPut_self,getPut_ne];simp [ht]⟩) (by rw [getPut_self]) (fun j h1 h2 h3=>by
          have:=Ne.symm h2
          simp (disch:=omega) only [getPut_self,getPut_ne,getDel_ne])
        obtain ⟨h',n',cs',id',e1,e2⟩:=ih (i+1) (by omega) _ d _ _ _ _ T1 hWn h0 (by omega)
        refine ⟨h',n',cs',id',?_,e2⟩
        rw [← e1]
        rw [ck_unf w285_B1.eq_1]
        simp [ht] at hst
        simp (disch:=omega) [T.g0,T.g1,T.go,T.gp,T.gn,p2,h3,getPut_self,getPut_ne,getDel_ne,H.toHasEq.inl,inlB,H.toHasEq.pp,ppB,hst,wI64,putPut,ht,htl,htc,hv,c2,ltF,gtF,neF,hft]
end
end Go.D
end
