/- Part of the theory that the claims of this work use: D22, D23, V600, D24, D25, D26, B01, B02, B03, B04, B05, D27, D28, D29, D30, B06, B07, B08, B09, B10, PwNest, B11, B12, B13, B14, B15. No conditions of its own. -/
import Derived.Test.YtggfejahifmgoaaGreatDoorT7
set_option linter.unusedVariables false
set_option linter.unusedSectionVars false
set_option linter.unusedSimpArgs false
set_option maxHeartbeats 4000000
set_option maxRecDepth 10000
section
namespace Go.D
open Go Go.Pav Go.Pw P
attribute [-simp] List.getElem_cons_drop
variable {C:WProg}
theorem aB (x:It) (p:Pt) (m:Bs):(aH x p m [aA m] true).c=[.int .u8 1,.str p.t,.str m,.ro 2 ((p.s.map (au x)).map eA) false,.str [],.ro 6 [[.int .u8 2,.str [],.str [],.ro 2 [] true,.str m,.ro 6 [] true]] true]:=by rw [Nd.aC];simp only [aH,List.map_cons,List.map_nil];rw [Nd.aC];simp [aA]
theorem wI (H:aX C) (x:It) (hk:0<=x.k/\x.k < 18446744073709551616) (hl8:x.m.length<=8) (p:Pt) (hl:p.s.length<=8) (m1 m2 m3 m4 m5 m6 m7 m8:Bs) (r:List Bs) (hm:x.m=[m1,m2,m3,m4,m5,m6,m7,m8]++r) :
 w513_K1 C ⟨[(6,.int .i64 8),(5,.sl 0 6 0 8 8 false),(3,.ptr 9 0 0),(2,.ptr 10 0 0)],[(0,.cells 6 [[.int .u8 1,.str p.t,.str m1,.ro 2 ((p.s.map (au x)).map eA) false,.str [],.sl 1 6 0 1 1 true],[.int .u8 1,.str p.t,.str m2,.ro 2 ((p.s.map (au x)).map eA) false,.str [],.sl 2 6 0 1 1 true],[.int .u8 1,.str p.t,.str m3,.ro 2 ((p.s.map (au x)).map eA) false,.str [],.sl 3 6 0 1 1 true],[.int .u8 1,.str p.t,.str m4,.ro 2 ((p.s.map (au x)).map eA) false,.str [],.sl 4 6 0 1 1 true],[.int .u8 1,.str p.t,.str m5,.ro 2 ((p.s.map (au x)).map eA) false,.str [],.sl 5 6 0 1 1 true],[.int .u8 1,.str p.t,.str m6,.ro 2 ((p.s.map (au x)).map eA) false,.str [],.sl 6 6 0 1 1 true],[.int .u8 1,.str p.t,.str m7,.ro 2 ((p.s.map (au x)).map eA) false,.str [],.sl 7 6 0 1 1 true],[.int .u8 1,.str p.t,.str m8,.ro 2 ((p.s.map (au x)).map eA) false,.str [],.sl 8 6 0 1 1 true]] true false),(1,.cells 6 [[.int .u8 2,.str [],.str [],.ro 2 [] true,.str m1,.ro 6 [] true]] true true),(2,.cells 6 [[.int .u8 2,.str [],.str [],.ro 2 [] true,.str m2,.ro 6 [] true]] true true),(3,.cells 6 [[.int .u8 2,.str [],.str [],.ro 2 [] true,.str m3,.ro 6 [] true]] true true),(4,.cells 6 [[.int .u8 2,.str [],.str [],.ro 2 [] true,.str m4,.ro 6 [] true]] true true),(5,.cells 6 [[.int .u8 2,.str [],.str [],.ro 2 [] true,.str m5,.ro 6 [] true]] true true),(6,.cells 6 [[.int .u8 2,.str [],.str [],.ro 2 [] true,.str m6,.ro 6 [] true]] true true),(7,.cells 6 [[.int .u8 2,.str [],.str [],.ro 2 [] true,.str m7,.ro 6 [] true]] true true),(8,.cells 6 [[.int .u8 2,.str [],.str [],.ro 2 [] true,.str m8,.ro 6 [] true]] true true),(9,.cells 4 [[.int .u64 x.k,.int .u8 x.t,.str x.x,.ro 1 (x.m.map eS) x.e]] true true),(10,.cells 6 [p.c] true true)],11⟩ =
  some (.ro 6 (([m1,m2,m3,m4,m5,m6,m7,m8]++r).map λm=>(aH x p m [aA m] true).c) false):=by
 simp only [w513_K1];rw [ck_unf w513_B1.eq_1];have hxl:x.m.length=8+r.length:=by rw [hm];simp;omega
 cases r with
 | nil =>simp at hxl;simp [ck_unf w513_c2.eq_1,hxl,aB]
 | cons m9 r=>simp at hxl;omega
theorem vK (H:aX C) (x:It) (hk:0<=x.k/\x.k < 18446744073709551616) (hl8:x.m.length<=8) (p:Pt) (hl:p.s.length<=8) (m1 m2 m3 m4 m5 m6 m7:Bs) (r:List Bs) (hm:x.m=[m1,m2,m3,m4,m5,m6,m7]++r) :
 w513_K1 C ⟨[(6,.int .i64 7),(5,.sl 0 6 0 7 7 false),(3,.ptr 8 0 0),(2,.ptr 9 0 0)],[(0,.cells 6 [[.int .u8 1,.str p.t,.str m1,.ro 2 ((p.s.map (au x)).map eA) false,.str [],.sl 1 6 0 1 1 true],[.int .u8 1,.str p.t,.str m2,.ro 2 ((p.s.map (au x)).map eA) false,.str [],.sl 2 6 0 1 1 true],[.int .u8 1,.str p.t,.str m3,.ro 2 ((p.s.map (au x)).map eA) false,.str [],.sl 3 6 0 1 1 true],[.int .u8 1,.str p.t,.str m4,.ro 2 ((p.s.map (au x)).map eA) false,.str [],.sl 4 6 0 1 1 true],[.int .u8 1,.str p.t,.str m5,.ro 2 ((p.s.map (au x)).map eA) false,.str [],.sl 5 6 0 1 1 true],[.int .u8 1,.str p.t,.str m6,.ro 2 ((p.s.map (au x)).map eA) false,.str [],.sl 6 6 0 1 1 true],[.int .u8 1,.str p.t,.str m7,.ro 2 ((p.s.map (au x)).map eA) false,.str [],.sl 7 6 0 1 1 true]] true false),(1,.cells 6 [[.int .u8 2,.str [],.str [],.ro 2 [] true,.str m1,.ro 6 [] true]] true true),(2,.cells 6 [[.int .u8 2,.str [],.str [],.ro 2 [] true,.str m2,.ro 6 [] true]] true true),(3,.cells 6 [[.int .u8 2,.str [],.str [],.ro 2 [] true,.str m3,.ro 6 [] true]] true true),(4,.cells 6 [[.int .u8 2,.str [],.str [],.ro 2 [] true,.str m4,.ro 6 [] true]] true true),(5,.cells 6 [[.int .u8 2,.str [],.str [],.ro 2 [] true,.str m5,.ro 6 [] true]] true true),(6,.cells 6 [[.int .u8 2,.str [],.str [],.ro 2 [] true,.str m6,.ro 6 [] true]] true true),(7,.cells 6 [[.int .u8 2,.str [],.str [],.ro 2 [] true,.str m7,.ro 6 [] true]] true true),(8,.cells 4 [[.int .u64 x.k,.int .u8 x.t,.str x.x,.ro 1 (x.m.map eS) x.e]] true true),(9,.cells 6 [p.c] true true)],10⟩ =
  some (.ro 6 (([m1,m2,m3,m4,m5,m6,m7]++r).map λm=>(aH x p m [aA m] true).c) false):=by
 simp only [w513_K1];rw [ck_unf w513_B1.eq_1];have hxl:x.m.length=7+r.length:=by rw [hm];simp;omega
 cases r with
 | nil =>simp at hxl;simp [ck_unf w513_c2.eq_1,hxl,aB]
 | cons m8 r =>
  have h1:7 < x.m.length:=by rw [hxl];simp
  have hg:x.m[7]=m8:=by
   have q:x.m[7]?=some m8:=by rw [hm];simp
   rw [List.getElem?_eq_getElem h1] at q;exact Option.some.inj q
  have ha:=aI H.tosH x hk Qq p.s p.se hl;have this:=wI H x hk hl8 p hl m1 m2 m3 m4 m5 m6 m7 m8 r (by rw [hm];simp);simp only [w513_K1] at this;simp [aB] at this;have h2:(7:Int) < x.m.length:=by omega
  simp (disch:=omega) [h1,h2,hg,aj,aB,ha,H.inl,inlB,H.pp,ppB,this]
theorem xq (H:aX C) (x:It) (hk:0<=x.k/\x.k < 18446744073709551616) (hl8:x.m.length<=8) (p:Pt) (hl:p.s.length<=8) (m1 m2 m3 m4 m5 m6:Bs) (r:List Bs) (hm:x.m=[m1,m2,m3,m4,m5,m6]++r) :
 w513_K1 C ⟨[(6,.int .i64 6),(5,.sl 0 6 0 6 6 false),(3,.ptr 7 0 0),(2,.ptr 8 0 0)],[(0,.cells 6 [[.int .u8 1,.str p.t,.str m1,.ro 2 ((p.s.map (au x)).map eA) false,.str [],.sl 1 6 0 1 1 true],[.int .u8 1,.str p.t,.str m2,.ro 2 ((p.s.map (au x)).map eA) false,.str [],.sl 2 6 0 1 1 true],[.int .u8 1,.str p.t,.str m3,.ro 2 ((p.s.map (au x)).map eA) false,.str [],.sl 3 6 0 1 1 true],[.int .u8 1,.str p.t,.str m4,.ro 2 ((p.s.map (au x)).map eA) false,.str [],.sl 4 6 0 1 1 true],[.int .u8 1,.str p.t,.str m5,.ro 2 ((p.s.map (au x)).map eA) false,.str [],.sl 5 6 0 1 1 true],[.int .u8 1,.str p.t,.str m6,.ro 2 ((p.s.map (au x)).map eA) false,.str [],.sl 6 6 0 1 1 true]] true false),(1,.cells 6 [[.int .u8 2,.str [],.str [],.ro 2 [] true,.str m1,.ro 6 [] true]] true true),(2,.cells 6 [[.int .u8 2,.str [],.str [],.ro 2 [] true,.str m2,.ro 6 [] true]] true true),(3,.cells 6 [[.int .u8 2,.str [],.str [],.ro 2 [] true,.str m3,.ro 6 [] true]] true true),(4,.cells 6 [[.int .u8 2,.str [],.str [],.ro 2 [] true,.str m4,.ro 6 [] true]] true true),(5,.cells 6 [[.int .u8 2,.str [],.str [],.ro 2 [] true,.str m5,.ro 6 [] true]] true true),(6,.cells 6 [[.int .u8 2,.str [],.str [],.ro 2 [] true,.str m6,.ro 6 [] true]] true true),(7,.cells 4 [[.int .u64 x.k,.int .u8 x.t,.str x.x,.ro 1 (x.m.map eS) x.e]] true true),(8,.cells 6 [p.c] true true)],9⟩ =
  some (.ro 6 (([m1,m2,m3,m4,m5,m6]++r).map λm=>(aH x p m [aA m] true).c) false):=by
 simp only [w513_K1];rw [ck_unf w513_B1.eq_1];have hxl:x.m.length=6+r.length:=by rw [hm];simp;omega
 cases r with
 | nil =>simp at hxl;simp [ck_unf w513_c2.eq_1,hxl,aB]
 | cons m7 r =>
  have h1:6 < x.m.length:=by rw [hxl];simp
  have hg:x.m[6]=m7:=by
   have q:x.m[6]?=some m7:=by rw [hm];simp
   rw [List.getElem?_eq_getElem h1] at q;exact Option.some.inj q
  have ha:=aI H.tosH x hk Qq p.s p.se hl;have this:=vK H x hk hl8 p hl m1 m2 m3 m4 m5 m6 m7 r (by rw [hm];simp);simp only [w513_K1] at this;simp [aB] at this;have h2:(6:Int) < x.m.length:=by omega
  simp (disch:=omega) [h1,h2,hg,aj,aB,ha,H.inl,inlB,H.pp,ppB,this]
theorem wS (H:aX C) (x:It) (hk:0<=x.k/\x.k < 18446744073709551616) (hl8:x.m.length<=8) (p:Pt) (hl:p.s.length<=8) (m1 m2 m3 m4 m5:Bs) (r:List Bs) (hm:x.m=[m1,m2,m3,m4,m5]++r) :
 w513_K1 C ⟨[(6,.int .i64 5),(5,.sl 0 6 0 5 5 false),(3,.ptr 6 0 0),(2,.ptr 7 0 0)],[(0,.cells 6 [[.int .u8 1,.str p.t,.str m1,.ro 2 ((p.s.map (au x)).map eA) false,.str [],.sl 1 6 0 1 1 true],[.int .u8 1,.str p.t,.str m2,.ro 2 ((p.s.map (au x)).map eA) false,.str [],.sl 2 6 0 1 1 true],[.int .u8 1,.str p.t,.str m3,.ro 2 ((p.s.map (au x)).map eA) false,.str [],.sl 3 6 0 1 1 true],[.int .u8 1,.str p.t,.str m4,.ro 2 ((p.s.map (au x)).map eA) false,.str [],.sl 4 6 0 1 1 true],[.int .u8 1,.str p.t,.str m5,.ro 2 ((p.s.map (au x)).map eA) false,.str [],.sl 5 6 0 1 1 true]] true false),(1,.cells 6 [[.int .u8 2,.str [],.str [],.ro 2 [] true,.str m1,.ro 6 [] true]] true true),(2,.cells 6 [[.int .u8 2,.str [],.str [],.ro 2 [] true,.str m2,.ro 6 [] true]] true true),(3,.cells 6 [[.int .u8 2,.str [],.str [],.ro 2 [] true,.str m3,.ro 6 [] true]] true true),(4,.cells 6 [[.int .u8 2,.str [],.str [],.ro 2 [] true,.str m4,.ro 6 [] true]] true true),(5,.cells 6 [[.int .u8 2,.str [],.str [],.ro 2 [] true,.str m5,.ro 6 [] true]] true true),(6,.cells 4 [[.int .u64 x.k,.int .u8 x.t,.str x.x,.ro 1 (x.m.map eS) x.e]] true true),(7,.cells 6 [p.c] true true)],8⟩ =
  some (.ro 6 (([m1,m2,m3,m4,m5]++r).map λm=>(aH x p m [aA m] true).c) false):=by
 simp only [w513_K1];rw [ck_unf w513_B1.eq_1];have hxl:x.m.length=5+r.length:=by rw [hm];simp;omega
 cases r with
 | nil =>simp at hxl;simp [ck_unf w513_c2.eq_1,hxl,aB]
 | cons m6 r =>
  have h1:5 < x.m.length:=by rw [hxl];simp
  have hg:x.m[5]=m6:=by
   have q:x.m[5]?=some m6:=by rw [hm];simp
   rw [List.getElem?_eq_getElem h1] at q;exact Option.some.inj q
  have ha:=aI H.tosH x hk Qq p.s p.se hl;have this:=xq H x hk hl8 p hl m1 m2 m3 m4 m5 m6 r (by rw [hm];simp);simp only [w513_K1] at this;simp [aB] at this;have h2:(5:Int) < x.m.length:=by omega
  simp (disch:=omega) [h1,h2,hg,aj,aB,ha,H.inl,inlB,H.pp,ppB,this]
theorem vG (H:aX C) (x:It) (hk:0<=x.k/\x.k < 18446744073709551616) (hl8:x.m.length<=8) (p:Pt) (hl:p.s.length<=8) (m1 m2 m3 m4:Bs) (r:List Bs) (hm:x.m=[m1,m2,m3,m4]++r) :
 w513_K1 C ⟨[(6,.int .i64 4),(5,.sl 0 6 0 4 4 false),(3,.ptr 5 0 0),(2,.ptr 6 0 0)],[(0,.cells 6 [[.int .u8 1,.str p.t,.str m1,.ro 2 ((p.s.map (au x)).map eA) false,.str [],.sl 1 6 0 1 1 true],[.int .u8 1,.str p.t,.str m2,.ro 2 ((p.s.map (au x)).map eA) false,.str [],.sl 2 6 0 1 1 true],[.int .u8 1,.str p.t,.str m3,.ro 2 ((p.s.map (au x)).map eA) false,.str [],.sl 3 6 0 1 1 true],[.int .u8 1,.str p.t,.str m4,.ro 2 ((p.s.map (au x)).map eA) false,.str [],.sl 4 6 0 1 1 true]] true false),(1,.cells 6 [[.int .u8 2,.str [],.str [],.ro 2 [] true,.str m1,.ro 6 [] true]] true true),(2,.cells 6 [[.int .u8 2,.str [],.str [],.ro 2 [] true,.str m2,.ro 6 [] true]] true true),(3,.cells 6 [[.int .u8 2,.str [],.str [],.ro 2 [] true,.str m3,.ro 6 [] true]] true true),(4,.cells 6 [[.int .u8 2,.str [],.str [],.ro 2 [] true,.str m4,.ro 6 [] true]] true true),(5,.cells 4 [[.int .u64 x.k,.int .u8 x.t,.str x.x,.ro 1 (x.m.map eS) x.e]] true true),(6,.cells 6 [p.c] true true)],7⟩ =
  some (.ro 6 (([m1,m2,m3,m4]++r).map λm=>(aH x p m [aA m] true).c) false):=by
 simp only [w513_K1];rw [ck_unf w513_B1.eq_1];have hxl:x.m.length=4+r.length:=by rw [hm];simp;omega
 cases r with
 | nil =>simp at hxl;simp [ck_unf w513_c2.eq_1,hxl,aB]
 | cons m5 r =>
  have h1:4 < x.m.length:=by rw [hxl];simp
  have hg:x.m[4]=m5:=by
   have q:x.m[4]?=some m5:=by rw [hm];simp
   rw [List.getElem?_eq_getElem h1] at q;exact Option.some.inj q
  have ha:=aI H.tosH x hk Qq p.s p.se hl;have this:=wS H x hk hl8 p hl m1 m2 m3 m4 m5 r (by rw [hm];simp);simp only [w513_K1] at this;simp [aB] at this;have h2:(4:Int) < x.m.length:=by omega
  simp (disch:=omega) [h1,h2,hg,aj,aB,ha,H.inl,inlB,H.pp,ppB,this]
theorem uS (H:aX C) (x:It) (hk:0<=x.k/\x.k < 18446744073709551616) (hl8:x.m.length<=8) (p:Pt) (hl:p.s.length<=8) (m1 m2 m3:Bs) (r:List Bs) (hm:x.m=[m1,m2,m3]++r) :
 w513_K1 C ⟨[(6,.int .i64 3),(5,.sl 0 6 0 3 3 false),(3,.ptr 4 0 0),(2,.ptr 5 0 0)],[(0,.cells 6 [[.int .u8 1,.str p.t,.str m1,.ro 2 ((p.s.map (au x)).map eA) false,.str [],.sl 1 6 0 1 1 true],[.int .u8 1,.str p.t,.str m2,.ro 2 ((p.s.map (au x)).map eA) false,.str [],.sl 2 6 0 1 1 true],[.int .u8 1,.str p.t,.str m3,.ro 2 ((p.s.map (au x)).map eA) false,.str [],.sl 3 6 0 1 1 true]] true false),(1,.cells 6 [[.int .u8 2,.str [],.str [],.ro 2 [] true,.str m1,.ro 6 [] true]] true true),(2,.cells 6 [[.int .u8 2,.str [],.str [],.ro 2 [] true,.str m2,.ro 6 [] true]] true true),(3,.cells 6 [[.int .u8 2,.str [],.str [],.ro 2 [] true,.str m3,.ro 6 [] true]] true true),(4,.cells 4 [[.int .u64 x.k,.int .u8 x.t,.str x.x,.ro 1 (x.m.map eS) x.e]] true true),(5,.cells 6 [p.c] true true)],6⟩ =
  some (.ro 6 (([m1,m2,m3]++r).map λm=>(aH x p m [aA m] true).c) false):=by
 simp only [w513_K1];rw [ck_unf w513_B1.eq_1];have hxl:x.m.length=3+r.length:=by rw [hm];simp;omega
 cases r with
 | nil =>simp at hxl;simp [ck_unf w513_c2.eq_1,hxl,aB]
 | cons m4 r =>
  have h1:3 < x.m.length:=by rw [hxl];simp
  have hg:x.m[3]=m4:=by
   have q:x.m[3]?=some m4:=by rw [hm];simp
   rw [List.getElem?_eq_getElem h1] at q;exact Option.some.inj q
  have ha:=aI H.tosH x hk Qq p.s p.se hl;have this:=vG H x hk hl8 p hl m1 m2 m3 m4 r (by rw [hm];simp);simp only [w513_K1] at this;simp [aB] at this;have h2:(3:Int) < x.m.length:=by omega
  simp (disch:=omega) [h1,h2,hg,aj,aB,ha,H.inl,inlB,H.pp,ppB,this]
theorem xg (H:aX C) (x:It) (hk:0<=x.k/\x.k < 18446744073709551616) (hl8:x.m.length<=8) (p:Pt) (hl:p.s.length<=8) (m1 m2:Bs) (r:List Bs) (hm:x.m=[m1,m2]++r) :
 w513_K1 C ⟨[(6,.int .i64 2),(5,.sl 0 6 0 2 2 false),(3,.ptr 3 0 0),(2,.ptr 4 0 0)],[(0,.cells 6 [[.int .u8 1,.str p.t,.str m1,.ro 2 ((p.s.map (au x)).map eA) false,.str [],.sl 1 6 0 1 1 true],[.int .u8 1,.str p.t,.str m2,.ro 2 ((p.s.map (au x)).map eA) false,.str [],.sl 2 6 0 1 1 true]] true false),(1,.cells 6 [[.int .u8 2,.str [],.str [],.ro 2 [] true,.str m1,.ro 6 [] true]] true true),(2,.cells 6 [[.int .u8 2,.str [],.str [],.ro 2 [] true,.str m2,.ro 6 [] true]] true true),(3,.cells 4 [[.int .u64 x.k,.int .u8 x.t,.str x.x,.ro 1 (x.m.map eS) x.e]] true true),(4,.cells 6 [p.c] true true)],5⟩ =
  some (.ro 6 (([m1,m2]++r).map λm=>(aH x p m [aA m] true).c) false):=by
 simp only [w513_K1];rw [ck_unf w513_B1.eq_1];have hxl:x.m.length=2+r.length:=by rw [hm];simp;omega
 cases r with
 | nil =>simp at hxl;simp [ck_unf w513_c2.eq_1,hxl,aB]
 | cons m3 r =>
  have h1:2 < x.m.length:=by rw [hxl];simp
  have hg:x.m[2]=m3:=by
   have q:x.m[2]?=some m3:=by rw [hm];simp
   rw [List.getElem?_eq_getElem h1] at q;exact Option.some.inj q
  have ha:=aI H.tosH x hk Qq p.s p.se hl;have this:=uS H x hk hl8 p hl m1 m2 m3 r (by rw [hm];simp);simp only [w513_K1] at this;simp [aB] at this;have h2:(2:Int) < x.m.length:=by omega
  simp (disch:=omega) [h1,h2,hg,aj,aB,ha,H.inl,inlB,H.pp,ppB,this]
theorem uD (H:aX C) (x:It) (hk:0<=x.k/\x.k < 18446744073709551616) (hl8:x.m.length<=8) (p:Pt) (hl:p.s.length<=8) (m1:Bs) (r:List Bs) (hm:x.m=[m1]++r) :
 w513_K1 C ⟨[(6,.int .i64 1),(5,.sl 0 6 0 1 1 false),(3,.ptr 2 0 0),(2,.ptr 3 0 0)],[(0,.cells 6 [[.int .u8 1,.str p.t,.str m1,.ro 2 ((p.s.map (au x)).map eA) false,.str [],.sl 1 6 0 1 1 true]] true false),(1,.cells 6 [[.int .u8 2,.str [],.str [],.ro 2 [] true,.str m1,.ro 6 [] true]] true true),(2,.cells 4 [[.int .u64 x.k,.int .u8 x.t,.str x.x,.ro 1 (x.m.map eS) x.e]] true true),(3,.cells 6 [p.c] true true)],4⟩ =
  some (.ro 6 (([m1]++r).map λm=>(aH x p m [aA m] true).c) false):=by
 simp only [w513_K1];rw [ck_unf w513_B1.eq_1];have hxl:x.m.length=1+r.length:=by rw [hm];simp;omega
 cases r with
 | nil =>simp at hxl;simp [ck_unf w513_c2.eq_1,hxl,aB]
 | cons m2 r =>
  have h1:1 < x.m.length:=by rw [hxl];simp
  have hg:x.m[1]=m2:=by
   have q:x.m[1]?=some m2:=by rw [hm];simp
   rw [List.getElem?_eq_getElem h1] at q;exact Option.some.inj q
  have ha:=aI H.tosH x hk Qq p.s p.se hl;have this:=xg H x hk hl8 p hl m1 m2 r (by rw [hm];simp);simp only [w513_K1] at this;simp [aB] at this;have h2:(1:Int) < x.m.length:=by omega
  simp (disch:=omega) [h1,h2,hg,aj,aB,ha,H.inl,inlB,H.pp,ppB,this]
theorem wZ (H:aX C) (x:It) (hk:0<=x.k/\x.k < 18446744073709551616) (hl8:x.m.length<=8) (p:Pt) (hl:p.s.length<=8) (r:List Bs) (hm:x.m=r) :
 w513_K1 C ⟨[(6,.int .i64 0),(5,.sl 0 6 0 0 0 false),(3,.ptr 1 0 0),(2,.ptr 2 0 0)],[(0,.cells 6 [] true true),(1,.cells 4 [[.int .u64 x.k,.int .u8 x.t,.str x.x,.ro 1 (x.m.map eS) x.e]] true true),(2,.cells 6 [p.c] true true)],3⟩ =
  some (.ro 6 (r.map λm=>(aH x p m [aA m] true).c) false):=by
 simp only [w513_K1];rw [ck_unf w513_B1.eq_1];have hxl:x.m.length=0+r.length:=by rw [hm];simp
 cases r with
 | nil =>simp at hxl;simp [ck_unf w513_c2.eq_1,hxl,aB]
 | cons m1 r =>
  have h1:0 < x.m.length:=by rw [hxl];simp
  have hg:x.m[0]=m1:=by
   have q:x.m[0]?=some m1:=by rw [hm];simp
   rw [List.getElem?_eq_getElem h1] at q;exact Option.some.inj q
  have ha:=aI H.tosH x hk Qq p.s p.se hl;have this:=uD H x hk hl8 p hl  m1 r (by rw [hm];simp);simp only [w513_K1] at this;simp [aB] at this;have h2:(0:Int) < x.m.length:=by omega
  simp (disch:=omega) [h1,h2,hg,aj,aB,ha,H.inl,inlB,H.pp,ppB,this]
def mdF (p:Pt):Bool:=decide (p.k≠5)
theorem wH (H:aX C) (x:It) (hk:0<=x.k/\x.k < 18446744073709551616) (hm:x.m.length<=8) (p:Pt) (hl:p.ch.length<=16)
 (ih:∀ m ∈ p.ch,FnW C 513 [.agg m.c,eIt x]=some (.ro 6 ((md x m).map Nd.c) (mdF m))):∀ n i,n+i=p.ch.length->∀ G:List Nd,G.length<=8 * i ->
 w513_K0 C ⟨[(8,.int .i64 i),(7,.ptr 0 0 0),(3,.ptr 2 0 0),(2,.ptr 3 0 0)],[(0,.cells 6 [[.int .u8 1,.str p.t,.str p.y,.ro 2 ((p.s.map (au x)).map eA) false,.str [],.sl 1 6 0 G.length G.length false]] true false),(1,.cells 6 (G.map Nd.c) true true),(2,.cells 4 [[.int .u64 x.k,.int .u8 x.t,.str x.x,.ro 1 (x.m.map eS) x.e]] true true),(3,.cells 6 [p.c] true true)],4⟩ =
  some (.ro 6 [(aH x p p.y (G++mds x (p.ch.drop i)) false).c] true):=by
 intro n;induction n with
 | zero =>
  intro i hi G hG;have h1:p.ch.drop i=[]:=List.drop_eq_nil_of_le Qq;have h3:¬ i < p.ch.length:=by omega
  have h4:List.take G.length (List.map Nd.c G)=List.map Nd.c G:=List.take_of_length_le Qw;have hw:(aH x p p.y G false).c=[.int .u8 1,.str p.t,.str p.y,.ro 2 ((p.s.map (au x)).map eA) false,.str [],.ro 6 (G.map Nd.c) false]:=by rw [Nd.aC];rfl
  rw [h1,mds,List.append_nil,hw];simp only [w513_K0];rw [ck_unf w513_B0.eq_1];simp (disch:=omega) [ck_unf w513_c0.eq_1,h3,h4]
 | succ n ihn =>
  intro i hi G hG;have h1:i < p.ch.length:=by omega
  have hr:=ih _ (List.getElem_mem h1);have hlen:=pW x hm p.ch[i];have:=ihn (i+1) Qq (G++md x p.ch[i]) Qz;have hfit:(G.length+(md x p.ch[i]).length) * 105<=35184372088832:=by omega
  rw [drop_cons h1,mds,<- List.append_assoc];generalize (aH x p p.y (G++md x p.ch[i]++mds x (List.drop (i+1) p.ch)) false).c=R at *;by_cases hE:md x p.ch[i]=[]
  ·simp only [w513_K0] at this |-;rw [ck_unf w513_B0.eq_1];simp [hE] at this;simp (disch:=omega) [h1,aj,hr,hE,H.inl,inlB,H.pp,ppB,this]
  ·simp only [w513_K0] at this |-;rw [ck_unf w513_B0.eq_1];simp at this;simp (disch:=omega) [h1,aj,hr,hE,isE hE,hfit,H.inl,inlB,H.pp,ppB,this]
theorem qw (H:aX C) (x:It) (hk:0<=x.k/\x.k < 18446744073709551616) (hm:x.m.length<=8) (p:Pt) (hl:p.ch.length<=16)
 (ih:∀ m ∈ p.ch,FnW C 513 [.agg m.c,eIt x]=some (.ro 6 ((md x m).map Nd.c) (mdF m))):∀ n i,n+i=p.ch.length ->
 w513_K0 C ⟨[(8,.int .i64 i),(7,.ptr 0 0 0),(3,.ptr 1 0 0),(2,.ptr 2 0 0)],[(0,.cells 6 [[.int .u8 1,.str p.t,.str p.y,.ro 2 ((p.s.map (au x)).map eA) false,.str [],.ro 6 [] true]] true true),(1,.cells 4 [[.int .u64 x.k,.int .u8 x.t,.str x.x,.ro 1 (x.m.map eS) x.e]] true true),(2,.cells 6 [p.c] true true)],3⟩ =
  some (.ro 6 [(aH x p p.y (mds x (p.ch.drop i)) (mds x (p.ch.drop i)).isEmpty).c] true):=by
 intro n;induction n with
 | zero =>
  intro i hi;have h1:p.ch.drop i=[]:=List.drop_eq_nil_of_le Qq;have h3:¬ i < p.ch.length:=by omega
  have hw:(aH x p p.y [] true).c=[.int .u8 1,.str p.t,.str p.y,.ro 2 ((p.s.map (au x)).map eA) false,.str [],.ro 6 [] true]:=by rw [Nd.aC];rfl
  rw [h1,mds,List.isEmpty_nil,hw];simp only [w513_K0];rw [ck_unf w513_B0.eq_1];simp (disch:=omega) [ck_unf w513_c0.eq_1,h3]
 | succ n ihn =>
  intro i hi;have h1:i < p.ch.length:=by omega
  have hr:=ih _ (List.getElem_mem h1);have hlen:=pW x hm p.ch[i];have hfit:((md x p.ch[i]).length) * 105<=35184372088832:=by omega
  rw [drop_cons h1,mds];by_cases hE:md x p.ch[i]=[]
  ·have:=ihn (i+1) Qq;rw [hE,List.nil_append];generalize (aH x p p.y (mds x (List.drop (i+1) p.ch)) (mds x (List.drop (i+1) p.ch)).isEmpty).c=R at *;simp only [w513_K0] at this |-;rw [ck_unf w513_B0.eq_1];simp at this;simp (disch:=omega) [h1,aj,hr,hE,H.inl,inlB,H.pp,ppB,this]
  ·have:=wH H x hk hm p hl ih n (i+1) Qq (md x p.ch[i]) Qq;have he:(md x p.ch[i]++mds x (List.drop (i+1) p.ch)).isEmpty=false:=isE (by simp [hE]);rw [he];generalize (aH x p p.y (md x p.ch[i]++mds x (List.drop (i+1) p.ch)) false).c=R at *;simp only [w513_K0] at this |-;rw [ck_unf w513_B0.eq_1];simp at this;simp (disch:=omega) [h1,aj,hr,hE,isE hE,hfit,H.inl,inlB,H.pp,ppB,this]
theorem oW (H:aX C) (x:It) (hk:0<=x.k/\x.k < 18446744073709551616) (hm:x.m.length<=8) (p:Pt) (hp:aN p=true)
 (ih:∀ m ∈ p.ch,FnW C 513 [.agg m.c,eIt x]=some (.ro 6 ((md x m).map Nd.c) (mdF m))):FnW C 513 [.agg p.c,eIt x]=some (.ro 6 ((md x p).map Nd.c) (mdF p)):=by
 have hl:=dw hp;have hs:=lD hp;rw [fnW_eq H.Ar rfl,qL];unfold mdF;have hw:∀ s:Bs,(aA s).c=[.int .u8 2,.str [],.str [],.ro 2 [] true,.str s,.ro 6 [] true]:=λs=>by rw [Nd.aC];rfl
 rcases lT hp with k1 | k1 | k1 | k1 | k1
 ·have h:=qw H x hk hm p hl ih p.ch.length 0 Qw;have ha:=aI H.tosH x hk Qq p.s p.se hs.1;rw [if_neg Qq,if_neg Qq,if_neg Qq,if_neg Qq];rw [List.drop_zero] at h;simp only [List.map_cons,List.map_nil];generalize (aH x p p.y (mds x p.ch) (mds x p.ch).isEmpty).c=R at *;simp only [w513_K0] at h;simp at h;simp [w513,ck_unf w513_c1.eq_1,k1,ha,H.inl,inlB,H.pp,ppB,h]
 ·simp [w513,k1,hw]
 ·simp [w513,k1,hw]
 ·obtain ⟨k,hk2⟩:∃ k:Nat,x.k=k:=⟨x.k.toNat,by omega⟩;have hd:=jo H.tosD k Qq;simp [w513,k1,hw,hk2,hd,H.inl,inlB,H.pp,ppB]
 ·have h:=wZ H x hk hm p hs.1 x.m rfl;rw [if_neg Qq,if_neg Qq,if_neg Qq,if_pos k1,List.map_map];have hq:(Nd.c ∘ λm=>aH x p m [aA m] true)=λm=>(aH x p m [aA m] true).c:=rfl;rw [hq];generalize List.map (λm=>(aH x p m [aA m] true).c) x.m=R at *;simp only [w513_K1] at h;simp [w513,k1,h]
theorem nG (H:aX C) (x:It) (hk:0<=x.k/\x.k < 18446744073709551616) (hm:x.m.length<=8) (p:Pt) (hp:Okp p):FnW C 513 [.agg p.c,eIt x]=some (.ro 6 ((md x p).map Nd.c) (mdF p)):=by
 have ho:∀ m ∈ p.ch,Okp m:=by cases hp;assumption
 exact oW H x hk hm p (by cases hp;assumption) λm q=>nG H x hk hm m (ho m q)
termination_by SizeOf.sizeOf p
decreasing_by
 have:=List.sizeOf_lt_of_mem q;have:=Pt.bK p;omega
theorem nJ {x:It} (h:dL x=true):x.m.length<=8:=by unfold dL at h;simp at h;exact h.2.1
theorem o7 (H:aX C) (p:Pt) (hf:aF p) (x:It) (hk:0<=x.k/\x.k < 18446744073709551616) (most:Int) :
 FnW C 501 [.agg p.c,eIt x,.int .i64 most]=some (.tup [.agg (pV p x most).c,.int .i64 (cZ p x most)]):=by
 have hz:zN.c=[.int .u8 0,.str [],.str [],.ro 2 [] true,.str [],.ro 6 [] true]:=by rw [Nd.aC];rfl
 have hc:=gX H.toeF p;have hi:=rH H.toqX x;rw [fnW_eq H.Dz rfl];unfold pV cZ;by_cases c1:most < 1
 ·simp [w501,c1,hz]
 ·by_cases c2:64 < most
  ·simp [w501,c1,c2,hz]
  ·by_cases c3:aS p=0
   ·rw [c3] at hc;simp at hc;simp [w501,c1,c2,c3,hc,hz,H.inl,inlB,H.pp,ppB]
   ·rw [if_neg c3] at hc;cases c4:dL x
    ·rw [c4] at hi;simp at hi;simp [w501,c1,c2,c3,hc,hi,hz,H.inl,inlB,H.pp,ppB]
    ·rw [c4] at hi;simp at hi;have hk1:=qm c3;have hmk:=wW H x hk (nJ c4) [p] true Qw (by simpa using jU hf c3);have hq:mks x [p]=[mkN x p]:=by unfold mkN;rw [mks,mks,mk_eq,if_pos hk1];rfl
     rw [hq] at hmk;have hn:=kC H.tojI (mkN x p);generalize hN:mkN x p=N at *;generalize cnt N=K at *;simp at hmk;by_cases c5:K=0
     ·subst c5;simp [w501,c1,c2,c3,hc,hi,hz,hmk,hn,H.inl,inlB,H.pp,ppB]
     ·by_cases c6:most < K
      ·simp [w501,c1,c2,c3,hc,hi,hz,hmk,hn,c5,c6,H.inl,inlB,H.pp,ppB]
      ·simp [w501,c1,c2,c3,hc,hi,hz,hmk,hn,c5,c6,H.inl,inlB,H.pp,ppB]
theorem lg (H:aX C) (p:Pt) (hf:aF p) (x:It) (hk:0<=x.k/\x.k < 18446744073709551616) (most:Int) :
 FnW C 425 [.agg p.c,eIt x,.int .i64 most]=some (.tup [.agg (yY p x most).c,.int .i64 (cZ p x most)]):=by
 have hz:zN.c=[.int .u8 0,.str [],.str [],.ro 2 [] true,.str [],.ro 6 [] true]:=by rw [Nd.aC];rfl
 have hc:=gu H.tojg p hf;have hi:=pU H.toqX x;rw [fnW_eq H.Bv rfl];unfold yY cZ;by_cases c1:most < 1
 ·simp [w425,c1,hz]
 ·by_cases c2:64 < most
  ·simp [w425,c1,c2,hz]
  ·by_cases c3:aS p=0
   ·rw [c3] at hc;simp at hc;simp [w425,c1,c2,c3,hc,hz,H.inl,inlB,H.pp,ppB]
   ·rw [if_neg c3] at hc;cases c4:dL x
    ·rw [c4] at hi;simp at hi;simp [w425,c1,c2,c3,hc,hi,hz,H.inl,inlB,H.pp,ppB]
    ·rw [c4] at hi;simp at hi;have hk1:=qm c3;have ho:=jU hf c3;have hmk:=nG H x hk (nJ c4) p ho;have hq:md x p=[mdN x p]:=by unfold mdN;rw [qL,if_neg Qq,if_neg Qq,if_neg Qq,if_neg Qq];rfl
     rw [hq] at hmk;have hn:=gV H.tojE (mdN x p);have hn2:=oh H.tojE (mdN x p);have hcz:cnt (mkN x p)=cnt (mdN x p):=by rw [<- xJ,zf x p ho,xJ]
     rw [hcz];generalize hN:mdN x p=N at *;generalize cnt N=K at *;simp at hmk;by_cases c5:K=0
     ·subst c5;simp at hn2;simp [w425,c1,c2,c3,hc,hi,hz,hmk,hn,hn2,H.inl,inlB,H.pp,ppB]
     ·simp [c5] at hn2;by_cases c6:most < K
      ·simp [w425,c1,c2,c3,hc,hi,hz,hmk,hn,hn2,c5,c6,H.inl,inlB,H.pp,ppB]
      ·simp [w425,c1,c2,c3,hc,hi,hz,hmk,hn,hn2,c5,c6,H.inl,inlB,H.pp,ppB]
end Go.D
end
section
namespace Go.D
open Go Go.Pav Go.Pw P
structure Kd where
 p:Pt
 b:Int
 st:Bool
 pl:Int
structure En where
 i:It
 s:Int
 kn:Bool
@[simp] def eKd (k:Kd):List AV:=[.int .u8 k.p.k,.str k.p.t,.str k.p.y,.ro 3 (k.p.s.map eSl) k.p.se,.str k.p.x,.ro 6 (k.p.ch.map Pt.c) k.p.ce,.int .i64 k.b,.bool k.st,.int .i64 k.pl]
@[simp] def cIt (i:It):List AV:=[.int .u64 i.k,.int .u8 i.t,.str i.x,.ro 1 (i.m.map eS) i.e]
@[simp] def eEn (e:En):List AV:=[.int .u64 e.i.k,.int .u8 e.i.t,.str e.i.x,.ro 1 (e.i.m.map eS) e.i.e,.int .i64 e.s,.bool e.kn]
abbrev aR (ks:List Kd) (ke:Bool) (cap:Int):AV:=.agg [.ro 9 (ks.map eKd) ke,.int .i64 cap]
abbrev aL (l:List En) (e:Bool):AV:=.agg [.ro 6 (l.map eEn) e]
abbrev aE (e:En):AV:=.agg (eEn e)
structure qZ (i:It):Prop where
 k:0<=i.k/\i.k < 18446744073709551616
 t:0<=i.t/\i.t<=255
 m:i.m.length<=1000000
structure dJ (e:En):Prop where
 i:qZ e.i
 s:-9223372036854775808<=e.s/\e.s<=9223372036854775807
structure cu (ks:List Kd):Prop where
 n:ks.length<=1000000
 f:∀ k ∈ ks,aF k.p
def hOk (n:Int):Bool:=decide (1<=n)&&decide (n<=2305843009213693952)
def bW (k:Kd):Bool:=hOk k.b&&decide (aS k.p≠0)
def bG (ks:List Kd) (cap:Int):Bool:=decide (1<=ks.length)&&decide (ks.length<=8)&&decide (1<=cap)&&decide (cap<=64)&&ks.all bW
def zP:Pt:=⟨0,[],[],[],true,[],[],true⟩
def jA (ks:List Kd) (t:Int):Kd:=(ks[t.toNat]?).getD ⟨zP,0,false,0⟩
def itE (ks:List Kd) (cap:Int) (x:It) (seen:Bool):Int :=if gK ks.length x=false then 6 else if seen=true then 8 else if cZ (jA ks x.t).p x cap=0 then 0 else 14
def enE (ks:List Kd) (cap:Int) (e:En) (seen:Bool):Int :=if itE ks cap e.i seen≠0 then itE ks cap e.i seen else if hOk e.s=true/\(e.kn=true\/e.s=(jA ks e.i.t).b) then 0 else 12
def chk (ks:List Kd) (cap:Int):List Int->List En->Int
 | _,[]=>0
 | seen,e::r=>if enE ks cap e (seen.contains e.i.k)≠0 then enE ks cap e (seen.contains e.i.k) else chk ks cap (seen++[e.i.k]) r
def kJ:Int->List En->Int
 | sum,[]=>sum
 | sum,e::r=>if 4611686018427387904 - sum < imax e.s 0 then 4611686018427387905 else kJ (sum+imax e.s 0) r
def tot (l:List En):Int:=kJ 0 l
def ovE (l:List En):Int:=if 4611686018427387904 < tot l then 13 else 0
def ckE (ks:List Kd) (cap:Int) (l:List En):Int :=if bG ks cap=false then 7 else if 1024 < l.length then 3 else if chk ks cap [] l≠0 then chk ks cap [] l else ovE l
def fnd (k:Int):List En->Option Nat
 | []=>none
 | e::r=>if e.i.k=k then some 0 else (fnd k r).map (·+1)
def It.own (i:It):It:={ i with e:=true }
def En.own (e:En):En:={ e with i:=e.i.own }
def fre (ks:List Kd) (x:It):En:=⟨x,(jA ks x.t).b,false⟩
def spl {α:Type} (l:List α) (at_ count:Nat) (x:List α):List α:=l.take at_++x++l.drop (at_+count)
end Go.D
end
section
end
section
namespace Go.D
open Go Go.Pav Go.Pw P
attribute [-simp] List.getElem_cons_drop
variable {C:WProg}
structure bC (C:WProg):Prop extends HasS C where
 f225:C.fns.get 225=some w225
 f111:C.fns.get 111=some w111
 f227:C.fns.get 227=some w227
 BF:C.fns.get 460=some w460
 BH:C.fns.get 459=some w459
 f340:C.fns.get 340=some w340
 f226:C.fns.get 226=some w226
 f221:C.fns.get 221=some w221
 Ba:C.fns.get 400=some w400
 f219:C.fns.get 219=some w219
 zX:C.fns.get 504=some w504
 Ai:C.fns.get 407=some w407
 f239:C.fns.get 239=some w239
 Cb:C.fns.get 406=some w406
theorem iw (H:bC C) (n:Int):FnW C 225 [.int .i64 n]=some (.bool (hOk n)):=by rw [fnW_eq H.f225 rfl];unfold hOk;by_cases c1:1<=n <;> by_cases c2:n<=2305843009213693952 <;> simp [w225,c1,c2]
theorem nT (s:Int) (h1:-9223372036854775808<=s) (h2:s<=9223372036854775807):0<=imax s 0/\imax s 0<=9223372036854775807:=by unfold imax;split <;> omega
theorem sV (H:bC C) (l:List En) (e:Bool) (hl:l.length<=1000000) (hs:∀ x ∈ l,-9223372036854775808<=x.s/\x.s<=9223372036854775807):∀ n i,n+i=l.length->∀ sum:Int,0<=sum->sum<=4611686018427387904 ->
 w111_K0 C ⟨[(10,.int .i64 i),(9,.int .i64 l.length),(8,.ro 6 (l.map eEn) e),(3,.int .i64 sum)],[],0⟩=some (.int .i64 (kJ sum (l.drop i))):=by
 intro n;induction n with
 | zero =>
  intro i hi sum s1 s2;simp only [w111_K0];rw [ck_unf w111_B0.eq_1];have h1:l.drop i=[]:=List.drop_eq_nil_of_le Qq;have h3:¬ i < l.length:=by omega
  simp [ck_unf w111_c0.eq_1,h1,h3,kJ]
 | succ n ih =>
  intro i hi sum s1 s2;have h1:i < l.length:=by omega
  have hb:=nT l[i].s (hs _ (List.getElem_mem h1)).1 (hs _ (List.getElem_mem h1)).2;rw [drop_cons h1,kJ];generalize hM:imax l[i].s 0=M at *;by_cases c:4611686018427387904 - sum < M
  ·rw [if_pos c];simp only [w111_K0];rw [ck_unf w111_B0.eq_1];simp (disch:=omega) [h1,aj,hM,c]
  ·rw [if_neg c];have:=ih (i+1) Qq (sum+M) Qq Qq;simp only [w111_K0] at this |-;rw [ck_unf w111_B0.eq_1];simp at this;simp (disch:=omega) [h1,aj,hM,c,this]
theorem vW (H:bC C) (l:List En) (e:Bool) (hl:l.length<=1000000) (hs:∀ x ∈ l,-9223372036854775808<=x.s/\x.s<=9223372036854775807):FnW C 111 [aL l e]=some (.int .i64 (tot l)):=by have h:=sV H l e hl hs l.length 0 Qw 0 Qq Qq;simp only [w111_K0] at h;simp at h;rw [fnW_eq H.f111 rfl];unfold tot;simp [w111,h]
theorem yP (H:bC C) (l:List En) (e:Bool) (hl:l.length<=1000000) (hs:∀ x ∈ l,dJ x):FnW C 111 [aL l e]=some (.int .i64 (tot l)):=vW H l e hl λx hx=>(hs x hx).s
theorem jS (H:bC C) (l:List En) (e:Bool) (hl:l.length<=1000000) (hs:∀ x ∈ l,dJ x):FnW C 227 [aL l e]=some (.int .i64 (ovE l)):=by have h:=yP H l e hl hs;rw [fnW_eq H.f227 rfl];unfold ovE;by_cases c:4611686018427387904 < tot l <;> simp [w227,h,H.inl,inlB,H.pp,ppB,c]
theorem oD (H:bC C) (l:List En) (e:Bool) (hl:l.length<=1000000) (hs:∀ x ∈ l,-9223372036854775808<=x.s/\x.s<=9223372036854775807):∀ n i,n+i=l.length->∀ sum:Int,0<=sum->sum<=4611686018427387904 ->
 w504_K0 C ⟨[(4,.int .i64 i),(3,.int .u64 sum),(0,.ro 6 (l.map eEn) e)],[],0⟩=some (.int .i64 (kJ sum (l.drop i))):=by
 intro n;induction n with
 | zero =>
  intro i hi sum s1 s2;simp only [w504_K0];rw [ck_unf w504_B0.eq_1];have h1:l.drop i=[]:=List.drop_eq_nil_of_le Qq;have h3:¬ i < l.length:=by omega
  simp (disch:=omega) [ck_unf w504_c0.eq_1,h1,h3,kJ,aj]
 | succ n ih =>
  intro i hi sum s1 s2;have h1:i < l.length:=by omega
  have hx:=hs _ (List.getElem_mem h1);have hb:=nT l[i].s hx.1 hx.2;rw [drop_cons h1,kJ];by_cases p:0 < l[i].s
  ·rw [rX (by omega:(0:Int)<=l[i].s)] at *;by_cases c:4611686018427387904 - sum < l[i].s
   ·rw [if_pos c];have c':4611686018427387904 < sum+l[i].s:=by omega
    simp only [w504_K0];rw [ck_unf w504_B0.eq_1];simp (disch:=omega) [h1,aj,gU,p,c']
   ·rw [if_neg c];have c':¬ 4611686018427387904 < sum+l[i].s:=by omega
    have:=ih (i+1) Qq (sum+l[i].s) Qq Qq;simp only [w504_K0] at this |-;rw [ck_unf w504_B0.eq_1];simp at this;simp (disch:=omega) [h1,aj,gU,p,c',this]
  ·rw [sO (by omega:l[i].s<=(0:Int)),if_neg Qq,Int.add_zero];have c':¬ 4611686018427387904 < sum:=by omega
   have:=ih (i+1) Qq sum Qq Qq;simp only [w504_K0] at this |-;rw [ck_unf w504_B0.eq_1];simp at this;simp (disch:=omega) [h1,aj,gU,p,c',this]
theorem rP (H:bC C) (l:List En) (e:Bool) (hl:l.length<=1000000) (hs:∀ x ∈ l,-9223372036854775808<=x.s/\x.s<=9223372036854775807):FnW C 504 [.ro 6 (l.map eEn) e]=some (.int .i64 (tot l)):=by have h:=oD H l e hl hs l.length 0 Qw 0 Qq Qq;simp only [w504_K0] at h;simp at h;rw [fnW_eq H.zX rfl];unfold tot;simp [w504,h]
theorem wU (H:bC C) (l:List En) (e:Bool) (hl:l.length<=1000000) (hs:∀ x ∈ l,dJ x):FnW C 504 [.ro 6 (l.map eEn) e]=some (.int .i64 (tot l)):=rP H l e hl λx hx=>(hs x hx).s
theorem rW (H:bC C) (l:List En) (e:Bool) (hl:l.length<=1000000) (hs:∀ x ∈ l,dJ x):FnW C 407 [.ro 6 (l.map eEn) e]=some (.int .i64 (ovE l)):=by have h:=wU H l e hl hs;rw [fnW_eq H.Ai rfl];unfold ovE;by_cases c:4611686018427387904 < tot l <;> simp [w407,h,H.inl,inlB,H.pp,ppB,c]
def gJ (k:Int):Nat->List En->Int
 | _,[]=>-1
 | i,e::r=>if e.i.k=k then i else gJ k (i+1) r
theorem lC (H:bC C) (l:List En) (e:Bool) (k:Int) (hl:l.length<=1000000):∀ n i,n+i=l.length ->
 w239_K0 C ⟨[(5,.int .i64 i),(1,.int .u64 k),(0,.ro 6 (l.map eEn) e)],[],0⟩=some (.int .i64 (gJ k i (l.drop i))):=by
 intro n;induction n with
 | zero =>
  intro i hi;simp only [w239_K0];rw [ck_unf w239_B0.eq_1];have h1:l.drop i=[]:=List.drop_eq_nil_of_le Qq;have h3:¬ i < l.length:=by omega
  simp (disch:=omega) [ck_unf w239_c0.eq_1,h1,h3,gJ]
 | succ n ih =>
  intro i hi;have h1:i < l.length:=by omega
  have:=ih (i+1) Qq;rw [drop_cons h1,gJ];by_cases c:l[i].i.k=k
  ·rw [if_pos c];simp only [w239_K0];rw [ck_unf w239_B0.eq_1];simp (disch:=omega) [h1,aj,c]
  ·rw [if_neg c];simp only [w239_K0] at this |-;rw [ck_unf w239_B0.eq_1];simp at this;simp (disch:=omega) [h1,aj,c,this]
theorem qM (H:bC C) (l:List En) (e:Bool) (k:Int) (hl:l.length<=1000000):FnW C 239 [.ro 6 (l.map eEn) e,.int .u64 k]=some (.int .i64 (gJ k 0 l)):=by have h:=lC H l e k hl l.length 0 Qw;simp only [w239_K0] at h;simp at h;rw [fnW_eq H.f239 rfl];simp [w239,h]
theorem Bq (H:bC C) (b:Bool):FnW C 406 [.bool b]=some (.int .i64 (if b=true then 1 else 0)):=by rw [fnW_eq H.Cb rfl];cases b <;> simp [w406]
def inR (a c n:Int):Bool:=decide (0<=a)&&decide (a<=n)&&decide (0<=c)&&decide (c<=n - a)
theorem pJ (H:bC C) (a c n:Int) (hn:0<=n/\n<=1000000):FnW C 219 [.int .i64 a,.int .i64 c,.int .i64 n]=some (.bool (inR a c n)):=by
 rw [fnW_eq H.f219 rfl];unfold inR;by_cases c1:0<=a <;> by_cases c2:a<=n <;> by_cases c3:0<=c <;> by_cases c4:c<=n - a <;> first
  | (simp (disch:=omega) [w219,c1,c2,c3,c4,aj];done)
  | (simp (disch:=omega) [w219,c1,c2,c3,c4,aj];omega)
end Go.D
end
section
namespace Go.D
open Go Go.Pav Go.Pw P
attribute [-simp] List.getElem_cons_drop
variable {C:WProg}
theorem oV (H:bC C) (m:List Bs) (e:Bool) (hl:m.length<=1000000):FnW C 460 [.ro 1 (m.map eS) e]=some (.ro 1 (m.map eS) true):=by
 rw [fnW_eq H.BF rfl];by_cases h:m=[]
 ·subst h;simp [w460]
 ·have h2:m.length * 17<=35184372088832:=by omega
  have hT:List.take m.length (List.map eS m)=List.map eS m:=List.take_of_length_le Qw;simp (disch:=omega) [w460,h,h2,isE,hT]
theorem rQ (H:bC C) (x:It) (e:Bool) (hl:x.m.length<=1000000):FnW C 340 [.ro 4 [cIt x] e]=some (.ro 4 [cIt x.own] true):=by have hg:=λa h n=>aP (args:=[a]) H.BH rfl h n;have he:=oV H x.m x.e hl;rw [fnW_eq H.f340 rfl];simp (disch:=omega) [w340,ck_unf w340_B0.eq_1,ck_unf w340_c0.eq_1,hg,w459,he,H.inl,inlB,H.pp,ppB,It.own,aj]
theorem tX (H:bC C) (l:List En) (e:Bool) (hl:l.length<=1000000) (hm:∀ x ∈ l,x.i.m.length<=1000000):∀ n i,n+i=l.length->∀ G:List En,G.length=i ->
 w226_K0 C ⟨[(15,.int .i64 i),(14,.int .i64 l.length),(13,.ro 6 (l.map eEn) e),(3,.sl 0 6 0 l.length l.length true),(2,.ptr 1 0 0)],[(0,.cells 6 (G.map eEn++List.replicate n [.int .u64 0,.int .u8 0,.str [],.ro 1 [] true,.int .i64 0,.bool false]) true true),(1,.cells 1 [[.ro 6 [] true]] true true)],2⟩ =
  some (aL (G++(l.drop i).map En.own) true):=by
 intro n;induction n with
 | zero =>
  intro i hi G hG;have h1:l.drop i=[]:=List.drop_eq_nil_of_le Qq;have h3:¬ i < l.length:=by omega
  have h6:List.take l.length (List.map eEn G)=List.map eEn G:=List.take_of_length_le Qz;have h7:G.length=l.length:=by omega
  simp only [w226_K0];rw [ck_unf w226_B0.eq_1];simp [ck_unf w226_c0.eq_1,h1,h3,h6,h7]
 | succ n ih =>
  intro i hi G hG;have h1:i < l.length:=by omega
  have hc:=rQ H l[i].i true (hm _ (List.getElem_mem h1));have:=ih (i+1) Qq (G++[l[i].own]) (by simp [hG]);rw [drop_cons h1];simp only [w226_K0] at this |-;rw [ck_unf w226_B0.eq_1];simp [It.own] at hc;simp [En.own,It.own] at this;simp (disch:=omega) [h1,aj,hc,fV,fF,hG,H.inl,inlB,H.pp,ppB,En.own,It.own,this]
theorem yh (H:bC C) (l:List En) (e:Bool) (hl:l.length<=1000000) (hm:∀ x ∈ l,x.i.m.length<=1000000):FnW C 226 [.ro 6 (l.map eEn) e]=some (aL (l.map En.own) true):=by
 rw [fnW_eq H.f226 rfl];by_cases hne:l=[]
 ·subst hne;simp [w226]
 ·have h:=tX H l e hl hm l.length 0 Qw [] rfl;have h2:l.length * 73<=35184372088832:=by omega
  simp only [w226_K0] at h;simp at h;simp (disch:=omega) [w226,hne,h2,h]
section
variable {β:Type} {base:Nat} {fin:Ex × WSt->Option β} {K:List Pw.Frame} {a:Ann} {l:List COper} {d:Option Nat} {e:Env} {n:Nat}
theorem vU {z bytes N nid:Nat} {zz:List AV} {xs:List (List AV)} {ex:Bool} (h:xs.length<=N) :
 SK C base fin K a l d e [(0,.cells z (List.replicate N zz) true true)] n (wEvApp [(0,.cells z (List.replicate N zz) true true)] nid z bytes (.sl 0 z 0 0 N ex) xs true) =
  OK C base fin K a l ⟨setD e d (.sl 0 z 0 xs.length N ex),[(0,.cells z (xs++List.replicate (N - xs.length) zz) true true)],n⟩:=by
 by_cases c:xs=[]
 ·subst c;simp [sk_some]
 ·simp [isE c,h,sk_some]
theorem tH {z bytes N nid k m:Nat} {zz:List AV} {A xs:List (List AV)} {ex:Bool} (hA:A.length=k) (hm:k+m=N) (h:xs.length<=m) :
 SK C base fin K a l d e [(0,.cells z (A++List.replicate m zz) true true)] n (wEvApp [(0,.cells z (A++List.replicate m zz) true true)] nid z bytes (.sl 0 z 0 k N ex) xs true) =
  OK C base fin K a l ⟨setD e d (.sl 0 z 0 (k+xs.length) N ex),[(0,.cells z (A++(xs++List.replicate (m - xs.length) zz)) true true)],n⟩:=by
 have h1:k+xs.length<=N:=by omega
 have h2:List.take k A=A:=List.take_of_length_le Qq;have h3:List.drop (k+xs.length) A=[]:=List.drop_eq_nil_of_le Qq;by_cases c:xs=[]
 ·subst c;simp [sk_some]
 ·simp (disch:=omega) [isE c,hA,hm,h1,h2,h3,sk_some,List.take_append,List.drop_append]
theorem wY {z bytes N nid k m:Nat} {zz:List AV} {A B xs:List (List AV)} {ex:Bool} (hA:A.length+B.length=k) (hm:k+m=N) (h:xs.length<=m) :
 SK C base fin K a l d e [(0,.cells z (A++(B++List.replicate m zz)) true true)] n (wEvApp [(0,.cells z (A++(B++List.replicate m zz)) true true)] nid z bytes (.sl 0 z 0 k N ex) xs true) =
  OK C base fin K a l ⟨setD e d (.sl 0 z 0 (k+xs.length) N ex),[(0,.cells z (A++(B++(xs++List.replicate (m - xs.length) zz))) true true)],n⟩:=by
 have:=tH (C:=C) (base:=base) (fin:=fin) (K:=K) (a:=a) (l:=l) (d:=d) (e:=e) (n:=n) (z:=z) (bytes:=bytes) (N:=N) (nid:=nid) (k:=k) (m:=m) (zz:=zz) (A:=A++B) (xs:=xs) (ex:=ex) (by simpa using hA) hm h;simpa only [List.append_assoc] using this
end
theorem uI {α:Type} (l x:List α) (a c:Nat) (h:a+c<=l.length):(spl l a c x).length=l.length - c+x.length:=by unfold spl;simp;omega
theorem pG (H:bC C) (l x:List En) (e e2:Bool) (a c:Nat) (hl:l.length<=1000000) (hx:x.length<=1000000) (hac:a+c<=l.length) :
 FnW C 221 [.ro 6 (l.map eEn) e,.int .i64 a,.int .i64 c,.ro 6 (x.map eEn) e2]=some (.ro 6 ((spl l a c x).map eEn) true):=by
 rw [fnW_eq H.f221 rfl];obtain ⟨N,hN,hN2⟩:∃ N:Nat,(l.length:Int) - c+x.length=N/\N=l.length - c+x.length:=⟨_,by omega,rfl⟩;have h1:(c:Int)<=l.length:=by omega
 have h2:N * 73<=35184372088832:=by omega
 have hA:min a l.length=a:=by omega
 have h3:a<=N:=by omega
 have h4:a+x.length<=N:=by omega
 have h5:a+x.length+(l.length - (a+c))=N:=by omega
 have h6:a<=l.length:=by omega
 have hT:List.take l.length (List.map eEn l)=List.map eEn l:=List.take_of_length_le Qw;have h9:a+(x.length+(l.length - (a+c)))=N:=by omega
 have h7:N - a - x.length=l.length - (a+c):=by omega
 have h8:List.take N (List.map eEn (spl l a c x))=List.map eEn (spl l a c x):=List.take_of_length_le (by simp [spl];omega);simp only [spl] at h8 |-;simp at h8;simp (disch:=first | omega | (simp;done) | (simp;omega)) [w221,aj,h1,hN,h2,hA,h3,h4,h5,h6,hac,-wEvApp_sl,vU,tH,wY,hT,h7,h8,h9]
end Go.D
end
section
namespace Go.D
open Go Go.Pav Go.Pw P
attribute [-simp] List.getElem_cons_drop
variable {C:WProg}
structure bY (C:WProg):Prop extends aX C,bC C where
 CJ:C.fns.get 399=some w399
 f230:C.fns.get 230=some w230
 wB:C.fns.get 405=some w405
 f232:C.fns.get 232=some w232
 f115:C.fns.get 115=some w115
 f236:C.fns.get 236=some w236
 f271:C.fns.get 271=some w271
 f223:C.fns.get 223=some w223
 f235:C.fns.get 235=some w235
theorem aZ {ks:List Kd} {t:Nat} (h:t < ks.length):jA ks t=ks[t]:=by unfold jA;simp [h]
theorem lq {n:Int} {x:It} (h:gK n x=true):x.t < n:=by unfold gK at h;simp at h;exact h.1.1.2
theorem lI (H:bY C) (ks:List Kd) (ke:Bool) (cap:Int) (x:It) (hx:qZ x) (ht:x.t < ks.length) (hr:cu ks) :
 FnW C 399 [aR ks ke cap,eIt x]=some (.tup [.agg (pV (jA ks x.t).p x cap).c,.int .i64 (cZ (jA ks x.t).p x cap)]):=by
 obtain ⟨t,hT⟩:∃ t:Nat,x.t=t:=⟨x.t.toNat,by have:=hx.t;omega⟩;have h1:t < ks.length:=by omega
 have h:=o7 H.toaX ks[t].p (hr.f _ (List.getElem_mem h1)) x hx.k cap;rw [hT,aZ h1];rw [fnW_eq H.CJ rfl];generalize (pV ks[t].p x cap)=N at *;generalize cZ ks[t].p x cap=E at *;rw [Pt.aC] at h;simp only [eIt,hT] at h;simp (disch:=omega) [w399,hT,h1,h,H.inl,inlB,H.pp,ppB]
theorem yc (H:bY C) (k:Kd):FnW C 230 [.agg (eKd k)]=some (.bool (!bW k)):=by
 have h1:=iw H.tobC k.b;have h2:=gX H.toeF k.p;rw [Pt.aC] at h2;rw [fnW_eq H.f230 rfl];unfold bW;generalize hOk k.b=X at *;cases X
 ·simp [w230,h1,H.inl,inlB,H.pp,ppB]
 ·by_cases c:aS k.p=0
  ·simp [c] at h2;simp [w230,h1,h2,c,H.inl,inlB,H.pp,ppB]
  ·simp [c] at h2;simp [w230,h1,h2,c,H.inl,inlB,H.pp,ppB]
theorem jv (H:bY C) (ks:List Kd) (e:Bool) (hl:ks.length<=1000000):∀ n i,n+i=ks.length ->
 ∃ v:Int,w405_K0 C ⟨[(8,.int .i64 i),(7,.int .i64 ks.length),(1,.fn 230 []),(0,.ro 9 (ks.map eKd) e)],[],0⟩=some (.int .i64 v)/\decide (v < 0)=(ks.drop i).all bW:=by
 intro n;induction n with
 | zero =>
  intro i hi;simp only [w405_K0];rw [ck_unf w405_B0.eq_1];have h1:ks.drop i=[]:=List.drop_eq_nil_of_le Qq;have h3:¬ i < ks.length:=by omega
  exact ⟨-1,by simp (disch:=omega) [ck_unf w405_c0.eq_1,h1,h3],by simp [h1]⟩
 | succ n ih =>
  intro i hi;have h1:i < ks.length:=by omega
  have hb:=yc H ks[i];simp only [eKd] at hb;rw [drop_cons h1];cases c:bW ks[i]
  ·refine ⟨i,?_,by simp [c]⟩;rw [c] at hb;simp only [w405_K0];rw [ck_unf w405_B0.eq_1];simp (disch:=omega) [h1,hb,H.inl,inlB,H.pp,ppB]
  ·obtain ⟨v,hv,hq⟩:=ih (i+1) Qq;refine ⟨v,?_,by simp [hq,c]⟩;rw [c] at hb;simp only [w405_K0] at hv |-;rw [ck_unf w405_B0.eq_1];simp at hv;simp (disch:=omega) [h1,aj,hb,H.inl,inlB,H.pp,ppB,hv]
theorem iy (H:bY C) (ks:List Kd) (e:Bool) (hl:ks.length<=1000000):FnW C 232 [.ro 9 (ks.map eKd) e,.fn 230 []]=some (.bool (!ks.all bW)):=by
 obtain ⟨v,h,q⟩:=jv H ks e hl ks.length 0 Qw;simp only [w405_K0] at h;simp at h;have h2:FnW C 405 [.ro 9 (ks.map eKd) e,.fn 230 []]=some (.int .i64 v):=by rw [fnW_eq H.wB rfl];simp [w405,h]
 rw [fnW_eq H.f232 rfl];rw [List.drop_zero] at q;rw [<- q];by_cases c:v < 0
 ·have c':¬ 0<=v:=by omega
  simp [w232,H.inl,inlB,H.pp,ppB,h2,c,c']
 ·have c':0<=v:=by omega
  simp [w232,H.inl,inlB,H.pp,ppB,h2,c,c']
theorem jF (H:bY C) (ks:List Kd) (ke:Bool) (cap:Int) (hr:cu ks):FnW C 115 [aR ks ke cap]=some (.int .i64 (if bG ks cap=true then 0 else 7)):=by
 have h:=iy H ks ke hr.n;have hl:=hr.n;rw [fnW_eq H.f115 rfl];unfold bG;by_cases c1:1<=ks.length
 ·have c1':¬ ((ks.length:Int) < 1):=by omega
  by_cases c2:ks.length<=8
  ·have c2':¬ (8 < (ks.length:Int)):=by omega
   by_cases c3:1<=cap
   ·have c3':¬ cap < 1:=by omega
    by_cases c4:cap<=64
    ·have c4':¬ 64 < cap:=by omega
     cases c5:ks.all bW
     ·rw [c5] at h;simp [w115,c1,c1',c2,c2',c3,c3',c4,c4',h,H.inl,inlB,H.pp,ppB]
     ·rw [c5] at h;simp [w115,c1,c1',c2,c2',c3,c3',c4,c4',h,H.inl,inlB,H.pp,ppB]
    ·have c4':64 < cap:=by omega
     simp [w115,c1,c1',c2,c2',c3,c3',c4,c4']
   ·have c3':cap < 1:=by omega
    simp [w115,c1,c1',c2,c2',c3,c3']
  ·have c2':(8 < (ks.length:Int)):=by omega
   simp [w115,c1,c1',c2,c2']
 ·have c1':((ks.length:Int) < 1):=by omega
  simp [w115,c1,c1']
theorem jT (H:bY C) (ks:List Kd) (ke:Bool) (cap:Int) (hr:cu ks):∀ n i,n+i=ks.length ->
 w236_K0 C ⟨[(3,.int .i64 i),(1,.ptr 0 0 0)],[(0,.cells 2 [[.ro 9 (ks.map eKd) ke,.int .i64 cap]] true true)],1⟩=some (.int .i64 (if (ks.drop i).all bW=true then 0 else 7)):=by
 have hl:=hr.n;intro n;induction n with
 | zero =>
  intro i hi;simp only [w236_K0];rw [ck_unf w236_B0.eq_1];have h1:ks.drop i=[]:=List.drop_eq_nil_of_le Qq;have h3:¬ i < ks.length:=by omega
  simp (disch:=omega) [ck_unf w236_c0.eq_1,h1,h3]
 | succ n ih =>
  intro i hi;have h1:i < ks.length:=by omega
  have hc:=gu H.tojg ks[i].p (hr.f _ (List.getElem_mem h1));rw [Pt.aC] at hc;have:=ih (i+1) Qq;rw [drop_cons h1,List.all_cons];generalize (ks.drop (i+1)).all bW=X at *;simp only [w236_K0] at this |-;rw [ck_unf w236_B0.eq_1];simp at this;unfold bW hOk;by_cases c1:1<=ks[i].b
  ·have c1':¬ ks[i].b < 1:=by omega
   by_cases c2:ks[i].b<=2305843009213693952
   ·have c2':¬ 2305843009213693952 < ks[i].b:=by omega
    by_cases c3:aS ks[i].p=0
    ·simp [c3] at hc;simp (disch:=omega) [h1,aj,c1,c1',c2,c2',c3,hc,H.inl,inlB,H.pp,ppB]
    ·simp [c3] at hc;simp (disch:=omega) [h1,aj,c1,c1',c2,c2',c3,hc,H.inl,inlB,H.pp,ppB,this]
   ·have c2':2305843009213693952 < ks[i].b:=by omega
    simp (disch:=omega) [h1,aj,c1,c1',c2,c2']
  ·have c1':ks[i].b < 1:=by omega
   simp (disch:=omega) [h1,aj,c1,c1']
theorem iq (H:bY C) (ks:List Kd) (ke:Bool) (cap:Int) (hr:cu ks):FnW C 236 [aR ks ke cap]=some (.int .i64 (if bG ks cap=true then 0 else 7)):=by
 have h:=jT H ks ke cap hr ks.length 0 Qw;rw [List.drop_zero] at h;have hl:=hr.n;rw [fnW_eq H.f236 rfl];unfold bG;generalize ks.all bW=X at *;simp only [w236_K0] at h;simp at h;by_cases c1:1<=ks.length
 ·have c1':¬ ks=[]:=by intro q;subst q;simp at c1
  by_cases c2:ks.length<=8
  ·have c2':¬ (8 < (ks.length:Int)):=by omega
   by_cases c3:1<=cap
   ·have c3':¬ cap < 1:=by omega
    by_cases c4:cap<=64
    ·have c4':¬ 64 < cap:=by omega
     simp [w236,c1,c1',c2,c2',c3,c3',c4,c4',h]
    ·have c4':64 < cap:=by omega
     simp [w236,c1,c1',c2,c2',c3,c3',c4,c4']
   ·have c3':cap < 1:=by omega
    simp [w236,c1,c1',c2,c2',c3,c3']
  ·have c2':(8 < (ks.length:Int)):=by omega
   simp [w236,c1,c1',c2,c2']
 ·have c1':ks=[]:=by cases ks with | nil=>rfl | cons a r=>simp at c1
  subst c1';simp [w236]
theorem tN (H:bY C) (ks:List Kd) (ke:Bool) (cap:Int) (x:It) (hx:qZ x) (hr:cu ks) (seen:Bool) :
 FnW C 271 [aR ks ke cap,eIt x,.int .i64 (if seen=true then 1 else 0)]=some (.int .i64 (itE ks cap x seen)):=by
 have hc:=oZ H.tokH x ks.length hx.t hx.m;rw [fnW_eq H.f271 rfl];unfold itE;cases c1:gK ks.length x
 ·rw [c1] at hc;simp at hc;simp [w271,hc,H.inl,inlB,H.pp,ppB]
 ·rw [c1] at hc;cases seen
  ·have ht:=lq c1;obtain ⟨t,hT⟩:∃ t:Nat,x.t=t:=⟨x.t.toNat,by have:=hx.t;omega⟩;have h1:t < ks.length:=by omega
   have h:=lg H.toaX ks[t].p (hr.f _ (List.getElem_mem h1)) x hx.k cap;rw [hT,aZ h1];have hE:0<=cZ ks[t].p x cap:=by unfold cZ;repeat (first | omega | split)
   generalize (yY ks[t].p x cap)=N at *;generalize cZ ks[t].p x cap=E at *;rw [Pt.aC] at h;simp only [eIt,hT] at h hc;by_cases c:E=0
   ·subst c;simp at hc;simp (disch:=omega) [w271,hc,hT,h1,h,H.inl,inlB,H.pp,ppB]
   ·have c':0 < E:=by omega
    simp at hc;simp (disch:=omega) [w271,hc,hT,h1,h,c,c',H.inl,inlB,H.pp,ppB]
  ·simp at hc;simp [w271,hc,H.inl,inlB,H.pp,ppB]
structure qO (C:WProg):Prop extends bY C where
 Bd:C.fns.get 633=some wQ
theorem lQ (H:qO C) (p:Pt) (hf:Fits p) (m:Nat) (hm:m<=80) (ih:∀ x ∈ p.ch,∀ m:Nat,m<=80->∃ n:Nat,1<=n/\n<=m+1/\FnW C 633 [.agg x.c,.int .i64 m]=some (.int .i64 n)) :
 ∀ k i,k+i=p.ch.length->∀ n:Nat,1<=n->n<=m+1->∃ r:Nat,1<=r/\r<=m+1 /\
 dI C ⟨[(6,.int .i64 i),(5,.int .i64 n),(2,.ptr 0 0 0),(1,.int .i64 m)],[(0,.cells 6 [p.c] true true)],1⟩=some (.int .i64 r):=by
 intro k;have hc:=hf.c;induction k with
 | zero =>
  intro i hi n hn1 hn2;have h3:¬ i < p.ch.length:=by omega
  refine ⟨n,hn1,hn2,?_⟩;simp only [dI];rw [ck_unf bQ.eq_1];simp (disch:=omega) [ck_unf fC.eq_1,h3]
 | succ k ihk =>
  intro i hi n hn1 hn2;have h1:i < p.ch.length:=by omega
  by_cases c:n<=m
  ·obtain ⟨q,q1,q2,hq⟩:=ih p.ch[i] (List.getElem_mem h1) (m - n) Qq;obtain ⟨r,r1,r2,hr⟩:=ihk (i+1) Qq (n+q) Qq Qq;refine ⟨r,r1,r2,?_⟩;have e1:((m - n:Nat):Int)=(m:Int) - n:=by omega
   rw [e1] at hq;rw [<- hr];have c1:(n:Int)<=m:=by omega
   simp only [dI];rw [ck_unf bQ.eq_1];simp (disch:=omega) [h1,c,c1,aj,hq,H.inl,inlB,H.pp,ppB]
  ·refine ⟨n,hn1,hn2,?_⟩;have c1:¬ (n:Int)<=m:=by omega
   simp only [dI];rw [ck_unf bQ.eq_1];simp (disch:=omega) [ck_unf fC.eq_1,h1,c,c1,aj]
theorem qY (H:qO C) (p:Pt) (hf:aF p):∀ m:Nat,m<=80->∃ n:Nat,1<=n/\n<=m+1/\FnW C 633 [.agg p.c,.int .i64 m]=some (.int .i64 n):=by
 induction hf with
 | mk p h hm ih =>intro m hm2;obtain ⟨r,r1,r2,hr⟩:=lQ H p h m hm2 ih p.ch.length 0 Qw 1 Qq Qq;refine ⟨r,r1,r2,?_⟩;simp only [dI] at hr;simp at hr;rw [fnW_eq H.Bd rfl];simp [wQ,hr]
structure aU (C:WProg):Prop extends qO C where
 f277:C.fns.get 277=some w277
 f279:C.fns.get 279=some w279
 f295:C.fns.get 295=some lM
 f299:C.fns.get 299=some xk
 Dh:C.fns.get 427=some w427
 CG:C.fns.get 635=some eu
 zZ:C.fns.get 637=some w637
 zq:C.fns.get 654=some w654
 xE:C.fns.get 1232=some w232
structure Cf where
 (vw ov ls:Int) (ks:List Kd) (ke:Bool) (cap ar fl:Int)
@[simp] def eCf (c:Cf):List AV:=[.int .i64 c.vw,.int .i64 c.ov,.int .i64 c.ls,.ro 9 (c.ks.map eKd) c.ke,.int .i64 c.cap,.int .i64 c.ar,.int .u8 c.fl]
structure bF (c:Cf):Prop where
 k:cu c.ks
 n:c.ks.length<=10
def ixF (P:Kd->Bool):Nat->List Kd->Int
 | _,[]=>-1
 | i,k::r=>if P k=true then (i:Int) else ixF P (i+1) r
theorem iV (P:Kd->Bool):∀ (l:List Kd) (i:Nat),decide (0<=ixF P i l)=l.any P
 | [],i=>by simp [ixF]
 | k::r,i=>by
  rw [ixF,List.any_cons];by_cases c:P k=true
  ·rw [if_pos c,c];simp
  ·rw [if_neg c,iV P r (i+1)];simp [c]
def plB (k:Kd):Bool:=decide (k.pl < 0)||decide (16 < k.pl)
theorem qA (H:aU C) (k:Kd):FnW C 427 [.agg (eKd k)]=some (.bool (plB k)):=by
 rw [fnW_eq H.Dh rfl];by_cases h1:k.pl < 0
 ·simp [w427,h1,plB]
 ·simp [w427,h1,plB]
def lwB (ls:Int) (k:Kd):Bool:=decide (k.b < ls)
theorem yZ (H:aU C) (c:Cf) (k:Kd):FnW C 654 [.agg (eKd k),.rop (eCf c)]=some (.bool (lwB c.ls k)):=by rw [fnW_eq H.zq rfl];simp [w654,lwB]
theorem CW (H:aU C) (ks:List Kd) (e:Bool) (hl:ks.length<=1000000):∀ n i,n+i=ks.length ->
 w405_K0 C ⟨[(8,.int .i64 i),(7,.int .i64 ks.length),(1,.fn 427 []),(0,.ro 9 (ks.map eKd) e)],[],0⟩=some (.int .i64 (ixF plB i (ks.drop i))):=by
 intro n;induction n with
 | zero =>
  intro i hi;have h3:¬ i < ks.length:=by omega
  have h4:ks.drop i=[]:=List.drop_eq_nil_of_le Qq;simp only [w405_K0];rw [ck_unf w405_B0.eq_1];simp (disch:=omega) [ck_unf w405_c0.eq_1,h3,h4,ixF]
 | succ n ih =>
  intro i hi;have h1:i < ks.length:=by omega
  have hb:=qA H ks[i];simp only [eKd] at hb;have hv:=ih (i+1) Qq;rw [drop_cons h1,ixF];simp only [w405_K0] at hv |-;rw [ck_unf w405_B0.eq_1];simp at hv;cases c:plB ks[i] <;> rw [c] at hb <;> simp (disch:=omega) [h1,aj,hb,c,H.inl,inlB,H.pp,ppB,hv]
theorem zD (H:aU C) (cf:Cf) (ks:List Kd) (e:Bool) (hl:ks.length<=1000000):∀ n i,n+i=ks.length ->
 w405_K0 C ⟨[(8,.int .i64 i),(7,.int .i64 ks.length),(1,.fn 654 [.rop (eCf cf)]),(0,.ro 9 (ks.map eKd) e)],[],0⟩=some (.int .i64 (ixF (lwB cf.ls) i (ks.drop i))):=by
 intro n;induction n with
 | zero =>
  intro i hi;have h3:¬ i < ks.length:=by omega
  have h4:ks.drop i=[]:=List.drop_eq_nil_of_le Qq;simp only [w405_K0];rw [ck_unf w405_B0.eq_1];simp (disch:=omega) [ck_unf w405_c0.eq_1,h3,h4,ixF]
 | succ n ih =>
  intro i hi;have h1:i < ks.length:=by omega
  have hb:=yZ H cf ks[i];simp only [eKd,eCf] at hb;have hv:=ih (i+1) Qq;rw [drop_cons h1,ixF];simp only [w405_K0] at hv |-;rw [ck_unf w405_B0.eq_1];simp at hv;cases c:lwB cf.ls ks[i] <;> rw [c] at hb <;> simp (disch:=omega) [h1,aj,hb,c,H.inl,inlB,H.pp,ppB,hv]
theorem yN (H:aU C) (ks:List Kd) (e:Bool) (hl:ks.length<=1000000):FnW C 232 [.ro 9 (ks.map eKd) e,.fn 427 []]=some (.bool (ks.any plB)):=by
 have h:=CW H ks e hl ks.length 0 Qw;rw [List.drop_zero] at h;simp only [w405_K0] at h;simp at h;have h2:FnW C 405 [.ro 9 (ks.map eKd) e,.fn 427 []]=some (.int .i64 (ixF plB 0 ks)):=by rw [fnW_eq H.wB rfl];simp [w405,h]
 rw [<- iV plB ks 0,fnW_eq H.f232 rfl];simp [w232,H.inl,inlB,H.pp,ppB,h2]
theorem yQ (H:aU C) (cf:Cf) (ks:List Kd) (e:Bool) (hl:ks.length<=1000000):FnW C 1232 [.ro 9 (ks.map eKd) e,.fn 654 [.rop (eCf cf)]]=some (.bool (ks.any (lwB cf.ls))):=by
 have h:=zD H cf ks e hl ks.length 0 Qw;rw [List.drop_zero] at h;simp only [w405_K0] at h;simp at h;have h2:FnW C 405 [.ro 9 (ks.map eKd) e,.fn 654 [.rop (eCf cf)]]=some (.int .i64 (ixF (lwB cf.ls) 0 ks)):=by rw [fnW_eq H.wB rfl];simp [w405,h]
 rw [<- iV (lwB cf.ls) ks 0,fnW_eq H.xE rfl];simp only [eCf] at h2;simp [w232,H.inl,inlB,H.pp,ppB,h2]
def aT (c:Cf):Bool:=bG c.ks c.cap&&decide (1<=c.ar)&&decide (c.ar<=65536)&&!c.ks.any plB
theorem kZ (H:aU C) (c:Cf):FnW C 279 [.agg (eCf c)]=some (aR c.ks c.ke c.cap):=by rw [fnW_eq H.f279 rfl];simp [w279,H.inl,inlB,H.pp,ppB]
theorem cO (H:aU C) (c:Cf):FnW C 299 [.agg (eCf c)]=some (aR c.ks c.ke c.cap):=by rw [fnW_eq H.f299 rfl];simp [xk]
theorem dU (H:aU C) (c:Cf) (h:bF c):FnW C 277 [.agg (eCf c)]=some (.int .i64 (if aT c=true then 0 else 7)):=by
 have h1:=kZ H c;have h2:=jF H.tobY c.ks c.ke c.cap h.k;have h3:=yN H c.ks c.ke (by have:=h.n;omega);simp only [eCf] at h1;rw [fnW_eq H.f277 rfl];unfold aT;cases q:bG c.ks c.cap
 ·rw [q] at h2;simp [w277,H.inl,inlB,H.pp,ppB,h1,h2]
 ·rw [q,if_pos rfl] at h2;by_cases a1:c.ar < 1
  ·have a3:¬ 1<=c.ar:=by omega
   simp [w277,H.inl,inlB,H.pp,ppB,h1,h2,h3,a1,a3]
  ·have a3:1<=c.ar:=by omega
   by_cases a2:65536 < c.ar
   ·have a4:¬ c.ar<=65536:=by omega
    simp [w277,H.inl,inlB,H.pp,ppB,h1,h2,h3,a1,a2,a3,a4]
   ·have a4:c.ar<=65536:=by omega
    cases q2:c.ks.any plB <;> rw [q2] at h3 <;> simp [w277,H.inl,inlB,H.pp,ppB,h1,h2,h3,a1,a2,a3,a4]
theorem jJ (H:aU C) (c:Cf) (hl:c.ks.length<=1000000):∀ n i,n+i=c.ks.length ->
 eH C ⟨[(3,.int .i64 i),(1,.ptr 0 0 0)],[(0,.cells 7 [eCf c] true true)],1⟩=some (.int .i64 (if (c.ks.drop i).any plB=true then 7 else 0)):=by
 intro n;induction n with
 | zero =>
  intro i hi;have h3:¬ i < c.ks.length:=by omega
  have h4:c.ks.drop i=[]:=List.drop_eq_nil_of_le Qq;simp only [eH];rw [ck_unf dH.eq_1];simp (disch:=omega) [ck_unf iO.eq_1,h3,h4]
 | succ n ih =>
  intro i hi;have h1:i < c.ks.length:=by omega
  have hv:=ih (i+1) Qq;rw [drop_cons h1,List.any_cons];simp only [eH] at hv |-;rw [ck_unf dH.eq_1];simp at hv;by_cases a1:c.ks[i].pl < 0
  ·simp (disch:=omega) [h1,aj,a1,plB,H.inl,inlB,H.pp,ppB]
  ·by_cases a2:16 < c.ks[i].pl
   ·simp (disch:=omega) [h1,aj,a1,a2,plB,H.inl,inlB,H.pp,ppB]
   ·have a3:plB c.ks[i]=false:=by simp [plB,a1];omega
    rw [a3,Bool.false_or];simp (disch:=omega) [h1,aj,a1,a2,H.inl,inlB,H.pp,ppB,hv]
theorem pz (H:aU C) (c:Cf) (h:bF c):FnW C 295 [.agg (eCf c)]=some (.int .i64 (if aT c=true then 0 else 7)):=by
 have h1:=cO H c;have h2:=iq H.tobY c.ks c.ke c.cap h.k;have h3:=jJ H c (by have:=h.n;omega) c.ks.length 0 Qw;rw [List.drop_zero] at h3;simp only [eH] at h3;unfold aT;generalize c.ks.any plB=Q at *;simp only [eCf] at h1 h3;simp at h3;rw [fnW_eq H.f295 rfl];cases q:bG c.ks c.cap
 ·rw [q] at h2;simp [lM,H.inl,inlB,H.pp,ppB,h1,h2]
 ·rw [q,if_pos rfl] at h2;by_cases a1:c.ar < 1
  ·have a3:¬ 1<=c.ar:=by omega
   simp [lM,H.inl,inlB,H.pp,ppB,h1,h2,h3,a1,a3]
  ·have a3:1<=c.ar:=by omega
   by_cases a2:65536 < c.ar
   ·have a4:¬ c.ar<=65536:=by omega
    simp [lM,H.inl,inlB,H.pp,ppB,h1,h2,h3,a1,a2,a3,a4]
   ·have a4:c.ar<=65536:=by omega
    cases Q <;> simp at h3 <;> simp [lM,H.inl,inlB,H.pp,ppB,h1,h2,h3,a1,a2,a3,a4]
def aK (c:Cf):Bool:=decide (c.vw < 1)||decide (2147483648 < c.vw)||decide (c.ov < 0)||decide (16 < c.ov)||decide (c.ls < 1)||decide (2305843009213693952 < c.ls)||decide (6 < c.fl)
def ckB (c:Cf):Bool:=!aK c&&aT c&&!c.ks.any (lwB c.ls)
theorem iY (H:aU C) (c:Cf) (hl:c.ks.length<=1000000):∀ n i,n+i=c.ks.length ->
 eP C ⟨[(3,.int .i64 i),(1,.ptr 0 0 0)],[(0,.cells 7 [eCf c] true true)],1⟩=some (.int .i64 (if (c.ks.drop i).any (lwB c.ls)=true then 7 else 0)):=by
 intro n;induction n with
 | zero =>
  intro i hi;have h3:¬ i < c.ks.length:=by omega
  have h4:c.ks.drop i=[]:=List.drop_eq_nil_of_le Qq;simp only [eP];rw [ck_unf dG.eq_1];simp (disch:=omega) [ck_unf iP.eq_1,h3,h4]
 | succ n ih =>
  intro i hi;have h1:i < c.ks.length:=by omega
  have hv:=ih (i+1) Qq;rw [drop_cons h1,List.any_cons];simp only [eP] at hv |-;rw [ck_unf dG.eq_1];simp at hv;by_cases a1:c.ks[i].b < c.ls
  ·simp (disch:=omega) [h1,aj,a1,lwB,H.inl,inlB,H.pp,ppB]
  ·have a3:lwB c.ls c.ks[i]=false:=by simp [lwB];omega
   rw [a3,Bool.false_or];simp (disch:=omega) [h1,aj,a1,H.inl,inlB,H.pp,ppB,hv]
theorem fO (H:aU C) (c:Cf) (h:bF c):FnW C 635 [.agg (eCf c)]=some (.int .i64 (if ckB c=true then 0 else 7)):=by
 have h1:=pz H c h;have h3:=iY H c (by have:=h.n;omega) c.ks.length 0 Qw;rw [List.drop_zero] at h3;simp only [eP] at h3;unfold ckB;generalize c.ks.any (lwB c.ls)=Q at *;simp only [eCf] at h1 h3;simp at h3;rw [fnW_eq H.CG rfl];by_cases a1:c.vw < 1
 ·simp [eu,H.inl,inlB,H.pp,ppB,aK,a1]
 by_cases a2:2147483648 < c.vw
 ·simp [eu,H.inl,inlB,H.pp,ppB,aK,a1,a2]
 by_cases a3:c.ov < 0
 ·simp [eu,H.inl,inlB,H.pp,ppB,aK,a1,a2,a3]
 by_cases a4:16 < c.ov
 ·simp [eu,H.inl,inlB,H.pp,ppB,aK,a1,a2,a3,a4]
 by_cases a5:c.ls < 1
 ·simp [eu,H.inl,inlB,H.pp,ppB,aK,a1,a2,a3,a4,a5]
 by_cases a6:2305843009213693952 < c.ls
 ·simp [eu,H.inl,inlB,H.pp,ppB,aK,a1,a2,a3,a4,a5,a6]
 by_cases a7:6 < c.fl
 ·simp [eu,H.inl,inlB,H.pp,ppB,aK,a1,a2,a3,a4,a5,a6,a7]
 have a8:aK c=false:=by simp [aK,a1,a2,a3,a4,a5,a6,a7]
 rw [a8];cases q:aT c
 ·simp [q] at h1;simp [eu,H.inl,inlB,H.pp,ppB,a1,a2,a3,a4,a5,a6,a7,h1]
 ·simp [q] at h1;cases Q <;> simp at h3 <;> simp [eu,H.inl,inlB,H.pp,ppB,a1,a2,a3,a4,a5,a6,a7,h1,h3]
theorem bf (H:aU C) (c:Cf) (h:bF c):FnW C 637 [.agg (eCf c)]=some (.int .i64 (if ckB c=true then 0 else 7)):=by
 have h1:=dU H c h;have h3:=yQ H c c.ks c.ke (by have:=h.n;omega);unfold ckB;generalize c.ks.any (lwB c.ls)=Q at *;simp only [eCf] at h1 h3;rw [fnW_eq H.zZ rfl];by_cases a1:c.vw < 1
 ·simp [w637,H.inl,inlB,H.pp,ppB,aK,a1]
 by_cases a2:2147483648 < c.vw
 ·simp [w637,H.inl,inlB,H.pp,ppB,aK,a1,a2]
 by_cases a3:c.ov < 0
 ·simp [w637,H.inl,inlB,H.pp,ppB,aK,a1,a2,a3]
 by_cases a4:16 < c.ov
 ·simp [w637,H.inl,inlB,H.pp,ppB,aK,a1,a2,a3,a4]
 by_cases a5:c.ls < 1
 ·simp [w637,H.inl,inlB,H.pp,ppB,aK,a1,a2,a3,a4,a5]
 by_cases a6:2305843009213693952 < c.ls
 ·simp [w637,H.inl,inlB,H.pp,ppB,aK,a1,a2,a3,a4,a5,a6]
 by_cases a7:6 < c.fl
 ·simp [w637,H.inl,inlB,H.pp,ppB,aK,a1,a2,a3,a4,a5,a6,a7]
 have a8:aK c=false:=by simp [aK,a1,a2,a3,a4,a5,a6,a7]
 rw [a8];cases q:aT c
 ·simp [q] at h1;simp [w637,H.inl,inlB,H.pp,ppB,a1,a2,a3,a4,a5,a6,a7,h1]
 ·simp [q] at h1;cases Q <;> simp [w637,H.inl,inlB,H.pp,ppB,a1,a2,a3,a4,a5,a6,a7,h1,h3]
structure dB (C:WProg):Prop extends aU C where
 yj:C.fns.get 662=some w662
 zh:C.fns.get 669=some w669
 zO:C.fns.get 670=some w670
 xO:C.fns.get 2671=some w671
 qE:C.fns.get 3672=some w672
inductive Sm:Pt->Prop
 | mk (p:Pt) (h:p.s.length<=8/\p.ch.length<=16) (hm:∀ m ∈ p.ch,Sm m):Sm p
theorem wC {p:Pt} (h:aN p=true):p.s.length<=8/\p.ch.length<=16:=by
 unfold aN at h;split at h
 ·simp only [Bool.and_eq_true,decide_eq_true_eq] at h;exact ⟨h.1.2.1,h.1.1.1.2⟩
 ·split at h
  ·simp only [Bool.and_eq_true,decide_eq_true_eq] at h;exact ⟨h.1.1.1.2.1,by rw [h.2];simp⟩
  ·split at h
   ·simp only [Bool.and_eq_true,decide_eq_true_eq] at h;exact ⟨by rw [h.1.2];simp,by rw [h.2];simp⟩
   ·simp only [Bool.and_eq_true,decide_eq_true_eq] at h;exact ⟨by rw [h.1.2];simp,by rw [h.2];simp⟩
mutual
theorem xA:∀ (p:Pt) (lv c:Nat),(tk p lv c).1=true->Sm p
 | ⟨k,t,y,s,se,x,ch,ce⟩,lv,c=>by
  rw [tk];split
  ·intro q;simp at q
  ·rename_i h;intro q;have h2:aN ⟨k,t,y,s,se,x,ch,ce⟩=true:=by
    cases r:aN ⟨k,t,y,s,se,x,ch,ce⟩
    ·exact absurd (.inr (.inr r)) h
    ·rfl
   exact .mk _ (wC h2) (tq ch (lv+1) (c+1) q)
theorem tq:∀ (l:List Pt) (lv c:Nat),(tks l lv c).1=true->∀ m ∈ l,Sm m
 | [],_,_,_=>by simp
 | m::r,lv,c,h=>by
  rw [tks] at h;split at h
  ·rename_i h1;intro x hx;rcases List.mem_cons.1 hx with hx | hx
   ·rw [hx];exact xA m lv c h1
   ·exact tq r lv _ h x hx
  ·simp at h
end
mutual
/-- A part in new memory. -/
def Pt.ow:Pt->Pt
 | ⟨k,t,y,s,se,x,ch,ce⟩=>⟨k,t,y,s,true,x,Pt.ows ch,true⟩
def Pt.ows:List Pt->List Pt
 | []=>[]
 | n::r=>n.ow::Pt.ows r
end
theorem Pt.kY:∀ l:List Pt,Pt.ows l=l.map Pt.ow
 | []=>rfl
 | n::r=>by rw [Pt.ows,Pt.kY r];rfl
theorem Pt.bg (p:Pt):p.ow=⟨p.k,p.t,p.y,p.s,true,p.x,p.ch.map Pt.ow,true⟩:=by cases p;rw [Pt.ow,Pt.kY]
def zC:List AV:=[.int .u8 0,.str [],.str [],.ro 3 [] true,.str [],.ro 6 [] true]
theorem gZ (H:dB C) (l:List Sl) (e:Bool) (hl:l.length<=1000000):FnW C 670 [.ro 3 (l.map eSl) e]=some (.ro 3 (l.map eSl) l.isEmpty):=by
 rw [fnW_eq H.zO rfl];cases l with
 | nil=>simp [w670,kK]
 | cons a r =>
  simp only [List.length_cons] at hl;have h1:(r.length+1) * 41<=35184372088832:=by omega
  have h2:List.take r.length (List.map eSl r)=List.map eSl r:=List.take_of_length_le Qw;simp [w670,jc,clnC,isEmptyRo,h1,h2]
theorem kE (H:dB C) (l:List Sl) (e:Bool):FnW C 669 [.ro 3 (l.map eSl) e]=some (.ro 3 (l.map eSl) true):=by have h:List.take l.length (List.map eSl l)=List.map eSl l:=List.take_of_length_le Qw;rw [fnW_eq H.zh rfl];simp [w669,h]
theorem fK (H:dB C) (e:Bool) (nid:Nat):freshCallW (RnW C) 3672 [.ro 6 [] e] nid=some (.sl nid 6 0 0 0 true,[(nid,some (.cells 6 [] true true))]):=by have hr:=aP (args:=[.ro 6 [] e]) H.qE rfl [] 0;unfold freshCallW;rw [hr];simp [w672,kK,ownOf,freshOfW,hand,om]
theorem dW (H:dB C) (l:List Pt) (h0:l≠[]) (hp:l.length<=1000000) (e:Bool) (nid:Nat):freshCallW (RnW C) 3672 [.ro 6 (l.map Pt.c) e] nid=some (.sl nid 6 0 l.length l.length false,[(nid,some (.cells 6 (l.map Pt.c) true true))]):=by
 have hr:=aP (args:=[.ro 6 (l.map Pt.c) e]) H.qE rfl [] 0;unfold freshCallW;rw [hr];cases l with
 | nil=>exact absurd rfl h0
 | cons a r =>
  simp at hp;have h1:(r.length+1) * 105<=35184372088832:=by omega
  have h2:List.take r.length (List.map Pt.c r)=List.map Pt.c r:=List.take_of_length_le Qw;simp [w672,jc,clnC,isEmptyRo,h1,h2,ownOf,freshOfW,hand,om]
theorem jP (H:dB C) (b n:Nat) (e:Bool) (h:WHeap) (next:Nat):RnW C 2671 [.sl b 6 0 n n e] h next=some (.sl b 6 0 n n true,h,next+8):=by
 rw [aP H.xO rfl];cases n with
 | zero=>simp [w671]
 | succ n=>simp [w671]
theorem CU (G X:List Pt) (i:Nat) (hG:G.length=i) (hi:i < X.length):((G++X.drop i).map Pt.c)[i]?=some X[i].c:=by rw [List.getElem?_map,List.getElem?_append_right Qq,hG,Nat.sub_self,drop_cons hi];rfl
theorem Ac (G X:List Pt) (i:Nat) (y:Pt) (hG:G.length=i) (hi:i < X.length):((G++X.drop i).map Pt.c).set i y.c=(G++[y]++X.drop (i+1)).map Pt.c:=by rw [drop_cons hi,List.map_append,List.set_append_right _ _ Qz];simp [hG]
theorem pO (H:dB C) (p:Pt) (hl:p.ch.length<=16) (ih:∀ x ∈ p.ch,FnW C 662 [.agg x.c]=some (.agg x.ow.c)):∀ n i,n+i=p.ch.length->∀ G:List Pt,G.length=i ->
 eU C ⟨[(17,.int .i64 i),(16,.int .i64 p.ch.length),(2,.ptr 0 0 0),(1,.ptr 1 0 0)],
  [(0,.cells 6 [zC] true true),(1,.cells 6 [[.int .u8 p.k,.str p.t,.str p.y,.ro 3 (p.s.map eSl) true,.str p.x,.sl 2 6 0 p.ch.length p.ch.length true]] true false),(2,.cells 6 ((G++p.ch.drop i).map Pt.c) true true)],3⟩ =
  some (.agg (Pt.c ⟨p.k,p.t,p.y,p.s,true,p.x,G++(p.ch.drop i).map Pt.ow,true⟩)):=by
 intro n;induction n with
 | zero =>
  intro i hi G hG;have h3:¬ i < p.ch.length:=by omega
  have h4:p.ch.drop i=[]:=List.drop_eq_nil_of_le Qq;have h5:List.take p.ch.length (G.map Pt.c)=G.map Pt.c:=List.take_of_length_le Qz;rw [h4,Pt.aC];simp only [eU];rw [ck_unf w662_B0.eq_1];simp (disch:=omega) [ck_unf w662_c0.eq_1,h3,h5,zC,show G.length=p.ch.length by omega]
 | succ n ihn =>
  intro i hi G hG;have h1:i < p.ch.length:=by omega
  have hq:=ihn (i+1) Qq (G++[p.ch[i].ow]) (by simp [hG]);have hc:=ih _ (List.getElem_mem h1);have hg:=CU G p.ch i hG h1;have hs:=Ac G p.ch i p.ch[i].ow hG h1;have hr:G++(p.ch.drop i).map Pt.ow=G++[p.ch[i].ow]++(p.ch.drop (i+1)).map Pt.ow:=by rw [drop_cons h1];simp
  have hZl:((G++p.ch.drop i).map Pt.c).length=p.ch.length:=by simp;omega
  rw [hr];generalize G++[p.ch[i].ow]++(p.ch.drop (i+1)).map Pt.ow=RES at *;rw [<- hs] at hq;generalize (G++p.ch.drop i).map Pt.c=Z at *;simp only [eU] at hq |-;rw [ck_unf w662_B0.eq_1];have hgg:∀ h:i < Z.length,Z[i]=p.ch[i].c:=λh=>Option.some.inj ((List.getElem?_eq_getElem h).symm.trans hg);have hdr:List.drop 6 p.ch[i].c=[]:=List.drop_eq_nil_of_le Qw;simp at hq;simp (disch:=omega) [H.inl,inlB,H.pp,ppB,h1,hc,hg,hgg,hdr,hZl,aj,hq]
theorem mQ (H:dB C) (p:Pt) (hp:Sm p):FnW C 662 [.agg p.c]=some (.agg p.ow.c):=by
 induction hp with
 | mk p h hm ih =>
  have h1:=gZ H p.s p.se Qq;have h2:=kE H p.s p.s.isEmpty;have h4:=λb n e h next=>jP H b n e h next
  have h5:=pO H p h.2 ih p.ch.length 0 Qw [] rfl;rw [List.drop_zero,List.nil_append,List.nil_append,<- Pt.bg] at h5;simp only [eU,zC] at h5;simp at h5;by_cases hne:p.ch=[]
  ·have h3:=λnid=>fK H p.ce nid;rw [hne] at h5;simp at h5;rw [fnW_eq H.yj rfl,Pt.aC,hne];simp [w662,H.inl,inlB,H.pp,ppB,h1,h2,h3,h4,h5]
  ·have h3:=λnid=>dW H p.ch hne Qq p.ce nid;rw [fnW_eq H.yj rfl,Pt.aC];simp [w662,H.inl,inlB,H.pp,ppB,h1,h2,h3,h4,h5]
end Go.D
end
section
namespace Go.D
open Go Go.Pav Go.Pw P
attribute [-simp] List.getElem_cons_drop
variable {C:WProg}
structure fM (C:WProg):Prop extends dB C where
 yx:C.fns.get 653=some w653
 xM:C.fns.get 2660=some w660
 sG:C.fns.get 3661=some w661
def Kd.ow (k:Kd):Kd:={ k with p:=k.p.ow }
def Cf.ow (c:Cf):Cf:={ c with ks:=c.ks.map Kd.ow,ke:=true }
theorem qV (k:Kd):eKd k.ow=[.int .u8 k.p.k,.str k.p.t,.str k.p.y,.ro 3 (k.p.s.map eSl) true,.str k.p.x,.ro 6 ((k.p.ch.map Pt.ow).map Pt.c) true,.int .i64 k.b,.bool k.st,.int .i64 k.pl]:=by simp [Kd.ow,Pt.bg]
theorem fH (H:fM C) (e:Bool) (nid:Nat):freshCallW (RnW C) 3661 [.ro 9 [] e] nid=some (.sl nid 9 0 0 0 true,[(nid,some (.cells 9 [] true true))]):=by have hr:=aP (args:=[.ro 9 [] e]) H.sG rfl [] 0;unfold freshCallW;rw [hr];simp [w661,kK,ownOf,freshOfW,hand,om]
theorem dZ (H:fM C) (l:List Kd) (h0:l≠[]) (hp:l.length<=1000000) (e:Bool) (nid:Nat):freshCallW (RnW C) 3661 [.ro 9 (l.map eKd) e] nid=some (.sl nid 9 0 l.length l.length false,[(nid,some (.cells 9 (l.map eKd) true true))]):=by
 have hr:=aP (args:=[.ro 9 (l.map eKd) e]) H.sG rfl [] 0;unfold freshCallW;rw [hr];cases l with
 | nil=>exact absurd rfl h0
 | cons a r =>
  simp at hp;have h1:(r.length+1) * 129<=35184372088832:=by omega
  have h2:List.take r.length (List.map eKd r)=List.map eKd r:=List.take_of_length_le Qw;simp [w661,jc,clnC,isEmptyRo,h1,h2,ownOf,freshOfW,hand,om]
theorem jM (H:fM C) (b n:Nat) (e:Bool) (h:WHeap) (next:Nat):RnW C 2660 [.sl b 9 0 n n e] h next=some (.sl b 9 0 n n true,h,next+8):=by
 rw [aP H.xM rfl];cases n with
 | zero=>simp [w660]
 | succ n=>simp [w660]
theorem Ey (G X:List Kd) (i:Nat) (hG:G.length=i) (hi:i < X.length):((G++X.drop i).map eKd)[i]?=some (eKd X[i]):=by rw [List.getElem?_map,List.getElem?_append_right Qq,hG,Nat.sub_self,drop_cons hi];rfl
theorem Ep (G X:List Kd) (i:Nat) (y:Kd) (hG:G.length=i) (hi:i < X.length):((G++X.drop i).map eKd).set i (eKd y)=(G++[y]++X.drop (i+1)).map eKd:=by rw [drop_cons hi,List.map_append,List.set_append_right _ _ Qz];simp [hG]
theorem qP (H:fM C) (c:Cf) (hl:c.ks.length<=10) (hp:∀ k ∈ c.ks,Sm k.p):∀ n i,n+i=c.ks.length->∀ G:List Kd,G.length=i ->
 eG C ⟨[(12,.int .i64 i),(11,.int .i64 c.ks.length),(2,.ptr 0 0 0),(1,.ptr 1 0 0)],
  [(0,.cells 7 [[.int .i64 0,.int .i64 0,.int .i64 0,.ro 9 [] true,.int .i64 0,.int .i64 0,.int .u8 0]] true true),
   (1,.cells 7 [[.int .i64 c.vw,.int .i64 c.ov,.int .i64 c.ls,.sl 2 9 0 c.ks.length c.ks.length true,.int .i64 c.cap,.int .i64 c.ar,.int .u8 c.fl]] true false),(2,.cells 9 ((G++c.ks.drop i).map eKd) true true)],3⟩ =
  some (.agg [.int .i64 c.vw,.int .i64 c.ov,.int .i64 c.ls,.ro 9 ((G++(c.ks.drop i).map Kd.ow).map eKd) true,.int .i64 c.cap,.int .i64 c.ar,.int .u8 c.fl]):=by
 intro n;induction n with
 | zero =>
  intro i hi G hG;have h3:¬ i < c.ks.length:=by omega
  have h4:c.ks.drop i=[]:=List.drop_eq_nil_of_le Qq;have h5:List.take c.ks.length (G.map eKd)=G.map eKd:=List.take_of_length_le Qz;rw [h4];simp only [eG];rw [ck_unf w653_B0.eq_1];simp (disch:=omega) [ck_unf w653_c0.eq_1,h3,h5,show G.length=c.ks.length by omega]
 | succ n ihn =>
  intro i hi G hG;have h1:i < c.ks.length:=by omega
  have hq:=ihn (i+1) Qq (G++[c.ks[i].ow]) (by simp [hG]);have hc:=mQ H.todB c.ks[i].p (hp _ (List.getElem_mem h1));rw [Pt.bg,Pt.aC,Pt.aC] at hc;have hg:=Ey G c.ks i hG h1;have hs:=Ep G c.ks i c.ks[i].ow hG h1;rw [qV] at hs;have hr:G++(c.ks.drop i).map Kd.ow=G++[c.ks[i].ow]++(c.ks.drop (i+1)).map Kd.ow:=by rw [drop_cons h1];simp
  have hZl:((G++c.ks.drop i).map eKd).length=c.ks.length:=by simp;omega
  rw [hr];generalize G++[c.ks[i].ow]++(c.ks.drop (i+1)).map Kd.ow=RES at *;rw [<- hs] at hq;generalize (G++c.ks.drop i).map eKd=Z at *;simp only [eG] at hq |-;rw [ck_unf w653_B0.eq_1];have hgg:∀ h:i < Z.length,Z[i]=eKd c.ks[i]:=λh=>Option.some.inj ((List.getElem?_eq_getElem h).symm.trans hg);simp at hq;simp at hc;simp (disch:=omega) [H.inl,inlB,H.pp,ppB,h1,hc,hg,hgg,hZl,aj,hq]
theorem yM (H:fM C) (c:Cf) (hl:c.ks.length<=10) (hp:∀ k ∈ c.ks,Sm k.p):FnW C 653 [.agg (eCf c)]=some (.agg (eCf c.ow)):=by
 have h4:=λb n e h next=>jM H b n e h next
 have h5:=qP H c hl hp c.ks.length 0 Qw [] rfl;rw [List.drop_zero,List.nil_append,List.nil_append] at h5;simp only [eG] at h5;simp at h5;by_cases hne:c.ks=[]
 ·have h3:=λnid=>fH H c.ke nid;rw [hne] at h5;simp at h5;rw [fnW_eq H.yx rfl];simp only [eCf,Cf.ow];rw [hne];simp [w653,H.inl,inlB,H.pp,ppB,h3,h4,h5]
 ·have h3:=λnid=>dZ H c.ks hne Qq c.ke nid;rw [fnW_eq H.yx rfl];simp only [eCf,Cf.ow];try simp at h3
  simp [w653,H.inl,inlB,H.pp,ppB,h3,h4,h5]
structure fZ (C:WProg):Prop extends fM C where
 f138:C.fns.get 138=some w138
 f296:C.fns.get 296=some vY
 y8:C.fns.get 636=some w636
 Aa:C.fns.get 641=some uK
abbrev nP (n:Nat):List (List AV):=List.replicate n [.ro 8 [] true]
theorem kX (H:fZ C) (c:Cf) (h:bF c) (hf:aT c=true) (h0:0 < c.ks.length):FnW C 138 [.agg (eCf c)]=some (.tup [.agg [.ro 8 [] true,.ro 1 (nP c.ks.length) true],.int .i64 0]):=by
 have h1:=dU H.toaU c h;rw [if_pos hf] at h1;have hn:=h.n;have h2:List.take c.ks.length (nP c.ks.length)=nP c.ks.length:=List.take_of_length_le Qw;have h3:c.ks.length * 25<=35184372088832:=by omega
 simp only [eCf] at h1;rw [fnW_eq H.f138 rfl];simp (disch:=omega) [w138,H.inl,inlB,H.pp,ppB,h1,aj,h0,h2,h3]
theorem jW (H:fZ C) (c:Cf) (hn:c.ks.length<=10):∀ n i,n+i=c.ks.length->0 < i ->
 eY C ⟨[(4,.int .i64 i),(3,.ptr 0 0 0),(2,.ptr 2 0 0),(1,.ptr 3 0 0)],[(0,.cells 2 [[.ro 8 [] true,.sl 1 1 0 i i false]] true false),(1,.cells 1 (nP i) true true),(2,.cells 2 [[.ro 8 [] true,.ro 1 [] true]] true true),
  (3,.cells 7 [eCf c] true true)],4⟩=some (.agg [.ro 8 [] true,.ro 1 (nP c.ks.length) false]):=by
 intro n;induction n with
 | zero =>
  intro i hi h0;have h3:¬ i < c.ks.length:=by omega
  have h4:i=c.ks.length:=by omega
  subst h4;simp only [eY];rw [ck_unf bU.eq_1];simp (disch:=omega) [ck_unf jm.eq_1]
 | succ n ih =>
  intro i hi h0;have h1:i < c.ks.length:=by omega
  have hq:=ih (i+1) Qq Qq;have hb:(i+1) * 25<=35184372088832:=by omega
  have hr:nP (i+1)=nP i++[[.ro 8 [] true]]:=List.replicate_succ';rw [hr] at hq;simp only [eY] at hq |-;rw [ck_unf bU.eq_1];simp at hq;simp (disch:=omega) [H.inl,inlB,H.pp,ppB,h1,hb,aj,hq]
theorem lu (H:fZ C) (c:Cf) (hn:c.ks.length<=10) (h0:0 < c.ks.length):FnW C 296 [.agg (eCf c)]=some (.agg [.ro 8 [] true,.ro 1 (nP c.ks.length) false]):=by have hq:=jW H c hn (c.ks.length - 1) 1 Qq Qq;simp only [eY] at hq;simp at hq;rw [fnW_eq H.f296 rfl];simp [vY,H.inl,inlB,H.pp,ppB];rw [ck_unf bU.eq_1];simp (disch:=omega) [H.inl,inlB,H.pp,ppB,aj,h0,hq]
def zMo:List AV:=[.bool false,.int .i64 0,.int .i64 0,.int .i64 0,.ro 9 [] true,.int .i64 0,.int .i64 0,.int .u8 0,.ro 6 [] true,.int .i64 0,.int .i64 0,.ro 8 [] true,.ro 1 [] true,.int .i64 0,.int .i64 0,.int .i64 0,.int .i64 0,.int .i64 0]
def eMo (c:Cf):List AV:=[.bool true,.int .i64 c.vw,.int .i64 c.ov,.int .i64 c.ls,.ro 9 (c.ks.map eKd) c.ke,.int .i64 c.cap,.int .i64 c.ar,.int .u8 c.fl,.ro 6 [] true,.int .i64 c.vw,.int .i64 0,.ro 8 [] true,.ro 1 (nP c.ks.length) true,.int .i64 0,.int .i64 0,.int .i64 0,.int .i64 0,.int .i64 1]
def eRm (c:Cf):List AV:=[.int .i64 c.vw,.int .i64 c.ov,.int .i64 c.ls,.ro 9 (c.ks.map eKd) c.ke,.int .i64 c.cap,.int .i64 c.ar,.int .u8 c.fl,.ro 6 [] true,.int .i64 c.vw,.int .i64 0,.ro 8 [] true,.ro 1 (nP c.ks.length) false,.int .i64 0,.int .i64 0,.int .i64 0,.int .i64 0,.int .i64 1]
theorem kN {c:Cf} (h:aT c=true):0 < c.ks.length:=by unfold aT bG at h;simp only [Bool.and_eq_true,decide_eq_true_eq] at h;omega
theorem xU {c:Cf} (h:aT c=true):∀ k ∈ c.ks,Sm k.p:=by
 unfold aT bG at h;simp only [Bool.and_eq_true,decide_eq_true_eq,List.all_eq_true] at h;intro k hk;have h1:=h.1.1.1.2 k hk;unfold bW at h1;simp only [Bool.and_eq_true,decide_eq_true_eq] at h1;have h2:=h1.2;unfold aS at h2;split at h2
 ·rename_i q;exact xA _ _ _ q.2
 ·exact absurd rfl h2
theorem nZ (H:fZ C) (c:Cf) (h:bF c) (hc:ckB c=false):FnW C 636 [.agg (eCf c)]=some (.tup [.agg zMo,.int .i64 7]):=by have h1:=bf H.toaU c h;rw [hc] at h1;simp only [eCf] at h1;simp at h1;rw [fnW_eq H.y8 rfl];simp [w636,zMo,H.inl,inlB,H.pp,ppB,h1]
theorem new_ok (H:fZ C) (c:Cf) (h:bF c) (hc:ckB c=true):FnW C 636 [.agg (eCf c)]=some (.tup [.agg (eMo c.ow),.int .i64 0]):=by
 have hf:aT c=true:=by unfold ckB at hc;simp only [Bool.and_eq_true] at hc;exact hc.1.2
 have h1:=bf H.toaU c h;have h2:=kX H c h hf (kN hf);have h3:=yM H.tofM c h.n (xU hf);rw [if_pos hc] at h1;simp only [eCf,Cf.ow] at h1 h2 h3;rw [fnW_eq H.y8 rfl];simp at h3;simp [w636,eMo,Cf.ow,H.inl,inlB,H.pp,ppB,h1,h2,h3]
theorem uG (H:fZ C) (c:Cf) (h:bF c) (hc:ckB c=true):FnW C 641 [.agg (eCf c)]=some (.agg (eRm c)):=by
 have hf:aT c=true:=by unfold ckB at hc;simp only [Bool.and_eq_true] at hc;exact hc.1.2
 have h2:=lu H c h.n (kN hf);simp only [eCf] at h2;rw [fnW_eq H.Aa rfl];simp [uK,eRm,H.inl,inlB,H.pp,ppB,h2]
def kT (s:List Int):List (AV × AV):=s.map λk=>(.int .u64 k,.bool true)
theorem rV:kT []=[]:=rfl
theorem jD (k:Int):∀ s:List Int,mapGet (kT s) (.int .u64 k)=some (if s.contains k=true then some (.bool true) else none)
 | []=>rfl
 | a::r=>by
  have ih:=jD k r;unfold kT at ih |-;rw [List.map_cons,mapGet];simp only [eqCell,if_true,ob];by_cases c:k=a
  ·subst c;simp
  ·simp [c,ih]
theorem jZ (k:Int):∀ s:List Int,s.contains k=false->mapPut (kT s) (.int .u64 k) (.bool true)=some (kT (s++[k]))
 | [],_=>rfl
 | a::r,h=>by simp at h;have ih:=jZ k r (by simpa using h.2);unfold kT at ih |-;rw [List.map_cons,mapPut];simp only [eqCell,if_true,ob];simp [h.1,ih,om]
theorem jK (k:Int):∀ (l:List En) (i:Nat),decide (0<=gJ k i l)=(l.map λe=>e.i.k).contains k
 | [],_=>rfl
 | e::r,i=>by
  rw [gJ];by_cases c:e.i.k=k
  ·rw [if_pos c];simp [c]
  ·have c':¬ k=e.i.k:=λq=>c q.symm;rw [if_neg c,jK k r (i+1)];simp [c']
abbrev dY (l:List En):List Int:=l.map λe=>e.i.k
theorem lK (H:bY C) (ks:List Kd) (ke:Bool) (cap:Int) (hr:cu ks) (l:List En) (e:Bool) (hl:l.length<=1000000) (hs:∀ x ∈ l,dJ x):∀ n i,n+i=l.length->∀ seen:List Int,
 w223_K0 C ⟨[(25,.int .i64 i),(24,.int .i64 l.length),(23,.ro 6 (l.map eEn) e),(6,.map 0),(3,.ptr 1 0 0),(2,.ptr 2 0 0)],[(0,.map (kT seen)),(1,.cells 1 [[.ro 6 (l.map eEn) e]] true true),(2,.cells 2 [[.ro 9 (ks.map eKd) ke,.int .i64 cap]] true true)],3⟩ =
  some (.int .i64 (if chk ks cap seen (l.drop i)≠0 then chk ks cap seen (l.drop i) else ovE l)):=by
 intro n;induction n with
 | zero =>
  intro i hi seen;have ht:=jS H.tobC l e hl hs;simp only [w223_K0];rw [ck_unf w223_B0.eq_1];have h1:l.drop i=[]:=List.drop_eq_nil_of_le Qq;have h3:¬ i < l.length:=by omega
  simp (disch:=omega) [ck_unf w223_c0.eq_1,h1,h3,chk,ht,H.inl,inlB,H.pp,ppB]
 | succ n ih =>
  intro i hi seen;have h1:i < l.length:=by omega
  have hx:=hs _ (List.getElem_mem h1);have hc:=oG H.tokH l[i].i ks.length hx.i.t;have hg:=jD l[i].i.k seen;rw [drop_cons h1,chk];cases c1:gK ks.length l[i].i
  ·have hE:enE ks cap l[i] (seen.contains l[i].i.k)=6:=by unfold enE itE;simp [c1]
   rw [hE];rw [c1] at hc;simp at hc;simp only [w223_K0];rw [ck_unf w223_B0.eq_1];simp (disch:=omega) [h1,hc,H.inl,inlB,H.pp,ppB]
  ·rw [c1] at hc;simp at hc;cases c2:seen.contains l[i].i.k
   ·have ht:=lq c1;obtain ⟨t,hT⟩:∃ t:Nat,l[i].i.t=t:=⟨l[i].i.t.toNat,by have:=hx.i.t;omega⟩;have h2:t < ks.length:=by omega
    have hp:=jZ l[i].i.k seen c2;have hre:=lI H ks ke cap l[i].i hx.i ht hr;have hh:=iw H.tobC l[i].s;have this:=ih (i+1) Qq (seen++[l[i].i.k]);rw [c2] at hg;simp only [aR,eIt] at hre;have hk:=aZ h2;have hE:enE ks cap l[i] false=if cZ ks[t].p l[i].i cap=0 then (if hOk l[i].s=true/\(l[i].kn=true\/l[i].s=ks[t].b) then 0 else 12) else 14:=by unfold enE itE;rw [c1,hT,hk];by_cases q:cZ ks[t].p l[i].i cap=0 <;> simp [q]
    simp only [eIt,hT,hk] at hc hre;generalize pV ks[t].p l[i].i cap=N at *;generalize cZ ks[t].p l[i].i cap=E at *;by_cases c3:E=0
    ·subst c3;cases c4:hOk l[i].s
     ·rw [c4] at hh;have hE':enE ks cap l[i] false=12:=by rw [hE];simp [c4]
      rw [hE'];simp only [w223_K0];rw [ck_unf w223_B0.eq_1];simp (disch:=omega) [h1,h2,hT,hc,hg,hp,hre,hh,H.inl,inlB,H.pp,ppB]
     ·rw [c4] at hh;cases c5:l[i].kn
      ·by_cases c6:l[i].s=ks[t].b
       ·have hE':enE ks cap l[i] false=0:=by rw [hE,if_pos rfl,if_pos ⟨c4,.inr c6⟩]
        rw [hE'];simp only [w223_K0] at this |-;rw [ck_unf w223_B0.eq_1];generalize chk ks cap (seen++[l[i].i.k]) (List.drop (i+1) l)=Z at *;simp at this;simp (disch:=omega) [h1,h2,hT,hc,hg,hp,hre,hh,c5,eq_true c6,aj,H.inl,inlB,H.pp,ppB,this]
       ·have hE':enE ks cap l[i] false=12:=by rw [hE];simp [c5,c6]
        rw [hE'];simp only [w223_K0];rw [ck_unf w223_B0.eq_1];simp (disch:=omega) [h1,h2,hT,hc,hg,hp,hre,hh,c5,c6,H.inl,inlB,H.pp,ppB]
      ·have hE':enE ks cap l[i] false=0:=by rw [hE];simp [c4,c5]
       rw [hE'];simp only [w223_K0] at this |-;rw [ck_unf w223_B0.eq_1];generalize chk ks cap (seen++[l[i].i.k]) (List.drop (i+1) l)=Z at *;simp at this;simp (disch:=omega) [h1,h2,hT,hc,hg,hp,hre,hh,c5,aj,H.inl,inlB,H.pp,ppB,this]
    ·have hE':enE ks cap l[i] false=14:=by rw [hE];simp [c3]
     rw [hE'];simp only [w223_K0];rw [ck_unf w223_B0.eq_1];simp (disch:=omega) [h1,h2,hT,hc,hg,hp,hre,c3,H.inl,inlB,H.pp,ppB]
   ·have hE:enE ks cap l[i] true=8:=by unfold enE itE;simp [c1]
    rw [hE];rw [c2] at hg;simp only [w223_K0];rw [ck_unf w223_B0.eq_1];simp (disch:=omega) [h1,hc,hg,H.inl,inlB,H.pp,ppB]
theorem dV (H:bY C) (ks:List Kd) (ke:Bool) (cap:Int) (hr:cu ks) (l:List En) (e:Bool) (hl:l.length<=1000000) (hs:∀ x ∈ l,dJ x) :
 FnW C 223 [aR ks ke cap,aL l e]=some (.int .i64 (ckE ks cap l)):=by
 have hv:=jF H ks ke cap hr;have h:=lK H ks ke cap hr l e hl hs l.length 0 Qw [];rw [List.drop_zero,rV] at h;rw [fnW_eq H.f223 rfl];unfold ckE;generalize (if chk ks cap [] l≠0 then chk ks cap [] l else ovE l)=R at *;simp only [w223_K0] at h;simp at h;cases c1:bG ks cap
 ·rw [c1] at hv;simp at hv;simp [w223,hv,H.inl,inlB,H.pp,ppB]
 ·rw [c1] at hv;simp at hv;by_cases c2:1024 < l.length
  ·have c2':1024 < (l.length:Int):=by omega
   simp [w223,hv,c2,c2',H.inl,inlB,H.pp,ppB]
  ·have c2':¬ 1024 < (l.length:Int):=by omega
   simp [w223,hv,c2,c2',h,H.inl,inlB,H.pp,ppB]
theorem iH (H:bY C) (ks:List Kd) (ke:Bool) (cap:Int) (hr:cu ks) (l:List En) (e:Bool) (hl:l.length<=1000000) (hs:∀ x ∈ l,dJ x):∀ n i,n+i=l.length ->
 w235_K0 C ⟨[(5,.int .i64 i),(2,.ptr 0 0 0),(1,.ro 6 (l.map eEn) e)],[(0,.cells 2 [[.ro 9 (ks.map eKd) ke,.int .i64 cap]] true true)],1⟩ =
  some (.int .i64 (if chk ks cap (dY (l.take i)) (l.drop i)≠0 then chk ks cap (dY (l.take i)) (l.drop i) else ovE l)):=by
 intro n;induction n with
 | zero =>
  intro i hi;have ht:=rW H.tobC l e hl hs;simp only [w235_K0];rw [ck_unf w235_B0.eq_1];have h1:l.drop i=[]:=List.drop_eq_nil_of_le Qq;have h3:¬ i < l.length:=by omega
  simp (disch:=omega) [ck_unf w235_c0.eq_1,h1,h3,chk,ht,H.inl,inlB,H.pp,ppB]
 | succ n ih =>
  intro i hi;have h1:i < l.length:=by omega
  have h1':i<=l.length:=by omega
  have hx:=hs _ (List.getElem_mem h1);have hf:=λe=>qM H.tobC (l.take i) e l[i].i.k (by rw [List.length_take];omega);have hb:=Bq H.tobC (decide (0<=gJ l[i].i.k 0 (l.take i)));have hii:=tN H ks ke cap l[i].i hx.i hr (decide (0<=gJ l[i].i.k 0 (l.take i)));have this:=ih (i+1) Qq;rw [show dY (l.take (i+1))=dY (l.take i)++[l[i].i.k] by rw [dY,List.take_succ_eq_append_getElem h1,List.map_append];rfl] at this;rw [drop_cons h1,chk,<- jK l[i].i.k (l.take i) 0];generalize gJ l[i].i.k 0 (l.take i)=F at *;simp only [List.map_take] at hf;simp only [aR,eIt] at hii;have hE:enE ks cap l[i] (decide (0<=F))=if itE ks cap l[i].i (decide (0<=F))≠0 then itE ks cap l[i].i (decide (0<=F)) else if hOk l[i].s=true/\(l[i].kn=true\/l[i].s=(jA ks l[i].i.t).b) then 0 else 12:=rfl;have hE0:0<=itE ks cap l[i].i (decide (0<=F)):=by unfold itE;repeat (first | omega | split)
  have hEt:itE ks cap l[i].i (decide (0<=F))=0->l[i].i.t < ks.length:=by
   intro q;unfold itE at q;cases c:gK ks.length l[i].i
   ·rw [if_pos c] at q;cases q
   ·exact lq c
  generalize itE ks cap l[i].i (decide (0<=F))=E at *;generalize enE ks cap l[i] (decide (0<=F))=V at *;generalize (if decide (0<=F)=true then (1:Int) else 0)=S at *;by_cases c3:E=0
  ·subst c3;obtain ⟨t,hT⟩:∃ t:Nat,l[i].i.t=t:=⟨l[i].i.t.toNat,by have:=hx.i.t;omega⟩;have h2:t < ks.length:=by have:=hEt rfl;omega
   rw [hT,aZ h2] at hE;simp only [hT] at hii;unfold hOk at hE;by_cases c4:1<=l[i].s
   ·have c4':¬ l[i].s < 1:=by omega
    by_cases c5:l[i].s<=2305843009213693952
    ·have c5':¬ 2305843009213693952 < l[i].s:=by omega
     cases c6:l[i].kn
     ·by_cases c7:l[i].s=ks[t].b
      ·have hV:V=0:=by rw [hE,if_neg Qw,if_pos ⟨by simp [c4,c5],.inr c7⟩]
       rw [hV];simp only [w235_K0] at this |-;rw [ck_unf w235_B0.eq_1];generalize chk ks cap (dY (l.take i)++[l[i].i.k]) (List.drop (i+1) l)=Z at *;simp at this;simp (disch:=omega) [h1,h1',h2,hT,hf,hb,hii,c4,c4',c5,c5',c6,eq_true c7,aj,H.inl,inlB,H.pp,ppB,this]
      ·have hV:V=12:=by rw [hE,if_neg Qw,if_neg (by simp [c6,c7])]
       rw [hV];simp only [w235_K0];rw [ck_unf w235_B0.eq_1];simp (disch:=omega) [h1,h1',h2,hT,hf,hb,hii,c4,c4',c5,c5',c6,c7,H.inl,inlB,H.pp,ppB]
     ·have hV:V=0:=by rw [hE,if_neg Qw,if_pos ⟨by simp [c4,c5],.inl c6⟩]
      rw [hV];simp only [w235_K0] at this |-;rw [ck_unf w235_B0.eq_1];generalize chk ks cap (dY (l.take i)++[l[i].i.k]) (List.drop (i+1) l)=Z at *;simp at this;simp (disch:=omega) [h1,h1',h2,hT,hf,hb,hii,c4,c4',c5,c5',c6,aj,H.inl,inlB,H.pp,ppB,this]
    ·have c5':2305843009213693952 < l[i].s:=by omega
     have hV:V=12:=by rw [hE,if_neg Qw,if_neg (by simp [c5])]
     rw [hV];simp only [w235_K0];rw [ck_unf w235_B0.eq_1];simp (disch:=omega) [h1,h1',h2,hT,hf,hb,hii,c4,c4',c5,c5',H.inl,inlB,H.pp,ppB]
   ·have c4':l[i].s < 1:=by omega
    have hV:V=12:=by rw [hE,if_neg Qw,if_neg (by simp [c4])]
    rw [hV];simp only [w235_K0];rw [ck_unf w235_B0.eq_1];simp (disch:=omega) [h1,h1',h2,hT,hf,hb,hii,c4,c4',H.inl,inlB,H.pp,ppB]
  ·have c3':0 < E:=by omega
   have hV:V=E:=by rw [hE,if_pos c3]
   rw [hV];simp only [w235_K0];rw [ck_unf w235_B0.eq_1];simp (disch:=omega) [h1,h1',hf,hb,hii,c3,c3',H.inl,inlB,H.pp,ppB]
theorem lH (H:bY C) (ks:List Kd) (ke:Bool) (cap:Int) (hr:cu ks) (l:List En) (e:Bool) (hl:l.length<=1000000) (hs:∀ x ∈ l,dJ x) :
 FnW C 235 [aR ks ke cap,.ro 6 (l.map eEn) e]=some (.int .i64 (ckE ks cap l)):=by
 have hv:=iq H ks ke cap hr;have h:=iH H ks ke cap hr l e hl hs l.length 0 Qw;rw [List.drop_zero,List.take_zero] at h;rw [fnW_eq H.f235 rfl];unfold ckE;simp only [dY,List.map_nil] at h;generalize (if chk ks cap [] l≠0 then chk ks cap [] l else ovE l)=R at *;simp only [w235_K0] at h;simp at h;cases c1:bG ks cap
 ·rw [c1] at hv;simp at hv;simp [w235,hv,H.inl,inlB,H.pp,ppB]
 ·rw [c1] at hv;simp at hv;by_cases c2:1024 < l.length
  ·have c2':1024 < (l.length:Int):=by omega
   simp [w235,hv,c2,c2',H.inl,inlB,H.pp,ppB]
  ·have c2':¬ 1024 < (l.length:Int):=by omega
   simp [w235,hv,c2,c2',h,H.inl,inlB,H.pp,ppB]
structure uJ (C:WProg):Prop extends bY C where
 f216:C.fns.get 216=some w216
 f222:C.fns.get 222=some w222
 f110:C.fns.get 110=some w110
theorem lJ (H:bY C) (ks:List Kd) (ke:Bool) (cap:Int) (x:List It) (e:Bool) (hxl:x.length<=1000000) (hx:∀ i ∈ x,qZ i/\i.t < ks.length):∀ n i,n+i=x.length->∀ G:List En,G.length=i ->
 w400_K0 C ⟨[(13,.int .i64 i),(12,.int .i64 x.length),(11,.ro 4 (x.map cIt) e),(5,.sl 0 6 0 x.length x.length true),(2,.ptr 1 0 0)],[(0,.cells 6 (G.map eEn++List.replicate n [.int .u64 0,.int .u8 0,.str [],.ro 1 [] true,.int .i64 0,.bool false]) true true),(1,.cells 2 [[.ro 9 (ks.map eKd) ke,.int .i64 cap]] true true)],2⟩ =
  some (.ro 6 ((G++(x.drop i).map (fre ks)).map eEn) true):=by
 intro n;induction n with
 | zero =>
  intro i hi G hG;have h1:x.drop i=[]:=List.drop_eq_nil_of_le Qq;have h3:¬ i < x.length:=by omega
  have h6:List.take x.length (List.map eEn G)=List.map eEn G:=List.take_of_length_le Qz;have h7:G.length=x.length:=by omega
  simp only [w400_K0];rw [ck_unf w400_B0.eq_1];simp [ck_unf w400_c0.eq_1,h1,h3,h6,h7]
 | succ n ih =>
  intro i hi G hG;have h1:i < x.length:=by omega
  have hxi:=hx _ (List.getElem_mem h1);obtain ⟨t,hT⟩:∃ t:Nat,x[i].t=t:=⟨x[i].t.toNat,by have:=hxi.1.t;omega⟩;have h2:t < ks.length:=by have:=hxi.2;omega
  have:=ih (i+1) Qq (G++[fre ks x[i]]) (by simp [hG]);rw [drop_cons h1];simp only [w400_K0] at this |-;rw [ck_unf w400_B0.eq_1];simp [fre,hT,aZ h2] at this;simp (disch:=omega) [h1,h2,hT,aj,fV,fF,hG,fre,aZ h2,this]
theorem fresh_ok (H:bY C) (ks:List Kd) (ke:Bool) (cap:Int) (x:List It) (e:Bool) (hxl:x.length<=1000000) (hx:∀ i ∈ x,qZ i/\i.t < ks.length) :
 FnW C 400 [aR ks ke cap,.ro 4 (x.map cIt) e]=some (.ro 6 ((x.map (fre ks)).map eEn) true):=by
 rw [fnW_eq H.Ba rfl];by_cases hne:x=[]
 ·subst hne;simp (disch:=omega) [w400,ck_unf w400_B0.eq_1,ck_unf w400_c0.eq_1]
 ·have h:=lJ H ks ke cap x e hxl hx x.length 0 Qw [] rfl;have h2:x.length * 73<=35184372088832:=by omega
  simp only [w400_K0] at h;simp at h;simp (disch:=omega) [w400,hne,h2,h]
theorem pX (H:uJ C) (X:AV) (hX:∃ es ex,X=.ro 6 es ex) (l:List En) (e:Bool) (a c:Nat) (hl:l.length<=1000000) (hac:a+c<=l.length) :
 FnW C 222 [X,.rop [.ro 6 (l.map eEn) e],.rop [.int .i64 a],.rop [.int .i64 c]]=some (.ro 6 ((spl l a c []).map eEn) true):=by
 obtain ⟨es,ex,rfl⟩:=hX;have h:=pG H.tobC l [] e true a c hl Qw hac;simp only [List.map_nil] at h;rw [fnW_eq H.f222 rfl];generalize spl l a c []=R at *;simp [w222,h,H.inl,inlB,H.pp,ppB]
def gQ (e:Int):AV:=.tup [aL [] true,.int .i64 e]
def outL (out:List En):AV:=if ovE (out.map En.own)≠0 then gQ (ovE (out.map En.own)) else .tup [aL (out.map En.own) true,.int .i64 0]
theorem oO (H:uJ C) (ks:List Kd) (ke:Bool) (cap:Int) (hr:cu ks) (l:List En) (e:Bool) (hl:l.length<=1000000) (hs:∀ x ∈ l,dJ x) (ins:Bool) (a c:Int) (hin:ins=true->inR a c l.length=true) :
 FnW C 216 [aR ks ke cap,aL l e,.agg [.bool ins,.int .i64 0,.ro 4 [] true,.nilf,.fn 222 [.rop [.ro 6 (l.map eEn) e],.rop [.int .i64 a],.rop [.int .i64 c]]]] =
  some (if ckE ks cap l≠0 then gQ (ckE ks cap l) else if ins=false then gQ 4 else outL (spl l a.toNat c.toNat [])):=by
 have hc:=dV H.tobY ks ke cap hr l e hl hs;rw [fnW_eq H.f216 rfl];unfold gQ;by_cases c1:ckE ks cap l=0
 ·rw [if_neg (by simpa using c1)];rw [c1] at hc;cases ins
  ·simp [w216,hc,H.inl,inlB,H.pp,ppB]
  ·rw [if_neg Qw];have hq:=hin rfl;unfold inR at hq;simp at hq;obtain ⟨a',rfl⟩:∃ a':Nat,a=a':=⟨a.toNat,by omega⟩;obtain ⟨c',rfl⟩:∃ c':Nat,c=c':=⟨c.toNat,by omega⟩;have hac:a'+c'<=l.length:=by omega
   have hf:=fresh_ok H.tobY ks ke cap [] true Qw Qw;have hm:=pX H (.ro 6 [] true) ⟨_,_,rfl⟩ l e a' c' hl hac;have hm2:∀ x ∈ spl l a' c' [],dJ x:=λx q=>by
    simp only [spl,List.append_nil,List.mem_append] at q;rcases q with q | q
    ·exact hs x (List.mem_of_mem_take q)
    ·exact hs x (List.mem_of_mem_drop q)
   have hlen:=uI l [] a' c' hac;simp only [Int.toNat_natCast];have hlen2:(spl l a' c' []).length<=1000000:=by rw [hlen];simp;omega
   generalize spl l a' c' []=R at *;have ho:=yh H.tobC R true hlen2 (λx q=>(hm2 x q).i.m);have ht:=jS H.tobC (R.map En.own) true (by simpa using hlen2) (λx q=>by obtain ⟨y,hy,rfl⟩:=List.mem_map.1 q;exact ⟨⟨(hm2 y hy).i.k,(hm2 y hy).i.t,(hm2 y hy).i.m⟩,(hm2 y hy).s⟩);unfold outL gQ;generalize R.map En.own=R' at *;simp only [List.map_nil] at hf;by_cases c2:ovE R'=0
   ·rw [c2] at ht;simp [w216,ck_unf w216_B0.eq_1,ck_unf w216_c0.eq_1,hc,hf,hm,ho,ht,c2,H.inl,inlB,H.pp,ppB]
   ·simp [w216,ck_unf w216_B0.eq_1,ck_unf w216_c0.eq_1,hc,hf,hm,ho,ht,c2,H.inl,inlB,H.pp,ppB]
 ·rw [if_pos c1];simp [w216,hc,c1,H.inl,inlB,H.pp,ppB]
theorem dJ.ow {e:En} (h:dJ e):dJ e.own:=⟨⟨h.i.k,h.i.t,h.i.m⟩,h.s⟩
theorem oH (H:uJ C) (ks:List Kd) (ke:Bool) (cap:Int) (hr:cu ks) (l:List En) (e:Bool) (hl:l.length<=1000000) (hs:∀ x ∈ l,dJ x) (a c:Int) :
 FnW C 110 [aR ks ke cap,aL l e,.int .i64 a,.int .i64 c] =
  some (if ckE ks cap l≠0 then gQ (ckE ks cap l) else if inR a c l.length=false then gQ 4 else outL (spl l a.toNat c.toNat [])):=by
 have h:=oO H ks ke cap hr l e hl hs (inR a c l.length) a c id;have hw:=pJ H.tobC a c l.length Qq;rw [fnW_eq H.f110 rfl];generalize inR a c l.length=ins at *;have hR:∃ R n,(if ckE ks cap l≠0 then gQ (ckE ks cap l) else if ins=false then gQ 4 else outL (spl l a.toNat c.toNat []))=.tup [.agg [.ro 6 R true],.int .i64 n]:=by
  unfold outL gQ;split
  ·exact ⟨_,_,rfl⟩
  ·split
   ·exact ⟨_,_,rfl⟩
   ·split <;> exact ⟨_,_,rfl⟩
 obtain ⟨R,n,hR⟩:=hR;rw [hR] at h |-;simp [w110,hw,h,H.inl,inlB,H.pp,ppB]
end Go.D
end
section
namespace Go.D
open Go Go.Pav Go.Pw P
attribute [-simp] List.getElem_cons_drop
variable {C:WProg}
structure sN (C:WProg):Prop extends fZ C,uJ C where
 f248:C.fns.get 248=some w248
 f121:C.fns.get 121=some w121
 f132:C.fns.get 132=some w132
 f273:C.fns.get 273=some w273
 f134:C.fns.get 134=some w134
 f262:C.fns.get 262=some w262
 f263:C.fns.get 263=some w263
 f125:C.fns.get 125=some w125
 f252:C.fns.get 252=some vO
 f327:C.fns.get 327=some vI
 f131:C.fns.get 131=some wM
 f133:C.fns.get 133=some vC
 f149:C.fns.get 149=some vg
 f257:C.fns.get 257=some wP
structure nV (C:WProg):Prop where
 E5:FnW C 122 [.agg [.ro 6 [] true]]=some (.int .i64 0)
 yL:FnW C 246 [.agg [.ro 6 [] true]]=some (.tup [.ro 1 [[.int .i64 0]] true,.int .i64 0])
 Ew:FnW C 111 [.agg [.ro 6 [] true]]=some (.int .i64 0)
 e274:FnW C 274 [.ro 1 [] true]=some (.ro 1 [] true)
 Es:FnW C 265 [.ro 9 [] true]=some (.ro 9 [] true)
 Eo:FnW C 264 [.ro 9 [] true]=some (.ro 9 [] true)
theorem l7 {ks:List Kd} {cap:Int} (h:bG ks cap=true):ckE ks cap []=0:=by unfold ckE;rw [if_neg (by simp [h]),if_neg Qw,if_neg (by simp [chk])];decide +kernel
section
variable (H:sN C) (R:nV C) (v:Int) (hv:1<=v/\v<=2147483648) (ks:List Kd) (ke:Bool) (cap:Int) (hr:cu ks) (hk:bG ks cap=true) (o:Int) (ho:0<=o/\o<=16)
include H R hv
theorem Bo:FnW C 248 [.agg [.ro 6 [] true],.int .i64 0,.int .i64 v]=some (.int .i64 0):=by
 have h1:=R.E5;have h2:=R.Ew;have a1:¬ v < 1:=by omega
 have a2:¬ 2147483648 < v:=by omega
 have a4:imax 0 (-v)=0:=by unfold imax;split <;> omega
 rw [fnW_eq H.f248 rfl];simp (disch:=omega) [w248,H.inl,inlB,H.pp,ppB,h1,h2,a1,a2,aj,a4]
theorem ql:FnW C 121 [.agg [.ro 6 [] true],.int .i64 0,.int .i64 v]=some (.tup [.int .i64 0,.int .i64 0,.int .i64 0]):=by have h1:=Bo H R v hv;have h2:=R.yL;rw [fnW_eq H.f121 rfl];simp (disch:=omega) [w121,H.inl,inlB,H.pp,ppB,h1,h2]
include ho
theorem yS:FnW C 132 [.agg [.ro 6 [] true],.int .i64 0,.int .i64 v,.int .i64 o]=some (.tup [.agg [.int .i64 0,.int .i64 0],.int .i64 0]):=by
 have h1:=ql H R v hv;have a1:¬ o < 0:=by omega
 have a2:¬ 16 < o:=by omega
 rw [fnW_eq H.f132 rfl];simp (disch:=omega) [w132,H.inl,inlB,H.pp,ppB,h1,a1,a2]
end
section
variable (H:sN C) (R:nV C) (v:Int) (hv:1<=v/\v<=2147483648) (ks:List Kd) (ke:Bool) (cap:Int) (hr:cu ks) (hk:bG ks cap=true) (o:Int) (ho:0<=o/\o<=16)
include H R
theorem Df:FnW C 273 [aR ks ke cap,.agg [.ro 6 [] true],.int .i64 0]=some (.int .i64 (-1)):=by have h2:=R.yL;rw [fnW_eq H.f273 rfl];simp (disch:=omega) [w273,ck_unf w273_B0.eq_1,ck_unf w273_c0.eq_1,H.inl,inlB,H.pp,ppB,h2]
theorem A8:FnW C 262 [aR ks ke cap,.agg [.ro 6 [] true],.int .i64 0]=some (.tup [.int .i64 (-1),.int .i64 0]):=by have h2:=R.yL;rw [fnW_eq H.f262 rfl];simp (disch:=omega) [w262,ck_unf w262_B0.eq_1,ck_unf w262_c0.eq_1,H.inl,inlB,H.pp,ppB,h2]
omit R in
theorem BO:FnW C 263 [aR ks ke cap,.agg [.ro 6 [] true],.int .i64 0,.int .i64 0]=some (.ro 9 [] true):=by rw [fnW_eq H.f263 rfl];simp (disch:=omega) [w263,H.inl,inlB,H.pp,ppB]
omit R in
theorem zA:FnW C 149 [aR ks ke cap,.ro 6 [] true,.int .i64 0]=some (.int .i64 (-1)):=by rw [fnW_eq H.f149 rfl];simp (disch:=omega) [vg,ck_unf jq.eq_1,ck_unf nD.eq_1,H.inl,inlB,H.pp,ppB]
include hr hk hv
theorem x9 (ho:0<=o/\o<=16):FnW C 134 [aR ks ke cap,.agg [.ro 6 [] true],.int .i64 0,.int .i64 v,.int .i64 o]=some (.tup [.ro 1 [] true,.int .i64 0]):=by have h1:=dV H.touJ.tobY ks ke cap hr [] true Qw Qw;rw [l7 hk] at h1;have h2:=yS H R v hv o ho;have h3:=Df H R ks ke cap;have h4:=R.e274;simp only [aL,List.map_nil] at h1;rw [fnW_eq H.f134 rfl];simp (disch:=omega) [w134,ck_unf w134_B0.eq_1,ck_unf w134_c0.eq_1,aj,H.inl,inlB,H.pp,ppB,h1,h2,h3,h4]
def zSc:AV:=.agg [.int .i64 0,.ro 9 [] true,.bool false,.int .u64 0,.int .i64 0,.int .i64 0,.int .u8 0,.str [],.str [],.ro 2 [] true,.str [],.ro 6 [] true]
theorem Au:FnW C 125 [aR ks ke cap,.agg [.ro 6 [] true],.int .i64 0,.int .i64 v]=some (.tup [zSc,.int .i64 0]):=by have h1:=dV H.touJ.tobY ks ke cap hr [] true Qw Qw;rw [l7 hk] at h1;have h2:=ql H R v hv;have h3:=A8 H R ks ke cap;have h4:=BO H ks ke cap;have h5:=R.Es;have h6:=R.Eo;simp only [aL,List.map_nil] at h1;rw [fnW_eq H.f125 rfl];simp (disch:=omega) [w125,zSc,ck_unf w125_B0.eq_1,ck_unf w125_c0.eq_1,aj,H.inl,inlB,H.pp,ppB,h1,h2,h3,h4,h5,h6]
omit R in
theorem yD:FnW C 257 [aR ks ke cap,.ro 6 [] true,.int .i64 0,.int .i64 v]=some zSc:=by have h3:=zA H ks ke cap;rw [fnW_eq H.f257 rfl];simp (disch:=omega) [wP,zSc,ck_unf iI.eq_1,ck_unf nK.eq_1,H.inl,inlB,H.pp,ppB,h3]
end
end Go.D
end
section
namespace Go.D
open Go Go.Pav Go.Pw P
attribute [-simp] List.getElem_cons_drop
variable {C:WProg}
structure rM (C:WProg):Prop extends sN C where
 Bl:C.fns.get 659=some w659
 zu:C.fns.get 646=some w646
 CQ:C.fns.get 647=some w647
 zH:C.fns.get 648=some w648
 Bz:C.fns.get 655=some uj
 Dy:C.fns.get 656=some uH
structure iU (C:WProg):Prop extends nV C where
 AP:FnW C 251 [.ro 6 [] true]=some (.int .i64 0)
 DJ:FnW C 253 [.ro 6 [] true,.int .i64 0]=some (.int .i64 0)
section
variable (H:rM C) (R:iU C) (v:Int) (hv:1<=v/\v<=2147483648) (ks:List Kd) (ke:Bool) (cap:Int) (hr:cu ks) (hk:bG ks cap=true) (o:Int) (ho:0<=o/\o<=16)
include H R hv
theorem BK:FnW C 327 [.ro 6 [] true,.int .i64 v]=some (.int .i64 0):=by
 have h1:=R.DJ;have a1:0 < v:=by omega
 rw [fnW_eq H.f327 rfl];simp (disch:=omega) [vI,H.inl,inlB,H.pp,ppB,h1,a1]
theorem yI:FnW C 252 [.ro 6 [] true,.int .i64 0,.int .i64 v]=some (.int .i64 0):=by
 have h1:=R.AP;have h2:=BK H R v hv;have a1:¬ v < 1:=by omega
 have a2:¬ 2147483648 < v:=by omega
 rw [fnW_eq H.f252 rfl];simp (disch:=omega) [vO,H.inl,inlB,H.pp,ppB,h1,h2,a1,a2]
theorem yB (ho:0<=o/\o<=16):FnW C 131 [.ro 6 [] true,.int .i64 0,.int .i64 v,.int .i64 o]=some (.tup [.int .i64 0,.int .i64 0,.int .i64 0]):=by
 have h1:=yI H R v hv;have a1:¬ o < 0:=by omega
 have a2:¬ 16 < o:=by omega
 rw [fnW_eq H.f131 rfl];simp (disch:=omega) [wM,ck_unf iJ.eq_1,ck_unf mW.eq_1,aj,H.inl,inlB,H.pp,ppB,h1,a1,a2]
include hr hk ho
theorem uN:FnW C 133 [aR ks ke cap,.ro 6 [] true,.int .i64 0,.int .i64 v,.int .i64 o]=some (.tup [.ro 1 [] false,.int .i64 0]):=by have h1:=lH H.touJ.tobY ks ke cap hr [] true Qw Qw;rw [l7 hk] at h1;have h2:=yB H R v hv o ho;simp only [List.map_nil] at h1;rw [fnW_eq H.f133 rfl];simp (disch:=omega) [vC,ck_unf iF.eq_1,ck_unf nO.eq_1,aj,H.inl,inlB,H.pp,ppB,h1,h2]
end
structure uw (c:Cf):Prop where
 k:bF c
 f:aT c=true
 v:1<=c.vw/\c.vw<=2147483648
 o:0<=c.ov/\c.ov<=16
theorem uw.ru {c:Cf} (K:uw c):bG c.ks c.cap=true:=by have:=K.f;unfold aT at this;simp only [Bool.and_eq_true] at this;exact this.1.1.1
section
variable (H:rM C) (R:iU C) (c:Cf) (K:uw c)
include H
theorem dQ:FnW C 659 [.agg (eMo c)]=some (aR c.ks c.ke c.cap):=by rw [fnW_eq H.Bl rfl];simp [w659,eMo]
include R K
theorem tZ:FnW C 646 [.agg (eMo c)]=some (.agg [.ro 6 [] true]):=by
 have h1:=dQ H c;have h2:=oH H.touJ c.ks c.ke c.cap K.k.k [] true Qw Qw 0 0;rw [l7 K.ru,if_neg Qw,if_neg (by decide)] at h2;have h3:outL (spl ([]:List En) (0:Int).toNat (0:Int).toNat [])=.tup [.agg [.ro 6 [] true],.int .i64 0]:=by unfold outL;rw [if_neg (by decide +kernel)];rfl
 rw [h3] at h2;simp only [aL,List.map_nil] at h2;simp only [eMo] at h1 |-;rw [fnW_eq H.zu rfl];simp [w646,H.inl,inlB,H.pp,ppB,h1,h2]
theorem vM:FnW C 647 [.agg (eMo c)]=some (.ro 1 [] true):=by have h1:=dQ H c;have h2:=x9 H.tosN R.tonV c.vw K.v c.ks c.ke c.cap K.k.k K.ru c.ov K.o;simp only [eMo] at h1 |-;rw [fnW_eq H.CQ rfl];simp [w647,H.inl,inlB,H.pp,ppB,h1,h2]
theorem yH:FnW C 648 [.agg (eMo c)]=some zSc:=by have h1:=dQ H c;have h2:=Au H.tosN R.tonV c.vw K.v c.ks c.ke c.cap K.k.k K.ru;simp only [eMo] at h1 |-;simp only [zSc] at h2 |-;rw [fnW_eq H.zH rfl];simp [w648,H.inl,inlB,H.pp,ppB,h1,h2]
theorem sK:FnW C 655 [.agg (eRm c)]=some (.ro 1 [] false):=by have h1:=cO H.toaU c;have h2:=uN H R c.vw K.v c.ks c.ke c.cap K.k.k K.ru c.ov K.o;simp only [eCf] at h1;simp only [eRm];rw [fnW_eq H.Bz rfl];simp [uj,H.inl,inlB,H.pp,ppB,h1,h2]
theorem wO:FnW C 656 [.agg (eRm c)]=some zSc:=by have h1:=cO H.toaU c;have h2:=yD H.tosN c.vw K.v c.ks c.ke c.cap K.k.k K.ru;simp only [eCf] at h1;simp only [eRm];simp only [zSc] at h2 |-;rw [fnW_eq H.Dy rfl];simp [uH,H.inl,inlB,H.pp,ppB,h1,h2]
end
end Go.D
end
section
namespace Go.D
open Go Go.Pav Go.Pw P
attribute [-simp] List.getElem_cons_drop
variable {C:WProg}
structure aW (C:WProg):Prop extends rM C where
 f278:C.fns.get 278=some w278
 f290:C.fns.get 290=some w290
 xX:C.fns.get 3008=some w281
 DI:C.fns.get 432=some w432
 Bg:C.fns.get 437=some w437
 f286:C.fns.get 286=some w286
 BG:C.fns.get 429=some w429
 Az:C.fns.get 514=some w514
 Dk:C.fns.get 649=some w649
theorem vV (H:aW C) (a:List AV) (b:List AV):FnW C 514 [.ro 8 [] true,.fn 430 [.rop a,.rop b]]=some (.int .i64 (-1)):=by rw [fnW_eq H.Az rfl];simp [w514,ck_unf w514_B0.eq_1,ck_unf w514_c0.eq_1]
theorem qN (H:aW C) (a:List AV) (b:List AV):FnW C 429 [.ro 8 [] true,.fn 430 [.rop a,.rop b]]=some (.bool false):=by have h1:=vV H a b;rw [fnW_eq H.BG rfl];simp [w429,h1,H.inl,inlB,H.pp,ppB]
theorem iR (H:aW C):FnW C 432 [.ro 8 [] true]=some (.ro 8 [] true):=by rw [fnW_eq H.DI rfl];simp [w432]
theorem jG (H:aW C):FnW C 437 [.ro 8 [] true,.ro 8 [] true]=some (.int .i64 1):=by rw [fnW_eq H.Bg rfl];simp [w437,ck_unf w437_B0.eq_1,ck_unf w437_c0.eq_1]
abbrev eSt (n:Nat) (e:Bool):AV:=.agg [.ro 8 [] true,.ro 1 (nP n) e]
theorem iL {n i:Nat} (h:i < n):(nP n)[i]?=some [.ro 8 [] true]:=by simp [nP,h]
theorem oJ (H:aW C) (n:Nat) (hn:n<=1000) (e f:Bool):∀ m i,m+i=n ->
 fD C ⟨[(5,.int .i64 i),(3,.ptr 0 0 0),(2,.ptr 1 0 0)],[(0,.cells 2 [[.ro 8 [] true,.ro 1 (nP n) f]] true true),(1,.cells 2 [[.ro 8 [] true,.ro 1 (nP n) e]] true true)],2⟩=some (.int .i64 1):=by
 intro m;have h1:=jG H;induction m with
 | zero =>
  intro i hi;have h3:¬ i < n:=by omega
  simp only [fD];rw [ck_unf w286_B0.eq_1];simp (disch:=omega) [ck_unf w286_c0.eq_1,h3]
 | succ m ih =>
  intro i hi;have h2:i < n:=by omega
  have hg:=iL h2;have hq:=ih (i+1) Qq;simp only [fD] at hq |-;rw [ck_unf w286_B0.eq_1];simp at hq;simp (disch:=omega) [h1,h2,hg,aj,H.inl,inlB,H.pp,ppB,hq]
theorem oQ (H:aW C) (n:Nat) (hn:n<=1000) (e f:Bool):FnW C 286 [eSt n e,eSt n f]=some (.int .i64 1):=by have h1:=jG H;have h2:=oJ H n hn e f n 0 Qw;simp only [fD] at h2;simp at h2;rw [fnW_eq H.f286 rfl];simp [w286,h1,h2,H.inl,inlB,H.pp,ppB]
theorem qF (H:aW C) (c:Cf) (hf:aT c=true) (hn:c.ks.length<=10) (e:Bool):∀ m i,m+i=c.ks.length ->
 fB C ⟨[(54,.int .i64 i),(53,.int .i64 c.ks.length),(52,.ro 1 (nP c.ks.length) e),(2,.ptr 0 0 0)],[(0,.cells 7 [eCf c] true true)],1⟩=some (.int .i64 0):=by
 intro m;have h1:=λa b=>qN H a b;induction m with
 | zero =>
  intro i hi;have h3:¬ i < c.ks.length:=by omega
  simp only [fB];rw [ck_unf w278_B0.eq_1];simp (disch:=omega) [ck_unf w278_c0.eq_1,h3]
 | succ m ih =>
  intro i hi;have h2:i < c.ks.length:=by omega
  have hg:=iL h2;have hq:=ih (i+1) Qq;have hp:¬ c.ks[i].pl < 0:=by unfold aT at hf;simp only [Bool.and_eq_true,Bool.not_eq_true',List.any_eq_false] at hf;have:=hf.2 c.ks[i] (List.getElem_mem h2);simp only [plB,Bool.or_eq_true,decide_eq_true_eq,not_or] at this;exact this.1
  simp only [fB] at hq |-;rw [ck_unf w278_B0.eq_1];simp at hq;simp (disch:=omega) [h1,h2,hg,hp,aj,H.inl,inlB,H.pp,ppB,hq]
theorem qU (H:aW C) (c:Cf) (hk:bF c) (hf:aT c=true) (e:Bool):FnW C 278 [.agg (eCf c),eSt c.ks.length e]=some (.int .i64 0):=by have h0:=dU H.toaU c hk;rw [if_pos hf] at h0;have h2:=qF H c hf hk.n e c.ks.length 0 Qw;simp only [fB] at h2;simp only [eCf] at h0 h2;simp at h2;rw [fnW_eq H.f278 rfl];simp [w278,h0,h2,H.inl,inlB,H.pp,ppB];rw [ck_unf w278_B1.eq_1];simp [ck_unf w278_c1.eq_1,h2]
theorem tu {n i:Nat} (h:i < n):(nP n).set i [.ro 8 [] true]=nP n:=by
 apply List.ext_getElem?;intro j;by_cases q:i=j
 ·subst q;simp [nP,h]
 ·rw [List.getElem?_set_ne q]
theorem qg (H:aW C) (N:Nat) (hN:N<=1000) (e:Bool):∀ m i,m+i=N ->
 ∃ n':Nat,CK C 0 (fnEndW [.cell 2 2 true]) [.sq w281_L0,.bk 0 ⟨true,[3,2],[]⟩,.sq w281_c0] w281_B0
  ⟨[(17,.int .i64 i),(16,.int .i64 N),(15,.ro 1 (nP N) e),(3,.ptr 0 0 0),(2,.ptr 2 0 0)],
   [(0,.cells 2 [[.ro 8 [] true,.sl 1 1 0 N N true]] true false),(1,.cells 1 (nP N) true true),(2,.cells 2 [[.ro 8 [] true,.ro 1 [] true]] true true)],3⟩ =
  some (.agg [.ro 8 [] true,.sl 1 1 0 N N true],[(0,.cells 2 [[.ro 8 [] true,.sl 1 1 0 N N true]] true false),(1,.cells 1 (nP N) true true),(2,.cells 2 [[.ro 8 [] true,.sl 1 1 0 N N true]] true false)],n'):=by
 intro m;induction m with
 | zero =>
  intro i hi;have h3:¬ i < N:=by omega
  refine ⟨?_,?_⟩
  rotate_right
  ·rw [ck_unf w281_B0.eq_1];simp (disch:=omega) [ck_unf w281_c0.eq_1,h3];rfl
 | succ m ihm =>
  intro i hi;have h1:i < N:=by omega
  obtain ⟨n',this⟩:=ihm (i+1) Qq;have hs:=iR H;have g1:=iL h1;have g2:=tu h1;have gl:(nP N).length=N:=by simp
  refine ⟨n',?_⟩;generalize nP N=Z at *;have hgg:∀ h:i < Z.length,Z[i]=[.ro 8 [] true]:=λh=>Option.some.inj ((List.getElem?_eq_getElem h).symm.trans g1);rw [ck_unf w281_B0.eq_1];simp at this;simp (disch:=omega) [h1,hs,aj,H.inl,inlB,H.pp,ppB,g1,g2,gl,hgg,this]
theorem qp (H:aW C) (N:Nat) (hN:N<=1000) (h0:0 < N) (e:Bool) (nid:Nat) :
 freshCallW (RnW C) 3008 [eSt N e] nid=some (.agg [.ro 8 [] true,.sl nid 1 0 N N true],[(nid,some (.cells 1 (nP N) true true))]):=by
 have h1:=iR H;have h4:N * 25<=35184372088832:=by omega
 obtain ⟨m,h⟩:=qg H N hN e N 0 Qw;have hr:∃ m,RnW C 3008 [eSt N e] [] 0=some (.agg [.ro 8 [] true,.sl 1 1 0 N N true],[(0,.cells 2 [[.ro 8 [] true,.sl 1 1 0 N N true]] true false),(1,.cells 1 (nP N) true true),(2,.cells 2 [[.ro 8 [] true,.sl 1 1 0 N N true]] true false)],m):=by refine ⟨m,?_⟩;rw [aP (args:=[eSt N e]) H.xX rfl];simp at h;simp [w281,H.inl,inlB,H.pp,ppB,h1,h4,h]
 obtain ⟨m,hr⟩:=hr;unfold freshCallW;rw [hr];simp [ob,ownOf,ownOfL,Pav.get,freshOfW,hand,handL,om]
theorem oC (H:aW C) (N:Nat) (hN:N<=1000):∀ m i,m+i=N ->
 fE C ⟨[(34,.int .i64 i),(33,.int .i64 N),(32,.sl 0 1 0 N N true),(11,.int .i64 0),(10,.ptr 1 0 0),(6,.ptr 2 0 0),(2,.int .i64 16)],
  [(0,.cells 1 (nP N) true true),(1,.cells 2 [[.ro 8 [] true,.sl 0 1 0 N N true]] true false),(2,.cells 2 [[.ro 8 [] true,.ro 1 [] true]] true true)],3⟩ =
  some (.tup [eSt N true,.int .i64 0,.int .i64 0]):=by
 intro m;have gl:(nP N).length=N:=by simp
 induction m with
 | zero =>
  intro i hi;have h3:¬ i < N:=by omega
  have h5:List.take N (nP N)=nP N:=List.take_of_length_le Qw;simp only [fE];rw [ck_unf w290_B0.eq_1];simp (disch:=omega) [ck_unf w290_c0.eq_1,h3,h5,gl]
 | succ m ih =>
  intro i hi;have h1:i < N:=by omega
  have hq:=ih (i+1) Qq;have hs:=iR H;have g1:=iL h1;have g2:=tu h1;have hx:imax 0 (-16)=0:=by decide
  simp only [eSt] at hq |-;generalize nP N=Z at *;have hgg:∀ h:i < Z.length,Z[i]=[.ro 8 [] true]:=λh=>Option.some.inj ((List.getElem?_eq_getElem h).symm.trans g1);simp only [fE] at hq |-;rw [ck_unf w290_B0.eq_1];simp at hq;simp (disch:=omega) [H.inl,inlB,H.pp,ppB,h1,hx,hs,g1,g2,gl,hgg,aj,hq]
theorem wK (H:aW C) (c:Cf) (hk:bF c) (hf:aT c=true) (e:Bool):FnW C 290 [.agg (eCf c),eSt c.ks.length e,.int .i64 16]=some (.tup [eSt c.ks.length true,.int .i64 0,.int .i64 0]):=by have h0:=qU H c hk hf e;have hx:=qp H c.ks.length (by have:=hk.n;omega) (kN hf) e;have h3:=oC H c.ks.length (by have:=hk.n;omega) c.ks.length 0 Qw;simp only [fE] at h3;simp only [eCf] at h0;simp at h3;rw [fnW_eq H.f290 rfl];simp [w290,H.inl,inlB,H.pp,ppB,h0,hx,h3]
theorem qH (H:aW C) (c:Cf) (hk:bF c) (hf:aT c=true):FnW C 649 [.agg (eMo c)]=some (eSt c.ks.length true):=by have h1:=wK H c hk hf true;simp only [eCf] at h1;simp only [eMo];rw [fnW_eq H.Dk rfl];simp [w649,H.inl,inlB,H.pp,ppB,h1]
end Go.D
end
section
namespace Go.D
open Go Go.Pav Go.Pw P
attribute [-simp] List.getElem_cons_drop
variable {C:WProg}
structure xH (C:WProg):Prop extends aW C where
 yu:C.fns.get 638=some w638
 Dl:C.fns.get 643=some w643
 zV:C.fns.get 644=some w644
 zY:C.fns.get 645=some w645
 BD:C.fns.get 640=some wR
structure iZ (C:WProg):Prop extends iU C where
 C9:FnW C 172 [.ro 6 [] true,.ro 6 [] true]=some (.int .i64 1)
 CP:FnW C 136 [.ro 1 [] true,.ro 1 [] false]=some (.int .i64 1)
 CO:FnW C 127 [zSc,zSc]=some (.int .i64 1)
theorem wV (p:Pt):aN p.ow=aN p:=by rw [Pt.bg];unfold aN;simp
mutual
theorem xZ:∀ (p:Pt) (lv c:Nat),tk p.ow lv c=tk p lv c
 | ⟨k,t,y,s,se,x,ch,ce⟩,lv,c=>by have h:=wV ⟨k,t,y,s,se,x,ch,ce⟩;rw [nH,nH,h,Pt.bg,<- Pt.kY,sQ ch (lv+1) (c+1)]
theorem sQ:∀ (l:List Pt) (lv c:Nat),tks (Pt.ows l) lv c=tks l lv c
 | [],_,_=>by rw [Pt.ows]
 | m::r,lv,c=>by rw [Pt.ows,tks,tks,xZ m lv c,sQ r lv _]
end
theorem wz (p:Pt):aS p.ow=aS p:=by unfold aS;rw [xZ,show p.ow.k=p.k from by rw [Pt.bg]]
theorem uT {p:Pt} (h:aF p):aF p.ow:=by
 induction h with
 | mk p h hm ih =>
  refine .mk _ ⟨?_,?_,?_⟩ ?_
  ·rw [Pt.bg];exact h.f
  ·rw [Pt.bg];exact h.s
  ·rw [Pt.bg];simpa using h.c
  ·rw [Pt.bg];intro m hm2;obtain ⟨x,hx,rfl⟩:=List.mem_map.1 hm2;exact ih x hx
theorem uo (k:Kd):bW k.ow=bW k:=by unfold bW Kd.ow;simp only [wz]
theorem yA (P:Kd->Bool) (h:∀ k:Kd,P k.ow=P k) (l:List Kd):(l.map Kd.ow).all P=l.all P:=by rw [List.all_map];congr 1;funext k;exact h k
theorem qJ (P:Kd->Bool) (h:∀ k:Kd,P k.ow=P k) (l:List Kd):(l.map Kd.ow).any P=l.any P:=by rw [List.any_map];congr 1;funext k;exact h k
theorem vH (c:Cf):aT c.ow=aT c:=by unfold aT bG Cf.ow;simp only [List.length_map,yA bW uo,qJ plB (λ_=>rfl)]
theorem lN (c:Cf):ckB c.ow=ckB c:=by unfold ckB;rw [vH];have:c.ow.ks.any (lwB c.ow.ls)=c.ks.any (lwB c.ls):=qJ (lwB c.ls) (λ_=>rfl) c.ks;rw [this];rfl
theorem jd {c:Cf} (h:bF c):bF c.ow:=by
 refine ⟨⟨?_,?_⟩,?_⟩
 ·simpa [Cf.ow] using h.k.n
 ·intro k hk;obtain ⟨x,hx,rfl⟩:=List.mem_map.1 hk;exact uT (h.k.f x hx)
 ·simpa [Cf.ow] using h.n
theorem jk {c:Cf} (h:bF c) (hc:ckB c=true):uw c:=by unfold ckB aK at hc;simp only [Bool.and_eq_true,Bool.not_eq_true',Bool.or_eq_false_iff,decide_eq_false_iff_not] at hc;exact ⟨h,hc.1.2,by omega,by omega⟩
section
variable (H:xH C) (c:Cf)
include H
theorem qK:FnW C 638 [.agg (eMo c)]=some (.int .i64 c.vw):=by rw [fnW_eq H.yu rfl];simp [w638,eMo]
theorem wL:FnW C 638 [.agg zMo]=some (.int .i64 0):=by rw [fnW_eq H.yu rfl];simp [w638,zMo]
theorem uO:FnW C 643 [.agg (eMo c)]=some (.int .i64 0):=by rw [fnW_eq H.Dl rfl];simp [w643,eMo]
theorem uQ:FnW C 644 [.agg (eMo c)]=some (.int .i64 0):=by rw [fnW_eq H.zV rfl];simp [w644,eMo]
theorem uZ:FnW C 645 [.agg (eMo c)]=some (.agg [.int .i64 0,.int .i64 0,.int .i64 0,.int .i64 1]):=by rw [fnW_eq H.zY rfl];simp [w645,eMo]
theorem rZ (R:iZ C) (h:bF c) (hc:ckB c=true):FnW C 640 [.agg (eMo c.ow),.agg (eRm c)]=some (.int .i64 1):=by
 have K:=jk h hc;have K2:=jk (jd h) ((lN c).trans hc);have e1:c.ow.ks.length=c.ks.length:=by simp [Cf.ow]
 have h1:=qK H c.ow;have h2:=uO H c.ow;have h3:=uQ H c.ow;have h4:=uZ H c.ow;have h5:=tZ H.torM R.toiU c.ow K2;have h6:=qH H.toaW c.ow K2.k K2.f;have h7:=vM H.torM R.toiU c.ow K2;have h8:=yH H.torM R.toiU c.ow K2;have h9:=sK H.torM R.toiU c K;have ha:=wO H.torM R.toiU c K;have hb:=oQ H.toaW c.ks.length (by have:=h.n;omega) true false;have hd:=R.C9;have he:=R.CP;have hf:=R.CO;rw [e1] at h6;have hv:c.ow.vw=c.vw:=rfl;rw [hv] at h1;simp only [eMo,eRm,e1,hv] at *;simp only [eSt] at h6 hb;simp only [zSc] at h8 ha hf;generalize c.ow.ks.map eKd=KS at *;generalize nP c.ks.length=N at *;rw [fnW_eq H.BD rfl];simp [wR,H.inl,inlB,H.pp,ppB,h1,h2,h3,h4,h5,h6,h7,h8,h9,ha,hb,hd,he,hf,aj]
end
end Go.D
end
section
namespace Go.Pw
open Go Go.Pav
theorem rO {α:Type} (l:List (Nat × α)) (k:Nat) (x:α) (j:Nat):Pav.get (Pav.put l k x) j=if k=j then some x else Pav.get l j:=get_put l k x j
theorem ay {α:Type} (l:List (Nat × α)) (k:Nat) (x:α):Pav.get (Pav.put l k x) k=some x:=by rw [rO,if_pos rfl]
theorem ak {α:Type} {l:List (Nat × α)} {k:Nat} {x:α} {j:Nat} (h:k≠j):Pav.get (Pav.put l k x) j=Pav.get l j:=by rw [rO,if_neg h]
theorem rJ {α:Type} (l:List (Nat × α)) (k:Nat) (x y:α):Pav.put (Pav.put l k x) k y=Pav.put l k y:=by
 induction l with
 | nil=>simp [Pav.put]
 | cons a r ih =>
  obtain ⟨j,v⟩:=a;simp only [Pav.put];by_cases h1:j=k
  ·simp [h1,Pav.put]
  ·by_cases h2:k<=j
   ·simp [h1,h2,Pav.put]
   ·simp [h1,h2,Pav.put,ih]
theorem ltF {a b:Nat} (h:a < b):(a=b)=False:=eq_false Qq
theorem gtF {a b:Nat} (h:b < a):(a=b)=False:=eq_false Qq
structure Rw where
 i:Nat
 len:Nat
 cap:Nat
 es:List (List AV)
abbrev Rw.of (es:List (List AV)):Rw:=⟨0,es.length,es.length,es⟩
def Rw.c (w:Rw):List (List AV):=(w.es.drop w.i).take w.len
def Rw.v (z b:Nat) (w:Rw):AV:=match w.es with
 | []=>.ro z [] true
 | _::_=>if w.cap=0 then .ro z [] false else .sl b z w.i w.len w.cap false
def Rw.d (z:Nat) (w:Rw):AV:=match w.es with
 | []=>.ro z [] true
 | _::_=>.ro z w.c false
structure Rw.Ok (w:Rw):Prop where
 le:w.i+w.len<=w.es.length
 c0:w.cap=0->w.len=0
structure Nst (z:Nat) (h:WHeap) (lo hi:Nat) (id:Nat->Nat) (cs:List (List AV)) (W:List Rw):Prop where
 len:cs.length=W.length
 bd:∀ i,i < W.length->lo<=id i/\id i < hi
 inj:∀ i j,i < W.length->j < W.length->id i=id j->i=j
 cell:∀ (i:Nat) (w:Rw),W[i]?=some w->cs[i]?=some [w.v z (id i)]
 blk:∀ (i:Nat) (w:Rw),W[i]?=some w->w.es≠[]->Pav.get h (id i)=some (.cells z w.es true true)
 ok:∀ w,w ∈ W->w.Ok
section
variable {z:Nat} {h h':WHeap} {lo hi hi':Nat} {id:Nat->Nat} {cs:List (List AV)} {W:List Rw}
theorem Nst.nil:Nst z h lo hi id [] []:=⟨rfl,λi h=>by simp at h,λi j h=>by simp at h,λi w h=>by simp at h,λi w h=>by simp at h,λw h=>by simp at h⟩
theorem Nst.mono (R:Nst z h lo hi id cs W) (hh:hi<=hi') (hg:∀ j,lo<=j->j < hi->Pav.get h' j=Pav.get h j):Nst z h' lo hi' id cs W where
 len:=R.len
 bd i hi:=⟨(R.bd i hi).1,Nat.lt_of_lt_of_le (R.bd i hi).2 hh⟩
 inj:=R.inj
 cell:=R.cell
 blk i w hw hn:=by have hl:i < W.length:=(List.getElem?_eq_some_iff.1 hw).1;rw [hg _ (R.bd i hl).1 (R.bd i hl).2];exact R.blk i w hw hn
 ok:=R.ok
theorem Nst.snoc (R:Nst z h lo hi id cs W) (b:Nat) (hb:hi<=b) (hb2:lo<=b) (hh:b < hi') (w:Rw) (hw:w.Ok)
 (hg:∀ j,lo<=j->j < hi->Pav.get h' j=Pav.get h j) (hn:w.es≠[]->Pav.get h' b=some (.cells z w.es true true)) :
 Nst z h' lo hi' (λi=>if i=W.length then b else id i) (cs++[[w.v z b]]) (W++[w]):=by
 have hid:∀ i,i < W.length->(if i=W.length then b else id i)=id i:=λi hi=>if_neg Qq;have hlt:∀ i,i < (W++[w]).length->i=W.length\/i < W.length:=by intro i hi;simp at hi;omega
 refine ⟨by simp [R.len],?_,?_,?_,?_,?_⟩
 ·intro i hi;rcases hlt i hi with q | q
  ·rw [if_pos q];exact ⟨hb2,hh⟩
  ·rw [hid i q];exact ⟨(R.bd i q).1,by have:=(R.bd i q).2;omega⟩
 ·intro i j hi hj he;rcases hlt i hi with q | q <;> rcases hlt j hj with q' | q'
  ·omega
  ·rw [if_pos q,hid j q'] at he;have:=(R.bd j q').2;omega
  ·rw [if_pos q',hid i q] at he;have:=(R.bd i q).2;omega
  ·rw [hid i q,hid j q'] at he;exact R.inj i j q q' he
 ·intro i x hx;have hi:i < (W++[w]).length:=(List.getElem?_eq_some_iff.1 hx).1;rcases hlt i hi with q | q
  ·subst q;rw [if_pos rfl];simp at hx;subst hx;rw [<- R.len];simp
  ·rw [hid i q];rw [List.getElem?_append_left q] at hx;rw [List.getElem?_append_left (by rw [R.len];exact q)];exact R.cell i x hx
 ·intro i x hx hne;have hi:i < (W++[w]).length:=(List.getElem?_eq_some_iff.1 hx).1;rcases hlt i hi with q | q
  ·subst q;rw [if_pos rfl];simp at hx;subst hx;exact hn hne
  ·rw [hid i q,hg _ (R.bd i q).1 (R.bd i q).2];rw [List.getElem?_append_left q] at hx;exact R.blk i x hx hne
 ·intro x hx;rcases List.mem_append.1 hx with q | q
  ·exact R.ok x q
  ·simp at q;subst q;exact hw
theorem Nst.set (R:Nst z h lo hi id cs W) (k:Nat) (hk:k < W.length) (b:Nat) (hb:b=id k\/hi<=b) (hb2:lo<=b) (hh:b < hi') (hhi:hi<=hi') (w:Rw) (hw:w.Ok)
 (hg:∀ j,j < W.length->j≠k->Pav.get h' (id j)=Pav.get h (id j)) (hn:w.es≠[]->Pav.get h' b=some (.cells z w.es true true)) :
 Nst z h' lo hi' (λi=>if i=k then b else id i) (cs.set k [w.v z b]) (W.set k w):=by
 refine ⟨by simp [R.len],?_,?_,?_,?_,?_⟩
 ·intro i hi;rw [List.length_set] at hi;by_cases q:i=k
  ·rw [if_pos q];exact ⟨hb2,hh⟩
  ·rw [if_neg q];exact ⟨(R.bd i hi).1,by have:=(R.bd i hi).2;omega⟩
 ·intro i j hi hj he;rw [List.length_set] at hi hj;have hne:∀ j,j < W.length->j≠k->b≠id j:=by
   intro j hj q e;rcases hb with q2 | q2
   ·exact q (R.inj j k hj hk (by rw [<- e,q2]))
   ·have:=(R.bd j hj).2;omega
  by_cases q:i=k <;> by_cases q':j=k
  ·omega
  ·rw [if_pos q,if_neg q'] at he;exact absurd he (hne j hj q')
  ·rw [if_neg q,if_pos q'] at he;exact absurd he.symm (hne i hi q)
  ·rw [if_neg q,if_neg q'] at he;exact R.inj i j hi hj he
 ·intro i x hx;by_cases q:i=k
  ·subst q;rw [List.getElem?_set_self hk] at hx;cases hx;rw [if_pos rfl,List.getElem?_set_self (by rw [R.len];exact hk)]
  ·rw [if_neg q];rw [List.getElem?_set_ne Qq] at hx |-;exact R.cell i x hx
 ·intro i x hx hne;by_cases q:i=k
  ·subst q;rw [List.getElem?_set_self hk] at hx;cases hx;rw [if_pos rfl];exact hn hne
  ·rw [if_neg q];rw [List.getElem?_set_ne Qq] at hx;have hi:i < W.length:=(List.getElem?_eq_some_iff.1 hx).1;rw [hg i hi q];exact R.blk i x hx hne
 ·intro x hx;rcases List.mem_or_eq_of_mem_set hx with q | q
  ·exact R.ok x q
  ·subst q;exact hw
theorem Nst.yK (R:Nst z h lo hi id cs W) (n:Nat) {i:Nat} {w:Rw} (hw:W[i]?=some w):mapO (frzW h (n+2)) [w.v z (id i)]=some [w.d z]:=by
 have hb:=R.blk i w hw;have hok:=(R.ok w (List.mem_of_getElem? hw)).le;have hc0:=(R.ok w (List.mem_of_getElem? hw)).c0;unfold Rw.v Rw.d;cases he:w.es with
 | nil=>simp [mapO,ob,om]
 | cons a r =>
  simp only;have:=hb (by simp [he]);by_cases hcap:w.cap=0
  ·rw [if_pos hcap];have hl0:=hc0 hcap;simp [mapO,ob,om,Rw.c,hl0]
  rw [if_neg hcap];simp only [mapO,frzW_sl,this,frzS];have hl:((w.es.drop w.i).take w.len).length=w.len:=by rw [List.length_take,List.length_drop];omega
  simp [hl,og,ob,Rw.c]
theorem Nst.frz (R:Nst z h lo hi id cs W) (n:Nat):mapO (mapO (frzW h (n+2))) cs=some (W.map λw=>[w.d z]):=by
 have key:∀ (cs:List (List AV)) (W:List Rw) (id:Nat->Nat),cs.length=W.length->(∀ (i:Nat) (w:Rw),W[i]?=some w->∃ c,cs[i]?=some c/\mapO (frzW h (n+2)) c=some [w.d z])->mapO (mapO (frzW h (n+2))) cs=some (W.map λw=>[w.d z]):=by
  intro cs;induction cs with
  | nil=>intro W id hl _;cases W with
   | nil=>rfl
   | cons _ _=>simp at hl
  | cons c cs ih =>
   intro W id hl hc;cases W with
   | nil=>simp at hl
   | cons w W =>obtain ⟨c',h1,h2⟩:=hc 0 w rfl;simp at h1;subst h1;have:=ih W (λi=>id (i+1)) (by simpa using hl) (λi w hw=>by simpa using hc (i+1) w (by simpa using hw));simp only [mapO,h2,this,ob,om,List.map_cons]
 exact key cs W id R.len λi w hw=>⟨_,R.cell i w hw,R.yK n hw⟩
theorem Nst.flat (R:Nst z h lo hi id cs W) (h0:∀ w ∈ W,w.es=[]):cs=W.map λw=>[w.d z]:=by
 apply List.ext_getElem?;intro i;rw [List.getElem?_map];cases hw:W[i]? with
 | none =>rw [List.getElem?_eq_none_iff] at hw;rw [List.getElem?_eq_none_iff.2 (by rw [R.len];exact hw)];rfl
 | some w =>rw [R.cell i w hw];have:=h0 w (List.mem_of_getElem? hw);simp [Rw.v,Rw.d,this]
theorem Rw.zU (z:Nat) (w:Rw):isC (w.d z)=true:=by unfold Rw.d;split <;> rfl
theorem Nst.frzS (R:Nst z h lo hi id cs W) (n:Nat) {mu dt ex:Bool} (hd:dt=true->∀ w ∈ W,w.es=[]) :
 Pw.frzS h (n+2) 1 0 W.length W.length ex (some (.cells 1 cs mu dt))=some (.ro 1 (W.map λw=>[w.d z]) ex):=by
 have hl:=R.len;cases dt with
 | true =>have:=R.flat (hd rfl);simp only [Pw.frzS,List.drop_zero];rw [List.take_of_length_le Qq,this];simp [og]
 | false =>
  simp only [Pw.frzS,List.drop_zero];rw [List.take_of_length_le Qq,R.frz n];have:((W.map λw=>[w.d z]).all λe=>e.all isC)=true:=by rw [List.all_eq_true];intro x hx;obtain ⟨w,_,rfl⟩:=List.mem_map.1 hx;simp only [List.all_cons,List.all_nil,Rw.zU,Bool.and_self]
  simp only [ob,List.length_map,decide_true,this,Bool.and_self,og,Bool.and_true]
end
end Go.Pw
end
section
namespace Go.D
open Go Go.Pav Go.Pw P
attribute [-simp] List.getElem_cons_drop
variable {C:WProg}
structure fU (C:WProg):Prop extends xH C where
 xC:C.fns.get 5662=some lX
 xR:C.fns.get 5653=some lZ
 qR:C.fns.get 5639=some jO
theorem lFb {a b:Nat} (h:b < a):(a<=b)=False:=eq_false Qq
theorem bH {n b:Nat} {h1 h:WHeap} (hb:b < n):Pav.get (over n h1 h) b=Pav.get h b:=by unfold over;rw [get_upsW,if_neg Qq]
theorem jY {n b:Nat} {h1 h:WHeap} {o:WObj} (hb:n<=b) (hg:Pav.get h1 b=some o):Pav.get (over n h1 h) b=some o:=by unfold over;rw [get_upsW,if_pos hb,hg]
abbrev rC (p:Pt) (b:Nat):List AV:=[.int .u8 p.k,.str p.t,.str p.y,.ro 3 (p.s.map eSl) true,.str p.x,.sl b 6 0 p.ch.length p.ch.length true]
abbrev rU (p:Pt):WObj:=.cells 6 ((p.ch.map Pt.ow).map Pt.c) true true
theorem ou (H:dB C) (l:List Pt) (hp:l.length<=1000000) (e:Bool) (nid:Nat):freshCallW (RnW C) 3672 [.ro 6 (l.map Pt.c) e] nid=some (.sl nid 6 0 l.length l.length l.isEmpty,[(nid,some (.cells 6 (l.map Pt.c) true true))]):=by
 by_cases h:l=[]
 ·subst h;exact fK H e nid
 ·rw [dW H l h hp e nid];cases l with
  | nil=>exact absurd rfl h
  | cons a r=>rfl
theorem rF (H:fU C) (p:Pt) (hl:p.ch.length<=16) (ih:∀ x ∈ p.ch,FnW C 662 [.agg x.c]=some (.agg x.ow.c)) (bs bx r kb:Nat) (h1:bx≠kb) (h2:r≠kb) (h3:bx≠r):∀ m i,m+i=p.ch.length->∀ (G:List Pt),G.length=i->G=(p.ch.take i).map Pt.ow->∀ (h:WHeap) (next:Nat),bx < next->r < next->kb < next ->
 Pav.get h bx=some (.cells 6 [rC p kb] true false)->Pav.get h r=some (.cells 6 [zC] true true)->Pav.get h kb=some (.cells 6 ((G++p.ch.drop i).map Pt.c) true true) ->
 ∃ h' next',Pav.get h' kb=some (rU p)/\next<=next' /\
 CK C bs (fnEndW [.cell 2 6 true]) [.sq gG,.bk 0 ⟨true,[2,1],[(9999,65537)]⟩,.sq fG] bJ
  ⟨[(17,.int .i64 i),(16,.int .i64 p.ch.length),(2,.ptr r 0 0),(1,.ptr bx 0 0)],h,next⟩=some (.agg (rC p kb),h',next'):=by
 intro m;induction m with
 | zero =>
  intro i hi G hG hGe h next l1 l2 l3 g1 g2 g3
  have c1:¬ i < p.ch.length:=by omega
  have e1:p.ch.take i=p.ch:=List.take_of_length_le Qq;have e2:p.ch.drop i=[]:=List.drop_eq_nil_of_le Qq;rw [e1] at hGe;rw [hGe,e2,List.append_nil] at g3;refine ⟨put h r (.cells 6 [rC p kb] true false),next+3,?_,by omega,?_⟩
  ·simp (disch:=omega) only [ak];exact g3
  ·rw [ck_unf bJ.eq_1];simp only [zC] at g2;simp (disch:=omega) [ck_unf fG.eq_1,c1,g1,g2,g3,ay,ak]
 | succ m ihm =>
  intro i hi G hG hGe h next l1 l2 l3 g1 g2 g3
  have c1:i < p.ch.length:=by omega
  have hs:=ih p.ch[i] (List.getElem_mem c1);have hg:=CU G p.ch i hG c1;have hst:=Ac G p.ch i p.ch[i].ow hG c1;have hZl:((G++p.ch.drop i).map Pt.c).length=p.ch.length:=by simp;omega
  have hdr:List.drop 6 p.ch[i].c=[]:=List.drop_eq_nil_of_le Qw;obtain ⟨h',n',r1,r2,r3⟩:=ihm (i+1) Qq (G++[p.ch[i].ow]) (by simp [hG]) (by rw [hGe,List.take_add_one,List.getElem?_eq_getElem c1,List.map_append];rfl)
   (put h kb (.cells 6 ((G++[p.ch[i].ow]++p.ch.drop (i+1)).map Pt.c) true true)) (next+16) Qq Qq Qq
   (by simp (disch:=omega) only [ak];exact g1) (by simp (disch:=omega) only [ak];exact g2) (ay ..)
  refine ⟨h',n',r1,by omega,?_⟩;rw [<- r3,ck_unf bJ.eq_1];rw [<- hst];generalize (G++p.ch.drop i).map Pt.c=Z at *;have hgg:∀ h:i < Z.length,Z[i]=p.ch[i].c:=λh=>Option.some.inj ((List.getElem?_eq_getElem h).symm.trans hg);simp (disch:=omega) [c1,hs,aj,H.inl,inlB,H.pp,ppB,g1,g2,g3,hg,hgg,hdr,hZl,ay,ak,rJ]
theorem y7 (H:fU C) (p:Pt) (hp:Sm p) (nx:Nat) :
 ∃ h1 n1 b,RnW C 5662 [.agg p.c] [] nx=some (.agg (rC p b),h1,n1)/\nx<=b/\b < n1/\Pav.get h1 b=some (rU p):=by
 cases hp with
 | mk _ hh hm =>
  have h1:=gZ H.todB p.s p.se Qq;have h2:=kE H.todB p.s p.s.isEmpty;have h4:=λb n e h next=>jP H.todB b n e h next
  have h3:=λnid=>ou H.todB p.ch Qq p.ce nid;obtain ⟨L,hL⟩:∃ L,L=RnW C 5662 [.agg p.c] [] nx:=⟨_,rfl⟩;rw [<- hL];rw [aP (args:=[.agg p.c]) H.xC rfl,Pt.aC p] at hL;simp (disch:=omega) [lX,h1,h2,h3,h4,H.inl,inlB,H.pp,ppB,ltF,gtF,lFb,ay,ak] at hL;obtain ⟨h',n',r1,r2,r3⟩:=rF H p Qq (λx hx=>mQ H.todB x (hm x hx)) nx nx (nx+1) (nx+10) Qq Qq Qq p.ch.length 0 Qw [] rfl rfl
   [(nx,.cells 6 [rC p (nx+10)] true false),(nx+1,.cells 6 [zC] true true),(nx+10,.cells 6 (p.ch.map Pt.c) true true)] (nx+26) Qq Qq Qq
   Qw (by simp (disch:=omega) [ltF,gtF]) (by simp (disch:=omega) [ltF,gtF])
  exact ⟨h',n',nx+10,hL.trans r3,by omega,by omega,r1⟩
abbrev iQ (k:Kd) (b:Nat):List AV:=[.int .u8 k.p.k,.str k.p.t,.str k.p.y,.ro 3 (k.p.s.map eSl) true,.str k.p.x,.sl b 6 0 k.p.ch.length k.p.ch.length true,.int .i64 k.b,.bool k.st,.int .i64 k.pl]
structure bI (h:WHeap) (lo hi:Nat) (cs:List (List AV)) (l:List Kd):Prop where
 len:cs.length=l.length
 row:∀ (i:Nat) (k:Kd),l[i]?=some k->∃ b,lo<=b/\b < hi/\cs[i]?=some (iQ k b)/\Pav.get h b=some (rU k.p)
theorem bI.mono {h h':WHeap} {lo lo' hi hi':Nat} {cs:List (List AV)} {l:List Kd} (R:bI h lo hi cs l) (hl:lo'<=lo) (hh:hi<=hi') (hg:∀ b,lo<=b->b < hi->Pav.get h' b=Pav.get h b):bI h' lo' hi' cs l :=⟨R.len,λi x hx=>by obtain ⟨b,h1,h2,h3,h4⟩:=R.row i x hx;exact ⟨b,by omega,by omega,h3,by rw [hg b h1 h2];exact h4⟩⟩
theorem bI.ov {h1 X:WHeap} {n lo hi:Nat} {cs:List (List AV)} {l:List Kd} (R:bI h1 lo hi cs l) (hn:n<=lo):bI (over n h1 X) lo hi cs l :=⟨R.len,λi x hx=>by obtain ⟨b,k1,k2,k3,k4⟩:=R.row i x hx;exact ⟨b,k1,k2,k3,jY Qq k4⟩⟩
theorem bI.snoc {h:WHeap} {lo hi:Nat} {cs:List (List AV)} {l:List Kd} (R:bI h lo hi cs l) (x:Kd) (b:Nat) (h1:lo<=b) (h2:b < hi) (h3:Pav.get h b=some (rU x.p)):bI h lo hi (cs++[iQ x b]) (l++[x]):=by
 refine ⟨by simp [R.len],λi y hy=>?_⟩;have hi':i < (l++[x]).length:=(List.getElem?_eq_some_iff.1 hy).1;simp at hi';by_cases c:i=l.length
 ·subst c;simp at hy;subst hy;exact ⟨b,h1,h2,by rw [<- R.len];simp,h3⟩
 ·have hil:i < l.length:=by omega
  rw [List.getElem?_append_left hil] at hy;obtain ⟨b',k1,k2,k3,k4⟩:=R.row i y hy;exact ⟨b',k1,k2,by rw [List.getElem?_append_left (by rw [R.len];exact hil)];exact k3,k4⟩
abbrev zCf:List AV:=[.int .i64 0,.int .i64 0,.int .i64 0,.ro 9 [] true,.int .i64 0,.int .i64 0,.int .u8 0]
abbrev gB (c:Cf) (b:Nat):List AV:=[.int .i64 c.vw,.int .i64 c.ov,.int .i64 c.ls,.sl b 9 0 c.ks.length c.ks.length true,.int .i64 c.cap,.int .i64 c.ar,.int .u8 c.fl]
theorem qQ (H:fU C) (c:Cf) (hl:c.ks.length<=10) (hp:∀ k ∈ c.ks,Sm k.p) (bs bx r kb lo:Nat) (n1:bx≠kb) (n2:r≠kb) (n3:bx≠r) (l1:bx < lo) (l2:r < lo) (l3:kb < lo) :
 ∀ m i,m+i=c.ks.length->∀ (cs:List (List AV)) (dt:Bool) (h:WHeap) (next:Nat),lo<=next->(dt=true->i=0)->bI h lo next cs (c.ks.take i) ->
 Pav.get h bx=some (.cells 7 [gB c kb] true false)->Pav.get h r=some (.cells 7 [zCf] true true)->Pav.get h kb=some (.cells 9 (cs++(c.ks.drop i).map eKd) true dt) ->
 ∃ cs' dt' h' next',bI h' lo next' cs' c.ks/\Pav.get h' kb=some (.cells 9 cs' true dt')/\(dt'=true->c.ks=[])/\next<=next' /\
 CK C bs (fnEndW [.cell 2 7 true]) [.sq dF,.bk 0 ⟨true,[2,1],[(9999,65537)]⟩,.sq dM] aY
  ⟨[(12,.int .i64 i),(11,.int .i64 c.ks.length),(2,.ptr r 0 0),(1,.ptr bx 0 0)],h,next⟩=some (.agg (gB c kb),h',next'):=by
 intro m;induction m with
 | zero =>
  intro i hi cs dt h next hn hd R g1 g2 g3
  have c1:¬ i < c.ks.length:=by omega
  have e1:c.ks.take i=c.ks:=List.take_of_length_le Qq;have e2:c.ks.drop i=[]:=List.drop_eq_nil_of_le Qq;rw [e1] at R;rw [e2,List.map_nil,List.append_nil] at g3;refine ⟨cs,dt,put h r (.cells 7 [gB c kb] true false),next+3,R.mono (Nat.le_refl _) Qq (λb k1 k2=>ak Qq),?_,λq=>List.length_eq_zero_iff.1 (by have:=hd q;omega),by omega,?_⟩
  ·simp (disch:=omega) only [ak];exact g3
  ·rw [ck_unf aY.eq_1];simp (disch:=omega) [ck_unf dM.eq_1,c1,g1,g2,g3,ay,ak]
 | succ m ih =>
  intro i hi cs dt h next hn hd R g1 g2 g3
  have c1:i < c.ks.length:=by omega
  obtain ⟨q1,n',b,r1,r2,r3,r4⟩:=y7 H c.ks[i].p (hp _ (List.getElem_mem c1)) (next+16);have hcl:cs.length=i:=by rw [R.len];simp;omega
  have hci:(cs++(c.ks.drop i).map eKd)[i]?=some (eKd c.ks[i]):=by rw [List.getElem?_append_right Qq,hcl,Nat.sub_self,drop_cons c1];rfl
  have hcl2:(cs++(c.ks.drop i).map eKd).length=c.ks.length:=by simp [hcl];omega
  have hst:(cs++(c.ks.drop i).map eKd).set i (iQ c.ks[i] b)=(cs++[iQ c.ks[i] b])++(c.ks.drop (i+1)).map eKd:=by rw [drop_cons c1,List.set_append_right _ _ Qq];simp [hcl]
  have htk:c.ks.take (i+1)=c.ks.take i++[c.ks[i]]:=List.take_succ_eq_append_getElem c1;rw [Pt.aC] at r1;generalize (cs++(c.ks.drop i).map eKd)=Z at *;have hgg:∀ h:i < Z.length,Z[i]=eKd c.ks[i]:=λh=>Option.some.inj ((List.getElem?_eq_getElem h).symm.trans hci);obtain ⟨L,hL⟩:∃ L,L=CK C bs (fnEndW [.cell 2 7 true]) [.sq dF,.bk 0 ⟨true,[2,1],[(9999,65537)]⟩,.sq dM] aY ⟨[(12,.int .i64 i),(11,.int .i64 c.ks.length),(2,.ptr r 0 0),(1,.ptr bx 0 0)],h,next⟩:=⟨_,rfl⟩;rw [<- hL];rw [ck_unf aY.eq_1] at hL;simp (disch:=omega) [c1,r1,aj,H.inl,inlB,H.pp,ppB,g1,g2,g3,hci,hgg,hcl2,ay,ak,rJ,bH,lFb,ltF,gtF] at hL;obtain ⟨cs',dt',h',nx',k1,k2,kd,k3,k4⟩:=ih (i+1) Qq (cs++[iQ c.ks[i] b]) false (put (over (next+16) q1 h) kb (.cells 9 (Z.set i (iQ c.ks[i] b)) true false)) (n'+2) Qq (λq=>by cases q)
   (by
    rw [htk];refine (R.mono (Nat.le_refl _) Qq (λx q1 q2=>?_)).snoc c.ks[i] b Qq Qq ?_
    ·simp (disch:=omega) only [ak,bH]
    ·simp (disch:=omega) only [ak];exact jY r2 r4)
   (by simp (disch:=omega) only [ak,bH];exact g1) (by simp (disch:=omega) only [ak,bH];exact g2)
   (by rw [ay,hst])
  exact ⟨cs',dt',h',nx',k1,k2,kd,by omega,hL.trans k4⟩
theorem oP (H:fM C) (l:List Kd) (hp:l.length<=1000000) (e:Bool) (nid:Nat):freshCallW (RnW C) 3661 [.ro 9 (l.map eKd) e] nid=some (.sl nid 9 0 l.length l.length l.isEmpty,[(nid,some (.cells 9 (l.map eKd) true true))]):=by
 by_cases h:l=[]
 ·subst h;exact fH H e nid
 ·rw [dZ H l h hp e nid];cases l with
  | nil=>exact absurd rfl h
  | cons a r=>rfl
theorem qG (H:fU C) (c:Cf) (hl:c.ks.length<=10) (hp:∀ k ∈ c.ks,Sm k.p) (nx:Nat) :
 ∃ h1 n1 b cs dt lo,RnW C 5653 [.agg (eCf c)] [] nx=some (.agg (gB c b),h1,n1)/\nx<=b/\b < lo/\lo<=n1/\Pav.get h1 b=some (.cells 9 cs true dt)/\(dt=true->c.ks=[])/\bI h1 lo n1 cs c.ks:=by
 have h4:=λb n e h next=>jM H.tofM b n e h next
 have h3:=λnid=>oP H.tofM c.ks Qq c.ke nid;obtain ⟨L,hL⟩:∃ L,L=RnW C 5653 [.agg (eCf c)] [] nx:=⟨_,rfl⟩;rw [<- hL];rw [aP (args:=[.agg (eCf c)]) H.xR rfl] at hL;try simp at h3
 simp (disch:=omega) [lZ,h3,h4,H.inl,inlB,H.pp,ppB,ltF,gtF,lFb,ay,ak] at hL;obtain ⟨cs',dt',h',n',r1,r2,rd,r3,r4⟩:=qQ H c hl hp nx nx (nx+1) (nx+4) (nx+5) Qq Qq Qq Qq Qq Qq c.ks.length 0 Qw [] true
  [(nx,.cells 7 [gB c (nx+4)] true false),(nx+1,.cells 7 [zCf] true true),(nx+4,.cells 9 (c.ks.map eKd) true true)] (nx+20) Qq (λ_=>rfl) ⟨rfl,λi k h=>by simp at h⟩
  Qw (by simp (disch:=omega) [ltF,gtF]) (by simp (disch:=omega) [ltF,gtF])
 exact ⟨h',n',nx+4,cs',dt',nx+5,hL.trans r4,by omega,by omega,by omega,r2,rd,r1⟩
theorem qo (H:fU C) (c:Cf) (hl:c.ks.length<=10) (hp:∀ k ∈ c.ks,Sm k.p) (nx:Nat) :
 ∃ h1 n1 b cs dt lo,RnW C 5639 [.agg (eMo c)] [] nx=some (.agg (gB c b),h1,n1)/\nx<=b/\b < lo/\lo<=n1/\Pav.get h1 b=some (.cells 9 cs true dt)/\(dt=true->c.ks=[])/\bI h1 lo n1 cs c.ks:=by
 obtain ⟨L,hL⟩:∃ L,L=RnW C 5639 [.agg (eMo c)] [] nx:=⟨_,rfl⟩;rw [<- hL];obtain ⟨q1,n1,b,cs,dt,lo,r1,r2,r3,r4,r5,rd,r6⟩:=qG H c hl hp (nx+5);rw [aP (args:=[.agg (eMo c)]) H.qR rfl] at hL;simp only [eCf] at r1;simp only [eMo] at hL;simp (disch:=omega) [jO,r1,H.inl,inlB,H.pp,ppB,ltF,gtF,lFb,ay,ak,bH] at hL;refine ⟨_,_,b,cs,dt,lo,hL,by omega,r3,by omega,?_,rd,?_⟩
 ·rw [ak Qq];exact jY Qq r5
 ·exact (r6.ov Qq).mono (Nat.le_refl _) Qq (λx k1 k2=>ak Qq)
theorem Dt (H:fU C) (nx:Nat):∃ h1 n1 b,RnW C 5639 [.agg zMo] [] nx=some (.agg (gB ⟨0,0,0,[],true,0,0,0⟩ b),h1,n1):=by obtain ⟨L,hL⟩:∃ L,L=RnW C 5639 [.agg zMo] [] nx:=⟨_,rfl⟩;rw [<- hL];obtain ⟨q1,n1,b,cs,dt,lo,r1,r2,r3,r4,r5,rd,r6⟩:=qG H ⟨0,0,0,[],true,0,0,0⟩ Qw Qw (nx+5);rw [aP (args:=[.agg zMo]) H.qR rfl] at hL;simp [eCf] at r1;simp only [zMo] at hL;simp (disch:=omega) [jO,r1,H.inl,inlB,H.pp,ppB,ltF,gtF,lFb,ay,ak,bH] at hL;exact ⟨_,_,b,hL⟩
theorem mg {α β:Type} {f:α->Option β}:∀ (l:List α) (r:List β),l.length=r.length->(∀ (i:Nat) (x:α) (y:β),l[i]?=some x->r[i]?=some y->f x=some y)->mapO f l=some r
 | [],[],_,_=>rfl
 | x::l,y::r,h,hh=>by have h0:=hh 0 x y rfl rfl;have h1:=mg l r (by simpa using h) (λi a b p q=>hh (i+1) a b (by simpa using p) (by simpa using q));simp only [mapO,h0,h1,ob,om]
 | [],_::_,h,_=>by simp at h
 | _::_,[],h,_=>by simp at h
theorem qW {h:WHeap} {k:Kd} {b:Nat} (hg:Pav.get h b=some (rU k.p)) (n:Nat):mapO (frzW h (n+2)) (iQ k b)=some (eKd k.ow):=by have h1:List.take k.p.ch.length ((k.p.ch.map Pt.ow).map Pt.c)=(k.p.ch.map Pt.ow).map Pt.c:=List.take_of_length_le Qw;rw [qV];rw [List.map_map] at h1 |-;simp [mapO,hg,h1]
theorem bI.frz {h:WHeap} {lo hi:Nat} {cs:List (List AV)} {l:List Kd} {kb:Nat} {dt:Bool} (R:bI h lo hi cs l) (g:Pav.get h kb=some (.cells 9 cs true dt)) (hd:dt=true->l=[]) (n:Nat):frzW h (n+3) (.sl kb 9 0 l.length l.length true)=some (.ro 9 ((l.map Kd.ow).map eKd) true):=by
 have h1:cs.take l.length=cs:=List.take_of_length_le (by rw [R.len];exact Nat.le_refl _);have h2:mapO (mapO (frzW h (n+2))) cs=some ((l.map Kd.ow).map eKd):=by
  refine mg _ _ (by simp [R.len]) (λi c y hc hy=>?_);have hil:i < l.length:=by have:=(List.getElem?_eq_some_iff.1 hc).1;rw [<- R.len];exact this
  obtain ⟨b,_,_,k3,k4⟩:=R.row i l[i] (List.getElem?_eq_getElem hil);rw [hc] at k3;rw [Option.some.inj k3];have hy2:y=eKd l[i].ow:=by rw [List.getElem?_map,List.getElem?_map,List.getElem?_eq_getElem hil] at hy;exact (Option.some.inj hy).symm
  rw [hy2];exact qW k4 n
 have h3:(((l.map Kd.ow).map eKd).all λe=>e.all isC)=true:=by rw [List.all_eq_true];intro e he;obtain ⟨x,_,rfl⟩:=List.mem_map.1 he;simp only [eKd];rfl
 rw [frzW_sl,g];cases dt with
 | true =>have hl:=hd rfl;subst hl;have hcs:cs=[]:=List.length_eq_zero_iff.1 R.len;subst hcs;simp [Pw.frzS];try rfl
 | false =>simp only [Pw.frzS,List.drop_zero,h1,h2,ob,h3];simp [og]
structure gq (C:WProg):Prop extends fU C where
 Du:C.fns.get 631=some wF
theorem AO (H:gq C) (c:Cf) (hf:∀ k ∈ c.ks,aF k.p) (hn:c.ks.length<=9223372036854775807)
 (fin:∀ N:Nat,N<=1000->CK C 0 (pureFin [.tmp 2]) [] aJ ⟨[(3,.int .i64 N),(1,.ptr 0 0 0)],[(0,.cells 7 [eCf c] true true)],1⟩=some (.bool true)) :
 ∀ k i,k+i=11->∀ N:Nat,N<=81 * i->dK C ⟨[(4,.int .i64 i),(3,.int .i64 N),(1,.ptr 0 0 0)],[(0,.cells 7 [eCf c] true true)],1⟩=some (.bool true):=by
 intro k;induction k with
 | zero =>
  intro i hi N hN;have hfin:=fin N Qq;simp at hfin;simp only [dK];rw [ck_unf bV.eq_1];by_cases c1:i < c.ks.length
  ·have c2:¬ i < 11:=by omega
   simp (disch:=omega) [c1,c2,hfin]
  ·simp (disch:=omega) [c1,hfin]
 | succ k ih =>
  intro i hi N hN;by_cases c1:i < c.ks.length
  ·obtain ⟨n,n1,n2,hp⟩:=qY H.toqO c.ks[i].p (hf _ (List.getElem_mem c1)) 80 Qq;have hq:=ih (i+1) Qq (N+n) Qq;rw [Pt.aC] at hp;have c2:i < 11:=by omega
   simp only [dK] at hq |-;rw [ck_unf bV.eq_1];simp at hq hp;simp (disch:=omega) [c1,c2,hp,aj,H.inl,inlB,H.pp,ppB,hq]
  ·have hfin:=fin N Qq;simp at hfin;simp only [dK];rw [ck_unf bV.eq_1];simp (disch:=omega) [c1,hfin]
end Go.D
end
section
namespace Go.D
open Go Go.Pav Go.Pw P
attribute [-simp] List.getElem_cons_drop
variable {C:WProg}
def vF (h:WHeap) (b n:Nat):Prop:=∃ Z dt,Pav.get h b=some (.cells 6 Z true dt)/\Z.length=n/\∀ z ∈ Z,z.length=6
abbrev fP (k:Kd) (b:Nat):List AV:=[.int .u8 k.p.k,.str k.p.t,.str k.p.y,.ro 3 (k.p.s.map eSl) true,.str k.p.x,.sl b 6 0 k.p.ch.length k.p.ch.length true,.int .i64 0,.bool k.st,.int .i64 k.pl]
section
variable (H:gq C) (c:Cf) (kb tb:Nat)
theorem BR (k:Kd) (i b:Nat) (hl:k.p.ch.length<=16) (hi:i < c.ks.length) (hin:c.ks.length<=10) (cs:List (List AV)) (hcs:cs.length=c.ks.length) (hrow:cs[i]?=some (fP k b)) (e1:b≠kb) (e2:b≠tb) (e3:b≠0) (e4:b≠1) (dk d8:Bool) :
 ∀ m j,m+j=k.p.ch.length->∀ (h:WHeap) (next:Nat),Pav.get h tb=some (.cells 7 [gB c kb] true d8)->Pav.get h kb=some (.cells 9 cs true dk)->vF h b k.p.ch.length->b < next ->
 ∃ h' next',vF h' b k.p.ch.length/\(∀ x,x≠b->Pav.get h' x=Pav.get h x)/\next<=next' /\
  dA C ⟨[(10,.int .i64 j),(9,.int .i64 i),(8,.ptr tb 0 0),(6,.ptr 0 0 0),(1,.ptr 1 0 0)],h,next⟩=dn C ⟨[(9,.int .i64 (i+1:Nat)),(8,.ptr tb 0 0),(6,.ptr 0 0 0),(1,.ptr 1 0 0)],h',next'⟩:=by
 intro m;have hr:∀ h:i < cs.length,cs[i]=fP k b:=λh=>Option.some.inj ((List.getElem?_eq_getElem h).symm.trans hrow);induction m with
 | zero =>
  intro j hj h next g8 gk K hb
  have c1:¬ j < k.p.ch.length:=by omega
  obtain ⟨L,hL⟩:∃ L,L=dA C ⟨[(10,.int .i64 j),(9,.int .i64 i),(8,.ptr tb 0 0),(6,.ptr 0 0 0),(1,.ptr 1 0 0)],h,next⟩:=⟨_,rfl⟩;rw [<- hL];simp only [dA] at hL;rw [ck_unf dN.eq_1] at hL;simp (disch:=omega) [ck_unf iC.eq_1,c1,g8,gk,hrow,hr,hcs,hi,aj,ay,ak] at hL;refine ⟨h,next+13,K,λ_ _=>rfl,by omega,?_⟩;rw [show ((i+1:Nat):Int)=(i:Int)+1 by omega];exact hL
 | succ m ih =>
  intro j hj h next g8 gk K hb
  have c1:j < k.p.ch.length:=by omega
  obtain ⟨Z,dz,gb,z1,z2⟩:=K;have hz:∀ h:j < Z.length,(Z[j]).length=6:=λh=>z2 _ (List.getElem_mem h);have hzj:j < Z.length:=by omega
  obtain ⟨zj,hzq⟩:∃ zj,Z[j]?=some zj:=⟨_,List.getElem?_eq_getElem hzj⟩;have hzl:zj.length=6:=z2 _ (List.mem_of_getElem? hzq);obtain ⟨a0,a1,a2,a3,a4,a5,rfl⟩:∃ a0 a1 a2 a3 a4 a5,zj=[a0,a1,a2,a3,a4,a5]:=by
   match zj,hzl with
   | [a0,a1,a2,a3,a4,a5],_=>exact ⟨a0,a1,a2,a3,a4,a5,rfl⟩
  have hzg:∀ h:j < Z.length,Z[j]=[a0,a1,a2,a3,a4,a5]:=λh=>Option.some.inj ((List.getElem?_eq_getElem h).symm.trans hzq);obtain ⟨L,hL⟩:∃ L,L=dA C ⟨[(10,.int .i64 j),(9,.int .i64 i),(8,.ptr tb 0 0),(6,.ptr 0 0 0),(1,.ptr 1 0 0)],h,next⟩:=⟨_,rfl⟩;rw [<- hL];simp only [dA] at hL;rw [ck_unf dN.eq_1] at hL;simp (disch:=omega) [c1,g8,gk,gb,hrow,hr,hcs,hi,hzq,hzg,z1,aj,ay,ak] at hL;obtain ⟨h',n',k1,k2,k3,k4⟩:=ih (j+1) Qq (put h b (.cells 6 (Z.set j [.int .u8 0,a1,a2,a3,a4,a5]) true dz)) (next+24) (by rw [ak Qq];exact g8) (by rw [ak Qq];exact gk)
   ⟨_,_,ay ..,by simp [z1],λz hz2=>by
    rcases List.mem_or_eq_of_mem_set hz2 with q | q
    ·exact z2 z q
    ·subst q;rfl⟩ Qq
  rw [show ((j+1:Nat):Int)=(j:Int)+1 by omega] at k4;exact ⟨h',n',k1,λx hx=>by rw [k2 x hx,ak Qq],by omega,hL.trans k4⟩
structure yt (h:WHeap) (kb lo hi:Nat) (cs:List (List AV)) (l:List Kd) (i:Nat):Prop where
 len:cs.length=l.length
 row:∀ (j:Nat) (k:Kd),i<=j->l[j]?=some k->∃ b,lo<=b/\b < hi/\cs[j]?=some (iQ k b)/\vF h b k.p.ch.length
theorem bI.tld {h:WHeap} {kb lo hi:Nat} {cs:List (List AV)} {l:List Kd} (R:bI h lo hi cs l):yt h kb lo hi cs l 0 :=⟨R.len,λj k _ hj=>by obtain ⟨b,h1,h2,h3,h4⟩:=R.row j k hj;exact ⟨b,h1,h2,h3,_,_,h4,by simp,λz hz=>by obtain ⟨x,_,rfl⟩:=List.mem_map.1 hz;simp⟩⟩
theorem Aj (d:Cf) (hks:d.ks.length=c.ks.length) (hb:∀ (i:Nat) (x y:Kd),d.ks[i]?=some x->c.ks[i]?=some y->x.b=y.b/\x.p.t=y.p.t) (hch:∀ k ∈ d.ks,k.p.ch.length<=16) (hin:c.ks.length<=10) (lo:Nat) (hlo:kb < lo) (htb:tb < kb\/kb < tb) (ht0:tb≠0/\tb≠1) (hk0:kb≠0/\kb≠1) (hl2:2<=lo) (M:List AV)
 (fin:∀ (h:WHeap) (next:Nat),Pav.get h 0=some (.cells 18 [M] true true)->CK C 0 (pureFin [.tmp 2]) [] bM ⟨[(6,.ptr 0 0 0)],h,next⟩=some (.bool true)) (d8:Bool) :
 ∀ m i,m+i=c.ks.length->∀ (cs:List (List AV)) (dk:Bool) (h:WHeap) (next hi:Nat),yt h kb lo hi cs d.ks i->(tb < lo\/hi<=tb)->hi<=next ->
  Pav.get h 0=some (.cells 18 [M] true true)->Pav.get h 1=some (.cells 7 [eCf c] true true)->Pav.get h tb=some (.cells 7 [gB d kb] true d8)->Pav.get h kb=some (.cells 9 cs true dk) ->
  dn C ⟨[(9,.int .i64 i),(8,.ptr tb 0 0),(6,.ptr 0 0 0),(1,.ptr 1 0 0)],h,next⟩=some (.bool true):=by
 intro m;induction m with
 | zero =>
  intro i hi cs dk h next hh T l1 l2 g0 g1 g8 gk
  have c1:¬ i < d.ks.length:=by omega
  have hf:=fin h;simp only [dn];rw [ck_unf dO.eq_1];simp (disch:=omega) [c1,g0,g1,g8,gk,ay,ak];exact hf _ g0
 | succ m ih =>
  intro i hi cs dk h next hh T l1 l2 g0 g1 g8 gk
  have c0:i < c.ks.length:=by omega
  have c1:i < d.ks.length:=by omega
  obtain ⟨b,b1,b2,b3,b4⟩:=T.row i d.ks[i] (Nat.le_refl _) (List.getElem?_eq_getElem c1);have hcl:cs.length=d.ks.length:=T.len;have hr:∀ h:i < cs.length,cs[i]=iQ d.ks[i] b:=λh=>Option.some.inj ((List.getElem?_eq_getElem h).symm.trans b3);obtain ⟨hbb,hbt⟩:=hb i d.ks[i] c.ks[i] (List.getElem?_eq_getElem c1) (List.getElem?_eq_getElem c0);obtain ⟨L,hL⟩:∃ L,L=dn C ⟨[(9,.int .i64 i),(8,.ptr tb 0 0),(6,.ptr 0 0 0),(1,.ptr 1 0 0)],h,next⟩:=⟨_,rfl⟩;rw [<- hL];simp only [dn] at hL;rw [ck_unf dO.eq_1] at hL;simp (disch:=omega) [c0,c1,hks,hcl,g0,g1,g8,gk,b3,hr,hbb,hbt,aj,ay,ak,ltF,gtF] at hL;simp only [<- hbt] at hL;have hb0:b≠kb:=by omega
  have hbt2:b≠tb:=by omega
  have hki:vF (put h kb (.cells 9 (cs.set i (fP d.ks[i] b)) true dk)) b d.ks[i].p.ch.length:=by obtain ⟨Z,dz,z1,z2,z3⟩:=b4;exact ⟨Z,dz,by rw [ak Qq];exact z1,z2,z3⟩
  obtain ⟨h',n',k1,k2,k3,k4⟩:=BR (C:=C) d kb tb d.ks[i] i b (hch _ (List.getElem_mem c1)) c1 Qq (cs.set i (fP d.ks[i] b)) (by simp [hcl]) (by rw [List.getElem?_set_self Qq]) hb0 hbt2 Qq Qq dk d8 d.ks[i].p.ch.length 0 Qw (put h kb (.cells 9 (cs.set i (fP d.ks[i] b)) true dk)) (next+42) (by rw [ak Qq];exact g8) (ay ..) hki Qq;have T2:yt h' kb lo hh (cs.set i (fP d.ks[i] b)) d.ks (i+1):=by
   refine ⟨by simp [hcl],λj k hij hj=>?_⟩;obtain ⟨b',x1,x2,x3,x4⟩:=T.row j k Qq hj;refine ⟨b',x1,x2,by rw [List.getElem?_set_ne Qq];exact x3,?_⟩;by_cases q:b'=b
   ·subst q;obtain ⟨Z,dz,z1,z2,z3⟩:=x4;obtain ⟨Z2,dz2,y1,y2,y3⟩:=b4;rw [z1] at y1;simp only [Option.some.injEq,WObj.cells.injEq] at y1;rw [<- y1.2.1,z2] at y2;rw [y2];exact k1
   ·obtain ⟨Z,dz,z1,z2,z3⟩:=x4;exact ⟨Z,dz,by rw [k2 b' q,ak Qq];exact z1,z2,z3⟩
  have hq:=ih (i+1) Qq (cs.set i (fP d.ks[i] b)) dk h' n' hh T2 l1 Qq (by rw [k2 0 Qq,ak Qq];exact g0) (by rw [k2 1 Qq,ak Qq];exact g1) (by rw [k2 tb Qq,ak Qq];exact g8) (by rw [k2 kb Qq];exact ay ..);exact (hL.trans k4).trans hq
end
end Go.D
end
section
namespace Go.D
open Go Go.Pav Go.Pw P
attribute [-simp] List.getElem_cons_drop
variable {C:WProg}
theorem AX {p:Pt} (h:Sm p):Sm p.ow:=by
 induction h with
 | mk p h hm ih =>
  refine .mk _ ?_ ?_
  ·rw [Pt.bg];simpa using h
  ·rw [Pt.bg];intro m hm2;obtain ⟨x,hx,rfl⟩:=List.mem_map.1 hm2;exact ih x hx
theorem Sm.ch {p:Pt} (h:Sm p):p.ch.length<=16:=by cases h with | mk _ h _=>exact h.2
theorem yF (H:gq C) (hlives:FnW C 634 []=some (.bool true)) (c:Cf) (N:Nat) (hb:10 < c.ks.length\/80 < N) :
 CK C 0 (pureFin [.tmp 2]) [] aJ ⟨[(3,.int .i64 N),(1,.ptr 0 0 0)],[(0,.cells 7 [eCf c] true true)],1⟩=some (.bool true):=by
 by_cases a1:10 < c.ks.length
 ·have a2:(10:Int) < c.ks.length:=by omega
  simp [aJ,a1,a2,hlives,H.inl,inlB,H.pp,ppB]
 ·have a2:¬ (10:Int) < c.ks.length:=by omega
  have a3:(80:Int) < N:=by omega
  have a4:80 < N:=by omega
  simp [aJ,a1,a2,a3,a4,hlives,H.inl,inlB,H.pp,ppB]
theorem yg (H:gq C) (hlives:FnW C 634 []=some (.bool true)) (c:Cf) (h:bF c) (hc:ckB c=false) (N:Nat) (hN:N<=80) :
 CK C 0 (pureFin [.tmp 2]) [] aJ ⟨[(3,.int .i64 N),(1,.ptr 0 0 0)],[(0,.cells 7 [eCf c] true true)],1⟩=some (.bool true):=by
 have hn:=h.n;have a1:¬ 10 < c.ks.length:=by omega
 have a2:¬ (10:Int) < c.ks.length:=by omega
 have a3:¬ (80:Int) < N:=by omega
 have a4:¬ 80 < N:=by omega
 have h1:=fO H.toaU c h;have h2:=nZ H.tofZ c h hc;have h3:=bf H.toaU c h;have h4:=wL H.toxH;obtain ⟨q1,n1,b,h5⟩:=Dt H.tofU 10;rw [hc] at h1 h3;simp only [eCf,zMo] at h1 h2 h3 h4 h5;simp at h1 h3 h5;simp (disch:=omega) [aJ,a1,a2,a3,a4,h1,h2,h3,h4,h5,hlives,H.inl,inlB,H.pp,ppB,ay,ak,bH,ltF,gtF,lFb]
theorem ug (H:gq C) (R:iZ C) (hlives:FnW C 634 []=some (.bool true)) (c:Cf) (h:bF c) (hc:ckB c=true) (N:Nat) (hN:N<=80) :
 CK C 0 (pureFin [.tmp 2]) [] aJ ⟨[(3,.int .i64 N),(1,.ptr 0 0 0)],[(0,.cells 7 [eCf c] true true)],1⟩=some (.bool true):=by
 have hn:=h.n;have a1:¬ 10 < c.ks.length:=by omega
 have a2:¬ (10:Int) < c.ks.length:=by omega
 have a3:¬ (80:Int) < N:=by omega
 have a4:¬ 80 < N:=by omega
 have K:=jk h hc;have hsm:=xU K.f;have hsm2:∀ k ∈ c.ow.ks,Sm k.p:=λk hk=>by obtain ⟨x,hx,rfl⟩:=List.mem_map.1 hk;exact AX (hsm x hx)
 have hl2:c.ow.ks.length=c.ks.length:=by simp [Cf.ow]
 have h1:=fO H.toaU c h;have h2:=new_ok H.tofZ c h hc;have h3:=bf H.toaU c h;have h4:=uG H.tofZ c h hc;have h5:=rZ H.toxH c R h hc;have h7:=bf H.toaU c.ow.ow (jd (jd h));rw [lN,lN,hc] at h7;obtain ⟨q1,n1,b,cs,dt,lo,r1,r2,r3,r4,r5,rd,r6⟩:=qo H.tofU c.ow Qq hsm2 6;rw [hc] at h1 h3;have v1:c.ow.vw=c.vw:=rfl;have v2:c.ow.ov=c.ov:=rfl;have v3:c.ow.ls=c.ls:=rfl;have v4:c.ow.cap=c.cap:=rfl;have v5:c.ow.ar=c.ar:=rfl;have v6:c.ow.fl=c.fl:=rfl;have v7:c.ow.ke=true:=rfl;simp only [eCf,eMo,eRm,v1,v2,v3,v4,v5,v6,v7,hl2] at h1 h2 h3 h4 h5 h7 r1;simp at h1 h3 h7;obtain ⟨L,hL⟩:∃ L,L=CK C 0 (pureFin [.tmp 2]) [] aJ ⟨[(3,.int .i64 N),(1,.ptr 0 0 0)],[(0,.cells 7 [eCf c] true true)],1⟩:=⟨_,rfl⟩;rw [<- hL];simp (maxSteps:=1000000) (disch:=omega) [aJ,a1,a2,a3,a4,h1,h2,h3,h4,h5,r1,hlives,H.inl,inlB,H.pp,ppB,ay,ak,bH,ltF,gtF,lFb] at hL;rw [if_pos hl2,if_pos v1,if_pos v5,if_pos v6] at hL;obtain ⟨M,hM⟩:∃ M:List AV,M=[.bool true,.int .i64 c.vw,.int .i64 c.ov,.int .i64 c.ls,.ro 9 (c.ow.ks.map eKd) true,.int .i64 c.cap,.int .i64 c.ar,.int .u8 c.fl,.ro 6 [] true,.int .i64 c.vw,.int .i64 0,.ro 8 [] true,.ro 1 (nP c.ks.length) true,.int .i64 0,.int .i64 0,.int .i64 0,.int .i64 0,.int .i64 1]:=⟨_,rfl⟩;rw [<- hM] at hL;have fin:∀ (h:WHeap) (next:Nat),Pav.get h 0=some (.cells 18 [M] true true)->CK C 0 (pureFin [.tmp 2]) [] bM ⟨[(6,.ptr 0 0 0)],h,next⟩=some (.bool true):=by
  intro h next g0
  obtain ⟨q2,n2,b2,cs2,dt2,lo2,x1,x2,x3,x4,x5,xd,x6⟩:=qo H.tofU c.ow Qq hsm2 (next+2);have fz:=((x6.ov (X:=h) (n:=next+2) Qq).frz (jY (h:=h) (n:=next+2) Qq x5) xd 12);simp only [eMo,gB,v1,v2,v3,v4,v5,v6,v7,hl2] at x1;rw [hM] at g0;rw [hl2] at fz;have h7':FnW C 637 [.agg [.int .i64 c.vw,.int .i64 c.ov,.int .i64 c.ls,.ro 9 ((c.ow.ks.map Kd.ow).map eKd) true,.int .i64 c.cap,.int .i64 c.ar,.int .u8 c.fl]]=some (.int .i64 0):=h7;generalize (c.ow.ks.map Kd.ow).map eKd=KS at *;simp (disch:=omega) [-frzW_sl,bM,g0,x1,fz,h7',hl2,hlives,H.inl,inlB,H.pp,ppB,ay,ak,bH,ltF,gtF,lFb]
 obtain ⟨X,hX⟩:∃ X:WHeap,X=[(0,.cells 18 [M] true true),(1,.cells 7 [eCf c] true true)]:=⟨_,rfl⟩;have hX0:Pav.get X 0=some (.cells 18 [M] true true):=by rw [hX];rfl
 have hX1:Pav.get X 1=some (.cells 7 [eCf c] true true):=by rw [hX];rfl
 simp only [eCf] at hX;rw [<- hX] at hL;have hT:=(r6.ov (X:=X) (n:=6) Qq).mono (h':=put (put (over 6 q1 X) n1 (.cells 7 [zCf] true true)) n1 (.cells 7 [gB c.ow b] true false)) (Nat.le_refl _) (Nat.le_refl _) (λx k1 k2=>by rw [ak Qq,ak Qq]);have hq:=Aj (C:=C) c b n1 c.ow hl2 (λi x y hx hy=>by
  have hx:(c.ks.map Kd.ow)[i]?=some x:=hx;rw [List.getElem?_map,hy] at hx;obtain rfl:=Option.some.inj hx;exact ⟨rfl,by simp [Kd.ow,Pt.bg]⟩) (λk hk=>(hsm2 k hk).ch) hn lo Qq Qq Qq Qq Qq
  M fin false c.ks.length 0 Qw cs dt _ (n1+1+1+35+1) n1 (hT.tld) (.inr (Nat.le_refl _)) Qq
  (by rw [ak Qq,ak Qq,bH Qq];exact hX0) (by rw [ak Qq,ak Qq,bH Qq];exact hX1) (ay ..) (by rw [ak Qq,ak Qq];exact jY Qq r5)
 exact hL.trans hq
theorem sS (H:gq C) (R:iZ C) (hlives:FnW C 634 []=some (.bool true)) (c:Cf) (hf:∀ k ∈ c.ks,aF k.p) (hn:c.ks.length<=9223372036854775807):FnW C 631 [.agg (eCf c)]=some (.bool true):=by
 have hfin:∀ N:Nat,N<=1000->CK C 0 (pureFin [.tmp 2]) [] aJ ⟨[(3,.int .i64 N),(1,.ptr 0 0 0)],[(0,.cells 7 [eCf c] true true)],1⟩=some (.bool true):=by
  intro N _;by_cases hb:10 < c.ks.length\/80 < N
  ·exact yF H hlives c N hb
  ·have hk:bF c:=⟨⟨by omega,hf⟩,by omega⟩;cases hc:ckB c
   ·exact yg H hlives c hk hc N Qq
   ·exact ug H R hlives c hk hc N Qq
 have h:=AO H c hf hn hfin 11 0 rfl 0 Qq;simp only [dK] at h;simp at h;rw [fnW_eq H.Du rfl];simp [wF,h]
end Go.D
end
