/- Part of the theory that the claims of this work use: E03, E04, E06, E08, G01, E12, E13, E07, E09, D46, E15, E16, E10, E11, D30, D31, D38, D40, D47, D48, D49, E17, E18, E19, E31, E32. No conditions of its own. -/
import Derived.Test.YtcekmcchienbfaaGreatT6
set_option linter.unusedVariables false
set_option linter.unusedSimpArgs false
set_option maxHeartbeats 4000000
set_option maxRecDepth 10000
section
namespace Go.D
open Go Go.Pav Go.Pw P
attribute [-simp] List.getElem_cons_drop
variable {C:WProg}
theorem tops_ok (H:HasSz C) (l:List En) (e:Bool) (hz:Szd l):FnW C 246 [aL l e]=some (.tup [.ro 1 ((tps l).map eI) true,.int .i64 0]):=by
 have hn:=hz.n
 have h1:=sized_ok H l e (by omega) (fun x hx=>by have:=hz.s x hx;omega)
 rw [szE_of hz] at h1
 have h:=tops_loop H l e hz l.length 0 (by simp) [0] (by simp [top_0]) rfl
 have h2:(l.length+1) * 9≤35184372088832:=by omega
 have h3:(l.length:Int)+1=((l.length+1:Nat):Int):=by omega
 rw [fnW_eq H.f246 rfl]
 simp only [w246_K0] at h
 simp at h
 simp (disch:=omega) [w246,h1,h2,wI64,List.replicate_succ,h,H.inl,inlB,H.pp,ppB]
theorem tops_bad (H:HasSz C) (l:List En) (e:Bool) (hl:l.length≤1000000) (hs:SzB l) (hz:szE l≠0):FnW C 246 [aL l e]=some (.tup [.ro 1 [] true,.int .i64 (szE l)]):=by
 have h1:=sized_ok H l e hl hs
 rw [fnW_eq H.f246 rfl]
 generalize szE l=E at *
 simp (disch:=omega) [w246,h1,hz,H.inl,inlB,H.pp,ppB]
theorem ftest_ok (H:HasSz C) (l:List En) (x:Int) (k:Nat) (hk:k < l.length) (hn:l.length≤1024) :
 FnW C 412 [.int .i64 k,.rop [.ro 1 ((tps l).map eI) true],.rop [.int .i64 x]]=some (.bool (decide (x < top l (k+1)))):=by
 have h1:k+1 < (tps l).length:=by rw [tps_len];omega
 have h2:=tps_get l h1
 rw [fnW_eq H.f412 rfl]
 simp (disch:=omega) [w412,wI64,h1,h2]
theorem search_loop (H:HasSz C) (l:List En) (x:Int) (hz:Szd l) (p:Nat) (hp:p < l.length) (hp1:top l p≤x) (hp2:x < top l (p+1)):∀ (n i j:Nat),j - i≤n→i≤p→p≤j→j≤l.length →
 w411_K0 C ⟨[(6,.int .i64 j),(5,.int .i64 i),(1,.fn 412 [.rop [.ro 1 ((tps l).map eI) true],.rop [.int .i64 x]])],[],0⟩=some (.int .i64 p):=by
 intro n
 induction n with
 | zero =>
  intro i j h1 h2 h3 h4
  have h5:i=p:=by omega
  have h6:j=p:=by omega
  subst h5
  subst h6
  simp only [w411_K0];rw [ck_unf w411_B0.eq_1]
  simp (disch:=omega) [ck_unf w411_c0.eq_1]
 | succ n ih =>
  intro i j h1 h2 h3 h4
  have hn:=hz.n
  by_cases c:i < j
  · obtain ⟨m,hm⟩:∃ m,m=(i+j) / 2:=⟨_,rfl⟩
    have hk:m < l.length:=by omega
    have hf:=ftest_ok H l x m hk hn
    have hw:IntKind.i64.wrap ((IntKind.u64.wrap ((i:Int)+j)).fdiv (2 ^ min 1 IntKind.u64.bits))=m:=by
     have e1:(2:Int) ^ min 1 IntKind.u64.bits=2:=by decide
     rw [wU64 (by omega) (by omega),e1,Int.fdiv_eq_ediv_of_nonneg _ (by omega)]
     have e2:((i:Int)+j) / 2=m:=by omega
     rw [e2,wI64 (by omega) (by omega)]
    by_cases c2:x < top l (m+1)
    · have h7:p≤m:=by
       by_cases d:p≤m
       · exact d
       · have:=hz.mono (i:=m+1) (j:=p) (by omega) (by omega);omega
      have this:=ih i m (by omega) h2 h7 (by omega)
      rw [decide_eq_true c2] at hf
      simp only [w411_K0] at this ⊢;rw [ck_unf w411_B0.eq_1]
      try simp at this
      simp (disch:=omega) [c,wI64,hw,hf,this,H.inl,inlB,H.pp,ppB]
    · have h7:m+1≤p:=by
       by_cases d:m+1≤p
       · exact d
       · have:=hz.mono (i:=p+1) (j:=m+1) (by omega) (by omega);omega
      have this:=ih (m+1) j (by omega) h7 h3 h4
      rw [decide_eq_false c2] at hf
      simp only [w411_K0] at this ⊢;rw [ck_unf w411_B0.eq_1]
      try simp at this
      simp (disch:=omega) [c,wI64,hw,hf,this,H.inl,inlB,H.pp,ppB]
  · have h5:i=p:=by omega
    have h6:j=p:=by omega
    subst h5
    subst h6
    simp only [w411_K0];rw [ck_unf w411_B0.eq_1]
    simp (disch:=omega) [ck_unf w411_c0.eq_1]
theorem findT_ok (H:HasSz C) (l:List En) (x:Int) (hz:Szd l) (p:Nat) (hp:p < l.length) (hp1:top l p≤x) (hp2:x < top l (p+1)):FnW C 247 [.ro 1 ((tps l).map eI) true,.int .i64 x]=some (.int .i64 p):=by
 have hn:=hz.n
 have h:=search_loop H l x hz p hp hp1 hp2 l.length 0 l.length (by omega) (by omega) (by omega) (by omega)
 have key:FnW C 411 [.int .i64 l.length,.fn 412 [.rop [.ro 1 ((tps l).map eI) true],.rop [.int .i64 x]]]=some (.int .i64 p):=by
  rw [fnW_eq H.f411 rfl]
  simp only [w411_K0] at h
  simp at h
  simp [w411,h]
 have h3:((l.length:Int)+1) - 1=l.length:=by omega
 rw [fnW_eq H.f247 rfl]
 simp (disch:=omega) [w247,tps_len,wI64,h3,key,H.inl,inlB,H.pp,ppB]
theorem tps_last (l:List En) (h:l.length < (tps l).length):(tps l)[l.length]=sm l:=by
 rw [tps_get,top_len]
def atR (l:List En) (x:Int):AV:=if szE l≠0 then .tup [.int .i64 0,.int .i64 (szE l)] else if x < 0∨sm l≤x then .tup [.int .i64 0,.int .i64 4] else .tup [.int .i64 (rowA l x),.int .i64 0]
theorem at_ok (H:HasSz C) (l:List En) (e:Bool) (hl:l.length≤1000000) (hs:SzB l) (x:Int):FnW C 120 [aL l e,.int .i64 x]=some (atR l x):=by
 unfold atR
 by_cases hz0:szE l=0
 · rw [if_neg (by simpa using hz0)]
   have hz:=szd_of hz0
   have hn:=hz.n
   have h1:=tops_ok H l e hz
   have h3:((l.length:Int)+1) - 1=l.length:=by omega
   have h4:=tps_last l
   have h5':l.length < (tps l).length:=by rw [tps_len];omega
   have h5:l.length < (tps l).length:=by rw [tps_len];omega
   rw [fnW_eq H.f120 rfl]
   by_cases c1:x < 0
   · rw [if_pos (.inl c1)]
     simp (disch:=omega) [w120,h1,c1,H.inl,inlB,H.pp,ppB]
   · by_cases c2:sm l≤x
     · rw [if_pos (.inr c2)]
       simp (disch:=omega) [w120,h1,c1,c2,tps_len,h3,h4,h5',wI64,H.inl,inlB,H.pp,ppB]
     · rw [if_neg (by omega)]
       obtain ⟨p,p1,p2,p3⟩:=hz.row (by omega:0≤x) (by omega)
       have h6:=findT_ok H l x hz p p1 p2 p3
       rw [hz.rowA_eq p1 p2 p3]
       simp (disch:=omega) [w120,h1,c1,c2,tps_len,h3,h4,h5',h6,wI64,H.inl,inlB,H.pp,ppB]
 · rw [if_pos hz0]
   have h1:=tops_bad H l e hl hs hz0
   rw [fnW_eq H.f120 rfl]
   generalize szE l=E at *
   simp (disch:=omega) [w120,h1,hz0,H.inl,inlB,H.pp,ppB]
theorem viewport_ok (H:HasSz C) (l:List En) (e:Bool) (hl:l.length≤1000000) (hs:SzB l) (o v:Int) (ho:-9223372036854775808≤o∧o≤9223372036854775807) (hv:-9223372036854775808≤v∧v≤9223372036854775807) :
 FnW C 248 [aL l e,.int .i64 o,.int .i64 v]=some (.int .i64 (vpE l o v)):=by
 have h1:=sized_ok H l e hl hs
 rw [fnW_eq H.f248 rfl]
 unfold vpE
 by_cases hz0:szE l=0
 · rw [hz0] at h1 ⊢
   have hz:=szd_of hz0
   have h2:=totW_ok H.toHasL l e hl hs
   have h3:=hz.nn
   have h4:=hz.t
   rw [hz.tot] at h2
   rw [if_neg (by simp)]
   by_cases c1:v < 1
   · simp (disch:=omega) [w248,h1,c1,H.inl,inlB,H.pp,ppB]
   · by_cases c2:2147483648 < v
     · simp (disch:=omega) [w248,h1,c1,c2,H.inl,inlB,H.pp,ppB]
     · rw [if_neg (by omega)]
       by_cases c3:o < 0
       · simp (disch:=omega) [w248,h1,c1,c2,c3,H.inl,inlB,H.pp,ppB]
       · have h5:(if v < sm l then sm l - v else 0)=mostS l v:=by unfold mostS;split <;> split <;> omega
         by_cases c4:mostS l v < o
         · simp (disch:=omega) [w248,h1,c1,c2,c3,c4,h2,h5,wI64,imax,H.inl,inlB,H.pp,ppB]
         · simp (disch:=omega) [w248,h1,c1,c2,c3,c4,h2,h5,wI64,imax,H.inl,inlB,H.pp,ppB]
 · rw [if_pos hz0]
   generalize szE l=E at *
   simp (disch:=omega) [w248,h1,hz0,H.inl,inlB,H.pp,ppB]
theorem visible_ok (H:HasSz C) (l:List En) (e:Bool) (hl:l.length≤1000000) (hs:SzB l) (o v:Int) (ho:-9223372036854775808≤o∧o≤9223372036854775807) (hv:-9223372036854775808≤v∧v≤9223372036854775807) :
 FnW C 121 [aL l e,.int .i64 o,.int .i64 v]=some (if vpE l o v≠0 then .tup [.int .i64 0,.int .i64 0,.int .i64 (vpE l o v)] else .tup [.int .i64 (visF l o v),.int .i64 (visT l o v),.int .i64 0]):=by
 have h1:=viewport_ok H l e hl hs o v ho hv
 rw [fnW_eq H.f121 rfl]
 by_cases c0:vpE l o v=0
 · rw [if_neg (by simpa using c0)]
   have hp:=vp_of c0
   have hn:=hp.n
   rw [c0] at h1
   have h2:=tops_ok H l e hp.toSzd
   have h4:=tps_last l
   have h5':l.length < (tps l).length:=by rw [tps_len];omega
   have h3:((l.length:Int)+1) - 1=l.length:=by omega
   have hv0:=hp.v0
   have hs0:=hp.s0
   have ht:=hp.t
   have hnn:=hp.nn
   unfold visF visT
   by_cases c1:l.length=0
   · simp (disch:=omega) [w121,h1,h2,c1,tps_len,wI64,H.inl,inlB,H.pp,ppB]
   · rw [if_neg c1,if_neg c1]
     obtain ⟨p,q,p1,q1,hpq,a,b⟩:=hp.ends (by omega)
     have hm:imin (o+v) (sm l)≤sm l:=by unfold imin;split <;> omega
     have hlo:mostS l v≤sm l:=by unfold mostS;split <;> omega
     have h5:=findT_ok H l o hp.toSzd p p1 a.1 a.2
     have h6:=findT_ok H l _ hp.toSzd q q1 b.1 b.2
     have hq:=hp.rng q
     rw [hp.rowA_eq p1 a.1 a.2,hp.rowA_eq q1 b.1 b.2]
     have c1':¬ ((l.length:Int)+1=1):=by omega
     generalize hM:imin (o+v) (sm l)=M at *
     simp (disch:=omega) [w121,h1,h2,c1',tps_len,h3,h4,h5',h5,h6,hM,wI64,H.inl,inlB,H.pp,ppB]
 · rw [if_pos c0]
   generalize vpE l o v=E at *
   simp (disch:=omega) [w121,h1,c0,H.inl,inlB,H.pp,ppB]
theorem rtop_loop (H:HasSz C) (l:List En) (e:Bool) (hz:Szd l) (j:Nat) (hj:j≤l.length):∀ n i,n+i=j →
 w253_K0 C ⟨[(6,.int .i64 i),(5,.int .i64 (top l i)),(1,.int .i64 j),(0,.ro 6 (l.map eEn) e)],[],0⟩=some (.int .i64 (top l j)):=by
 intro n
 induction n with
 | zero =>
  intro i hi
  have h1:i=j:=by omega
  subst h1
  simp only [w253_K0];rw [ck_unf w253_B0.eq_1]
  simp (disch:=omega) [ck_unf w253_c0.eq_1]
 | succ n ih =>
  intro i hi
  have h1:i < l.length:=by omega
  have h2:i < j:=by omega
  have hn:=hz.n
  have hr:=hz.small (i+1)
  have this:=ih (i+1) (by omega)
  rw [top_succ h1] at this hr
  simp only [w253_K0] at this ⊢;rw [ck_unf w253_B0.eq_1]
  simp at this
  simp (disch:=omega) [h1,h2,wI64,this]
theorem rtop_ok (H:HasSz C) (l:List En) (e:Bool) (hz:Szd l) (j:Nat) (hj:j≤l.length):FnW C 253 [.ro 6 (l.map eEn) e,.int .i64 j]=some (.int .i64 (top l j)):=by
 have h:=rtop_loop H l e hz j hj j 0 (by simp)
 rw [top_0] at h
 rw [fnW_eq H.f253 rfl]
 simp only [w253_K0] at h
 try simp at h
 simp [w253,h]
theorem rtop_ok1 (H:HasSz C) (l:List En) (e:Bool) (hz:Szd l) (j:Nat) (hj:j < l.length):FnW C 253 [.ro 6 (l.map eEn) e,.int .i64 ((j:Int)+1)]=some (.int .i64 (top l (j+1))):=rtop_ok H l e hz (j+1) hj
theorem rmost_ok (H:HasSz C) (l:List En) (e:Bool) (hz:Szd l) (v:Int) (hv:-9223372036854775808≤sm l - v∧sm l - v≤9223372036854775807):FnW C 327 [.ro 6 (l.map eEn) e,.int .i64 v]=some (.int .i64 (mostS l v)):=by
 have h:=rtop_ok H l e hz l.length (Nat.le_refl _)
 rw [top_len] at h
 rw [fnW_eq H.f327 rfl]
 unfold mostS
 by_cases c:sm l < v
 · simp (disch:=omega) [w327,h,c,wI64,H.inl,inlB,H.pp,ppB]
 · simp (disch:=omega) [w327,h,c,wI64,H.inl,inlB,H.pp,ppB]
theorem rviewport_ok (H:HasSz C) (l:List En) (e:Bool) (hl:l.length≤1000000) (hs:SzB l) (o v:Int) (ho:-9223372036854775808≤o∧o≤9223372036854775807) (hv:-9223372036854775808≤v∧v≤9223372036854775807) :
 FnW C 252 [.ro 6 (l.map eEn) e,.int .i64 o,.int .i64 v]=some (.int .i64 (vpE l o v)):=by
 have h1:=rsized_ok H l e hl hs
 rw [fnW_eq H.f252 rfl]
 unfold vpE
 by_cases hz0:szE l=0
 · rw [hz0] at h1 ⊢
   have hz:=szd_of hz0
   have h3:=hz.nn
   have h4:=hz.t
   rw [if_neg (by simp)]
   by_cases c1:v < 1
   · simp (disch:=omega) [w252,h1,c1,H.inl,inlB,H.pp,ppB]
   · by_cases c2:2147483648 < v
     · simp (disch:=omega) [w252,h1,c1,c2,H.inl,inlB,H.pp,ppB]
     · rw [if_neg (by omega)]
       have h2:=rmost_ok H l e hz v (by omega)
       by_cases c3:o < 0
       · simp (disch:=omega) [w252,h1,c1,c2,c3,H.inl,inlB,H.pp,ppB]
       · by_cases c4:mostS l v < o
         · simp (disch:=omega) [w252,h1,c1,c2,c3,c4,h2,wI64,H.inl,inlB,H.pp,ppB]
         · simp (disch:=omega) [w252,h1,c1,c2,c3,c4,h2,wI64,H.inl,inlB,H.pp,ppB]
 · rw [if_pos hz0]
   have hp:0 < szE l:=by
    have:0≤szE l:=by unfold szE ovE;repeat (first | omega | split)
    omega
   generalize szE l=E at *
   simp (disch:=omega) [w252,h1,hz0,hp,H.inl,inlB,H.pp,ppB]
theorem rseen_ok (H:HasSz C) (l:List En) (e:Bool) (o v:Int) (hp:Vp l o v) (i:Nat) (hi:i < l.length):FnW C 272 [.ro 6 (l.map eEn) e,.int .i64 o,.int .i64 v,.int .i64 i]=some (.int .i64 (if top l i < o+v∧o < top l (i+1) then 1 else 0)):=by
 have hn:=hp.n
 have hv:=hp.v0
 have ho:=hp.s0
 have ht:=hp.t
 have hnn:=hp.nn
 have hlo:mostS l v≤sm l:=by unfold mostS;split <;> omega
 have q1:=rtop_ok H l e hp.toSzd i (by omega)
 have q2:=rtop_ok1 H l e hp.toSzd i hi
 rw [fnW_eq H.f272 rfl]
 by_cases c1:top l i < o+v
 · by_cases c2:o < top l (i+1)
   · rw [if_pos ⟨c1,c2⟩]
     simp (disch:=omega) [w272,q1,q2,c1,c2,wI64,H.inl,inlB,H.pp,ppB]
   · rw [if_neg (fun q=>c2 q.2)]
     simp (disch:=omega) [w272,q1,q2,c1,c2,wI64,H.inl,inlB,H.pp,ppB]
 · rw [if_neg (fun q=>c1 q.1)]
   simp (disch:=omega) [w272,q1,q2,c1,wI64,H.inl,inlB,H.pp,ppB]
structure HasWn (C:WProg):Prop extends HasS C where
 f274:C.fns.get 274=some w274
def bdBad (v least over:Int):Prop:=v < 1∨2147483648 < v∨least < 1∨2305843009213693952 < least∨over < 0∨16 < over
instance (v least over:Int):Decidable (bdBad v least over):=by unfold bdBad;infer_instance
def risB:Int→List Int→Bool
 | _,[]=>true
 | p,x::r=>decide (p < x)&&risB x r
theorem exact_ok (H:HasWn C) (a:List Int) (e:Bool) (hl:a.length≤1000000):FnW C 274 [.ro 1 (a.map eI) e]=some (.ro 1 (a.map eI) true):=by
 rw [fnW_eq H.f274 rfl]
 by_cases c:a=[]
 · subst c;simp [w274]
 · have h2:a.length * 9≤35184372088832:=by omega
   have hT:List.take a.length (List.map eI a)=List.map eI a:=List.take_of_length_le (by simp)
   simp (disch:=omega) [w274,c,h2,isE,hT]
structure HasAt (C:WProg):Prop extends HasSz C,HasWn C,HasG C where
 f132:C.fns.get 132=some w132
 f273:C.fns.get 273=some w273
 f256:C.fns.get 256=some w256
def wF (l:List En) (o v k:Int):Int:=imax 0 (visF l o v - k)
def wT (l:List En) (o v k:Int):Int:=imin l.length (visT l o v+k)
theorem Vp.vis {l:List En} {o v:Int} (h:Vp l o v):(l.length=0∧visF l o v=0∧visT l o v=0)∨(∃ p q:Nat,p < l.length∧q < l.length∧p≤q∧visF l o v=p∧visT l o v=(q:Int)+1∧(top l p≤o∧o < top l (p+1)) ∧
 ∀ i,i < l.length→((top l i < o+v∧o < top l (i+1))↔(p≤i∧i≤q))):=by
 by_cases c:l.length=0
 · left;exact ⟨c,by unfold visF;rw [if_pos c],by unfold visT;rw [if_pos c]⟩
 · right
   obtain ⟨p,q,p1,q1,hpq,a,b⟩:=h.ends (by omega)
   refine ⟨p,q,p1,q1,hpq,?_,?_,a,fun i hi=>h.seen p1 q1 a b hi⟩
   · unfold visF;rw [if_neg c,h.rowA_eq p1 a.1 a.2]
   · unfold visT;rw [if_neg c,h.rowA_eq q1 b.1 b.2]
theorem window_ok (H:HasAt C) (l:List En) (e:Bool) (o v k:Int) (hp:Vp l o v) (hk:0≤k∧k≤16):FnW C 132 [aL l e,.int .i64 o,.int .i64 v,.int .i64 k]=some (.tup [.agg [.int .i64 (wF l o v k),.int .i64 (wT l o v k)],.int .i64 0]):=by
 have hn:=hp.n
 have hv:=hp.v0
 have ho:=hp.s0
 have ht:=hp.t
 have hlo:mostS l v≤4611686018427387904:=by unfold mostS;split <;> omega
 have h1:=visible_ok H.toHasSz l e (by omega) (fun x hx=>by have:=hp.s x hx;omega) o v (by omega) (by omega)
 rw [vpE_of hp,if_neg (by simp)] at h1
 have c1:¬ k < 0:=by omega
 have c2:¬ 16 < k:=by omega
 rw [fnW_eq H.f132 rfl]
 unfold wF wT
 rcases hp.vis with ⟨a,b,c⟩ | ⟨p,q,p1,q1,hpq,a,b,_⟩
 · rw [b,c] at h1
   rw [b,c]
   have e1:imax 0 (0 - k)=0:=by unfold imax;split <;> omega
   have e2:imin (l.length:Int) (0+k)=0:=by unfold imin;split <;> omega
   rw [e1,e2]
   simp (disch:=omega) [w132,h1,c1,c2,H.inl,inlB,H.pp,ppB]
 · rw [a,b] at h1
   rw [a,b]
   have c3:¬ (q:Int)+1=0:=by omega
   simp (disch:=omega) [w132,h1,c1,c2,c3,wI64,H.inl,inlB,H.pp,ppB]
def hdF (ks:List Kd) (l:List En) (o:Int):Nat→Nat→Int→Int
 | 0,_,a=>a
 | n+1,i,a=>if o < top l i then a else hdF ks l o n (i+1) (match l[i]? with | some x=>if (kdAt ks x.i.t).st=true then (i:Int) else a | none=>a)
def hdA (ks:List Kd) (l:List En) (o:Int):Int:=hdF ks l o l.length 0 (-1)
theorem hdF_bd (ks:List Kd) (l:List En) (hz:Szd l) (o:Int) (p:Nat) (hp:top l p≤o∧o < top l (p+1)) (hpl:p < l.length):∀ (n i:Nat) (a:Int),n+i=l.length→-1≤a∧a≤p→-1≤hdF ks l o n i a∧hdF ks l o n i a≤p:=by
 intro n
 induction n with
 | zero=>intro i a _ h;exact h
 | succ n ih =>
  intro i a hi h
  rw [hdF]
  by_cases c:o < top l i
  · rw [if_pos c];exact h
  · rw [if_neg c]
    refine ih (i+1) _ (by omega) ?_
    have hip:i≤p:=by
     by_cases d:i≤p
     · exact d
     · have:=hz.mono (i:=p+1) (j:=i) (by omega) (by omega);omega
    split
    · split <;> omega
    · exact h
theorem whead_loop (H:HasAt C) (ks:List Kd) (ke:Bool) (cap:Int) (l:List En) (e:Bool) (o:Int) (hz:Szd l) (ht:∀ x ∈ l,0≤x.i.t∧x.i.t < ks.length):∀ n i,n+i=l.length→∀ a:Int,
 w273_K0 C ⟨[(20,.int .i64 i),(19,.int .i64 l.length),(18,.ro 6 (l.map eEn) e),(9,.int .i64 a),(7,.ro 1 ((tps l).map eI) true),(3,.ptr 0 0 0),(2,.int .i64 o)],[(0,.cells 2 [[.ro 9 (ks.map eKd) ke,.int .i64 cap]] true true)],1⟩=some (.int .i64 (hdF ks l o n i a)):=by
 intro n
 induction n with
 | zero =>
  intro i hi a
  have h3:¬ i < l.length:=by omega
  simp only [w273_K0];rw [ck_unf w273_B0.eq_1]
  simp (disch:=omega) [ck_unf w273_c0.eq_1,h3,hdF]
 | succ n ih =>
  intro i hi a
  have h1:i < l.length:=by omega
  have hn:=hz.n
  have h2:i < (tps l).length:=by rw [tps_len];omega
  have q2:=tps_get l h2
  have hx:=ht _ (List.getElem_mem h1)
  obtain ⟨t,hT⟩:∃ t:Nat,l[i].i.t=t:=⟨l[i].i.t.toNat,by omega⟩
  have h4:t < ks.length:=by omega
  rw [hdF,List.getElem?_eq_getElem h1]
  simp only [hT,kdAt_get h4]
  by_cases c1:o < top l i
  · rw [if_pos c1]
    simp only [w273_K0];rw [ck_unf w273_B0.eq_1]
    simp (disch:=omega) [ck_unf w273_c0.eq_1,h1,h2,q2,c1,wI64]
  · rw [if_neg c1]
    cases c2:ks[t].st
    · have this:=ih (i+1) (by omega) a
      rw [if_neg (by simp)]
      generalize hdF ks l o n (i+1) a=R at *
      simp only [w273_K0] at this ⊢;rw [ck_unf w273_B0.eq_1]
      simp at this
      simp (disch:=omega) [h1,h2,q2,c1,hT,h4,c2,wI64,this]
    · have this:=ih (i+1) (by omega) i
      rw [if_pos rfl]
      generalize hdF ks l o n (i+1) i=R at *
      simp only [w273_K0] at this ⊢;rw [ck_unf w273_B0.eq_1]
      simp at this
      simp (disch:=omega) [h1,h2,q2,c1,hT,h4,c2,wI64,this]
theorem whead_ok (H:HasAt C) (ks:List Kd) (ke:Bool) (cap:Int) (l:List En) (e:Bool) (o:Int) (hz:Szd l) (ht:∀ x ∈ l,0≤x.i.t∧x.i.t < ks.length):FnW C 273 [aR ks ke cap,aL l e,.int .i64 o]=some (.int .i64 (hdA ks l o)):=by
 have hn:=hz.n
 have h:=whead_loop H ks ke cap l e o hz ht l.length 0 (by simp) (-1)
 have h1:=tops_ok H.toHasSz l e hz
 rw [fnW_eq H.f273 rfl]
 unfold hdA
 generalize hdF ks l o l.length 0 (-1)=R at *
 simp only [w273_K0] at h
 try simp at h
 simp [w273,h1,h,H.inl,inlB,H.pp,ppB]
def seqI (a n:Nat):List Int:=(List.range n).map fun i=>((a+i:Nat):Int)
theorem seqI_len (a n:Nat):(seqI a n).length=n:=by simp [seqI]
end Go.D
end
section
namespace Go.Proofs.YtcekmcchienbfaaGreat
open Go.ChangeShapes Go.WideShapes Go.ChangeAt Go.RowKit Go.Pav Go.Pw P Go.D
theorem has_:HasG prog:={ f561:=rfl,f517:=rfl,f557:=rfl,f556:=rfl,f511:=rfl,f510:=rfl,f560:=rfl,f545:=rfl,f578:=rfl,f543:=rfl,f495:=rfl,f516:=rfl,f500:=rfl,inl:=rfl,pp:=rfl,f434:=rfl,f519:=rfl,f518:=rfl,f562:=rfl,f433:=rfl,f282:=rfl,f140:=rfl,f439:=rfl,f581:=rfl,f579:=rfl,f585:=rfl,f549:=rfl,f502:=rfl,f503:=rfl,f548:=rfl,f404:=rfl,f231:=rfl,f594:=rfl,f586:=rfl,f550:=rfl,f505:=rfl,f408:=rfl,f398:=rfl,f424:=rfl,f494:=rfl,f496:=rfl,f497:=rfl,f498:=rfl,f499:=rfl,f544:=rfl,f546:=rfl,f580:=rfl,f512:=rfl,f584:=rfl,f558:=rfl,f559:=rfl,f592:=rfl,f582:=rfl,f583:=rfl,f593:=rfl,f563:=rfl,f520:=rfl,f442:=rfl,f441:=rfl,f547:=rfl,f513:=rfl,f501:=rfl,f425:=rfl,f225:=rfl,f111:=rfl,f227:=rfl,f403:=rfl,f402:=rfl,f224:=rfl,f460:=rfl,f459:=rfl,f340:=rfl,f221:=rfl,f400:=rfl,f219:=rfl,f504:=rfl,f407:=rfl,f239:=rfl,f406:=rfl,f240:=rfl,f172:=rfl,f112:=rfl,f423:=rfl,f399:=rfl,f230:=rfl,f405:=rfl,f232:=rfl,f115:=rfl,f236:=rfl,f271:=rfl,f223:=rfl,f235:=rfl,f222:=rfl,f422:=rfl,f270:=rfl,f126:=rfl,f130:=rfl }
theorem ty_four {a:AV} (h:Ty (.slice [.int .u8,.int .u8,.int .u8,.int .u8]) a):∃ (xs:List Q4) (e:Bool),a=.ro 4 (xs.map eQ) e∧∀ s ∈ xs,QIn s:=by
 obtain ⟨es,e,rfl,_,hx⟩:=ty_slice h
 obtain ⟨xs,rfl,hr⟩:=ty_map2 (g:=eQ) (R:=QIn) (fun l q=>by
  obtain ⟨q1,q2⟩:=q
  match l,q1 with
  | [u,v,w,x],_ =>
   obtain ⟨n1,rfl,h1⟩:=ty_u8 (q2 0 _ u rfl rfl)
   obtain ⟨n2,rfl,h2⟩:=ty_u8 (q2 1 _ v rfl rfl)
   obtain ⟨n3,rfl,h3⟩:=ty_u8 (q2 2 _ w rfl rfl)
   obtain ⟨n4,rfl,h4⟩:=ty_u8 (q2 3 _ x rfl rfl)
   exact ⟨⟨n1,n2,n3,n4⟩,rfl,h1,h2,h3,h4⟩) es hx
 exact ⟨xs,e,rfl,hr⟩
theorem ty_bytes2 {a:AV} (h:Ty (.slice [.int .u8]) a):∃ (xs:List Int) (e:Bool),a=.ro 1 (xs.map eU8) e∧(∀ x ∈ xs,0≤x∧x≤255)∧xs.length < 9223372036854775808:=by
 obtain ⟨es,e,rfl,hl,hx⟩:=ty_slice h
 obtain ⟨xs,rfl,hr⟩:=ty_map2 (g:=eU8) (R:=fun x:Int=>0≤x∧x≤255) (fun l q=>by
  obtain ⟨q1,q2⟩:=q
  match l,q1 with
  | [v],_ =>
   obtain ⟨n,rfl,h1⟩:=ty_u8 (q2 0 _ v rfl rfl)
   exact ⟨n,rfl,h1⟩) es hx
 exact ⟨xs,e,rfl,hr,by simpa using hl⟩
end Go.Proofs.YtcekmcchienbfaaGreat
end
section
namespace Go.D
open Go Go.Pav Go.Pw P
attribute [-simp] List.getElem_cons_drop
variable {C:WProg}
structure HasEq (C:WProg):Prop extends HasS C
structure Rw where
 k:Int
 t:Int
 s:Int
 n:Nd
@[simp] def eRw (r:Rw):List AV:=[.int .u64 r.k,.int .i64 r.t,.int .i64 r.s,.int .u8 r.n.k,.str r.n.t,.str r.n.y,.ro 2 (r.n.a.map eA) r.n.ae,.str r.n.x,.ro 6 (r.n.ch.map Nd.c) r.n.ce]
structure Sc where
 o:Int
 r:List Rw
 e:Bool
 p:Bool
 h:Rw
@[simp] def eSc (x:Sc):List AV:=[.int .i64 x.o,.ro 9 (x.r.map eRw) x.e,.bool x.p,.int .u64 x.h.k,.int .i64 x.h.t,.int .i64 x.h.s,.int .u8 x.h.n.k,.str x.h.n.t,.str x.h.n.y,.ro 2 (x.h.n.a.map eA) x.h.n.ae,.str x.h.n.x,.ro 6 (x.h.n.ch.map Nd.c) x.h.n.ce]
def attL (ks:List Kd) (l:List En) (o v k:Int):List Int :=
 (if 0≤hdA ks l o∧hdA ks l o < wF l o v k then [hdA ks l o] else [])++seqI (wF l o v k).toNat ((wT l o v k).toNat - (wF l o v k).toNat)
theorem Vp.win {l:List En} {o v:Int} (h:Vp l o v) (k:Int) (hk:0≤k∧k≤16):∃ a b:Nat,wF l o v k=a∧wT l o v k=b∧a≤b∧b≤l.length:=by
 have hn:=h.n
 unfold wF wT imax imin
 rcases h.vis with ⟨a,b,c⟩ | ⟨p,q,p1,q1,hpq,a,b,_⟩
 · rw [b,c]
   exact ⟨0,0,by split <;> omega,by split <;> omega,by omega,by omega⟩
 · rw [a,b]
   refine ⟨(if (p:Int) - k > 0 then (p:Int) - k else 0).toNat,(if (q:Int)+1+k < l.length then (q:Int)+1+k else l.length).toNat,?_,?_,?_,?_⟩
   · split <;> omega
   · split <;> omega
   · split <;> split <;> omega
   · split <;> omega
theorem mem_seqI (a n:Nat) (x:Int):x ∈ seqI a n↔(a:Int)≤x∧x < (a:Int)+n:=by
 unfold seqI
 simp only [List.mem_map,List.mem_range]
 constructor
 · rintro ⟨i,hi,rfl⟩;omega
 · intro h;exact ⟨(x - a).toNat,by omega,by omega⟩
theorem ris_seqI:∀ (n a:Nat) (p:Int),p < a→risB p (seqI a n)=true
 | 0,_,_,_=>rfl
 | n+1,a,p,h=>by
  have:seqI a (n+1)=(a:Int)::seqI (a+1) n:=by
   unfold seqI;rw [List.range_succ_eq_map,List.map_cons,List.map_map]
   refine congr (congrArg _ (by simp)) (List.map_congr_left fun j _=>?_)
   simp only [Function.comp];omega
  rw [this,risB,decide_eq_true h,Bool.true_and]
  exact ris_seqI n (a+1) a (by omega)
theorem ris_att {ks:List Kd} {l:List En} {o v k:Int} (hp:Vp l o v) (hk:0≤k∧k≤16):risB (-1) (attL ks l o v k)=true:=by
 obtain ⟨a,b,ea,eb,hab,hbn⟩:=hp.win k hk
 unfold attL
 rw [ea,eb]
 simp only [Int.toNat_natCast]
 by_cases c:0≤hdA ks l o∧hdA ks l o < (a:Int)
 · rw [if_pos c,List.singleton_append,risB,decide_eq_true (by omega),Bool.true_and]
   exact ris_seqI _ _ _ c.2
 · rw [if_neg c,List.nil_append]
   exact ris_seqI _ _ _ (by omega)
theorem mem_att {ks:List Kd} {l:List En} {o v k:Int} (hp:Vp l o v) (hk:0≤k∧k≤16) (x:Int):x ∈ attL ks l o v k↔(0≤hdA ks l o∧hdA ks l o < wF l o v k∧x=hdA ks l o)∨(wF l o v k≤x∧x < wT l o v k):=by
 obtain ⟨a,b,ea,eb,hab,hbn⟩:=hp.win k hk
 unfold attL
 rw [ea,eb,List.mem_append,mem_seqI]
 simp only [Int.toNat_natCast]
 by_cases c:0≤hdA ks l o∧hdA ks l o < (a:Int)
 · rw [if_pos c,List.mem_singleton]
   constructor
   · rintro (h | h)
     · exact .inl ⟨c.1,c.2,h⟩
     · exact .inr (by omega)
   · rintro (h | h)
     · exact .inl h.2.2
     · exact .inr (by omega)
 · rw [if_neg c]
   constructor
   · rintro (h | h)
     · cases h
     · exact .inr (by omega)
   · rintro (h | h)
     · exact absurd ⟨h.1,h.2.1⟩ c
     · exact .inr (by omega)
theorem att_len {ks:List Kd} {l:List En} {o v k:Int} (hp:Vp l o v) (hk:0≤k∧k≤16):(attL ks l o v k).length≤1025∧wT l o v k - wF l o v k≤(attL ks l o v k).length∧((attL ks l o v k).length:Int)≤wT l o v k - wF l o v k+1:=by
 have hn:=hp.n
 obtain ⟨a,b,ea,eb,hab,hbn⟩:=hp.win k hk
 unfold attL
 rw [ea,eb,List.length_append,seqI_len]
 simp only [Int.toNat_natCast]
 split <;> simp <;> omega
structure HasTr (C:WProg):Prop extends HasG C
structure HasCp (C:WProg):Prop extends HasEq C,HasTr C,HasAt C
theorem wof_ok (H:HasAt C) (l:List En) (e:Bool) (hz:Szd l) (a b:Int) (ha:0≤a∧a≤255) (hb:0≤b∧b≤65535):∃ o v:Int,FnW C 256 [.agg [.int .u8 a,.int .u16 b],aL l e]=some (.tup [.int .i64 o,.int .i64 v])∧Vp l o v:=by
 have hn:=hz.n
 have ht:=hz.t
 have hnn:=hz.nn
 have h1:a.tmod 200=a % 200:=Int.tmod_eq_emod_of_nonneg ha.1
 have h2:0≤a % 200∧a % 200 < 200:=⟨Int.emod_nonneg _ (by omega),Int.emod_lt_of_pos _ (by omega)⟩
 obtain ⟨v,hv⟩:∃ v,v=1+a % 200:=⟨_,rfl⟩
 have hv2:1+a % 200=v:=hv.symm
 have hm:=rmost_ok H.toHasSz l e hz v (by omega)
 have hm0:0≤mostS l v∧mostS l v≤4611686018427387904:=by unfold mostS;split <;> omega
 generalize hM:mostS l v=M at *
 have h3:b.tmod (M+1)=b % (M+1):=Int.tmod_eq_emod_of_nonneg hb.1
 have h4:0≤b % (M+1)∧b % (M+1) < M+1:=⟨Int.emod_nonneg _ (by omega),Int.emod_lt_of_pos _ (by omega)⟩
 have h5:¬ M+1=0:=by omega
 refine ⟨b % (M+1),v,?_,⟨hz,by omega,by rw [hM];omega⟩⟩
 rw [fnW_eq H.f256 rfl]
 simp (disch:=omega) [w256,h1,hv2,hm,h3,h5,wI64,H.inl,inlB,H.pp,ppB]
@[simp] theorem oldRefs_zero:∀ h:WHeap,oldRefs 0 h=[]
 | []=>rfl
 | (b,o)::r=>by rw [oldRefs,if_neg (by omega),oldRefs_zero r]
@[simp] theorem renOld_zero (π:Nat→Option Nat):∀ h:WHeap,renOld 0 π h=some []
 | []=>rfl
 | (b,o)::r=>by rw [renOld,if_neg (by omega),renOld_zero π r]
@[simp] theorem getp (h:WHeap) (n:Nat) (o:WObj) (k:Nat):Pav.get (Pav.put h n o) k=if n=k then some o else Pav.get h k:=get_put h n o k
end Go.D
end
section
namespace Go.D
open Go Go.Pav Go.Pw P
attribute [-simp] List.getElem_cons_drop
variable {C:WProg}
structure HasRo (C:WProg):Prop extends HasCp C
structure LG (r:Int) (l:List En):Prop where
 hr:0≤r∧r≤255
 hl:l.length≤12
 z:Szd l
 en:∀ x ∈ l,EnIn x
 ck:ckE (kindsOf r) 12 l=0
 ck1:∀ x ∈ l,ckE (kindsOf r) 12 [x]=0
 t:∀ x ∈ l,0≤x.i.t∧x.i.t < (kindsOf r).length
 rE:∀ x ∈ l,rndE (kdAt (kindsOf r) x.i.t).p x.i 12=0
section
variable {r:Int} {l:List En} (L:LG r l)
end
end Go.D
end
section
namespace Go.D
open Go Go.Pav Go.Pw P
attribute [-simp] List.getElem_cons_drop
variable {C:WProg}
structure HasHd (C:WProg):Prop extends HasRo C where
 f149:C.fns.get 149=some w149
 f304:C.fns.get 304=some w304
def stk (ks:List Kd) (l:List En) (i:Nat):Bool:=match l[i]? with | some x=>(kdAt ks x.i.t).st | none=>false
theorem stk_get {ks:List Kd} {l:List En} {i:Nat} (h:i < l.length):stk ks l i=(kdAt ks l[i].i.t).st:=by unfold stk;rw [List.getElem?_eq_getElem h]
def hrF (ks:List Kd) (l:List En) (s:Int):Nat→Nat→Int→Int
 | 0,_,a=>a
 | n+1,i,a=>hrF ks l s n (i+1) (if stk ks l i=true∧top l i≤s then (i:Int) else a)
def hrA (ks:List Kd) (l:List En) (s:Int):Int:=hrF ks l s l.length 0 (-1)
theorem hrF_stop {ks:List Kd} {l:List En} (hz:Szd l) {s:Int}:∀ (n i:Nat) (a:Int),n+i=l.length→s < top l i→hrF ks l s n i a=a:=by
 intro n
 induction n with
 | zero=>intro i a _ _;rfl
 | succ n ih =>
  intro i a hi h
  have:=hz.lt (i:=i) (by omega)
  rw [hrF,if_neg (by omega)]
  exact ih (i+1) a (by omega) (by omega)
theorem hrF_bd (ks:List Kd) (l:List En) (s:Int):∀ (n i:Nat) (a:Int),n+i=l.length→-1≤a∧a < i→-1≤hrF ks l s n i a∧hrF ks l s n i a < l.length:=by
 intro n
 induction n with
 | zero=>intro i a hi h;rw [hrF];omega
 | succ n ih =>
  intro i a hi h
  rw [hrF]
  refine ih (i+1) _ (by omega) ?_
  split <;> omega
theorem sticky_ok (H:HasHd C) (ks:List Kd) (ke:Bool) (cap:Int) (x:En) (ht:0≤x.i.t∧x.i.t < ks.length):FnW C 304 [aR ks ke cap,.agg (eEn x)]=some (.int .i64 (if (kdAt ks x.i.t).st=true then 1 else 0)):=by
 obtain ⟨t,hT⟩:∃ t:Nat,x.i.t=t:=⟨x.i.t.toNat,by omega⟩
 have h4:t < ks.length:=by omega
 rw [hT,kdAt_get h4,fnW_eq H.f304 rfl]
 cases c:ks[t].st <;> simp (disch:=omega) [w304,hT,h4,c,H.inl,inlB,H.pp,ppB]
theorem rhead_loop (H:HasHd C) (ks:List Kd) (ke:Bool) (cap:Int) (l:List En) (e:Bool) (s:Int) (hz:Szd l) (ht:∀ x ∈ l,0≤x.i.t∧x.i.t < ks.length):∀ n i,n+i=l.length→∀ a:Int,
 w149_K0 C ⟨[(8,.int .i64 i),(7,.int .i64 a),(3,.ptr 0 0 0),(2,.int .i64 s),(1,.ro 6 (l.map eEn) e)],[(0,.cells 2 [[.ro 9 (ks.map eKd) ke,.int .i64 cap]] true true)],1⟩=some (.int .i64 (hrF ks l s n i a)):=by
 intro n
 induction n with
 | zero =>
  intro i hi a
  have h3:¬ i < l.length:=by omega
  simp only [w149_K0];rw [ck_unf w149_B0.eq_1]
  simp (disch:=omega) [ck_unf w149_c0.eq_1,h3,hrF]
 | succ n ih =>
  intro i hi a
  have h1:i < l.length:=by omega
  have hn:=hz.n
  have hs:=sticky_ok H ks ke cap l[i] (ht _ (List.getElem_mem h1))
  have htp:=rtop_ok H.toHasSz l e hz i (by omega)
  rw [hrF,stk_get h1]
  simp only [aR,eEn] at hs
  cases c:(kdAt ks l[i].i.t).st
  · rw [if_neg (by simp)]
    have this:=ih (i+1) (by omega) a
    rw [c] at hs
    generalize hrF ks l s n (i+1) a=R at *
    simp only [w149_K0] at this ⊢;rw [ck_unf w149_B0.eq_1]
    simp at this hs
    simp (disch:=omega) [h1,hs,wI64,H.inl,inlB,H.pp,ppB,this]
  · rw [c] at hs
    by_cases d:top l i≤s
    · rw [if_pos ⟨rfl,d⟩]
      have this:=ih (i+1) (by omega) i
      generalize hrF ks l s n (i+1) i=R at *
      simp only [w149_K0] at this ⊢;rw [ck_unf w149_B0.eq_1]
      simp at this hs
      simp (disch:=omega) [h1,hs,htp,d,wI64,H.inl,inlB,H.pp,ppB,this]
    · rw [if_neg (by rintro ⟨_,q⟩;exact d q)]
      have this:=ih (i+1) (by omega) a
      generalize hrF ks l s n (i+1) a=R at *
      simp only [w149_K0] at this ⊢;rw [ck_unf w149_B0.eq_1]
      simp at this hs
      simp (disch:=omega) [h1,hs,htp,d,wI64,H.inl,inlB,H.pp,ppB,this]
theorem rhead_ok (H:HasHd C) (ks:List Kd) (ke:Bool) (cap:Int) (l:List En) (e:Bool) (s:Int) (hz:Szd l) (ht:∀ x ∈ l,0≤x.i.t∧x.i.t < ks.length):FnW C 149 [aR ks ke cap,.ro 6 (l.map eEn) e,.int .i64 s]=some (.int .i64 (hrA ks l s)):=by
 have h:=rhead_loop H ks ke cap l e s hz ht l.length 0 (by simp) (-1)
 rw [fnW_eq H.f149 rfl]
 unfold hrA
 generalize hrF ks l s l.length 0 (-1)=R at *
 simp only [w149_K0] at h
 try simp at h
 simp [w149,h,H.inl,inlB,H.pp,ppB]
end Go.D
end
section
namespace Go.D
open Go Go.Pav Go.Pw P
attribute [-simp] List.getElem_cons_drop
variable {C:WProg}
theorem Vp.visR {l:List En} {s v:Int} (h:Vp l s v):∃ a b:Nat,visF l s v=a∧visT l s v=b∧a≤b∧b≤l.length∧(∀ i,i < l.length→((top l i < s+v∧s < top l (i+1))↔(a≤i∧i < b))) ∧
 (0 < l.length→a < b∧top l a≤s∧s < top l (a+1)∧(s+v≤top l b∨b=l.length)):=by
 unfold visF visT
 by_cases c:l.length=0
 · rw [if_pos c,if_pos c]
   exact ⟨0,0,rfl,rfl,by omega,by omega,fun i hi=>by omega,fun q=>by omega⟩
 · rw [if_neg c,if_neg c]
   obtain ⟨p,q,p1,q1,hpq,a,b⟩:=h.ends (by omega)
   refine ⟨p,q+1,h.rowA_eq p1 a.1 a.2,by rw [h.rowA_eq q1 b.1 b.2];rfl,by omega,by omega,fun i hi=>?_,fun _=>⟨by omega,a.1,a.2,?_⟩⟩
   · rw [h.seen p1 q1 a b hi];omega
   · by_cases d:q+1=l.length
     · exact .inr d
     · left
       have:=h.mono (i:=q+1) (j:=l.length) (by omega) (by omega)
       rw [top_len] at this
       unfold imin at b
       split at b <;> omega
section
variable {r:Int} {l:List En}
end
end Go.D
end
section
namespace Go.D
open Go Go.Pav Go.Pw P
attribute [-simp] List.getElem_cons_drop
variable {C:WProg}
structure HasWo (C:WProg):Prop extends HasHd C where
 f131:C.fns.get 131=some w131
 f133:C.fns.get 133=some w133
 f137:C.fns.get 137=some w137
theorem Vp.sb2 {l:List En} {s v:Int} (hp:Vp l s v):0≤s∧s≤4611686018427387904:=by
 have h1:=hp.s0
 have h0:=hp.v0
 have h2:=hp.t
 have h3:=hp.nn
 unfold mostS at h1;split at h1 <;> omega
def nearF (l:List En) (o v k:Int) (i:Nat):Nat→Nat→Int
 | 0,_=>0
 | n+1,j=>(if (((j:Int) - i≤k)∧((i:Int) - j≤k))∧(top l j < o+v∧o < top l (j+1)) then 1 else 0)+nearF l o v k i n (j+1)
theorem nearF_nn (l:List En) (o v k:Int) (i:Nat):∀ n j,0≤nearF l o v k i n j∧nearF l o v k i n j≤n:=by
 intro n
 induction n with
 | zero=>intro j;simp [nearF]
 | succ n ih =>
  intro j
  have:=ih (j+1)
  rw [nearF]
  split <;> omega
theorem nearF_pos (l:List En) (o v k:Int) (i:Nat):∀ n j,0 < nearF l o v k i n j↔∃ q,j≤q∧q < j+n∧(((q:Int) - i≤k)∧((i:Int) - q≤k))∧(top l q < o+v∧o < top l (q+1)):=by
 intro n
 induction n with
 | zero => intro j; constructor
           · intro h;rw [nearF] at h;omega
           · rintro ⟨q,h1,h2,_⟩;omega
 | succ n ih =>
  intro j
  have hn:=nearF_nn l o v k i n (j+1)
  rw [nearF]
  constructor
  · intro h
    by_cases c:(((j:Int) - i≤k)∧((i:Int) - j≤k))∧(top l j < o+v∧o < top l (j+1))
    · exact ⟨j,by omega,by omega,c⟩
    · rw [if_neg c] at h
      obtain ⟨q,h1,h2,h3⟩:=(ih (j+1)).1 (by omega)
      exact ⟨q,by omega,by omega,h3⟩
  · rintro ⟨q,h1,h2,h3⟩
    by_cases c:q=j
    · subst c
      rw [if_pos h3];omega
    · have:=(ih (j+1)).2 ⟨q,by omega,by omega,h3⟩
      split <;> omega
theorem near_iff {l:List En} {o v:Int} (hp:Vp l o v) {a b K:Nat} (hv:∀ i,i < l.length→((top l i < o+v∧o < top l (i+1))↔(a≤i∧i < b))) (hab:a < b) (hbl:b≤l.length) {i:Nat} (hi:i < l.length) :
 0 < nearF l o v K i l.length 0↔(a - K≤i∧i < min l.length (b+K)):=by
 rw [nearF_pos]
 constructor
 · rintro ⟨q,_,h2,⟨h3,h4⟩,h5⟩
   have:=(hv q (by omega)).1 h5
   omega
 · rintro ⟨h1,h2⟩
   by_cases c:i < a
   · exact ⟨a,by omega,by omega,⟨by omega,by omega⟩,(hv a (by omega)).2 (by omega)⟩
   · by_cases d:i < b
     · exact ⟨i,by omega,by omega,⟨by omega,by omega⟩,(hv i (by omega)).2 (by omega)⟩
     · exact ⟨b - 1,by omega,by omega,⟨by omega,by omega⟩,(hv (b - 1) (by omega)).2 (by omega)⟩
theorem rw_in (H:HasWo C) (l:List En) (e:Bool) (o v:Int) (hp:Vp l o v) (K:Nat) (hK:K≤16) (i:Nat) (hi:i < l.length) (f t:Int) (ht:0≤t∧t≤2000) (R:AV)
 (hnext:w131_K0 C ⟨[(13,.int .i64 ((i:Int) - 1)),(12,.int .i64 (if 0 < nearF l o v K i l.length 0 then t+1 else t)),(11,.int .i64 (if 0 < nearF l o v K i l.length 0 then i else f)),(3,.int .i64 K),(2,.int .i64 v),(1,.int .i64 o),(0,.ro 6 (l.map eEn) e)],[],0⟩=some R) :
 ∀ m j,m+j=l.length→∀ c:Int,0≤c→c≤j→c+nearF l o v K i m j=nearF l o v K i l.length 0 →
 w131_K1 C ⟨[(15,.int .i64 j),(14,.int .i64 c),(13,.int .i64 i),(12,.int .i64 t),(11,.int .i64 f),(3,.int .i64 K),(2,.int .i64 v),(1,.int .i64 o),(0,.ro 6 (l.map eEn) e)],[],0⟩=some R:=by
 have hn:=hp.n
 intro m
 induction m with
 | zero =>
  intro j hj c h0 hc he
  have h3:¬ j < l.length:=by omega
  rw [nearF,Int.add_zero] at he
  rw [← he] at hnext
  simp only [w131_K0] at hnext
  simp only [w131_K1];rw [ck_unf w131_B1.eq_1]
  by_cases d:0 < c
  · rw [if_pos d,if_pos d] at hnext
    simp (disch:=omega) [ck_unf w131_c2.eq_1,ck_unf w131_c1.eq_1,h3,d,wI64,hnext]
  · rw [if_neg d,if_neg d] at hnext
    simp (disch:=omega) [ck_unf w131_c2.eq_1,ck_unf w131_c1.eq_1,h3,d,wI64,hnext]
 | succ m ih =>
  intro j hj c h0 hc he
  have h1:j < l.length:=by omega
  have hs:=rseen_ok H.toHasSz l e o v hp j h1
  rw [nearF] at he
  by_cases c1:(j:Int) - i≤K
  · by_cases c2:(i:Int) - j≤K
    · by_cases c3:top l j < o+v∧o < top l (j+1)
      · rw [if_pos ⟨⟨c1,c2⟩,c3⟩] at he
        rw [if_pos c3] at hs
        have this:=ih (j+1) (by omega) (c+1) (by omega) (by omega) (by omega)
        simp only [w131_K1] at this ⊢;rw [ck_unf w131_B1.eq_1]
        simp at this
        simp (disch:=omega) [h1,c1,c2,hs,wI64,H.inl,inlB,H.pp,ppB,this]
      · rw [if_neg (by rintro ⟨_,q⟩;exact c3 q)] at he
        rw [if_neg c3] at hs
        have this:=ih (j+1) (by omega) c (by omega) (by omega) (by omega)
        simp only [w131_K1] at this ⊢;rw [ck_unf w131_B1.eq_1]
        simp at this
        simp (disch:=omega) [h1,c1,c2,hs,wI64,H.inl,inlB,H.pp,ppB,this]
    · rw [if_neg (by rintro ⟨⟨_,q⟩,_⟩;exact c2 q)] at he
      have this:=ih (j+1) (by omega) c (by omega) (by omega) (by omega)
      simp only [w131_K1] at this ⊢;rw [ck_unf w131_B1.eq_1]
      simp at this
      simp (disch:=omega) [h1,c1,c2,wI64,H.inl,inlB,H.pp,ppB,this]
  · rw [if_neg (by rintro ⟨⟨q,_⟩,_⟩;exact c1 q)] at he
    have this:=ih (j+1) (by omega) c (by omega) (by omega) (by omega)
    simp only [w131_K1] at this ⊢;rw [ck_unf w131_B1.eq_1]
    simp at this
    simp (disch:=omega) [h1,c1,wI64,H.inl,inlB,H.pp,ppB,this]
def wdT (A B n:Nat):Int:=if n < B then (B:Int) - (max A n:Nat) else 0
def wdF (A B n:Nat):Int:=if n < B then (max A n:Nat) else 0
theorem rw_out (H:HasWo C) (l:List En) (e:Bool) (o v:Int) (hp:Vp l o v) (K:Nat) (hK:K≤16) {a b:Nat} (hv:∀ i,i < l.length→((top l i < o+v∧o < top l (i+1))↔(a≤i∧i < b))) (hab:a < b) (hbl:b≤l.length) :
 ∀ (n:Nat) (i:Int),i+1=n→n≤l.length →
 w131_K0 C ⟨[(13,.int .i64 i),(12,.int .i64 (wdT (a - K) (min l.length (b+K)) n)),(11,.int .i64 (wdF (a - K) (min l.length (b+K)) n)),(3,.int .i64 K),(2,.int .i64 v),(1,.int .i64 o),(0,.ro 6 (l.map eEn) e)],[],0⟩ =
  some (.tup [.int .i64 (a - K:Nat),.int .i64 (min l.length (b+K):Nat),.int .i64 0]):=by
 have hn:=hp.n
 intro n
 induction n with
 | zero =>
  intro i hi hl
  have h3:¬ 0≤i:=by omega
  have e1:wdT (a - K) (min l.length (b+K)) 0=((min l.length (b+K):Nat):Int) - (a - K:Nat):=by unfold wdT;rw [if_pos (by omega)];simp
  have e2:wdF (a - K) (min l.length (b+K)) 0=(a - K:Nat):=by unfold wdF;rw [if_pos (by omega)];simp
  rw [e1,e2]
  generalize hA:a - K=A at *
  generalize hB:min l.length (b+K)=B at *
  simp only [w131_K0];rw [ck_unf w131_B0.eq_1]
  have e3:(A:Int)+((B:Int) - A)=B:=by omega
  simp (disch:=omega) [ck_unf w131_c0.eq_1,h3,wI64,e3]
 | succ n ih =>
  intro i hi hl
  have ei:i=n:=by omega
  subst ei
  have h3:(0:Int)≤n:=by omega
  have hni:=near_iff hp (K:=K) hv hab hbl (i:=n) (by omega)
  have this:=ih ((n:Int) - 1) (by omega) (by omega)
  have ht:0≤wdT (a - K) (min l.length (b+K)) (n+1)∧wdT (a - K) (min l.length (b+K)) (n+1)≤2000:=by unfold wdT;split <;> omega
  have e1:(if 0 < nearF l o v K n l.length 0 then wdT (a - K) (min l.length (b+K)) (n+1)+1 else wdT (a - K) (min l.length (b+K)) (n+1))=wdT (a - K) (min l.length (b+K)) n:=by
   by_cases c:0 < nearF l o v K n l.length 0
   · have:=hni.1 c
     rw [if_pos c]
     unfold wdT
     rw [if_pos this.2]
     split <;> omega
   · have:¬ _:=fun q=>c (hni.2 q)
     rw [if_neg c]
     unfold wdT
     split <;> split <;> omega
  have e2:(if 0 < nearF l o v K n l.length 0 then (n:Int) else wdF (a - K) (min l.length (b+K)) (n+1))=wdF (a - K) (min l.length (b+K)) n:=by
   by_cases c:0 < nearF l o v K n l.length 0
   · have:=hni.1 c
     rw [if_pos c]
     unfold wdF
     rw [if_pos this.2]
     omega
   · have:¬ _:=fun q=>c (hni.2 q)
     rw [if_neg c]
     unfold wdF
     split <;> split <;> omega
  have k:=rw_in H l e o v hp K hK n (by omega) (wdF (a - K) (min l.length (b+K)) (n+1)) (wdT (a - K) (min l.length (b+K)) (n+1)) ht _ (by rw [e1,e2];exact this) l.length 0 (by simp) 0 (by omega) (by omega) (by omega)
  generalize wdT (a - K) (min l.length (b+K)) (n+1)=T at *
  generalize wdF (a - K) (min l.length (b+K)) (n+1)=F at *
  simp only [w131_K1] at k
  try simp at k
  simp only [w131_K0];rw [ck_unf w131_B0.eq_1]
  simp (disch:=omega) [h3,wI64,k]
theorem hdF_hrF {ks:List Kd} {l:List En} (hz:Szd l) {o:Int}:∀ (n i:Nat) (a:Int),n+i=l.length→hdF ks l o n i a=hrF ks l o n i a:=by
 intro n
 induction n with
 | zero=>intro i a _;rfl
 | succ n ih =>
  intro i a hi
  have hil:i < l.length:=by omega
  by_cases c:o < top l i
  · rw [hdF,if_pos c,hrF_stop hz (n+1) i a hi c]
  · rw [hdF,if_neg c,hrF,ih (i+1) _ (by omega)]
    congr 1
    rw [List.getElem?_eq_getElem hil,stk_get hil]
    simp only
    by_cases d:(kdAt ks l[i].i.t).st=true
    · rw [if_pos d,if_pos ⟨d,by omega⟩]
    · rw [if_neg d,if_neg (by rintro ⟨q,_⟩;exact d q)]
theorem hdA_eq {ks:List Kd} {l:List En} (hz:Szd l) {o:Int}:hdA ks l o=hrA ks l o:=hdF_hrF hz l.length 0 (-1) (by simp)
theorem hrA_bd' (ks:List Kd) (l:List En) (s:Int):-1≤hrA ks l s∧hrA ks l s < l.length:=hrF_bd ks l s l.length 0 (-1) (by simp) (by omega)
theorem rwindow_ok (H:HasWo C) (l:List En) (e:Bool) (o v k:Int) (hp:Vp l o v) (hk:0≤k∧k≤16):FnW C 131 [.ro 6 (l.map eEn) e,.int .i64 o,.int .i64 v,.int .i64 k]=some (.tup [.int .i64 (wF l o v k),.int .i64 (wT l o v k),.int .i64 0]):=by
 have hn:=hp.n
 obtain ⟨K,rfl⟩:∃ K:Nat,k=K:=⟨k.toNat,by omega⟩
 have hv0:=hp.v0
 have hsb:=hp.sb2
 have h1:=rviewport_ok H.toHasSz l e (by omega) (fun x hx=>by have:=hp.s x hx;omega) o v (by omega) (by omega)
 rw [vpE_of hp] at h1
 have c1:¬ (K:Int) < 0:=by omega
 have c2:¬ (16:Int) < K:=by omega
 obtain ⟨a,b,ha,hb,hab,hbl,hv,hw⟩:=hp.visR
 by_cases c:l.length=0
 · have e1:wF l o v K=0:=by
    unfold wF;rw [ha];unfold imax;split <;> omega
   have e2:wT l o v K=0:=by
    unfold wT;rw [hb];unfold imin;split <;> omega
   rw [e1,e2,fnW_eq H.f131 rfl]
   have hnil:l=[]:=List.eq_nil_of_length_eq_zero c
   subst hnil
   simp at h1
   simp (disch:=omega) [w131,ck_unf w131_B0.eq_1,ck_unf w131_c0.eq_1,h1,c1,c2,wI64,H.inl,inlB,H.pp,ppB]
 · obtain ⟨w1,w2⟩:=hw (by omega)
   have key:=rw_out H l e o v hp K (by omega) hv w1 hbl l.length ((l.length:Int) - 1) (by omega) (by omega)
   have e0:wdT (a - K) (min l.length (b+K)) l.length=0:=by unfold wdT;rw [if_neg (by omega)]
   have e0':wdF (a - K) (min l.length (b+K)) l.length=0:=by unfold wdF;rw [if_neg (by omega)]
   rw [e0,e0'] at key
   have e1:wF l o v K=(a - K:Nat):=by unfold wF;rw [ha];unfold imax;split <;> omega
   have e2:wT l o v K=(min l.length (b+K):Nat):=by unfold wT;rw [hb];unfold imin;split <;> omega
   rw [e1,e2,fnW_eq H.f131 rfl]
   generalize (a - K:Nat)=A at *
   generalize min l.length (b+K)=B at *
   simp only [w131_K0] at key
   try simp at key
   simp (disch:=omega) [w131,h1,c1,c2,wI64,key,H.inl,inlB,H.pp,ppB]
def raF (A B h:Int):Nat→Nat→List Int
 | 0,_=>[]
 | n+1,i=>if (A≤i∧(i:Int) < B)∨(i:Int)=h then (i:Int)::raF A B h n (i+1) else raF A B h n (i+1)
theorem raF_mem (A B h:Int):∀ (n i:Nat) (x:Int),x ∈ raF A B h n i↔((i:Int)≤x∧x < i+n)∧((A≤x∧x < B)∨x=h):=by
 intro n
 induction n with
 | zero=>intro i x;rw [raF];simp;omega
 | succ n ih =>
  intro i x
  rw [raF]
  by_cases c:(A≤i∧(i:Int) < B)∨(i:Int)=h
  · rw [if_pos c,List.mem_cons,ih (i+1) x]
    constructor
    · rintro (rfl | q)
      · exact ⟨by omega,c⟩
      · exact ⟨by omega,q.2⟩
    · rintro ⟨q1,q2⟩
      by_cases d:x=i
      · exact .inl d
      · exact .inr ⟨by omega,q2⟩
  · rw [if_neg c,ih (i+1) x]
    constructor
    · rintro ⟨q1,q2⟩;exact ⟨by omega,q2⟩
    · rintro ⟨q1,q2⟩
      refine ⟨?_,q2⟩
      by_cases d:x=i
      · rw [d] at q2;exact absurd q2 c
      · omega
theorem raF_ris (A B h:Int):∀ (n i:Nat) (p:Int),p < i→risB p (raF A B h n i)=true:=by
 intro n
 induction n with
 | zero=>intro i p _;rfl
 | succ n ih =>
  intro i p hp
  rw [raF]
  split
  · rw [risB,ih (i+1) i (by omega)];simp [hp]
  · exact ih (i+1) p (by omega)
theorem ris_lt:∀ (l:List Int) (p:Int),risB p l=true→∀ x ∈ l,p < x
 | [],_,_,x,hx=>by cases hx
 | y::r,p,h,x,hx=>by
  rw [risB,Bool.and_eq_true,decide_eq_true_eq] at h
  rcases List.mem_cons.1 hx with q | q
  · rw [q];exact h.1
  · have:=ris_lt r y h.2 x q;omega
theorem ris_eq:∀ (a b:List Int) (p q:Int),risB p a=true→risB q b=true→(∀ x,x ∈ a↔x ∈ b)→a=b
 | [],[],_,_,_,_,_=>rfl
 | [],y::s,_,_,_,_,h=>by have:=(h y).2 (by simp);cases this
 | x::r,[],_,_,_,_,h=>by have:=(h x).1 (by simp);cases this
 | x::r,y::s,p,q,ha,hb,h=>by
  rw [risB,Bool.and_eq_true,decide_eq_true_eq] at ha hb
  have e:x=y:=by
   rcases List.mem_cons.1 ((h x).1 (by simp)) with e | e
   · exact e
   · rcases List.mem_cons.1 ((h y).2 (by simp)) with e2 | e2
     · exact e2.symm
     · have h1:=ris_lt s y hb.2 x e
       have h2:=ris_lt r x ha.2 y e2
       omega
  subst e
  rw [ris_eq r s x x ha.2 hb.2 fun z=>?_]
  constructor
  · intro hz
    rcases List.mem_cons.1 ((h z).1 (by simp [hz])) with e | e
    · have:=ris_lt r x ha.2 z hz;omega
    · exact e
  · intro hz
    rcases List.mem_cons.1 ((h z).2 (by simp [hz])) with e | e
    · have:=ris_lt s x hb.2 z hz;omega
    · exact e
theorem raF_att {ks:List Kd} {l:List En} {o v k:Int} (hp:Vp l o v) (hk:0≤k∧k≤16):raF (wF l o v k) (wT l o v k) (hrA ks l o) l.length 0=attL ks l o v k:=by
 refine ris_eq _ _ (-1) (-1) (raF_ris _ _ _ _ _ _ (by omega)) (ris_att hp hk) fun x=>?_
 obtain ⟨a,b,ea,eb,hab,hbn⟩:=hp.win k hk
 rw [raF_mem,mem_att hp hk,hdA_eq hp.toSzd,ea,eb]
 have hbd:=hrA_bd' ks l o
 have hlt:0≤hrA ks l o→hrA ks l o < b:=by
  intro q
  obtain ⟨a',b',ha,hb,_,hbl,_,hw⟩:=hp.visR
  obtain ⟨w1,w2,w3,_⟩:=hw (by omega)
  have h1:=hdF_bd ks l hp.toSzd o a' ⟨w2,w3⟩ (by omega) l.length 0 (-1) (by simp) (by omega)
  rw [hdF_hrF hp.toSzd l.length 0 (-1) (by simp)] at h1
  change -1≤hrA ks l o∧hrA ks l o≤a' at h1
  unfold wT at eb
  rw [hb] at eb
  unfold imin at eb
  split at eb <;> omega
 constructor
 · rintro ⟨q1,q2 | q2⟩
   · exact .inr q2
   · by_cases c:x < a
     · exact .inl ⟨by omega,by omega,q2⟩
     · exact .inr ⟨by omega,by have:=hlt (by omega);omega⟩
 · rintro (⟨q1,q2,q3⟩ | q)
   · exact ⟨by have:=hlt q1;omega,.inr q3⟩
   · exact ⟨by omega,.inl q⟩
end Go.D
end
