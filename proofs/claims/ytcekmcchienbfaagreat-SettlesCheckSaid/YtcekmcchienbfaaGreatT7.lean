/- Part of the theory that the claims of this work use: D31, D38, D40, D47, D48, D49, E17, E18, E19, E31, E32, E33, E34, E35, E36, E37, S15, S01, S04, S14, S05, S16, S18, S19, S20, S21, S22, S23. No conditions of its own. -/
import Derived.Test.YtcekmcchienbfaaGreatT6
set_option linter.unusedVariables false
set_option linter.unusedSimpArgs false
set_option maxHeartbeats 4000000
set_option maxRecDepth 10000
section
namespace Go.D
open Go Go.Pav Go.Pw P
attribute [-simp] List.getElem_cons_drop
variable {C:WProg}
@[simp] theorem oldRefs_zero:∀ h:WHeap,oldRefs 0 h=[]
 | []=>rfl
 | (b,o)::r=>by rw [oldRefs,if_neg (by omega),oldRefs_zero r]
@[simp] theorem renOld_zero (π:Nat→Option Nat):∀ h:WHeap,renOld 0 π h=some []
 | []=>rfl
 | (b,o)::r=>by rw [renOld,if_neg (by omega),renOld_zero π r]
@[simp] theorem getp (h:WHeap) (n:Nat) (o:WObj) (k:Nat):Pav.get (Pav.put h n o) k=if n=k then some o else Pav.get h k:=get_put h n o k
end Go.D
end
section
namespace Go.D
open Go Go.Pav Go.Pw P
attribute [-simp] List.getElem_cons_drop
variable {C:WProg}
structure HasRo (C:WProg):Prop extends HasCp C
structure LG (r:Int) (l:List En):Prop where
 hr:0≤r∧r≤255
 hl:l.length≤12
 z:Szd l
 en:∀ x ∈ l,EnIn x
 ck:ckE (kindsOf r) 12 l=0
 ck1:∀ x ∈ l,ckE (kindsOf r) 12 [x]=0
 t:∀ x ∈ l,0≤x.i.t∧x.i.t < (kindsOf r).length
 rE:∀ x ∈ l,rndE (kdAt (kindsOf r) x.i.t).p x.i 12=0
section
variable {r:Int} {l:List En} (L:LG r l)
end
end Go.D
end
section
namespace Go.D
open Go Go.Pav Go.Pw P
attribute [-simp] List.getElem_cons_drop
variable {C:WProg}
structure HasHd (C:WProg):Prop extends HasRo C where
 f149:C.fns.get 149=some w149
 f304:C.fns.get 304=some w304
def stk (ks:List Kd) (l:List En) (i:Nat):Bool:=match l[i]? with | some x=>(kdAt ks x.i.t).st | none=>false
theorem stk_get {ks:List Kd} {l:List En} {i:Nat} (h:i < l.length):stk ks l i=(kdAt ks l[i].i.t).st:=by unfold stk;rw [List.getElem?_eq_getElem h]
def hrF (ks:List Kd) (l:List En) (s:Int):Nat→Nat→Int→Int
 | 0,_,a=>a
 | n+1,i,a=>hrF ks l s n (i+1) (if stk ks l i=true∧top l i≤s then (i:Int) else a)
def hrA (ks:List Kd) (l:List En) (s:Int):Int:=hrF ks l s l.length 0 (-1)
theorem hrF_stop {ks:List Kd} {l:List En} (hz:Szd l) {s:Int}:∀ (n i:Nat) (a:Int),n+i=l.length→s < top l i→hrF ks l s n i a=a:=by
 intro n
 induction n with
 | zero=>intro i a _ _;rfl
 | succ n ih =>
  intro i a hi h
  have:=hz.lt (i:=i) (by omega)
  rw [hrF,if_neg (by omega)]
  exact ih (i+1) a (by omega) (by omega)
theorem hrF_bd (ks:List Kd) (l:List En) (s:Int):∀ (n i:Nat) (a:Int),n+i=l.length→-1≤a∧a < i→-1≤hrF ks l s n i a∧hrF ks l s n i a < l.length:=by
 intro n
 induction n with
 | zero=>intro i a hi h;rw [hrF];omega
 | succ n ih =>
  intro i a hi h
  rw [hrF]
  refine ih (i+1) _ (by omega) ?_
  split <;> omega
theorem sticky_ok (H:HasHd C) (ks:List Kd) (ke:Bool) (cap:Int) (x:En) (ht:0≤x.i.t∧x.i.t < ks.length):FnW C 304 [aR ks ke cap,.agg (eEn x)]=some (.int .i64 (if (kdAt ks x.i.t).st=true then 1 else 0)):=by
 obtain ⟨t,hT⟩:∃ t:Nat,x.i.t=t:=⟨x.i.t.toNat,by omega⟩
 have h4:t < ks.length:=by omega
 rw [hT,kdAt_get h4,fnW_eq H.f304 rfl]
 cases c:ks[t].st <;> simp (disch:=omega) [w304,hT,h4,c,H.inl,inlB,H.pp,ppB]
theorem rhead_loop (H:HasHd C) (ks:List Kd) (ke:Bool) (cap:Int) (l:List En) (e:Bool) (s:Int) (hz:Szd l) (ht:∀ x ∈ l,0≤x.i.t∧x.i.t < ks.length):∀ n i,n+i=l.length→∀ a:Int,
 w149_K0 C ⟨[(8,.int .i64 i),(7,.int .i64 a),(3,.ptr 0 0 0),(2,.int .i64 s),(1,.ro 6 (l.map eEn) e)],[(0,.cells 2 [[.ro 9 (ks.map eKd) ke,.int .i64 cap]] true true)],1⟩=some (.int .i64 (hrF ks l s n i a)):=by
 intro n
 induction n with
 | zero =>
  intro i hi a
  have h3:¬ i < l.length:=by omega
  simp only [w149_K0];rw [ck_unf w149_B0.eq_1]
  simp (disch:=omega) [ck_unf w149_c0.eq_1,h3,hrF]
 | succ n ih =>
  intro i hi a
  have h1:i < l.length:=by omega
  have hn:=hz.n
  have hs:=sticky_ok H ks ke cap l[i] (ht _ (List.getElem_mem h1))
  have htp:=rtop_ok H.toHasSz l e hz i (by omega)
  rw [hrF,stk_get h1]
  simp only [aR,eEn] at hs
  cases c:(kdAt ks l[i].i.t).st
  · rw [if_neg (by simp)]
    have this:=ih (i+1) (by omega) a
    rw [c] at hs
    generalize hrF ks l s n (i+1) a=R at *
    simp only [w149_K0] at this ⊢;rw [ck_unf w149_B0.eq_1]
    simp at this hs
    simp (disch:=omega) [h1,hs,wI64,H.inl,inlB,H.pp,ppB,this]
  · rw [c] at hs
    by_cases d:top l i≤s
    · rw [if_pos ⟨rfl,d⟩]
      have this:=ih (i+1) (by omega) i
      generalize hrF ks l s n (i+1) i=R at *
      simp only [w149_K0] at this ⊢;rw [ck_unf w149_B0.eq_1]
      simp at this hs
      simp (disch:=omega) [h1,hs,htp,d,wI64,H.inl,inlB,H.pp,ppB,this]
    · rw [if_neg (by rintro ⟨_,q⟩;exact d q)]
      have this:=ih (i+1) (by omega) a
      generalize hrF ks l s n (i+1) a=R at *
      simp only [w149_K0] at this ⊢;rw [ck_unf w149_B0.eq_1]
      simp at this hs
      simp (disch:=omega) [h1,hs,htp,d,wI64,H.inl,inlB,H.pp,ppB,this]
theorem rhead_ok (H:HasHd C) (ks:List Kd) (ke:Bool) (cap:Int) (l:List En) (e:Bool) (s:Int) (hz:Szd l) (ht:∀ x ∈ l,0≤x.i.t∧x.i.t < ks.length):FnW C 149 [aR ks ke cap,.ro 6 (l.map eEn) e,.int .i64 s]=some (.int .i64 (hrA ks l s)):=by
 have h:=rhead_loop H ks ke cap l e s hz ht l.length 0 (by simp) (-1)
 rw [fnW_eq H.f149 rfl]
 unfold hrA
 generalize hrF ks l s l.length 0 (-1)=R at *
 simp only [w149_K0] at h
 try simp at h
 simp [w149,h,H.inl,inlB,H.pp,ppB]
end Go.D
end
section
namespace Go.D
open Go Go.Pav Go.Pw P
attribute [-simp] List.getElem_cons_drop
variable {C:WProg}
theorem Vp.visR {l:List En} {s v:Int} (h:Vp l s v):∃ a b:Nat,visF l s v=a∧visT l s v=b∧a≤b∧b≤l.length∧(∀ i,i < l.length→((top l i < s+v∧s < top l (i+1))↔(a≤i∧i < b))) ∧
 (0 < l.length→a < b∧top l a≤s∧s < top l (a+1)∧(s+v≤top l b∨b=l.length)):=by
 unfold visF visT
 by_cases c:l.length=0
 · rw [if_pos c,if_pos c]
   exact ⟨0,0,rfl,rfl,by omega,by omega,fun i hi=>by omega,fun q=>by omega⟩
 · rw [if_neg c,if_neg c]
   obtain ⟨p,q,p1,q1,hpq,a,b⟩:=h.ends (by omega)
   refine ⟨p,q+1,h.rowA_eq p1 a.1 a.2,by rw [h.rowA_eq q1 b.1 b.2];rfl,by omega,by omega,fun i hi=>?_,fun _=>⟨by omega,a.1,a.2,?_⟩⟩
   · rw [h.seen p1 q1 a b hi];omega
   · by_cases d:q+1=l.length
     · exact .inr d
     · left
       have:=h.mono (i:=q+1) (j:=l.length) (by omega) (by omega)
       rw [top_len] at this
       unfold imin at b
       split at b <;> omega
section
variable {r:Int} {l:List En}
end
end Go.D
end
section
namespace Go.D
open Go Go.Pav Go.Pw P
attribute [-simp] List.getElem_cons_drop
variable {C:WProg}
structure HasWo (C:WProg):Prop extends HasHd C where
 f131:C.fns.get 131=some w131
 f133:C.fns.get 133=some w133
 f137:C.fns.get 137=some w137
theorem Vp.sb2 {l:List En} {s v:Int} (hp:Vp l s v):0≤s∧s≤4611686018427387904:=by
 have h1:=hp.s0
 have h0:=hp.v0
 have h2:=hp.t
 have h3:=hp.nn
 unfold mostS at h1;split at h1 <;> omega
def nearF (l:List En) (o v k:Int) (i:Nat):Nat→Nat→Int
 | 0,_=>0
 | n+1,j=>(if (((j:Int) - i≤k)∧((i:Int) - j≤k))∧(top l j < o+v∧o < top l (j+1)) then 1 else 0)+nearF l o v k i n (j+1)
theorem nearF_nn (l:List En) (o v k:Int) (i:Nat):∀ n j,0≤nearF l o v k i n j∧nearF l o v k i n j≤n:=by
 intro n
 induction n with
 | zero=>intro j;simp [nearF]
 | succ n ih =>
  intro j
  have:=ih (j+1)
  rw [nearF]
  split <;> omega
theorem nearF_pos (l:List En) (o v k:Int) (i:Nat):∀ n j,0 < nearF l o v k i n j↔∃ q,j≤q∧q < j+n∧(((q:Int) - i≤k)∧((i:Int) - q≤k))∧(top l q < o+v∧o < top l (q+1)):=by
 intro n
 induction n with
 | zero => intro j; constructor
           · intro h;rw [nearF] at h;omega
           · rintro ⟨q,h1,h2,_⟩;omega
 | succ n ih =>
  intro j
  have hn:=nearF_nn l o v k i n (j+1)
  rw [nearF]
  constructor
  · intro h
    by_cases c:(((j:Int) - i≤k)∧((i:Int) - j≤k))∧(top l j < o+v∧o < top l (j+1))
    · exact ⟨j,by omega,by omega,c⟩
    · rw [if_neg c] at h
      obtain ⟨q,h1,h2,h3⟩:=(ih (j+1)).1 (by omega)
      exact ⟨q,by omega,by omega,h3⟩
  · rintro ⟨q,h1,h2,h3⟩
    by_cases c:q=j
    · subst c
      rw [if_pos h3];omega
    · have:=(ih (j+1)).2 ⟨q,by omega,by omega,h3⟩
      split <;> omega
theorem near_iff {l:List En} {o v:Int} (hp:Vp l o v) {a b K:Nat} (hv:∀ i,i < l.length→((top l i < o+v∧o < top l (i+1))↔(a≤i∧i < b))) (hab:a < b) (hbl:b≤l.length) {i:Nat} (hi:i < l.length) :
 0 < nearF l o v K i l.length 0↔(a - K≤i∧i < min l.length (b+K)):=by
 rw [nearF_pos]
 constructor
 · rintro ⟨q,_,h2,⟨h3,h4⟩,h5⟩
   have:=(hv q (by omega)).1 h5
   omega
 · rintro ⟨h1,h2⟩
   by_cases c:i < a
   · exact ⟨a,by omega,by omega,⟨by omega,by omega⟩,(hv a (by omega)).2 (by omega)⟩
   · by_cases d:i < b
     · exact ⟨i,by omega,by omega,⟨by omega,by omega⟩,(hv i (by omega)).2 (by omega)⟩
     · exact ⟨b - 1,by omega,by omega,⟨by omega,by omega⟩,(hv (b - 1) (by omega)).2 (by omega)⟩
theorem rw_in (H:HasWo C) (l:List En) (e:Bool) (o v:Int) (hp:Vp l o v) (K:Nat) (hK:K≤16) (i:Nat) (hi:i < l.length) (f t:Int) (ht:0≤t∧t≤2000) (R:AV)
 (hnext:w131_K0 C ⟨[(13,.int .i64 ((i:Int) - 1)),(12,.int .i64 (if 0 < nearF l o v K i l.length 0 then t+1 else t)),(11,.int .i64 (if 0 < nearF l o v K i l.length 0 then i else f)),(3,.int .i64 K),(2,.int .i64 v),(1,.int .i64 o),(0,.ro 6 (l.map eEn) e)],[],0⟩=some R) :
 ∀ m j,m+j=l.length→∀ c:Int,0≤c→c≤j→c+nearF l o v K i m j=nearF l o v K i l.length 0 →
 w131_K1 C ⟨[(15,.int .i64 j),(14,.int .i64 c),(13,.int .i64 i),(12,.int .i64 t),(11,.int .i64 f),(3,.int .i64 K),(2,.int .i64 v),(1,.int .i64 o),(0,.ro 6 (l.map eEn) e)],[],0⟩=some R:=by
 have hn:=hp.n
 intro m
 induction m with
 | zero =>
  intro j hj c h0 hc he
  have h3:¬ j < l.length:=by omega
  rw [nearF,Int.add_zero] at he
  rw [← he] at hnext
  simp only [w131_K0] at hnext
  simp only [w131_K1];rw [ck_unf w131_B1.eq_1]
  by_cases d:0 < c
  · rw [if_pos d,if_pos d] at hnext
    simp (disch:=omega) [ck_unf w131_c2.eq_1,ck_unf w131_c1.eq_1,h3,d,wI64,hnext]
  · rw [if_neg d,if_neg d] at hnext
    simp (disch:=omega) [ck_unf w131_c2.eq_1,ck_unf w131_c1.eq_1,h3,d,wI64,hnext]
 | succ m ih =>
  intro j hj c h0 hc he
  have h1:j < l.length:=by omega
  have hs:=rseen_ok H.toHasSz l e o v hp j h1
  rw [nearF] at he
  by_cases c1:(j:Int) - i≤K
  · by_cases c2:(i:Int) - j≤K
    · by_cases c3:top l j < o+v∧o < top l (j+1)
      · rw [if_pos ⟨⟨c1,c2⟩,c3⟩] at he
        rw [if_pos c3] at hs
        have this:=ih (j+1) (by omega) (c+1) (by omega) (by omega) (by omega)
        simp only [w131_K1] at this ⊢;rw [ck_unf w131_B1.eq_1]
        simp at this
        simp (disch:=omega) [h1,c1,c2,hs,wI64,H.inl,inlB,H.pp,ppB,this]
      · rw [if_neg (by rintro ⟨_,q⟩;exact c3 q)] at he
        rw [if_neg c3] at hs
        have this:=ih (j+1) (by omega) c (by omega) (by omega) (by omega)
        simp only [w131_K1] at this ⊢;rw [ck_unf w131_B1.eq_1]
        simp at this
        simp (disch:=omega) [h1,c1,c2,hs,wI64,H.inl,inlB,H.pp,ppB,this]
    · rw [if_neg (by rintro ⟨⟨_,q⟩,_⟩;exact c2 q)] at he
      have this:=ih (j+1) (by omega) c (by omega) (by omega) (by omega)
      simp only [w131_K1] at this ⊢;rw [ck_unf w131_B1.eq_1]
      simp at this
      simp (disch:=omega) [h1,c1,c2,wI64,H.inl,inlB,H.pp,ppB,this]
  · rw [if_neg (by rintro ⟨⟨q,_⟩,_⟩;exact c1 q)] at he
    have this:=ih (j+1) (by omega) c (by omega) (by omega) (by omega)
    simp only [w131_K1] at this ⊢;rw [ck_unf w131_B1.eq_1]
    simp at this
    simp (disch:=omega) [h1,c1,wI64,H.inl,inlB,H.pp,ppB,this]
def wdT (A B n:Nat):Int:=if n < B then (B:Int) - (max A n:Nat) else 0
def wdF (A B n:Nat):Int:=if n < B then (max A n:Nat) else 0
theorem rw_out (H:HasWo C) (l:List En) (e:Bool) (o v:Int) (hp:Vp l o v) (K:Nat) (hK:K≤16) {a b:Nat} (hv:∀ i,i < l.length→((top l i < o+v∧o < top l (i+1))↔(a≤i∧i < b))) (hab:a < b) (hbl:b≤l.length) :
 ∀ (n:Nat) (i:Int),i+1=n→n≤l.length →
 w131_K0 C ⟨[(13,.int .i64 i),(12,.int .i64 (wdT (a - K) (min l.length (b+K)) n)),(11,.int .i64 (wdF (a - K) (min l.length (b+K)) n)),(3,.int .i64 K),(2,.int .i64 v),(1,.int .i64 o),(0,.ro 6 (l.map eEn) e)],[],0⟩ =
  some (.tup [.int .i64 (a - K:Nat),.int .i64 (min l.length (b+K):Nat),.int .i64 0]):=by
 have hn:=hp.n
 intro n
 induction n with
 | zero =>
  intro i hi hl
  have h3:¬ 0≤i:=by omega
  have e1:wdT (a - K) (min l.length (b+K)) 0=((min l.length (b+K):Nat):Int) - (a - K:Nat):=by unfold wdT;rw [if_pos (by omega)];simp
  have e2:wdF (a - K) (min l.length (b+K)) 0=(a - K:Nat):=by unfold wdF;rw [if_pos (by omega)];simp
  rw [e1,e2]
  generalize hA:a - K=A at *
  generalize hB:min l.length (b+K)=B at *
  simp only [w131_K0];rw [ck_unf w131_B0.eq_1]
  have e3:(A:Int)+((B:Int) - A)=B:=by omega
  simp (disch:=omega) [ck_unf w131_c0.eq_1,h3,wI64,e3]
 | succ n ih =>
  intro i hi hl
  have ei:i=n:=by omega
  subst ei
  have h3:(0:Int)≤n:=by omega
  have hni:=near_iff hp (K:=K) hv hab hbl (i:=n) (by omega)
  have this:=ih ((n:Int) - 1) (by omega) (by omega)
  have ht:0≤wdT (a - K) (min l.length (b+K)) (n+1)∧wdT (a - K) (min l.length (b+K)) (n+1)≤2000:=by unfold wdT;split <;> omega
  have e1:(if 0 < nearF l o v K n l.length 0 then wdT (a - K) (min l.length (b+K)) (n+1)+1 else wdT (a - K) (min l.length (b+K)) (n+1))=wdT (a - K) (min l.length (b+K)) n:=by
   by_cases c:0 < nearF l o v K n l.length 0
   · have:=hni.1 c
     rw [if_pos c]
     unfold wdT
     rw [if_pos this.2]
     split <;> omega
   · have:¬ _:=fun q=>c (hni.2 q)
     rw [if_neg c]
     unfold wdT
     split <;> split <;> omega
  have e2:(if 0 < nearF l o v K n l.length 0 then (n:Int) else wdF (a - K) (min l.length (b+K)) (n+1))=wdF (a - K) (min l.length (b+K)) n:=by
   by_cases c:0 < nearF l o v K n l.length 0
   · have:=hni.1 c
     rw [if_pos c]
     unfold wdF
     rw [if_pos this.2]
     omega
   · have:¬ _:=fun q=>c (hni.2 q)
     rw [if_neg c]
     unfold wdF
     split <;> split <;> omega
  have k:=rw_in H l e o v hp K hK n (by omega) (wdF (a - K) (min l.length (b+K)) (n+1)) (wdT (a - K) (min l.length (b+K)) (n+1)) ht _ (by rw [e1,e2];exact this) l.length 0 (by simp) 0 (by omega) (by omega) (by omega)
  generalize wdT (a - K) (min l.length (b+K)) (n+1)=T at *
  generalize wdF (a - K) (min l.length (b+K)) (n+1)=F at *
  simp only [w131_K1] at k
  try simp at k
  simp only [w131_K0];rw [ck_unf w131_B0.eq_1]
  simp (disch:=omega) [h3,wI64,k]
theorem hdF_hrF {ks:List Kd} {l:List En} (hz:Szd l) {o:Int}:∀ (n i:Nat) (a:Int),n+i=l.length→hdF ks l o n i a=hrF ks l o n i a:=by
 intro n
 induction n with
 | zero=>intro i a _;rfl
 | succ n ih =>
  intro i a hi
  have hil:i < l.length:=by omega
  by_cases c:o < top l i
  · rw [hdF,if_pos c,hrF_stop hz (n+1) i a hi c]
  · rw [hdF,if_neg c,hrF,ih (i+1) _ (by omega)]
    congr 1
    rw [List.getElem?_eq_getElem hil,stk_get hil]
    simp only
    by_cases d:(kdAt ks l[i].i.t).st=true
    · rw [if_pos d,if_pos ⟨d,by omega⟩]
    · rw [if_neg d,if_neg (by rintro ⟨q,_⟩;exact d q)]
theorem hdA_eq {ks:List Kd} {l:List En} (hz:Szd l) {o:Int}:hdA ks l o=hrA ks l o:=hdF_hrF hz l.length 0 (-1) (by simp)
theorem hrA_bd' (ks:List Kd) (l:List En) (s:Int):-1≤hrA ks l s∧hrA ks l s < l.length:=hrF_bd ks l s l.length 0 (-1) (by simp) (by omega)
theorem rwindow_ok (H:HasWo C) (l:List En) (e:Bool) (o v k:Int) (hp:Vp l o v) (hk:0≤k∧k≤16):FnW C 131 [.ro 6 (l.map eEn) e,.int .i64 o,.int .i64 v,.int .i64 k]=some (.tup [.int .i64 (wF l o v k),.int .i64 (wT l o v k),.int .i64 0]):=by
 have hn:=hp.n
 obtain ⟨K,rfl⟩:∃ K:Nat,k=K:=⟨k.toNat,by omega⟩
 have hv0:=hp.v0
 have hsb:=hp.sb2
 have h1:=rviewport_ok H.toHasSz l e (by omega) (fun x hx=>by have:=hp.s x hx;omega) o v (by omega) (by omega)
 rw [vpE_of hp] at h1
 have c1:¬ (K:Int) < 0:=by omega
 have c2:¬ (16:Int) < K:=by omega
 obtain ⟨a,b,ha,hb,hab,hbl,hv,hw⟩:=hp.visR
 by_cases c:l.length=0
 · have e1:wF l o v K=0:=by
    unfold wF;rw [ha];unfold imax;split <;> omega
   have e2:wT l o v K=0:=by
    unfold wT;rw [hb];unfold imin;split <;> omega
   rw [e1,e2,fnW_eq H.f131 rfl]
   have hnil:l=[]:=List.eq_nil_of_length_eq_zero c
   subst hnil
   simp at h1
   simp (disch:=omega) [w131,ck_unf w131_B0.eq_1,ck_unf w131_c0.eq_1,h1,c1,c2,wI64,H.inl,inlB,H.pp,ppB]
 · obtain ⟨w1,w2⟩:=hw (by omega)
   have key:=rw_out H l e o v hp K (by omega) hv w1 hbl l.length ((l.length:Int) - 1) (by omega) (by omega)
   have e0:wdT (a - K) (min l.length (b+K)) l.length=0:=by unfold wdT;rw [if_neg (by omega)]
   have e0':wdF (a - K) (min l.length (b+K)) l.length=0:=by unfold wdF;rw [if_neg (by omega)]
   rw [e0,e0'] at key
   have e1:wF l o v K=(a - K:Nat):=by unfold wF;rw [ha];unfold imax;split <;> omega
   have e2:wT l o v K=(min l.length (b+K):Nat):=by unfold wT;rw [hb];unfold imin;split <;> omega
   rw [e1,e2,fnW_eq H.f131 rfl]
   generalize (a - K:Nat)=A at *
   generalize min l.length (b+K)=B at *
   simp only [w131_K0] at key
   try simp at key
   simp (disch:=omega) [w131,h1,c1,c2,wI64,key,H.inl,inlB,H.pp,ppB]
def raF (A B h:Int):Nat→Nat→List Int
 | 0,_=>[]
 | n+1,i=>if (A≤i∧(i:Int) < B)∨(i:Int)=h then (i:Int)::raF A B h n (i+1) else raF A B h n (i+1)
theorem raF_mem (A B h:Int):∀ (n i:Nat) (x:Int),x ∈ raF A B h n i↔((i:Int)≤x∧x < i+n)∧((A≤x∧x < B)∨x=h):=by
 intro n
 induction n with
 | zero=>intro i x;rw [raF];simp;omega
 | succ n ih =>
  intro i x
  rw [raF]
  by_cases c:(A≤i∧(i:Int) < B)∨(i:Int)=h
  · rw [if_pos c,List.mem_cons,ih (i+1) x]
    constructor
    · rintro (rfl | q)
      · exact ⟨by omega,c⟩
      · exact ⟨by omega,q.2⟩
    · rintro ⟨q1,q2⟩
      by_cases d:x=i
      · exact .inl d
      · exact .inr ⟨by omega,q2⟩
  · rw [if_neg c,ih (i+1) x]
    constructor
    · rintro ⟨q1,q2⟩;exact ⟨by omega,q2⟩
    · rintro ⟨q1,q2⟩
      refine ⟨?_,q2⟩
      by_cases d:x=i
      · rw [d] at q2;exact absurd q2 c
      · omega
theorem raF_ris (A B h:Int):∀ (n i:Nat) (p:Int),p < i→risB p (raF A B h n i)=true:=by
 intro n
 induction n with
 | zero=>intro i p _;rfl
 | succ n ih =>
  intro i p hp
  rw [raF]
  split
  · rw [risB,ih (i+1) i (by omega)];simp [hp]
  · exact ih (i+1) p (by omega)
theorem ris_lt:∀ (l:List Int) (p:Int),risB p l=true→∀ x ∈ l,p < x
 | [],_,_,x,hx=>by cases hx
 | y::r,p,h,x,hx=>by
  rw [risB,Bool.and_eq_true,decide_eq_true_eq] at h
  rcases List.mem_cons.1 hx with q | q
  · rw [q];exact h.1
  · have:=ris_lt r y h.2 x q;omega
theorem ris_eq:∀ (a b:List Int) (p q:Int),risB p a=true→risB q b=true→(∀ x,x ∈ a↔x ∈ b)→a=b
 | [],[],_,_,_,_,_=>rfl
 | [],y::s,_,_,_,_,h=>by have:=(h y).2 (by simp);cases this
 | x::r,[],_,_,_,_,h=>by have:=(h x).1 (by simp);cases this
 | x::r,y::s,p,q,ha,hb,h=>by
  rw [risB,Bool.and_eq_true,decide_eq_true_eq] at ha hb
  have e:x=y:=by
   rcases List.mem_cons.1 ((h x).1 (by simp)) with e | e
   · exact e
   · rcases List.mem_cons.1 ((h y).2 (by simp)) with e2 | e2
     · exact e2.symm
     · have h1:=ris_lt s y hb.2 x e
       have h2:=ris_lt r x ha.2 y e2
       omega
  subst e
  rw [ris_eq r s x x ha.2 hb.2 fun z=>?_]
  constructor
  · intro hz
    rcases List.mem_cons.1 ((h z).1 (by simp [hz])) with e | e
    · have:=ris_lt r x ha.2 z hz;omega
    · exact e
  · intro hz
    rcases List.mem_cons.1 ((h z).2 (by simp [hz])) with e | e
    · have:=ris_lt s x hb.2 z hz;omega
    · exact e
theorem raF_att {ks:List Kd} {l:List En} {o v k:Int} (hp:Vp l o v) (hk:0≤k∧k≤16):raF (wF l o v k) (wT l o v k) (hrA ks l o) l.length 0=attL ks l o v k:=by
 refine ris_eq _ _ (-1) (-1) (raF_ris _ _ _ _ _ _ (by omega)) (ris_att hp hk) fun x=>?_
 obtain ⟨a,b,ea,eb,hab,hbn⟩:=hp.win k hk
 rw [raF_mem,mem_att hp hk,hdA_eq hp.toSzd,ea,eb]
 have hbd:=hrA_bd' ks l o
 have hlt:0≤hrA ks l o→hrA ks l o < b:=by
  intro q
  obtain ⟨a',b',ha,hb,_,hbl,_,hw⟩:=hp.visR
  obtain ⟨w1,w2,w3,_⟩:=hw (by omega)
  have h1:=hdF_bd ks l hp.toSzd o a' ⟨w2,w3⟩ (by omega) l.length 0 (-1) (by simp) (by omega)
  rw [hdF_hrF hp.toSzd l.length 0 (-1) (by simp)] at h1
  change -1≤hrA ks l o∧hrA ks l o≤a' at h1
  unfold wT at eb
  rw [hb] at eb
  unfold imin at eb
  split at eb <;> omega
 constructor
 · rintro ⟨q1,q2 | q2⟩
   · exact .inr q2
   · by_cases c:x < a
     · exact .inl ⟨by omega,by omega,q2⟩
     · exact .inr ⟨by omega,by have:=hlt (by omega);omega⟩
 · rintro (⟨q1,q2,q3⟩ | q)
   · exact ⟨by have:=hlt q1;omega,.inr q3⟩
   · exact ⟨by omega,.inl q⟩
theorem ra_loop (H:HasWo C) (ks:List Kd) (ke:Bool) (cap:Int) (l:List En) (e:Bool) (o:Int) (hz:Szd l) (ht:∀ x ∈ l,0≤x.i.t∧x.i.t < ks.length) (A B:Int):∀ n i,n+i=l.length→∀ G:List Int,G.length≤i →
 w133_K0 C ⟨[(16,.int .i64 i),(15,.sl 0 1 0 G.length G.length false),(13,.int .i64 B),(12,.int .i64 A),(5,.ptr 1 0 0),(2,.int .i64 o),(1,.ro 6 (l.map eEn) e)],[(0,.cells 1 (G.map eI) true true),(1,.cells 2 [[.ro 9 (ks.map eKd) ke,.int .i64 cap]] true true)],2⟩ =
  some (.tup [.ro 1 ((G++raF A B (hrA ks l o) n i).map eI) false,.int .i64 0]):=by
 have hn:=hz.n
 have hh:=rhead_ok H.toHasHd ks ke cap l e o hz ht
 intro n
 induction n with
 | zero =>
  intro i hi G hG
  have h3:¬ i < l.length:=by omega
  rw [raF,List.append_nil]
  have e2:List.take G.length (List.map eI G)=List.map eI G:=List.take_of_length_le (by simp)
  simp only [w133_K0];rw [ck_unf w133_B0.eq_1]
  simp (disch:=omega) [ck_unf w133_c0.eq_1,h3,e2]
 | succ n ih =>
  intro i hi G hG
  have h1:i < l.length:=by omega
  have hfit:(G.length+1) * 9≤35184372088832:=by omega
  rw [raF]
  generalize hrA ks l o=h at *
  have key:∀ T:Bool,((A≤i∧(i:Int) < B)∨(i:Int)=h)=(T=true)→True:=fun _ _=>trivial
  by_cases c:(A≤i∧(i:Int) < B)∨(i:Int)=h
  · rw [if_pos c]
    have this:=ih (i+1) (by omega) (G++[(i:Int)]) (by simp;omega)
    rw [List.append_assoc] at this
    generalize raF A B h n (i+1)=S at *
    by_cases d:A≤i
    · by_cases d2:(i:Int) < B
      · simp only [w133_K0] at this ⊢;rw [ck_unf w133_B0.eq_1]
        simp at this
        simp (disch:=omega) [h1,d,d2,hfit,wI64,H.inl,inlB,H.pp,ppB,this]
      · have d3:(i:Int)=h:=by omega
        rw [← d3] at hh
        simp only [w133_K0] at this ⊢;rw [ck_unf w133_B0.eq_1]
        simp at this
        simp (disch:=omega) [h1,d,d2,hh,hfit,wI64,H.inl,inlB,H.pp,ppB,this]
    · have d3:(i:Int)=h:=by omega
      rw [← d3] at hh
      simp only [w133_K0] at this ⊢;rw [ck_unf w133_B0.eq_1]
      simp at this
      simp (disch:=omega) [h1,d,hh,hfit,wI64,H.inl,inlB,H.pp,ppB,this]
  · rw [if_neg c]
    have this:=ih (i+1) (by omega) G (by omega)
    have d3:¬ (i:Int)=h:=by omega
    generalize raF A B h n (i+1)=S at *
    by_cases d:A≤i
    · have d2:¬ (i:Int) < B:=by omega
      simp only [w133_K0] at this ⊢;rw [ck_unf w133_B0.eq_1]
      simp at this
      simp (disch:=omega) [h1,d,d2,d3,hh,wI64,H.inl,inlB,H.pp,ppB,this]
    · simp only [w133_K0] at this ⊢;rw [ck_unf w133_B0.eq_1]
      simp at this
      simp (disch:=omega) [h1,d,d3,hh,wI64,H.inl,inlB,H.pp,ppB,this]
theorem rattached_ok (H:HasWo C) (ks:List Kd) (ke:Bool) (cap:Int) (hr:RuIn ks) (l:List En) (e:Bool) (hin:∀ x ∈ l,EnIn x) (hck:ckE ks cap l=0) (ht:∀ x ∈ l,0≤x.i.t∧x.i.t < ks.length) (o v k:Int) (hp:Vp l o v) (hk:0≤k∧k≤16) :
 FnW C 133 [aR ks ke cap,.ro 6 (l.map eEn) e,.int .i64 o,.int .i64 v,.int .i64 k]=some (.tup [.ro 1 ((attL ks l o v k).map eI) false,.int .i64 0]):=by
 have hn:=hp.n
 have h1:=rlcheck_ok H.toHasK ks ke cap hr l e (by omega) hin
 rw [hck] at h1
 have h2:=rwindow_ok H l e o v k hp hk
 have key:=ra_loop H ks ke cap l e o hp.toSzd ht (wF l o v k) (wT l o v k) l.length 0 (by simp) [] (by simp)
 rw [raF_att hp hk,List.nil_append] at key
 generalize attL ks l o v k=S at *
 generalize wF l o v k=A at *
 generalize wT l o v k=B at *
 rw [fnW_eq H.f133 rfl]
 simp only [w133_K0] at key
 try simp at key
 simp (disch:=omega) [w133,h1,h2,key,H.inl,inlB,H.pp,ppB]
def unkF (l:List En) (a:List Int):List Int:=a.filter fun i=>match l[i.toNat]? with | some x=>!x.kn | none=>false
theorem ru_loop (H:HasWo C) (l:List En) (e f:Bool) (a:List Int) (ha:a.length≤1000000) (hin:∀ x ∈ a,0≤x∧x < l.length):∀ n i,n+i=a.length→∀ G:List Int,G.length≤i →
 w137_K0 C ⟨[(6,.int .i64 i),(5,.sl 0 1 0 G.length G.length false),(1,.ro 1 (a.map eI) f),(0,.ro 6 (l.map eEn) e)],[(0,.cells 1 (G.map eI) true true)],1⟩=some (.ro 1 ((G++unkF l (a.drop i)).map eI) false):=by
 intro n
 induction n with
 | zero =>
  intro i hi G hG
  have h3:¬ i < a.length:=by omega
  have h1:a.drop i=[]:=List.drop_eq_nil_of_le (by omega)
  have e2:List.take G.length (List.map eI G)=List.map eI G:=List.take_of_length_le (by simp)
  rw [h1]
  simp only [w137_K0];rw [ck_unf w137_B0.eq_1]
  simp (disch:=omega) [ck_unf w137_c0.eq_1,h3,e2,unkF]
 | succ n ih =>
  intro i hi G hG
  have h1:i < a.length:=by omega
  have hx:=hin _ (List.getElem_mem h1)
  obtain ⟨t,hT⟩:∃ t:Nat,a[i]=t:=⟨a[i].toNat,by omega⟩
  have htl:t < l.length:=by omega
  have hfit:(G.length+1) * 9≤35184372088832:=by omega
  rw [drop_cons h1]
  cases c:l[t].kn
  · have hu:unkF l (a[i]::a.drop (i+1))=(t:Int)::unkF l (a.drop (i+1)):=by
     unfold unkF
     rw [List.filter_cons,hT,show (t:Int).toNat=t from rfl,List.getElem?_eq_getElem htl]
     simp [c]
    have this:=ih (i+1) (by omega) (G++[(t:Int)]) (by simp;omega)
    rw [List.append_assoc] at this
    rw [hu]
    generalize unkF l (a.drop (i+1))=S at *
    simp only [w137_K0] at this ⊢;rw [ck_unf w137_B0.eq_1]
    simp at this
    simp (disch:=omega) [h1,hT,htl,c,hfit,wI64,H.inl,inlB,H.pp,ppB,this]
  · have hu:unkF l (a[i]::a.drop (i+1))=unkF l (a.drop (i+1)):=by
     unfold unkF
     rw [List.filter_cons,hT,show (t:Int).toNat=t from rfl,List.getElem?_eq_getElem htl]
     simp [c]
    have this:=ih (i+1) (by omega) G (by omega)
    rw [hu]
    generalize unkF l (a.drop (i+1))=S at *
    simp only [w137_K0] at this ⊢;rw [ck_unf w137_B0.eq_1]
    simp at this
    simp (disch:=omega) [h1,hT,htl,c,wI64,H.inl,inlB,H.pp,ppB,this]
theorem runknown_ok (H:HasWo C) (l:List En) (e f:Bool) (a:List Int) (ha:a.length≤1000000) (hin:∀ x ∈ a,0≤x∧x < l.length):FnW C 137 [.ro 6 (l.map eEn) e,.ro 1 (a.map eI) f]=some (.ro 1 ((unkF l a).map eI) false):=by
 have k:=ru_loop H l e f a ha hin a.length 0 (by simp) [] (by simp)
 rw [List.drop_zero,List.nil_append] at k
 generalize unkF l a=S at *
 rw [fnW_eq H.f137 rfl]
 simp only [w137_K0] at k
 try simp at k
 simp (disch:=omega) [w137,k,wI64,H.inl,inlB,H.pp,ppB]
structure HasUn (C:WProg):Prop extends HasWo C where
 f276:C.fns.get 276=some w276
 f426:C.fns.get 426=some w426
 f2004:C.fns.get 2004=some w2004
 f2005:C.fns.get 2005=some w274
 f2006:C.fns.get 2006=some w275
theorem isk_ok (H:HasUn C) (l:List En) (e:Bool) (t:Nat) (ht:t < l.length):FnW C 276 [.int .i64 t,.rop [.ro 6 (l.map eEn) e]]=some (.bool l[t].kn):=by
 rw [fnW_eq H.f276 rfl]
 simp (disch:=omega) [w276,ht,H.inl,inlB,H.pp,ppB]
theorem ex_rn (H:HasUn C) (G:List Int) (r:Nat) (hN:G.length≤1026) (hne:¬ G=[]) :
 RnW C 2005 [.sl 6 1 0 G.length G.length true] [(6,.cells 1 (G.map eI++List.replicate r [.int .i64 0]) true true)] 14=some (.sl 20 1 0 G.length G.length true,[(6,.cells 1 (G.map eI++List.replicate r [.int .i64 0]) true true),(20,.cells 1 (G.map eI) true true)],27):=by
 have hf:G.length * 9≤35184372088832:=by omega
 have ht:List.take G.length (G.map eI++List.replicate r [.int .i64 0])=G.map eI:=by rw [List.take_append_of_le_length (by simp)];exact List.take_of_length_le (by simp)
 have hp:0 < G.length:=List.length_pos_iff.2 hne
 have hp2:¬ G.length=0:=by omega
 have ht2:List.take G.length (G.map eI)=G.map eI:=List.take_of_length_le (by simp)
 rw [rnW_eq (args:=[.sl 6 1 0 G.length G.length true]) H.f2005 rfl]
 simp (disch:=omega) [w274,hne,hf,ht,ht2,hp,hp2,wI64,H.inl,inlB,H.pp,ppB]
theorem seqI_cons (i m:Nat):seqI i (m+1)=(i:Int)::seqI (i+1) m:=by
 unfold seqI;rw [List.range_succ_eq_map,List.map_cons,List.map_map]
 refine congr (congrArg _ (by simp)) (List.map_congr_left fun j _=>?_)
 simp only [Function.comp];omega
def AtR (x:Option (AV × WHeap × Nat)) (S:List Int):Prop :=
 (S=[]∧∃ h n,x=some (.tup [.ro 1 [] true,.int .i64 0],h,n)) ∨
 (S≠[]∧∃ r,x=some (.tup [.sl 20 1 0 S.length S.length true,.int .i64 0],[(6,.cells 1 (S.map eI++List.replicate r [.int .i64 0]) true true),(20,.cells 1 (S.map eI) true true)],29))
theorem attH_loop (H:HasUn C) (N a b:Nat) (hN:N≤1026) (hb:b≤1024):∀ (m i:Nat),i+m=b→∀ G:List Int,∀ r:Nat,G.length+r=N→m≤r →
 AtR (CK C 6 (fnEndW [.tmp 10,.tmp 11]) [.sq w2004_L0,.bk 0 ⟨true,[15],[]⟩,.sq w2004_c0] w2004_B0 ⟨[(17,.int .i64 i),(15,.sl 6 1 0 G.length N true),(13,.ptr 7 0 0)],[(6,.cells 1 (G.map eI++List.replicate r [.int .i64 0]) true true),(7,.cells 2 [[.int .i64 a,.int .i64 b]] true true)],8⟩) (G++seqI i m):=by
 intro m
 induction m with
 | zero =>
  intro i hi G r hr hm
  have h3:¬ i < b:=by omega
  have h5:G.length≤N:=by omega
  have hq:G++seqI i 0=G:=by simp [seqI]
  rw [hq]
  by_cases hG:G=[]
  · subst hG
    refine .inl ⟨rfl,?_⟩
    have hx:∀ Hh,∃ n,RnW C 2005 [.sl 6 1 0 0 0 true] Hh 14=some (.ro 1 [] true,Hh,n):=by
     intro Hh
     rw [rnW_eq (args:=[.sl 6 1 0 0 0 true]) H.f2005 rfl]
     simp (disch:=omega) [w274,wI64,H.inl,inlB,H.pp,ppB]
    obtain ⟨nx,hx⟩:=hx [(6,.cells 1 (List.replicate r [.int .i64 0]) true true)]
    rw [ck_unf w2004_B0.eq_1]
    simp (disch:=omega) [ck_unf w2004_c0.eq_1,h3,hx,H.inl,inlB,H.pp,ppB]
  · have hp:0 < G.length:=List.length_pos_iff.2 hG
    refine .inr ⟨hG,r,?_⟩
    have hx:=ex_rn H G r (by omega) hG
    rw [ck_unf w2004_B0.eq_1]
    simp (disch:=omega) [ck_unf w2004_c0.eq_1,h3,h5,hp,hx,H.inl,inlB,H.pp,ppB]
 | succ m ih =>
  intro i hi G r hr hm
  obtain ⟨r,rfl⟩:∃ s,r=s+1:=⟨r - 1,by omega⟩
  have h1:i < b:=by omega
  have h5:G.length+1≤N:=by omega
  have this:=ih (i+1) (by omega) (G++[(i:Int)]) r (by simp;omega) (by omega)
  rw [seqI_cons]
  rw [show G++(i:Int)::seqI (i+1) m=(G++[(i:Int)])++seqI (i+1) m by simp]
  have h6:List.take G.length (List.map eI G++List.replicate (r+1) [AV.int .i64 0])=List.map eI G:=by rw [List.take_left' (by simp)]
  have h7:List.drop (G.length+1) (List.map eI G++List.replicate (r+1) [AV.int .i64 0])=List.replicate r [AV.int .i64 0]:=by
   rw [List.drop_append];simp
  generalize (G++[(i:Int)])++seqI (i+1) m=S at *
  rw [ck_unf w2004_B0.eq_1]
  simp at this
  simp (disch:=omega) [h1,h5,h6,h7,wI64,H.inl,inlB,H.pp,ppB,this]
theorem attH_ok (H:HasUn C) (ks:List Kd) (ke:Bool) (cap:Int) (hr:RuIn ks) (l:List En) (e:Bool) (hin:∀ x ∈ l,EnIn x) (hck:ckE ks cap l=0) (ht:∀ x ∈ l,0≤x.i.t∧x.i.t < ks.length) (o v k:Int) (hp:Vp l o v) (hk:0≤k∧k≤16) :
 AtR (RnW C 2004 [aR ks ke cap,aL l e,.int .i64 o,.int .i64 v,.int .i64 k] [] 6) (attL ks l o v k):=by
 have hn:=hp.n
 have h1:=lcheck_ok H.toHasK ks ke cap hr l e (by omega) hin
 rw [hck] at h1
 have h2:=window_ok H.toHasAt l e o v k hp hk
 have h3:=whead_ok H.toHasAt ks ke cap l e o hp.toSzd ht
 obtain ⟨a,b,ea,eb,hab,hbn⟩:=hp.win k hk
 rw [ea,eb] at h2
 unfold attL
 rw [ea,eb]
 simp only [Int.toNat_natCast]
 obtain ⟨N,hN⟩:∃ N:Nat,N=b - a+1:=⟨_,rfl⟩
 have hN2:(b:Int) - a+1=N:=by omega
 have hN3:N * 9≤35184372088832:=by omega
 have hs:=attH_loop H N a b (by omega) (by omega) (b - a) a (by omega)
 rw [rnW_eq (args:=[aR ks ke cap,aL l e,.int .i64 o,.int .i64 v,.int .i64 k]) H.f2004 rfl [] 6]
 generalize hdA ks l o=h at *
 by_cases c:0≤h∧h < (a:Int)
 · rw [if_pos c]
   have:=hs [h] (b - a) (by simp;omega) (by omega)
   have hr1:N - 1=b - a:=by omega
   have hd:List.drop 1 (List.replicate N [AV.int .i64 0])=List.replicate (b - a) [AV.int .i64 0]:=by rw [List.drop_replicate,hr1]
   have hN1:1≤N:=by omega
   generalize [h]++seqI a (b - a)=R at *
   simp at this
   simp (disch:=omega) [w2004,h1,h2,h3,c.1,c.2,wI64,hN2,hN3,hN1,hr1,this,H.inl,inlB,H.pp,ppB]
 · rw [if_neg c]
   have:=hs [] N (by simp) (by omega)
   generalize []++seqI a (b - a)=R at *
   simp at this
   by_cases c1:0≤h
   · have c2:¬ h < (a:Int):=fun q=>c ⟨c1,q⟩
     simp (disch:=omega) [w2004,h1,h2,h3,c1,c2,wI64,hN2,hN3,this,H.inl,inlB,H.pp,ppB]
   · simp (disch:=omega) [w2004,h1,h2,h3,c1,wI64,hN2,hN3,this,H.inl,inlB,H.pp,ppB]
def knB (l:List En) (x:Int):Bool:=match l[x.toNat]? with | some e=>e.kn | none=>false
def fkF (l:List En):List Int→Nat→Int
 | [],_=>-1
 | x::r,i=>if knB l x=true then i else fkF l r (i+1)
theorem isk2 (H:HasUn C) (l:List En) (e:Bool) (x:Int) (hx:0≤x∧x < l.length):FnW C 276 [.int .i64 x,.rop [.ro 6 (l.map eEn) e]]=some (.bool (knB l x)):=by
 obtain ⟨t,rfl⟩:∃ t:Nat,x=t:=⟨x.toNat,by omega⟩
 have ht:t < l.length:=by omega
 rw [isk_ok H l e t ht]
 unfold knB
 rw [show (t:Int).toNat=t from rfl,List.getElem?_eq_getElem ht]
theorem ix_loop (H:HasUn C) (l:List En) (e f:Bool) (a:List Int) (ha:a.length≤2000) (hin:∀ x ∈ a,0≤x∧x < l.length):∀ n i,n+i=a.length →
 w426_K0 C ⟨[(8,.int .i64 i),(7,.int .i64 a.length),(1,.fn 276 [.rop [.ro 6 (l.map eEn) e]]),(0,.ro 1 (a.map eI) f)],[],0⟩=some (.int .i64 (fkF l (a.drop i) i)):=by
 intro n
 induction n with
 | zero =>
  intro i hi
  have h3:¬ i < a.length:=by omega
  have h1:a.drop i=[]:=List.drop_eq_nil_of_le (by omega)
  rw [h1,fkF]
  simp only [w426_K0];rw [ck_unf w426_B0.eq_1]
  simp (disch:=omega) [ck_unf w426_c0.eq_1,h3]
 | succ n ih =>
  intro i hi
  have h1:i < a.length:=by omega
  have hk:=isk2 H l e a[i] (hin _ (List.getElem_mem h1))
  rw [drop_cons h1,fkF]
  cases c:knB l a[i]
  · rw [if_neg (by simp)]
    rw [c] at hk
    have this:=ih (i+1) (by omega)
    generalize fkF l (a.drop (i+1)) (i+1)=R at *
    simp only [w426_K0] at this ⊢;rw [ck_unf w426_B0.eq_1]
    simp at this
    simp (disch:=omega) [h1,hk,wI64,H.inl,inlB,H.pp,ppB,this]
  · rw [if_pos rfl]
    rw [c] at hk
    simp only [w426_K0];rw [ck_unf w426_B0.eq_1]
    simp (disch:=omega) [h1,hk,wI64,H.inl,inlB,H.pp,ppB]
theorem kindex_ok (H:HasUn C) (l:List En) (e f:Bool) (a:List Int) (ha:a.length≤2000) (hin:∀ x ∈ a,0≤x∧x < l.length) :
 FnW C 426 [.ro 1 (a.map eI) f,.fn 276 [.rop [.ro 6 (l.map eEn) e]]]=some (.int .i64 (fkF l a 0)):=by
 have k:=ix_loop H l e f a ha hin a.length 0 (by simp)
 rw [List.drop_zero] at k
 generalize fkF l a 0=R at *
 rw [fnW_eq H.f426 rfl]
 simp only [w426_K0] at k
 try simp at k
 simp (disch:=omega) [w426,k,H.inl,inlB,H.pp,ppB]
def nkF (l:List En) (a:List Int):List Int:=a.filter fun i=>!knB l i
theorem nk_unk (l:List En) (a:List Int) (hin:∀ x ∈ a,0≤x∧x < l.length):nkF l a=unkF l a:=by
 unfold nkF unkF
 refine List.filter_congr fun x hx=>?_
 have h:=hin x hx
 obtain ⟨t,rfl⟩:∃ t:Nat,x=t:=⟨x.toNat,by omega⟩
 have ht:t < l.length:=by omega
 unfold knB
 rw [show (t:Int).toNat=t from rfl,List.getElem?_eq_getElem ht]
theorem fk_none (l:List En):∀ (a:List Int) (i:Nat),fkF l a i=-1→nkF l a=a:=by
 intro a
 induction a with
 | nil=>intro i _;rfl
 | cons x r ih =>
  intro i h
  rw [fkF] at h
  split at h
  · omega
  · rename_i c
    have:=ih (i+1) h
    unfold nkF at this ⊢
    rw [List.filter_cons,if_pos (by simpa using c),this]
theorem fk_some (l:List En):∀ (a:List Int) (i:Nat),fkF l a i≠-1→∃ k:Nat,fkF l a i=((i+k:Nat):Int)∧∃ h:k < a.length,knB l a[k]=true∧nkF l (a.take k)=a.take k:=by
 intro a
 induction a with
 | nil=>intro i h;exact absurd rfl h
 | cons x r ih =>
  intro i h
  rw [fkF] at h ⊢
  split
  · rename_i c
    exact ⟨0,by simp,by simp,by simpa using c,by simp [nkF]⟩
  · rename_i c
    rw [if_neg c] at h
    obtain ⟨k,h1,h2,h3,h4⟩:=ih (i+1) h
    refine ⟨k+1,by rw [h1];congr 1;omega,by simpa using h2,by simpa using h3,?_⟩
    rw [List.take_succ_cons]
    unfold nkF at h4 ⊢
    rw [List.filter_cons,if_pos (by simpa using c),h4]
theorem nk_take (l:List En) (a:List Int) (j:Nat) (h:j < a.length):nkF l (a.take (j+1))=nkF l (a.take j)++(if knB l a[j]=true then [] else [a[j]]):=by
 unfold nkF
 rw [List.take_succ_eq_append_getElem h,List.filter_append]
 congr 1
 rw [List.filter_cons]
 cases knB l a[j] <;> simp
theorem del_loop (H:HasUn C) (l:List En) (e:Bool) (a:List Int) (ha:a.length≤2000) (hin:∀ x ∈ a,0≤x∧x < l.length) (XS:List (List AV)) (n:Nat) (hn:20 < n):∀ m j,m+j=a.length→∀ (c:Nat) (B:List Int),c < j→B.length=a.length→B.take c=nkF l (a.take j)→B.drop j=a.drop j →
 ∃ Z n2,20 < n2∧CK C n (fnEndW [.tmp 4]) [.sq w275_L0,.bk 0 ⟨true,[5,0],[]⟩,.sq w275_c0] w275_B0 ⟨[(6,.int .i64 j),(5,.int .i64 c),(1,.fn 276 [.rop [.ro 6 (l.map eEn) e]]),(0,.sl 20 1 0 a.length a.length true)],[(6,.cells 1 XS true true),(20,.cells 1 (B.map eI) true true)],n⟩ =
  some (.sl 20 1 0 (nkF l a).length a.length true,[(6,.cells 1 XS true true),(20,.cells 1 ((nkF l a).map eI++Z) true true)],n2):=by
 have hn6:6 < n:=by omega
 intro m
 induction m with
 | zero =>
  intro j hj c B hc hB h1 h2
  have h3:¬ j < a.length:=by omega
  have h4:a.take j=a:=List.take_of_length_le (by omega)
  rw [h4] at h1
  have h5:(nkF l a).length=c:=by rw [← h1,List.length_take];omega
  have h6:List.take c (B.map eI)=(nkF l a).map eI:=by rw [← List.map_take,h1]
  have h7:c≤a.length:=by omega
  have hca:c < a.length:=by omega
  have hpa:0 < a.length:=by omega
  have h11:List.drop a.length (B.map eI)=[]:=List.drop_eq_nil_of_le (by simp;omega)
  have h8:¬ a.length - c=0:=by omega
  have h9:c+(a.length - c)≤B.length:=by omega
  have h10:List.drop (c+(a.length - c)) (B.map eI)=[]:=List.drop_eq_nil_of_le (by simp;omega)
  refine ⟨List.replicate (a.length - c) [.int .i64 0],n+8,by omega,?_⟩
  rw [h5,ck_unf w275_B0.eq_1]
  simp (disch:=omega) [ck_unf w275_c0.eq_1,h3,h6,h7,hca,hpa,h11,h8,h9,h10,hn,hn6,hB,H.inl,inlB,H.pp,ppB]
 | succ m ih =>
  intro j hj c B hc hB h1 h2
  have hjl:j < a.length:=by omega
  have hjB:j < B.length:=by omega
  have hcB:c < B.length:=by omega
  have hca:c < a.length:=by omega
  have hv:B[j]=a[j]:=by
   have q:=congrArg (·[0]?) h2
   simp only [List.getElem?_drop,Nat.add_zero,List.getElem?_eq_getElem hjB,List.getElem?_eq_getElem hjl,Option.some.injEq] at q
   exact q
  have hk:=isk2 H l e a[j] (hin _ (List.getElem_mem hjl))
  have h2':B.drop (j+1)=a.drop (j+1):=by
   have:=congrArg (List.drop 1) h2
   simpa [List.drop_drop] using this
  have ht:=nk_take l a j hjl
  cases c1:knB l a[j]
  · rw [c1] at hk ht
    obtain ⟨Z,n2,hn2,this⟩:=ih (j+1) (by omega) (c+1) (B.set c a[j]) (by omega) (by simpa using hB) (by
     rw [ht,← h1,if_neg (by simp),List.take_succ_eq_append_getElem (by simpa using hcB)]
     rw [List.take_set_of_le (by omega)];simp) (by rw [List.drop_set_of_lt (by omega)];exact h2')
    refine ⟨Z,n2,hn2,?_⟩
    rw [ck_unf w275_B0.eq_1]
    simp at this
    simp (disch:=omega) [hjl,hjB,hcB,hca,hv,hk,hn,hn6,hB,wI64,H.inl,inlB,H.pp,ppB,this]
  · rw [c1] at hk ht
    obtain ⟨Z,n2,hn2,this⟩:=ih (j+1) (by omega) c B (by omega) hB (by rw [ht,h1];simp) h2'
    refine ⟨Z,n2,hn2,?_⟩
    rw [ck_unf w275_B0.eq_1]
    simp at this
    simp (disch:=omega) [hjl,hjB,hcB,hca,hv,hk,hn,hn6,hB,wI64,H.inl,inlB,H.pp,ppB,this]
theorem del_ok (H:HasUn C) (l:List En) (e:Bool) (a:List Int) (hne:a≠[]) (ha:a.length≤2000) (hin:∀ x ∈ a,0≤x∧x < l.length) (XS:List (List AV)) (n:Nat) (hn:20 < n) :
 ∃ Z n2,20 < n2∧RnW C 2006 [.sl 20 1 0 a.length a.length true,.fn 276 [.rop [.ro 6 (l.map eEn) e]]] [(6,.cells 1 XS true true),(20,.cells 1 (a.map eI) true true)] n =
  some (.sl 20 1 0 (nkF l a).length a.length true,[(6,.cells 1 XS true true),(20,.cells 1 ((nkF l a).map eI++Z) true true)],n2):=by
 have hi:=kindex_ok H l e true a ha hin
 have hn6:6 < n:=by omega
 have htk:List.take a.length (a.map eI)=a.map eI:=List.take_of_length_le (by simp)
 rw [rnW_eq (args:=[.sl 20 1 0 a.length a.length true,.fn 276 [.rop [.ro 6 (l.map eEn) e]]]) H.f2006 rfl]
 by_cases c:fkF l a 0=-1
 · rw [c] at hi
   rw [fk_none l a 0 c]
   refine ⟨[],n+9,by omega,?_⟩
   simp (disch:=omega) [w275,hi,htk,H.inl,inlB,H.pp,ppB]
 · obtain ⟨k,h1,h2,h3,h4⟩:=fk_some l a 0 c
   rw [Nat.zero_add] at h1
   rw [h1] at hi
   have hkn:¬ (k:Int)=-1:=by omega
   obtain ⟨Z,n2,hn2,this⟩:=del_loop H l e a ha hin XS n hn (a.length - (k+1)) (k+1) (by omega) k a (by omega) rfl (by
    rw [nk_take l a k h2,h4,if_pos h3,List.append_nil]) rfl
   refine ⟨Z,n2,hn2,?_⟩
   simp at this
   simp (disch:=omega) [w275,hi,htk,hkn,hn,hn6,wI64,H.inl,inlB,H.pp,ppB,this]
end Go.D
end
section
namespace Go.D
open Go Go.Pav Go.Pw P
set_option maxHeartbeats 1000000
attribute [-simp] List.getElem_cons_drop
variable {C:WProg}
structure HasUf (C:WProg):Prop extends HasUn C where
 f4001:C.fns.get 4001=some w4001
 f4002:C.fns.get 4002=some w274
theorem bare_ints (K:List Int):(K.map eI).all bareL=true:=by
 simp [List.all_map,List.all_eq_true,bareL,bareV]
def exR (nid:Nat) (K:List Int):AV × WUpd:=if K=[] then (.ro 1 [] true,[]) else (.sl nid 1 0 K.length K.length true,[(nid,some (.cells 1 (K.map eI) true true))])
theorem exf_ok (H:HasUf C) (nid:Nat) (K:List Int) (e:Bool) (hn:K.length≤2000):freshCallW (RnW C) 4002 [.ro 1 (K.map eI) e] nid=some (exR nid K):=by
 unfold exR
 by_cases c:K=[]
 · subst c
   have hr:∃ m,RnW C 4002 [.ro 1 [] e] [] 0=some (.ro 1 [] true,[],m):=by
    rw [rnW_eq H.f4002 rfl]
    simp (disch:=omega) [w274,wI64,H.inl,inlB,H.pp,ppB]
   obtain ⟨m,hr⟩:=hr
   unfold freshCallW
   rw [List.map_nil,hr]
   simp [ob,ownOf,Pav.get,freshOfW,hand,om]
 · rw [if_neg c]
   have h2:K.length * 9≤35184372088832:=by omega
   have hT:List.take K.length (List.map eI K)=List.map eI K:=List.take_of_length_le (by simp)
   have hp:0 < K.length:=List.length_pos_iff.2 c
   have hp2:¬ K.length=0:=by omega
   have hr:∃ b m,RnW C 4002 [.ro 1 (K.map eI) e] [] 0=some (.sl b 1 0 K.length K.length true,[(b,.cells 1 (K.map eI) true true)],m):=by
    rw [rnW_eq H.f4002 rfl]
    simp (disch:=omega) [w274,c,h2,hT,hp,hp2,wI64,H.inl,inlB,H.pp,ppB]
   obtain ⟨b,m,hr⟩:=hr
   unfold freshCallW
   rw [hr]
   simp [ob,ownOf,Pav.get,freshOfW,hand,om]
def unR (nid:Nat) (K:List Int):AV × WUpd:=if K=[] then (.tup [.ro 1 [] true,.int .i64 0],[]) else (.tup [.sl nid 1 0 K.length K.length true,.int .i64 0],[(nid,some (.cells 1 (K.map eI) true true))])
theorem unf_ok (H:HasUf C) (ks:List Kd) (ke:Bool) (cap:Int) (hr:RuIn ks) (l:List En) (e:Bool) (hin:∀ x ∈ l,EnIn x) (hck:ckE ks cap l=0) (ht:∀ x ∈ l,0≤x.i.t∧x.i.t < ks.length) (o v k:Int) (hp:Vp l o v) (hk:0≤k∧k≤16) (nid:Nat) :
 freshCallW (RnW C) 4001 [aR ks ke cap,aL l e,.int .i64 o,.int .i64 v,.int .i64 k] nid=some (unR nid (unkF l (attL ks l o v k))):=by
 have h1:=attH_ok H.toHasUn ks ke cap hr l e hin hck ht o v k hp hk
 have hal:=(att_len (ks:=ks) hp hk).1
 have hai:∀ x ∈ attL ks l o v k,0≤x∧x < l.length:=by
  intro x hx
  rw [← raF_att hp hk,raF_mem] at hx
  omega
 rw [← nk_unk l _ hai]
 rcases h1 with ⟨hS,h,n,h1⟩ | ⟨hS,r,h1⟩
 · rw [hS]
   have hx:=kindex_ok H.toHasUn l e true [] (by simp) (by simp)
   have hd:∀ h n,∃ n2,RnW C 2006 [.ro 1 [] true,.fn 276 [.rop [.ro 6 (l.map eEn) e]]] h n=some (.ro 1 [] true,h,n2):=by
    intro h n
    rw [rnW_eq (args:=[.ro 1 [] true,.fn 276 [.rop [.ro 6 (l.map eEn) e]]]) H.f2006 rfl]
    simp [fkF] at hx
    exact ⟨n+9,by simp (disch:=omega) [w275,hx,H.inl,inlB,H.pp,ppB]⟩
   have he:=fun nid=>exf_ok H nid [] true (by simp)
   simp [exR] at he
   simp only [aL,aR] at h1
   obtain ⟨n2,hd⟩:=hd h (n+1+1+1+1+1+1+1+1+1+1)
   have hrun:∃ q m,RnW C 4001 [aR ks ke cap,aL l e,.int .i64 o,.int .i64 v,.int .i64 k] [] 0=some (.tup [.ro 1 [] true,.int .i64 0],q,m):=by
    rw [rnW_eq H.f4001 rfl]
    simp (disch:=omega) [w4001,aL,aR,h1,hd,he,H.inl,inlB,H.pp,ppB]
   obtain ⟨q,m,hrun⟩:=hrun
   unfold freshCallW
   rw [hrun]
   simp [unR,nkF,ob,ownOf,ownOfL,Pav.get,freshOfW,hand,handL,om]
 · obtain ⟨Z,n2,hn2,hd⟩:=del_ok H.toHasUn l e (attL ks l o v k) hS (by omega) hai ((attL ks l o v k).map eI++List.replicate r [.int .i64 0]) 39 (by omega)
   have he:=fun nid=>exf_ok H nid (nkF l (attL ks l o v k)) (decide ((attL ks l o v k).length=(nkF l (attL ks l o v k)).length)) (by
    have:(nkF l (attL ks l o v k)).length≤(attL ks l o v k).length:=List.length_filter_le ..
    omega)
   simp only [aL,aR] at h1
   generalize attL ks l o v k=S at *
   generalize nkF l S=K at *
   have htk:List.take K.length (K.map eI++Z)=K.map eI:=List.take_left' (by simp)
   by_cases c:K=[]
   · subst c
     simp [exR] at he
     simp at hd htk
     have hrun:∃ q m,RnW C 4001 [aR ks ke cap,aL l e,.int .i64 o,.int .i64 v,.int .i64 k] [] 0=some (.tup [.ro 1 [] true,.int .i64 0],q,m):=by
      rw [rnW_eq H.f4001 rfl]
      simp (disch:=omega) [w4001,aL,aR,h1,hd,htk,he,H.inl,inlB,H.pp,ppB]
     obtain ⟨q,m,hrun⟩:=hrun
     unfold freshCallW
     rw [hrun]
     simp [unR,ob,ownOf,ownOfL,Pav.get,freshOfW,hand,handL,om]
   · have hb:=bare_ints K
     have hq6:¬ 6=n2:=by omega
     have hq20:¬ 20=n2:=by omega
     have hl6:¬ n2≤6:=by omega
     have hl20:¬ n2≤20:=by omega
     simp only [exR,if_neg c] at he
     have hrun:∃ m,RnW C 4001 [aR ks ke cap,aL l e,.int .i64 o,.int .i64 v,.int .i64 k] [] 0=some (.tup [.sl n2 1 0 K.length K.length true,.int .i64 0],[(6,.cells 1 (S.map eI++List.replicate r [.int .i64 0]) true true),(20,.cells 1 (K.map eI++Z) true true),(n2,.cells 1 (K.map eI) true true)],m):=by
      rw [rnW_eq H.f4001 rfl]
      simp (disch:=omega) [w4001,aL,aR,h1,hd,htk,he,hb,hq6,hq20,hl6,hl20,H.inl,inlB,H.pp,ppB]
     obtain ⟨m,hrun⟩:=hrun
     unfold freshCallW
     rw [hrun]
     simp [unR,c,hq6,hq20,ob,ownOf,ownOfL,Pav.get,freshOfW,hand,handL,om]
end Go.D
end
section
namespace Go.D
open Go Go.Pav Go.Pw P
attribute [-simp] List.getElem_cons_drop
variable {C:WProg}
structure Ht where
 k:Int
 s:Int
def eHt (x:Ht):List AV:=[.int .u64 x.k,.int .i64 x.s]
def htAt (k:Int):List Ht→Nat→Int
 | [],_=>-1
 | x::r,i=>if x.k=k then i else htAt k r (i+1)
def htOf (ks:List Kd) (i:It) (l:List Ht):Int:=match l.find? (fun x=>decide (x.k=i.k)) with
 | some x=>x.s
 | none=>match ks[i.t.toNat]? with | some k=>k.b | none=>0
theorem htAt_find (k:Int):∀ (l:List Ht) (i:Nat),(l.find? (fun x=>decide (x.k=k))=none∧htAt k l i=-1)∨∃ (j:Nat) (h:j < l.length),htAt k l i=((i+j:Nat):Int)∧l.find? (fun x=>decide (x.k=k))=some l[j]:=by
 intro l
 induction l with
 | nil=>intro i;exact .inl ⟨rfl,rfl⟩
 | cons x r ih =>
  intro i
  rw [htAt,List.find?_cons]
  by_cases c:x.k=k
  · exact .inr ⟨0,by simp,by simp [c]⟩
  · simp only [c,decide_false,if_false]
    rcases ih (i+1) with ⟨h,h'⟩ | ⟨j,h1,h2,h3⟩
    · exact .inl ⟨h,h'⟩
    · exact .inr ⟨j+1,by simpa using h1,by rw [h2];congr 1;omega,by simpa using h3⟩
structure HasMs (C:WProg):Prop extends HasG C where
 f351:C.fns.get 351=some w351
 f465:C.fns.get 465=some w465
 f466:C.fns.get 466=some w466
 f467:C.fns.get 467=some w467
theorem isht_ok (H:HasMs C) (x:Ht) (i:It):FnW C 467 [.agg (eHt x),.rop (cIt i)]=some (.bool (decide (x.k=i.k))):=by
 rw [fnW_eq H.f467 rfl]
 by_cases c:x.k=i.k
 · simp (disch:=omega) [w467,eHt,c,H.inl,inlB,H.pp,ppB]
 · simp (disch:=omega) [w467,eHt,c,H.inl,inlB,H.pp,ppB]
theorem htx_loop (H:HasMs C) (l:List Ht) (e:Bool) (hl:l.length≤1000000) (it:It):∀ n i,n+i=l.length →
 w466_K0 C ⟨[(8,.int .i64 i),(7,.int .i64 l.length),(1,.fn 467 [.rop (cIt it)]),(0,.ro 2 (l.map eHt) e)],[],0⟩=some (.int .i64 (htAt it.k (l.drop i) i)):=by
 intro n
 induction n with
 | zero =>
  intro i hi
  have h3:¬ i < l.length:=by omega
  have h1:l.drop i=[]:=List.drop_eq_nil_of_le (by omega)
  rw [h1,htAt]
  simp only [w466_K0];rw [ck_unf w466_B0.eq_1]
  simp (disch:=omega) [ck_unf w466_c0.eq_1,h3]
 | succ n ih =>
  intro i hii
  have h1:i < l.length:=by omega
  have hk:=isht_ok H l[i] it
  simp only [eHt,cIt] at hk
  rw [drop_cons h1,htAt]
  by_cases c:l[i].k=it.k
  · rw [if_pos c]
    rw [decide_eq_true c] at hk
    simp only [w466_K0];rw [ck_unf w466_B0.eq_1]
    simp (disch:=omega) [h1,hk,eHt,inlB,ppB,wI64,H.inl,H.pp]
  · rw [if_neg c]
    rw [decide_eq_false c] at hk
    have this:=ih (i+1) (by omega)
    generalize htAt it.k (l.drop (i+1)) (i+1)=R at *
    simp only [w466_K0] at this ⊢;rw [ck_unf w466_B0.eq_1]
    simp at this
    simp (disch:=omega) [h1,hk,eHt,inlB,ppB,wI64,H.inl,H.pp,this]
theorem htx_ok (H:HasMs C) (l:List Ht) (e:Bool) (hl:l.length≤1000000) (it:It) :
 FnW C 466 [.ro 2 (l.map eHt) e,.fn 467 [.rop (cIt it)]]=some (.int .i64 (htAt it.k l 0)):=by
 have k:=htx_loop H l e hl it l.length 0 (by simp)
 rw [List.drop_zero] at k
 generalize htAt it.k l 0=R at *
 rw [fnW_eq H.f466 rfl]
 simp only [w466_K0] at k
 try simp at k
 simp (disch:=omega) [w466,k,H.inl,inlB,H.pp,ppB]
abbrev aF (ks:List Kd) (ke:Bool) (a b c d:Int):AV:=.agg [.ro 9 (ks.map eKd) ke,.int .i64 a,.int .i64 b,.int .i64 c,.int .i64 d]
theorem meas_ok (H:HasMs C) (ks:List Kd) (ke:Bool) (a b c d:Int) (it:It) (ht:0≤it.t∧it.t≤255) (hk:ks.length≤1000) (l:List Ht) (e:Bool) (hl:l.length≤1000000) :
 FnW C 351 [aF ks ke a b c d,eIt it,.ro 2 (l.map eHt) e]=some (.int .i64 (htOf ks it l)):=by
 have h1:=htx_ok H l e hl it
 rw [fnW_eq H.f351 rfl]
 obtain ⟨t,ht⟩:∃ t:Nat,it.t=t:=⟨it.t.toNat,by omega⟩
 simp only [cIt,ht] at h1
 unfold htOf
 rcases htAt_find it.k l 0 with ⟨h2,h3⟩ | ⟨j,hj,h2,h3⟩
 · rw [h3] at h1
   rw [h2]
   rw [ht,Int.toNat_natCast]
   by_cases c:t < ks.length
   · rw [List.getElem?_eq_getElem c]
     simp (disch:=omega) [w351,h1,ht,c,wI64,H.inl,inlB,H.pp,ppB]
   · rw [List.getElem?_eq_none (by omega)]
     simp (disch:=omega) [w351,h1,ht,c,wI64,H.inl,inlB,H.pp,ppB]
 · rw [h2] at h1
   rw [h3]
   have h4:(0:Int)≤j:=by omega
   rw [Nat.zero_add] at h1
   simp (disch:=omega) [w351,h1,hj,h4,ht,eHt,wI64,H.inl,inlB,H.pp,ppB]
theorem rmeas_loop (H:HasMs C) (ks:List Kd) (ke:Bool) (a b c d:Int) (it:It) (ht:0≤it.t∧it.t≤255) (hk:ks.length≤1000) (l:List Ht) (e:Bool) (hl:l.length≤1000000):∀ n i,n+i=l.length →
 w465_K0 C ⟨[(7,.int .i64 i),(4,.ptr 0 0 0),(3,.ptr 1 0 0),(2,.ro 2 (l.map eHt) e)],[(0,.cells 4 [cIt it] true true),(1,.cells 5 [[.ro 9 (ks.map eKd) ke,.int .i64 a,.int .i64 b,.int .i64 c,.int .i64 d]] true true)],2⟩=some (.int .i64 (htOf ks it (l.drop i))):=by
 intro n
 induction n with
 | zero =>
  intro i hi
  have h3:¬ i < l.length:=by omega
  have h1:l.drop i=[]:=List.drop_eq_nil_of_le (by omega)
  rw [h1,htOf,List.find?_nil]
  obtain ⟨t,ht⟩:∃ t:Nat,it.t=t:=⟨it.t.toNat,by omega⟩
  rw [ht,Int.toNat_natCast]
  simp only [w465_K0];rw [ck_unf w465_B0.eq_1]
  by_cases c:t < ks.length
  · rw [List.getElem?_eq_getElem c]
    simp (disch:=omega) [ck_unf w465_c0.eq_1,h3,ht,c,wI64]
  · rw [List.getElem?_eq_none (by omega)]
    simp (disch:=omega) [ck_unf w465_c0.eq_1,h3,ht,c,wI64]
 | succ n ih =>
  intro i hii
  have h1:i < l.length:=by omega
  rw [drop_cons h1,htOf,List.find?_cons]
  by_cases c:l[i].k=it.k
  · simp only [c,decide_true]
    simp only [w465_K0];rw [ck_unf w465_B0.eq_1]
    simp (disch:=omega) [h1,c,eHt,inlB,ppB,wI64,H.inl,H.pp]
  · simp only [c,decide_false]
    have this:=ih (i+1) (by omega)
    rw [htOf] at this
    generalize (match (l.drop (i+1)).find? (fun x=>decide (x.k=it.k)) with
     | some x=>x.s
     | none=>match ks[it.t.toNat]? with | some k=>k.b | none=>0)=R at *
    simp only [w465_K0] at this ⊢;rw [ck_unf w465_B0.eq_1]
    simp at this
    simp (disch:=omega) [h1,c,eHt,inlB,ppB,wI64,H.inl,H.pp,this]
theorem rmeas_ok (H:HasMs C) (ks:List Kd) (ke:Bool) (a b c d:Int) (it:It) (ht:0≤it.t∧it.t≤255) (hk:ks.length≤1000) (l:List Ht) (e:Bool) (hl:l.length≤1000000) :
 FnW C 465 [aF ks ke a b c d,eIt it,.ro 2 (l.map eHt) e]=some (.int .i64 (htOf ks it l)):=by
 have k:=rmeas_loop H ks ke a b c d it ht hk l e hl l.length 0 (by simp)
 rw [List.drop_zero] at k
 generalize htOf ks it l=R at *
 rw [fnW_eq H.f465 rfl]
 simp only [w465_K0] at k
 try simp at k
 simp (disch:=omega) [w465,k,H.inl,inlB,H.pp,ppB]
end Go.D
end
section
namespace Go.D
open Go Go.Pav Go.Pw P
set_option maxHeartbeats 1000000
attribute [-simp] List.getElem_cons_drop
variable {C:WProg}
structure HasVf (C:WProg):Prop extends HasK C where
 f464:C.fns.get 464=some w464
 f623:C.fns.get 623=some w623
 f318:C.fns.get 318=some w318
 f176:C.fns.get 176=some w176
def valF (ks:List Kd) (cap b c d:Int):Int :=
 if ruOk ks cap=false then 7 else if b < 1∨2147483648 < b∨c < 0∨16 < c∨d < 1∨2305843009213693952 < d then 1 else 0
theorem valf_ok (H:HasVf C) (ks:List Kd) (ke:Bool) (cap b c d:Int) (hr:RuIn ks):FnW C 464 [aF ks ke cap b c d]=some (.int .i64 (valF ks cap b c d)):=by
 have h:=valid_ok H.toHasK ks ke cap hr
 rw [fnW_eq H.f464 rfl]
 unfold valF
 simp only [aR] at h
 by_cases q:ruOk ks cap=true
 · rw [if_neg (by simp [q])]
   simp [q] at h
   by_cases c1:b < 1
   · simp (disch:=omega) [w464,h,c1,wI64,H.inl,inlB,H.pp,ppB]
   · by_cases c2:2147483648 < b
     · simp (disch:=omega) [w464,h,c1,c2,wI64,H.inl,inlB,H.pp,ppB]
     · by_cases c3:c < 0
       · simp (disch:=omega) [w464,h,c1,c2,c3,wI64,H.inl,inlB,H.pp,ppB]
       · by_cases c4:16 < c
         · simp (disch:=omega) [w464,h,c1,c2,c3,c4,wI64,H.inl,inlB,H.pp,ppB]
         · by_cases c5:d < 1
           · simp (disch:=omega) [w464,h,c1,c2,c3,c4,c5,wI64,H.inl,inlB,H.pp,ppB]
           · by_cases c6:2305843009213693952 < d
             · simp (disch:=omega) [w464,h,c1,c2,c3,c4,c5,c6,wI64,H.inl,inlB,H.pp,ppB]
             · simp (disch:=omega) [w464,h,c1,c2,c3,c4,c5,c6,wI64,H.inl,inlB,H.pp,ppB]
 · have q':ruOk ks cap=false:=by simpa using q
   rw [if_pos q']
   simp [q'] at h
   simp (disch:=omega) [w464,h,wI64,H.inl,inlB,H.pp,ppB]
theorem rvalf_ok (H:HasVf C) (ks:List Kd) (ke:Bool) (cap b c d:Int) (hr:RuIn ks):FnW C 623 [aF ks ke cap b c d]=some (.int .i64 (valF ks cap b c d)):=by
 have h:=rvalid_ok H.toHasK ks ke cap hr
 rw [fnW_eq H.f623 rfl]
 unfold valF
 simp only [aR] at h
 by_cases q:ruOk ks cap=true
 · rw [if_neg (by simp [q])]
   simp [q] at h
   by_cases c1:b < 1
   · simp (disch:=omega) [w623,h,c1,wI64,H.inl,inlB,H.pp,ppB]
   · by_cases c2:2147483648 < b
     · simp (disch:=omega) [w623,h,c1,c2,wI64,H.inl,inlB,H.pp,ppB]
     · by_cases c3:c < 0
       · simp (disch:=omega) [w623,h,c1,c2,c3,wI64,H.inl,inlB,H.pp,ppB]
       · by_cases c4:16 < c
         · simp (disch:=omega) [w623,h,c1,c2,c3,c4,wI64,H.inl,inlB,H.pp,ppB]
         · by_cases c5:d < 1
           · simp (disch:=omega) [w623,h,c1,c2,c3,c4,c5,wI64,H.inl,inlB,H.pp,ppB]
           · by_cases c6:2305843009213693952 < d
             · simp (disch:=omega) [w623,h,c1,c2,c3,c4,c5,c6,wI64,H.inl,inlB,H.pp,ppB]
             · simp (disch:=omega) [w623,h,c1,c2,c3,c4,c5,c6,wI64,H.inl,inlB,H.pp,ppB]
 · have q':ruOk ks cap=false:=by simpa using q
   rw [if_pos q']
   simp [q'] at h
   simp (disch:=omega) [w623,h,wI64,H.inl,inlB,H.pp,ppB]
abbrev aA (k d:Int):AV:=.agg [.int .u64 k,.int .i64 d]
def anE (k d:Int):Int:=if d < 0∨2305843009213693952 < d∨(k=0∧0 < d) then 1 else 0
theorem ancheck_ok (H:HasVf C) (k d:Int):FnW C 318 [aA k d]=some (.int .i64 (anE k d)):=by
 rw [fnW_eq H.f318 rfl]
 unfold anE
 by_cases c1:d < 0
 · simp (disch:=omega) [w318,c1,wI64,H.inl,inlB,H.pp,ppB]
 · by_cases c2:2305843009213693952 < d
   · simp (disch:=omega) [w318,c1,c2,wI64,H.inl,inlB,H.pp,ppB]
   · by_cases c3:k=0
     · by_cases c4:0 < d
       · simp (disch:=omega) [w318,c1,c2,c3,c4,wI64,H.inl,inlB,H.pp,ppB]
       · simp (disch:=omega) [w318,c1,c2,c3,c4,wI64,H.inl,inlB,H.pp,ppB]
     · simp (disch:=omega) [w318,c1,c2,c3,wI64,H.inl,inlB,H.pp,ppB]
theorem rancheck_ok (H:HasVf C) (k d:Int) (hk:0≤k):FnW C 176 [aA k d]=some (.int .i64 (anE k d)):=by
 rw [fnW_eq H.f176 rfl]
 unfold anE
 by_cases c3:k=0
 · subst c3
   by_cases c4:d=0
   · subst c4
     simp (disch:=omega) [w176,wI64,H.inl,inlB,H.pp,ppB]
   · have e:(d < 0∨2305843009213693952 < d∨((0:Int)=0∧0 < d)):=by omega
     rw [if_pos e]
     simp (disch:=omega) [w176,c4,wI64,H.inl,inlB,H.pp,ppB]
 · have c0:0 < k:=by omega
   by_cases c1:0≤d
   · by_cases c2:d≤2305843009213693952
     · rw [if_neg (by omega)]
       simp (disch:=omega) [w176,c0,c1,c2,c3,wI64,H.inl,inlB,H.pp,ppB]
     · rw [if_pos (by omega)]
       simp (disch:=omega) [w176,c0,c1,c2,c3,wI64,H.inl,inlB,H.pp,ppB]
   · rw [if_pos (by omega)]
     simp (disch:=omega) [w176,c0,c1,c3,wI64,H.inl,inlB,H.pp,ppB]
def setE (ks:List Kd) (cap b c d:Int) (l:List En) (k t:Int) (E:Int):Int :=
 if valF ks cap b c d≠0 then valF ks cap b c d else if ckE ks cap l≠0 then ckE ks cap l else if E≠0 then E else if anE k t≠0 then anE k t else if 0 < k∧fndF k 0 l < 0 then 11 else 0
structure HasSk (C:WProg):Prop extends HasVf C where
 f344:C.fns.get 344=some w344
 f622:C.fns.get 622=some w622
theorem scheck_ok (H:HasSk C) (ks:List Kd) (ke:Bool) (cap b c d:Int) (hr:RuIn ks) (l:List En) (e:Bool) (hl:l.length≤1000000) (hs:∀ x ∈ l,EnIn x) (k t:Int) (hk:0≤k) (T:List (List AV)) (te:Bool) (i E:Int)
 (htab:FnW C 201 [.ro 2 T te,.int .i64 d]=some (.tup [.int .i64 i,.int .i64 E])):FnW C 344 [aF ks ke cap b c d,aL l e,aA k t,.ro 2 T te]=some (.int .i64 (setE ks cap b c d l k t E)):=by
 have h1:=valf_ok H.toHasVf ks ke cap b c d hr
 have h2:=lcheck_ok H.toHasVf.toHasK ks ke cap hr l e hl hs
 have h3:=ancheck_ok H.toHasVf k t
 have h4:=find_ok H.toHasVf.toHasK.toHasL l e k hl
 rw [fnW_eq H.f344 rfl]
 unfold setE
 simp only [aF,aR,aL,aA] at h1 h2 h3 h4
 generalize valF ks cap b c d=V at *
 generalize ckE ks cap l=K at *
 generalize anE k t=A at *
 generalize fndF k 0 l=F at *
 by_cases c1:V=0
 · subst c1
   by_cases c2:K=0
   · subst c2
     by_cases c3:E=0
     · subst c3
       by_cases c4:A=0
       · subst c4
         by_cases c5:k=0
         · subst c5
           simp (disch:=omega) [w344,h1,h2,h3,h4,htab,wI64,H.inl,inlB,H.pp,ppB]
         · have c6:0 < k:=by omega
           by_cases c7:F < 0
           · have c8:¬ 0≤F:=by omega
             simp (disch:=omega) [w344,h1,h2,h3,h4,htab,c5,c6,c7,c8,wI64,H.inl,inlB,H.pp,ppB]
           · have c8:0≤F:=by omega
             simp (disch:=omega) [w344,h1,h2,h3,h4,htab,c5,c6,c7,c8,wI64,H.inl,inlB,H.pp,ppB]
       · simp (disch:=omega) [w344,h1,h2,h3,htab,c4,wI64,H.inl,inlB,H.pp,ppB]
     · simp (disch:=omega) [w344,h1,h2,htab,c3,wI64,H.inl,inlB,H.pp,ppB]
   · simp (disch:=omega) [w344,h1,h2,c2,wI64,H.inl,inlB,H.pp,ppB]
 · simp (disch:=omega) [w344,h1,c1,wI64,H.inl,inlB,H.pp,ppB]
theorem enE_nn9 (ks:List Kd) (cap:Int) (e:En) (b:Bool):0≤enE ks cap e b:=by
 unfold enE itE
 repeat' split
 all_goals omega
theorem chk_nn9 (ks:List Kd) (cap:Int):∀ (l:List En) (seen:List Int),0≤chk ks cap seen l
 | [],_=>by simp [chk]
 | e::r,seen=>by
  rw [chk]
  split
  · exact enE_nn9 ..
  · exact chk_nn9 ks cap r _
theorem ckE_nn9 (ks:List Kd) (cap:Int) (l:List En):0≤ckE ks cap l:=by
 have h1:=chk_nn9 ks cap l []
 unfold ckE ovE
 repeat' split
 all_goals omega
theorem valF_nn (ks:List Kd) (cap b c d:Int):0≤valF ks cap b c d:=by
 unfold valF
 repeat' split
 all_goals omega
theorem anE_nn (k d:Int):anE k d=0∨anE k d=1:=by
 unfold anE
 split
 · exact .inr rfl
 · exact .inl rfl
theorem rscheck_ok (H:HasSk C) (ks:List Kd) (ke:Bool) (cap b c d:Int) (hr:RuIn ks) (l:List En) (e:Bool) (hl:l.length≤1000000) (hs:∀ x ∈ l,EnIn x) (k t:Int) (hk:0≤k) (T:List (List AV)) (te:Bool) (i E:Int) (hE:0≤E)
 (htab:FnW C 626 [.ro 2 T te,.int .i64 d]=some (.tup [.int .i64 i,.int .i64 E])):FnW C 622 [aF ks ke cap b c d,.ro 6 (l.map eEn) e,aA k t,.ro 2 T te]=some (.int .i64 (setE ks cap b c d l k t E)):=by
 have h1:=rvalf_ok H.toHasVf ks ke cap b c d hr
 have h2:=rlcheck_ok H.toHasVf.toHasK ks ke cap hr l e hl hs
 have h3:=rancheck_ok H.toHasVf k t hk
 have h4:=rfind_ok H.toHasVf.toHasK.toHasL l e k hl
 have n1:=valF_nn ks cap b c d
 have n2:=ckE_nn9 ks cap l
 have n3:=anE_nn k t
 rw [fnW_eq H.f622 rfl]
 unfold setE
 simp only [aF,aR,aA] at h1 h2 h3
 generalize valF ks cap b c d=V at *
 generalize ckE ks cap l=K at *
 generalize anE k t=A at *
 generalize fndF k 0 l=F at *
 by_cases c1:V=0
 · subst c1
   by_cases c2:K=0
   · subst c2
     by_cases c3:E=0
     · subst c3
       rcases n3 with rfl | rfl
       · by_cases c5:k=0
         · subst c5
           simp (disch:=omega) [w622,h1,h2,h3,h4,htab,wI64,H.inl,inlB,H.pp,ppB]
         · have c6:0 < k:=by omega
           by_cases c7:F < 0
           · simp (disch:=omega) [w622,h1,h2,h3,h4,htab,c5,c6,c7,wI64,H.inl,inlB,H.pp,ppB]
           · simp (disch:=omega) [w622,h1,h2,h3,h4,htab,c5,c6,c7,wI64,H.inl,inlB,H.pp,ppB]
       · simp (disch:=omega) [w622,h1,h2,h3,htab,wI64,H.inl,inlB,H.pp,ppB]
     · have p3:0 < E:=by omega
       simp (disch:=omega) [w622,h1,h2,htab,c3,p3,wI64,H.inl,inlB,H.pp,ppB]
   · have p2:0 < K:=by omega
     simp (disch:=omega) [w622,h1,h2,c2,p2,wI64,H.inl,inlB,H.pp,ppB]
 · have p1:0 < V:=by omega
   simp (disch:=omega) [w622,h1,c1,p1,wI64,H.inl,inlB,H.pp,ppB]
end Go.D
end
section
namespace Go.D
open Go Go.Pav Go.Pw P
set_option maxHeartbeats 1000000
attribute [-simp] List.getElem_cons_drop
variable {C:WProg}
structure HasOf (C:WProg):Prop extends HasSz C where
 f322:C.fns.get 322=some w322
 f323:C.fns.get 323=some w323
 f313:C.fns.get 313=some w313
 f161:C.fns.get 161=some w161
 f312:C.fns.get 312=some w312
 f314:C.fns.get 314=some w314
 f319:C.fns.get 319=some w319
def clF (l:List En) (v x:Int):Int:=if mostS l v < x then mostS l v else if x < 0 then 0 else x
def offF (l:List En) (v k d:Int):Int:=if k=0 then 0 else clF l v (top l (fndF k 0 l).toNat+d)
theorem Szd.b {l:List En} (hz:Szd l):SzB l:=fun x hx=>by have:=hz.s x hx;omega
theorem Szd.sm62 {l:List En} (hz:Szd l):0≤sm l∧sm l≤4611686018427387904:=⟨hz.nn,hz.t⟩
theorem asized_ok (H:HasOf C) (l:List En) (e:Bool) (hz:Szd l) (v:Int) (hv:1≤v∧v≤2147483648):FnW C 322 [aL l e,.int .i64 v]=some (.int .i64 0):=by
 have h1:=sized_ok H.toHasSz l e (by have:=hz.n;omega) hz.b
 rw [szE_of hz] at h1
 have v1:¬ v < 1:=by omega
 have v2:¬ 2147483648 < v:=by omega
 rw [fnW_eq H.f322 rfl]
 simp only [aL] at h1
 simp (disch:=omega) [w322,aL,h1,v1,v2,wI64,H.inl,inlB,H.pp,ppB]
theorem aview_ok (H:HasOf C) (l:List En) (e:Bool) (hz:Szd l) (v:Int) (hv:1≤v∧v≤2147483648):FnW C 312 [.ro 6 (l.map eEn) e,.int .i64 v]=some (.int .i64 0):=by
 have h1:=rsized_ok H.toHasSz l e (by have:=hz.n;omega) hz.b
 rw [szE_of hz] at h1
 have v1:¬ v < 1:=by omega
 have v2:¬ 2147483648 < v:=by omega
 rw [fnW_eq H.f312 rfl]
 simp (disch:=omega) [w312,h1,v1,v2,wI64,H.inl,inlB,H.pp,ppB]
theorem aclamp_ok (H:HasOf C) (l:List En) (e:Bool) (hz:Szd l) (v:Int) (hv:1≤v∧v≤2147483648) (x:Int):FnW C 313 [aL l e,.int .i64 v,.int .i64 x]=some (.tup [.int .i64 (clF l v x),.int .i64 0]):=by
 have h1:=asized_ok H l e hz v hv
 have h2:=totW_ok H.toHasL l e (by have:=hz.n;omega) hz.b
 rw [hz.tot] at h2
 have h3:=hz.sm62
 rw [fnW_eq H.f313 rfl]
 simp only [aL] at h1 h2
 have hcl:clF l v x=imax 0 (imin x (sm l - v)):=by
  unfold clF mostS imax imin
  repeat' split
  all_goals omega
 rw [hcl]
 simp (disch:=omega) [w313,aL,h1,h2,wI64,H.inl,inlB,H.pp,ppB]
theorem rclamp_ok (H:HasOf C) (l:List En) (e:Bool) (hz:Szd l) (v:Int) (hv:1≤v∧v≤2147483648) (x:Int):FnW C 314 [.ro 6 (l.map eEn) e,.int .i64 v,.int .i64 x]=some (.int .i64 (clF l v x)):=by
 have h3:=hz.sm62
 have h1:=rmost_ok H.toHasSz l e hz v (by omega)
 rw [fnW_eq H.f314 rfl]
 unfold clF
 by_cases c1:mostS l v < x
 · rw [if_pos c1]
   simp (disch:=omega) [w314,h1,c1,wI64,H.inl,inlB,H.pp,ppB]
 · rw [if_neg c1]
   by_cases c2:x < 0
   · rw [if_pos c2]
     simp (disch:=omega) [w314,h1,c1,c2,wI64,H.inl,inlB,H.pp,ppB]
   · rw [if_neg c2]
     simp (disch:=omega) [w314,h1,c1,c2,wI64,H.inl,inlB,H.pp,ppB]
structure AnOk (l:List En) (k d:Int):Prop where
 k0:0≤k
 d0:0≤d∧d≤2305843009213693952
 z:k=0→d=0
 f:k≠0→0≤fndF k 0 l
theorem AnOk.e {l:List En} {k d:Int} (h:AnOk l k d):anE k d=0:=by
 have:=h.d0
 unfold anE
 rw [if_neg]
 rintro (q | q | ⟨q,r⟩)
 · omega
 · omega
 · have:=h.z q;omega
theorem fndF_lt (k:Int):∀ (l:List En) (i:Nat),0≤fndF k i l→∃ j:Nat,fndF k i l=((i+j:Nat):Int)∧j < l.length:=by
 intro l
 induction l with
 | nil=>intro i h;exact absurd h (by simp [fndF])
 | cons a r ih =>
  intro i h
  rw [fndF] at h ⊢
  split
  · exact ⟨0,by simp,by simp⟩
  · rename_i c
    rw [if_neg c] at h
    obtain ⟨j,h1,h2⟩:=ih (i+1) h
    exact ⟨j+1,by rw [h1];congr 1;omega,by simpa using h2⟩
theorem atop_ok (H:HasOf C) (l:List En) (e:Bool) (hz:Szd l) (k:Int) (hf:0≤fndF k 0 l):FnW C 323 [aL l e,.int .u64 k]=some (.tup [.int .i64 (top l (fndF k 0 l).toNat),.bool true]):=by
 have h1:=find_ok H.toHasL l e k (by have:=hz.n;omega)
 have h2:=tops_ok H.toHasSz l e hz
 obtain ⟨j,q1,q2⟩:=fndF_lt k l 0 hf
 rw [Nat.zero_add] at q1
 rw [q1] at h1 ⊢
 have q3:imax (j:Int) 0=j:=by unfold imax;split <;> omega
 rw [q3] at h1
 have q4:(0:Int)≤j:=by omega
 have q5:j < (tps l).length:=by rw [tps_len];omega
 have q6:=tps_get l q5
 have hn:=tps_len l
 rw [fnW_eq H.f323 rfl]
 simp only [aL,decide_eq_true q4] at h1 h2
 rw [show ((j:Int)).toNat=j from rfl]
 simp (disch:=omega) [w323,aL,h1,h2,q5,q6,wI64,H.inl,inlB,H.pp,ppB]
theorem offset_ok (H:HasOf C) (V:HasVf C) (l:List En) (e:Bool) (hz:Szd l) (v:Int) (hv:1≤v∧v≤2147483648) (k d:Int) (ha:AnOk l k d):FnW C 161 [aL l e,.int .i64 v,aA k d]=some (.tup [.int .i64 (offF l v k d),.int .i64 0]):=by
 have h1:=asized_ok H l e hz v hv
 have h2:=ancheck_ok V k d
 rw [ha.e] at h2
 rw [fnW_eq H.f161 rfl]
 unfold offF
 simp only [aL,aA] at h1 h2
 by_cases c:k=0
 · rw [if_pos c]
   subst c
   simp (disch:=omega) [w161,aL,aA,h1,h2,wI64,H.inl,inlB,H.pp,ppB]
 · rw [if_neg c]
   have h3:=atop_ok H l e hz k (ha.f c)
   have h4:=hz.rng (fndF k 0 l).toNat
   have h6:=ha.d0
   have h7:=hz.t
   have h5:=aclamp_ok H l e hz v hv (top l (fndF k 0 l).toNat+d)
   simp only [aL] at h3 h5
   simp (disch:=omega) [w161,aL,aA,h1,h2,h3,h5,c,wI64,H.inl,inlB,H.pp,ppB]
theorem roffset_ok (H:HasOf C) (V:HasVf C) (l:List En) (e:Bool) (hz:Szd l) (v:Int) (hv:1≤v∧v≤2147483648) (k d:Int) (ha:AnOk l k d):FnW C 319 [.ro 6 (l.map eEn) e,.int .i64 v,aA k d]=some (.tup [.int .i64 (offF l v k d),.int .i64 0]):=by
 have h1:=aview_ok H l e hz v hv
 have h2:=rancheck_ok V k d ha.k0
 rw [ha.e] at h2
 rw [fnW_eq H.f319 rfl]
 unfold offF
 simp only [aA] at h2
 by_cases c:k=0
 · rw [if_pos c]
   subst c
   simp (disch:=omega) [w319,aA,h1,h2,wI64,H.inl,inlB,H.pp,ppB]
 · rw [if_neg c]
   have hf:=ha.f c
   have h3:=rfind_ok H.toHasL l e k (by have:=hz.n;omega)
   obtain ⟨j,q1,q2⟩:=fndF_lt k l 0 hf
   rw [Nat.zero_add] at q1
   rw [q1] at h3 ⊢
   rw [show ((j:Int)).toNat=j from rfl]
   have h4:=hz.rng j
   have h6:=ha.d0
   have h7:=hz.t
   have h5:=rclamp_ok H l e hz v hv (top l j+d)
   have h8:=rtop_ok H.toHasSz l e hz j (by omega)
   have q4:¬ ((j:Int) < 0):=by omega
   simp (disch:=omega) [w319,aA,h1,h2,h3,h5,h8,c,q4,wI64,H.inl,inlB,H.pp,ppB]
theorem clF_rng {l:List En} (hz:Szd l) {v:Int} (x:Int):0≤clF l v x∧clF l v x≤mostS l v:=by
 have h0:0≤mostS l v:=by unfold mostS;split <;> omega
 unfold clF
 split
 · omega
 · split <;> omega
theorem offF_vp {l:List En} (hz:Szd l) {v k d:Int} (hv:1≤v∧v≤2147483648):Vp l (offF l v k d) v:=by
 have h0:0≤mostS l v:=by unfold mostS;split <;> omega
 refine ⟨hz,hv,?_⟩
 unfold offF
 split
 · omega
 · exact clF_rng hz _
end Go.D
end
section
namespace Go.D
open Go Go.Pav Go.Pw P
set_option maxHeartbeats 1000000
attribute [-simp] List.getElem_cons_drop
variable {C:WProg}
structure HasRb (C:WProg):Prop extends HasS C where
 f628:C.fns.get 628=some w628
 f626:C.fns.get 626=some w626
def tabI (d:Int) (seen:List Int) (x:Ht):Int:=if x.k=0 then 9 else if x.s < d∨2305843009213693952 < x.s then 12 else if x.k ∈ seen then 8 else 0
def tabL (d:Int):List Int→Nat→List Ht→Int × Int
 | _,_,[]=>(0,0)
 | seen,i,x::r=>if tabI d seen x≠0 then ((i:Int),tabI d seen x) else tabL d (seen++[x.k]) (i+1) r
def tabE (d:Int) (T:List Ht):Int × Int:=if d < 1∨2305843009213693952 < d then (0,1) else if 256 < (T.length:Int) then (0,3) else tabL d [] 0 T
theorem fault_loop (H:HasRb C) (T:List Ht) (te:Bool) (hT:T.length≤1000000) (i:Nat) (hi:i < T.length):∀ n j,n+j=i →
 w628_K0 C ⟨[(7,.int .i64 j),(1,.int .i64 i),(0,.ro 2 (T.map eHt) te)],[],0⟩=some (.int .i64 (if T[i].k ∈ ((T.take i).drop j).map (·.k) then 8 else 0)):=by
 intro n
 induction n with
 | zero =>
  intro j hj
  have h3:¬ j < i:=by omega
  have q:(T.take i).drop j=[]:=List.drop_eq_nil_of_le (by rw [List.length_take];omega)
  rw [q]
  simp only [w628_K0];rw [ck_unf w628_B0.eq_1]
  simp [ck_unf w628_c0.eq_1,h3]
 | succ n ih =>
  intro j hj
  have h1:j < i:=by omega
  have h2:j < T.length:=by omega
  have hlt:j < (T.take i).length:=by rw [List.length_take];omega
  have hd:(T.take i).drop j=T[j]::(T.take i).drop (j+1):=by
   rw [List.drop_eq_getElem_cons hlt,List.getElem_take]
  have this:=ih (j+1) (by omega)
  rw [hd,List.map_cons]
  simp only [w628_K0] at this ⊢;rw [ck_unf w628_B0.eq_1]
  by_cases c:T[j].k=T[i].k
  · rw [if_pos (by rw [c];simp)]
    simp (disch:=omega) [h1,h2,hi,c,eHt,wI64,H.inl,inlB,H.pp,ppB]
  · have e:(T[i].k ∈ T[j].k::List.map (fun x=>x.k) (List.drop (j+1) (List.take i T)))↔(T[i].k ∈ List.map (fun x=>x.k) (List.drop (j+1) (List.take i T))):=by
     rw [List.mem_cons]
     exact ⟨fun h=>h.resolve_left (fun q=>c q.symm),.inr⟩
    simp only [e]
    rw [← this]
    simp (disch:=omega) [h1,h2,hi,c,eHt,wI64,H.inl,inlB,H.pp,ppB]
theorem fault_ok (H:HasRb C) (T:List Ht) (te:Bool) (hT:T.length≤1000000) (d:Int) (i:Nat) (hi:i < T.length) :
 FnW C 628 [.ro 2 (T.map eHt) te,.int .i64 i,.int .i64 d]=some (.int .i64 (tabI d ((T.take i).map (·.k)) T[i])):=by
 have h:=fault_loop H T te hT i hi i 0 rfl
 rw [List.drop_zero] at h
 rw [fnW_eq H.f628 rfl]
 unfold tabI
 by_cases c1:T[i].k=0
 · rw [if_pos c1]
   simp (disch:=omega) [w628,hi,c1,eHt,wI64,H.inl,inlB,H.pp,ppB]
 · rw [if_neg c1]
   by_cases c2:T[i].s < d
   · rw [if_pos (.inl c2)]
     simp (disch:=omega) [w628,hi,c1,c2,eHt,wI64,H.inl,inlB,H.pp,ppB]
   · by_cases c3:2305843009213693952 < T[i].s
     · rw [if_pos (.inr c3)]
       simp (disch:=omega) [w628,hi,c1,c2,c3,eHt,wI64,H.inl,inlB,H.pp,ppB]
     · rw [if_neg (by omega)]
       generalize (if T[i].k ∈ List.map (fun x=>x.k) (List.take i T) then (8:Int) else 0)=E at *
       simp only [w628_K0] at h
       simp at h
       simp (disch:=omega) [w628,hi,c1,c2,c3,h,eHt,wI64,H.inl,inlB,H.pp,ppB]
theorem rtab_loop (H:HasRb C) (T:List Ht) (te:Bool) (hT:T.length≤1000000) (d:Int):∀ n i,n+i=T.length →
 w626_K0 C ⟨[(6,.int .i64 i),(1,.int .i64 d),(0,.ro 2 (T.map eHt) te)],[],0⟩=some (.tup [.int .i64 (tabL d ((T.take i).map (·.k)) i (T.drop i)).1,.int .i64 (tabL d ((T.take i).map (·.k)) i (T.drop i)).2]):=by
 intro n
 induction n with
 | zero =>
  intro i hi
  have h3:¬ i < T.length:=by omega
  have q:T.drop i=[]:=List.drop_eq_nil_of_le (by omega)
  rw [q]
  simp only [w626_K0];rw [ck_unf w626_B0.eq_1]
  simp [ck_unf w626_c0.eq_1,h3,tabL]
 | succ n ih =>
  intro i hi
  have h1:i < T.length:=by omega
  have hf:=fault_ok H T te hT d i h1
  have this:=ih (i+1) (by omega)
  have hft:T.take (i+1)=T.take i++[T[i]]:=List.take_succ_eq_append_getElem h1
  rw [hft,List.map_append,List.map_cons,List.map_nil] at this
  rw [drop_cons h1,tabL]
  by_cases c:tabI d ((T.take i).map (·.k)) T[i]=0
  · rw [c] at hf
    rw [if_neg (fun h=>h c),← this]
    simp only [w626_K0];rw [ck_unf w626_B0.eq_1]
    simp (disch:=omega) [h1,hf,wI64,H.inl,inlB,H.pp,ppB]
  · rw [if_pos c]
    generalize tabI d ((T.take i).map (·.k)) T[i]=E at *
    simp only [w626_K0];rw [ck_unf w626_B0.eq_1]
    simp (disch:=omega) [h1,hf,c,wI64,H.inl,inlB,H.pp,ppB]
theorem rtab_ok (H:HasRb C) (T:List Ht) (te:Bool) (hT:T.length≤1000000) (d:Int) :
 FnW C 626 [.ro 2 (T.map eHt) te,.int .i64 d]=some (.tup [.int .i64 (tabE d T).1,.int .i64 (tabE d T).2]):=by
 rw [fnW_eq H.f626 rfl]
 unfold tabE
 by_cases c1:d < 1
 · rw [if_pos (.inl c1)]
   simp (disch:=omega) [w626,c1,wI64,H.inl,inlB,H.pp,ppB]
 · by_cases c2:2305843009213693952 < d
   · rw [if_pos (.inr c2)]
     simp (disch:=omega) [w626,c1,c2,wI64,H.inl,inlB,H.pp,ppB]
   · rw [if_neg (by omega)]
     by_cases c3:256 < (T.length:Int)
     · rw [if_pos c3]
       simp (disch:=omega) [w626,c1,c2,c3,wI64,H.inl,inlB,H.pp,ppB]
     · rw [if_neg c3]
       have h:=rtab_loop H T te hT d T.length 0 rfl
       rw [List.drop_zero,List.take_zero,List.map_nil] at h
       simp only [w626_K0] at h
       simp at h
       simp (disch:=omega) [w626,c1,c2,c3,h,wI64,H.inl,inlB,H.pp,ppB]
end Go.D
end
section
namespace Go.D
open Go Go.Pav Go.Pw P
set_option maxHeartbeats 1000000
theorem en_false9 {ks:List Kd} {cap:Int} {e:En} {b:Bool} (h:enE ks cap e b=0):b=false:=by
 cases b with
 | false=>rfl
 | true =>
  have h1:itE ks cap e.i true≠0:=by
   unfold itE
   split
   · simp
   · rw [if_pos rfl];simp
  unfold enE at h
  rw [if_pos h1] at h
  exact absurd h h1
theorem chk_iff9 (ks:List Kd) (cap:Int):∀ (l:List En) (seen:List Int),chk ks cap seen l=0↔(∀ e ∈ l,enE ks cap e false=0∧e.i.k ∉ seen)∧(l.map fun e=>e.i.k).Nodup:=by
 intro l
 induction l with
 | nil=>intro seen;simp [chk]
 | cons a r ih =>
  intro seen
  rw [chk]
  constructor
  · intro h
    split at h
    · rename_i hc;exact absurd h hc
    · rename_i hc
      have hc:enE ks cap a (seen.contains a.i.k)=0:=by simpa using hc
      have hf:=en_false9 hc
      rw [hf] at hc
      have hns:a.i.k ∉ seen:=by simpa using hf
      obtain ⟨q1,q2⟩:=(ih _).1 h
      refine ⟨?_,?_⟩
      · intro e he
        rcases List.mem_cons.1 he with rfl | he
        · exact ⟨hc,hns⟩
        · obtain ⟨p1,p2⟩:=q1 e he
          exact ⟨p1,fun hm=>p2 (by simp [hm])⟩
      · simp only [List.map_cons,List.nodup_cons] at q2 ⊢
        refine ⟨?_,q2⟩
        intro hm
        obtain ⟨e,he,hk⟩:=List.mem_map.1 hm
        exact (q1 e he).2 (by simp [hk])
  · rintro ⟨q1,q2⟩
    obtain ⟨p1,p2⟩:=q1 a (List.mem_cons_self ..)
    have hf:seen.contains a.i.k=false:=by simpa using p2
    rw [hf,if_neg (by simp [p1])]
    rw [ih]
    simp only [List.map_cons,List.nodup_cons] at q2 ⊢
    refine ⟨?_,q2.2⟩
    intro e he
    refine ⟨(q1 e (List.mem_cons_of_mem _ he)).1,?_⟩
    intro hm
    rcases List.mem_append.1 hm with hm | hm
    · exact (q1 e (List.mem_cons_of_mem _ he)).2 hm
    · simp only [List.mem_singleton] at hm
      exact q2.1 (List.mem_map.2 ⟨e,he,hm⟩)
structure Gd (ks:List Kd) (cap:Int) (l:List En):Prop where
 ru:ruOk ks cap=true
 n:l.length≤1024
 e:∀ x ∈ l,EnIn x
 v:∀ x ∈ l,enE ks cap x false=0
 k:(l.map fun e=>e.i.k).Nodup
 t:tot l≤4611686018427387904
theorem gd_of {ks:List Kd} {cap:Int} {l:List En} (h:ckE ks cap l=0) (he:∀ x ∈ l,EnIn x):Gd ks cap l:=by
 unfold ckE at h
 by_cases c1:ruOk ks cap=false
 · rw [if_pos c1] at h;exact absurd h (by decide)
 rw [if_neg c1] at h
 by_cases c2:1024 < l.length
 · rw [if_pos c2] at h;exact absurd h (by decide)
 rw [if_neg c2] at h
 by_cases c3:chk ks cap [] l≠0
 · rw [if_pos c3] at h;exact absurd h c3
 rw [if_neg c3] at h
 have c3:chk ks cap [] l=0:=by omega
 unfold ovE at h
 split at h
 · exact absurd h (by decide)
 rename_i c4
 obtain ⟨q1,q2⟩:=(chk_iff9 ks cap l []).1 c3
 exact ⟨by simpa using c1,by omega,he,fun x hx=>(q1 x hx).1,q2,by omega⟩
section
variable {ks:List Kd} {cap:Int} {l:List En}
theorem Gd.ck (h:Gd ks cap l):ckE ks cap l=0:=by
 have hc:chk ks cap [] l=0:=(chk_iff9 ks cap l []).2 ⟨fun e he=>⟨h.v e he,by simp⟩,h.k⟩
 have:=h.n
 have:=h.t
 unfold ckE ovE
 rw [h.ru,if_neg (by simp),if_neg (by omega),hc,if_neg (by simp),if_neg (by omega)]
theorem enE_parts {x:En} (h:enE ks cap x false=0):itE ks cap x.i false=0∧hOk x.s=true:=by
 unfold enE at h
 by_cases c:itE ks cap x.i false≠0
 · rw [if_pos c] at h;exact absurd h c
 rw [if_neg c] at h
 split at h
 · rename_i q;exact ⟨by omega,q.1⟩
 · exact absurd h (by decide)
theorem itE_ok {x:It} (h:itE ks cap x false=0):itOk ks.length x=true:=by
 unfold itE at h
 split at h
 · exact absurd h (by decide)
 · rename_i c;simpa using c
theorem Gd.szd (h:Gd ks cap l):Szd l:=by
 refine szd_of ?_
 have:=h.n
 have:=h.t
 unfold szE ovE
 rw [if_neg (by omega),if_neg,if_neg (by omega)]
 rw [Bool.not_eq_true,List.any_eq_false]
 intro x hx
 simp [(enE_parts (h.v x hx)).2]
theorem itOk_t9 {n:Nat} {x:It} (h:itOk n x=true) (hx:ItIn x):0≤x.t∧x.t < n:=by
 have:=hx.t
 unfold itOk at h
 simp only [Bool.and_eq_true,decide_eq_true_eq] at h
 omega
theorem Gd.ty (h:Gd ks cap l):∀ x ∈ l,0≤x.i.t∧x.i.t < ks.length:=fun x hx=>itOk_t9 (itE_ok (enE_parts (h.v x hx)).1) (h.e x hx).i
theorem Gd.k8 (h:Gd ks cap l):ks.length≤8∧∀ k ∈ ks,hOk k.b=true:=by
 have:=h.ru
 unfold ruOk kdOk at this
 simp only [Bool.and_eq_true,decide_eq_true_eq,List.all_eq_true] at this
 exact ⟨by omega,fun k hk=>(this.2 k hk).1⟩
def vlK (ks:List Kd) (T:List Ht) (e:En):En:=⟨e.i,htOf ks e.i T,true⟩
def updK (ks:List Kd) (T:List Ht) (l:List En) (i:Nat):List En:=match l[i]? with | some e=>l.set i (vlK ks T e) | none=>l
def TOk (T:List Ht):Prop:=∀ x ∈ T,hOk x.s=true
theorem htOf_ok {T:List Ht} (hT:TOk T) (hk:∀ k ∈ ks,hOk k.b=true) {x:It} (ht:0≤x.t∧x.t < ks.length):hOk (htOf ks x T)=true:=by
 unfold htOf
 cases hf:T.find? (fun y=>decide (y.k=x.k)) with
 | some y=>exact hT y (List.mem_of_find?_eq_some hf)
 | none =>
  have hlt:x.t.toNat < ks.length:=by omega
  simp only [List.getElem?_eq_getElem hlt]
  exact hk _ (List.getElem_mem hlt)
theorem updK_len (T:List Ht) (l:List En) (i:Nat):(updK ks T l i).length=l.length:=by
 unfold updK;cases l[i]? <;> simp
theorem updK_get (T:List Ht) {l:List En} {i:Nat} (h:i < l.length):updK ks T l i=l.set i (vlK ks T l[i]):=by
 unfold updK;rw [List.getElem?_eq_getElem h]
theorem updK_it (T:List Ht) (l:List En) (i:Nat):(updK ks T l i).map En.i=l.map En.i:=by
 unfold updK
 cases h:l[i]? with
 | none=>rfl
 | some e =>
  obtain ⟨hi,rfl⟩:=List.getElem?_eq_some_iff.1 h
  simp only [List.map_set,vlK]
  refine List.ext_getElem (by simp) fun j h1 h2=>?_
  rw [List.getElem_set]
  split
  · rename_i q;subst q;simp
  · rfl
theorem mem_updK {T:List Ht} {l:List En} {i:Nat} {x:En} (h:x ∈ updK ks T l i):x ∈ l∨∃ e ∈ l,x=vlK ks T e:=by
 unfold updK at h
 cases hl:l[i]? with
 | none=>rw [hl] at h;exact .inl h
 | some e =>
  rw [hl] at h
  rcases List.mem_or_eq_of_mem_set h with h | h
  · exact .inl h
  · exact .inr ⟨e,List.mem_of_getElem? hl,h⟩
theorem keys_it {a b:List En} (h:a.map En.i=b.map En.i):(a.map fun e=>e.i.k)=b.map fun e=>e.i.k:=by
 have:=congrArg (List.map It.k) h
 rw [List.map_map,List.map_map] at this
 exact this
theorem Gd.upd (h:Gd ks cap l) {T:List Ht} (hT:TOk T) (i:Nat) (ht:tot (updK ks T l i)≤4611686018427387904):Gd ks cap (updK ks T l i):=by
 have h8:=h.k8
 have hs:∀ e ∈ l,hOk (htOf ks e.i T)=true:=fun e he=>htOf_ok hT h8.2 (h.ty e he)
 refine ⟨h.ru,by rw [updK_len];exact h.n,fun x hx=>?_,fun x hx=>?_,by rw [keys_it (updK_it T l i)];exact h.k,ht⟩
 · rcases mem_updK hx with hx | ⟨e,he,rfl⟩
   · exact h.e x hx
   · have:=hs e he
     rw [hOk_iff] at this
     exact ⟨(h.e e he).i,by simp only [vlK];omega⟩
 · rcases mem_updK hx with hx | ⟨e,he,rfl⟩
   · exact h.v x hx
   · obtain ⟨q1,q2⟩:=enE_parts (h.v e he)
     unfold enE
     simp only [vlK]
     rw [if_neg (by omega),if_pos ⟨hs e he,by simp⟩]
def rdF (ks:List Kd) (T:List Ht):List En→List Int→Option (List En)
 | l,[]=>some l
 | l,i::r=>if 4611686018427387904 < tot (updK ks T l i.toNat) then none else rdF ks T (updK ks T l i.toNat) r
theorem rdF_gd {T:List Ht} (hT:TOk T):∀ (u:List Int) (l l':List En),Gd ks cap l→rdF ks T l u=some l'→Gd ks cap l'∧l'.map En.i=l.map En.i:=by
 intro u
 induction u with
 | nil=>intro l l' h hr;rw [rdF] at hr;cases hr;exact ⟨h,rfl⟩
 | cons i r ih =>
  intro l l' h hr
  rw [rdF] at hr
  split at hr
  · cases hr
  · rename_i c
    obtain ⟨q1,q2⟩:=ih _ _ (h.upd hT i.toNat (by omega)) hr
    exact ⟨q1,q2.trans (updK_it T l _)⟩
def cntU (l:List En):Nat:=(l.filter fun e=>!e.kn).length
theorem cntU_set:∀ (l:List En) (i:Nat) (h:i < l.length) (x:En),x.kn=true→cntU (l.set i x)+(if l[i].kn=true then 0 else 1)=cntU l:=by
 intro l
 induction l with
 | nil=>intro i h;simp at h
 | cons a r ih =>
  intro i h x hx
  cases i with
  | zero =>
   simp only [List.set_cons_zero,List.getElem_cons_zero,cntU,List.filter_cons,hx]
   by_cases ha:a.kn=true
   · simp [ha]
   · simp [ha]
  | succ i =>
   have:=ih i (by simpa using h) x hx
   simp only [List.set_cons_succ,List.getElem_cons_succ,cntU,List.filter_cons] at this ⊢
   by_cases ha:a.kn=true
   · simpa [ha] using this
   · simp only [ha,Bool.not_false,if_true,List.length_cons] at this ⊢;omega
theorem updK_cnt (T:List Ht) (l:List En) (i:Nat):cntU (updK ks T l i)≤cntU l:=by
 by_cases h:i < l.length
 · rw [updK_get T h]
   have:=cntU_set l i h (vlK ks T l[i]) rfl
   omega
 · unfold updK;rw [List.getElem?_eq_none (by omega)];exact Nat.le_refl _
theorem rdF_cnt (T:List Ht):∀ (u:List Int) (l l':List En),rdF ks T l u=some l'→cntU l'≤cntU l:=by
 intro u
 induction u with
 | nil=>intro l l' hr;rw [rdF] at hr;cases hr;exact Nat.le_refl _
 | cons i r ih =>
  intro l l' hr
  rw [rdF] at hr
  split at hr
  · cases hr
  · exact Nat.le_trans (ih _ _ hr) (updK_cnt T l _)
def rdU (ks:List Kd) (l:List En) (v over k d:Int):List Int:=unkF l (attL ks l (offF l v k d) v over)
theorem unkF_mem {l:List En} {a:List Int} {i:Int} (h:i ∈ unkF l a):i ∈ a∧∃ hi:i.toNat < l.length,l[i.toNat].kn=false:=by
 unfold unkF at h
 obtain ⟨h1,h2⟩:=List.mem_filter.1 h
 refine ⟨h1,?_⟩
 cases hl:l[i.toNat]? with
 | none=>rw [hl] at h2;cases h2
 | some e =>
  rw [hl] at h2
  obtain ⟨hi,rfl⟩:=List.getElem?_eq_some_iff.1 hl
  exact ⟨hi,by simpa using h2⟩
theorem rdF_lt (T:List Ht) {a:List Int} {l l':List En} (hr:rdF ks T l (unkF l a)=some l') (hu:unkF l a≠[]):cntU l' < cntU l:=by
 cases hq:unkF l a with
 | nil=>exact absurd hq hu
 | cons i r =>
  obtain ⟨_,hi,hk⟩:=unkF_mem (l:=l) (a:=a) (i:=i) (by rw [hq];simp)
  rw [hq,rdF] at hr
  split at hr
  · cases hr
  · have h1:=rdF_cnt T _ _ _ hr
    rw [updK_get T hi] at h1
    have:=cntU_set l _ hi (vlK ks T l[i.toNat]) rfl
    rw [hk] at this
    simp at this
    omega
def stF (ks:List Kd) (T:List Ht) (v over k d:Int):Nat→List En→Nat→Option (List En × Int × Nat)
 | 0,_,_=>none
 | n+1,l,r=>match rdF ks T l (rdU ks l v over k d) with
  | none=>none
  | some l'=>if rdU ks l v over k d=[] then some (l',offF l v k d,r) else stF ks T v over k d n l' (r+1)
theorem fndF_it (k:Int):∀ (a b:List En) (i:Nat),a.map En.i=b.map En.i→fndF k i a=fndF k i b:=by
 intro a
 induction a with
 | nil=>intro b i h;cases b with | nil=>rfl | cons x y=>simp at h
 | cons x a ih =>
  intro b i h
  cases b with
  | nil=>simp at h
  | cons y b =>
   simp only [List.map_cons,List.cons.injEq] at h
   rw [fndF,fndF,h.1,ih b (i+1) h.2]
theorem AnOk.it {a b:List En} {k d:Int} (h:AnOk a k d) (hi:b.map En.i=a.map En.i):AnOk b k d :=
 ⟨h.k0,h.d0,h.z,fun q=>by rw [fndF_it k b a 0 hi];exact h.f q⟩
end
end Go.D
end
section
namespace Go.D
open Go Go.Pav Go.Pw P
set_option maxHeartbeats 2000000
attribute [-simp] List.getElem_cons_drop
variable {C:WProg}
structure HasRd (C:WProg):Prop extends HasUf C,HasMs C where
 f2019:C.fns.get 2019=some w2019
theorem map_setK (ks:List Kd) (T:List Ht) (L:List En) (j:Nat) (h:j < L.length):(updK ks T L j).map eEn=(L.map eEn).set j [.int .u64 L[j].i.k,.int .u8 L[j].i.t,.str L[j].i.x,.ro 1 (L[j].i.m.map eS) L[j].i.e,.int .i64 (htOf ks L[j].i T),.bool true]:=by
 rw [updK_get T h,List.map_set];rfl
section
variable (ks:List Kd) (ke:Bool) (cap v ov ls k d s0 r0:Int) (T:List Ht) (te:Bool)
theorem rlpA (H:HasRd C) (hr:RuIn ks) (hT:TOk T) (hTl:T.length≤1000000) (o:Int) (n:Nat) (K:List Int) (hK:∀ x ∈ K,0≤x∧x < n) (hkl:K.length≤2000):∀ m i,m+i=K.length→∀ L:List En,L.length=n→Gd ks cap L →
 (∀ L',rdF ks T L (K.drop i)=some L'→∃ q,CK C 11 (fnEndW [.tmp 8,.tmp 9,.tmp 10]) [.sq w2019_L0,.bk 0 ⟨true,[11,8],[]⟩,.sq w2019_c0] w2019_B0 ⟨[(43,.int .i64 i),(42,.int .i64 K.length),(41,.sl 11 1 0 K.length K.length true),(11,.sl 11 1 0 K.length K.length true),(8,.int .i64 o),(5,.ptr 12 0 0),(4,.ptr 13 0 0),(3,.ro 2 (T.map eHt) te)],[(0,.cells 3 [[.sl 1 6 0 n n true,.int .i64 s0,.int .i64 r0]] true false),(1,.cells 6 (L.map eEn) true true),(2,.cells 3 [[.ro 6 [] true,.int .i64 0,.int .i64 0]] true true),(3,.cells 2 [[.int .u64 k,.int .i64 d]] true true),(4,.cells 5 [[.ro 9 (ks.map eKd) ke,.int .i64 cap,.int .i64 v,.int .i64 ov,.int .i64 ls]] true true),(11,.cells 1 (K.map eI) true true),(12,.cells 1 [[.sl 1 6 0 n n true]] true false),(13,.cells 5 [[.ro 9 (ks.map eKd) ke,.int .i64 cap,.int .i64 v,.int .i64 ov,.int .i64 ls]] true true)],14⟩=some (.tup [.int .i64 o,.int .i64 K.length,.int .i64 0],[(0,.cells 3 [[.sl 1 6 0 n n true,.int .i64 s0,.int .i64 r0]] true false),(1,.cells 6 (L'.map eEn) true true),(2,.cells 3 [[.ro 6 [] true,.int .i64 0,.int .i64 0]] true true),(3,.cells 2 [[.int .u64 k,.int .i64 d]] true true),(4,.cells 5 [[.ro 9 (ks.map eKd) ke,.int .i64 cap,.int .i64 v,.int .i64 ov,.int .i64 ls]] true true),(11,.cells 1 (K.map eI) true true)],q)) ∧
 (rdF ks T L (K.drop i)=none→∃ L':List En,L'.length=n∧∃ q,CK C 11 (fnEndW [.tmp 8,.tmp 9,.tmp 10]) [.sq w2019_L0,.bk 0 ⟨true,[11,8],[]⟩,.sq w2019_c0] w2019_B0 ⟨[(43,.int .i64 i),(42,.int .i64 K.length),(41,.sl 11 1 0 K.length K.length true),(11,.sl 11 1 0 K.length K.length true),(8,.int .i64 o),(5,.ptr 12 0 0),(4,.ptr 13 0 0),(3,.ro 2 (T.map eHt) te)],[(0,.cells 3 [[.sl 1 6 0 n n true,.int .i64 s0,.int .i64 r0]] true false),(1,.cells 6 (L.map eEn) true true),(2,.cells 3 [[.ro 6 [] true,.int .i64 0,.int .i64 0]] true true),(3,.cells 2 [[.int .u64 k,.int .i64 d]] true true),(4,.cells 5 [[.ro 9 (ks.map eKd) ke,.int .i64 cap,.int .i64 v,.int .i64 ov,.int .i64 ls]] true true),(11,.cells 1 (K.map eI) true true),(12,.cells 1 [[.sl 1 6 0 n n true]] true false),(13,.cells 5 [[.ro 9 (ks.map eKd) ke,.int .i64 cap,.int .i64 v,.int .i64 ov,.int .i64 ls]] true true)],14⟩=some (.tup [.int .i64 0,.int .i64 0,.int .i64 13],[(0,.cells 3 [[.sl 1 6 0 n n true,.int .i64 s0,.int .i64 r0]] true false),(1,.cells 6 (L'.map eEn) true true),(2,.cells 3 [[.ro 6 [] true,.int .i64 0,.int .i64 0]] true true),(3,.cells 2 [[.int .u64 k,.int .i64 d]] true true),(4,.cells 5 [[.ro 9 (ks.map eKd) ke,.int .i64 cap,.int .i64 v,.int .i64 ov,.int .i64 ls]] true true),(11,.cells 1 (K.map eI) true true),(12,.cells 1 [[.sl 1 6 0 n n true]] true false),(13,.cells 5 [[.ro 9 (ks.map eKd) ke,.int .i64 cap,.int .i64 v,.int .i64 ov,.int .i64 ls]] true true)],q)):=by
 intro m
 induction m with
 | zero =>
  intro i hi L hL hG
  have h3:¬ i < K.length:=by omega
  have q:K.drop i=[]:=List.drop_eq_nil_of_le (by omega)
  rw [q,rdF]
  refine ⟨fun L' hL'=>?_,fun h=>by cases h⟩
  cases hL'
  rw [ck_unf w2019_B0.eq_1]
  simp (disch:=omega) [ck_unf w2019_c0.eq_1,h3,wI64,H.toHasUf.inl,inlB,H.toHasUf.pp,ppB]
 | succ m ih =>
  intro i hi L hL hG
  have h1:i < K.length:=by omega
  have hj:=hK _ (List.getElem_mem h1)
  obtain ⟨j,hj2⟩:∃ j:Nat,K[i]=j:=⟨K[i].toNat,by omega⟩
  rw [drop_cons h1,rdF]
  rw [hj2] at hj ⊢
  rw [show ((j:Int)).toNat=j from rfl]
  have hjn:j < n:=by omega
  have hjL:j < L.length:=by omega
  have ht:=hG.ty _ (List.getElem_mem hjL)
  have h8:=hG.k8
  have hGn:=hG.n
  have hm:=meas_ok H.toHasMs ks ke cap v ov ls L[j].i (by omega) (by omega) T te hTl
  have hUl:(updK ks T L j).length=n:=by rw [updK_len,hL]
  have htot:=totW_ok H.toHasUf.toHasUn.toHasWo.toHasL (updK ks T L j) true (by omega) (by
   intro x hx
   rcases mem_updK hx with hx | ⟨e,he,rfl⟩
   · exact (hG.e x hx).s
   · have:=htOf_ok hT h8.2 (hG.ty e he)
     rw [hOk_iff] at this
     simp only [vlK];omega)
  have hlen:(L.map eEn).length=n:=by simp [hL]
  by_cases c:4611686018427387904 < tot (updK ks T L j)
  · rw [if_pos c]
    refine ⟨fun L' h=>(by cases h),fun _=>⟨updK ks T L j,hUl,?_⟩⟩
    simp only [aL] at htot
    rw [map_setK ks T L j hjL] at htot ⊢
    rw [ck_unf w2019_B0.eq_1]
    have hTK:∀ x,List.take n ((L.map eEn).set j x)=(L.map eEn).set j x:=fun x=>List.take_of_length_le (by simp [hL])
    simp only [aF,eIt] at hm
    try simp at htot
    try simp at hm
    simp (disch:=omega) [h1,hj2,hjn,hjL,hL,hTK,hm,htot,c,wI64,H.toHasUf.inl,inlB,H.toHasUf.pp,ppB]
  · rw [if_neg c]
    have this:=ih (i+1) (by omega) (updK ks T L j) hUl (hG.upd hT j (by omega))
    simp only [aL] at htot
    rw [map_setK ks T L j hjL] at htot this
    have hTK:∀ x,List.take n ((L.map eEn).set j x)=(L.map eEn).set j x:=fun x=>List.take_of_length_le (by simp [hL])
    have hstep:∀ Z,CK C 11 (fnEndW [.tmp 8,.tmp 9,.tmp 10]) [.sq w2019_L0,.bk 0 ⟨true,[11,8],[]⟩,.sq w2019_c0] w2019_B0 ⟨[(43,.int .i64 ((i+1:Nat):Int)),(42,.int .i64 K.length),(41,.sl 11 1 0 K.length K.length true),(11,.sl 11 1 0 K.length K.length true),(8,.int .i64 o),(5,.ptr 12 0 0),(4,.ptr 13 0 0),(3,.ro 2 (T.map eHt) te)],[(0,.cells 3 [[.sl 1 6 0 n n true,.int .i64 s0,.int .i64 r0]] true false),(1,.cells 6 ((L.map eEn).set j [.int .u64 L[j].i.k,.int .u8 L[j].i.t,.str L[j].i.x,.ro 1 (L[j].i.m.map eS) L[j].i.e,.int .i64 (htOf ks L[j].i T),.bool true]) true true),(2,.cells 3 [[.ro 6 [] true,.int .i64 0,.int .i64 0]] true true),(3,.cells 2 [[.int .u64 k,.int .i64 d]] true true),(4,.cells 5 [[.ro 9 (ks.map eKd) ke,.int .i64 cap,.int .i64 v,.int .i64 ov,.int .i64 ls]] true true),(11,.cells 1 (K.map eI) true true),(12,.cells 1 [[.sl 1 6 0 n n true]] true false),(13,.cells 5 [[.ro 9 (ks.map eKd) ke,.int .i64 cap,.int .i64 v,.int .i64 ov,.int .i64 ls]] true true)],14⟩=Z→CK C 11 (fnEndW [.tmp 8,.tmp 9,.tmp 10]) [.sq w2019_L0,.bk 0 ⟨true,[11,8],[]⟩,.sq w2019_c0] w2019_B0 ⟨[(43,.int .i64 i),(42,.int .i64 K.length),(41,.sl 11 1 0 K.length K.length true),(11,.sl 11 1 0 K.length K.length true),(8,.int .i64 o),(5,.ptr 12 0 0),(4,.ptr 13 0 0),(3,.ro 2 (T.map eHt) te)],[(0,.cells 3 [[.sl 1 6 0 n n true,.int .i64 s0,.int .i64 r0]] true false),(1,.cells 6 (L.map eEn) true true),(2,.cells 3 [[.ro 6 [] true,.int .i64 0,.int .i64 0]] true true),(3,.cells 2 [[.int .u64 k,.int .i64 d]] true true),(4,.cells 5 [[.ro 9 (ks.map eKd) ke,.int .i64 cap,.int .i64 v,.int .i64 ov,.int .i64 ls]] true true),(11,.cells 1 (K.map eI) true true),(12,.cells 1 [[.sl 1 6 0 n n true]] true false),(13,.cells 5 [[.ro 9 (ks.map eKd) ke,.int .i64 cap,.int .i64 v,.int .i64 ov,.int .i64 ls]] true true)],14⟩=Z:=by
     intro Z hZ
     rw [ck_unf w2019_B0.eq_1]
     simp only [aF,eIt] at hm
     try simp at htot
     try simp at hm
     try simp at hZ
     simp (disch:=omega) [h1,hj2,hjn,hjL,hL,hTK,hm,htot,c,hZ,wI64,H.toHasUf.inl,inlB,H.toHasUf.pp,ppB]
    refine ⟨fun L' h=>?_,fun h=>?_⟩
    · obtain ⟨q,hq⟩:=this.1 L' h
      exact ⟨q,hstep _ hq⟩
    · obtain ⟨L',hl',q,hq⟩:=this.2 h
      exact ⟨L',hl',q,hstep _ hq⟩
theorem rndA (H:HasRd C) (HO:HasOf C) (V:HasVf C) (hr:RuIn ks) (hT:TOk T) (hTl:T.length≤1000000) (hv:1≤v∧v≤2147483648) (ho:0≤ov∧ov≤16) (L:List En) (hne:L≠[]) (hG:Gd ks cap L) (ha:AnOk L k d) :
 (∀ L',rdF ks T L (rdU ks L v ov k d)=some L'→∃ Q q,(Q=[]∨∃ K:List Int,Q=[(11,.cells 1 (K.map eI) true true)])∧RnW C 2019 [aF ks ke cap v ov ls,.agg [.sl 1 6 0 L.length L.length true],aA k d,.ro 2 (T.map eHt) te] [(0,.cells 3 [[.sl 1 6 0 L.length L.length true,.int .i64 s0,.int .i64 r0]] true false),(1,.cells 6 (L.map eEn) true true),(2,.cells 3 [[.ro 6 [] true,.int .i64 0,.int .i64 0]] true true),(3,.cells 2 [[.int .u64 k,.int .i64 d]] true true),(4,.cells 5 [[.ro 9 (ks.map eKd) ke,.int .i64 cap,.int .i64 v,.int .i64 ov,.int .i64 ls]] true true)] 11=some (.tup [.int .i64 (offF L v k d),.int .i64 (rdU ks L v ov k d).length,.int .i64 0],[(0,.cells 3 [[.sl 1 6 0 L.length L.length true,.int .i64 s0,.int .i64 r0]] true false),(1,.cells 6 (L'.map eEn) true true),(2,.cells 3 [[.ro 6 [] true,.int .i64 0,.int .i64 0]] true true),(3,.cells 2 [[.int .u64 k,.int .i64 d]] true true),(4,.cells 5 [[.ro 9 (ks.map eKd) ke,.int .i64 cap,.int .i64 v,.int .i64 ov,.int .i64 ls]] true true)]++Q,q)) ∧
 (rdF ks T L (rdU ks L v ov k d)=none→∃ (L':List En) (K:List Int),L'.length=L.length∧∃ q,RnW C 2019 [aF ks ke cap v ov ls,.agg [.sl 1 6 0 L.length L.length true],aA k d,.ro 2 (T.map eHt) te] [(0,.cells 3 [[.sl 1 6 0 L.length L.length true,.int .i64 s0,.int .i64 r0]] true false),(1,.cells 6 (L.map eEn) true true),(2,.cells 3 [[.ro 6 [] true,.int .i64 0,.int .i64 0]] true true),(3,.cells 2 [[.int .u64 k,.int .i64 d]] true true),(4,.cells 5 [[.ro 9 (ks.map eKd) ke,.int .i64 cap,.int .i64 v,.int .i64 ov,.int .i64 ls]] true true)] 11=some (.tup [.int .i64 0,.int .i64 0,.int .i64 13],[(0,.cells 3 [[.sl 1 6 0 L.length L.length true,.int .i64 s0,.int .i64 r0]] true false),(1,.cells 6 (L'.map eEn) true true),(2,.cells 3 [[.ro 6 [] true,.int .i64 0,.int .i64 0]] true true),(3,.cells 2 [[.int .u64 k,.int .i64 d]] true true),(4,.cells 5 [[.ro 9 (ks.map eKd) ke,.int .i64 cap,.int .i64 v,.int .i64 ov,.int .i64 ls]] true true),(11,.cells 1 (K.map eI) true true),(12,.cells 1 [[.sl 1 6 0 L.length L.length true]] true false),(13,.cells 5 [[.ro 9 (ks.map eKd) ke,.int .i64 cap,.int .i64 v,.int .i64 ov,.int .i64 ls]] true true)],q)):=by
 have hz:=hG.szd
 have hof:=offset_ok HO V L true hz v hv k d ha
 have hvp:=offF_vp (k:=k) (d:=d) hz hv
 have hun:=fun nid=>unf_ok H.toHasUf ks ke cap hr L true hG.e hG.ck hG.ty (offF L v k d) v ov hvp ho nid
 have hn:=hG.n
 have hUm:∀ x ∈ rdU ks L v ov k d,0≤x∧x < L.length:=by
  intro x hx
  obtain ⟨h1,h2,_⟩:=unkF_mem hx
  rw [← raF_att hvp ho,raF_mem] at h1
  omega
 have hUl:(rdU ks L v ov k d).length≤2000:=by
  have h1:=(att_len (ks:=ks) hvp ho).1
  have:(rdU ks L v ov k d).length≤(attL ks L (offF L v k d) v ov).length:=List.length_filter_le ..
  omega
 have hTK:List.take L.length (L.map eEn)=L.map eEn:=List.take_of_length_le (by simp)
 change ∀ nid,_=some (unR nid (rdU ks L v ov k d)) at hun
 have hlp:=rlpA ks ke cap v ov ls k d s0 r0 T te H hr hT hTl (offF L v k d) L.length (rdU ks L v ov k d) hUm hUl (rdU ks L v ov k d).length 0 rfl L rfl hG
 rw [List.drop_zero] at hlp
 generalize rdU ks L v ov k d=K at *
 generalize offF L v k d=o at *
 simp only [aL,aA,aR] at hof hun
 by_cases c:K=[]
 · subst c
   rw [rdF]
   refine ⟨fun L' h=>?_,fun h=>by cases h⟩
   cases h
   refine ⟨[],?_⟩
   simp [unR] at hun
   simp only [aF,aL,aA]
   rw [rnW_eq H.f2019 rfl]
   simp (disch:=omega) [w2019,ck_unf w2019_B0.eq_1,ck_unf w2019_c0.eq_1,hTK,hof,hun,wI64,H.toHasUf.inl,inlB,H.toHasUf.pp,ppB]
 · have hb:=bare_ints K
   simp only [unR,if_neg c] at hun
   have hrun:∀ Z,CK C 11 (fnEndW [.tmp 8,.tmp 9,.tmp 10]) [.sq w2019_L0,.bk 0 ⟨true,[11,8],[]⟩,.sq w2019_c0] w2019_B0 ⟨[(43,.int .i64 (0:Nat)),(42,.int .i64 K.length),(41,.sl 11 1 0 K.length K.length true),(11,.sl 11 1 0 K.length K.length true),(8,.int .i64 o),(5,.ptr 12 0 0),(4,.ptr 13 0 0),(3,.ro 2 (T.map eHt) te)],[(0,.cells 3 [[.sl 1 6 0 L.length L.length true,.int .i64 s0,.int .i64 r0]] true false),(1,.cells 6 (L.map eEn) true true),(2,.cells 3 [[.ro 6 [] true,.int .i64 0,.int .i64 0]] true true),(3,.cells 2 [[.int .u64 k,.int .i64 d]] true true),(4,.cells 5 [[.ro 9 (ks.map eKd) ke,.int .i64 cap,.int .i64 v,.int .i64 ov,.int .i64 ls]] true true),(11,.cells 1 (K.map eI) true true),(12,.cells 1 [[.sl 1 6 0 L.length L.length true]] true false),(13,.cells 5 [[.ro 9 (ks.map eKd) ke,.int .i64 cap,.int .i64 v,.int .i64 ov,.int .i64 ls]] true true)],14⟩=Z→RnW C 2019 [aF ks ke cap v ov ls,.agg [.sl 1 6 0 L.length L.length true],aA k d,.ro 2 (T.map eHt) te] [(0,.cells 3 [[.sl 1 6 0 L.length L.length true,.int .i64 s0,.int .i64 r0]] true false),(1,.cells 6 (L.map eEn) true true),(2,.cells 3 [[.ro 6 [] true,.int .i64 0,.int .i64 0]] true true),(3,.cells 2 [[.int .u64 k,.int .i64 d]] true true),(4,.cells 5 [[.ro 9 (ks.map eKd) ke,.int .i64 cap,.int .i64 v,.int .i64 ov,.int .i64 ls]] true true)] 11=Z:=by
    intro Z hZ
    simp only [aF,aL,aA]
    rw [rnW_eq H.f2019 rfl]
    try simp at hZ
    simp (disch:=omega) [w2019,hTK,hof,hun,hb,hZ,wI64,H.toHasUf.inl,inlB,H.toHasUf.pp,ppB]
   refine ⟨fun L' h=>?_,fun h=>?_⟩
   · obtain ⟨q,hq⟩:=hlp.1 L' h
     exact ⟨[(11,.cells 1 (K.map eI) true true)],q,.inr ⟨K,rfl⟩,hrun _ hq⟩
   · obtain ⟨L',hl',q,hq⟩:=hlp.2 h
     exact ⟨L',K,hl',q,hrun _ hq⟩
end
section
variable (ks:List Kd) (ke:Bool) (cap v ov ls k d:Int) (T:List Ht) (te:Bool)
end
end Go.D
end
section
namespace Go.D
open Go Go.Pav Go.Pw P
set_option maxHeartbeats 2000000
attribute [-simp] List.getElem_cons_drop
variable {C:WProg}
structure HasOw (C:WProg):Prop extends HasO C where
 f3001:C.fns.get 3001=some w3001
 f3002:C.fns.get 3002=some w3002
 f3003:C.fns.get 3003=some w3003
 f3004:C.fns.get 3004=some w226
def ofR (nid:Nat) (L:List En):AV × WUpd:=if L=[] then (.agg [.ro 6 [] true],[]) else (.agg [.sl nid 6 0 L.length L.length true],[(nid,some (.cells 6 (L.map eEn) true true))])
def oeR (nid:Nat) (L:List En):AV × WUpd:=if L=[] then (.tup [.agg [.ro 6 [] true],.int .i64 0],[]) else (.tup [.agg [.sl nid 6 0 L.length L.length true],.int .i64 0],[(nid,some (.cells 6 (L.map eEn) true true))])
theorem ownf_loop (H:HasOw C) (l:List En) (e:Bool) (hl:l.length≤1000000) (hm:∀ x ∈ l,x.i.m.length≤1000000):∀ n i,n+i=l.length→∀ G:List En,G.length=i →
 ∃ q m,Pav.get q 0=some (.cells 6 ((G++(l.drop i).map En.own).map eEn) true true)∧CK C 0 (fnEndW [.cell 2 1 true]) [.sq w226_L0,.bk 0 ⟨true,[3,2],[]⟩,.sq w226_c0] w226_B0 ⟨[(15,.int .i64 i),(14,.int .i64 l.length),(13,.ro 6 (l.map eEn) e),(3,.sl 0 6 0 l.length l.length true),(2,.ptr 1 0 0)],[(0,.cells 6 (G.map eEn++List.replicate n [.int .u64 0,.int .u8 0,.str [],.ro 1 [] true,.int .i64 0,.bool false]) true true),(1,.cells 1 [[.ro 6 [] true]] true true)],2⟩ =
  some (.agg [.sl 0 6 0 l.length l.length true],q,m):=by
 intro n
 induction n with
 | zero =>
  intro i hi G hG
  have h1:l.drop i=[]:=List.drop_eq_nil_of_le (by omega)
  have h3:¬ i < l.length:=by omega
  have h6:List.take l.length (List.map eEn G)=List.map eEn G:=List.take_of_length_le (by simp;omega)
  have h7:G.length=l.length:=by omega
  rw [ck_unf w226_B0.eq_1]
  simp [ck_unf w226_c0.eq_1,h1,h3,h6,h7]
 | succ n ih =>
  intro i hi G hG
  have h1:i < l.length:=by omega
  have hc:=copy1_ok H.toHasO.toHasK.toHasL l[i].i true (hm _ (List.getElem_mem h1))
  obtain ⟨q,m,hq,this⟩:=ih (i+1) (by omega) (G++[l[i].own]) (by simp [hG])
  rw [drop_cons h1]
  refine ⟨q,m,by simpa using hq,?_⟩
  rw [ck_unf w226_B0.eq_1]
  simp [It.own] at hc
  simp [En.own,It.own] at this
  simp (disch:=omega) [h1,wI64,hc,fill_get,fill_set,hG,H.inl,inlB,H.pp,ppB,En.own,It.own,this]
theorem ownf_ok (H:HasOw C) (l:List En) (e:Bool) (hl:l.length≤1000000) (hm:∀ x ∈ l,x.i.m.length≤1000000) (nid:Nat):freshCallW (RnW C) 3004 [.ro 6 (l.map eEn) e] nid=some (ofR nid (l.map En.own)):=by
 by_cases hne:l=[]
 · subst hne
   have hr:∃ q m,RnW C 3004 [.ro 6 [] e] [] 0=some (.agg [.ro 6 [] true],q,m):=by
    rw [rnW_eq H.f3004 rfl]
    simp [w226,H.inl,inlB,H.pp,ppB]
   obtain ⟨q,m,hr⟩:=hr
   unfold freshCallW
   rw [List.map_nil,hr]
   simp [ofR,ob,ownOf,ownOfL,Pav.get,freshOfW,hand,handL,om]
 · obtain ⟨q,m,hq,h⟩:=ownf_loop H l e hl hm l.length 0 (by simp) [] rfl
   have h2:l.length * 73≤35184372088832:=by omega
   have hr:RnW C 3004 [.ro 6 (l.map eEn) e] [] 0=some (.agg [.sl 0 6 0 l.length l.length true],q,m):=by
    rw [rnW_eq H.f3004 rfl]
    simp at h
    simp (disch:=omega) [w226,hne,h2,h]
   rw [List.nil_append,List.drop_zero] at hq
   unfold freshCallW
   rw [hr]
   simp [ofR,hne,hq,ob,ownOf,ownOfL,freshOfW,hand,handL,om]
theorem spl0 (l:List En):spl l 0 0 []=l:=by simp [spl]
theorem map_own_len (l:List En):(l.map En.own).length=l.length:=List.length_map ..
theorem dof_ok (H:HasOw C) (ks:List Kd) (ke:Bool) (cap:Int) (hr:RuIn ks) (l:List En) (e:Bool) (hG:Gd ks cap l) (nid:Nat) :
 freshCallW (RnW C) 3003 [aR ks ke cap,aL l e,.agg [.bool true,.int .i64 0,.ro 4 [] true,.nilf,.fn 222 [.rop [.ro 6 (l.map eEn) e],.rop [.int .i64 0],.rop [.int .i64 0]]]] nid=some (oeR nid (l.map En.own)):=by
 have hn:=hG.n
 have hc:=lcheck_ok H.toHasO.toHasK ks ke cap hr l e (by omega) hG.e
 rw [hG.ck] at hc
 have hf:=fresh_ok H.toHasO.toHasK ks ke cap [] true (by simp) (by simp)
 have hm:=mk222_ok H.toHasO (.ro 6 [] true) ⟨_,_,rfl⟩ l e 0 0 (by omega) (by omega)
 rw [spl0] at hm
 have ho:=fun nid=>ownf_ok H l true (by omega) (fun x q=>(hG.e x q).i.m) nid
 have ht:=total_ok H.toHasO.toHasK.toHasL (l.map En.own) true (by simp;omega) (fun x q=>by
  obtain ⟨y,hy,rfl⟩:=List.mem_map.1 q
  exact ⟨⟨(hG.e y hy).i.k,(hG.e y hy).i.t,(hG.e y hy).i.m⟩,(hG.e y hy).s⟩)
 have hv:ovE (l.map En.own)=0:=by
  have h1:tot (l.map En.own)=tot l:=by
   unfold tot
   have:∀ (l:List En) (s:Int),totG s (l.map En.own)=totG s l:=by
    intro l
    induction l with
    | nil=>intro s;rfl
    | cons a r ih=>intro s;rw [List.map_cons,totG,totG,ih];rfl
   exact this l 0
  have:=hG.t
  unfold ovE
  rw [h1,if_neg (by omega)]
 rw [hv] at ht
 simp only [List.map_nil] at hf
 simp only [aL,aR] at hc hf hm ht
 by_cases hne:l=[]
 · subst hne
   simp [ofR] at ho hc hf hm ht
   have hrun:∃ q m,RnW C 3003 [aR ks ke cap,aL [] e,.agg [.bool true,.int .i64 0,.ro 4 [] true,.nilf,.fn 222 [.rop [.ro 6 [] e],.rop [.int .i64 0],.rop [.int .i64 0]]]] [] 0=some (.tup [.agg [.ro 6 [] true],.int .i64 0],q,m):=by
    simp only [aL,aR]
    rw [rnW_eq H.f3003 rfl]
    simp [w3003,ck_unf w3003_B0.eq_1,ck_unf w3003_c0.eq_1,hc,hf,hm,ho,ht,H.inl,inlB,H.pp,ppB]
   obtain ⟨q,m,hrun⟩:=hrun
   unfold freshCallW
   rw [List.map_nil,hrun]
   simp [oeR,ob,ownOf,ownOfL,Pav.get,freshOfW,hand,handL,om]
 · have hne2:l.map En.own≠[]:=by simpa using hne
   simp only [ofR,if_neg hne2] at ho
   have hll:=map_own_len l
   generalize l.map En.own=L at *
   have hTK:List.take l.length (L.map eEn)=L.map eEn:=List.take_of_length_le (by simp [hll])
   have hrun:∃ q b m,Pav.get q b=some (.cells 6 (L.map eEn) true true)∧RnW C 3003 [aR ks ke cap,aL l e,.agg [.bool true,.int .i64 0,.ro 4 [] true,.nilf,.fn 222 [.rop [.ro 6 (l.map eEn) e],.rop [.int .i64 0],.rop [.int .i64 0]]]] [] 0=some (.tup [.agg [.sl b 6 0 L.length L.length true],.int .i64 0],q,m):=by
    simp only [aL,aR]
    rw [rnW_eq H.f3003 rfl]
    simp at hm
    rw [hll] at ho ⊢
    simp [w3003,ck_unf w3003_B0.eq_1,ck_unf w3003_c0.eq_1,hc,hf,hm,ho,ht,hTK,hll,hne2,H.inl,inlB,H.pp,ppB]
    exact ⟨_,_,by simp,rfl,rfl⟩
   obtain ⟨q,b,m,hq,hrun⟩:=hrun
   unfold freshCallW
   rw [hrun]
   simp [oeR,hne2,hq,ob,ownOf,ownOfL,Pav.get,freshOfW,hand,handL,om]
theorem remf_ok (H:HasOw C) (ks:List Kd) (ke:Bool) (cap:Int) (hr:RuIn ks) (l:List En) (e:Bool) (hG:Gd ks cap l) (nid:Nat) :
 freshCallW (RnW C) 3002 [aR ks ke cap,aL l e,.int .i64 0,.int .i64 0] nid=some (oeR nid (l.map En.own)):=by
 have hn:=hG.n
 have h:=fun nid=>dof_ok H ks ke cap hr l e hG nid
 have hw:=within_ok H.toHasO.toHasK.toHasL 0 0 l.length (by omega)
 have hin:inR 0 0 l.length=true:=by unfold inR;simp
 rw [hin] at hw
 simp only [aL,aR] at h
 by_cases hne:l=[]
 · subst hne
   simp [oeR] at h hw
   have hrun:∃ q m,RnW C 3002 [aR ks ke cap,aL [] e,.int .i64 0,.int .i64 0] [] 0=some (.tup [.agg [.ro 6 [] true],.int .i64 0],q,m):=by
    simp only [aL,aR]
    rw [rnW_eq H.f3002 rfl]
    simp [w3002,hw,h,H.inl,inlB,H.pp,ppB]
   obtain ⟨q,m,hrun⟩:=hrun
   unfold freshCallW
   rw [hrun]
   simp [oeR,ob,ownOf,ownOfL,Pav.get,freshOfW,hand,handL,om]
 · have hne2:l.map En.own≠[]:=by simpa using hne
   simp only [oeR,if_neg hne2] at h
   generalize l.map En.own=L at *
   have hrun:∃ q b m,Pav.get q b=some (.cells 6 (L.map eEn) true true)∧RnW C 3002 [aR ks ke cap,aL l e,.int .i64 0,.int .i64 0] [] 0=some (.tup [.agg [.sl b 6 0 L.length L.length true],.int .i64 0],q,m):=by
    simp only [aL,aR]
    rw [rnW_eq H.f3002 rfl]
    simp [w3002,hw,h,hne2,H.inl,inlB,H.pp,ppB]
    exact ⟨_,_,by simp,rfl,rfl⟩
   obtain ⟨q,b,m,hq,hrun⟩:=hrun
   unfold freshCallW
   rw [hrun]
   simp [oeR,hne2,hq,ob,ownOf,ownOfL,Pav.get,freshOfW,hand,handL,om]
theorem ownl_ok (H:HasOw C) (ks:List Kd) (ke:Bool) (cap v ov ls:Int) (hr:RuIn ks) (l:List En) (e:Bool) (hG:Gd ks cap l) (nid:Nat) :
 freshCallW (RnW C) 3001 [aF ks ke cap v ov ls,aL l e] nid=some (ofR nid (l.map En.own)):=by
 have h:=fun nid=>remf_ok H ks ke cap hr l e hG nid
 simp only [aL,aR] at h
 by_cases hne:l=[]
 · subst hne
   simp [oeR] at h
   have hrun:∃ q m,RnW C 3001 [aF ks ke cap v ov ls,aL [] e] [] 0=some (.agg [.ro 6 [] true],q,m):=by
    simp only [aL,aF]
    rw [rnW_eq H.f3001 rfl]
    simp [w3001,h,H.inl,inlB,H.pp,ppB]
   obtain ⟨q,m,hrun⟩:=hrun
   unfold freshCallW
   rw [hrun]
   simp [ofR,ob,ownOf,ownOfL,Pav.get,freshOfW,hand,handL,om]
 · have hne2:l.map En.own≠[]:=by simpa using hne
   simp only [oeR,if_neg hne2] at h
   generalize l.map En.own=L at *
   have hrun:∃ q b m,Pav.get q b=some (.cells 6 (L.map eEn) true true)∧RnW C 3001 [aF ks ke cap v ov ls,aL l e] [] 0=some (.agg [.sl b 6 0 L.length L.length true],q,m):=by
    simp only [aL,aF]
    rw [rnW_eq H.f3001 rfl]
    simp [w3001,h,hne2,H.inl,inlB,H.pp,ppB]
    exact ⟨_,_,by simp,rfl,rfl⟩
   obtain ⟨q,b,m,hq,hrun⟩:=hrun
   unfold freshCallW
   rw [hrun]
   simp [ofR,hne2,hq,ob,ownOf,ownOfL,Pav.get,freshOfW,hand,handL,om]
end Go.D
end
section
namespace Go.D
open Go Go.Pav Go.Pw P
set_option maxHeartbeats 2000000
attribute [-simp] List.getElem_cons_drop
variable {C:WProg}
structure HasSe (C:WProg):Prop extends HasRd C,HasOw C,HasOf C,HasSk C where
 f174:C.fns.get 174=some w174
 f350:C.fns.get 350=some w350
def stR:Option (List En × Int × Nat)→AV
 | none=>.tup [.agg [.ro 6 [] true,.int .i64 0,.int .i64 0],.int .i64 13]
 | some x=>.tup [.agg [.ro 6 (x.1.map eEn) true,.int .i64 x.2.1,.int .i64 x.2.2],.int .i64 0]
theorem rdF_nil (ks:List Kd) (T:List Ht) (L:List En):rdF ks T L []=some L:=rfl
section
variable (ks:List Kd) (ke:Bool) (cap v ov ls k d:Int) (T:List Ht) (te:Bool)
theorem st_loop (H:HasSe C) (hr:RuIn ks) (hT:TOk T) (hTl:T.length≤1000000) (hv:1≤v∧v≤2147483648) (ho:0≤ov∧ov≤16):∀ (n:Nat) (L:List En) (r:Nat) (s:Int),L≠[]→cntU L < n→r+n≤5000→Gd ks cap L→AnOk L k d →
 w174_K0 C ⟨[(11,.ptr 0 0 0),(8,.ptr 2 0 0),(6,.ptr 3 0 0),(4,.ptr 4 0 0),(3,.ro 2 (T.map eHt) te)],[(0,.cells 3 [[.sl 1 6 0 L.length L.length true,.int .i64 s,.int .i64 r]] true false),(1,.cells 6 (L.map eEn) true true),(2,.cells 3 [[.ro 6 [] true,.int .i64 0,.int .i64 0]] true true),(3,.cells 2 [[.int .u64 k,.int .i64 d]] true true),(4,.cells 5 [[.ro 9 (ks.map eKd) ke,.int .i64 cap,.int .i64 v,.int .i64 ov,.int .i64 ls]] true true)],5⟩ =
  some (stR (stF ks T v ov k d n L r)):=by
 intro n
 induction n with
 | zero=>intro L r s _ h;exact absurd h (by omega)
 | succ n ih =>
  intro L r s hne hc hrn hG hA
  have hR:=rndA ks ke cap v ov ls k d s r T te H.toHasRd H.toHasOf H.toHasSk.toHasVf hr hT hTl hv ho L hne hG hA
  rw [stF]
  simp only [aF,aA] at hR
  cases hq:rdF ks T L (rdU ks L v ov k d) with
  | none =>
   obtain ⟨L',K,hl,q,h⟩:=hR.2 hq
   simp only [stR,w174_K0]
   rw [ck_unf w174_B0.eq_1]
   try simp at h
   simp (disch:=omega) [h,hl,wI64,H.toHasRd.toHasUf.inl,inlB,H.toHasRd.toHasUf.pp,ppB]
  | some L' =>
   obtain ⟨Q,q,hQ,h⟩:=hR.1 L' hq
   obtain ⟨g1,g2⟩:=rdF_gd hT _ _ _ hG hq
   have hl:L'.length=L.length:=by have:=congrArg List.length g2;simpa using this
   by_cases c:rdU ks L v ov k d=[]
   · rw [c,rdF_nil] at hq
     cases hq
     rw [c] at h
     simp only [if_pos c,stR,w174_K0]
     generalize offF L v k d=o at *
     have hTK:List.take L.length (L.map eEn)=L.map eEn:=List.take_of_length_le (by simp)
     rw [ck_unf w174_B0.eq_1]
     rcases hQ with rfl | ⟨K,rfl⟩
     · try simp at h
       simp (disch:=omega) [h,hTK,wI64,H.toHasRd.toHasUf.inl,inlB,H.toHasRd.toHasUf.pp,ppB]
     · try simp at h
       simp (disch:=omega) [h,hTK,wI64,H.toHasRd.toHasUf.inl,inlB,H.toHasRd.toHasUf.pp,ppB]
   · have hlt:=rdF_lt T hq c
     have hU:(rdU ks L v ov k d).length≤1025:=by
      have hvp:=offF_vp (k:=k) (d:=d) hG.szd hv
      have h1:=(att_len (ks:=ks) hvp ho).1
      have:(rdU ks L v ov k d).length≤(attL ks L (offF L v k d) v ov).length:=List.length_filter_le ..
      have:=hG.n
      omega
     have hp:0 < (rdU ks L v ov k d).length:=List.length_pos_iff.2 c
     have hne':L'≠[]:=by intro q;rw [q] at hl;exact hne (List.length_eq_zero_iff.1 hl.symm)
     have this:=ih L' (r+1) (offF L v k d) hne' (by omega) (by omega) g1 (hA.it g2)
     simp only [if_neg c]
     rw [← this]
     generalize rdU ks L v ov k d=U at *
     generalize offF L v k d=o at *
     rw [hl]
     simp only [w174_K0]
     rw [ck_unf w174_B0.eq_1]
     rcases hQ with rfl | ⟨K,rfl⟩
     · try simp at h
       simp (disch:=omega) [h,hp,wI64,H.toHasRd.toHasUf.inl,inlB,H.toHasRd.toHasUf.pp,ppB]
     · try simp at h
       simp (disch:=omega) [h,hp,wI64,H.toHasRd.toHasUf.inl,inlB,H.toHasRd.toHasUf.pp,ppB]
end
end Go.D
end
section
namespace Go.D
open Go Go.Pav Go.Pw P
set_option maxHeartbeats 1000000
theorem sm_own:∀ l:List En,sm (l.map En.own)=sm l
 | []=>rfl
 | a::r=>by rw [List.map_cons,sm,sm,sm_own r];rfl
theorem top_own (l:List En) (i:Nat):top (l.map En.own) i=top l i:=by unfold top;rw [← List.map_take,sm_own]
theorem totG_own9:∀ (l:List En) (s:Int),totG s (l.map En.own)=totG s l
 | [],s=>rfl
 | a::r,s=>by rw [List.map_cons,totG,totG,totG_own9 r];rfl
theorem tot_own (l:List En):tot (l.map En.own)=tot l:=totG_own9 l 0
theorem fndF_own (k:Int):∀ (l:List En) (i:Nat),fndF k i (l.map En.own)=fndF k i l
 | [],i=>rfl
 | a::r,i=>by rw [List.map_cons,fndF,fndF,fndF_own k r];rfl
theorem rowF_own (l:List En) (x:Int):∀ n i,rowF (l.map En.own) x n i=rowF l x n i
 | 0,i=>rfl
 | n+1,i=>by rw [rowF,rowF,top_own,top_own,rowF_own l x n]
theorem rowA_own (l:List En) (x:Int):rowA (l.map En.own) x=rowA l x:=by unfold rowA;rw [List.length_map,rowF_own]
theorem visF_own (l:List En) (s v:Int):visF (l.map En.own) s v=visF l s v:=by unfold visF;rw [List.length_map,rowA_own]
theorem visT_own (l:List En) (s v:Int):visT (l.map En.own) s v=visT l s v:=by unfold visT;rw [List.length_map,rowA_own,sm_own]
theorem hdF_own (ks:List Kd) (l:List En) (o:Int):∀ n i a,hdF ks (l.map En.own) o n i a=hdF ks l o n i a
 | 0,i,a=>rfl
 | n+1,i,a=>by
  rw [hdF,hdF,top_own,hdF_own ks l o n,List.getElem?_map]
  cases l[i]? <;> rfl
theorem attL_own (ks:List Kd) (l:List En) (o v k:Int):attL ks (l.map En.own) o v k=attL ks l o v k:=by
 unfold attL hdA wF wT
 rw [visF_own,visT_own,hdF_own,List.length_map]
theorem mostS_own (l:List En) (v:Int):mostS (l.map En.own) v=mostS l v:=by unfold mostS;rw [sm_own]
theorem offF_own (l:List En) (v k d:Int):offF (l.map En.own) v k d=offF l v k d:=by
 unfold offF clF
 rw [mostS_own,top_own,fndF_own]
theorem unkF_own (l:List En) (a:List Int):unkF (l.map En.own) a=unkF l a:=by
 unfold unkF
 refine List.filter_congr fun x _=>?_
 rw [List.getElem?_map]
 cases l[x.toNat]? <;> rfl
theorem rdU_own (ks:List Kd) (l:List En) (v over k d:Int):rdU ks (l.map En.own) v over k d=rdU ks l v over k d:=by
 unfold rdU;rw [offF_own,attL_own,unkF_own]
theorem updK_own (ks:List Kd) (T:List Ht) (l:List En) (i:Nat):updK ks T (l.map En.own) i=(updK ks T l i).map En.own:=by
 unfold updK
 rw [List.getElem?_map]
 cases l[i]? with
 | none=>rfl
 | some e=>simp only [Option.map_some,List.map_set];rfl
theorem rdF_own (ks:List Kd) (T:List Ht):∀ (u:List Int) (l:List En),rdF ks T (l.map En.own) u=(rdF ks T l u).map (List.map En.own)
 | [],l=>rfl
 | i::r,l=>by
  rw [rdF,rdF,updK_own,tot_own]
  split
  · rfl
  · exact rdF_own ks T r _
theorem stF_own (ks:List Kd) (T:List Ht) (v over k d:Int):∀ (n:Nat) (l:List En) (r:Nat),stF ks T v over k d n (l.map En.own) r=(stF ks T v over k d n l r).map fun x=>(x.1.map En.own,x.2)
 | 0,l,r=>rfl
 | n+1,l,r=>by
  rw [stF,stF,rdU_own,rdF_own,offF_own]
  cases rdF ks T l (rdU ks l v over k d) with
  | none=>rfl
  | some l' =>
   simp only [Option.map_some]
   split
   · rfl
   · exact stF_own ks T v over k d n l' (r+1)
theorem enE_own9 (ks:List Kd) (cap:Int) (e:En) (b:Bool):enE ks cap e.own b=enE ks cap e b:=by
 have h:itE ks cap e.own.i b=itE ks cap e.i b:=by
  unfold itE
  have h1:itOk ks.length e.own.i=itOk ks.length e.i:=rfl
  have h2:rndE (kdAt ks e.own.i.t).p e.own.i cap=rndE (kdAt ks e.i.t).p e.i cap:=by
   unfold rndE
   have h3:itOk2 e.own.i=itOk2 e.i:=rfl
   have h4:mkN e.own.i (kdAt ks e.i.t).p=mkN e.i (kdAt ks e.i.t).p:=by unfold mkN;rw [show e.own.i=e.i.own from rfl,mk_own]
   have h5:e.own.i.t=e.i.t:=rfl
   rw [h3,h5,h4]
  rw [h1,h2]
 unfold enE
 rw [h];rfl
theorem Gd.own {ks:List Kd} {cap:Int} {l:List En} (h:Gd ks cap l):Gd ks cap (l.map En.own):=by
 refine ⟨h.ru,by rw [List.length_map];exact h.n,?_,?_,?_,by rw [tot_own];exact h.t⟩
 · intro x hx
   obtain ⟨y,hy,rfl⟩:=List.mem_map.1 hx
   exact ⟨⟨(h.e y hy).i.k,(h.e y hy).i.t,(h.e y hy).i.m⟩,(h.e y hy).s⟩
 · intro x hx
   obtain ⟨y,hy,rfl⟩:=List.mem_map.1 hx
   rw [enE_own9];exact h.v y hy
 · rw [List.map_map];exact h.k
theorem AnOk.own {l:List En} {k d:Int} (h:AnOk l k d):AnOk (l.map En.own) k d :=
 ⟨h.k0,h.d0,h.z,fun q=>by rw [fndF_own];exact h.f q⟩
end Go.D
end
section
namespace Go.D
open Go Go.Pav Go.Pw P
set_option maxHeartbeats 2000000
attribute [-simp] List.getElem_cons_drop
variable {C:WProg}
structure SIn (ks:List Kd) (cap v ov:Int) (l:List En) (k d:Int) (T:List Ht):Prop where
 r:RuIn ks
 g:Gd ks cap l
 t:TOk T
 tl:T.length≤1000000
 v:1≤v∧v≤2147483648
 o:0≤ov∧ov≤16
 a:AnOk l k d
theorem SIn.own {ks:List Kd} {cap v ov:Int} {l:List En} {k d:Int} {T:List Ht} (h:SIn ks cap v ov l k d T):SIn ks cap v ov (l.map En.own) k d T :=
 ⟨h.r,h.g.own,h.t,h.tl,h.v,h.o,h.a.own⟩
theorem cntU_le (l:List En):cntU l≤l.length:=List.length_filter_le ..
section
variable (ks:List Kd) (ke:Bool) (cap v ov ls k d:Int) (T:List Ht) (te:Bool)
theorem set_bad (H:HasSe C) (l:List En) (e:Bool) (E:Int) (h0:E≠0) (hc:FnW C 344 [aF ks ke cap v ov ls,aL l e,aA k d,.ro 2 (T.map eHt) te]=some (.int .i64 E)) :
 FnW C 174 [aF ks ke cap v ov ls,aL l e,aA k d,.ro 2 (T.map eHt) te]=some (.tup [.agg [.ro 6 [] true,.int .i64 0,.int .i64 0],.int .i64 E]):=by
 simp only [aF,aL,aA] at hc ⊢
 rw [fnW_eq H.f174 rfl]
 simp (disch:=omega) [w174,hc,h0,wI64,H.toHasRd.toHasUf.inl,inlB,H.toHasRd.toHasUf.pp,ppB]
theorem rou_bad (H:HasSe C) (l:List En) (e:Bool) (E:Int) (h0:E≠0) (hc:FnW C 344 [aF ks ke cap v ov ls,aL l e,aA k d,.ro 2 (T.map eHt) te]=some (.int .i64 E)) :
 FnW C 350 [aF ks ke cap v ov ls,aL l e,aA k d,.ro 2 (T.map eHt) te]=some (.tup [.agg [.ro 6 [] true,.int .i64 0,.int .i64 0],.bool false,.int .i64 E]):=by
 simp only [aF,aL,aA] at hc ⊢
 rw [fnW_eq H.f350 rfl]
 simp (disch:=omega) [w350,hc,h0,wI64,H.toHasRd.toHasUf.inl,inlB,H.toHasRd.toHasUf.pp,ppB]
theorem an_nil {k d:Int} (h:AnOk [] k d):k=0∧d=0:=by
 have h1:k=0:=by
  by_cases c:k=0
  · exact c
  · have:=h.f c;simp [fndF] at this
 exact ⟨h1,h.z h1⟩
theorem unk_nil (a:List Int):unkF [] a=[]:=by
 unfold unkF
 rw [List.filter_eq_nil_iff]
 intro x _
 simp
theorem emp (H:HasSe C) (S:SIn ks cap v ov [] 0 0 T):FnW C 161 [.agg [.ro 6 [] true],.int .i64 v,.agg [.int .u64 0,.int .i64 0]]=some (.tup [.int .i64 0,.int .i64 0]) ∧
 ∀ nid,freshCallW (RnW C) 4001 [.agg [.ro 9 (ks.map eKd) ke,.int .i64 cap],.agg [.ro 6 [] true],.int .i64 0,.int .i64 v,.int .i64 ov] nid=some (.tup [.ro 1 [] true,.int .i64 0],[]):=by
 have hz:=S.g.szd
 have h1:=offset_ok H.toHasOf H.toHasSk.toHasVf [] true hz v S.v 0 0 S.a
 have h2:=fun nid=>unf_ok H.toHasRd.toHasUf ks ke cap S.r [] true S.g.e S.g.ck S.g.ty (offF [] v 0 0) v ov (offF_vp hz S.v) S.o nid
 refine ⟨by simpa [offF,aL,aA] using h1,fun nid=>?_⟩
 have:=h2 nid
 rw [unk_nil] at this
 simpa [offF,unR,aL,aR] using this
theorem settle_ok (H:HasSe C) (l:List En) (e:Bool) (S:SIn ks cap v ov l k d T) (hc:FnW C 344 [aF ks ke cap v ov ls,aL l e,aA k d,.ro 2 (T.map eHt) te]=some (.int .i64 0)) :
 FnW C 174 [aF ks ke cap v ov ls,aL l e,aA k d,.ro 2 (T.map eHt) te]=some (stR (stF ks T v ov k d 1025 (l.map En.own) 0)):=by
 have ho:=fun nid=>ownl_ok H.toHasOw ks ke cap v ov ls S.r l e S.g nid
 simp only [aF,aL,aA] at hc ho ⊢
 rw [fnW_eq H.f174 rfl]
 by_cases hne:l=[]
 · subst hne
   obtain ⟨rfl,rfl⟩:=an_nil S.a
   obtain ⟨h1,h2⟩:=emp ks ke cap v ov T H S
   have hres:stF ks T v ov 0 0 1025 ([].map En.own) 0=some ([],0,0):=by
    rw [List.map_nil,stF]
    have:rdU ks [] v ov 0 0=[]:=unk_nil _
    rw [this,rdF_nil]
    simp [offF]
   rw [hres]
   simp [ofR] at ho hc
   have hg:=fun x y z w h n=>rnW_eq (args:=[x,y,z,w]) H.f2019 rfl h n
   simp (disch:=omega) [w174,ck_unf w174_B0.eq_1,hc,ho,stR,hg,w2019,ck_unf w2019_B0.eq_1,ck_unf w2019_c0.eq_1,h1,h2,wI64,H.toHasRd.toHasUf.inl,inlB,H.toHasRd.toHasUf.pp,ppB]
 · have hne2:l.map En.own≠[]:=by simpa using hne
   have hn:=S.g.n
   have hcu:=cntU_le (l.map En.own)
   have hll:=map_own_len l
   have S':=S.own
   simp only [ofR,if_neg hne2] at ho
   generalize l.map En.own=L at *
   have hlp:=st_loop ks ke cap v ov ls k d T te H S.r S.t S.tl S.v S.o 1025 L 0 0 hne2 (by omega) (by omega) S'.g S'.a
   simp only [w174_K0] at hlp
   simp at hlp
   simp (disch:=omega) [w174,hc,ho,hlp,wI64,H.toHasRd.toHasUf.inl,inlB,H.toHasRd.toHasUf.pp,ppB]
end
end Go.D
end
section
namespace Go.D
open Go Go.Pav Go.Pw P
set_option maxHeartbeats 2000000
attribute [-simp] List.getElem_cons_drop
variable {C:WProg}
structure HasRs (C:WProg):Prop extends HasSe C where
 f348:C.fns.get 348=some w348
 f349:C.fns.get 349=some w349
def rrR (ks:List Kd) (T:List Ht) (v ov k d:Int) (l:List En):AV:=match rdF ks T l (rdU ks l v ov k d) with
 | none=>.tup [.ro 6 [] true,.int .i64 0,.int .i64 0,.int .i64 13]
 | some l'=>.tup [.ro 6 (l'.map eEn) false,.int .i64 (offF l v k d),.int .i64 (rdU ks l v ov k d).length,.int .i64 0]
def rsR:Option (List En × Int × Nat)→AV
 | none=>.tup [.ro 6 [] true,.int .i64 0,.int .i64 0,.int .i64 13]
 | some x=>.tup [.ro 6 (x.1.map eEn) false,.int .i64 x.2.1,.int .i64 x.2.2,.int .i64 0]
section
variable (ks:List Kd) (ke:Bool) (cap v ov ls k d:Int) (T:List Ht) (te:Bool)
theorem rr_write (H:HasRs C) (hr:RuIn ks) (hT:TOk T) (hTl:T.length≤1000000) (o:Int) (n:Nat) (U:List Int) (hU:∀ x ∈ U,0≤x∧x < n) (hul:U.length≤2000):∀ m i,m+i=U.length→∀ L:List En,L.length=n→Gd ks cap L →
 w349_K0 C ⟨[(19,.int .i64 i),(17,.sl 0 6 0 n n false),(16,.ro 1 (U.map eI) false),(12,.int .i64 o),(4,.ptr 1 0 0),(3,.ro 2 (T.map eHt) te)],[(0,.cells 6 (L.map eEn) true true),(1,.cells 5 [[.ro 9 (ks.map eKd) ke,.int .i64 cap,.int .i64 v,.int .i64 ov,.int .i64 ls]] true true)],2⟩ =
  some (match rdF ks T L (U.drop i) with
   | none=>.tup [.ro 6 [] true,.int .i64 0,.int .i64 0,.int .i64 13]
   | some l'=>.tup [.ro 6 (l'.map eEn) false,.int .i64 o,.int .i64 U.length,.int .i64 0]):=by
 intro m
 induction m with
 | zero =>
  intro i hi L hL hG
  have h3:¬ i < U.length:=by omega
  have q:U.drop i=[]:=List.drop_eq_nil_of_le (by omega)
  rw [q,rdF]
  have hTK:List.take n (L.map eEn)=L.map eEn:=List.take_of_length_le (by simp [hL])
  simp only [w349_K0];rw [ck_unf w349_B0.eq_1]
  simp (disch:=omega) [ck_unf w349_c0.eq_1,h3,hL,hTK,wI64,H.toHasRd.toHasUf.inl,inlB,H.toHasRd.toHasUf.pp,ppB]
 | succ m ih =>
  intro i hi L hL hG
  have h1:i < U.length:=by omega
  have hj:=hU _ (List.getElem_mem h1)
  obtain ⟨j,hj2⟩:∃ j:Nat,U[i]=j:=⟨U[i].toNat,by omega⟩
  rw [drop_cons h1,rdF]
  rw [hj2] at hj ⊢
  rw [show ((j:Int)).toNat=j from rfl]
  have hjn:j < n:=by omega
  have hjL:j < L.length:=by omega
  have ht:=hG.ty _ (List.getElem_mem hjL)
  have h8:=hG.k8
  have hGn:=hG.n
  have hm:=rmeas_ok H.toHasRd.toHasMs ks ke cap v ov ls L[j].i (by omega) (by omega) T te hTl
  have hUl:(updK ks T L j).length=n:=by rw [updK_len,hL]
  have htot:=roverW_ok H.toHasRd.toHasUf.toHasUn.toHasWo.toHasL (updK ks T L j) false (by omega) (by
   intro x hx
   rcases mem_updK hx with hx | ⟨e,he,rfl⟩
   · exact (hG.e x hx).s
   · have:=htOf_ok hT h8.2 (hG.ty e he)
     rw [hOk_iff] at this
     simp only [vlK];omega)
  unfold ovE at htot
  have hTK:∀ x,List.take n ((L.map eEn).set j x)=(L.map eEn).set j x:=fun x=>List.take_of_length_le (by simp [hL])
  have hSt:∀ x,((L.map eEn).set j x)[j]?=some x:=fun x=>by rw [List.getElem?_set_self (by simpa using hjL)]
  have hTK0:List.take n (L.map eEn)=L.map eEn:=List.take_of_length_le (by simp [hL])
  by_cases c:4611686018427387904 < tot (updK ks T L j)
  · rw [if_pos c] at htot ⊢
    rw [map_setK ks T L j hjL] at htot
    simp only [w349_K0];rw [ck_unf w349_B0.eq_1]
    simp only [aF,eIt] at hm
    try simp at htot
    try simp at hm
    simp (disch:=omega) [h1,hj2,hjn,hjL,hL,hTK,hTK0,hSt,hm,htot,wI64,H.toHasRd.toHasUf.inl,inlB,H.toHasRd.toHasUf.pp,ppB]
  · rw [if_neg c] at htot ⊢
    have this:=ih (i+1) (by omega) (updK ks T L j) hUl (hG.upd hT j (by omega))
    rw [← this]
    rw [map_setK ks T L j hjL] at htot ⊢
    simp only [w349_K0];rw [ck_unf w349_B0.eq_1]
    simp only [aF,eIt] at hm
    try simp at htot
    try simp at hm
    simp (disch:=omega) [h1,hj2,hjn,hjL,hL,hTK,hTK0,hSt,hm,htot,wI64,H.toHasRd.toHasUf.inl,inlB,H.toHasRd.toHasUf.pp,ppB]
theorem rr_copy {l:List En} (H:HasRs C) (S:SIn ks cap v ov l k d T) (e:Bool) (o:Int) (U:List Int) (hU:∀ x ∈ U,0≤x∧x < l.length) (hul:U.length≤2000):∀ m i,m+i=l.length →
 w349_K1 C ⟨[(18,.int .i64 i),(17,.sl 0 6 0 i i false),(16,.ro 1 (U.map eI) false),(12,.int .i64 o),(4,.ptr 1 0 0),(3,.ro 2 (T.map eHt) te),(1,.ro 6 (l.map eEn) e)],[(0,.cells 6 ((l.take i).map eEn) true true),(1,.cells 5 [[.ro 9 (ks.map eKd) ke,.int .i64 cap,.int .i64 v,.int .i64 ov,.int .i64 ls]] true true)],2⟩ =
  some (match rdF ks T l U with
   | none=>.tup [.ro 6 [] true,.int .i64 0,.int .i64 0,.int .i64 13]
   | some l'=>.tup [.ro 6 (l'.map eEn) false,.int .i64 o,.int .i64 U.length,.int .i64 0]):=by
 intro m
 induction m with
 | zero =>
  intro i hi
  have hi:i=l.length:=by omega
  subst hi
  have hw:=rr_write ks ke cap v ov ls T te H S.r S.t S.tl o l.length U hU hul U.length 0 (by simp) l rfl S.g
  rw [List.drop_zero] at hw
  rw [← hw,List.take_length]
  simp only [w349_K1,w349_K0];rw [ck_unf w349_B1.eq_1]
  simp (disch:=omega) [ck_unf w349_c1.eq_1,wI64,H.toHasRd.toHasUf.inl,inlB,H.toHasRd.toHasUf.pp,ppB]
 | succ m ih =>
  intro i hi
  have h1:i < l.length:=by omega
  have hn:=S.g.n
  have hfit:(i+1) * 73≤35184372088832:=by omega
  have this:=ih (i+1) (by omega)
  have hft:l.take (i+1)=l.take i++[l[i]]:=List.take_succ_eq_append_getElem h1
  rw [hft,List.map_append] at this
  rw [← this]
  have hlen:(List.map eEn (List.take i l)).length=i:=by simp;omega
  have hmi:min i l.length=i:=by omega
  simp only [w349_K1];rw [ck_unf w349_B1.eq_1]
  simp (disch:=omega) [h1,hfit,hlen,hmi,wI64,H.toHasRd.toHasUf.inl,inlB,H.toHasRd.toHasUf.pp,ppB]
theorem rround_ok {l:List En} (H:HasRs C) (S:SIn ks cap v ov l k d T) (e:Bool) :
 FnW C 349 [aF ks ke cap v ov ls,.ro 6 (l.map eEn) e,aA k d,.ro 2 (T.map eHt) te]=some (rrR ks T v ov k d l):=by
 have hz:=S.g.szd
 have hn:=S.g.n
 have hvp:=offF_vp (k:=k) (d:=d) hz S.v
 have h1:=roffset_ok H.toHasOf H.toHasSk.toHasVf l e hz v S.v k d S.a
 have h2:=rattached_ok H.toHasRd.toHasUf.toHasUn.toHasWo ks ke cap S.r l e S.g.e S.g.ck S.g.ty (offF l v k d) v ov hvp S.o
 have hal:=(att_len (ks:=ks) hvp S.o).1
 have hai:∀ x ∈ attL ks l (offF l v k d) v ov,0≤x∧x < l.length:=by
  intro x hx
  rw [← raF_att hvp S.o,raF_mem] at hx
  omega
 have h3:=runknown_ok H.toHasRd.toHasUf.toHasUn.toHasWo l e false (attL ks l (offF l v k d) v ov) (by omega) hai
 change FnW C 137 _=some (AV.ro 1 ((rdU ks l v ov k d).map eI) false) at h3
 have hUm:∀ x ∈ rdU ks l v ov k d,0≤x∧x < l.length:=fun x hx=>hai x (unkF_mem hx).1
 have hUl:(rdU ks l v ov k d).length≤2000:=by
  have:(rdU ks l v ov k d).length≤(attL ks l (offF l v k d) v ov).length:=List.length_filter_le ..
  omega
 have hc:=rr_copy ks ke cap v ov ls k d T te H S e (offF l v k d) (rdU ks l v ov k d) hUm hUl l.length 0 (by simp)
 unfold rrR
 generalize rdU ks l v ov k d=U at *
 generalize attL ks l (offF l v k d) v ov=A at *
 generalize offF l v k d=o at *
 rw [← hc]
 simp only [aF,aA,aR] at h1 h2 h3 ⊢
 rw [fnW_eq H.f349 rfl]
 simp only [w349_K1,List.take_zero,List.map_nil]
 simp (disch:=omega) [w349,h1,h2,h3,wI64,H.toHasRd.toHasUf.inl,inlB,H.toHasRd.toHasUf.pp,ppB]
theorem rs_loop (H:HasRs C):∀ (n:Nat) (l:List En) (e:Bool) (r:Nat),cntU l < n→r+n≤5000→SIn ks cap v ov l k d T →
 w348_K0 C ⟨[(12,.int .i64 r),(6,.ptr 0 0 0),(4,.ptr 1 0 0),(3,.ro 2 (T.map eHt) te),(1,.ro 6 (l.map eEn) e)],[(0,.cells 2 [[.int .u64 k,.int .i64 d]] true true),(1,.cells 5 [[.ro 9 (ks.map eKd) ke,.int .i64 cap,.int .i64 v,.int .i64 ov,.int .i64 ls]] true true)],2⟩ =
  some (rsR (stF ks T v ov k d n l r)):=by
 intro n
 induction n with
 | zero=>intro l e r h;exact absurd h (by omega)
 | succ n ih =>
  intro l e r hc hrn S
  have hR:=rround_ok ks ke cap v ov ls k d T te H S e
  rw [stF]
  unfold rrR at hR
  simp only [aF,aA] at hR
  cases hq:rdF ks T l (rdU ks l v ov k d) with
  | none =>
   rw [hq] at hR
   simp only [rsR,w348_K0]
   rw [ck_unf w348_B0.eq_1]
   simp (disch:=omega) [hR,wI64,H.toHasRd.toHasUf.inl,inlB,H.toHasRd.toHasUf.pp,ppB]
  | some l' =>
   rw [hq] at hR
   obtain ⟨g1,g2⟩:=rdF_gd S.t _ _ _ S.g hq
   by_cases c:rdU ks l v ov k d=[]
   · rw [c] at hR
     simp only [if_pos c,rsR,w348_K0]
     generalize offF l v k d=o at *
     rw [ck_unf w348_B0.eq_1]
     simp at hR
     simp (disch:=omega) [hR,wI64,H.toHasRd.toHasUf.inl,inlB,H.toHasRd.toHasUf.pp,ppB]
   · have hlt:=rdF_lt T hq c
     have this:=ih l' false (r+1) (by omega) (by omega) ⟨S.r,g1,S.t,S.tl,S.v,S.o,S.a.it g2⟩
     simp only [if_neg c]
     rw [← this]
     generalize rdU ks l v ov k d=U at *
     generalize offF l v k d=o at *
     have hz:¬ U.length=0:=fun q=>c (List.length_eq_zero_iff.1 q)
     simp only [w348_K0]
     rw [ck_unf w348_B0.eq_1]
     simp (disch:=omega) [hR,hz,c,wI64,H.toHasRd.toHasUf.inl,inlB,H.toHasRd.toHasUf.pp,ppB]
theorem rsettle_ok (H:HasRs C) (l:List En) (e:Bool) (S:SIn ks cap v ov l k d T) :
 FnW C 348 [aF ks ke cap v ov ls,.ro 6 (l.map eEn) e,aA k d,.ro 2 (T.map eHt) te]=some (rsR (stF ks T v ov k d 1025 l 0)):=by
 have hn:=S.g.n
 have hcu:=cntU_le l
 have h:=rs_loop ks ke cap v ov ls k d T te H 1025 l e 0 (by omega) (by omega) S
 rw [fnW_eq H.f348 rfl]
 simp only [w348_K0] at h
 simp at h
 simp (disch:=omega) [w348,h,wI64,H.toHasRd.toHasUf.inl,inlB,H.toHasRd.toHasUf.pp,ppB]
end
end Go.D
end
