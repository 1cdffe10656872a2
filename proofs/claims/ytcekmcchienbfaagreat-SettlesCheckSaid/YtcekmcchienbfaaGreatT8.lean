/- Part of the theory that the claims of this work use: S02, S03, S06, S07, S09, S10, S11, S12, S13, S08, S17, S24, S25. No conditions of its own. -/
import Derived.Test.YtcekmcchienbfaaGreatT7
set_option linter.unusedVariables false
set_option linter.unusedSimpArgs false
set_option maxRecDepth 10000
section
namespace Go.D
set_option maxHeartbeats 1000000
def KAt (S:List (Option Int)) (k:Int) (p d:Nat):Prop:=(∀ e < d,∃ k',S[(p+e) % S.length]?=some (some k')∧k'≠k)∧S[(p+d) % S.length]?=some (some k)
def KFr (S:List (Option Int)) (k:Int) (p d:Nat):Prop:=(∀ e < d,∃ k',S[(p+e) % S.length]?=some (some k')∧k'≠k)∧S[(p+d) % S.length]?=some none
structure KIn (st:Int→Nat) (S:List (Option Int)) (K:List Int):Prop where
 nd:K.Nodup
 mem:∀ k,some k ∈ S↔k ∈ K
 at_:∀ k ∈ K,∃ d < S.length,KAt S k (st k) d
 cn:S.count none+K.length=S.length
theorem kfr_ex {S:List (Option Int)} {k:Int} (hk:some k ∉ S) (hr:none ∈ S) (p:Nat):∃ d < S.length,KFr S k p d:=by
 obtain ⟨j,hj,hjn⟩:=List.mem_iff_getElem.1 hr
 have hex:∃ d,S[(p+d) % S.length]?=some none∧d < S.length:=by
  refine ⟨(j+S.length - p % S.length) % S.length,?_,Nat.mod_lt _ (by omega)⟩
  have h1:(p+(j+S.length - p % S.length) % S.length) % S.length=j:=by
   have hp:p % S.length < S.length:=Nat.mod_lt _ (by omega)
   rw [Nat.add_mod,Nat.mod_mod,← Nat.add_mod,Nat.add_mod p,← Nat.add_mod]
   have e:p+(j+S.length - p % S.length)=j+S.length * (p / S.length+1):=by
    have:=Nat.div_add_mod p S.length
    rw [Nat.mul_add,Nat.mul_one]
    omega
   rw [e,Nat.add_mul_mod_self_left,Nat.mod_eq_of_lt hj]
  rw [h1,List.getElem?_eq_getElem hj,hjn]
 have hmin:∀ n,(∃ d,d≤n∧S[(p+d) % S.length]?=some none∧d < S.length)→∃ d < S.length,KFr S k p d:=by
  intro n
  induction n with
  | zero =>
   rintro ⟨d,h0,h1,h2⟩
   obtain rfl:d=0:=by omega
   exact ⟨0,h2,fun e he=>by omega,h1⟩
  | succ n ih =>
   rintro ⟨d,h0,h1,h2⟩
   by_cases h:∃ d',d'≤n∧S[(p+d') % S.length]?=some none∧d' < S.length
   · exact ih h
   · refine ⟨d,h2,fun e he=>?_,h1⟩
     have hlt:(p+e) % S.length < S.length:=Nat.mod_lt _ (by omega)
     cases hv:S[(p+e) % S.length] with
     | none=>exact absurd ⟨e,by omega,by rw [List.getElem?_eq_getElem hlt,hv],by omega⟩ h
     | some k' =>
      refine ⟨k',by rw [List.getElem?_eq_getElem hlt,hv],fun hkk=>hk ?_⟩
      subst hkk
      rw [← hv]
      exact List.getElem_mem hlt
 obtain ⟨d,h1,h2⟩:=hex
 exact hmin d ⟨d,Nat.le_refl _,h1,h2⟩
theorem kin_put {st:Int→Nat} {S:List (Option Int)} {K:List Int} {k:Int} {d:Nat} (h:KIn st S K) (hk:k ∉ K) (hd:d < S.length) (hf:KFr S k (st k) d) :
 KIn st (S.set ((st k+d) % S.length) (some k)) (K++[k]):=by
 have hlen:(S.set ((st k+d) % S.length) (some k)).length=S.length:=List.length_set ..
 have hlt:(st k+d) % S.length < S.length:=Nat.mod_lt _ (by omega)
 have hold:∀ (i:Nat) (k':Int),S[i]?=some (some k')→(S.set ((st k+d) % S.length) (some k))[i]?=some (some k'):=by
  intro i k' hi
  rw [List.getElem?_set]
  split
  · rename_i q
    rw [← q,hf.2] at hi
    simp at hi
  · exact hi
 have hnew:(S.set ((st k+d) % S.length) (some k))[(st k+d) % S.length]?=some (some k):=by
  rw [List.getElem?_set_self hlt]
 have hcn:(S.set ((st k+d) % S.length) (some k)).count none+(K++[k]).length=(S.set ((st k+d) % S.length) (some k)).length:=by
  have h1:=h.cn
  have h2:S[(st k+d) % S.length]=none:=by
   have:=hf.2
   rw [List.getElem?_eq_getElem hlt] at this
   simpa using this
  have h3:0 < S.count none:=List.count_pos_iff.2 (by rw [← h2];exact List.getElem_mem hlt)
  rw [hlen,List.count_set hlt,h2,List.length_append]
  simp
  omega
 refine ⟨?_,?_,?_,hcn⟩
 · rw [List.nodup_append]
   refine ⟨h.nd,by simp,fun a ha b hb=>?_⟩
   simp only [List.mem_singleton] at hb
   subst hb
   intro hab
   subst hab
   exact hk ha
 · intro k'
   rw [List.mem_append,List.mem_singleton]
   constructor
   · intro hm
     rcases List.mem_or_eq_of_mem_set hm with q | q
     · exact .inl ((h.mem k').1 q)
     · simp only [Option.some.injEq] at q
       exact .inr q
   · rintro (q | rfl)
     · obtain ⟨i,hi⟩:=List.mem_iff_getElem?.1 ((h.mem k').2 q)
       exact List.mem_of_getElem? (hold i k' hi)
     · exact List.mem_of_getElem? hnew
 · intro k' hk'
   rw [hlen]
   rcases List.mem_append.1 hk' with q | q
   · obtain ⟨d',h1,h2,h3⟩:=h.at_ k' q
     refine ⟨d',h1,fun e he=>?_,?_⟩
     · obtain ⟨k2,h4,h5⟩:=h2 e he
       rw [hlen]
       exact ⟨k2,hold _ _ h4,h5⟩
     · rw [hlen]
       exact hold _ _ h3
   · simp only [List.mem_singleton] at q
     subst q
     refine ⟨d,hd,fun e he=>?_,?_⟩
     · obtain ⟨k2,h4,h5⟩:=hf.1 e he
       rw [hlen]
       exact ⟨k2,hold _ _ h4,h5⟩
     · rw [hlen]
       exact hnew
theorem KIn.room {st:Int→Nat} {S:List (Option Int)} {K:List Int} (h:KIn st S K) (hl:K.length < S.length):none ∈ S:=List.count_pos_iff.1 (by have:=h.cn;omega)
theorem kin_nil (st:Int→Nat) (n:Nat):KIn st (List.replicate n none) []:=by
 refine ⟨List.nodup_nil,fun k=>by simp [List.mem_replicate],by simp,by simp⟩
def kys:List (Option Int)→List Int
 | []=>[]
 | some k::r=>k::kys r
 | none::r=>kys r
end Go.D
end
section
namespace Go.D
open Go Go.Pav Go.Pw P
set_option maxHeartbeats 1000000
attribute [-simp] List.getElem_cons_drop
variable {C:WProg}
structure HasKm (C:WProg):Prop extends HasS C where
 f367:C.fns.get 367=some w367
theorem wU64r (x:Int):0≤IntKind.u64.wrap x∧IntKind.u64.wrap x < 18446744073709551616:=by
 show 0≤(if (false&&decide (x % 18446744073709551616 ≥ 9223372036854775808))=true then x % 18446744073709551616 - 18446744073709551616 else x % 18446744073709551616)∧(if (false&&decide (x % 18446744073709551616 ≥ 9223372036854775808))=true then x % 18446744073709551616 - 18446744073709551616 else x % 18446744073709551616) < 18446744073709551616
 simp only [Bool.false_and,Bool.false_eq_true,if_false]
 omega
theorem mix_ex (H:HasKm C) (k:Int):∃ h:Int,FnW C 367 [.int .u64 k]=some (.int .u64 h)∧0≤h∧h < 18446744073709551616:=by
 rw [fnW_eq H.f367 rfl]
 simp (disch:=omega) [w367,H.inl,inlB,H.pp,ppB]
 exact wU64r _
noncomputable def mixK (C:WProg) (k:Int):Nat:=match FnW C 367 [.int .u64 k] with
 | some (.int _ h)=>h.toNat
 | _=>0
theorem mix_ok (H:HasKm C) (k:Int):FnW C 367 [.int .u64 k]=some (.int .u64 (mixK C k))∧(mixK C k:Int) < 18446744073709551616:=by
 obtain ⟨h,h1,h2,h3⟩:=mix_ex H k
 have e:mixK C k=h.toNat:=by unfold mixK;rw [h1]
 rw [e,h1]
 refine ⟨?_,by omega⟩
 rw [show ((h.toNat:Nat):Int)=h by omega]
def eSo:Option Int→List AV
 | none=>[.int .u8 0,.int .u64 0,.int .i64 0]
 | some k=>[.int .u8 1,.int .u64 k,.int .i64 0]
@[simp] theorem eSo_n:eSo none=[.int .u8 0,.int .u64 0,.int .i64 0]:=rfl
@[simp] theorem eSo_s (k:Int):eSo (some k)=[.int .u8 1,.int .u64 k,.int .i64 0]:=rfl
end Go.D
end
section
namespace Go.D
open Go Go.Pav Go.Pw P
set_option maxHeartbeats 1000000
attribute [-simp] List.getElem_cons_drop
variable {C:WProg}
structure HasKl (C:WProg):Prop extends HasKm C where
 f1191:C.fns.get 1191=some w191
 f1102:C.fns.get 1102=some w102
 f1100:C.fns.get 1100=some w1100
abbrev aM (S:List (Option Int)) (f:Bool) (c:Int):AV:=.rop [.ro 3 (S.map eSo) f,.int .i64 c,.int .i64 0]
theorem kat_next {S:List (Option Int)} {k:Int} {q d:Nat} (h:KAt S k q (d+1)):KAt S k ((q+1) % S.length) d:=by
 refine ⟨fun e he=>?_,?_⟩
 · have:=h.1 (e+1) (by omega)
   rwa [show q+(e+1)=q+1+e by omega,← Nat.mod_add_mod] at this
 · have:=h.2
   rwa [show q+(d+1)=q+1+d by omega,← Nat.mod_add_mod] at this
theorem kfr_next {S:List (Option Int)} {k:Int} {q d:Nat} (h:KFr S k q (d+1)):KFr S k ((q+1) % S.length) d:=by
 refine ⟨fun e he=>?_,?_⟩
 · have:=h.1 (e+1) (by omega)
   rwa [show q+(e+1)=q+1+e by omega,← Nat.mod_add_mod] at this
 · have:=h.2
   rwa [show q+(d+1)=q+1+d by omega,← Nat.mod_add_mod] at this
theorem look_loop (H:HasKl C) (S:List (Option Int)) (f:Bool) (c:Int) (hS:S.length≤1000000) (k:Int):∀ d q r,q < S.length→r=(q+d) % S.length→∀ b:Bool,(b=true→KAt S k q d)→(b=false→KFr S k q d) →
 w191_K0 C ⟨[(6,.int .i64 (-1)),(4,.int .i64 q),(1,.int .u64 k),(0,aM S f c)],[],0⟩=some (.tup [.int .i64 r,.bool b]):=by
 intro d
 induction d with
 | zero =>
  intro q r hlt hr b hb1 hb2
  rw [Nat.add_zero,Nat.mod_eq_of_lt hlt] at hr
  subst hr
  simp only [w191_K0];rw [ck_unf w191_B0.eq_1]
  cases b
  · have h2:=(hb2 rfl).2
    rw [Nat.add_zero,Nat.mod_eq_of_lt hlt,List.getElem?_eq_getElem hlt] at h2
    simp only [Option.some.injEq] at h2
    simp (disch:=omega) [h2,hlt,aM,wI64,H.inl,inlB,H.pp,ppB]
  · have h2:=(hb1 rfl).2
    rw [Nat.add_zero,Nat.mod_eq_of_lt hlt,List.getElem?_eq_getElem hlt] at h2
    simp only [Option.some.injEq] at h2
    simp (disch:=omega) [h2,hlt,aM,wI64,H.inl,inlB,H.pp,ppB]
 | succ d ih =>
  intro q r hlt hr b hb1 hb2
  have h0:0 < S.length:=by omega
  have hq2:(q+1) % S.length < S.length:=Nat.mod_lt _ h0
  have hr2:r=((q+1) % S.length+d) % S.length:=by rw [hr,Nat.mod_add_mod];congr 1;omega
  have this:=ih ((q+1) % S.length) r hq2 hr2 b (fun h=>kat_next (hb1 h)) (fun h=>kfr_next (hb2 h))
  have hk:∃ k',S[q]=some k'∧k'≠k:=by
   have:∃ k',S[(q+0) % S.length]?=some (some k')∧k'≠k:=by
    cases b
    · exact (hb2 rfl).1 0 (by omega)
    · exact (hb1 rfl).1 0 (by omega)
   rw [Nat.add_zero,Nat.mod_eq_of_lt hlt,List.getElem?_eq_getElem hlt] at this
   simpa using this
  obtain ⟨k',h1,h2⟩:=hk
  have hrem:((q:Int)+1).tmod S.length=(((q+1) % S.length:Nat):Int):=by
   rw [Int.tmod_eq_emod_of_nonneg (by omega)];push_cast;rfl
  have hne:¬ ((S.length:Int)=0):=by omega
  have hSn:¬ S=[]:=by intro h;rw [h] at hlt;simp at hlt
  generalize (q+1) % S.length=q2 at *
  simp only [w191_K0] at this ⊢;rw [ck_unf w191_B0.eq_1]
  simp only [aM] at this
  simp (disch:=omega) [h1,h2,hlt,hrem,hne,hSn,aM,wI64,H.inl,inlB,H.pp,ppB,this]
theorem kat_mod {S:List (Option Int)} {k:Int} {p d:Nat} (h:KAt S k p d):KAt S k (p % S.length) d:=by
 refine ⟨fun e he=>?_,?_⟩
 · have:=h.1 e he
   rwa [← Nat.mod_add_mod] at this
 · have:=h.2
   rwa [← Nat.mod_add_mod] at this
theorem kfr_mod {S:List (Option Int)} {k:Int} {p d:Nat} (h:KFr S k p d):KFr S k (p % S.length) d:=by
 refine ⟨fun e he=>?_,?_⟩
 · have:=h.1 e he
   rwa [← Nat.mod_add_mod] at this
 · have:=h.2
   rwa [← Nat.mod_add_mod] at this
theorem look_ok (H:HasKl C) (S:List (Option Int)) (f:Bool) (c:Int) (hS:S.length≤1000000) (h0:0 < S.length) (k:Int) (d:Nat) (b:Bool) (hb1:b=true→KAt S k (mixK C k) d) (hb2:b=false→KFr S k (mixK C k) d) :
 FnW C 1191 [aM S f c,.int .u64 k]=some (.tup [.int .i64 ((mixK C k+d) % S.length:Nat),.bool b]):=by
 have hlt:mixK C k % S.length < S.length:=Nat.mod_lt _ h0
 have h:=look_loop H S f c hS k d (mixK C k % S.length) ((mixK C k+d) % S.length) hlt (by rw [Nat.mod_add_mod]) b (fun h=>kat_mod (hb1 h)) (fun h=>kfr_mod (hb2 h))
 obtain ⟨hm,hmb⟩:=mix_ok H.toHasKm k
 have hrem:(mixK C k:Int).tmod S.length=((mixK C k % S.length:Nat):Int):=by
  rw [Int.tmod_eq_emod_of_nonneg (by omega)];push_cast;rfl
 have hne:¬ ((S.length:Int)=0):=by omega
 have hSn:¬ S=[]:=by intro h;rw [h] at h0;simp at h0
 rw [fnW_eq H.f1191 rfl]
 generalize (mixK C k+d) % S.length=r at *
 generalize mixK C k % S.length=q at *
 generalize mixK C k=M at *
 simp only [w191_K0,aM] at h
 simp (disch:=omega) [w191,hm,hrem,hne,hSn,h,aM,wI64,wU64,H.inl,inlB,H.pp,ppB]
theorem mlen_ok (H:HasKl C) (S:List (Option Int)) (f:Bool) (c:Int):FnW C 1102 [aM S f c]=some (.int .i64 c):=by
 rw [fnW_eq H.f1102 rfl]
 simp (disch:=omega) [w102,aM,wI64,H.inl,inlB,H.pp,ppB]
structure KMap (C:WProg) (S:List (Option Int)) (K:List Int):Prop where
 k:KIn (mixK C) S K
 l:S.length≤100000
 r:K=[]∧S=[]∨K.length < S.length
theorem get_ok (H:HasKl C) (S:List (Option Int)) (K:List Int) (f:Bool) (h:KMap C S K) (k:Int):FnW C 1100 [aM S f K.length,.int .u64 k]=some (.tup [.int .i64 0,.bool (decide (k ∈ K))]):=by
 have hl:=mlen_ok H S f K.length
 have hS:=h.l
 rw [fnW_eq H.f1100 rfl]
 by_cases c0:K=[]
 · subst c0
   simp only [aM] at hl
   simp at hl
   simp (disch:=omega) [w1100,hl,aM,wI64,H.inl,inlB,H.pp,ppB]
 · have hKl:0 < K.length:=List.length_pos_iff.2 c0
   have hlt:K.length < S.length:=by
    rcases h.r with ⟨q,_⟩ | q
    · exact absurd q c0
    · exact q
   by_cases ck:k ∈ K
   · obtain ⟨d,hd,hat⟩:=h.k.at_ k ck
     have hlk:=look_ok H S f K.length (by omega) (by omega) k d true (fun _=>hat) (by simp)
     have hpos:=hat.2
     have hr:(mixK C k+d) % S.length < S.length:=Nat.mod_lt _ (by omega)
     rw [List.getElem?_eq_getElem hr] at hpos
     simp only [Option.some.injEq] at hpos
     rw [decide_eq_true ck]
     generalize (mixK C k+d) % S.length=r at *
     simp only [aM] at hl hlk
     simp (disch:=omega) [w1100,hl,hlk,c0,hr,hpos,aM,wI64,H.inl,inlB,H.pp,ppB]
   · obtain ⟨d,hd,hfr⟩:=kfr_ex (fun q=>ck ((h.k.mem k).1 q)) (h.k.room hlt) (mixK C k)
     have hlk:=look_ok H S f K.length (by omega) (by omega) k d false (by simp) (fun _=>hfr)
     rw [decide_eq_false ck]
     generalize (mixK C k+d) % S.length=r at *
     simp only [aM] at hl hlk
     simp (disch:=omega) [w1100,hl,hlk,c0,aM,wI64,H.inl,inlB,H.pp,ppB]
end Go.D
end
section
namespace Go.D
open Go Go.Pav Go.Pw P
set_option maxHeartbeats 1000000
attribute [-simp] List.getElem_cons_drop
variable {C:WProg}
structure HasKp (C:WProg):Prop extends HasKl C where
 f379:C.fns.get 379=some P.w379
 f99:C.fns.get 99=some P.w99
 f192:C.fns.get 192=some P.w192
theorem put_room (H:HasKp C) (S:List (Option Int)) (K:List Int) (h:KMap C S K) (k:Int) (h0:¬ k=0) (hk:k ∉ K) (hK:K.length < 4096) (hr:4 * (K.length+1)≤3 * S.length) (X:List AV) :
 ∃ (S':List (Option Int)) (m:Nat),KMap C S' (K++[k])∧S'.length=S.length∧RnW C 99 [.ptr 0 0 0,.int .u64 k,.int .i64 0] [(0,.cells 3 [[.sl 1 3 0 S.length S.length true,.int .i64 K.length,.int .i64 0]] true false),(1,.cells 3 (S.map eSo) true true),(6,.cells 2 [X] true true),(13,.cells 2 [X] true true)] 30 =
  some (.int .i64 0,[(0,.cells 3 [[.sl 1 3 0 S.length S.length true,.int .i64 (K.length+1:Nat),.int .i64 0]] true false),(1,.cells 3 (S'.map eSo) true true),(6,.cells 2 [X] true true),(13,.cells 2 [X] true true)],m):=by
 have hS:=h.l
 have hlt:K.length < S.length:=by omega
 obtain ⟨d,hd,hfr⟩:=kfr_ex (fun q=>hk ((h.k.mem k).1 q)) (h.k.room hlt) (mixK C k)
 have hlk:=fun f c=>look_ok H.toHasKl S f c (by omega) (by omega) k d false (by simp) (fun _=>hfr)
 have hput:=kin_put h.k hk hd hfr
 have hpos:=hfr.2
 have hrr:(mixK C k+d) % S.length < S.length:=Nat.mod_lt _ (by omega)
 rw [List.getElem?_eq_getElem hrr] at hpos
 simp only [Option.some.injEq] at hpos
 generalize (mixK C k+d) % S.length=r at *
 have hT:List.take S.length (List.map eSo S)=List.map eSo S:=List.take_of_length_le (by simp)
 refine ⟨S.set r (some k),?_⟩
 have hKM:KMap C (S.set r (some k)) (K++[k]):=⟨hput,by simpa using h.l,.inr (by simp;omega)⟩
 have hne:¬ ((K.length:Int)=4096):=by omega
 have hw:¬ (3 * (S.length:Int) < 4 * ((K.length:Int)+1)):=by omega
 have hSn:0 < S.length:=by omega
 have hrun:∃ m,RnW C 99 [.ptr 0 0 0,.int .u64 k,.int .i64 0] [(0,.cells 3 [[.sl 1 3 0 S.length S.length true,.int .i64 K.length,.int .i64 0]] true false),(1,.cells 3 (S.map eSo) true true),(6,.cells 2 [X] true true),(13,.cells 2 [X] true true)] 30 =
  some (.int .i64 0,[(0,.cells 3 [[.sl 1 3 0 S.length S.length true,.int .i64 (K.length+1:Nat),.int .i64 0]] true false),(1,.cells 3 ((S.set r (some k)).map eSo) true true),(6,.cells 2 [X] true true),(13,.cells 2 [X] true true)],m):=by
  rw [rnW_eq H.f99 rfl]
  simp only [aM] at hlk
  simp at hlk
  simp (disch:=omega) [P.w99,hT,hlk,h0,hne,hw,hSn,hrr,hpos,wI64,H.inl,inlB,H.pp,ppB]
 obtain ⟨m,hrun⟩:=hrun
 exact ⟨m,hKM,by simp,hrun⟩
end Go.D
end
section
namespace Go.D
open Go Go.Pav Go.Pw P
set_option maxHeartbeats 1000000
attribute [-simp] List.getElem_cons_drop
variable {C:WProg}
def wsz:Nat→Nat→Nat→Nat
 | 0,s,_=>s
 | f+1,s,n=>if s < 2 * n then wsz f (s * 2) n else s
theorem wsz_le:∀ (f s n:Nat),s≤4096 * 4→n≤4096→wsz f s n≤4096 * 4
 | 0,s,n,h,_=>h
 | f+1,s,n,h,hn=>by
  rw [wsz]
  split
  · exact wsz_le f (s * 2) n (by omega) hn
  · exact h
theorem wsz_ge:∀ (f s n:Nat),0 < s→2 * n≤s * 2 ^ f→2 * n≤wsz f s n
 | 0,s,n,h0,h=>by simpa [wsz] using h
 | f+1,s,n,h0,h=>by
  rw [wsz]
  split
  · exact wsz_ge f (s * 2) n (by omega) (by rw [Nat.pow_succ,Nat.mul_comm _ 2] at h;rw [Nat.mul_assoc];exact h)
  · omega
theorem size_loop (H:HasKp C) (need:Nat) (hn:need≤4096) (S:List (Option Int)) (c:Int) (X:List AV):∀ f s,s≤4096 * 4→2 * need≤s * 2 ^ f→∀ R,
 (CK C 55 (fnEndW []) [] P.w192_c0 ⟨[(4,.int .i64 (wsz f s need)),(0,.ptr 0 0 0)],[(0,.cells 3 [[.sl 1 3 0 S.length S.length true,.int .i64 c,.int .i64 0]] true false),(1,.cells 3 (S.map eSo) true true),(6,.cells 2 [X] true true),(13,.cells 2 [X] true true)],55⟩=R) →
 CK C 55 (fnEndW []) [.sq P.w192_L1,.bk 0 ⟨true,[4,0],[]⟩,.sq P.w192_c0] P.w192_B1 ⟨[(4,.int .i64 s),(1,.int .i64 need),(0,.ptr 0 0 0)],[(0,.cells 3 [[.sl 1 3 0 S.length S.length true,.int .i64 c,.int .i64 0]] true false),(1,.cells 3 (S.map eSo) true true),(6,.cells 2 [X] true true),(13,.cells 2 [X] true true)],55⟩=R:=by
 intro f
 induction f with
 | zero =>
  intro s hs hp R hR
  rw [wsz] at hR
  have h1:¬ ((s:Int) < 2 * need):=by omega
  rw [ck_unf P.w192_B1.eq_1]
  simp (disch:=omega) [h1,hR,wI64,H.inl,inlB,H.pp,ppB]
 | succ f ih =>
  intro s hs hp R hR
  rw [ck_unf P.w192_B1.eq_1]
  by_cases h1:s < 2 * need
  · have h1':(s:Int) < 2 * need:=by omega
    have:=ih (s * 2) (by omega) (by rw [Nat.pow_succ,Nat.mul_comm _ 2] at hp;rw [Nat.mul_assoc];exact hp) R (by rw [wsz,if_pos h1] at hR;exact hR)
    simp at this
    simp (disch:=omega) [h1',this,wI64,H.inl,inlB,H.pp,ppB]
  · have h1':¬ ((s:Int) < 2 * need):=by omega
    rw [wsz,if_neg h1] at hR
    simp (disch:=omega) [h1',hR,wI64,H.inl,inlB,H.pp,ppB]
end Go.D
end
section
namespace Go.D
open Go Go.Pav Go.Pw P
set_option maxHeartbeats 1000000
attribute [-simp] List.getElem_cons_drop
variable {C:WProg}
theorem kys_app:∀ a b:List (Option Int),kys (a++b)=kys a++kys b
 | [],b=>rfl
 | some k::r,b=>by rw [List.cons_append,kys,kys,kys_app r b];rfl
 | none::r,b=>by rw [List.cons_append,kys,kys,kys_app r b]
theorem rehash_loop (H:HasKp C) (S:List (Option Int)) (hS:S.length≤100000) (hnd:(kys S).Nodup) (M:Nat) (hM:M≤100000) (hroom:(kys S).length < M) (c:Int) (X:List AV):∀ n i,n+i=S.length→∀ S2:List (Option Int),S2.length=M→KIn (mixK C) S2 (kys (S.take i)) →
 ∃ (S3:List (Option Int)) (m:Nat),S3.length=M∧KIn (mixK C) S3 (kys S) ∧
 CK C 55 (fnEndW []) [.sq P.w192_L0,.bk 2 ⟨true,[],[]⟩] P.w192_B0 ⟨[(30,.int .i64 i),(29,.int .i64 S.length),(28,.sl 1 3 0 S.length S.length true),(0,.ptr 0 0 0)],
  [(0,.cells 3 [[.sl 55 3 0 M M true,.int .i64 c,.int .i64 0]] true false),(1,.cells 3 (S.map eSo) true true),(6,.cells 2 [X] true true),(13,.cells 2 [X] true true),(55,.cells 3 (S2.map eSo) true true)],56⟩ =
  some (.tup [],[(0,.cells 3 [[.sl 55 3 0 M M true,.int .i64 c,.int .i64 0]] true false),(1,.cells 3 (S.map eSo) true true),(6,.cells 2 [X] true true),(13,.cells 2 [X] true true),(55,.cells 3 (S3.map eSo) true true)],m):=by
 intro n
 induction n with
 | zero =>
  intro i hi S2 hl hK
  have hT:S.take i=S:=List.take_of_length_le (by omega)
  have h3:¬ i < S.length:=by omega
  rw [hT] at hK
  have hrun:∃ m,CK C 55 (fnEndW []) [.sq P.w192_L0,.bk 2 ⟨true,[],[]⟩] P.w192_B0 ⟨[(30,.int .i64 i),(29,.int .i64 S.length),(28,.sl 1 3 0 S.length S.length true),(0,.ptr 0 0 0)],
   [(0,.cells 3 [[.sl 55 3 0 M M true,.int .i64 c,.int .i64 0]] true false),(1,.cells 3 (S.map eSo) true true),(6,.cells 2 [X] true true),(13,.cells 2 [X] true true),(55,.cells 3 (S2.map eSo) true true)],56⟩ =
   some (.tup [],[(0,.cells 3 [[.sl 55 3 0 M M true,.int .i64 c,.int .i64 0]] true false),(1,.cells 3 (S.map eSo) true true),(6,.cells 2 [X] true true),(13,.cells 2 [X] true true),(55,.cells 3 (S2.map eSo) true true)],m):=by
   rw [ck_unf P.w192_B0.eq_1]
   simp (disch:=omega) [h3,wI64,H.inl,inlB,H.pp,ppB]
  obtain ⟨m,hrun⟩:=hrun
  exact ⟨S2,m,hl,hK,hrun⟩
 | succ n ih =>
  intro i hi S2 hl hK
  have p1:i < S.length:=by omega
  have hft:S.take (i+1)=S.take i++[S[i]]:=List.take_succ_eq_append_getElem p1
  have conv:∀ (x y:Option (AV × WHeap × Nat)),x=y→(∃ (S3:List (Option Int)) (m:Nat),S3.length=M∧KIn (mixK C) S3 (kys S)∧y=some (.tup [],[(0,.cells 3 [[.sl 55 3 0 M M true,.int .i64 c,.int .i64 0]] true false),(1,.cells 3 (S.map eSo) true true),(6,.cells 2 [X] true true),(13,.cells 2 [X] true true),(55,.cells 3 (S3.map eSo) true true)],m)) →
   ∃ (S3:List (Option Int)) (m:Nat),S3.length=M∧KIn (mixK C) S3 (kys S)∧x=some (.tup [],[(0,.cells 3 [[.sl 55 3 0 M M true,.int .i64 c,.int .i64 0]] true false),(1,.cells 3 (S.map eSo) true true),(6,.cells 2 [X] true true),(13,.cells 2 [X] true true),(55,.cells 3 (S3.map eSo) true true)],m):=by
   intro x y h;subst h;exact id
  cases hv:S[i] with
  | none =>
   have this:=ih (i+1) (by omega) S2 hl (by rw [hft,kys_app,hv];simpa [kys] using hK)
   refine conv _ _ ?_ this
   rw [ck_unf P.w192_B0.eq_1]
   simp (disch:=omega) [p1,hv,wI64,H.inl,inlB,H.pp,ppB]
  | some k =>
   have hsp:kys S=kys (S.take i)++(k::kys (S.drop (i+1))):=by
    have:S=S.take i++(S[i]::S.drop (i+1)):=by rw [← List.drop_eq_getElem_cons p1,List.take_append_drop]
    rw [hv] at this
    calc kys S=kys (S.take i++(some k::S.drop (i+1))):=by rw [← this]
     _=_:=by rw [kys_app];rfl
   have hk:k ∉ kys (S.take i):=by
    rw [hsp,List.nodup_append] at hnd
    intro q
    exact hnd.2.2 k q k (by simp) rfl
   have hle:(kys (S.take i)).length < M:=by
    have:=congrArg List.length hsp
    simp at this
    omega
   obtain ⟨d,hd,hfr⟩:=kfr_ex (fun q=>hk ((hK.mem k).1 q)) (hK.room (by omega)) (mixK C k)
   have hlk:=fun f=>look_ok H.toHasKl S2 f c (by omega) (by omega) k d false (by simp) (fun _=>hfr)
   have hput:=kin_put hK hk hd hfr
   have hrr:(mixK C k+d) % S2.length < S2.length:=Nat.mod_lt _ (by omega)
   have hpos:=hfr.2
   rw [List.getElem?_eq_getElem hrr] at hpos
   simp only [Option.some.injEq] at hpos
   generalize (mixK C k+d) % S2.length=r at *
   have this:=ih (i+1) (by omega) (S2.set r (some k)) (by simpa using hl) (by rw [hft,kys_app,hv];exact hput)
   refine conv _ _ ?_ this
   have hT:List.take M (List.map eSo S2)=List.map eSo S2:=List.take_of_length_le (by simp;omega)
   have hr2:r < M:=by omega
   rw [ck_unf P.w192_B0.eq_1]
   simp only [aM] at hlk
   simp at hlk
   simp (disch:=omega) [p1,hv,hT,hl,hlk,hr2,hpos,wI64,H.inl,inlB,H.pp,ppB]
end Go.D
end
section
namespace Go.D
open Go Go.Pav Go.Pw P
set_option maxHeartbeats 1000000
attribute [-simp] List.getElem_cons_drop
variable {C:WProg}
theorem widen_ok (H:HasKp C) (S:List (Option Int)) (hS:S.length≤100000) (hnd:(kys S).Nodup) (need:Nat) (hn:need≤4096) (hk:(kys S).length < need) (c:Int) (X:List AV) :
 ∃ (S3:List (Option Int)) (m:Nat),S3.length=wsz 20 8 need∧KIn (mixK C) S3 (kys S) ∧
  RnW C 192 [.ptr 0 0 0,.int .i64 need] [(0,.cells 3 [[.sl 1 3 0 S.length S.length true,.int .i64 c,.int .i64 0]] true false),(1,.cells 3 (S.map eSo) true true),(6,.cells 2 [X] true true),(13,.cells 2 [X] true true)] 55 =
   some (.tup [],[(0,.cells 3 [[.sl 55 3 0 (wsz 20 8 need) (wsz 20 8 need) true,.int .i64 c,.int .i64 0]] true false),(1,.cells 3 (S.map eSo) true true),(6,.cells 2 [X] true true),(13,.cells 2 [X] true true),(55,.cells 3 (S3.map eSo) true true)],m):=by
 have hw1:=wsz_le 20 8 need (by omega) hn
 have hw2:=wsz_ge 20 8 need (by omega) (by omega)
 obtain ⟨S3,m,h1,h2,h3⟩:=rehash_loop H S hS hnd (wsz 20 8 need) (by omega) (by omega) c X S.length 0 rfl (List.replicate (wsz 20 8 need) none) (by simp) (kin_nil _ _)
 have hc0:CK C 55 (fnEndW []) [] P.w192_c0 ⟨[(4,.int .i64 (wsz 20 8 need)),(0,.ptr 0 0 0)],[(0,.cells 3 [[.sl 1 3 0 S.length S.length true,.int .i64 c,.int .i64 0]] true false),(1,.cells 3 (S.map eSo) true true),(6,.cells 2 [X] true true),(13,.cells 2 [X] true true)],55⟩ =
  some (.tup [],[(0,.cells 3 [[.sl 55 3 0 (wsz 20 8 need) (wsz 20 8 need) true,.int .i64 c,.int .i64 0]] true false),(1,.cells 3 (S.map eSo) true true),(6,.cells 2 [X] true true),(13,.cells 2 [X] true true),(55,.cells 3 (S3.map eSo) true true)],m):=by
  have hmk:wsz 20 8 need * 25≤35184372088832:=by omega
  generalize wsz 20 8 need=M at *
  rw [ck_unf P.w192_c0.eq_1]
  simp at h3
  simp (disch:=omega) [hmk,h3,wI64,H.inl,inlB,H.pp,ppB]
 have hs:=size_loop H need hn S c X 20 8 (by omega) (by omega) _ hc0
 refine ⟨S3,m,h1,h2,?_⟩
 rw [rnW_eq H.f192 rfl]
 simp at hs
 simp (disch:=omega) [P.w192,hs,wI64,H.inl,inlB,H.pp,ppB]
end Go.D
end
section
namespace Go.D
open Go Go.Pav Go.Pw P
set_option maxHeartbeats 1000000
attribute [-simp] List.getElem_cons_drop
variable {C:WProg}
theorem kys_mem:∀ (S:List (Option Int)) (k:Int),k ∈ kys S↔some k ∈ S
 | [],k=>by simp [kys]
 | some a::r,k=>by rw [kys,List.mem_cons,List.mem_cons,kys_mem r k];simp
 | none::r,k=>by rw [kys,List.mem_cons,kys_mem r k];simp
theorem kys_cnt:∀ (S:List (Option Int)),S.count none+(kys S).length=S.length
 | []=>rfl
 | some a::r=>by
  have:=kys_cnt r
  rw [kys,List.count_cons,List.length_cons,List.length_cons]
  simp
  omega
 | none::r=>by
  have:=kys_cnt r
  rw [kys,List.count_cons,List.length_cons]
  simp
  omega
theorem kin_kys {st:Int→Nat} {S S3:List (Option Int)} {K:List Int} (h:KIn st S K) (h3:KIn st S3 (kys S)):KIn st S3 K:=by
 have e:∀ k,k ∈ kys S↔k ∈ K:=fun k=>(kys_mem S k).trans (h.mem k)
 have hl:(kys S).length=K.length:=by have:=h.cn;have:=kys_cnt S;omega
 exact ⟨h.nd,fun k=>(h3.mem k).trans (e k),fun k hk=>h3.at_ k ((e k).2 hk),by have:=h3.cn;omega⟩
theorem nd_of_len:∀ (K L:List Int),K.Nodup→(∀ k ∈ K,k ∈ L)→L.length=K.length→L.Nodup
 | [],L,_,_,h=>by rw [List.eq_nil_of_length_eq_zero h];exact List.nodup_nil
 | a::K,L,hn,hs,hl=>by
  have ha:=hs a (by simp)
  have hp:L.Perm (a::L.erase a):=List.perm_cons_erase ha
  rw [List.nodup_cons] at hn
  have hlen:(L.erase a).length=K.length:=by have:=hp.length_eq;simp at this hl;omega
  have hn2:=nd_of_len K (L.erase a) hn.2 (fun k hk=>by
   have hne:k≠a:=fun q=>hn.1 (q ▸ hk)
   exact (List.mem_erase_of_ne hne).2 (hs k (List.mem_cons_of_mem _ hk))) hlen
  refine hp.nodup_iff.2 (List.nodup_cons.2 ⟨fun q=>?_,hn2⟩)
  have h3:∀ k ∈ a::K,k ∈ L.erase a:=fun k hk=>by
   rcases List.mem_cons.1 hk with rfl | hk
   · exact q
   · have hne:k≠a:=fun q=>hn.1 (q ▸ hk)
     exact (List.mem_erase_of_ne hne).2 (hs k (List.mem_cons_of_mem _ hk))
  have h4:(a::K).length≤(L.erase a).length:=by
   have hsub:∀ (A B:List Int),A.Nodup→(∀ k ∈ A,k ∈ B)→A.length≤B.length:=by
    intro A
    induction A with
    | nil=>intro B _ _;simp
    | cons x A ih =>
     intro B hA hB
     rw [List.nodup_cons] at hA
     have hx:=hB x (by simp)
     have:=ih (B.erase x) hA.2 (fun k hk=>by
      have hne:k≠x:=fun q=>hA.1 (q ▸ hk)
      exact (List.mem_erase_of_ne hne).2 (hB k (List.mem_cons_of_mem _ hk)))
     have h5:=(List.perm_cons_erase hx).length_eq
     simp at h5 ⊢
     omega
   exact hsub _ _ (List.nodup_cons.2 hn) h3
  simp at h4
  omega
theorem kin_nd {st:Int→Nat} {S:List (Option Int)} {K:List Int} (h:KIn st S K):(kys S).Nodup :=
 nd_of_len K (kys S) h.nd (fun k hk=>(kys_mem S k).2 ((h.mem k).2 hk)) (by have:=h.cn;have:=kys_cnt S;omega)
theorem kin_kl {st:Int→Nat} {S:List (Option Int)} {K:List Int} (h:KIn st S K):(kys S).length=K.length:=by have:=h.cn;have:=kys_cnt S;omega
end Go.D
end
section
namespace Go.D
open Go Go.Pav Go.Pw P
set_option maxHeartbeats 1000000
attribute [-simp] List.getElem_cons_drop
variable {C:WProg}
theorem put_wide (H:HasKp C) (S:List (Option Int)) (K:List Int) (h:KMap C S K) (k:Int) (h0:¬ k=0) (hk:k ∉ K) (hK:K.length < 4096) (hlt:K.length < S.length) (hr:3 * S.length < 4 * (K.length+1)) (X:List AV) :
 ∃ (S':List (Option Int)) (m:Nat),KMap C S' (K++[k])∧RnW C 99 [.ptr 0 0 0,.int .u64 k,.int .i64 0] [(0,.cells 3 [[.sl 1 3 0 S.length S.length true,.int .i64 K.length,.int .i64 0]] true false),(1,.cells 3 (S.map eSo) true true),(6,.cells 2 [X] true true),(13,.cells 2 [X] true true)] 30 =
  some (.int .i64 0,[(0,.cells 3 [[.sl 30 3 0 S'.length S'.length true,.int .i64 (K.length+1:Nat),.int .i64 0]] true false),(1,.cells 3 (S.map eSo) true true),(6,.cells 2 [X] true true),(13,.cells 2 [X] true true),(30,.cells 3 (S'.map eSo) true true)],m):=by
 have hS:=h.l
 obtain ⟨d,hd,hfr⟩:=kfr_ex (fun q=>hk ((h.k.mem k).1 q)) (h.k.room hlt) (mixK C k)
 have hlk:=fun f c=>look_ok H.toHasKl S f c (by omega) (by omega) k d false (by simp) (fun _=>hfr)
 have hSk:=kin_kl h.k
 obtain ⟨S3,m3,w1,w2,w3⟩:=widen_ok H S (by omega) (kin_nd h.k) (K.length+1) (by omega) (by omega) K.length X
 have w2:=kin_kys h.k w2
 have hw1:=wsz_le 20 8 (K.length+1) (by omega) (by omega)
 have hw2:=wsz_ge 20 8 (K.length+1) (by omega) (by omega)
 rw [← w1] at w3 hw1 hw2
 obtain ⟨d3,hd3,hfr3⟩:=kfr_ex (fun q=>hk ((w2.mem k).1 q)) (w2.room (by omega)) (mixK C k)
 have hlk3:=fun f c=>look_ok H.toHasKl S3 f c (by omega) (by omega) k d3 false (by simp) (fun _=>hfr3)
 have hput:=kin_put w2 hk hd3 hfr3
 have hpos:=hfr3.2
 have hrr:(mixK C k+d3) % S3.length < S3.length:=Nat.mod_lt _ (by omega)
 rw [List.getElem?_eq_getElem hrr] at hpos
 simp only [Option.some.injEq] at hpos
 generalize (mixK C k+d3) % S3.length=r3 at *
 have hKM:KMap C (S3.set r3 (some k)) (K++[k]):=⟨hput,by simp;omega,.inr (by simp;omega)⟩
 have hT3:List.take S3.length (List.map eSo S3)=List.map eSo S3:=List.take_of_length_le (by simp)
 refine ⟨S3.set r3 (some k),?_⟩
 have hrun:∃ m,RnW C 99 [.ptr 0 0 0,.int .u64 k,.int .i64 0] [(0,.cells 3 [[.sl 1 3 0 S.length S.length true,.int .i64 K.length,.int .i64 0]] true false),(1,.cells 3 (S.map eSo) true true),(6,.cells 2 [X] true true),(13,.cells 2 [X] true true)] 30 =
  some (.int .i64 0,[(0,.cells 3 [[.sl 30 3 0 S3.length S3.length true,.int .i64 (K.length+1:Nat),.int .i64 0]] true false),(1,.cells 3 (S.map eSo) true true),(6,.cells 2 [X] true true),(13,.cells 2 [X] true true),(30,.cells 3 ((S3.set r3 (some k)).map eSo) true true)],m):=by
  generalize (mixK C k+d) % S.length=r at *
  have hT:List.take S.length (List.map eSo S)=List.map eSo S:=List.take_of_length_le (by simp)
  have hne:¬ ((K.length:Int)=4096):=by omega
  have hw:(3 * (S.length:Int) < 4 * ((K.length:Int)+1)):=by omega
  have hSn:0 < S.length:=by omega
  rw [rnW_eq H.f99 rfl]
  simp only [aM] at hlk hlk3
  simp at hlk hlk3 w3
  simp (disch:=omega) [P.w99,hT,hT3,hlk,hlk3,w3,hrr,hpos,h0,hne,hw,hSn,wI64,H.inl,inlB,H.pp,ppB]
 obtain ⟨m,hrun⟩:=hrun
 exact ⟨m,hKM,by simpa using hrun⟩
end Go.D
end
section
namespace Go.D
open Go Go.Pav Go.Pw P
set_option maxHeartbeats 1000000
attribute [-simp] List.getElem_cons_drop
variable {C:WProg}
abbrev kH (b:Nat) (S:List (Option Int)) (K:List Int):WObj:=.cells 3 [[.sl b 3 0 S.length S.length true,.int .i64 K.length,.int .i64 0]] true false
abbrev kS (S:List (Option Int)):WObj:=.cells 3 (S.map eSo) true true
abbrev hX (x:Ht):WObj:=.cells 2 [[.int .u64 x.k,.int .i64 x.s]] true true
theorem tone_bad (H:HasKp C) (S:List (Option Int)) (K:List Int) (h:KMap C S K) (x:Ht) (d:Int) (hE:¬ tabI d K x=0) :
 ∃ Q m,RnW C 379 [.agg [.int .u64 x.k,.int .i64 x.s],.int .i64 d,.ptr 0 0 0] [(0,kH 1 S K),(1,kS S),(6,hX x)] 13=some (.int .i64 (tabI d K x),Q,m):=by
 have hg:=fun f=>get_ok H.toHasKl S K f h x.k
 have hT:List.take S.length (List.map eSo S)=List.map eSo S:=List.take_of_length_le (by simp)
 rw [rnW_eq H.f379 rfl]
 unfold tabI at hE ⊢
 simp only [aM] at hg
 by_cases h0:x.k=0
 · rw [if_pos h0]
   simp only [h0] at hg
   simp at hg
   simp (disch:=omega) [P.w379,hT,hg,h0,wI64,H.inl,inlB,H.pp,ppB]
 · rw [if_neg h0] at hE ⊢
   by_cases h1:x.s < d
   · rw [if_pos (.inl h1)]
     simp at hg
     simp (disch:=omega) [P.w379,hT,hg,h0,h1,wI64,H.inl,inlB,H.pp,ppB]
   · by_cases h2:2305843009213693952 < x.s
     · rw [if_pos (.inr h2)]
       simp at hg
       simp (disch:=omega) [P.w379,hT,hg,h0,h1,h2,wI64,H.inl,inlB,H.pp,ppB]
     · rw [if_neg (by omega)] at hE ⊢
       by_cases hk:x.k ∈ K
       · rw [if_pos hk]
         simp only [decide_eq_true hk] at hg
         simp at hg
         simp (disch:=omega) [P.w379,hT,hg,h0,h1,h2,wI64,H.inl,inlB,H.pp,ppB]
       · rw [if_neg hk] at hE
         exact absurd rfl hE
theorem tone_good (H:HasKp C) (S:List (Option Int)) (K:List Int) (h:KMap C S K) (hne:S≠[]) (hK:K.length < 4096) (x:Ht) (d:Int) (hE:tabI d K x=0) :
 ∃ S',KMap C S' (K++[x.k])∧S'≠[] ∧
  ((∃ m, RnW C 379 [.agg [.int .u64 x.k, .int .i64 x.s], .int .i64 d, .ptr 0 0 0] [(0, kH 1 S K), (1, kS S), (6, hX x)] 13 = some (.int .i64 0, [(0, kH 1 S' (K ++ [x.k])), (1, kS S'), (6, hX x), (13, hX x)], m)) ∨
   (∃ m,RnW C 379 [.agg [.int .u64 x.k,.int .i64 x.s],.int .i64 d,.ptr 0 0 0] [(0,kH 1 S K),(1,kS S),(6,hX x)] 13=some (.int .i64 0,[(0,kH 30 S' (K++[x.k])),(1,kS S),(6,hX x),(13,hX x),(30,kS S')],m))):=by
 have hg:=fun f=>get_ok H.toHasKl S K f h x.k
 have hT:List.take S.length (List.map eSo S)=List.map eSo S:=List.take_of_length_le (by simp)
 have hlt:K.length < S.length:=by
  rcases h.r with ⟨_,q⟩ | q
  · exact absurd q hne
  · exact q
 unfold tabI at hE
 by_cases h0:x.k=0
 · rw [if_pos h0] at hE;exact absurd hE (by decide)
 rw [if_neg h0] at hE
 by_cases h1:x.s < d∨2305843009213693952 < x.s
 · rw [if_pos h1] at hE;exact absurd hE (by decide)
 rw [if_neg h1] at hE
 by_cases hk:x.k ∈ K
 · rw [if_pos hk] at hE;exact absurd hE (by decide)
 obtain ⟨h1,h2⟩:¬ x.s < d∧¬ 2305843009213693952 < x.s:=by omega
 simp only [aM,decide_eq_false hk] at hg
 simp at hg
 by_cases hr:4 * (K.length+1)≤3 * S.length
 · obtain ⟨S',m,q1,q2,q3⟩:=put_room H S K h x.k h0 hk hK hr [.int .u64 x.k,.int .i64 x.s]
   refine ⟨S',q1,by intro q;rw [q] at q2;exact hne (List.length_eq_zero_iff.1 q2.symm),.inl ?_⟩
   rw [rnW_eq H.f379 rfl]
   simp at q3
   simp (disch:=omega) [P.w379,hT,hg,h0,h1,h2,q2,q3,wI64,H.inl,inlB,H.pp,ppB]
 · obtain ⟨S',m,q1,q3⟩:=put_wide H S K h x.k h0 hk hK hlt (by omega) [.int .u64 x.k,.int .i64 x.s]
   refine ⟨S',q1,?_,.inr ?_⟩
   · intro q
     rcases q1.r with ⟨q,_⟩ | q4
     · simp at q
     · rw [q] at q4;simp at q4
   rw [rnW_eq H.f379 rfl]
   simp at q3
   simp (disch:=omega) [P.w379,hT,hg,h0,h1,h2,q3,wI64,H.inl,inlB,H.pp,ppB]
end Go.D
end
section
namespace Go.D
open Go Go.Pav Go.Pw P
set_option maxHeartbeats 1000000
attribute [-simp] List.getElem_cons_drop
variable {C:WProg}
abbrev k0:WObj:=.cells 3 [[.ro 3 [] true,.int .i64 0,.int .i64 0]] true true
theorem widen_first (H:HasKp C) (X:List AV) :
 ∃ m,RnW C 192 [.ptr 0 0 0,.int .i64 1] [(0,k0),(5,.cells 2 [X] true true),(12,.cells 2 [X] true true)] 54 =
  some (.tup [],[(0,.cells 3 [[.sl 54 3 0 8 8 true,.int .i64 0,.int .i64 0]] true false),(5,.cells 2 [X] true true),(12,.cells 2 [X] true true),(54,.cells 3 ((List.replicate 8 none).map eSo) true true)],m):=by
 rw [rnW_eq H.f192 rfl]
 simp (disch:=omega) [P.w192,ck_unf P.w192_B1.eq_1,ck_unf P.w192_c0.eq_1,ck_unf P.w192_B0.eq_1,wI64,H.inl,inlB,H.pp,ppB]
theorem put_first (H:HasKp C) (k:Int) (h0:¬ k=0) (X:List AV) :
 ∃ (S':List (Option Int)) (m:Nat),KMap C S' [k]∧S'≠[]∧RnW C 99 [.ptr 0 0 0,.int .u64 k,.int .i64 0] [(0,k0),(5,.cells 2 [X] true true),(12,.cells 2 [X] true true)] 29 =
  some (.int .i64 0,[(0,.cells 3 [[.sl 29 3 0 S'.length S'.length true,.int .i64 1,.int .i64 0]] true false),(5,.cells 2 [X] true true),(12,.cells 2 [X] true true),(29,.cells 3 (S'.map eSo) true true)],m):=by
 obtain ⟨m3,w3⟩:=widen_first H X
 have hk0:KIn (mixK C) (List.replicate 8 none) []:=kin_nil _ _
 obtain ⟨d3,hd3,hfr3⟩:=kfr_ex (k:=k) (fun q=>by simpa using (hk0.mem k).1 q) (hk0.room (by simp)) (mixK C k)
 have hlk3:=fun f c=>look_ok H.toHasKl (List.replicate 8 none) f c (by simp) (by simp) k d3 false (by simp) (fun _=>hfr3)
 have hput:=kin_put hk0 (by simp) hd3 hfr3
 have hpos:=hfr3.2
 have hrr:(mixK C k+d3) % (List.replicate 8 (none:Option Int)).length < (List.replicate 8 (none:Option Int)).length:=Nat.mod_lt _ (by simp)
 rw [List.getElem?_eq_getElem hrr] at hpos
 simp only [Option.some.injEq] at hpos
 have hlen:(List.replicate 8 (none:Option Int)).length=8:=List.length_replicate
 generalize hS3:List.replicate 8 (none:Option Int)=S3 at *
 generalize (mixK C k+d3) % S3.length=r3 at *
 rw [hlen] at hrr
 have hT3:List.take 8 (List.map eSo S3)=List.map eSo S3:=List.take_of_length_le (by simp [hlen])
 refine ⟨S3.set r3 (some k),?_⟩
 have hrun:∃ m,RnW C 99 [.ptr 0 0 0,.int .u64 k,.int .i64 0] [(0,k0),(5,.cells 2 [X] true true),(12,.cells 2 [X] true true)] 29 =
  some (.int .i64 0,[(0,.cells 3 [[.sl 29 3 0 8 8 true,.int .i64 1,.int .i64 0]] true false),(5,.cells 2 [X] true true),(12,.cells 2 [X] true true),(29,.cells 3 ((S3.set r3 (some k)).map eSo) true true)],m):=by
  rw [rnW_eq H.f99 rfl]
  simp only [aM] at hlk3
  simp at hlk3 w3
  simp (disch:=omega) [P.w99,hT3,hlk3,w3,hrr,hpos,hlen,h0,wI64,H.inl,inlB,H.pp,ppB]
 obtain ⟨m,hrun⟩:=hrun
 refine ⟨m,⟨by simpa using hput,by simp [hlen],.inr (by simp [hlen])⟩,?_,by simpa [hlen] using hrun⟩
 intro q
 have:=congrArg List.length q
 simp [hlen] at this
theorem tone_bad0 (H:HasKp C) (x:Ht) (d:Int) (hE:¬ tabI d [] x=0) :
 ∃ Q m,RnW C 379 [.agg [.int .u64 x.k,.int .i64 x.s],.int .i64 d,.ptr 0 0 0] [(0,k0),(5,hX x)] 12=some (.int .i64 (tabI d [] x),Q,m):=by
 have h:KMap C [] []:=⟨kin_nil (mixK C) 0,by simp,.inl ⟨rfl,rfl⟩⟩
 have hg:=fun f=>get_ok H.toHasKl [] [] f h x.k
 rw [rnW_eq H.f379 rfl]
 unfold tabI at hE ⊢
 simp only [aM] at hg
 by_cases h0:x.k=0
 · rw [if_pos h0]
   simp only [h0] at hg
   simp at hg
   simp (disch:=omega) [P.w379,hg,h0,wI64,H.inl,inlB,H.pp,ppB]
 · rw [if_neg h0] at hE ⊢
   by_cases h1:x.s < d
   · rw [if_pos (.inl h1)]
     simp at hg
     simp (disch:=omega) [P.w379,hg,h0,h1,wI64,H.inl,inlB,H.pp,ppB]
   · by_cases h2:2305843009213693952 < x.s
     · rw [if_pos (.inr h2)]
       simp at hg
       simp (disch:=omega) [P.w379,hg,h0,h1,h2,wI64,H.inl,inlB,H.pp,ppB]
     · rw [if_neg (by omega)] at hE ⊢
       simp at hE
theorem tone_good0 (H:HasKp C) (x:Ht) (d:Int) (hE:tabI d [] x=0) :
 ∃ S',KMap C S' [x.k]∧S'≠[] ∧
  ∃ m,RnW C 379 [.agg [.int .u64 x.k,.int .i64 x.s],.int .i64 d,.ptr 0 0 0] [(0,k0),(5,hX x)] 12=some (.int .i64 0,[(0,.cells 3 [[.sl 29 3 0 S'.length S'.length true,.int .i64 1,.int .i64 0]] true false),(5,hX x),(12,hX x),(29,kS S')],m):=by
 have h:KMap C [] []:=⟨kin_nil (mixK C) 0,by simp,.inl ⟨rfl,rfl⟩⟩
 have hg:=fun f=>get_ok H.toHasKl [] [] f h x.k
 unfold tabI at hE
 by_cases h0:x.k=0
 · rw [if_pos h0] at hE;exact absurd hE (by decide)
 rw [if_neg h0] at hE
 by_cases h1:x.s < d∨2305843009213693952 < x.s
 · rw [if_pos h1] at hE;exact absurd hE (by decide)
 obtain ⟨h1,h2⟩:¬ x.s < d∧¬ 2305843009213693952 < x.s:=by omega
 simp only [aM] at hg
 simp at hg
 obtain ⟨S',m,q1,q2,q3⟩:=put_first H x.k h0 [.int .u64 x.k,.int .i64 x.s]
 refine ⟨S',q1,q2,?_⟩
 rw [rnW_eq H.f379 rfl]
 simp (disch:=omega) [P.w379,hg,h0,h1,h2,q3,wI64,H.inl,inlB,H.pp,ppB]
structure HasTb (C:WProg):Prop extends HasKp C where
 f201:C.fns.get 201=some w201
 f2016:C.fns.get 2016=some w97
theorem tab_loop (H:HasTb C) (T:List Ht) (te:Bool) (hT:T.length≤256) (d:Int):∀ n i,n+i=T.length→∀ S:List (Option Int),KMap C S ((T.take i).map (·.k))→S≠[] →
 w201_K0 C ⟨[(24,.int .i64 i),(23,.int .i64 T.length),(22,.ro 2 (T.map eHt) te),(6,.ptr 0 0 0),(1,.int .i64 d)],[(0,kH 1 S ((T.take i).map (·.k))),(1,kS S)],2⟩ =
  some (.tup [.int .i64 (tabL d ((T.take i).map (·.k)) i (T.drop i)).1,.int .i64 (tabL d ((T.take i).map (·.k)) i (T.drop i)).2]):=by
 intro n
 induction n with
 | zero =>
  intro i hi S hS hne
  have h3:¬ i < T.length:=by omega
  have q:T.drop i=[]:=List.drop_eq_nil_of_le (by omega)
  rw [q]
  simp only [w201_K0];rw [ck_unf w201_B0.eq_1]
  simp [ck_unf w201_c0.eq_1,h3,tabL]
 | succ n ih =>
  intro i hi S hS hne
  have h1:i < T.length:=by omega
  have hft:T.take (i+1)=T.take i++[T[i]]:=List.take_succ_eq_append_getElem h1
  have hkl:((T.take i).map (·.k)).length=i:=by simp;omega
  rw [drop_cons h1,tabL]
  by_cases c:tabI d ((T.take i).map (·.k)) T[i]=0
  · rw [if_neg (fun h=>h c)]
    obtain ⟨S',q1,q2,q3⟩:=tone_good H.toHasKp S _ hS hne (by omega) T[i] d c
    rw [show (T.take i).map (·.k)++[T[i].k]=(T.take (i+1)).map (·.k) by rw [hft,List.map_append,List.map_cons,List.map_nil]] at *
    have this:=ih (i+1) (by omega) S' q1 q2
    rw [← this]
    generalize (T.take (i+1)).map (·.k)=K2 at *
    generalize (T.take i).map (·.k)=K at *
    have hX2:eHt T[i]=[.int .u64 T[i].k,.int .i64 T[i].s]:=rfl
    rcases q3 with ⟨m,q3⟩ | ⟨m,q3⟩
    · simp only [w201_K0];rw [ck_unf w201_B0.eq_1]
      try simp at q3
      simp (disch:=omega) [h1,hX2,q3,wI64,H.inl,inlB,H.pp,ppB]
    · simp only [w201_K0];rw [ck_unf w201_B0.eq_1]
      try simp at q3
      simp (disch:=omega) [h1,hX2,q3,wI64,H.inl,inlB,H.pp,ppB]
  · rw [if_pos c]
    obtain ⟨Q,m,q3⟩:=tone_bad H.toHasKp S _ hS T[i] d c
    generalize tabI d ((T.take i).map (·.k)) T[i]=E at *
    generalize (T.take i).map (·.k)=K at *
    have hX2:eHt T[i]=[.int .u64 T[i].k,.int .i64 T[i].s]:=rfl
    simp only [w201_K0];rw [ck_unf w201_B0.eq_1]
    try simp at q3
    simp (disch:=omega) [h1,hX2,q3,c,wI64,H.inl,inlB,H.pp,ppB]
theorem tab_first (H:HasTb C) (T:List Ht) (te:Bool) (hT:T.length≤256) (d:Int) :
 w201_K0 C ⟨[(24,.int .i64 0),(23,.int .i64 T.length),(22,.ro 2 (T.map eHt) te),(6,.ptr 0 0 0),(1,.int .i64 d)],[(0,k0)],1⟩ =
  some (.tup [.int .i64 (tabL d [] 0 T).1,.int .i64 (tabL d [] 0 T).2]):=by
 cases T with
 | nil =>
  simp only [w201_K0];rw [ck_unf w201_B0.eq_1]
  simp [ck_unf w201_c0.eq_1,tabL]
 | cons x r =>
  rw [tabL]
  have h1:(0:Int) < ((x::r).length:Int):=by rw [List.length_cons];omega
  have hX2:eHt x=[.int .u64 x.k,.int .i64 x.s]:=rfl
  by_cases c:tabI d [] x=0
  · rw [if_neg (fun h=>h c)]
    obtain ⟨S',q1,q2,m,q3⟩:=tone_good0 H.toHasKp x d c
    have this:=tab_loop H (x::r) te hT d r.length 1 (by simp) S' (by simpa using q1) q2
    simp only [List.take_succ_cons,List.take_zero,List.map_cons,List.map_nil,List.drop_succ_cons,List.drop_zero] at this
    simp only [List.nil_append,Nat.zero_add]
    simp only [w201_K0] at this ⊢;rw [ck_unf w201_B0.eq_1]
    try simp at q3
    simp [hX2,kH,kS] at this
    have h1:(0:Int) < (r.length:Int)+1:=by omega
    simp (disch:=omega) [h1,hX2,q3,this,wI64,H.inl,inlB,H.pp,ppB]
  · rw [if_pos c]
    obtain ⟨Q,m,q3⟩:=tone_bad0 H.toHasKp x d c
    generalize tabI d [] x=E at *
    simp only [w201_K0];rw [ck_unf w201_B0.eq_1]
    try simp at q3
    simp (disch:=omega) [h1,hX2,q3,c,wI64,H.inl,inlB,H.pp,ppB]
theorem tab_ok (H:HasTb C) (T:List Ht) (te:Bool) (hT:T.length≤1000000) (d:Int) :
 FnW C 201 [.ro 2 (T.map eHt) te,.int .i64 d]=some (.tup [.int .i64 (tabE d T).1,.int .i64 (tabE d T).2]):=by
 have hnew:∀ n,RnW C 2016 [] [] n=some (.ptr (n+2) 0 0,[(n+2,k0)],n+4):=by
  intro n
  rw [rnW_eq H.f2016 rfl]
  simp (disch:=omega) [w97,wI64,H.inl,inlB,H.pp,ppB]
 rw [fnW_eq H.f201 rfl]
 unfold tabE
 by_cases c1:d < 1
 · rw [if_pos (.inl c1)]
   simp (disch:=omega) [w201,c1,wI64,H.inl,inlB,H.pp,ppB]
 · by_cases c2:2305843009213693952 < d
   · rw [if_pos (.inr c2)]
     simp (disch:=omega) [w201,c1,c2,wI64,H.inl,inlB,H.pp,ppB]
   · rw [if_neg (by omega)]
     by_cases c3:256 < (T.length:Int)
     · rw [if_pos c3]
       simp (disch:=omega) [w201,c1,c2,c3,wI64,H.inl,inlB,H.pp,ppB]
     · rw [if_neg c3]
       have h:=tab_first H T te (by omega) d
       simp only [w201_K0] at h
       try simp at h
       simp (disch:=omega) [w201,c1,c2,c3,h,hnew,wI64,H.inl,inlB,H.pp,ppB]
end Go.D
end
section
namespace Go.D
open Go Go.Pav Go.Pw P
set_option maxHeartbeats 2000000
attribute [-simp] List.getElem_cons_drop
variable {C:WProg}
theorem tabL_ok (d:Int):∀ (T:List Ht) (K:List Int) (i:Nat),(tabL d K i T).2=0→∀ x ∈ T,d≤x.s∧x.s≤2305843009213693952:=by
 intro T
 induction T with
 | nil=>intro K i _ x hx;cases hx
 | cons a r ih =>
  intro K i h x hx
  rw [tabL] at h
  split at h
  · rename_i c;exact absurd h c
  · rename_i c
    have c:tabI d K a=0:=by omega
    rcases List.mem_cons.1 hx with rfl | hx
    · unfold tabI at c
      split at c
      · exact absurd c (by decide)
      · split at c
        · exact absurd c (by decide)
        · omega
    · exact ih _ _ h x hx
theorem tabE_ok {d:Int} {T:List Ht} (h:(tabE d T).2=0):TOk T∧T.length≤256:=by
 unfold tabE at h
 split at h
 · exact absurd h (by decide)
 split at h
 · exact absurd h (by decide)
 refine ⟨fun x hx=>?_,by omega⟩
 have:=tabL_ok d T [] 0 h x hx
 rw [hOk_iff];omega
theorem tabI_nn (d:Int) (K:List Int) (x:Ht):0≤tabI d K x:=by unfold tabI;repeat' split <;> try omega
theorem tabL_nn (d:Int):∀ (T:List Ht) (K:List Int) (i:Nat),0≤(tabL d K i T).2:=by
 intro T
 induction T with
 | nil=>intro K i;simp [tabL]
 | cons a r ih =>
  intro K i
  rw [tabL]
  split
  · exact tabI_nn d K a
  · exact ih _ _
theorem tabE_nn (d:Int) (T:List Ht):0≤(tabE d T).2:=by
 unfold tabE
 split
 · simp
 · split
   · simp
   · exact tabL_nn d T [] 0
theorem sin_of {ks:List Kd} {cap v ov ls k d:Int} {l:List En} {T:List Ht} (hr:RuIn ks) (he:∀ x ∈ l,EnIn x) (hk:0≤k) (h:setE ks cap v ov ls l k d (tabE ls T).2=0):SIn ks cap v ov l k d T:=by
 unfold setE at h
 split at h
 · rename_i c;exact absurd h c
 rename_i c1
 split at h
 · rename_i c;exact absurd h c
 rename_i c2
 split at h
 · rename_i c;exact absurd h c
 rename_i c3
 split at h
 · rename_i c;exact absurd h c
 rename_i c4
 split at h
 · exact absurd h (by decide)
 rename_i c5
 have c1:valF ks cap v ov ls=0:=by omega
 have c4:anE k d=0:=by omega
 obtain ⟨t1,t2⟩:=tabE_ok (d:=ls) (T:=T) (by omega)
 unfold valF at c1
 split at c1
 · exact absurd c1 (by decide)
 split at c1
 · exact absurd c1 (by decide)
 rename_i c6
 unfold anE at c4
 split at c4
 · exact absurd c4 (by decide)
 rename_i c7
 exact ⟨hr,gd_of (by omega) he,t1,by omega,by omega,by omega,⟨hk,by omega,fun q=>by omega,fun q=>by omega⟩⟩
structure HasSl (C:WProg):Prop extends HasRs C,HasTb C,HasRb C where
 f617:C.fns.get 617=some w617
section
variable (H:HasSl C) (hlives:FnW C 178 []=some (.bool true)) (ks:List Kd) (ke:Bool) (l:List En) (e:Bool) (v ls ov k d:Int) (bad:Bool) (T:List Ht) (te:Bool) (Q Z:List (List AV)) (qe ze:Bool) (r:Int)
include H hlives
abbrev zC (v ls ov k d:Int) (bad:Bool) (T:List Ht) (te:Bool):List AV:=[.int .i64 v,.int .i64 ls,.int .i64 ov,.bool bad,.int .u64 k,.int .i64 d,.ro 2 (T.map eHt) te]
theorem sc_meas (cap E:Int) (hk8:ks.length≤1000) (ht:∀ x ∈ l,0≤x.i.t∧x.i.t≤255) (hl:l.length≤20) (hT:T.length≤20)
 (hend:CK C 0 (pureFin [.tmp 6]) [] w617_c0 ⟨[(12,.int .i64 E),(11,.ptr 0 0 0),(5,.ptr 1 0 0),(4,.ptr 2 0 0)],[(0,.cells 5 [[.ro 9 (ks.map eKd) ke,.int .i64 cap,.int .i64 v,.int .i64 ov,.int .i64 ls]] true true),(1,.cells 7 [zC v ls ov k d bad T te] true true),(2,.cells 1 [[.ro 6 (l.map eEn) e]] true true)],3⟩=some (.bool true)) :
 ∀ n i,n+i=l.length→w617_K0 C ⟨[(13,.int .i64 i),(12,.int .i64 E),(11,.ptr 0 0 0),(5,.ptr 1 0 0),(4,.ptr 2 0 0)],[(0,.cells 5 [[.ro 9 (ks.map eKd) ke,.int .i64 cap,.int .i64 v,.int .i64 ov,.int .i64 ls]] true true),(1,.cells 7 [zC v ls ov k d bad T te] true true),(2,.cells 1 [[.ro 6 (l.map eEn) e]] true true)],3⟩=some (.bool true):=by
 have _h:=hlives
 intro n
 induction n with
 | zero =>
  intro i hi
  have h3:¬ i < l.length:=by omega
  simp only [w617_K0];rw [ck_unf w617_B0.eq_1]
  try simp at hend
  simp (disch:=omega) [h3,hend,wI64,H.toHasRb.inl,inlB,H.toHasRb.pp,ppB]
 | succ n ih =>
  intro i hi
  have h1:i < l.length:=by omega
  have this:=ih (i+1) (by omega)
  have ht1:=ht _ (List.getElem_mem h1)
  have hm:=meas_ok H.toHasRs.toHasSe.toHasRd.toHasMs ks ke cap v ov ls l[i].i (by omega) hk8 T te (by omega)
  have hm2:=rmeas_ok H.toHasRs.toHasSe.toHasRd.toHasMs ks ke cap v ov ls l[i].i (by omega) hk8 T te (by omega)
  simp only [aF,eIt] at hm hm2
  simp only [w617_K0] at this ⊢;rw [ck_unf w617_B0.eq_1]
  try simp at this
  simp (disch:=omega) [h1,hm,hm2,this,wI64,H.toHasRb.inl,inlB,H.toHasRb.pp,ppB]
theorem sc_end (cap E:Int) (hr:RuIn ks) (he:∀ x ∈ l,EnIn x) (hk:0≤k) (hl:l.length≤20) (hT:T.length≤20) (hE:setE ks cap v ov ls l k d (tabE ls T).2=E) :
 CK C 0 (pureFin [.tmp 6]) [] w617_c0 ⟨[(12,.int .i64 E),(11,.ptr 0 0 0),(5,.ptr 1 0 0),(4,.ptr 2 0 0)],[(0,.cells 5 [[.ro 9 (ks.map eKd) ke,.int .i64 cap,.int .i64 v,.int .i64 ov,.int .i64 ls]] true true),(1,.cells 7 [zC v ls ov k d bad T te] true true),(2,.cells 1 [[.ro 6 (l.map eEn) e]] true true)],3⟩=some (.bool true):=by
 have htab:=tab_ok H.toHasTb T te (by omega) ls
 have hc:=scheck_ok H.toHasRs.toHasSe.toHasSk ks ke cap v ov ls hr l e (by omega) he k d hk (T.map eHt) te (tabE ls T).1 (tabE ls T).2 htab
 rw [hE] at hc
 by_cases c:E=0
 · subst c
   have S:=sin_of hr he hk hE
   have h1:=rsettle_ok ks ke cap v ov ls k d T te H.toHasRs l e S
   have h2:=settle_ok ks ke cap v ov ls k d T te H.toHasRs.toHasSe l e S hc
   rw [stF_own] at h2
   simp only [aF,aL,aA] at h1 h2
   rw [ck_unf w617_c0.eq_1]
   cases hq:stF ks T v ov k d 1025 l 0 with
   | none =>
    rw [hq] at h1 h2
    simp [rsR,stR] at h1 h2
    simp (disch:=omega) [h1,h2,hlives,wI64,H.toHasRb.inl,inlB,H.toHasRb.pp,ppB]
   | some x =>
    obtain ⟨L,o,n⟩:=x
    rw [hq] at h1 h2
    simp [rsR,stR] at h1 h2
    simp (disch:=omega) [h1,h2,hlives,wI64,H.toHasRb.inl,inlB,H.toHasRb.pp,ppB]
 · have h1:=set_bad ks ke cap v ov ls k d T te H.toHasRs.toHasSe l e E c hc
   have h2:=rou_bad ks ke cap v ov ls k d T te H.toHasRs.toHasSe l e E c hc
   simp only [aF,aL,aA] at h1 h2
   rw [ck_unf w617_c0.eq_1]
   simp (disch:=omega) [c,h1,h2,hlives,wI64,H.toHasRb.inl,inlB,H.toHasRb.pp,ppB]
end
theorem sc_main (H:HasSl C) (hlives:FnW C 178 []=some (.bool true)) (l:List En) (e:Bool) (v ls ov k d:Int) (bad:Bool) (T:List Ht) (te:Bool) (q:List Q4) (qe:Bool) (z:List Int) (ze:Bool) (r:Int)
 (hone:∃ (R:List En) (f:Bool),FnW C 130 [.agg [.ro 4 (q.map eQ) qe,.ro 1 (z.map eU8) ze,.int .u8 r]]=some (.tup [aR (kindsOf r) true 12,aL R f]))
 (he:∀ x ∈ l,EnIn x) (hk:0≤k) (hl:l.length≤20) (hT:T.length≤20) :
 CK C 0 (pureFin [.tmp 6]) [] w617_c1 ⟨[(5,.ptr 0 0 0),(4,.ptr 1 0 0),(3,.ptr 2 0 0)],[(0,.cells 7 [zC v ls ov k d bad T te] true true),(1,.cells 1 [[.ro 6 (l.map eEn) e]] true true),(2,.cells 3 [[.ro 4 (q.map eQ) qe,.ro 1 (z.map eU8) ze,.int .u8 r]] true true)],3⟩=some (.bool true):=by
 obtain ⟨R,f,hL⟩:=hone
 have hru:=ru_in r
 have hk8:(kindsOf r).length≤1000:=by simp [kindsOf]
 have key:∀ cap:Int,∃ E:Int,FnW C 622 [aF (kindsOf r) true cap v ov ls,.ro 6 (l.map eEn) e,aA k d,.ro 2 (T.map eHt) te]=some (.int .i64 E)∧FnW C 344 [aF (kindsOf r) true cap v ov ls,aL l e,aA k d,.ro 2 (T.map eHt) te]=some (.int .i64 E) ∧
  w617_K0 C ⟨[(13,.int .i64 (0:Nat)),(12,.int .i64 E),(11,.ptr 0 0 0),(5,.ptr 1 0 0),(4,.ptr 2 0 0)],[(0,.cells 5 [[.ro 9 ((kindsOf r).map eKd) true,.int .i64 cap,.int .i64 v,.int .i64 ov,.int .i64 ls]] true true),(1,.cells 7 [zC v ls ov k d bad T te] true true),(2,.cells 1 [[.ro 6 (l.map eEn) e]] true true)],3⟩=some (.bool true):=by
  intro cap
  have htab:=tab_ok H.toHasTb T te (by omega) ls
  have hrtab:=rtab_ok H.toHasRb T te (by omega) ls
  have hc:=scheck_ok H.toHasRs.toHasSe.toHasSk (kindsOf r) true cap v ov ls hru l e (by omega) he k d hk (T.map eHt) te (tabE ls T).1 (tabE ls T).2 htab
  have hc2:=rscheck_ok H.toHasRs.toHasSe.toHasSk (kindsOf r) true cap v ov ls hru l e (by omega) he k d hk (T.map eHt) te (tabE ls T).1 (tabE ls T).2 (tabE_nn ls T) hrtab
  exact ⟨_,hc2,hc,sc_meas H hlives (kindsOf r) true l e v ls ov k d bad T te cap _ hk8 (fun x hx=>(he x hx).i.t) hl hT (sc_end H hlives (kindsOf r) true l e v ls ov k d bad T te cap _ hru he hk hl hT rfl) l.length 0 (by simp)⟩
 have hv1:=fun cap=>valf_ok H.toHasRs.toHasSe.toHasSk.toHasVf (kindsOf r) true cap v ov ls hru
 have hv2:=fun cap=>rvalf_ok H.toHasRs.toHasSe.toHasSk.toHasVf (kindsOf r) true cap v ov ls hru
 generalize kindsOf r=ks at *
 simp only [aF,aL,aA,w617_K0] at hv1 hv2 key
 cases bad
 · obtain ⟨E,k1,k2,k3⟩:=key 12
   have hv1:=hv1 12
   have hv2:=hv2 12
   generalize valF ks 12 v ov ls=V at *
   rw [ck_unf w617_c1.eq_1]
   try simp at k3
   simp (disch:=omega) [hL,k1,k2,k3,hv1,hv2,wI64,H.toHasRb.inl,inlB,H.toHasRb.pp,ppB]
 · obtain ⟨E,k1,k2,k3⟩:=key 0
   have hv1:=hv1 0
   have hv2:=hv2 0
   generalize valF ks 0 v ov ls=V at *
   rw [ck_unf w617_c1.eq_1]
   try simp at k3
   simp (disch:=omega) [hL,k1,k2,k3,hv1,hv2,wI64,H.toHasRb.inl,inlB,H.toHasRb.pp,ppB]
end Go.D
end
section
namespace Go.D
open Go Go.Pav Go.Pw P
set_option maxHeartbeats 2000000
attribute [-simp] List.getElem_cons_drop
variable {C:WProg}
section
variable (H:HasSl C) (hlives:FnW C 178 []=some (.bool true)) (l:List En) (e:Bool) (v ls ov k d:Int) (bad:Bool) (T:List Ht) (te:Bool) (q:List Q4) (qe:Bool) (z:List Int) (ze:Bool) (r:Int)
include H hlives
theorem sc_marks (hl:l.length≤20) (i:Nat) (h1:i < l.length) (hm:l[i].i.m.length≤10)
 (hnext:w617_K1 C ⟨[(7,.int .i64 ((i+1:Nat):Int)),(5,.ptr 0 0 0),(4,.ptr 1 0 0),(3,.ptr 2 0 0)],[(0,.cells 7 [zC v ls ov k d bad T te] true true),(1,.cells 1 [[.ro 6 (l.map eEn) e]] true true),(2,.cells 3 [[.ro 4 (q.map eQ) qe,.ro 1 (z.map eU8) ze,.int .u8 r]] true true)],3⟩=some (.bool true)) :
 ∀ n j,n+j=l[i].i.m.length→w617_K2 C ⟨[(8,.int .i64 j),(7,.int .i64 i),(5,.ptr 0 0 0),(4,.ptr 1 0 0),(3,.ptr 2 0 0)],[(0,.cells 7 [zC v ls ov k d bad T te] true true),(1,.cells 1 [[.ro 6 (l.map eEn) e]] true true),(2,.cells 3 [[.ro 4 (q.map eQ) qe,.ro 1 (z.map eU8) ze,.int .u8 r]] true true)],3⟩=some (.bool true):=by
 intro n
 induction n with
 | zero =>
  intro j hj
  have h3:¬ j < l[i].i.m.length:=by omega
  simp only [w617_K2,w617_K1] at hnext ⊢;rw [ck_unf w617_B2.eq_1]
  try simp at hnext
  simp (disch:=omega) [ck_unf w617_c2.eq_1,h1,h3,hnext,wI64,H.toHasRb.inl,inlB,H.toHasRb.pp,ppB]
 | succ n ih =>
  intro j hj
  have h3:j < l[i].i.m.length:=by omega
  have this:=ih (j+1) (by omega)
  simp only [w617_K2] at this ⊢;rw [ck_unf w617_B2.eq_1]
  try simp at this
  by_cases c:(20:Int) < (l[i].i.m[j].length:Int)
  · simp (disch:=omega) [h1,h3,c,hlives,wI64,H.toHasRb.inl,inlB,H.toHasRb.pp,ppB]
  · simp (disch:=omega) [h1,h3,c,this,wI64,H.toHasRb.inl,inlB,H.toHasRb.pp,ppB]
theorem sc_rows (hl:l.length≤20)
 (hend:(∀ x ∈ l,x.i.m.length≤10)→CK C 0 (pureFin [.tmp 6]) [] w617_c1 ⟨[(5,.ptr 0 0 0),(4,.ptr 1 0 0),(3,.ptr 2 0 0)],[(0,.cells 7 [zC v ls ov k d bad T te] true true),(1,.cells 1 [[.ro 6 (l.map eEn) e]] true true),(2,.cells 3 [[.ro 4 (q.map eQ) qe,.ro 1 (z.map eU8) ze,.int .u8 r]] true true)],3⟩=some (.bool true)) :
 ∀ n i,n+i=l.length→(∀ x ∈ l.take i,x.i.m.length≤10)→w617_K1 C ⟨[(7,.int .i64 i),(5,.ptr 0 0 0),(4,.ptr 1 0 0),(3,.ptr 2 0 0)],[(0,.cells 7 [zC v ls ov k d bad T te] true true),(1,.cells 1 [[.ro 6 (l.map eEn) e]] true true),(2,.cells 3 [[.ro 4 (q.map eQ) qe,.ro 1 (z.map eU8) ze,.int .u8 r]] true true)],3⟩=some (.bool true):=by
 intro n
 induction n with
 | zero =>
  intro i hi hx
  have h3:¬ i < l.length:=by omega
  have hend:=hend (fun x h=>hx x (by rw [List.take_of_length_le (by omega)];exact h))
  simp only [w617_K1];rw [ck_unf w617_B1.eq_1]
  try simp at hend
  simp (disch:=omega) [h3,hend,wI64,H.toHasRb.inl,inlB,H.toHasRb.pp,ppB]
 | succ n ih =>
  intro i hi hx
  have h1:i < l.length:=by omega
  by_cases c1:(70:Int) < (l[i].i.x.length:Int)
  · simp only [w617_K1];rw [ck_unf w617_B1.eq_1]
    simp (disch:=omega) [h1,c1,hlives,wI64,H.toHasRb.inl,inlB,H.toHasRb.pp,ppB]
  · by_cases c2:(10:Int) < (l[i].i.m.length:Int)
    · simp only [w617_K1];rw [ck_unf w617_B1.eq_1]
      simp (disch:=omega) [h1,c1,c2,hlives,wI64,H.toHasRb.inl,inlB,H.toHasRb.pp,ppB]
    · have hft:l.take (i+1)=l.take i++[l[i]]:=List.take_succ_eq_append_getElem h1
      have this:=ih (i+1) (by omega) (by
       intro x h
       rw [hft] at h
       rcases List.mem_append.1 h with h | h
       · exact hx x h
       · simp only [List.mem_singleton] at h
         subst h;omega)
      have hk2:=sc_marks H hlives l e v ls ov k d bad T te q qe z ze r hl i h1 (by omega) this l[i].i.m.length 0 (by simp)
      simp only [w617_K2] at hk2
      simp only [w617_K1];rw [ck_unf w617_B1.eq_1]
      try simp at hk2
      simp (disch:=omega) [h1,c1,c2,hk2,wI64,H.toHasRb.inl,inlB,H.toHasRb.pp,ppB]
theorem sclaw_ok (hone:∀ q:Q4,QIn q→∃ i:It,FnW C 422 [.agg (eQ q)]=some (eIt i)∧Good i) (hq:∀ x ∈ q,QIn x) (hz:∀ s ∈ z,0≤s∧s≤255) (hzl:z.length < 9223372036854775808) (hr:0≤r∧r≤255)
 (he:∀ x ∈ l,(0≤x.i.k∧x.i.k < 18446744073709551616)∧(0≤x.i.t∧x.i.t≤255)∧(-9223372036854775808≤x.s∧x.s≤9223372036854775807)) (hk:0≤k) :
 FnW C 617 [.agg [.ro 4 (q.map eQ) qe,.ro 1 (z.map eU8) ze,.int .u8 r],aL l e,.agg (zC v ls ov k d bad T te)]=some (.bool true):=by
 have hLo:=lof_ok H.toHasRs.toHasSe.toHasRd.toHasMs.toHasG hone q qe hq z ze hz hzl r hr
 rw [fnW_eq H.f617 rfl]
 by_cases c1:(20:Int) < (l.length:Int)
 · simp (disch:=omega) [w617,aL,c1,hlives,wI64,H.toHasRb.inl,inlB,H.toHasRb.pp,ppB]
 · by_cases c2:(20:Int) < (T.length:Int)
   · simp (disch:=omega) [w617,aL,c1,c2,hlives,wI64,H.toHasRb.inl,inlB,H.toHasRb.pp,ppB]
   · obtain ⟨R,f,hL,_⟩:=hLo
     have hrow:=sc_rows H hlives l e v ls ov k d bad T te q qe z ze r (by omega) (fun hm=>sc_main H hlives l e v ls ov k d bad T te q qe z ze r ⟨R,f,hL⟩
      (fun x hx=>⟨⟨(he x hx).1,(he x hx).2.1,by have:=hm x hx;omega⟩,(he x hx).2.2⟩) hk (by omega) (by omega)) l.length 0 (by simp) (fun x h=>by simp at h)
     simp only [w617_K1] at hrow
     try simp at hrow
     simp (disch:=omega) [w617,aL,c1,c2,hrow,wI64,H.toHasRb.inl,inlB,H.toHasRb.pp,ppB]
end
end Go.D
end
