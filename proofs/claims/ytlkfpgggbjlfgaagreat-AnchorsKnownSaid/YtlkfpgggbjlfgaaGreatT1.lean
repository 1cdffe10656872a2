/- Part of the theory that the claims of this work use: T01, T02, T03, PavDefs, PavComp, PavRel, PavInv, PavSnd1, PavSnd2, PavSnd3, PavSnd4, PavSnd5, PavSnd6, PavSnd7, PavMark, PavSnd8. No conditions of its own. -/
import Derived.RangeFuncNested
import Derived.RangeFuncBound
import Derived.RangeFuncCalls
import Derived.RangeFuncLeaves
import Derived.Shelf.Abstract
import Derived.Shelf.RegionOpen
import Derived.WalkKit
import Derived.OwnWalkIn
import Derived.TacticsInMore
import Derived.LoopNIn
import Derived.LoopIn
import Derived.Test.YtlkfpgggbjlfgaaGreatChecked
import GoSem.Dispatch
import GoSem.Core.Program
import GoSem.Core.Region
import GoSem.Machine.Frame
import Derived.Laws.AppendOwn
import Derived.Laws.Strings
import Derived.Laws.Concat
import Derived.Laws.Cover1
import Derived.Great.BuildSlice
import Derived.Laws.StructEq
import Derived.Laws.Unary
import Derived.Laws.BytesString
section
set_option linter.unusedSimpArgs false
set_option linter.unusedVariables false
namespace Go.Proofs
open Go.RowKit Go.Shelf
attribute [local go_sem] Oper.semAt_some
def H28.upto {α:Type} (f:Nat→α) (k:Nat):List α:=(List.range k).map f
theorem H28.upto_succ {α:Type} (f:Nat→α) (k:Nat):H28.upto f (k+1)=H28.upto f k++[f k]:=by simp [H28.upto,List.range_succ]
theorem H28.upto_length {α:Type} (f:Nat→α) (k:Nat):(H28.upto f k).length=k:=by simp [H28.upto]
theorem H28.Ou {α:Type} (f:Nat→α) {k m:Nat} (h:k≤m):H28.upto f k <+: H28.upto f m:=by
 obtain ⟨d,rfl⟩:=Nat.exists_eq_add_of_le h
 exact ⟨(List.range d).map fun j=>f (k+j),by simp [H28.upto,List.range_add,Function.comp_def]⟩
theorem H28.ap8 {α:Type} (f g:Nat→α) {k m:Nat} {x:α} (r:Nat) (h:k < m) (hx:x=f k):H28.upto f k++[x] <+: H28.upto f m++H28.upto g r:=by
 rw [hx,← H28.upto_succ];exact (H28.Ou f h).trans (List.prefix_append _ _)
theorem H28.pre2 {α:Type} (A:List α) (g:Nat→α) {k m:Nat} {x:α} (h:k < m) (hx:x=g k):(A++H28.upto g k)++[x] <+: A++H28.upto g m:=by
 rw [hx,List.append_assoc,← H28.upto_succ];exact (List.prefix_append_right_inj A).2 (H28.Ou g h)
set_option maxRecDepth 100000 in
set_option maxHeartbeats 4000000 in
theorem Xn (F:Fence) (n:Nat) (h219:F.fn 219) (hro:F.round=none) (hn:1≤n) (l B1 B2 n₀ b off len cap p:Nat) (cv:Nat→Nat→Value) (ks:Nat→Int) (hk:∀ i,cv i 0=.int .u64 (ks i)) (ho:∀ i j,i < len→j < 6→(cv i j).oneCell'=true) (hreach:len≤1000000) (hp:p < len) (hcap:len≤cap) (hb:b < n₀) (hB1n:B1 < n₀) (hB2n:B2 < n₀) (J Jx:List Int→World→Prop)
 (hY:∀ pre x W,J pre W→pre.length < len→YieldAt F (n - 1) Tryz.prog l #[.int .u64 x] W fun e W' =>
  (e=.returned (.bool true)∧J (pre++[x]) W'∧Below n₀ W W')∨(e=.returned (.bool false)∧Jx (pre++[x]) W'))
 (W:World) (hn₀:n₀≤W.heap.size) (hJ:AbidesFrom W.heap.size J) (hB1:W.cell? ⟨B1,0,none⟩=some (.slice (some ⟨b,off,none⟩) len cap)) (hB2:W.cell? ⟨B2,0,none⟩=some (.int .i64 p)) (hc:∀ i j,i < len→j < 6→W.cell? ⟨b,off+i * 6+j,none⟩=some (cv i j)) (h0:J [] W) :
 CallsIn F n Tryz.prog 219 #[.func (.yield l) #[] #[],.pointer (some ⟨B1,0,none⟩),.pointer (some ⟨B2,0,none⟩)] W fun e W'=>(∃ v,e=.returned v) ∧
  ((∃ ys,ys=H28.upto (fun j=>ks (p+1+j)) (len - (p+1))++H28.upto (fun j=>ks (p - 1 - j)) p∧J ys W')∨(∃ pre,pre <+: H28.upto (fun j=>ks (p+1+j)) (len - (p+1))++H28.upto (fun j=>ks (p - 1 - j)) p∧Jx pre W')):=by
 refine callsIn_of_wp Tryz.func219 rfl h219 ?_ hro
 simp only [Tryz.ntmps219,List.size_toArray,List.length_cons,List.length_nil,Nat.reduceAdd,Nat.reduceSub,Array.replicate_succ,Array.replicate_zero,List.push_toArray,List.append_toArray,List.nil_append,List.cons_append]
 gi_wp2
 · have hl:len=p+1:=by omega
   have hz:len - (p+1)=0:=by omega
   simp only [hz,Int.cast_ofNat_Int]
   clear hl
   gi_loopw [13] (fun i wr=>i=.int .i64 0∧J [] wr∧Below n₀ W wr)
    (fun i _=>0)
   case atStart=>exact ⟨rfl,h0,Below.refl _ _⟩
   case round =>
    obtain ⟨rfl,hJs,hnx⟩:=hrel
    have f1:=(hnx.cell (p:=⟨B1,0,none⟩) hB1n).trans hB1
    have f2:=(hnx.cell (p:=⟨B2,0,none⟩) hB2n).trans hB2
    gi_wp2
    gi_loopw [6] (fun i wr=>∃ q:Nat,q≤p∧i=.int .i64 ((q:Int) - 1)∧J (H28.upto (fun j=>ks (p+1+j)) (len - (p+1))++H28.upto (fun j=>ks (p - 1 - j)) (p - q)) wr∧Below n₀ W wr)
     (fun i _=>(intOf i+1).toNat)
    case atStart=>exact ⟨p,Nat.le_refl _,rfl,by simpa [H28.upto,hz] using hJs,hnx⟩
    case round =>
     obtain ⟨q,hq,rfl,hJ2,hn2⟩:=hrel
     have f1:=(hn2.cell (p:=⟨B1,0,none⟩) hB1n).trans hB1
     cases q with
     | zero =>
      gi_wp2
      go_end0
      exact ⟨⟨_,rfl⟩,.inl ⟨_,rfl,hJ2⟩⟩
     | succ r =>
      rw [show ((r+1:Nat):Int) - 1=(r:Int) by omega]
      have e0:=(hn2.cell (p:=⟨b,off+r * 6,none⟩) hb).trans (hc r 0 (by omega) (by omega))
      rw [hk] at e0
      obtain ⟨fn,tmps,assign,body,hy,hR⟩:=hY _ (ks r) _ hJ2 (by simp [H28.upto_length];omega)
      gi_wp2
      refine hR.mono ?_
      rintro e W3 (⟨rfl,hJ3,hk3⟩ | ⟨rfl,hJx3⟩)
      · gi_wp2
        go_roundw
        case rel=>exact ⟨r,by omega,rfl,by rw [show p - r=p - (r+1)+1 by omega,H28.upto_succ,← List.append_assoc,show p - 1 - (p - (r+1))=r by omega];exact hJ3,hn2.trans hk3⟩
        case measure=>simp [intOf]
      · gi_wp2
        refine bodyPost_ret (results_none rfl _ _ _) rfl ?_
        exact ⟨⟨_,rfl⟩,.inr ⟨_,H28.pre2 _ _ (by omega) (by congr 1;omega),hJx3⟩⟩
 · gi_loopw [13] (fun i wr=>∃ k:Nat,k≤len - (p+1)∧i=.int .i64 k∧J (H28.upto (fun j=>ks (p+1+j)) k) wr∧Below n₀ W wr)
    (fun i _=>len - (intOf i).toNat)
   case atStart=>exact ⟨0,Nat.zero_le _,rfl,h0,Below.refl _ _⟩
   case round =>
    obtain ⟨k,hkl,rfl,hJs,hnx⟩:=hrel
    have f1:=(hnx.cell (p:=⟨B1,0,none⟩) hB1n).trans hB1
    have f2:=(hnx.cell (p:=⟨B2,0,none⟩) hB2n).trans hB2
    by_cases hlt:k < len - (p+1)
    · have e0:=(hnx.cell (p:=⟨b,off+(p+1) * 6+k * 6,none⟩) hb).trans ((show off+(p+1) * 6+k * 6=off+(p+1+k) * 6+0 by omega) ▸ hc (p+1+k) 0 (by omega) (by omega))
      have e1:=(hnx.cell (p:=⟨b,off+(p+1) * 6+k * 6+1,none⟩) hb).trans ((show off+(p+1) * 6+k * 6+1=off+(p+1+k) * 6+1 by omega) ▸ hc (p+1+k) 1 (by omega) (by omega))
      have e2:=(hnx.cell (p:=⟨b,off+(p+1) * 6+k * 6+2,none⟩) hb).trans ((show off+(p+1) * 6+k * 6+2=off+(p+1+k) * 6+2 by omega) ▸ hc (p+1+k) 2 (by omega) (by omega))
      have e3:=(hnx.cell (p:=⟨b,off+(p+1) * 6+k * 6+3,none⟩) hb).trans ((show off+(p+1) * 6+k * 6+3=off+(p+1+k) * 6+3 by omega) ▸ hc (p+1+k) 3 (by omega) (by omega))
      have e4:=(hnx.cell (p:=⟨b,off+(p+1) * 6+k * 6+4,none⟩) hb).trans ((show off+(p+1) * 6+k * 6+4=off+(p+1+k) * 6+4 by omega) ▸ hc (p+1+k) 4 (by omega) (by omega))
      have e5:=(hnx.cell (p:=⟨b,off+(p+1) * 6+k * 6+5,none⟩) hb).trans ((show off+(p+1) * 6+k * 6+5=off+(p+1+k) * 6+5 by omega) ▸ hc (p+1+k) 5 (by omega) (by omega))
      rw [hk] at e0
      have s1:=fun w a m=>run_store Tryz.prog w a (cv (p+1+k) 1) m (ho _ _ (by omega) (by omega))
      have s2:=fun w a m=>run_store Tryz.prog w a (cv (p+1+k) 2) m (ho _ _ (by omega) (by omega))
      have s3:=fun w a m=>run_store Tryz.prog w a (cv (p+1+k) 3) m (ho _ _ (by omega) (by omega))
      have s4:=fun w a m=>run_store Tryz.prog w a (cv (p+1+k) 4) m (ho _ _ (by omega) (by omega))
      have s5:=fun w a m=>run_store Tryz.prog w a (cv (p+1+k) 5) m (ho _ _ (by omega) (by omega))
      have hsz:=hnx.size
      obtain ⟨fn,tmps,assign,body,hy,hR⟩:=hY _ (ks (p+1+k)) _ (hJ _ wr (wr.alloc (.cells #[.int .u64 (ks (p+1+k)),cv (p+1+k) 1,cv (p+1+k) 2,cv (p+1+k) 3,cv (p+1+k) 4,cv (p+1+k) 5] 106)) none hJs (World.grownBy_alloc wr _ none) (fun r e=>by cases e)) (by rw [H28.upto_length];omega)
      gi_wp2
      refine hR.mono ?_
      rintro e W3 (⟨rfl,hJ3,hk3⟩ | ⟨rfl,hJx3⟩)
      · gi_wp2
        go_roundw
        case rel=>exact ⟨k+1,by omega,by simp,by rw [H28.upto_succ];exact hJ3,(hnx.alloc (Nat.le_trans hn₀ hsz) _).trans hk3⟩
        case measure=>simp [intOf];omega
      · gi_wp2
        refine bodyPost_ret (results_none rfl _ _ _) rfl ?_
        exact ⟨⟨_,rfl⟩,.inr ⟨_,H28.ap8 _ _ _ hlt rfl,hJx3⟩⟩
    · obtain rfl:k=len - (p+1):=by omega
      gi_wp2
      gi_loopw [6] (fun i wr=>∃ q:Nat,q≤p∧i=.int .i64 ((q:Int) - 1)∧J (H28.upto (fun j=>ks (p+1+j)) (len - (p+1))++H28.upto (fun j=>ks (p - 1 - j)) (p - q)) wr∧Below n₀ W wr)
       (fun i _=>(intOf i+1).toNat)
      case atStart=>exact ⟨p,Nat.le_refl _,rfl,by simpa [H28.upto] using hJs,hnx⟩
      case round =>
       obtain ⟨q,hq,rfl,hJ2,hn2⟩:=hrel
       have f1:=(hn2.cell (p:=⟨B1,0,none⟩) hB1n).trans hB1
       cases q with
       | zero =>
        gi_wp2
        go_end0
        exact ⟨⟨_,rfl⟩,.inl ⟨_,rfl,hJ2⟩⟩
       | succ r =>
        rw [show ((r+1:Nat):Int) - 1=(r:Int) by omega]
        have e0:=(hn2.cell (p:=⟨b,off+r * 6,none⟩) hb).trans (hc r 0 (by omega) (by omega))
        rw [hk] at e0
        obtain ⟨fn,tmps,assign,body,hy,hR⟩:=hY _ (ks r) _ hJ2 (by simp [H28.upto_length];omega)
        gi_wp2
        refine hR.mono ?_
        rintro e W3 (⟨rfl,hJ3,hk3⟩ | ⟨rfl,hJx3⟩)
        · gi_wp2
          go_roundw
          case rel=>exact ⟨r,by omega,rfl,by rw [show p - r=p - (r+1)+1 by omega,H28.upto_succ,← List.append_assoc,show p - 1 - (p - (r+1))=r by omega];exact hJ3,hn2.trans hk3⟩
          case measure=>simp [intOf]
        · gi_wp2
          refine bodyPost_ret (results_none rfl _ _ _) rfl ?_
          exact ⟨⟨_,rfl⟩,.inr ⟨_,H28.pre2 _ _ (by omega) (by congr 1;omega),hJx3⟩⟩
end Go.Proofs
end
section
set_option linter.unusedSimpArgs false
set_option linter.unusedVariables false
namespace Go.Proofs
open Go.RowKit Go.Shelf
attribute [local go_sem] Oper.semAt_some
def H28.fnd (ks:Nat→Int) (k:Int):Nat→Nat→Int
 | 0,_=>-1
 | r+1,i=>if ks i=k then (i:Int) else H28.fnd ks k r (i+1)
set_option maxRecDepth 100000 in
set_option maxHeartbeats 4000000 in
theorem YA (F:Fence) (n:Nat) (h218:F.fn 218) (hro:F.round=none) (B:Nat) (a k:Int) (v1 v2 v3 v4 v5:Value) (o1:v1.oneCell'=true) (o2:v2.oneCell'=true) (o3:v3.oneCell'=true) (o4:v4.oneCell'=true) (o5:v5.oneCell'=true) (W:World) (hB:W.cell? ⟨B,0,none⟩=some (.int .u64 k)) :
 CallsIn F n Tryz.prog 218 #[.agg #[.int .u64 a,v1,v2,v3,v4,v5],.pointer (some ⟨B,0,none⟩)] W fun e W'=>e=.returned (.bool (decide (a=k)))∧KeepsOthers W W'∧Below W.heap.size W W':=by
 refine callsIn_of_wp Tryz.func218 rfl h218 ?_ hro
 simp only [Tryz.ntmps218,List.size_toArray,List.length_cons,List.length_nil,Nat.reduceAdd,Nat.reduceSub,Array.replicate_succ,Array.replicate_zero,List.push_toArray,List.append_toArray,List.nil_append,List.cons_append]
 have hB':∀ o,(W.alloc o).cell? ⟨B,0,none⟩=some (.int .u64 k):=fun o=>cell_kept hB (World.grownBy_alloc W o none) (fun r e=>by cases e)
 have s1:=fun w a m=>run_store Tryz.prog w a v1 m o1
 have s2:=fun w a m=>run_store Tryz.prog w a v2 m o2
 have s3:=fun w a m=>run_store Tryz.prog w a v3 m o3
 have s4:=fun w a m=>run_store Tryz.prog w a v4 m o4
 have s5:=fun w a m=>run_store Tryz.prog w a v5 m o5
 gi_wp2
 refine bodyPost_ret (results_tmp rfl _ _ _) rfl ?_
 exact ⟨by by_cases h:a=k <;> simp [h],KeepsOthers.alloc _ _,(Below.refl _ W).alloc (Nat.le_refl _) _⟩
set_option maxRecDepth 100000 in
set_option maxHeartbeats 4000000 in
theorem ZJ (F:Fence) (n:Nat) (h107:F.fn 107) (hro:F.round=none) (a:Option Addr) (len cap:Nat) (p:Int) (w:World) :
 CallsIn F n Tryz.prog 107 #[.agg #[.slice a len cap],.int .i64 p] w fun e w'=>e=.returned (.func (.func 219) #[] #[.pointer (some ⟨w.heap.size,0,none⟩),.pointer (some ⟨w.heap.size+1,0,none⟩)])∧w'=(w.alloc (.cells #[.slice a len cap] 36)).alloc (.cells #[.int .i64 p] 3):=by
 refine callsIn_of_wp Tryz.func107 rfl h107 ?_ hro
 simp only [Tryz.ntmps107,List.size_toArray,List.length_cons,List.length_nil,Nat.reduceAdd,Nat.reduceSub,Array.replicate_succ,Array.replicate_zero,List.push_toArray,List.append_toArray,List.nil_append,List.cons_append]
 gi_wp2
 go_ret
 exact ⟨rfl,rfl⟩
set_option maxRecDepth 100000 in
set_option maxHeartbeats 4000000 in
theorem aaw (F:Fence) (n:Nat) (h217:F.fn 217) (h218:F.fn 218) (hro:F.round=none) (hn:1≤n) (B b off len cap:Nat) (sa:Option Addr) (hsa:len=0∨sa=some ⟨b,off,none⟩) (k:Int) (cv:Nat→Nat→Value) (ks:Nat→Int) (hk:∀ i,cv i 0=.int .u64 (ks i)) (ho:∀ i j,i < len→j < 6→(cv i j).oneCell'=true) (hreach:len≤1000000) (W:World) (hBn:B < W.heap.size) (hb:b < W.heap.size) (hB:W.cell? ⟨B,0,none⟩=some (.int .u64 k)) (hc:∀ i j,i < len→j < 6→W.cell? ⟨b,off+i * 6+j,none⟩=some (cv i j)) :
 CallsIn F n Tryz.prog 217 #[.slice sa len cap,.func (.func 218) #[] #[.pointer (some ⟨B,0,none⟩)]] W fun e W'=>e=.returned (.int .i64 (H28.fnd ks k len 0))∧KeepsOthers W W'∧Below W.heap.size W W':=by
 refine callsIn_of_wp Tryz.func217 rfl h217 ?_ hro
 simp only [Tryz.ntmps217,List.size_toArray,List.length_cons,List.length_nil,Nat.reduceAdd,Nat.reduceSub,Array.replicate_succ,Array.replicate_zero,List.push_toArray,List.append_toArray,List.nil_append,List.cons_append]
 gi_wp2
 gi_loopw [8] (fun v wr=>∃ i:Nat,i≤len∧v=.int .i64 i∧KeepsOthers W wr∧Below W.heap.size W wr∧H28.fnd ks k len 0=H28.fnd ks k (len - i) i)
  (fun v _=>len - (intOf v).toNat)
 case atStart=>exact ⟨0,Nat.zero_le _,rfl,KeepsOthers.refl _,Below.refl _ _,rfl⟩
 case round =>
  obtain ⟨i,hi,rfl,hK,hnx,hf⟩:=hrel
  have f1:=(hnx.cell (p:=⟨B,0,none⟩) hBn).trans hB
  by_cases hlt:i < len
  · obtain rfl:sa=some ⟨b,off,none⟩:=by rcases hsa with h | h;exact absurd h (by omega);exact h
    have e0:=(hnx.cell (p:=⟨b,off+i * 6,none⟩) hb).trans (hc i 0 hlt (by omega))
    have e1:=(hnx.cell (p:=⟨b,off+i * 6+1,none⟩) hb).trans (hc i 1 hlt (by omega))
    have e2:=(hnx.cell (p:=⟨b,off+i * 6+2,none⟩) hb).trans (hc i 2 hlt (by omega))
    have e3:=(hnx.cell (p:=⟨b,off+i * 6+3,none⟩) hb).trans (hc i 3 hlt (by omega))
    have e4:=(hnx.cell (p:=⟨b,off+i * 6+4,none⟩) hb).trans (hc i 4 hlt (by omega))
    have e5:=(hnx.cell (p:=⟨b,off+i * 6+5,none⟩) hb).trans (hc i 5 hlt (by omega))
    rw [hk] at e0
    obtain ⟨d,hd⟩:∃ d,len - i=d+1:=⟨len - i - 1,by omega⟩
    have hcall:=YA F (n - 1) h218 hro B (ks i) k (cv i 1) (cv i 2) (cv i 3) (cv i 4) (cv i 5) (ho _ _ hlt (by omega)) (ho _ _ hlt (by omega)) (ho _ _ hlt (by omega)) (ho _ _ hlt (by omega)) (ho _ _ hlt (by omega)) wr f1
    by_cases hx:ks i=k
    · rw [hx] at hcall e0
      gi_wp2_with (gi_at_call 218;refine hcall.mono ?_;rintro e W3 ⟨rfl,hk3,hb3⟩;rw [decide_eq_true rfl])
      refine bodyPost_ret (results_tmp rfl _ _ _) rfl ?_
      exact ⟨by rw [hf,hd];simp [H28.fnd,hx],hK.trans hk3,hnx.trans (hb3.mono hnx.size)⟩
    · gi_wp2_with (gi_at_call 218;refine hcall.mono ?_;rintro e W3 ⟨rfl,hk3,hb3⟩;rw [decide_eq_false hx])
      exact ⟨⟨i+1,by omega,by simp,hK.trans hk3,hnx.trans (hb3.mono hnx.size),by rw [hf,hd,show len - (i+1)=d by omega];simp [H28.fnd,hx]⟩,by simp [intOf];omega⟩
  · obtain rfl:i=len:=by omega
    gi_wp2
    refine bodyPost_ret (results_tmp rfl _ _ _) rfl ?_
    exact ⟨by rw [hf,Nat.sub_self];rfl,hK,hnx⟩
theorem H28.Ci (ks:Nat→Int) (k:Int):∀ r i,H28.fnd ks k r i=-1∨∃ q:Nat,i≤q∧q < i+r∧H28.fnd ks k r i=q∧ks q=k
 | 0,_=>.inl rfl
 | r+1,i=>by
  unfold H28.fnd
  by_cases h:ks i=k
  · exact .inr ⟨i,Nat.le_refl _,by omega,by simp [h],h⟩
  · rcases H28.Ci ks k r (i+1) with h1 | ⟨q,h1,h2,h3,h4⟩
    · exact .inl (by simp [h,h1])
    · exact .inr ⟨q,by omega,by omega,by simp [h,h3],h4⟩
set_option maxRecDepth 100000 in
set_option maxHeartbeats 4000000 in
theorem N9 (F:Fence) (n:Nat) (h106:F.fn 106) (h217:F.fn 217) (h218:F.fn 218) (hro:F.round=none) (hn:2≤n) (b off len cap:Nat) (sa:Option Addr) (hsa:len=0∨sa=some ⟨b,off,none⟩) (k:Int) (cv:Nat→Nat→Value) (ks:Nat→Int) (hk:∀ i,cv i 0=.int .u64 (ks i)) (ho:∀ i j,i < len→j < 6→(cv i j).oneCell'=true) (hreach:len≤1000000) (W:World) (hb:b < W.heap.size) (hc:∀ i j,i < len→j < 6→W.cell? ⟨b,off+i * 6+j,none⟩=some (cv i j)) :
 CallsIn F n Tryz.prog 106 #[.agg #[.slice sa len cap],.int .u64 k] W fun e W'=>e=.returned (.tuple #[.int .i64 (if H28.fnd ks k len 0 < 0 then 0 else H28.fnd ks k len 0),.bool (decide (0≤H28.fnd ks k len 0))])∧KeepsOthers W W'∧Below W.heap.size W W':=by
 refine callsIn_of_wp Tryz.func106 rfl h106 ?_ hro
 simp only [Tryz.ntmps106,List.size_toArray,List.length_cons,List.length_nil,Nat.reduceAdd,Nat.reduceSub,Array.replicate_succ,Array.replicate_zero,List.push_toArray,List.append_toArray,List.nil_append,List.cons_append]
 have h1:1≤n:=by omega
 obtain ⟨W2,hW2⟩:∃ W2,(W.alloc (.cells #[.slice sa len cap] 36)).alloc (.cells #[.int .u64 k] 61)=W2:=⟨_,rfl⟩
 have hs2:W2.heap.size=W.heap.size+1+1:=by rw [← hW2];simp
 have hB2:Below W.heap.size W W2:=by rw [← hW2];exact ((Below.refl _ W).alloc (Nat.le_refl _) _).alloc (by simp) _
 have hK2:KeepsOthers W W2:=by rw [← hW2];exact (KeepsOthers.alloc _ _).trans (KeepsOthers.alloc _ _)
 have hbk:W2.cell? ⟨W.heap.size+1,0,none⟩=some (.int .u64 k):=by rw [← hW2];simp [go_sem]
 have hbl:W2.cell? ⟨W.heap.size,0,none⟩=some (.slice sa len cap):=by rw [← hW2];simp [go_sem]
 have hcall:=aaw F (n - 1) h217 h218 hro (by omega) (W.heap.size+1) b off len cap sa hsa k cv ks hk ho hreach W2 (by omega) (by omega) hbk (fun i j hi hj=>(hB2.cell (p:=⟨b,off+i * 6+j,none⟩) hb).trans (hc i j hi hj))
 rcases H28.Ci ks k len 0 with hf | ⟨q,_,hq,hf,_⟩
 · rw [hf] at hcall ⊢
   gi_wp2_with (gi_at_call 217;refine hcall.mono ?_;rintro e W3 ⟨rfl,hk3,hb3⟩)
   refine bodyPost_ret (by simp [results,Tryz.f106,go_sem];rfl) rfl ?_
   exact ⟨rfl,hK2.trans hk3,hB2.trans (hb3.mono (by omega))⟩
 · rw [hf] at hcall ⊢
   gi_wp2_with (gi_at_call 217;refine hcall.mono ?_;rintro e W3 ⟨rfl,hk3,hb3⟩)
   refine bodyPost_ret (by simp [results,Tryz.f106,go_sem];rfl) rfl ?_
   exact ⟨rfl,hK2.trans hk3,hB2.trans (hb3.mono (by omega))⟩
end Go.Proofs
end
section
set_option linter.unusedSimpArgs false
set_option linter.unusedVariables false
namespace Go.Proofs
open Go.RowKit Go.Shelf
attribute [local go_sem] Oper.semAt_some
def H28.Oy (ks:Nat→Int) (len p:Nat):List Int:=H28.upto (fun j=>ks (p+1+j)) (len - (p+1))++H28.upto (fun j=>ks (p - 1 - j)) p
def H28.first (ks:Nat→Int) (len:Nat):Int:=if len=0 then 0 else ks 0
def H28.has (ks:Nat→Int) (len:Nat) (x:Int):Bool:=decide (0≤H28.fnd ks x len 0)
def H28.aft (ks:Nat→Int) (len:Nat) (ks':Nat→Int) (len':Nat) (k d:Int):Int × Int :=
 if k=0 then (H28.first ks' len',0) else if H28.has ks' len' k=true then (k,d) else if H28.fnd ks k len 0 < 0 then (H28.first ks' len',0)
 else match (H28.Oy ks len (H28.fnd ks k len 0).toNat).find? (H28.has ks' len') with
  | some x=>(x,0)
  | none=>(H28.first ks' len',0)
theorem Px (F:Fence) (n:Nat) (h219:F.fn 219) (hro:F.round=none) (hn:1≤n) (B1 B2 n₀ b off len cap p:Nat) (cv:Nat→Nat→Value) (ks:Nat→Int) (hk:∀ i,cv i 0=.int .u64 (ks i)) (ho:∀ i j,i < len→j < 6→(cv i j).oneCell'=true) (hreach:len≤1000000) (hp:p < len) (hcap:len≤cap) (hb:b < n₀) (hB1n:B1 < n₀) (hB2n:B2 < n₀)
 (w:World) (hn₀:n₀≤w.heap.size) (hB1:w.cell? ⟨B1,0,none⟩=some (.slice (some ⟨b,off,none⟩) len cap)) (hB2:w.cell? ⟨B2,0,none⟩=some (.int .i64 p)) (hc:∀ i j,i < len→j < 6→w.cell? ⟨b,off+i * 6+j,none⟩=some (cv i j)) :
 SeqStopsK F n Tryz.prog 219 #[.pointer (some ⟨B1,0,none⟩),.pointer (some ⟨B2,0,none⟩)] (fun x:Int=>#[Value.int .u64 x]) (Below n₀) (fun ys=>ys=H28.Oy ks len p) (fun pre=>pre <+: H28.Oy ks len p) len w:=fun l J Jx W hW hJ _ hY h0 =>
 Xn F n h219 hro hn l B1 B2 n₀ b off len cap p cv ks hk ho hreach hp hcap hb hB1n hB2n J Jx hY W (Nat.le_trans hn₀ hW.size) hJ ((hW.cell (p:=⟨B1,0,none⟩) (Nat.lt_of_lt_of_le hB1n hn₀)).trans hB1) ((hW.cell (p:=⟨B2,0,none⟩) (Nat.lt_of_lt_of_le hB2n hn₀)).trans hB2) (fun i j hi hj=>(hW.cell (p:=⟨b,off+i * 6+j,none⟩) (Nat.lt_of_lt_of_le hb hn₀)).trans (hc i j hi hj)) h0
set_option maxRecDepth 100000 in
set_option maxHeartbeats 4000000 in
theorem aaz (F:Fence) (n:Nat) (h39:F.fn 39) (h106:F.fn 106) (h107:F.fn 107) (h217:F.fn 217) (h218:F.fn 218) (h219:F.fn 219) (hro:F.round=none) (hn:5≤n) (k d:Int)
 (b off len cap:Nat) (sa:Option Addr) (hsa:len=0∨sa=some ⟨b,off,none⟩) (cv:Nat→Nat→Value) (ks:Nat→Int) (hk:∀ i,cv i 0=.int .u64 (ks i)) (ho:∀ i j,i < len→j < 6→(cv i j).oneCell'=true) (hreach:len≤1000000) (hcap:len≤cap)
 (b' off' len' cap':Nat) (sa':Option Addr) (hsa':len'=0∨sa'=some ⟨b',off',none⟩) (cv':Nat→Nat→Value) (ks':Nat→Int) (hk':∀ i,cv' i 0=.int .u64 (ks' i)) (ho':∀ i j,i < len'→j < 6→(cv' i j).oneCell'=true) (hreach':len'≤1000000)
 (W:World) (hb:b≤W.heap.size) (hb':b'≤W.heap.size) (hbl:0 < len→b < W.heap.size) (hbl':0 < len'→b' < W.heap.size) (hc:∀ i j,i < len→j < 6→W.cell? ⟨b,off+i * 6+j,none⟩=some (cv i j)) (hc':∀ i j,i < len'→j < 6→W.cell? ⟨b',off'+i * 6+j,none⟩=some (cv' i j)) :
 CallsIn F n Tryz.prog 39 #[.agg #[.slice sa len cap],.agg #[.slice sa' len' cap'],.agg #[.int .u64 k,.int .i64 d]] W fun e W'=>e=.returned (.agg #[.int .u64 (H28.aft ks len ks' len' k d).1,.int .i64 (H28.aft ks len ks' len' k d).2])∧Below W.heap.size W W':=by
 have h1:1≤n:=by omega
 refine callsIn_of_wp_marks Tryz.func39 rfl h39 ?_ hro
 simp only [Tryz.ntmps39,List.size_toArray,List.length_cons,List.length_nil,Nat.reduceAdd,Nat.reduceSub,Array.replicate_succ,Array.replicate_zero,List.push_toArray,List.append_toArray,List.nil_append,List.cons_append]
 obtain ⟨W4,hW4⟩:∃ W4,(((W.alloc (.cells #[.slice sa len cap] 36)).alloc (.cells #[.slice sa' len' cap'] 36)).alloc (.cells #[.int .u64 k,.int .i64 d] 88)).alloc (.cells #[.int .u64 0,.int .i64 0] 88)=W4:=⟨_,rfl⟩
 have hs4:W4.heap.size=W.heap.size+1+1+1+1:=by rw [← hW4];simp
 have hB4:Below W.heap.size W W4:=by rw [← hW4];exact ((((Below.refl _ W).alloc (Nat.le_refl _) _).alloc (by simp) _).alloc (by simp;omega) _).alloc (by simp;omega) _
 have c0:W4.cell? ⟨W.heap.size,0,none⟩=some (.slice sa len cap):=by rw [← hW4];simp [go_sem]
 have c1:W4.cell? ⟨W.heap.size+1,0,none⟩=some (.slice sa' len' cap'):=by rw [← hW4];simp [go_sem]
 have c2:W4.cell? ⟨W.heap.size+1+1,0,none⟩=some (.int .u64 k):=by rw [← hW4];simp [go_sem]
 have c3:W4.cell? ⟨W.heap.size+1+1,1,none⟩=some (.int .i64 d):=by rw [← hW4];simp [go_sem]
 have c4:W4.cell? ⟨W.heap.size+1+1+1,0,none⟩=some (.int .u64 0):=by rw [← hW4];simp [go_sem]
 have c5:W4.cell? ⟨W.heap.size+1+1+1,1,none⟩=some (.int .i64 0):=by rw [← hW4];simp [go_sem]
 have r0:W4.frozen? ⟨W.heap.size+1+1+1,0,none⟩=false:=by rw [← hW4];simp [go_sem]
 have r1:W4.frozen? ⟨W.heap.size+1+1+1,1,none⟩=false:=by rw [← hW4];simp [go_sem]
 by_cases hk0:k=0
 · subst hk0
   by_cases hl':len'=0
   · subst hl'
     have hA:H28.aft ks len ks' 0 0 d=(0,0):=by simp [H28.aft,H28.first]
     gi_wp2
     refine ⟨.agg #[.int .u64 0,.int .i64 0],?_,by first | rfl | rw [hA],?_⟩
     · simp [results,Tryz.f39,go_sem,c4,c5]
     · exact (hB4.setCell (p:=⟨W.heap.size+1+1+1,0,none⟩) (by simp;omega) _).setCell (p:=⟨W.heap.size+1+1+1,1,none⟩) (by simp;omega) _
   · obtain rfl:sa'=some ⟨b',off',none⟩:=by rcases hsa' with h | h;exact absurd h hl';exact h
     have hA:H28.aft ks len ks' len' 0 d=(ks' 0,0):=by simp [H28.aft,H28.first,hl']
     have z0:=(hB4.cell (p:=⟨b',off',none⟩) (hbl' (by omega))).trans ((show off'=off'+0 * 6+0 by omega) ▸ hc' 0 0 (by omega) (by omega))
     rw [hk'] at z0
     gi_wp2
     refine ⟨.agg #[.int .u64 (ks' 0),.int .i64 0],?_,by first | rfl | rw [hA],?_⟩
     · simp [results,Tryz.f39,go_sem,c4,c5]
     · exact (hB4.setCell (p:=⟨W.heap.size+1+1+1,0,none⟩) (by simp;omega) _).setCell (p:=⟨W.heap.size+1+1+1,1,none⟩) (by simp;omega) _
 · gi_wp2
   refine (N9 F (n - 1) h106 h217 h218 hro (by omega) b' off' len' cap' sa' hsa' k cv' ks' hk' ho' hreach' W4 (by omega) (fun i j hi hj=>(hB4.cell (p:=⟨b',off'+i * 6+j,none⟩) (hbl' (by omega))).trans (hc' i j hi hj))).mono ?_
   rintro e W5 ⟨rfl,hk5,hb5⟩
   have g0:=(hb5.cell (p:=⟨W.heap.size,0,none⟩) (by simp;omega)).trans c0
   have g1:=(hb5.cell (p:=⟨W.heap.size+1,0,none⟩) (by simp;omega)).trans c1
   have g2:=(hb5.cell (p:=⟨W.heap.size+1+1,0,none⟩) (by simp;omega)).trans c2
   have g3:=(hb5.cell (p:=⟨W.heap.size+1+1,1,none⟩) (by simp;omega)).trans c3
   have g4:=(hb5.cell (p:=⟨W.heap.size+1+1+1,0,none⟩) (by simp;omega)).trans c4
   have g5:=(hb5.cell (p:=⟨W.heap.size+1+1+1,1,none⟩) (by simp;omega)).trans c5
   have q0:=(hb5.frozen (p:=⟨W.heap.size+1+1+1,0,none⟩) (by simp;omega)).trans r0
   have q1:=(hb5.frozen (p:=⟨W.heap.size+1+1+1,1,none⟩) (by simp;omega)).trans r1
   have hB5:=hB4.trans (hb5.mono (B':=W.heap.size) (by omega))
   rcases H28.Ci ks' k len' 0 with hf | ⟨q,_,hq,hf,hkq⟩
   · rw [hf]
     gi_wp2
     refine (N9 F (n - 1) h106 h217 h218 hro (by omega) b off len cap sa hsa k cv ks hk ho hreach W5 (by have:=hb5.size;omega) (fun i j hi hj=>(hB5.cell (p:=⟨b,off+i * 6+j,none⟩) (hbl (by omega))).trans (hc i j hi hj))).mono ?_
     rintro e W6 ⟨rfl,hk6,hb6⟩
     have hs5:=hb5.size
     have i0:=(hb6.cell (p:=⟨W.heap.size,0,none⟩) (by simp;omega)).trans g0
     have i1:=(hb6.cell (p:=⟨W.heap.size+1,0,none⟩) (by simp;omega)).trans g1
     have i2:=(hb6.cell (p:=⟨W.heap.size+1+1,0,none⟩) (by simp;omega)).trans g2
     have i3:=(hb6.cell (p:=⟨W.heap.size+1+1,1,none⟩) (by simp;omega)).trans g3
     have i4:=(hb6.cell (p:=⟨W.heap.size+1+1+1,0,none⟩) (by simp;omega)).trans g4
     have i5:=(hb6.cell (p:=⟨W.heap.size+1+1+1,1,none⟩) (by simp;omega)).trans g5
     have t0:=(hb6.frozen (p:=⟨W.heap.size+1+1+1,0,none⟩) (by simp;omega)).trans q0
     have t1:=(hb6.frozen (p:=⟨W.heap.size+1+1+1,1,none⟩) (by simp;omega)).trans q1
     have hB6:=hB5.trans (hb6.mono (B':=W.heap.size) (by omega))
     rcases H28.Ci ks k len 0 with hf2 | ⟨p,_,hp,hf2,hkp⟩
     · rw [hf2]
       by_cases hl':len'=0
       · have hA:H28.aft ks len ks' len' k d=(0,0):=by unfold H28.aft H28.has H28.first;rw [if_neg hk0,hf,hf2];simp [hl']
         gi_wp2
         refine ⟨.agg #[.int .u64 0,.int .i64 0],?_,by first | rfl | rw [hA],?_⟩
         · simp [results,Tryz.f39,go_sem,i4,i5]
         · exact (hB6.setCell (p:=⟨W.heap.size+1+1+1,0,none⟩) (by simp;omega) _).setCell (p:=⟨W.heap.size+1+1+1,1,none⟩) (by simp;omega) _
       · obtain rfl:sa'=some ⟨b',off',none⟩:=by rcases hsa' with h | h;exact absurd h hl';exact h
         have hA:H28.aft ks len ks' len' k d=(ks' 0,0):=by unfold H28.aft H28.has H28.first;rw [if_neg hk0,hf,hf2];simp [hl']
         have z0:=(hB6.cell (p:=⟨b',off',none⟩) (hbl' (by omega))).trans ((show off'=off'+0 * 6+0 by omega) ▸ hc' 0 0 (by omega) (by omega))
         rw [hk'] at z0
         gi_wp2
         refine ⟨.agg #[.int .u64 (ks' 0),.int .i64 0],?_,by first | rfl | rw [hA],?_⟩
         · simp [results,Tryz.f39,go_sem,i4,i5]
         · exact (hB6.setCell (p:=⟨W.heap.size+1+1+1,0,none⟩) (by simp;omega) _).setCell (p:=⟨W.heap.size+1+1+1,1,none⟩) (by simp;omega) _
     · rw [hf2]
       obtain rfl:sa=some ⟨b,off,none⟩:=by rcases hsa with h | h;exact absurd h (by omega);exact h
       gi_wp2
       refine (ZJ F (n - 1) h107 hro (some ⟨b,off,none⟩) len cap p W6).mono ?_
       rintro e W8 ⟨rfl,hW8⟩
       have hs6:=hb6.size
       have hs8:W8.heap.size=W6.heap.size+1+1:=by rw [hW8];simp
       have hb8:Below W6.heap.size W6 W8:=by rw [hW8];exact ((Below.refl _ W6).alloc (Nat.le_refl _) _).alloc (by simp) _
       have hB8:=hB6.trans (hb8.mono (B':=W.heap.size) (by omega))
       have j1:=(hb8.cell (p:=⟨W.heap.size+1,0,none⟩) (by simp;omega)).trans i1
       have j4:=(hb8.cell (p:=⟨W.heap.size+1+1+1,0,none⟩) (by simp;omega)).trans i4
       have j5:=(hb8.cell (p:=⟨W.heap.size+1+1+1,1,none⟩) (by simp;omega)).trans i5
       have u0:=(hb8.frozen (p:=⟨W.heap.size+1+1+1,0,none⟩) (by simp;omega)).trans t0
       have u1:=(hb8.frozen (p:=⟨W.heap.size+1+1+1,1,none⟩) (by simp;omega)).trans t1
       have hx1:W8.cell? ⟨W6.heap.size,0,none⟩=some (.slice (some ⟨b,off,none⟩) len cap):=by rw [hW8];simp [go_sem]
       have hx2:W8.cell? ⟨W6.heap.size+1,0,none⟩=some (.int .i64 p):=by rw [hW8];simp [go_sem]
       clear hW8
       gi_wp2
       apply wpIn_rangeFunc_ownF hro h1 (gf:=219) (lb:=#[.pointer (some ⟨W6.heap.size,0,none⟩),.pointer (some ⟨W6.heap.size+1,0,none⟩)]) rfl h219 (enters_of Tryz.func219 (by kernel_rfl) rfl)
        (Px F (n - 1) h219 hro (by omega) W6.heap.size (W6.heap.size+1) W8.heap.size b off len cap p cv ks hk ho hreach (by omega) hcap (by omega) (by omega) (by omega) W8 (Nat.le_refl _) hx1 hx2 (fun i j hi hj=>(hB8.cell (p:=⟨b,off+i * 6+j,none⟩) (hbl (by omega))).trans (hc i j hi hj)))
        belowK_t (belowK_b (Nat.le_refl _)) (Below.refl _ _) (fun _=>rfl)
        (fun pre W'=>(∀ y ∈ pre,H28.has ks' len' y=false)∧Below W8.heap.size W8 W')
        (fun c pre W'=>(c=.ret∧∃ q x,pre=q++[x]∧(∀ y ∈ q,H28.has ks' len' y=false)∧H28.has ks' len' x=true∧W'.cell? ⟨W.heap.size+1+1+1,0,none⟩=some (.int .u64 x)∧W'.cell? ⟨W.heap.size+1+1+1,1,none⟩=some (.int .i64 0))∧Below W.heap.size W W')
        (OwnFrom.and (Own.from (fun s A B row hs hg hr=>hs) _) (ownFrom_below (Nat.le_refl _) (Nat.le_refl _)))
        (fun c=>OwnFrom.and (Own.from (fun s A B row hs hg hr=>by
         obtain ⟨h1,q,x,h2,h3,h4,h5,h6⟩:=hs
         exact ⟨h1,q,x,h2,h3,h4,cell_kept h5 hg hr,cell_kept h6 hg hr⟩) _) (ownFrom_below (by omega) (by omega)))
        ⟨by simp,Below.refl _ _⟩
       case hassign =>
        intro l x W' K hK
        gi_wp2
        exact hK
       case hbody =>
        rintro l pre x W' ⟨hpn,hbn⟩ _
        have hsn:=hbn.size
        have h3:1≤n - 1 - 1:=by omega
        have k1:=(hbn.cell (p:=⟨W.heap.size+1,0,none⟩) (by simp;omega)).trans j1
        have k4:=(hbn.cell (p:=⟨W.heap.size+1+1+1,0,none⟩) (by simp;omega)).trans j4
        have k5:=(hbn.cell (p:=⟨W.heap.size+1+1+1,1,none⟩) (by simp;omega)).trans j5
        have v0:=(hbn.frozen (p:=⟨W.heap.size+1+1+1,0,none⟩) (by simp;omega)).trans u0
        have v1:=(hbn.frozen (p:=⟨W.heap.size+1+1+1,1,none⟩) (by simp;omega)).trans u1
        have hBn:=hB8.trans (hbn.mono (B':=W.heap.size) (by omega))
        gi_wp2
        refine (CallsIn.inRound l (N9 F (n - 1 - 1 - 1) h106 h217 h218 hro (by omega) b' off' len' cap' sa' hsa' x cv' ks' hk' ho' hreach' W' (by omega) (fun i j hi hj=>(hBn.cell (p:=⟨b',off'+i * 6+j,none⟩) (hbl' (by omega))).trans (hc' i j hi hj)))).mono ?_
        rintro e W9 ⟨rfl,hk9,hb9⟩
        have hs9:=hb9.size
        have l4:=(hb9.cell (p:=⟨W.heap.size+1+1+1,0,none⟩) (by simp;omega)).trans k4
        have l5:=(hb9.cell (p:=⟨W.heap.size+1+1+1,1,none⟩) (by simp;omega)).trans k5
        have x0:=(hb9.frozen (p:=⟨W.heap.size+1+1+1,0,none⟩) (by simp;omega)).trans v0
        have x1:=(hb9.frozen (p:=⟨W.heap.size+1+1+1,1,none⟩) (by simp;omega)).trans v1
        rcases H28.Ci ks' x len' 0 with hfx | ⟨q,_,hq,hfx,_⟩
        · rw [hfx]
          gi_wp2
          refine ⟨hk9,hb9.mono hsn,fun y hy=>?_,hbn.trans (hb9.mono hsn)⟩
          rcases List.mem_append.1 hy with h | h
          · exact hpn y h
          · simp at h;subst h;simp [H28.has,hfx]
        · rw [hfx]
          gi_wp2
          refine ⟨(hk9.trans (KeepsOthers.setCell _ _ _)).trans (KeepsOthers.setCell _ _ _),⟨rfl,pre,x,rfl,hpn,by simp [H28.has,hfx],?_,?_⟩,((hBn.trans (hb9.mono (by omega))).setCell (p:=⟨W.heap.size+1+1+1,0,none⟩) (by simp;omega) _).setCell (p:=⟨W.heap.size+1+1+1,1,none⟩) (by simp;omega) _⟩
          · simp [go_sem,l4]
          · simp [go_sem,l5]
       case hdone =>
        rintro D xs W' hD rfl ⟨hpn,hbn⟩ hK
        have hsn:=hbn.size
        have k1:=(hbn.cell (p:=⟨W.heap.size+1,0,none⟩) (by simp;omega)).trans j1
        have k4:=(hbn.cell (p:=⟨W.heap.size+1+1+1,0,none⟩) (by simp;omega)).trans j4
        have k5:=(hbn.cell (p:=⟨W.heap.size+1+1+1,1,none⟩) (by simp;omega)).trans j5
        have v0:=(hbn.frozen (p:=⟨W.heap.size+1+1+1,0,none⟩) (by simp;omega)).trans u0
        have v1:=(hbn.frozen (p:=⟨W.heap.size+1+1+1,1,none⟩) (by simp;omega)).trans u1
        have hBn:=hB8.trans (hbn.mono (B':=W.heap.size) (by omega))
        by_cases hl':len'=0
        · have hA:H28.aft ks len ks' len' k d=(0,0):=by
           unfold H28.aft H28.first
           rw [if_neg hk0,if_neg (by simp [H28.has,hf]),hf2,if_neg (by omega),Int.toNat_natCast,List.find?_eq_none.2 (fun y hy=>by simp [hpn y hy])]
           simp [hl']
          gi_wp2
          have hK':=((KeepsOthers.setCell W' ⟨W.heap.size+1+1+1,0,none⟩ (.int .u64 0)).trans (KeepsOthers.setCell _ ⟨W.heap.size+1+1+1,1,none⟩ (.int .i64 0))).same D _ hK rfl
          have m4:((W'.setCell ⟨W.heap.size+1+1+1,0,none⟩ (.int .u64 0)).setCell ⟨W.heap.size+1+1+1,1,none⟩ (.int .i64 0)).cell? ⟨W.heap.size+1+1+1,0,none⟩=some (.int .u64 0):=by simp [go_sem,k4]
          have m5:((W'.setCell ⟨W.heap.size+1+1+1,0,none⟩ (.int .u64 0)).setCell ⟨W.heap.size+1+1+1,1,none⟩ (.int .i64 0)).cell? ⟨W.heap.size+1+1+1,1,none⟩=some (.int .i64 0):=by simp [go_sem,k5]
          refine ⟨by simp,.inl ⟨_,_,rfl,run_takeDeferred hK',?_⟩⟩
          have y4:=cell_kept m4 (grownBy_putObj' _ D (.deferred none)) (fun r e=>by cases e;exact ⟨_,hK',rfl⟩)
          have y5:=cell_kept m5 (grownBy_putObj' _ D (.deferred none)) (fun r e=>by cases e;exact ⟨_,hK',rfl⟩)
          refine ⟨.agg #[.int .u64 0,.int .i64 0],?_,by first | rfl | rw [hA],((hBn.setCell (p:=⟨W.heap.size+1+1+1,0,none⟩) (by simp;omega) _).setCell (p:=⟨W.heap.size+1+1+1,1,none⟩) (by simp;omega) _).trans (belowK_b (w:=W) (Nat.le_refl _) _ D _ _ (by omega) hK' rfl rfl)⟩
          simp [results,Tryz.f39,go_sem,y4,y5]
        · obtain rfl:sa'=some ⟨b',off',none⟩:=by rcases hsa' with h | h;exact absurd h hl';exact h
          have hA:H28.aft ks len ks' len' k d=(ks' 0,0):=by
           unfold H28.aft H28.first
           rw [if_neg hk0,if_neg (by simp [H28.has,hf]),hf2,if_neg (by omega),Int.toNat_natCast,List.find?_eq_none.2 (fun y hy=>by simp [hpn y hy])]
           simp [hl']
          have z0:=(hBn.cell (p:=⟨b',off',none⟩) (hbl' (by omega))).trans ((show off'=off'+0 * 6+0 by omega) ▸ hc' 0 0 (by omega) (by omega))
          rw [hk'] at z0
          gi_wp2
          have hK':=((KeepsOthers.setCell W' ⟨W.heap.size+1+1+1,0,none⟩ (.int .u64 (ks' 0))).trans (KeepsOthers.setCell _ ⟨W.heap.size+1+1+1,1,none⟩ (.int .i64 0))).same D _ hK rfl
          have m4:((W'.setCell ⟨W.heap.size+1+1+1,0,none⟩ (.int .u64 (ks' 0))).setCell ⟨W.heap.size+1+1+1,1,none⟩ (.int .i64 0)).cell? ⟨W.heap.size+1+1+1,0,none⟩=some (.int .u64 (ks' 0)):=by simp [go_sem,k4]
          have m5:((W'.setCell ⟨W.heap.size+1+1+1,0,none⟩ (.int .u64 (ks' 0))).setCell ⟨W.heap.size+1+1+1,1,none⟩ (.int .i64 0)).cell? ⟨W.heap.size+1+1+1,1,none⟩=some (.int .i64 0):=by simp [go_sem,k5]
          refine ⟨by simp,.inl ⟨_,_,rfl,run_takeDeferred hK',?_⟩⟩
          have y4:=cell_kept m4 (grownBy_putObj' _ D (.deferred none)) (fun r e=>by cases e;exact ⟨_,hK',rfl⟩)
          have y5:=cell_kept m5 (grownBy_putObj' _ D (.deferred none)) (fun r e=>by cases e;exact ⟨_,hK',rfl⟩)
          refine ⟨.agg #[.int .u64 (ks' 0),.int .i64 0],?_,by first | rfl | rw [hA],((hBn.setCell (p:=⟨W.heap.size+1+1+1,0,none⟩) (by simp;omega) _).setCell (p:=⟨W.heap.size+1+1+1,1,none⟩) (by simp;omega) _).trans (belowK_b (w:=W) (Nat.le_refl _) _ D _ _ (by omega) hK' rfl rfl)⟩
          simp [results,Tryz.f39,go_sem,y4,y5]
       case hstop =>
        rintro D c pre W' hD hpre ⟨⟨rfl,q,x,rfl,hq1,hq2,k4,k5⟩,hBn⟩ hK
        have hA:H28.aft ks len ks' len' k d=(x,0):=by
         obtain ⟨t,ht⟩:=hpre
         unfold H28.aft
         rw [if_neg hk0,if_neg (by simp [H28.has,hf]),hf2,if_neg (by omega),Int.toNat_natCast,← ht,List.append_assoc,List.find?_append,List.find?_eq_none.2 (fun y hy=>by simp [hq1 y hy])]
         simp [hq2]
        gi_wp2
        refine ⟨by simp,.inl ⟨_,_,rfl,run_takeDeferred hK,?_⟩⟩
        have y4:=cell_kept k4 (grownBy_putObj' _ D (.deferred none)) (fun r e=>by cases e;exact ⟨_,hK,rfl⟩)
        have y5:=cell_kept k5 (grownBy_putObj' _ D (.deferred none)) (fun r e=>by cases e;exact ⟨_,hK,rfl⟩)
        refine ⟨.agg #[.int .u64 x,.int .i64 0],?_,by first | rfl | rw [hA],hBn.trans (belowK_b (w:=W) (Nat.le_refl _) W' D _ _ (by omega) hK rfl rfl)⟩
        simp [results,Tryz.f39,go_sem,y4,y5]
   · have hA:H28.aft ks len ks' len' k d=(k,d):=by simp [H28.aft,H28.has,hk0,hf]
     rw [hf]
     gi_wp2
     refine ⟨.agg #[.int .u64 k,.int .i64 d],?_,by first | rfl | rw [hA],?_⟩
     · simp [results,Tryz.f39,go_sem,g4,g5]
     · exact (hB5.setCell (p:=⟨W.heap.size+1+1+1,0,none⟩) (by simp;omega) _).setCell (p:=⟨W.heap.size+1+1+1,1,none⟩) (by simp;omega) _
end Go.Proofs
end
section
set_option linter.unusedSimpArgs false
set_option linter.unusedVariables false
namespace Go.Pav
open Go
inductive AV where
 | undef
 | bool (b:Bool)
 | int (k:IntKind) (n:Int)
 | str (s:List UInt8)
 | dV
 | aZ
 | dN
 | bK
 | ro (z:Nat) (es:List (List AV)) (ex:Bool)
 | rop (cs:List AV)
 | ptr (b i o:Nat)
 | sl (b z i len cap:Nat) (ex:Bool)
 | map (b:Nat)
 | fn (f:Nat) (caps:List AV)
 | agg (cs:List AV)
 | tup (vs:List AV)
 deriving Inhabited
inductive ji where
 | cells (z:Nat) (es:List (List AV)) (mu:Bool)
 | map (es:List (AV × AV))
 | iter (s:List UInt8) (pos:Nat)
 deriving Inhabited
abbrev Env:=List (Nat × AV)
abbrev Heap:=List (Nat × ji)
def get {α:Type}:List (Nat × α)→Nat→Option α
 | [],_=>none
 | (k,v)::r,n=>if k=n then some v else get r n
def put {α:Type}:List (Nat × α)→Nat→α→List (Nat × α)
 | [],n,x=>[(n,x)]
 | (k,v)::r,n,x=>if k=n then (n,x)::r else if n≤k then (n,x)::(k,v)::r else (k,v)::put r n x
def del {α:Type}:List (Nat × α)→Nat→List (Nat × α)
 | [],_=>[]
 | (k,v)::r,n=>if k=n then del r n else (k,v)::del r n
def keep {α:Type} (m:Nat):List (Nat × α)→List (Nat × α)
 | []=>[]
 | (k,v)::r=>if m.testBit k then (k,v)::keep m r else keep m r
def below {α:Type} (n:Nat):List (Nat × α)→List (Nat × α)
 | []=>[]
 | (k,v)::r=>if k < n then (k,v)::below n r else below n r
def ob {α β:Type} (x:Option α) (f:α→Option β):Option β :=
 match x with
 | some a=>f a
 | none=>none
def om {α β:Type} (x:Option α) (f:α→β):Option β :=
 match x with
 | some a=>some (f a)
 | none=>none
def og {β:Type} (c:Bool) (x:Option β):Option β :=
 match c with
 | true=>x
 | false=>none
def bg {α β:Type} (f:α→Option β):List α→Option (List β)
 | []=>some []
 | a::r=>ob (f a) fun b=>om (bg f r) fun bs=>b::bs
def nat?:Int→Option Nat
 | .ofNat n=>some n
 | .negSucc _=>none
def bytesLess:List UInt8→List UInt8→Bool
 | _,[]=>false
 | [],_::_=>true
 | a::x,b::y=>decide (a < b)||(decide (a=b)&&bytesLess x y)
inductive Opd where
 | t (s:Nat)
 | c (v:AV)
 deriving Inhabited
inductive COp where
 | mv (x:Opd)
 | pick (c a b:Opd)
 | alloc (z:List AV)
 | box (x:Opd)
 | build (z:List AV) (ps:List (Nat × Nat × Opd))
 | aO (z:List AV) (len:Nat) (ps:List (Nat × Opd))
 | load (n:Nat) (ag:Bool) (a:Opd)
 | store (n:Nat) (a x:Opd)
 | jI (x:Opd)
 | bin (op:BinOp) (x y:Opd)
 | eqv (kd:Nat) (ks:List Nat) (ne:Bool) (x y:Opd)
 | un (op:UnOp) (x:Opd)
 | cvt (k:IntKind) (x:Opd)
 | cvs (x:Opd)
 | cvb (x:Opd)
 | jE (f:Nat) (caps:List Opd)
 | lF
 | oQ (z:List AV) (bytes:Nat) (l c:Opd)
 | slice (z:Nat) (x:Opd) (lo hi mx:Option Opd)
 | gJ (n:Nat) (x:Opd) (lo hi:Option Opd)
 | fld (off:Nat) (x:Opd)
 | x9 (off n:Nat) (ag:Bool) (x:Opd)
 | idxs (z:Nat) (x i:Opd)
 | fK (len z:Nat) (x i:Opd)
 | eU (x i:Opd)
 | uP (len z:Nat) (ag:Bool) (x i:Opd)
 | look (kd:Nat) (z:AV) (ok:Bool) (m k:Opd)
 | upd (kd:Nat) (m k v:Opd)
 | range (x:Opd)
 | next (x:Opd)
 | ext (i:Nat) (x:Opd)
 | call (f:Nat) (args:List Opd)
 | eu (g:Opd) (args:List Opd)
 | len (kd:Nat) (x:Opd)
 | cap (x:Opd)
 | app (z:List AV) (bytes:Nat) (zeros:Bool) (s x:Opd)
 | cpy (z:Nat) (d s:Opd)
 | clr (z:List AV) (d:Opd)
 | mx (x y:Opd)
 | mn (x y:Opd)
 | fail
 deriving Inhabited
structure aX where
 dst:Option Nat
 guard:Option (Nat × Bool)
 op:COp
 deriving Inhabited
inductive aY where
 | skip
 | ops (l:List aX) (live:Nat × List Nat)
 | draw (l:List aX) (un:List (Nat × Nat)) (live:Nat × List Nat)
 | seq (a b:aY)
 | cond (c:Opd) (a b:aY)
 | block (id:Nat) (b:aY)
 | loop (live:Nat) (b:aY)
 | exit (id:Nat)
 | ret
 | fail
 | vG (k:Nat)
 deriving Inhabited
inductive uO where
 | tmp (t:Nat)
 | cell (t n:Nat) (ag:Bool)
 deriving Inhabited
structure CFn where
 np:Nat
 res:List uO
 body:aY
 deriving Inhabited
def mz:aY→aY
 | .ops l _=>.ops l (0,[])
 | .draw l un _=>.draw l un (0,[])
 | .seq a b=>.seq (mz a) (mz b)
 | .cond c a b=>.cond c (mz a) (mz b)
 | .block id b=>.block id (mz b)
 | .loop _ b=>.loop 0 (mz b)
 | c=>c
def GX (f:CFn):CFn:=⟨f.np,f.res,mz f.body⟩
inductive Tree where
 | leaf
 | node (l:Tree) (k:Nat) (f:CFn) (r:Tree)
 deriving Inhabited
def Tree.get:Tree→Nat→Option CFn
 | .leaf,_=>none
 | .node l k f r,n=>if n=k then some f else if n≤k then l.get n else r.get n
structure Prog where
 fns:Tree
 inl:Nat→Bool
 /-- which of them may be given pointers that they only read -/
 pp:Nat→Bool
def Opd.ev (x:Opd) (e:Env):AV :=
 match x with
 | .t s=>(get e s).getD .undef
 | .c v=>v
def AV.cells:AV→List AV
 | .agg cs=>cs
 | v=>[v]
def AV.cell:AV→Bool
 | .agg _=>false
 | .tup _=>false
 | .undef=>false
 | _=>true
def frz (h:Heap):Nat→AV→Option AV
 | 0,_=>none
 | n+1,v=>match v with
  | .undef=>none
  | .ptr b i o=>match get h b with
   | some (.cells _ es _)=>ob es[i]? fun cs=>om (bg (frz h n) (cs.drop o)) fun cs'=>.rop cs'
   | _=>none
  | .map _=>none
  | .sl b z i len cap ex=>match get h b with
   | some (.cells _ es _)=>ob (bg (bg (frz h n)) ((es.drop i).take len)) fun es' =>
    og (decide (es'.length=len)) (some (.ro z es' (ex&&decide (cap=len))))
   | _=>none
  | .fn f caps=>om (bg (frz h n) caps) fun cs=>.fn f cs
  | .agg cs=>om (bg (frz h n) cs) fun cs=>.agg cs
  | .tup vs=>om (bg (frz h n) vs) fun vs=>.tup vs
  | .bool b=>some (.bool b)
  | .int k x=>some (.int k x)
  | .str s=>some (.str s)
  | .dV=>some .dV
  | .aZ=>some .aZ
  | .dN=>some .dN
  | .bK=>some .bK
  | .ro z es ex=>some (.ro z es ex)
  | .rop cs=>some (.rop cs)
def au:Nat:=16
def reach (h:Heap):Nat→AV→List Nat
 | 0,_=>[]
 | n+1,v=>match v with
  | .ptr b i o=>b::(match get h b with
   | some (.cells _ es _)=>((es[i]?.getD []).drop o).flatMap (reach h n)
   | _=>[])
  | .sl b _ i len _ _=>b::(match get h b with
   | some (.cells _ es _)=>((es.drop i).take len).flatMap fun e=>e.flatMap (reach h n)
   | _=>[])
  | .fn _ caps=>caps.flatMap (reach h n)
  | .agg cs=>cs.flatMap (reach h n)
  | .tup vs=>vs.flatMap (reach h n)
  | _=>[]
def fO:Nat→AV→Bool
 | 0,_=>true
 | n+1,v=>match v with
  | .ro _ _ _=>true
  | .rop _=>true
  | .fn _ caps=>caps.any (fO n)
  | .agg cs=>cs.any (fO n)
  | .tup vs=>vs.any (fO n)
  | _=>false
def under (b0:Nat):Nat→AV→Bool
 | 0,_=>false
 | n+1,v=>match v with
  | .ptr b _ _=>decide (b < b0)
  | .sl b _ _ _ _ _=>decide (b < b0)
  | .map b=>decide (b < b0)
  | .fn _ caps=>caps.all (under b0 n)
  | .agg cs=>cs.all (under b0 n)
  | .tup vs=>vs.all (under b0 n)
  | _=>true
def ji.under (b0:Nat):ji→Bool
 | .cells _ es _=>es.all fun e=>e.all (Pav.under b0 au)
 | .map es=>es.all fun x=>Pav.under b0 au x.1&&Pav.under b0 au x.2
 | .iter _ _=>true
abbrev Upd:=List (Nat × Option ji)
def uF (h:Heap) (b:Nat):Option ji→Heap
 | some o=>put h b o
 | none=>del h b
def aN:Heap→Upd→Heap
 | h,[]=>h
 | h,(b,o)::r=>aN (uF h b o) r
def aV (h:Heap):List Nat→Upd
 | []=>[]
 | b::r=>match get h b with
  | some (.cells z es _)=>(b,some (.cells z es false))::aV h r
  | _=>aV h r
def BN (op:BinOp) (k:IntKind) (x y:Int):Option AV :=
 match op with
 | .add=>some (.int k (k.wrap (x+y)))
 | .sub=>some (.int k (k.wrap (x - y)))
 | .mul=>some (.int k (k.wrap (x * y)))
 | .quo=>if y=0 then none else some (.int k (k.wrap (x.tdiv y)))
 | .rem=>if y=0 then none else some (.int k (x.tmod y))
 | .and=>some (.int k (k.wrap (BitVec.ofInt k.bits x &&& BitVec.ofInt k.bits y).toNat))
 | .or=>some (.int k (k.wrap (BitVec.ofInt k.bits x ||| BitVec.ofInt k.bits y).toNat))
 | .xor=>some (.int k (k.wrap (BitVec.ofInt k.bits x ^^^ BitVec.ofInt k.bits y).toNat))
 | .andNot=>some (.int k (k.wrap (BitVec.ofInt k.bits x &&& ~~~ BitVec.ofInt k.bits y).toNat))
 | .eql=>some (.bool (x == y))
 | .neq=>some (.bool (x != y))
 | .lss=>some (.bool (x < y))
 | .leq=>some (.bool (x≤y))
 | .gtr=>some (.bool (x > y))
 | .geq=>some (.bool (x ≥ y))
 | .shl=>none
 | .shr=>none
def rG (op:BinOp) (k:IntKind) (x:Int) (n:Nat):Option AV :=
 match op with
 | .shl=>some (.int k (k.wrap (x * 2 ^ (min n k.bits))))
 | .shr=>some (.int k (x.fdiv (2 ^ (min n k.bits))))
 | _=>none
def maxStr:Nat:=1099511627776
def BI (op:BinOp) (x y:List UInt8):Option AV :=
 match op with
 | .add=>if x.length+y.length≤maxStr then some (.str (x++y)) else none
 | .eql=>some (.bool (x == y))
 | .neq=>some (.bool (!(x == y)))
 | .lss=>some (.bool (bytesLess x y))
 | .leq=>some (.bool (bytesLess x y||x == y))
 | .gtr=>some (.bool (!(bytesLess x y||x == y)))
 | .geq=>some (.bool (!bytesLess x y))
 | _=>none
def zx:BinOp→Bool
 | .shl=>true
 | .shr=>true
 | _=>false
def yu (op:BinOp) (x y:AV):Option AV :=
 match x,y with
 | .int k a,.int k' b=>if zx op then ob (nat? b) (rG op k a) else if k=k' then BN op k a b else none
 | .str a,.str b=>BI op a b
 | _,_=>none
def iE:AV→AV→Option Bool
 | .int k a,.int k' b=>if k=k' then some (a == b) else none
 | .str a,.str b=>some (a == b)
 | .bool a,.bool b=>some (a == b)
 | _,_=>none
def kL (kd:Nat):AV→Bool
 | .int _ _=>decide (kd=0)
 | .str _=>decide (kd=1)
 | .bool _=>decide (kd=2)
 | _=>false
def iL:List Nat→List AV→List AV→Option Bool
 | [],[],[]=>some true
 | k::ks,a::x,b::y=>if kL k a=true then ob (iE a b) fun r=>om (iL ks x y) fun s=>r&&s else none
 | _,_,_=>none
def QW:AV→AV→Option Bool
 | .aZ,.aZ=>some true
 | .aZ,.ro _ _ _=>some false
 | .aZ,.sl _ _ _ _ _ _=>some false
 | .ro _ _ _,.aZ=>some false
 | .sl _ _ _ _ _ _,.aZ=>some false
 | _,_=>none
def eqFn:AV→AV→Option Bool
 | .bK,.bK=>some true
 | .bK,.fn _ _=>some false
 | .fn _ _,.bK=>some false
 | _,_=>none
def Jo:AV→AV→Option Bool
 | .dV,.dV=>some true
 | .dV,.ptr _ _ _=>some false
 | .ptr _ _ _,.dV=>some false
 | .dV,.rop _=>some false
 | .rop _,.dV=>some false
 | _,_=>none
def I9:AV→AV→Option Bool
 | .dN,.dN=>some true
 | .dN,.map _=>some false
 | .map _,.dN=>some false
 | _,_=>none
def Js (ks:List Nat):AV→AV→Option Bool
 | .agg x,.agg y=>iL ks x y
 | _,_=>none
def BR:AV→AV→Option Bool
 | .bool a,.bool b=>some (a == b)
 | _,_=>none
def iJ (kd:Nat) (ks:List Nat) (x y:AV):Option Bool :=
 if kd=0 then QW x y else if kd=1 then eqFn x y else if kd=2 then Jo x y else if kd=3 then I9 x y else if kd=4 then Js ks x y else BR x y
def Pg (op:UnOp):AV→Option AV
 | .int k n=>match op with
  | .neg=>some (.int k (k.wrap (0 - n)))
  | .xor=>some (.int k (k.wrap (BitVec.ofInt k.bits (if k.signed then -1 else k.max) ^^^ BitVec.ofInt k.bits n).toNat))
  | _=>none
 | .bool b=>match op with
  | .not=>some (.bool (!b))
  | _=>none
 | _=>none
def splice (cs:List AV) (off:Nat) (v:List AV):List AV:=cs.take off++(v++cs.drop (off+v.length))
def qK (e:Env):List AV→List (Nat × Nat × Opd)→Option (List AV)
 | cs,[]=>some cs
 | cs,(off,n,x)::r =>
  if (x.ev e).cells.length=n∧off+n≤cs.length∧(x.ev e).cells.all AV.cell=true then qK e (splice cs off (x.ev e).cells) r else none
def kZ (e:Env) (z:Nat):List (List AV)→List (Nat × Opd)→Option (List (List AV))
 | es,[]=>some es
 | es,(i,x)::r =>
  if (x.ev e).cells.length=z∧i < es.length∧(x.ev e).cells.all AV.cell=true then kZ e z (es.set i (x.ev e).cells) r else none
def elems (h:Heap) (z:Nat):AV→Option (List (List AV))
 | .aZ=>some []
 | .ro z' es _=>if z'=z then some es else none
 | .sl b z' i len _ _=>if z'=z then (match get h b with
  | some (.cells _ es _)=>if i+len≤es.length then some ((es.drop i).take len) else none
  | _=>none) else none
 | .str s=>if z=1 then some (s.map fun c=>[.int .u8 c.toNat]) else none
 | _=>none
def cZ:Nat:=35184372088832
def newRow (nid zl n bytes:Nat) (xs:List (List AV)):Option (AV × Upd) :=
 if n * (bytes+1)≤cZ then some (.sl nid zl 0 n n false,[(nid,some (.cells zl xs true))]) else none
def aco (o:Option ji) (nid zl bytes:Nat) (b i len cap:Nat) (ex:Bool) (xs:List (List AV)) (n:Nat):Option (AV × Upd) :=
 match o with
 | some (.cells zb es mu) =>
  if zb=zl then
   if n≤cap then
    if mu=true∧i+n≤es.length then some (.sl b zl i n cap ex,[(b,some (.cells zl (es.take (i+len)++(xs++es.drop (i+n))) true))]) else none
   else if ex then
    if i+len≤es.length then newRow nid zl n bytes ((es.drop i).take len++xs) else none
   else if mu=true∧i=0∧es.length=len∧n * (bytes+1)≤cZ then
    some (.sl nid zl 0 n n false,[(b,none),(nid,some (.cells zl (es++xs) true))])
   else none
  else none
 | _=>none
def kK (h:Heap) (nid zl bytes:Nat) (s:AV) (xs:List (List AV)):Option (AV × Upd) :=
 match s with
 | .aZ=>match xs with
  | []=>some (.aZ,[])
  | _=>newRow nid zl xs.length bytes xs
 | .ro z' es ex=>if z'=zl then (match xs with
  | []=>some (s,[])
  | _=>if ex then newRow nid zl (es.length+xs.length) bytes (es++xs) else none) else none
 | .sl b z' i len cap ex=>if z'=zl then (match xs with
  | []=>some (s,[])
  | _=>aco (get h b) nid zl bytes b i len cap ex xs (len+xs.length)) else none
 | _=>none
def bound (v:Option AV) (d:Nat):Option Nat :=
 match v with
 | none=>some d
 | some (.int _ n)=>nat? n
 | some _=>none
def vC (s:List UInt8) (lo hi mx:Option AV):Option AV :=
 match mx with
 | none=>ob (bound hi s.length) fun h=>ob (bound lo 0) fun l =>
  if l≤h∧h≤s.length then some (.str ((s.take h).drop l)) else none
 | some _=>none
def jS (lo hi mx:Option AV):Option AV :=
 ob (bound mx 0) fun m=>ob (bound hi 0) fun h=>ob (bound lo 0) fun l =>
  if l=0∧h=0∧m=0∧¬(mx.isSome=true∧hi.isNone=true) then some .aZ else none
def gQ (z:Nat) (es:List (List AV)) (ex:Bool) (lo hi mx:Option AV):Option AV :=
 match mx with
 | none=>ob (bound hi es.length) fun h=>ob (bound lo 0) fun l =>
  if l≤h∧h≤es.length then some (.ro z ((es.take h).drop l) (ex&&decide (h=es.length))) else none
 | some m=>ob (bound (some m) 0) fun m=>ob hi fun h=>ob (bound (some h) 0) fun h=>ob (bound lo 0) fun l =>
  if l≤h∧h≤m∧m≤es.length then some (.ro z ((es.take h).drop l) (decide (m=h))) else none
def mQ (b z i len cap:Nat) (ex:Bool) (lo hi mx:Option AV):Option AV :=
 match mx with
 | none=>ob (bound hi len) fun h=>ob (bound lo 0) fun l =>
  if l≤h∧h≤cap∧len≤cap then
   if l < cap then some (.sl b z (i+l) (h - l) (cap - l) ex)
   else if l=0 then some (.sl b z i h cap ex) else some (.ro z [] ex)
  else none
 | some m=>ob (bound (some m) 0) fun m=>ob hi fun h=>ob (bound (some h) 0) fun h=>ob (bound lo 0) fun l =>
  if l≤h∧h≤m∧m≤cap then
   if l < m then some (.sl b z (i+l) (h - l) (m - l) true) else some (.sl b z i 0 0 true)
  else none
def gU (k:Nat) (x:AV) (lo hi mx:Option AV):Option AV :=
 match x with
 | .str s=>if k=0 then vC s lo hi mx else none
 | .aZ=>if k=0 then none else jS lo hi mx
 | .ro z es ex=>if k≠0∧z=k then gQ z es ex lo hi mx else none
 | .sl b z i len cap ex=>if k≠0∧z=k then mQ b z i len cap ex lo hi mx else none
 | _=>none
def qN:AV→Bool
 | .bool _=>true
 | .int _ _=>true
 | .str _=>true
 | _=>false
def jR (n:Nat) (cs:List AV) (lo hi:Option AV):Option AV :=
 if n≤cs.length∧(cs.take n).all qN=true then gQ 1 ((cs.take n).map fun x=>[x]) true lo hi none else none
def sliceAt (n b i o:Nat) (lo hi:Option AV):Option ji→Option (AV × Upd)
 | some (.cells z es _)=>ob es[i]? fun cs=>om (jR n (cs.drop o) lo hi) fun r=>(r,[(b,some (.cells z es false))])
 | _=>none
def vS (h:Heap) (n:Nat) (v:AV) (lo hi:Option AV):Option (AV × Upd) :=
 match v with
 | .rop cs=>om (jR n cs lo hi) fun r=>(r,[])
 | .ptr b i o=>sliceAt n b i o lo hi (get h b)
 | _=>none
def lW:List (AV × AV)→AV→Option (Option AV)
 | [],_=>some none
 | (k,v)::r,x=>ob (iE x k) fun c=>if c then some (some v) else lW r x
def jX:List (AV × AV)→AV→AV→Option (List (AV × AV))
 | [],x,w=>some [(x,w)]
 | (k,v)::r,x,w=>ob (iE x k) fun c=>if c then some ((x,w)::r) else om (jX r x w) fun l=>(k,v)::l
def qJ (n:Nat) (ag:Bool) (cs:List AV):Option AV :=
 if ag then (if n≤cs.length then some (.agg (cs.take n)) else none) else cs.head?
def ov (x:Option AV):Option (AV × Upd):=om x fun v=>(v,[])
abbrev Step:=Env→Heap→Nat→Option (AV × Upd)
def sMv (x:Opd):Step:=fun e _ _=>some (x.ev e,[])
def Dx (c a b:Opd):Step:=fun e _ _=>match c.ev e with
 | .bool t=>some (if t then a.ev e else b.ev e,[])
 | _=>none
def abZ (z:List AV):Step:=fun _ _ nid=>some (.ptr nid 0 0,[(nid,some (.cells z.length [z] true))])
def boxed (cs:List AV) (nid:Nat):Option (AV × Upd):=if cs.all AV.cell=true then some (.ptr nid 0 0,[(nid,some (.cells cs.length [cs] true))]) else none
def agq (x:Opd):Step:=fun e _ nid=>boxed (x.ev e).cells nid
def BA (z:List AV) (ps:List (Nat × Nat × Opd)):Step:=fun e _ _=>om (qK e z ps) fun cs=>(.agg cs,[])
def zh (z:List AV) (len:Nat) (ps:List (Nat × Opd)):Step:=fun e _ nid =>
 om (kZ e z.length (List.replicate len z) ps) fun es=>(.sl nid z.length 0 len len true,[(nid,some (.cells z.length es true))])
def loadAt (n:Nat) (ag:Bool) (o i:Nat):Option ji→Option AV
 | some (.cells _ es _)=>ob es[i]? fun cs=>qJ n ag (cs.drop o)
 | _=>none
def Bz (n:Nat) (ag:Bool) (h:Heap):AV→Option AV
 | .rop cs=>qJ n ag cs
 | .ptr b i o=>loadAt n ag o i (get h b)
 | _=>none
def aaQ (n:Nat) (ag:Bool) (a:Opd):Step:=fun e h _=>ov (Bz n ag h (a.ev e))
def storeAt (n b i o:Nat) (v:List AV):Option ji→Option (AV × Upd)
 | some (.cells z es mu)=>if mu then ob es[i]? fun cs=>if o+n≤cs.length then some (.tup [],[(b,some (.cells z (es.set i (splice cs o v)) true))]) else none else none
 | _=>none
def zD (n:Nat) (h:Heap) (v:List AV):AV→Option (AV × Upd)
 | .ptr b i o=>storeAt n b i o v (get h b)
 | _=>none
def KZ (n:Nat) (a x:Opd):Step:=fun e h _ =>
 if (x.ev e).cells.length=n∧(x.ev e).cells.all AV.cell=true then zD n h (x.ev e).cells (a.ev e) else none
def mP (x:Opd):Step:=fun e _ _=>match x.ev e with
 | .ptr b i o=>some (.ptr b i o,[])
 | .rop cs=>some (.rop cs,[])
 | .fn f cs=>some (.fn f cs,[])
 | _=>none
def YO (op:BinOp) (x y:Opd):Step:=fun e _ _=>ov (yu op (x.ev e) (y.ev e))
def Ic (kd:Nat) (ks:List Nat) (ne:Bool) (x y:Opd):Step:=fun e _ _=>om (iJ kd ks (x.ev e) (y.ev e)) fun b=>(.bool (b != ne),[])
def sUn (op:UnOp) (x:Opd):Step:=fun e _ _=>ov (Pg op (x.ev e))
def QD (k:IntKind) (x:Opd):Step:=fun e _ _=>match x.ev e with
 | .int _ n=>some (.int k (k.wrap n),[])
 | _=>none
def bytesOf:List (List AV)→Option (List UInt8)
 | []=>some []
 | e::r=>match e with
  | [.int .u8 n]=>om (bytesOf r) fun s=>UInt8.ofNat n.toNat::s
  | _=>none
def PY:AV→Option AV
 | .aZ=>some (.str [])
 | .ro z es _=>if z=1 then om (bytesOf es) fun s=>.str s else none
 | _=>none
def Qb (x:Opd):Step:=fun e _ _=>ov (PY (x.ev e))
def Qg (x:Opd):Step:=fun e _ _=>match x.ev e with
 | .str s=>some (.str s,[])
 | _=>none
def yY (f:Nat) (caps:List Opd):Step:=fun e _ _ =>
 if (caps.all fun x=>(x.ev e).cell)=true then some (.fn f (caps.map fun x=>x.ev e),[]) else none
def aau:Step:=fun _ _ nid=>some (.map nid,[(nid,some (.map []))])
def UR (z:List AV) (bytes:Nat) (l c:Opd):Step:=fun e _ nid=>match l.ev e,c.ev e with
 | .int _ l,.int _ c=>ob (nat? l) fun l=>ob (nat? c) fun c =>
  if l≤c∧c * (bytes+1)≤cZ then some (.sl nid z.length 0 l c true,[(nid,some (.cells z.length (List.replicate c z) true))]) else none
 | _,_=>none
def oev (e:Env):Option Opd→Option AV
 | some x=>some (x.ev e)
 | none=>none
def Ba (n:Nat) (x:Opd) (lo hi:Option Opd):Step:=fun e h _=>vS h n (x.ev e) (oev e lo) (oev e hi)
def Cc (z:Nat) (x:Opd) (lo hi mx:Option Opd):Step:=fun e _ _=>ov (gU z (x.ev e) (oev e lo) (oev e hi) (oev e mx))
def Ky (off:Nat) (x:Opd):Step:=fun e _ _=>match x.ev e with
 | .rop cs=>some (.rop (cs.drop off),[])
 | .ptr b i o=>some (.ptr b i (o+off),[])
 | _=>none
def DF (off n:Nat) (ag:Bool) (x:Opd):Step:=fun e _ _=>match x.ev e with
 | .agg cs=>ov (qJ n ag (cs.drop off))
 | _=>none
def sF (z n:Nat):AV→Option (AV × Upd)
 | .ro z' es _=>if z'=z then ob es[n]? fun cs=>some (.rop cs,[]) else none
 | .sl b z' j len _ _=>if z'=z∧n < len then some (.ptr b (j+n) 0,[]) else none
 | _=>none
def Dc (z:Nat) (x i:Opd):Step:=fun e _ _=>match i.ev e with
 | .int _ n=>ob (nat? n) fun n=>sF z n (x.ev e)
 | _=>none
def sS (z n:Nat):AV→Option (AV × Upd)
 | .rop cs=>some (.rop (cs.drop (n * z)),[])
 | .ptr b j o=>some (.ptr b j (o+n * z),[])
 | _=>none
def Dl (len z:Nat) (x i:Opd):Step:=fun e _ _=>match i.ev e with
 | .int _ n=>ob (nat? n) fun n=>if n < len then sS z n (x.ev e) else none
 | _=>none
def qI (x i:Opd):Step:=fun e _ _=>match x.ev e,i.ev e with
 | .str s,.int _ n=>ob (nat? n) fun n=>ob s[n]? fun c=>some (.int .u8 c.toNat,[])
 | _,_=>none
def Dv (len z:Nat) (ag:Bool) (x i:Opd):Step:=fun e _ _=>match x.ev e,i.ev e with
 | .agg cs,.int _ n=>ob (nat? n) fun n=>if n < len then ov (qJ z ag (cs.drop (n * z))) else none
 | _,_=>none
def found (z:AV) (ok:Bool) (r:Option AV):AV :=
 if ok then .tup [r.getD z,.bool r.isSome] else r.getD z
def lookIn (z:AV) (ok:Bool) (k:AV):Option ji→Option AV
 | some (.map es)=>om (lW es k) (found z ok)
 | _=>none
def IJ (kd:Nat) (z:AV) (ok:Bool) (m k:Opd):Step:=fun e h _=>if kL kd (k.ev e)=true then (match m.ev e with
 | .dN=>some (found z ok none,[])
 | .map b=>ov (lookIn z ok (k.ev e) (get h b))
 | _=>none) else none
def acw (b:Nat) (k v:AV):Option ji→Option (AV × Upd)
 | some (.map es)=>om (jX es k v) fun es'=>(.tup [],[(b,some (.map es'))])
 | _=>none
def aeT (kd:Nat) (m k v:Opd):Step:=fun e h _=>if kL kd (k.ev e)=true then (match m.ev e with
 | .map b=>acw b (k.ev e) (v.ev e) (get h b)
 | _=>none) else none
def KI (x:Opd):Step:=fun e _ nid=>match x.ev e with
 | .str s=>some (.ptr nid 0 0,[(nid,some (.iter s 0))])
 | _=>none
def nextIter (b:Nat):Option ji→Option (AV × Upd)
 | some (.iter s pos)=>if pos < s.length then
  some (.tup [.bool true,.int .i64 pos,.int .i32 (Utf8.decode ⟨⟨s⟩⟩ pos).1],[(b,some (.iter s (pos+(Utf8.decode ⟨⟨s⟩⟩ pos).2)))])
  else some (.tup [.bool false],[])
 | _=>none
def QB (x:Opd):Step:=fun e h _=>match x.ev e with
 | .ptr b 0 0=>nextIter b (get h b)
 | _=>none
def Po (i:Nat) (x:Opd):Step:=fun e _ _=>match x.ev e with
 | .tup vs=>ov vs[i]?
 | _=>none
def SE:Option ji→Option AV
 | some (.map es)=>some (.int .i64 es.length)
 | _=>none
def nK (kd:Nat) (h:Heap):AV→Option AV
 | .str s=>if kd=0 then some (.int .i64 s.length) else none
 | .aZ=>if kd=1 then some (.int .i64 0) else none
 | .ro _ es _=>if kd=1 then some (.int .i64 es.length) else none
 | .sl _ _ _ len _ _=>if kd=1 then some (.int .i64 len) else none
 | .dN=>if kd=2 then some (.int .i64 0) else none
 | .map b=>if kd=2 then SE (get h b) else none
 | _=>none
def sLen (kd:Nat) (x:Opd):Step:=fun e h _=>ov (nK kd h (x.ev e))
def yw:AV→Option AV
 | .aZ=>some (.int .i64 0)
 | .ro _ es ex=>if ex then some (.int .i64 es.length) else none
 | .sl _ _ _ _ c ex=>if ex then some (.int .i64 c) else none
 | _=>none
def sCap (x:Opd):Step:=fun e _ _=>ov (yw (x.ev e))
def Ua (z:List AV) (bytes:Nat) (zeros:Bool) (s x:Opd):Step:=fun e h nid =>
 if zeros then (match x.ev e with
  | .int _ n=>ob (nat? n) fun n=>if n * (bytes+1)≤cZ then kK h nid z.length bytes (s.ev e) (List.replicate n z) else none
  | _=>none)
 else ob (elems h z.length (x.ev e)) fun xs=>kK h nid z.length bytes (s.ev e) xs
def RV (z b i len:Nat) (xs:List (List AV)) (n:Nat):Option ji→Option (AV × Upd)
 | some (.cells zb es mu)=>if mu=true∧zb=z∧i+len≤es.length then
  some (.int .i64 n,[(b,some (.cells z (es.take i++(xs.take n++es.drop (i+n))) true))]) else none
 | _=>none
def tC (h:Heap) (z:Nat) (xs:List (List AV)):AV→Option (AV × Upd)
 | .aZ=>some (.int .i64 0,[])
 | .ro _ [] _=>some (.int .i64 0,[])
 | .sl b z' i len _ _=>if z'=z then
  if min xs.length len=0 then some (.int .i64 0,[]) else RV z b i len xs (min xs.length len) (get h b)
  else none
 | _=>none
def ac8 (z:Nat) (d s:Opd):Step:=fun e h _=>ob (elems h z (s.ev e)) fun xs=>tC h z xs (d.ev e)
def acg (z:List AV) (b i len:Nat):Option ji→Option (AV × Upd)
 | some (.cells zb es mu)=>if mu=true∧zb=z.length∧i+len≤es.length then
  some (.tup [],[(b,some (.cells z.length (es.take i++(List.replicate len z++es.drop (i+len))) true))]) else none
 | _=>none
def HY (h:Heap) (z:List AV):AV→Option (AV × Upd)
 | .aZ=>some (.tup [],[])
 | .ro _ [] _=>some (.tup [],[])
 | .sl b z' i len _ _=>if z'=z.length then
  if len=0 then some (.tup [],[]) else acg z b i len (get h b)
  else none
 | _=>none
def adp (z:List AV) (d:Opd):Step:=fun e h _=>HY h z (d.ev e)
def sMx (x y:Opd):Step:=fun e _ _=>match x.ev e,y.ev e with
 | .int k a,.int k' b=>if k=k' then some (.int k (if b > a then b else a),[]) else none
 | _,_=>none
def sMn (x y:Opd):Step:=fun e _ _=>match x.ev e,y.ev e with
 | .int k a,.int k' b=>if k=k' then some (.int k (if b < a then b else a),[]) else none
 | _,_=>none
def zV:Step:=fun _ _ _=>none
def aH (op:COp):Step :=
 match op with
 | .mv x=>sMv x
 | .pick c a b=>Dx c a b
 | .alloc z=>abZ z
 | .box x=>agq x
 | .build z ps=>BA z ps
 | .aO z len ps=>zh z len ps
 | .load n ag a=>aaQ n ag a
 | .store n a x=>KZ n a x
 | .jI x=>mP x
 | .bin op x y=>YO op x y
 | .eqv kd ks ne x y=>Ic kd ks ne x y
 | .un op x=>sUn op x
 | .cvt k x=>QD k x
 | .cvs x=>Qg x
 | .cvb x=>Qb x
 | .jE f caps=>yY f caps
 | .lF=>aau
 | .oQ z bytes l c=>UR z bytes l c
 | .slice z x lo hi mx=>Cc z x lo hi mx
 | .gJ n x lo hi=>Ba n x lo hi
 | .fld off x=>Ky off x
 | .x9 off n ag x=>DF off n ag x
 | .idxs z x i=>Dc z x i
 | .fK len z x i=>Dl len z x i
 | .eU x i=>qI x i
 | .uP len z ag x i=>Dv len z ag x i
 | .look kd z ok m k=>IJ kd z ok m k
 | .upd kd m k v=>aeT kd m k v
 | .range x=>KI x
 | .next x=>QB x
 | .ext i x=>Po i x
 | .len kd x=>sLen kd x
 | .cap x=>sCap x
 | .app z bytes zeros s x=>Ua z bytes zeros s x
 | .cpy z d s=>ac8 z d s
 | .clr z d=>adp z d
 | .mx x y=>sMx x y
 | .mn x y=>sMn x y
 | .call _ _=>zV
 | .eu _ _=>zV
 | .fail=>zV
def COp.makes:COp→Bool
 | .alloc _=>true
 | .box _=>true
 | .aO _ _ _=>true
 | .lF=>true
 | .oQ _ _ _ _=>true
 | .range _=>true
 | .app _ _ _ _ _=>true
 | _=>false
inductive Ex where
 | norm
 | exit (id:Nat)
 | ret
 deriving Inhabited
structure St where
 env:Env
 heap:Heap
 next:Nat
 deriving Inhabited
abbrev Run:=Nat→List AV→Heap→Nat→Option (AV × Heap × Nat)
def rH (run:Run) (f:Nat) (args:List AV):Option AV :=
 ob (run f args [] 0) fun r=>frz r.2.1 au r.1
def tidy (_:Nat) (r:AV × Heap × Nat):AV × Heap × Nat:=r
def uj (run:Run) (f:Nat) (args:List AV) (h:Heap) (n:Nat):Option (AV × Heap × Nat) :=
 om (run f args h n) (tidy n)
def marks (h:Heap) (args:List AV) (v:AV):Upd :=
 if fO au v then aV h (args.flatMap (reach h au)) else []
inductive Called where
 | data (v:AV) (u:Upd)
 | whole (v:AV) (h:Heap) (n:Nat)
 | deep (v:AV) (u:Upd) (n:Nat)
mutual
/-- Does it hold a pointer or a map? -/
def bT:AV→Bool
 | .ptr _ _ _=>true
 | .map _=>true
 | .fn _ cs=>bP cs
 | .agg cs=>bP cs
 | .tup cs=>bP cs
 | _=>false
def bP:List AV→Bool
 | []=>false
 | v::r=>bT v||bP r
end
def JU (f:Nat):Bool:=decide (3000≤f)
def rW (f:Nat):Bool:=decide (5000≤f)
def ups (n n1:Nat) (h:Heap):Upd:=((h.filter fun x=>decide (n≤x.1∧x.1 < n1)).map fun x=>(x.1,some x.2)).reverse
def lM:AV→Bool
 | .bool _=>true
 | .int _ _=>true
 | .str _=>true
 | .dV=>true
 | .aZ=>true
 | .dN=>true
 | .bK=>true
 | .ro _ _ _=>true
 | .rop _=>true
 | .fn _ []=>true
 | _=>false
mutual
/-- The first block that a value names. -/
def qB:AV→Option Nat
 | .ptr b _ _=>some b
 | .sl b _ _ _ _ _=>some b
 | .map b=>some b
 | .fn _ cs=>jK cs
 | .agg cs=>jK cs
 | .tup cs=>jK cs
 | _=>none
def jK:List AV→Option Nat
 | []=>none
 | v::r=>match qB v with
  | some b=>some b
  | none=>jK r
end
mutual
/-- A value that names one block alone, under another number. -/
def hand (b nid:Nat):AV→Option AV
 | .undef=>none
 | .ptr c i o=>if c=b then some (.ptr nid i o) else none
 | .sl c z i l k ex=>if c=b then some (.sl nid z i l k ex) else none
 | .map _=>none
 | .fn f cs=>om (nP b nid cs) fun cs=>.fn f cs
 | .agg cs=>om (nP b nid cs) fun cs=>.agg cs
 | .tup cs=>om (nP b nid cs) fun cs=>.tup cs
 | v=>some v
def nP (b nid:Nat):List AV→Option (List AV)
 | []=>some []
 | v::r=>ob (hand b nid v) fun v=>om (nP b nid r) fun r=>v::r
end
def EZ (nid:Nat) (v:AV) (b:Nat):Option ji→Option (AV × Upd)
 | some (.cells z es mu)=>if (mu&&es.all fun e=>e.all lM)=true then om (hand b nid v) fun v=>(v,[(nid,some (.cells z es true))]) else none
 | _=>none
def iV (run:Run) (f:Nat) (args:List AV) (nid:Nat):Option (AV × Upd) :=
 ob (run f args [] 0) fun r=>match qB r.1 with
  | none=>om (hand r.2.2 0 r.1) fun v=>(v,[])
  | some b=>EZ nid r.1 b (get r.2.1 b)
mutual
/-- A value that names no read-only memory. -/
def gY:AV→Bool
 | .undef=>false
 | .ro _ es ex=>es.isEmpty&&ex
 | .rop _=>false
 | .fn _ cs=>nO cs
 | .agg cs=>nO cs
 | .tup cs=>nO cs
 | _=>true
def nO:List AV→Bool
 | []=>true
 | v::r=>gY v&&nO r
end
def aae:Option ji→Bool
 | some (.cells _ es _)=>es.all nO
 | _=>false
def uK (x:AV × Upd):Bool:=gY x.1&&x.2.all fun y=>aae y.2
def tZ (f:Nat):Bool:=decide (4000≤f)
def BL (f:Nat) (u:Upd):Upd:=if tZ f=true then [] else u
def zG (f:Nat) (u:Upd) (x:AV × Upd):Option Called :=
 if (tZ f&&!uK x)=true then none else some (.data x.1 (BL f u++x.2))
mutual
/-- A value that names no read-only memory, and of blocks only those of a list. -/
def cO (L:List Nat):AV→Bool
 | .undef=>false
 | .ro _ es ex=>es.isEmpty&&ex
 | .rop _=>false
 | .ptr b _ _=>L.contains b
 | .sl b _ _ _ _ _=>L.contains b
 | .map _=>false
 | .fn _ cs=>qo L cs
 | .agg cs=>qo L cs
 | .tup cs=>qo L cs
 | _=>true
def qo (L:List Nat):List AV→Bool
 | []=>true
 | v::r=>cO L v&&qo L r
end
def Dj (L:List Nat):Option ji→Bool
 | some (.cells _ es mu)=>mu&&es.all (qo L)
 | _=>false
def Vt (h:Heap) (v:AV) (L:List Nat):Bool:=cO L v&&L.all fun b=>Dj L (get h b)
def yD (f:Nat):Bool:=decide (6000≤f)
def Qk (f:Nat) (u:Upd):Upd:=if yD f=true then [] else u
def uV (f:Nat) (h:Heap) (v:AV):Option Heap :=
 if yD f=true then (if Vt h v (reach h au v)=true then some (h.filter fun x=>(reach h au v).contains x.1) else none) else some h
def qX (run:Run) (f:Nat) (args:List AV) (n:Nat):Option (AV × Upd × Nat):=ob (run f args [] n) fun r=>om (uV f r.2.1 r.1) fun hk=>(r.1,ups n r.2.2 hk,r.2.2)
def jr (C:Prog) (run:Run) (f:Nat) (args:List AV) (h:Heap) (nid n:Nat):Option Called :=
 match (if (C.inl f||(!C.pp f&&bP args))=true then none else bg (frz h au) args) with
 | some az=>om (rH run f az) fun v=>.data v (marks h args v)
 | none=>if (C.inl f&&rW f)=true then ob (bg (frz h au) args) fun az=>om (qX run f az n) fun x=>.deep x.1 (Qk f (aV h (args.flatMap (reach h au)))++x.2.1) x.2.2
  else if (C.inl f&&JU f)=true then ob (bg (frz h au) args) fun az=>ob (iV run f az nid) (zG f (aV h (args.flatMap (reach h au))))
  else om (uj run f args h n) fun r=>.whole r.1 r.2.1 r.2.2
def dL (e:Env) (d:Option Nat) (v:AV):Env :=
 match d with
 | some d=>put e d v
 | none=>e
def wants (e:Env):Option (Nat × Bool)→Option Bool
 | none=>some true
 | some (s,want)=>match get e s with
  | some (.bool b)=>some (b == want)
  | some (.tup [])=>some false
  | _=>none
def callOf (e:Env):COp→Option (Option (Nat × List AV))
 | .call f args=>some (some (f,args.map fun x=>x.ev e))
 | .eu g args=>match g.ev e with
  | .fn f caps=>some (some (f,args.map (fun x=>x.ev e)++caps))
  | _=>none
 | _=>some none
structure Did where
 v:AV
 h:Heap
 n:Nat
 bar:Bool
 rd:List Nat
 wr:List Nat
def dW:AV→List Nat
 | .ptr b _ _=>[b]
 | .sl b _ _ _ _ _=>[b]
 | .map b=>[b]
 | _=>[]
def readsOf (e:Env):COp→List Nat
 | .load _ _ a=>dW (a.ev e)
 | .gJ _ x _ _=>dW (x.ev e)
 | .store _ a _=>dW (a.ev e)
 | .app _ _ _ s x=>dW (s.ev e)++dW (x.ev e)
 | .cpy _ d x=>dW (d.ev e)++dW (x.ev e)
 | .clr _ d=>dW (d.ev e)
 | .look _ _ _ m _=>dW (m.ev e)
 | .upd _ m _ _=>dW (m.ev e)
 | .len _ m=>dW (m.ev e)
 | .next x=>dW (x.ev e)
 | _=>[]
def bU (h:Heap) (n:Nat) (args:List AV):Called→Did
 | .data v u=>⟨v,aN h u,n,false,args.flatMap (reach h au),u.map (·.1)⟩
 | .whole v h' n'=>⟨v,h',n',true,[],[]⟩
 | .deep v u n'=>⟨v,aN h u,n',false,args.flatMap (reach h au),u.map (·.1)⟩
def jl (C:Prog) (run:Run) (op:COp) (nid:Nat) (e:Env) (h:Heap) (n:Nat):Option Did :=
 match callOf e op with
 | none=>none
 | some (some (f,args))=>om (jr C run f args h nid n) (bU h n args)
 | some none=>om (aH op e h nid) fun x=>⟨x.1,aN h x.2,n,false,readsOf e op,x.2.map (·.1)⟩
def jA (C:Prog) (run:Run) (o:aX) (nid:Nat) (e:Env) (h:Heap) (n:Nat):Option Did :=
 match wants e o.guard with
 | none=>none
 | some false=>some ⟨.tup [],h,n,false,[],[]⟩
 | some true=>jl C run o.op nid e h n
def lJ (C:Prog) (run:Run):List aX→St→Option St
 | [],s=>some s
 | o::r,s=>ob (jA C run o s.next s.env s.heap (s.next+1)) fun d=>lJ C run r ⟨dL s.env o.dst d.v,d.h,d.n⟩
def meets (a b:List Nat):Bool:=a.any fun x=>b.any fun y=>decide (x=y)
def quiet (d:Did):Bool:=!d.bar&&(d.wr.isEmpty&&d.rd.isEmpty)
def clash (a b:Did):Bool:=!(quiet a||quiet b)&&(a.bar||(b.bar||(meets a.wr b.wr||(meets a.wr b.rd||meets a.rd b.wr))))
def oU (C:Prog) (run:Run):List aX→Nat→St→List Did→Option (St × List Did)
 | [],_,s,ds=>some (s,ds)
 | o::r,nid,s,ds=>ob (jA C run o nid s.env s.heap s.next) fun d=>oU C run r (nid+1) ⟨dL s.env o.dst d.v,d.h,d.n⟩ (ds++[d])
def apart (ds:List Did) (p:Nat × Nat):Bool :=
 match ds[p.1]?,ds[p.2]? with
 | some a,some b=>!clash a b
 | _,_=>false
def eY:Nat→List AV→Env
 | _,[]=>[]
 | k,v::r=>(k,v)::eY (k+1) r
def Dh (e:Env) (h:Heap):uO→Option AV
 | .tmp t=>get e t
 | .cell t n ag=>match get e t with
  | some (.ptr b i o)=>loadAt n ag o i (get h b)
  | _=>none
def Cb:List AV→AV
 | [v]=>v
 | vs=>.tup vs
def results (e:Env) (h:Heap) (rs:List uO):Option AV:=om (bg (Dh e h) rs) Cb
def QC (fn:CFn) (r:Ex × St):Option (AV × Heap × Nat) :=
 match r.1 with
 | .exit _=>none
 | _=>om (results r.2.env r.2.heap fn.res) fun v=>(v,r.2.heap,r.2.next)
def runWith (C:Prog) (ev:aY→St→Option (Ex × St)):Run:=fun f args h n =>
 ob (C.fns.get f) fun fn=>if args.length=fn.np then ob (ev fn.body ⟨eY 0 args,h,n⟩) (QC fn) else none
def iK (live:Nat) (s:St):St:=⟨if live=0 then s.env else Pav.keep live s.env,s.heap,s.next⟩
def bW (b:St→Option (Ex × St)) (r:Ex × St):Option (Ex × St) :=
 match r.1 with
 | .norm=>b r.2
 | _=>some r
def dh (id:Nat) (r:Ex × St):Ex × St :=
 match r.1 with
 | .exit i=>if i=id then (.norm,r.2) else r
 | _=>r
def uz (a b:St→Option (Ex × St)) (v:AV) (s:St):Option (Ex × St) :=
 match v with
 | .bool t=>if t then a s else b s
 | _=>none
def ED (k:Nat) (s:St):Option St :=
 ob (get s.env k) fun v=>om (frz s.heap au v) fun v'=>⟨dL s.env (some k) v',aN s.heap (aV s.heap (reach s.heap au v)),s.next⟩
def kV:List Nat→St→Option St
 | [],s=>some s
 | k::r,s=>ob (ED k s) (kV r)
def ku (live:Nat × List Nat) (s:St):Option St:=om (kV live.2 s) (iK live.1)
def zU (un:List (Nat × Nat)) (live:Nat × List Nat) (r:St × List Did):Option (Ex × St) :=
 if un.all (apart r.2)=true then om (ku live r.1) fun s=>(.norm,s) else none
def markRow:List AV→Bool
 | [.str _]=>true
 | _=>false
def ug:AV→Bool
 | .aZ=>true
 | .ro z es _=>decide (z=1)&&es.all markRow
 | _=>false
def nH:List AV→Option Int
 | [.int .u64 k,.int .u8 _,.str _,m,.int .i64 _,.bool _]=>if ug m=true then some k else none
 | _=>none
def jV:AV→Option (List Int)
 | .agg [.aZ]=>some []
 | .agg [.ro z es _]=>if z=6∧es.length≤1000000 then bg nH es else none
 | _=>none
def XK (k:Int):Nat→List Int→Option Nat
 | _,[]=>none
 | i,x::r=>if x=k then some i else XK k (i+1) r
def hasK (l:List Int) (k:Int):Bool:=l.any fun x=>decide (x=k)
def pF (l:List Int):Int:=match l with
 | []=>0
 | x::_=>x
def uZ (kb kn:List Int) (k d:Int):Int × Int :=
 if k=0 then (pF kn,0) else if hasK kn k=true then (k,d) else match XK k 0 kb with
  | none=>(pF kn,0)
  | some i=>match (kb.drop (i+1)++(kb.take i).reverse).find? (hasK kn) with
   | some x=>(x,0)
   | none=>(pF kn,0)
def kH:List AV→Option AV
 | [b,n,.agg [.int .u64 k,.int .i64 d]]=>ob (jV b) fun kb=>om (jV n) fun kn=>.agg [.int .u64 (uZ kb kn k d).1,.int .i64 (uZ kb kn k d).2]
 | _=>none
def o7 (k:Nat) (args:List AV):Option AV:=if k=0 then kH args else none
def oM (k:Nat):Nat:=if k=0 then 3 else 0
def dF:Nat→Nat→Env→List AV
 | 0,_,_=>[]
 | n+1,i,e=>(get e i).getD .undef::dF n (i+1) e
def Lm (k:Nat):CFn:=⟨oM k,[.tmp 9],.vG k⟩
def evC (C:Prog):Nat→aY→St→Option (Ex × St)
 | 0,_,_=>none
 | n+1,c,s =>
  match c with
  | .skip=>some (.norm,s)
  | .ops l live=>ob (lJ C (runWith C (evC C n)) l s) fun s=>om (ku live s) fun s=>(.norm,s)
  | .draw l un live=>ob (oU C (runWith C (evC C n)) l s.next ⟨s.env,s.heap,s.next+l.length⟩ []) (zU un live)
  | .seq a b=>ob (evC C n a s) (bW (evC C n b))
  | .cond c a b=>uz (evC C n a) (evC C n b) (c.ev s.env) s
  | .block id b=>om (evC C n b s) (dh id)
  | .loop live b=>ob (evC C n b (iK live s)) (bW (evC C n (.loop live b)))
  | .exit id=>some (.exit id,s)
  | .ret=>some (.ret,s)
  | .fail=>none
  | .vG k=>om (o7 k (dF (oM k) 0 s.env)) fun v=>(.ret,⟨put s.env 9 v,s.heap,s.next⟩)
def run (C:Prog) (n:Nat):Run:=runWith C (evC C n)
def aht (C:Prog) (n:Nat) (f:Nat) (args:List AV):Option AV:=rH (run C n) f args
end Go.Pav
end
section
set_option linter.unusedSimpArgs false
set_option linter.unusedVariables false
namespace Go.Pav
open Go
def CU:Value→Option AV
 | .bool b=>some (.bool b)
 | .int k n=>some (.int k n)
 | .string s=>some (.str s.data.toList)
 | .pointer none=>some .dV
 | .slice none 0 0=>some .aZ
 | .map none=>some .dN
 | .nilFunc=>some .bK
 | _=>none
def afO:Value→Option AV
 | .agg cs=>(cs.toList.mapM CU).map .agg
 | v=>CU v
def zeroCells (P:Program) (t:TypeId):Option (List AV):=do
 let i ← P.info? t
 let z ← i.zero
 let cs ← z.cells.toList.mapM CU
 if cs.length=i.size then some cs else none
def sizeT (P:Program) (t:TypeId):Option Nat:=(P.info? t).map (·.size)
def uH (P:Program) (t:TypeId):Option Bool :=
 (P.underlying t).map fun
  | .struct _ | .array _ _=>true
  | _=>false
def mF (P:Program) (t:TypeId):Option Nat :=
 match P.underlying t with
 | some (.int _)=>some 0
 | some .string=>some 1
 | some .bool=>some 2
 | _=>none
def mY (P:Program):Nat→List Field→Option (List Nat)
 | _,[]=>some []
 | k, f :: r => if f.offset = k ∧ f.name ≠ "_" ∧ sizeT P f.type = some 1 then do
  let kd ← mF P f.type
  let ks ← mY P (k+1) r
  some (kd::ks)
  else none
section
variable (P:Program) (φ:FuncId→Option Nat)
def fA:Operand→Option Opd
 | .tmp t=>some (.t t)
 | .const v=>(afO v).map .c
 | .func f=>(φ f).map fun g=>.c (.fn g [])
 | .global _=>none
def Jz (xs:List Operand):Option (List Opd):=xs.mapM (fA φ)
def cOpt:Option Operand→Option (Option Opd)
 | none=>some none
 | some x=>(fA φ x).map some
def yK (fs:Nat→Option (Nat × Nat)):List (Nat × Operand)→Option (List (Nat × Nat × Opd))
 | []=>some []
 | (i,x)::r=>do
  let (off,n) ← fs i
  let y ← fA φ x
  let ys ← yK fs r
  some ((off,n,y)::ys)
def Gq:List (Nat × Operand)→Option (List (Nat × Opd))
 | []=>some []
 | (i,x)::r=>do
  let y ← fA φ x
  let ys ← Gq r
  some ((i,y)::ys)
def cLen:List Operand→List TypeId→Option COp
 | [x],[t]=>do
  let x ← fA φ x
  match ← P.underlying t with
  | .string=>some (.len 0 x)
  | .slice _=>some (.len 1 x)
  | .map _ _=>some (.len 2 x)
  | _=>none
 | _,_=>none
def ai7:List Operand→List TypeId→Option COp
 | [x],[t]=>do
  let x ← fA φ x
  match ← P.underlying t with
  | .slice _=>some (.cap x)
  | _=>none
 | _,_=>none
def Nv:List Operand→List TypeId→Option COp
 | [s,x],[t,u]=>do
  let s ← fA φ s
  let x ← fA φ x
  match ← P.underlying t with
  | .slice e=>do
   let z ← zeroCells P e
   let i ← P.info? e
   if z.length=0∨i.bytes=0 then none else
   match ← P.underlying u with
   | .int _=>some (.app z i.bytes true s x)
   | .slice _=>some (.app z i.bytes false s x)
   | .string=>some (.app z i.bytes false s x)
   | _=>none
  | _=>none
 | _,_=>none
def acK:List Operand→List TypeId→Option COp
 | [d,s],t::_::[]=>do
  let d ← fA φ d
  let s ← fA φ s
  match ← P.underlying t with
  | .slice e=>do
   let z ← sizeT P e
   if z=0 then none else some (.cpy z d s)
  | _=>none
 | _,_=>none
def Tt:List Operand→List TypeId→Option COp
 | [d],t::[]=>do
  let d ← fA φ d
  match ← P.underlying t with
  | .slice e=>do
   let z ← zeroCells P e
   if z.length=0 then none else some (.clr z d)
  | _=>none
 | _,_=>none
def acv (mx:Bool):List Operand→Option COp
 | [x,y]=>do
  let x ← fA φ x
  let y ← fA φ y
  some (if mx then .mx x y else .mn x y)
 | _=>none
def jQ (b:Builtin) (args:List Operand) (ts:List TypeId):Option COp :=
 match b with
 | .len=>cLen P φ args ts
 | .cap=>ai7 P φ args ts
 | .append=>Nv P φ args ts
 | .copy=>acK P φ args ts
 | .clear=>Tt P φ args ts
 | .max=>acv φ true args
 | .min=>acv φ false args
 | _=>none
def cEq (kd:Nat) (ks:List Nat) (op:BinOp) (x y:Opd):Option COp :=
 match op with
 | .eql=>some (.eqv kd ks false x y)
 | .neq=>some (.eqv kd ks true x y)
 | _=>none
def cOp (op:Op):Option COp :=
 match op with
 | .move x | .assign x=>(fA φ x).map .mv
 | .pick c a b=>do some (.pick (← fA φ c) (← fA φ a) (← fA φ b))
 | .alloc t=>(zeroCells P t).map .alloc
 | .box _ x=>(fA φ x).map .box
 | .build t ps=>do
  let z ← zeroCells P t
  match ← P.underlying t with
  | .struct fs=>do
   let pl ← fs.toList.mapM fun f=>(P.info? f.type).map fun i=>(f.offset,i.size)
   some (.build z (← yK φ (fun i=>pl[i]?) ps.toList))
  | .array _ e=>do
   let n ← sizeT P e
   some (.build z (← yK φ (fun i=>some (i * n,n)) ps.toList))
  | _=>none
 | .buildSlice t len ps=>do
  match ← P.underlying t with
  | .slice e=>do
   let z ← zeroCells P e
   if z.length=0∨len * z.length > 2 ^ 24 then none else
   some (.aO z len (← Gq φ ps.toList))
  | _=>none
 | .load t a=>do some (.load (← sizeT P t) (← uH P t) (← fA φ a))
 | .store t a x=>do some (.store (← sizeT P t) (← fA φ a) (← fA φ x))
 | .nilCheck x=>(fA φ x).map .jI
 | .binOp op t x y _=>do
  let x ← fA φ x
  let y ← fA φ y
  match ← P.underlying t with
  | .int _ | .string=>some (.bin op x y)
  | .slice _=>cEq 0 [] op x y
  | .func _ _ _=>cEq 1 [] op x y
  | .pointer _=>cEq 2 [] op x y
  | .map _ _=>cEq 3 [] op x y
  | .bool=>cEq 5 [] op x y
  | .struct fs=>do
   let ks ← mY P 0 fs.toList
   if P.eqGuardType P.depth t=false∧P.stoodInHeld t=false then cEq 4 ks op x y else none
  | _=>none
 | .unOp op _ x=>(fA φ x).map (.un op)
 | .convert s t x=>do
  let x ← fA φ x
  match ← P.underlying s,← P.underlying t with
  | .int _,.int k=>some (.cvt k x)
  | .string,.string=>some (.cvs x)
  | .slice e,.string=>do
   match ← P.underlying e with
   | .int .u8=>some (.cvb x)
   | _=>none
  | _,_=>none
 | .makeFunc (.func f) first caps=>do
  let g ← φ f
  if first.size=0 then some (.jE g (← Jz φ caps.toList)) else none
 | .makeMap _ none=>some .lF
 | .makeSlice t l c=>do
  let l ← fA φ l
  let c ← fA φ c
  match ← P.underlying t with
  | .slice e=>do
   let z ← zeroCells P e
   let i ← P.info? e
   if z.length=0 then none else
   some (.oQ z i.bytes l c)
  | _=>none
 | .slice t x lo hi mx=>do
  let x ← fA φ x
  match ← P.underlying t with
  | .slice el=>do
   let z ← sizeT P el
   if z=0 then none else some (.slice z x (← cOpt φ lo) (← cOpt φ hi) (← cOpt φ mx))
  | .string=>do some (.slice 0 x (← cOpt φ lo) (← cOpt φ hi) (← cOpt φ mx))
  | .array n el=>do
   let z ← sizeT P el
   if z=1∧mx=none then some (.gJ n x (← cOpt φ lo) (← cOpt φ hi)) else none
  | _=>none
 | .fieldAddr t x f=>do
  let x ← fA φ x
  match ← P.underlying t with
  | .struct fs=>do
   let f ← fs[f]?
   if (← sizeT P f.type)=0 then none else some (.fld f.offset x)
  | _=>none
 | .field t x f=>do
  let x ← fA φ x
  match ← P.underlying t with
  | .struct fs=>do
   let f ← fs[f]?
   some (.x9 f.offset (← sizeT P f.type) (← uH P f.type) x)
  | _=>none
 | .indexAddr t x i=>do
  let x ← fA φ x
  let i ← fA φ i
  match ← P.underlying t with
  | .slice e=>do
   let n ← sizeT P e
   if n=0 then none else some (.idxs n x i)
  | .array len e=>do
   let n ← sizeT P e
   if n=0 then none else some (.fK len n x i)
  | _=>none
 | .index t x i=>do
  let x ← fA φ x
  let i ← fA φ i
  match ← P.underlying t with
  | .string=>some (.eU x i)
  | .array len e=>do some (.uP len (← sizeT P e) (← uH P e) x i)
  | _=>none
 | .lookup t m k ok=>do
  let m ← fA φ m
  let k ← fA φ k
  match ← P.underlying t with
  | .map kt et=>do
   let i ← P.info? et
   let z ← i.zero
   let z ← afO z
   let kd ← mF P kt
   some (.look kd z ok m k)
  | _=>none
 | .mapUpdate t m k v | .insert t m k v=>do
  let m ← fA φ m
  let k ← fA φ k
  let v ← fA φ v
  match ← P.underlying t with
  | .map kt _=>do some (.upd (← mF P kt) m k v)
  | _=>none
 | .range t x=>do
  let x ← fA φ x
  match ← P.underlying t with
  | .string=>some (.range x)
  | _=>none
 | .next x true=>(fA φ x).map .next
 | .extract x i=>(fA φ x).map (.ext i)
 | .call c=>match c.callee with
  | .value (.func f)=>do
   let g ← φ f
   some (.call g (← Jz φ c.args.toList))
  | .value g=>do some (.eu (← fA φ g) (← Jz φ c.args.toList))
  | .builtin b=>jQ P φ b c.args.toList c.argTypes.toList
  | .invoke _ _=>none
 | _=>none
def bV (ops:Array Oper) (o:Oper):aX :=
 let g:Option (Option (Nat × Bool)):=match o.guard with
  | none=>some none
  | some (j,w)=>((ops[j]?).bind (·.dst)).map fun d=>some (d,w)
 match g,cOp P φ o.op with
 | some g,some op=>⟨o.dst,g,op⟩
 | _,_=>⟨o.dst,none,.fail⟩
def Opd.slot:Opd→List Nat
 | .t s=>[s]
 | .c _=>[]
def vW:Option Opd→List Nat
 | none=>[]
 | some x=>x.slot
def COp.slots:COp→List Nat
 | .mv x | .box x | .jI x | .un _ x | .cvt _ x | .cvs x | .cvb x | .fld _ x | .x9 _ _ _ x | .range x | .next x | .ext _ x | .len _ x | .cap x | .load _ _ x | .clr _ x=>x.slot
 | .pick a b c | .upd _ a b c=>a.slot++b.slot++c.slot
 | .alloc _ | .lF | .fail=>[]
 | .build _ ps=>ps.flatMap fun p=>p.2.2.slot
 | .aO _ _ ps=>ps.flatMap fun p=>p.2.slot
 | .store _ a x | .bin _ a x | .eqv _ _ _ a x | .oQ _ _ a x | .idxs _ a x | .fK _ _ a x | .eU a x | .uP _ _ _ a x | .look _ _ _ a x | .app _ _ _ a x | .cpy _ a x | .mx a x | .mn a x=>a.slot++x.slot
 | .jE _ xs | .call _ xs=>xs.flatMap Opd.slot
 | .eu g xs=>g.slot++xs.flatMap Opd.slot
 | .slice _ x a b c=>x.slot++vW a++vW b++vW c
 | .gJ _ x a b=>x.slot++vW a++vW b
def aX.slots (o:aX):List Nat:=o.op.slots++(match o.guard with | some (s,_)=>[s] | none=>[])
def LZ (m:Nat):List Nat→Nat
 | []=>m
 | s::r=>LZ (m ||| 2 ^ s) r
def aiY (m s:Nat):Nat:=if m.testBit s then m - 2 ^ s else m
def KN:List aX→Nat→Nat
 | [],out=>out
 | o::r,out =>
  let m:=KN r out
  let m:=match o.dst with
   | some d=>aiY m d
   | none=>m
  LZ m o.slots
def nN (rm:Nat):aY→Nat→List (Nat × Nat)→aY × Nat
 | .skip,out,_=>(.skip,out)
 | .ops l _,out,_=>(.ops l (out,[]),KN l out)
 | .draw l un _,out,_=>(.draw l un (out,[]),KN l out)
 | .seq a b,out,ex =>
  let (b,m):=nN rm b out ex
  let (a,m):=nN rm a m ex
  (.seq a b,m)
 | .cond c a b,out,ex =>
  let (a,m):=nN rm a out ex
  let (b,k):=nN rm b out ex
  (.cond c a b,LZ (m ||| k) c.slot)
 | .block id b,out,ex =>
  let (b,m):=nN rm b out ((id,out)::ex)
  (.block id b,m)
 | .loop _ b,_,ex =>
  let m:=(nN rm b 0 ex).2
  let m:=(nN rm b m ex).2
  let m:=m ||| (nN rm b m ex).2
  (.loop m (nN rm b m ex).1,m)
 | .exit id,_,ex=>(.exit id,(get ex id).getD 0)
 | .ret,_,_=>(.ret,rm)
 | .fail,_,_=>(.fail,0)
 | .vG k,_,_=>(.vG k,0)
def ancestors (ops:List Oper):List Nat :=
 (ops.foldl (fun acc o=>acc.push (o.after.toList.foldl (fun s e=>if Region.binds .any e then s ||| 2 ^ e.on ||| acc.getD e.on 0 else s) 0)) (#[]:Array Nat)).toList
def qA:Nat→List Oper→Bool
 | _,[]=>true
 | k,o::r=>o.after.toList.all (fun e=>!Region.binds .any e||Nat.blt e.on k)&&qA (k+1) r
def touches:COp→Bool
 | .gJ _ _ _ _=>true
 | .load _ _ _ | .store _ _ _ | .alloc _ | .box _ | .aO _ _ _ | .lF | .oQ _ _ _ _ | .look _ _ _ _ _ | .upd _ _ _ _ | .range _ | .next _ | .call _ _ | .eu _ _ | .len _ _ | .app _ _ _ _ _ | .cpy _ _ _ | .clr _ _=>true
 | _=>false
def writes:COp→Bool
 | .store _ _ _ | .gJ _ _ _ _ | .upd _ _ _ _ | .next _ | .call _ _ | .eu _ _ | .app _ _ _ _ _ | .cpy _ _ _ | .clr _ _=>true
 | _=>false
def uS (a b:COp):Bool:=touches a&&touches b&&(writes a||writes b||a.makes||b.makes)
def dA:COp→Bool
 | .call f _=>rW f
 | .eu _ _=>true
 | _=>false
def sO:COp→Bool
 | .call _ _=>true
 | .eu _ _=>true
 | _=>false
def lV (a b:aX):Bool :=
 !((dA a.op&&sO b.op)||(sO a.op&&dA b.op)) &&
 ((match a.dst with | some d=>!(b.slots.contains d)&&!(b.dst == some d) | none=>true) &&
 (match b.dst with | some d=>!(a.slots.contains d) | none=>true))
def unordered (anc:List Nat):List (Nat × Nat) :=
 (List.range anc.length).flatMap fun j=>(List.range j).filterMap fun i=>if ((anc.getD j 0).testBit i) then none else some (i,j)
def J3 (ops:Array Oper) (draw:Bool):aY :=
 let l:=ops.toList.map (bV P φ ops)
 match draw with
 | false=>.ops l (0,[])
 | true =>
  let anc:=ancestors ops.toList
  let un:=unordered anc
  if qA 0 ops.toList&&un.all (fun p=>lV (l.getD p.1 default) (l.getD p.2 default)) then
   .draw l (un.filter fun p=>uS (l.getD p.1 default).op (l.getD p.2 default).op) (0,[])
  else .fail
def iQ:Nat:=999999
def gI (l:Nat):Nat:=1000000+2 * l
def lI (l:Nat):Nat:=1000001+2 * l
def dH (p:Nat→Bool):Code→Bool
 | .goto l=>p l
 | .seq a b=>dH p a&&dH p b
 | .cond _ a b=>dH p a&&dH p b
 | .block _ b=>dH p b
 | .loop b=>dH p b
 | .scope b=>dH p b
 | .rangeFunc _ _ a b=>dH p a&&dH p b
 | _=>true
def GI:Code→Bool:=dH fun _=>false
def Bo:Code→Option Nat
 | .label l=>some l
 | _=>none
def Qc:Code→Option Nat
 | .seq a b=>match Bo a with
  | some l=>some l
  | none=>Qc b
 | _=>none
def gV (l:Nat):Code→Bool
 | .seq a b=>match Bo a with
  | some l'=>decide (l'=l)&&dH (fun k=>decide (k=l)) b
  | none=>GI a&&(findLabel a l).isNone&&gV l b
 | _=>false
mutual
def lG:Code→aY
 | .skip=>.skip
 | .region _ ops draw=>J3 P φ ops draw
 | .seq a b=>.seq (lG a) (lG b)
 | .cond c a b=>match fA φ c with
  | some c=>.cond c (lG a) (lG b)
  | none=>.fail
 | .block id b=>.block id (lG b)
 | .loop b=>.loop 0 (lG b)
 | .scope b=>match GI b with
  | true=>.seq (lG b) .skip
  | false=>JV b
 | .label _=>.skip
 | .goto l=>.exit (gI l)
 | .exit id=>.exit id
 | .ret=>.ret
 | _=>.fail
/-- Statements of which one is jumped back to. -/
def JV:Code→aY
 | .seq a b=>match Bo a with
  | some l=>.block (lI l) (.loop 0 (.block (gI l) (.seq (lG b) (.exit (lI l)))))
  | none=>.seq (lG a) (JV b)
 | _=>.fail
end
def KG:ResultVar→Option uO
 | .tmp t=>some (.tmp t)
 | .cell t ty=>do some (.cell t (← sizeT P ty) (← uH P ty))
def uO.slot:uO→Nat
 | .tmp t=>t
 | .cell t _ _=>t
def dR (nt:Nat):Code→Bool
 | .region _ ops _=>ops.toList.all fun o=>match o.dst with | some d=>Nat.blt d nt | none=>true
 | .seq a b=>dR nt a&&dR nt b
 | .cond _ a b=>dR nt a&&dR nt b
 | .block id b=>Nat.blt id iQ&&dR nt b
 | .loop b=>dR nt b
 | .scope b=>dR nt b&&(GI b||match Qc b with | some l=>gV l b | none=>false)
 | .exit id=>Nat.blt id iQ
 | _=>true
def afz:Op→Bool
 | .defer _=>true
 | _=>false
def gq:Code→Bool
 | .region _ ops _=>ops.toList.any fun o=>afz o.op
 | .seq a b=>gq a||gq b
 | .cond _ a b=>gq a||gq b
 | .block _ b=>gq b
 | .loop b=>gq b
 | .scope b=>gq b
 | .rangeFunc _ _ _ _=>true
 | _=>false
def gy (t:Nat):Code→Bool
 | .region _ ops _=>ops.toList.any fun o=>match o.dst with | some d=>Nat.beq d t | none=>false
 | .seq a b=>gy t a||gy t b
 | .cond _ a b=>gy t a||gy t b
 | .block _ b=>gy t b
 | .loop b=>gy t b
 | .scope b=>gy t b
 | .rangeFunc _ _ _ _=>true
 | _=>false
def C9:aY→aY
 | .ret=>.exit iQ
 | .seq a b=>.seq (C9 a) (C9 b)
 | .cond c a b=>.cond c (C9 a) (C9 b)
 | .block id b=>.block id (C9 b)
 | .loop m b=>.loop m (C9 b)
 | c=>c
def deferred (ops:List Oper):Option (List Oper × Nat × FuncId) :=
 match ops.reverse with
 | d::mk::r=>match d.op,d.dst,d.guard,mk.op,mk.dst,mk.guard with
  | .defer ⟨.value (.tmp t),args,_⟩,none,none,.makeFunc (.func f) _ _,some t',none=>if t=t'∧args.size=0 then some ((mk::r).reverse,t,f) else none
  | _,_,_,_,_,_=>none
 | _=>none
def BG:Code→aY
 | .seq a b=>match a with
  | .region _ ops false=>match deferred ops.toList with
   | some (l,t,f) =>
    if gy t b=false∧(((P.funcs[f]?).bind (·.body)).map gq)=some false∧gq b=false then
     .seq (.ops (l.map (bV P φ ops)) (0,[])) (.seq (.block iQ (C9 (lG P φ b))) (.ops [⟨none,none,.eu (.t t) []⟩] (0,[])))
    else .fail
   | none=>.seq (lG P φ a) (BG b)
  | _=>.seq (lG P φ a) (BG b)
 | _=>.fail
def ahB (c:Code):aY:=match gq c with
 | true=>BG P φ c
 | false=>lG P φ c
def cFn (fn:Func):Option CFn:=do
 let c ← fn.body
 if dR fn.ntmps c=false then none else
 let res ← fn.results.toList.mapM (KG P)
 let rm:=LZ 0 (res.map uO.slot)
 if fn.name = "runtime.NumGoroutine" then none else
 some ⟨fn.params.size+fn.nfree,res,(nN rm (ahB P φ c) rm []).1⟩
end
end Go.Pav
end
section
set_option linter.unusedSimpArgs false
set_option linter.unusedVariables false
namespace Go.Pav
open Go
section lists
variable {α:Type}
theorem get_put (l:List (Nat × α)) (n:Nat) (x:α) (k:Nat):get (put l n x) k=if n=k then some x else get l k:=by
 induction l with
 | nil=>simp [put,get]
 | cons a r ih =>
  obtain ⟨j,v⟩:=a
  simp only [put]
  by_cases h1:j=n
  · subst h1
    simp only [if_true,get]
    by_cases h2:j=k <;> simp [h2]
  · simp only [h1,if_false]
    by_cases h2:n≤j
    · simp only [h2,if_true,get]
    · simp only [h2,if_false,get,ih]
      by_cases h3:j=k
      · subst h3;simp [Ne.symm h1]
      · simp [h3]
theorem oz (l:List (Nat × α)) (n k:Nat):get (del l n) k=if n=k then none else get l k:=by
 induction l with
 | nil=>simp [del,get]
 | cons a r ih =>
  obtain ⟨j,v⟩:=a
  simp only [del]
  by_cases h1:j=n
  · subst h1
    simp only [if_true,ih,get]
    by_cases h2:j=k <;> simp [h2]
  · simp only [h1,if_false,get,ih]
    by_cases h3:j=k
    · subst h3;simp [Ne.symm h1]
    · simp [h3]
theorem OI (m:Nat) (l:List (Nat × α)) (k:Nat):get (Pav.keep m l) k=if m.testBit k then get l k else none:=by
 induction l with
 | nil=>simp [Pav.keep,get]
 | cons a r ih =>
  obtain ⟨j,v⟩:=a
  simp only [Pav.keep]
  by_cases h1:m.testBit j=true
  · simp only [h1,if_true,get,ih]
    by_cases h3:j=k
    · subst h3;simp [h1]
    · simp [h3]
  · rw [if_neg h1,ih]
    simp only [get]
    by_cases h3:j=k
    · subst h3;simp [h1]
    · simp [h3]
theorem get_mem {l:List (Nat × α)} {k:Nat} {x:α} (h:get l k=some x):(k,x) ∈ l:=by
 induction l with
 | nil=>simp [get] at h
 | cons a r ih =>
  obtain ⟨j,v⟩:=a
  simp only [get] at h
  by_cases h1:j=k
  · simp [h1] at h;subst h;subst h1;simp
  · simp [h1] at h;exact List.mem_cons_of_mem _ (ih h)
end lists
theorem ak {α β:Type} {x:Option α} {f:α→Option β} {b:β} (h:ob x f=some b):∃ a,x=some a∧f a=some b:=by
 cases x with
 | none=>simp [ob] at h
 | some a=>exact ⟨a,rfl,h⟩
theorem aC {α β:Type} {x:Option α} {f:α→β} {b:β} (h:om x f=some b):∃ a,x=some a∧f a=b:=by
 cases x with
 | none=>simp [om] at h
 | some a=>exact ⟨a,rfl,by simpa [om] using h⟩
theorem xK {β:Type} {c:Bool} {x:Option β} {b:β} (h:og c x=some b):c=true∧x=some b:=by
 cases c with
 | false=>simp [og] at h
 | true=>exact ⟨rfl,h⟩
theorem bY {α β:Type} {f:α→Option β}:∀ {l:List α} {r:List β},bg f l=some r→r.length=l.length∧∀ (i:Nat) (a:α),l[i]?=some a→∃ b,r[i]?=some b∧f a=some b:=by
 intro l
 induction l with
 | nil=>intro r h;simp [bg] at h;subst h;simp
 | cons a l ih =>
  intro r h
  simp only [bg] at h
  obtain ⟨b,hb,h⟩:=ak h
  obtain ⟨bs,hbs,rfl⟩:=aC h
  obtain ⟨hl,hi⟩:=ih hbs
  refine ⟨by simp [hl],?_⟩
  intro i x hx
  cases i with
  | zero=>simp at hx;subst hx;exact ⟨b,by simp,hb⟩
  | succ i=>simpa using hi i x (by simpa using hx)
inductive VR (ψ:Nat→FuncId) (w:World) (S:Nat→Prop) (m:Nat→Nat × Nat):(Nat→Prop)→AV→Value→Prop
 | undef {A:Nat→Prop} (v:Value):VR ψ w S m A .undef v
 | bool {A:Nat→Prop} (b:Bool):VR ψ w S m A (.bool b) (.bool b)
 | int {A:Nat→Prop} (k:IntKind) (n:Int):VR ψ w S m A (.int k n) (.int k n)
 | str {A:Nat→Prop} (s:List UInt8):VR ψ w S m A (.str s) (.string ⟨⟨s⟩⟩)
 | dV {A:Nat→Prop}:VR ψ w S m A .dV (.pointer none)
 | aZ {A:Nat→Prop}:VR ψ w S m A .aZ (.slice none 0 0)
 | dN {A:Nat→Prop}:VR ψ w S m A .dN (.map none)
 | bK {A:Nat→Prop}:VR ψ w S m A .bK .nilFunc
 | ro {A:Nat→Prop} (z:Nat) (es:List (List AV)) (ex:Bool) (b off cap:Nat) (cs:Nat→Nat→Value) (hS:S b)
  (hz:∀ (i:Nat) (e:List AV),es[i]?=some e→e.length=z) (hc:es.length≤cap) (hx:ex=true→cap=es.length)
  (hcell:∀ (i:Nat) (e:List AV) (j:Nat) (x:AV),es[i]?=some e→e[j]?=some x→x.cell=true∧w.cell? ⟨b,off+i * z+j,none⟩=some (cs i j))
  (hrep:∀ (i:Nat) (e:List AV) (j:Nat) (x:AV),es[i]?=some e→e[j]?=some x→VR ψ w S m (fun _=>False) x (cs i j)) :
  VR ψ w S m A (.ro z es ex) (.slice (some ⟨b,off,none⟩) es.length cap)
 | roe {A:Nat→Prop} (z:Nat) (ex:Bool) (a:Addr) (k:Nat) (hk:ex=true→k=0):VR ψ w S m A (.ro z [] ex) (.slice (some a) 0 k)
 | rop {A:Nat→Prop} (cs:List AV) (b off:Nat) (vs:Nat→Value) (hS:S b)
  (hcell:∀ (j:Nat) (x:AV),cs[j]?=some x→x.cell=true∧w.cell? ⟨b,off+j,none⟩=some (vs j))
  (hrep:∀ (j:Nat) (x:AV),cs[j]?=some x→VR ψ w S m (fun _=>False) x (vs j)) :
  VR ψ w S m A (.rop cs) (.pointer (some ⟨b,off,none⟩))
 | ptr {A:Nat→Prop} (b i o:Nat) (hA:A b):VR ψ w S m A (.ptr b i o) (.pointer (some ⟨(m b).1,i * (m b).2+o,none⟩))
 | sl {A:Nat→Prop} (b z i len cap:Nat) (ex:Bool) (c:Nat) (hA:A b) (hz:(m b).2=z) (hl:len≤c) (hc:cap≤c) (hx:ex=true→c=cap)
  (hrow:∃ cur t fr,w.heap[(m b).1]?=some (.cells cur t fr)∧(i+c) * z≤cur.size) :
  VR ψ w S m A (.sl b z i len cap ex) (.slice (some ⟨(m b).1,i * z,none⟩) len c)
 | map {A:Nat→Prop} (b:Nat) (hA:A b):VR ψ w S m A (.map b) (.map (some (m b).1))
 | fn {A:Nat→Prop} (f:Nat) (caps:List AV) (vs:Array Value) (hn:vs.size=caps.length)
  (hc:∀ (j:Nat) (x:AV),caps[j]?=some x→VR ψ w S m A x (vs.getD j undef)):VR ψ w S m A (.fn f caps) (.func (.func (ψ f)) #[] vs)
 | agg {A:Nat→Prop} (cs:List AV) (vs:Array Value) (hn:vs.size=cs.length)
  (hcell:∀ (j:Nat) (x:AV),cs[j]?=some x→x.cell=true) (hc:∀ (j:Nat) (x:AV),cs[j]?=some x→VR ψ w S m A x (vs.getD j undef)):VR ψ w S m A (.agg cs) (.agg vs)
 | tup {A:Nat→Prop} (cs:List AV) (vs:Array Value) (hn:vs.size=cs.length)
  (hc:∀ (j:Nat) (x:AV),cs[j]?=some x→VR ψ w S m A x (vs.getD j undef)):VR ψ w S m A (.tup cs) (.tuple vs)
structure Le (w:World) (S:Nat→Prop) (m:Nat→Nat × Nat) (A:Nat→Prop) (w':World) (S':Nat→Prop) (m':Nat→Nat × Nat) (A':Nat→Prop):Prop where
 kept:∀ b,S b→w'.heap[b]?=w.heap[b]?
 rows:∀ (b:Nat) c t fr,w.heap[b]?=some (.cells c t fr)→∃ c',w'.heap[b]?=some (.cells c' t fr)∧c'.size=c.size
 size:w.heap.size≤w'.heap.size
 sub:∀ b,S b→S' b
 made:∀ b,A b→A' b
 same:∀ b,A b→m' b=m b
theorem Le.refl (w:World) (S:Nat→Prop) (m:Nat→Nat × Nat) (A:Nat→Prop):Le w S m A w S m A :=
 ⟨fun _ _=>rfl,fun _ c _ _ h=>⟨c,h,rfl⟩,Nat.le_refl _,fun _ h=>h,fun _ h=>h,fun _ _=>rfl⟩
theorem Le.trans {w w1 w2:World} {S S1 S2:Nat→Prop} {m m1 m2:Nat→Nat × Nat} {A A1 A2:Nat→Prop} (h:Le w S m A w1 S1 m1 A1) (h':Le w1 S1 m1 A1 w2 S2 m2 A2):Le w S m A w2 S2 m2 A2 where
 kept b hb:=(h'.kept b (h.sub b hb)).trans (h.kept b hb)
 rows b c t fr hc:=by
  obtain ⟨c1,h1,e1⟩:=h.rows b c t fr hc
  obtain ⟨c2,h2,e2⟩:=h'.rows b c1 t fr h1
  exact ⟨c2,h2,e2.trans e1⟩
 size:=Nat.le_trans h.size h'.size
 sub b hb:=h'.sub b (h.sub b hb)
 made b hb:=h'.made b (h.made b hb)
 same b hb:=(h'.same b (h.made b hb)).trans (h.same b hb)
section
variable {ψ:Nat→FuncId} {w w':World} {S S':Nat→Prop} {m m':Nat→Nat × Nat} {A A':Nat→Prop}
theorem VR.mono' {v:AV} {c:Value} (h:VR ψ w S m A v c) (hk:∀ b,S b→w'.heap[b]?=w.heap[b]?)
 (hr:∀ (b:Nat) c t fr,w.heap[b]?=some (.cells c t fr)→∃ c',w'.heap[b]?=some (.cells c' t fr)∧c'.size=c.size) (hs:∀ b,S b→S' b) :
 ∀ {A':Nat→Prop},(∀ b,A b→A' b)→(∀ b,A b→m' b=m b)→VR ψ w' S' m' A' v c:=by
 induction h with
 | undef v=>intro A' _ _;exact .undef v
 | bool b=>intro A' _ _;exact .bool b
 | int k n=>intro A' _ _;exact .int k n
 | str s=>intro A' _ _;exact .str s
 | dV=>intro A' _ _;exact .dV
 | aZ=>intro A' _ _;exact .aZ
 | dN=>intro A' _ _;exact .dN
 | bK=>intro A' _ _;exact .bK
 | roe z ex a k hk=>intro A' _ _;exact .roe z ex a k hk
 | ro z es ex b off cap cs hS hz hc hx hcell _ ih =>
  intro A' _ _
  refine .ro z es ex b off cap cs (hs b hS) hz hc hx (fun i e j x h1 h2=>⟨(hcell i e j x h1 h2).1,?_⟩) (fun i e j x h1 h2=>ih i e j x h1 h2 (fun _ h=>h) (fun _ h=>h.elim))
  rw [← (hcell i e j x h1 h2).2]
  exact World.cell?_of_block (hk b hS)
 | rop cs b off vs hS hcell _ ih =>
  intro A' _ _
  refine .rop cs b off vs (hs b hS) (fun j x h1=>⟨(hcell j x h1).1,?_⟩) (fun j x h1=>ih j x h1 (fun _ h=>h) (fun _ h=>h.elim))
  rw [← (hcell j x h1).2]
  exact World.cell?_of_block (hk b hS)
 | ptr b i o hA=>intro A' ha hm;rw [← hm b hA];exact .ptr b i o (ha b hA)
 | sl b z i len cap ex c hA hz hl hc hx hrow =>
  intro A' ha hm
  obtain ⟨cur,t,fr,h1,h2⟩:=hrow
  obtain ⟨c',h3,h4⟩:=hr _ _ _ _ h1
  have e:=hm b hA
  rw [← e] at hz h3 ⊢
  exact .sl b z i len cap ex c (ha b hA) hz hl hc hx ⟨c',t,fr,h3,by omega⟩
 | map b hA=>intro A' ha hm;rw [← hm b hA];exact .map b (ha b hA)
 | fn f caps vs hn _ ih=>intro A' ha hm;exact .fn f caps vs hn fun j x h1=>ih j x h1 ha hm
 | agg cs vs hn hcell _ ih=>intro A' ha hm;exact .agg cs vs hn hcell fun j x h1=>ih j x h1 ha hm
 | tup cs vs hn _ ih=>intro A' ha hm;exact .tup cs vs hn fun j x h1=>ih j x h1 ha hm
theorem VR.mono {v:AV} {c:Value} (h:VR ψ w S m A v c) (le:Le w S m A w' S' m' A'):VR ψ w' S' m' A' v c :=
 h.mono' le.kept le.rows le.sub le.made le.same
theorem VR.one {v:AV} {c:Value} (h:VR ψ w S m A v c) (hv:v.cell=true):c.oneCell'=true:=by
 cases h <;> simp_all [AV.cell,Value.oneCell']
theorem VR.single {v:AV} {c:Value} (h:VR ψ w S m A v c) (hv:v.cells=[v]) (hc:c.cells=#[c]) (h1:v.cell=true) :
 c.cells.size=v.cells.length∧(∀ (j:Nat) (x:AV),v.cells[j]?=some x→VR ψ w S m A x (c.cells.getD j Go.undef))∧∀ u ∈ c.cells.toList,u.oneCell'=true:=by
 rw [hv,hc]
 refine ⟨rfl,?_,?_⟩
 · intro j x hj
   cases j with
   | zero=>simp at hj;subst hj;simpa using h
   | succ j=>simp at hj
 · intro u hu
   simp at hu
   subst hu
   exact h.one h1
theorem VR.cells {v:AV} {c:Value} (h:VR ψ w S m A v c) (hv:v.cells.all AV.cell=true) :
 c.cells.size=v.cells.length∧(∀ (j:Nat) (x:AV),v.cells[j]?=some x→VR ψ w S m A x (c.cells.getD j Go.undef))∧∀ u ∈ c.cells.toList,u.oneCell'=true:=by
 cases h with
 | agg cs vs hn hcell hc =>
  refine ⟨hn,hc,?_⟩
  intro u hu
  obtain ⟨j,hj,e⟩:=List.getElem_of_mem hu
  have hjs:j < vs.size:=by simpa [Value.cells] using hj
  have hx:cs[j]?=some cs[j]:=List.getElem?_eq_getElem (by omega)
  have h1:=(hc j _ hx).one (hcell j _ hx)
  have e2:vs.getD j Go.undef=u:=by simp only [Array.getD,hjs,dif_pos];simpa [Value.cells] using e
  rwa [e2] at h1
 | undef v=>simp [AV.cells,AV.cell] at hv
 | tup cs vs hn hc=>simp [AV.cells,AV.cell] at hv
 | bool b=>exact VR.single (.bool b) rfl rfl rfl
 | int k n=>exact VR.single (.int k n) rfl rfl rfl
 | str s=>exact VR.single (.str s) rfl rfl rfl
 | dV=>exact VR.single .dV rfl rfl rfl
 | aZ=>exact VR.single .aZ rfl rfl rfl
 | dN=>exact VR.single .dN rfl rfl rfl
 | bK=>exact VR.single .bK rfl rfl rfl
 | roe z ex a k hk=>exact VR.single (.roe z ex a k hk) rfl rfl rfl
 | ro z es ex b off cap cs hS hz hc hx hcell hrep=>exact VR.single (.ro z es ex b off cap cs hS hz hc hx hcell hrep) rfl rfl rfl
 | rop cs b off vs hS hcell hrep=>exact VR.single (.rop cs b off vs hS hcell hrep) rfl rfl rfl
 | ptr b i o hA=>exact VR.single (.ptr b i o hA) rfl rfl rfl
 | sl b z i len cap ex c hA hz hl hc hx hrow=>exact VR.single (.sl b z i len cap ex c hA hz hl hc hx hrow) rfl rfl rfl
 | map b hA=>exact VR.single (.map b hA) rfl rfl rfl
 | fn f caps vs hn hc=>exact VR.single (.fn f caps vs hn hc) rfl rfl rfl
end
def OR (ψ:Nat→FuncId) (w:World) (S:Nat→Prop) (m:Nat→Nat × Nat) (A:Nat→Prop) (bm:Nat × Nat):ji→Prop
 | .cells z es _=>bm.2=z∧(∀ (i:Nat) (e:List AV),es[i]?=some e→e.length=z)∧∃ c t,w.heap[bm.1]?=some (.cells c t (0,0))∧es.length * z≤c.size ∧
  ∀ (i:Nat) (e:List AV) (j:Nat) (x:AV),es[i]?=some e→e[j]?=some x→x.cell=true∧∃ v,c[i * z+j]?=some v∧VR ψ w S m A x v
 | .map es=>∃ es' clock,w.heap[bm.1]?=some (.map es' clock)∧es'.size=es.length ∧
  ∀ (i:Nat) (k v:AV),es[i]?=some (k,v)→k.cell=true∧∃ x,es'[i]?=some x∧VR ψ w S m A k x.key∧VR ψ w S m A v x.val
 | .iter s pos=>w.heap[bm.1]?=some (.stringIter ⟨⟨s⟩⟩ pos)
def nM:ji→Bool
 | .cells _ _ mu=>mu
 | _=>true
structure Inv (ψ:Nat→FuncId) (N:Nat) (w0:World) (w:World) (S:Nat→Prop) (m:Nat→Nat × Nat) (A:Nat→Prop) (h:Heap):Prop where
 dom:∀ b o,get h b=some o→A b
 obj:∀ b o,get h b=some o→OR ψ w S m A (m b) o
 fro:∀ b o,get h b=some o→nM o=false→S (m b).1
 live:∀ b o,get h b=some o→nM o=true→¬ S (m b).1∧N≤(m b).1
 inj:∀ b o b' o',get h b=some o→get h b'=some o'→nM o=true→nM o'=true→b≠b'→(m b).1≠(m b').1
 sb:∀ c,S c→c < w.heap.size
 size:N≤w.heap.size
 old:∀ c,c < N→w.heap[c]?=w0.heap[c]?
 os:w.os=w0.os
 out:w.output=w0.output
theorem OR.lt {ψ:Nat→FuncId} {w:World} {S:Nat→Prop} {m:Nat→Nat × Nat} {A:Nat→Prop} {bm:Nat × Nat} {o:ji} (h:OR ψ w S m A bm o):bm.1 < w.heap.size:=by
 cases o with
 | cells z es mu=>obtain ⟨_,_,c,t,h,_⟩:=h;exact (Array.getElem?_eq_some_iff.1 h).1
 | map es=>obtain ⟨es',clock,h,_⟩:=h;exact (Array.getElem?_eq_some_iff.1 h).1
 | iter s pos=>exact (Array.getElem?_eq_some_iff.1 h).1
theorem OR.mono {ψ:Nat→FuncId} {w w':World} {S S':Nat→Prop} {m m':Nat→Nat × Nat} {A A':Nat→Prop} {bm:Nat × Nat} {o:ji} (h:OR ψ w S m A bm o)
 (le:Le w S m A w' S' m' A') (hb:w'.heap[bm.1]?=w.heap[bm.1]?):OR ψ w' S' m' A' bm o:=by
 cases o with
 | cells z es mu =>
  obtain ⟨h0,h1,c,t,h2,h3,h4⟩:=h
  refine ⟨h0,h1,c,t,hb.trans h2,h3,fun i e j x he hx=>?_⟩
  obtain ⟨h5,v,h6,h7⟩:=h4 i e j x he hx
  exact ⟨h5,v,h6,h7.mono le⟩
 | map es =>
  obtain ⟨es',clock,h1,h2,h3⟩:=h
  refine ⟨es',clock,hb.trans h1,h2,fun i k v he=>?_⟩
  obtain ⟨h4,x,h5,h6,h7⟩:=h3 i k v he
  exact ⟨h4,x,h5,h6.mono le,h7.mono le⟩
 | iter s pos=>exact hb.trans h
end Go.Pav
end
section
set_option linter.unusedSimpArgs false
set_option linter.unusedVariables false
namespace Go.Pav
open Go
def gu (m:Nat→Nat × Nat) (nid:Nat) (x:Nat × Nat):Nat→Nat × Nat:=fun b=>if b=nid then x else m b
def rQ (A:Nat→Prop) (nid:Nat):Nat→Prop:=fun b=>A b∨b=nid
section
variable {ψ:Nat→FuncId} {N:Nat} {w0 w w':World} {S:Nat→Prop} {m:Nat→Nat × Nat} {A:Nat→Prop} {h:Heap}
theorem Le.xQ (hh:w'.heap=w.heap):Le w S m A w' S m A :=
 ⟨fun _ _=>by rw [hh],fun _ c _ _ hc=>⟨c,by rw [hh];exact hc,rfl⟩,by rw [hh];exact Nat.le_refl _,fun _ x=>x,fun _ x=>x,fun _ _=>rfl⟩
theorem Inv.xQ (i:Inv ψ N w0 w S m A h) (hh:w'.heap=w.heap) (ho:w'.os=w.os) (ht:w'.output=w.output):Inv ψ N w0 w' S m A h where
 dom:=i.dom
 obj b o hb:=(i.obj b o hb).mono (Le.xQ hh) (by rw [hh])
 fro:=i.fro
 live:=i.live
 inj:=i.inj
 sb c hc:=by rw [hh];exact i.sb c hc
 size:=by rw [hh];exact i.size
 old c hc:=by rw [hh];exact i.old c hc
 os:=ho.trans i.os
 out:=ht.trans i.out
theorem Le.push {obj:Obj} (hh:w'.heap=w.heap.push obj) (sb:∀ c,S c→c < w.heap.size) {nid:Nat} (hn:¬ A nid) (x:Nat × Nat) :
 Le w S m A w' S (gu m nid x) (rQ A nid) where
 kept b hb:=by rw [hh,Array.getElem?_push,if_neg (Nat.ne_of_lt (sb b hb))]
 rows b c t fr hc:=⟨c,by
  have:=(Array.getElem?_eq_some_iff.1 hc).1
  rw [hh,Array.getElem?_push,if_neg (Nat.ne_of_lt this)];exact hc,rfl⟩
 size:=by rw [hh];simp
 sub _ hb:=hb
 made _ hb:=.inl hb
 same b hb:=by
  have:b≠nid:=fun e=>hn (e ▸ hb)
  simp [gu,this]
theorem Inv.push {obj:Obj} (i:Inv ψ N w0 w S m A h) (hh:w'.heap=w.heap.push obj) (ho:w'.os=w.os) (ht:w'.output=w.output) {nid:Nat} (hn:¬ A nid) (z:Nat) (o:ji)
 (hor:OR ψ w' S (gu m nid (w.heap.size,z)) (rQ A nid) (w.heap.size,z) o) (hm:nM o=true) :
 Inv ψ N w0 w' S (gu m nid (w.heap.size,z)) (rQ A nid) (put h nid o):=by
 have le:=Le.push (m:=m) hh i.sb hn (w.heap.size,z)
 have ne:∀ b o',get h b=some o'→b≠nid:=fun b o' hb e=>hn (e ▸ i.dom b o' hb)
 have nsz:¬ S w.heap.size:=fun hs=>Nat.lt_irrefl _ (i.sb _ hs)
 have mof:∀ b,b≠nid→gu m nid (w.heap.size,z) b=m b:=fun b hb=>by simp [gu,hb]
 have mn:gu m nid (w.heap.size,z) nid=(w.heap.size,z):=by simp [gu]
 have blk:∀ c,c < w.heap.size→w'.heap[c]?=w.heap[c]?:=fun c hc=>by rw [hh,Array.getElem?_push,if_neg (Nat.ne_of_lt hc)]
 constructor
 · intro b o' hb
   rw [get_put] at hb
   by_cases e:nid=b
   · exact .inr e.symm
   · rw [if_neg e] at hb;exact .inl (i.dom b o' hb)
 · intro b o' hb
   rw [get_put] at hb
   by_cases e:nid=b
   · rw [if_pos e] at hb
     cases hb
     subst e
     rw [mn];exact hor
   · rw [if_neg e] at hb
     rw [mof b (Ne.symm e)]
     exact (i.obj b o' hb).mono le (blk _ (i.obj b o' hb).lt)
 · intro b o' hb hf
   rw [get_put] at hb
   by_cases e:nid=b
   · rw [if_pos e] at hb;cases hb;rw [hm] at hf;cases hf
   · rw [if_neg e] at hb;rw [mof b (Ne.symm e)];exact i.fro b o' hb hf
 · intro b o' hb hf
   rw [get_put] at hb
   by_cases e:nid=b
   · subst e;rw [mn];exact ⟨nsz,i.size⟩
   · rw [if_neg e] at hb;rw [mof b (Ne.symm e)];exact i.live b o' hb hf
 · intro b o1 b' o2 h1 h2 f1 f2 hne
   rw [get_put] at h1 h2
   by_cases e1:nid=b
   · by_cases e2:nid=b'
     · exact absurd (e1.symm.trans e2) hne
     · rw [if_neg e2] at h2
       subst e1
       rw [mn,mof b' (Ne.symm e2)]
       exact Nat.ne_of_gt (i.obj b' o2 h2).lt
   · rw [if_neg e1] at h1
     by_cases e2:nid=b'
     · subst e2
       rw [mn,mof b (Ne.symm e1)]
       exact Nat.ne_of_lt (i.obj b o1 h1).lt
     · rw [if_neg e2] at h2
       rw [mof b (Ne.symm e1),mof b' (Ne.symm e2)]
       exact i.inj b o1 b' o2 h1 h2 f1 f2 hne
 · intro c hc
   exact Nat.lt_of_lt_of_le (i.sb c hc) le.size
 · exact Nat.le_trans i.size le.size
 · intro c hc
   rw [blk c (Nat.lt_of_lt_of_le hc i.size)]
   exact i.old c hc
 · exact ho.trans i.os
 · exact ht.trans i.out
theorem Le.write {g:Nat} (hg:¬ S g) (hb:∀ b,b≠g→w'.heap[b]?=w.heap[b]?) (hs:w'.heap.size=w.heap.size)
 (hrow:∀ c t fr,w.heap[g]?=some (.cells c t fr)→∃ c',w'.heap[g]?=some (.cells c' t fr)∧c'.size=c.size):Le w S m A w' S m A where
 kept b hS:=hb b (fun e=>hg (e ▸ hS))
 rows b c t fr hc:=by
  by_cases e:b=g
  · subst e;exact hrow c t fr hc
  · exact ⟨c,by rw [hb b e];exact hc,rfl⟩
 size:=by omega
 sub _ x:=x
 made _ x:=x
 same _ _:=rfl
theorem Inv.write (i:Inv ψ N w0 w S m A h) {b:Nat} {o o':ji} (hget:get h b=some o) (hm:nM o=true) (hm':nM o'=true)
 (hb:∀ c,c≠(m b).1→w'.heap[c]?=w.heap[c]?) (hs:w'.heap.size=w.heap.size) (ho:w'.os=w.os) (ht:w'.output=w.output)
 (hrow:∀ c t fr,w.heap[(m b).1]?=some (.cells c t fr)→∃ c',w'.heap[(m b).1]?=some (.cells c' t fr)∧c'.size=c.size)
 (hor:OR ψ w' S m A (m b) o'):Inv ψ N w0 w' S m A (put h b o'):=by
 have le:Le w S m A w' S m A:=Le.write (i.live b o hget hm).1 hb hs hrow
 constructor
 · intro c x hc
   rw [get_put] at hc
   by_cases e:b=c
   · subst e;exact i.dom b o hget
   · rw [if_neg e] at hc;exact i.dom c x hc
 · intro c x hc
   rw [get_put] at hc
   by_cases e:b=c
   · subst e;rw [if_pos rfl] at hc;cases hc;exact hor
   · rw [if_neg e] at hc
     refine (i.obj c x hc).mono le (hb _ ?_)
     cases hx:nM x with
     | true=>exact i.inj c x b o hc hget hx hm (Ne.symm e)
     | false=>exact fun e2=>(i.live b o hget hm).1 (e2 ▸ i.fro c x hc hx)
 · intro c x hc hf
   rw [get_put] at hc
   by_cases e:b=c
   · rw [if_pos e] at hc;cases hc;rw [hm'] at hf;cases hf
   · rw [if_neg e] at hc;exact i.fro c x hc hf
 · intro c x hc hf
   rw [get_put] at hc
   by_cases e:b=c
   · subst e;exact i.live b o hget hm
   · rw [if_neg e] at hc;exact i.live c x hc hf
 · intro c o1 c' o2 h1 h2 f1 f2 hne
   rw [get_put] at h1 h2
   by_cases e1:b=c
   · by_cases e2:b=c'
     · exact absurd (e1.symm.trans e2) hne
     · rw [if_neg e2] at h2
       subst e1
       exact i.inj b o c' o2 hget h2 hm f2 hne
   · rw [if_neg e1] at h1
     by_cases e2:b=c'
     · subst e2;exact i.inj c o1 b o h1 hget f1 hm hne
     · rw [if_neg e2] at h2;exact i.inj c o1 c' o2 h1 h2 f1 f2 hne
 · intro c hc;rw [hs];exact i.sb c hc
 · rw [hs];exact i.size
 · intro c hc
   rw [hb c]
   · exact i.old c hc
   · have:=(i.live b o hget hm).2;omega
 · exact ho.trans i.os
 · exact ht.trans i.out
theorem Inv.del (i:Inv ψ N w0 w S m A h) (b:Nat):Inv ψ N w0 w S m A (del h b):=by
 have sub:∀ c o,get (Pav.del h b) c=some o→get h c=some o:=by
  intro c o hc
  rw [oz] at hc
  by_cases e:b=c
  · simp [e] at hc
  · rwa [if_neg e] at hc
 exact ⟨fun c o hc=>i.dom c o (sub c o hc),fun c o hc=>i.obj c o (sub c o hc),fun c o hc=>i.fro c o (sub c o hc),fun c o hc=>i.live c o (sub c o hc),
  fun c o c' o' h1 h2=>i.inj c o c' o' (sub c o h1) (sub c' o' h2),i.sb,i.size,i.old,i.os,i.out⟩
theorem Le.adopt {g:Nat} (hg:¬ S g) (hb:∀ b,b≠g→w'.heap[b]?=w.heap[b]?) (hs:w'.heap.size=w.heap.size)
 (hrow:∀ c t fr,w.heap[g]?=some (.cells c t fr)→∃ c',w'.heap[g]?=some (.cells c' t fr)∧c'.size=c.size) {nid:Nat} (hn:¬ A nid) (x:Nat × Nat):Le w S m A w' S (gu m nid x) (rQ A nid) where
 kept b hS:=hb b (fun e=>hg (e ▸ hS))
 rows b c t fr hc:=by
  by_cases e:b=g
  · subst e;exact hrow c t fr hc
  · exact ⟨c,by rw [hb b e];exact hc,rfl⟩
 size:=by omega
 sub _ x:=x
 made _ x:=.inl x
 same b hb:=by
  have:b≠nid:=fun e=>hn (e ▸ hb)
  simp [gu,this]
theorem Inv.adopt (i:Inv ψ N w0 w S m A h) {b nid:Nat} {o o':ji} (hget:get h b=some o) (hm:nM o=true) (hm':nM o'=true) (hn:¬ A nid) (z:Nat)
 (hb:∀ c,c≠(m b).1→w'.heap[c]?=w.heap[c]?) (hs:w'.heap.size=w.heap.size) (ho:w'.os=w.os) (ht:w'.output=w.output)
 (hrow:∀ c t fr,w.heap[(m b).1]?=some (.cells c t fr)→∃ c',w'.heap[(m b).1]?=some (.cells c' t fr)∧c'.size=c.size)
 (hor:OR ψ w' S (gu m nid ((m b).1,z)) (rQ A nid) ((m b).1,z) o'):Inv ψ N w0 w' S (gu m nid ((m b).1,z)) (rQ A nid) (put (Pav.del h b) nid o'):=by
 have hlive:=i.live b o hget hm
 have le:Le w S m A w' S (gu m nid ((m b).1,z)) (rQ A nid):=Le.adopt hlive.1 hb hs hrow hn _
 have sub:∀ c x,get (Pav.del h b) c=some x→get h c=some x∧c≠b∧c≠nid:=by
  intro c x hc
  rw [oz] at hc
  by_cases e:b=c
  · simp [e] at hc
  · rw [if_neg e] at hc
    exact ⟨hc,Ne.symm e,fun e2=>hn (e2 ▸ i.dom c x hc)⟩
 have mof:∀ c,c≠nid→gu m nid ((m b).1,z) c=m c:=fun c hc=>by simp [gu,hc]
 have mn:gu m nid ((m b).1,z) nid=((m b).1,z):=by simp [gu]
 have part:∀ c x,get h c=some x→c≠b→(m c).1≠(m b).1:=by
  intro c x hc hcb
  cases hx:nM x with
  | true=>exact i.inj c x b o hc hget hx hm hcb
  | false=>exact fun e2=>hlive.1 (e2 ▸ i.fro c x hc hx)
 constructor
 · intro c x hc
   rw [get_put] at hc
   by_cases e:nid=c
   · exact .inr e.symm
   · rw [if_neg e] at hc;exact .inl (i.dom c x (sub c x hc).1)
 · intro c x hc
   rw [get_put] at hc
   by_cases e:nid=c
   · rw [if_pos e] at hc;cases hc;subst e;rw [mn];exact hor
   · rw [if_neg e] at hc
     obtain ⟨q1,q2,q3⟩:=sub c x hc
     rw [mof c q3]
     exact (i.obj c x q1).mono le (hb _ (part c x q1 q2))
 · intro c x hc hf
   rw [get_put] at hc
   by_cases e:nid=c
   · rw [if_pos e] at hc;cases hc;rw [hm'] at hf;cases hf
   · rw [if_neg e] at hc
     obtain ⟨q1,q2,q3⟩:=sub c x hc
     rw [mof c q3];exact i.fro c x q1 hf
 · intro c x hc hf
   rw [get_put] at hc
   by_cases e:nid=c
   · subst e;rw [mn];exact hlive
   · rw [if_neg e] at hc
     obtain ⟨q1,q2,q3⟩:=sub c x hc
     rw [mof c q3];exact i.live c x q1 hf
 · intro c o1 c' o2 h1 h2 f1 f2 hne
   rw [get_put] at h1 h2
   by_cases e1:nid=c
   · by_cases e2:nid=c'
     · exact absurd (e1.symm.trans e2) hne
     · rw [if_neg e2] at h2
       obtain ⟨q1,q2,q3⟩:=sub c' o2 h2
       subst e1
       rw [mn,mof c' q3]
       exact Ne.symm (part c' o2 q1 q2)
   · rw [if_neg e1] at h1
     obtain ⟨q1,q2,q3⟩:=sub c o1 h1
     by_cases e2:nid=c'
     · subst e2
       rw [mn,mof c q3]
       exact part c o1 q1 q2
     · rw [if_neg e2] at h2
       obtain ⟨r1,r2,r3⟩:=sub c' o2 h2
       rw [mof c q3,mof c' r3]
       exact i.inj c o1 c' o2 q1 r1 f1 f2 hne
 · intro c hc;rw [hs];exact i.sb c hc
 · rw [hs];exact i.size
 · intro c hc
   rw [hb c]
   · exact i.old c hc
   · have:=hlive.2;omega
 · exact ho.trans i.os
 · exact ht.trans i.out
theorem Inv.sub (i:Inv ψ N w0 w S m A h) {h':Heap} (sub:∀ c o,get h' c=some o→get h c=some o):Inv ψ N w0 w S m A h' :=
 ⟨fun c o hc=>i.dom c o (sub c o hc),fun c o hc=>i.obj c o (sub c o hc),fun c o hc=>i.fro c o (sub c o hc),fun c o hc=>i.live c o (sub c o hc),
  fun c o c' o' h1 h2=>i.inj c o c' o' (sub c o h1) (sub c' o' h2),i.sb,i.size,i.old,i.os,i.out⟩
end
def jO (ψ:Nat→FuncId) (w:World) (S:Nat→Prop) (m:Nat→Nat × Nat) (A:Nat→Prop) (e:Env) (tmps:Array Value):Prop :=
 ∀ s v,get e s=some v→VR ψ w S m A v (tmps.getD s Go.undef)
theorem jO.mono {ψ:Nat→FuncId} {w w':World} {S S':Nat→Prop} {m m':Nat→Nat × Nat} {A A':Nat→Prop} {e:Env} {tmps:Array Value}
 (h:jO ψ w S m A e tmps) (le:Le w S m A w' S' m' A'):jO ψ w' S' m' A' e tmps:=fun s v hs=>(h s v hs).mono le
theorem jO.put {ψ:Nat→FuncId} {w:World} {S:Nat→Prop} {m:Nat→Nat × Nat} {A:Nat→Prop} {e:Env} {tmps:Array Value} (h:jO ψ w S m A e tmps)
 {d:Nat} (hd:d < tmps.size) {v:AV} {c:Value} (hv:VR ψ w S m A v c):jO ψ w S m A (put e d v) (tmps.setIfInBounds d c):=by
 intro s x hs
 rw [get_put] at hs
 by_cases e1:d=s
 · subst e1
   rw [if_pos rfl] at hs
   cases hs
   have:(tmps.setIfInBounds d c).getD d Go.undef=c:=by simp [Array.getD,hd]
   rw [this];exact hv
 · rw [if_neg e1] at hs
   have:(tmps.setIfInBounds d c).getD s Go.undef=tmps.getD s Go.undef:=by
    simp only [Array.getD_eq_getD_getElem?]
    rw [Array.getElem?_setIfInBounds_ne e1]
   rw [this];exact h s x hs
theorem jO.keep {ψ:Nat→FuncId} {w:World} {S:Nat→Prop} {m:Nat→Nat × Nat} {A:Nat→Prop} {e:Env} {tmps:Array Value} (h:jO ψ w S m A e tmps) (k:Nat) :
 jO ψ w S m A (Pav.keep k e) tmps:=by
 intro s v hs
 rw [OI] at hs
 by_cases hk:k.testBit s=true
 · rw [if_pos hk] at hs;exact h s v hs
 · rw [if_neg hk] at hs;cases hs
end Go.Pav
end
section
set_option linter.unusedSimpArgs false
set_option linter.unusedVariables false
namespace Go.Pav
open Go
structure Cx (P:Program) (φ:FuncId→Option Nat) (ψ:Nat→FuncId) (N:Nat) (w0 w:World) (S:Nat→Prop) (m:Nat→Nat × Nat) (A:Nat→Prop) (h:Heap) (e:Env) (a:Act):Prop where
 inv:Inv ψ N w0 w S m A h
 env:jO ψ w S m A e a.tmps
 ids:∀ f g,φ f=some g→ψ g=f
def Snd (P:Program) (ψ:Nat→FuncId) (N:Nat) (w0 w:World) (S:Nat→Prop) (m:Nat→Nat × Nat) (A:Nat→Prop) (x:Sem Next) (h':Heap) (v:AV) (nid:Nat):Prop :=
 ∃ cv w' S' m' A',(x.run P w=.ok (.value cv) w'∨(x.run P w=.ok .skip w'∧cv=Go.undef))∧VR ψ w' S' m' A' v cv∧Inv ψ N w0 w' S' m' A' h'∧Le w S m A w' S' m' A' ∧
  (∀ c,c < N→S' c→S c)∧∀ b,A' b→A b∨b=nid
section
variable {P:Program} {φ:FuncId→Option Nat} {ψ:Nat→FuncId} {N:Nat} {w0 w:World} {S:Nat→Prop} {m:Nat→Nat × Nat} {A:Nat→Prop} {h:Heap} {e:Env} {a:Act}
theorem Snd.quiet {x:Sem Next} {cv:Value} {v:AV} (i:Inv ψ N w0 w S m A h) (hr:x.run P w=.ok (.value cv) w) (hv:VR ψ w S m A v cv) (nid:Nat) :
 Snd P ψ N w0 w S m A x h v nid :=
 ⟨cv,w,S,m,A,.inl hr,hv,i,Le.refl ..,fun _ _ hs=>hs,fun _ hb=>.inl hb⟩
theorem bytes_eta (s:ByteArray):s=⟨⟨s.data.toList⟩⟩:=by cases s;rfl
theorem BH {v:Value} {x:AV} (hx:CU v=some x):VR ψ w S m A x v∧x.cell=true∧x.cells=[x]∧v.cells=#[v]:=by
 unfold CU at hx
 split at hx <;> first
  | (cases hx;exact ⟨by constructor,rfl,rfl,rfl⟩)
  | (cases hx;refine ⟨?_,rfl,rfl,rfl⟩;rename_i s;have:=VR.str (ψ:=ψ) (w:=w) (S:=S) (m:=m) (A:=A) s.data.toList;rwa [← bytes_eta s] at this)
  | cases hx
theorem mapM_some {α β:Type} {f:α→Option β}:∀ {l:List α} {r:List β},l.mapM f=some r→r.length=l.length∧∀ (i:Nat) (b:β),r[i]?=some b→∃ a,l[i]?=some a∧f a=some b:=by
 intro l
 induction l with
 | nil=>intro r h;simp at h;subst h;simp
 | cons a l ih =>
  intro r h
  simp only [List.mapM_cons,Option.bind_eq_bind,Option.bind_eq_some_iff,Option.pure_def,Option.some.injEq] at h
  obtain ⟨b,hb,bs,hbs,rfl⟩:=h
  obtain ⟨hl,hi⟩:=ih hbs
  refine ⟨by simp [hl],?_⟩
  intro i x hx
  cases i with
  | zero=>simp at hx;subst hx;exact ⟨a,by simp,hb⟩
  | succ i=>simpa using hi i x (by simpa using hx)
theorem CY {cs:Array Value} {r:List AV} (hr:cs.toList.mapM CU=some r) :
 cs.size=r.length∧(∀ (j:Nat) (x:AV),r[j]?=some x→x.cell=true)∧∀ (j:Nat) (x:AV),r[j]?=some x→VR ψ w S m A x (cs.getD j Go.undef):=by
 obtain ⟨hl,hi⟩:=mapM_some hr
 refine ⟨by simpa using hl.symm,fun j x hx=>?_,fun j x hx=>?_⟩
 · obtain ⟨v,_,h2⟩:=hi j x hx
   exact (BH (ψ:=ψ) (w:=w) (S:=S) (m:=m) (A:=A) h2).2.1
 · obtain ⟨v,h1,h2⟩:=hi j x hx
   have h3:=(BH (ψ:=ψ) (w:=w) (S:=S) (m:=m) (A:=A) h2).1
   have:cs.getD j Go.undef=v:=by
    rw [Array.getD_eq_getD_getElem?]
    simp only [Array.getElem?_toList] at h1
    simp [h1]
   rwa [this]
theorem VL {v:Value} {x:AV} (hx:afO v=some x):VR ψ w S m A x v:=by
 unfold afO at hx
 split at hx
 · rename_i cs
   simp only [Option.map_eq_some_iff] at hx
   obtain ⟨r,hr,rfl⟩:=hx
   obtain ⟨h1,h2,h3⟩:=CY (ψ:=ψ) (w:=w) (S:=S) (m:=m) (A:=A) hr
   exact .agg r cs h1 h2 h3
 · exact (BH hx).1
theorem Cx.opd (cx:Cx P φ ψ N w0 w S m A h e a) {x:Operand} {y:Opd} (hy:fA φ x=some y):VR ψ w S m A (y.ev e) (a.eval x):=by
 unfold fA at hy
 split at hy
 · cases hy
   rename_i t
   simp only [Opd.ev]
   cases hg:get e t with
   | none=>exact .undef _
   | some v=>exact cx.env t v hg
 · simp only [Option.map_eq_some_iff] at hy
   obtain ⟨v,hv,rfl⟩:=hy
   exact VL hv
 · simp only [Option.map_eq_some_iff] at hy
   obtain ⟨g,hg,rfl⟩:=hy
   rename_i f
   have:=VR.fn (ψ:=ψ) (w:=w) (S:=S) (m:=m) (A:=A) g [] #[] rfl (by simp)
   rw [cx.ids f g hg] at this
   exact this
 · cases hy
theorem Cx.alM (cx:Cx P φ ψ N w0 w S m A h e a) {xs:Array Operand} {ys:List Opd} (hy:Jz φ xs.toList=some ys) :
 xs.size=ys.length∧∀ (j:Nat) (y:Opd),ys[j]?=some y→∃ x,xs[j]?=some x∧VR ψ w S m A (y.ev e) (a.eval x):=by
 obtain ⟨hl,hi⟩:=mapM_some hy
 refine ⟨by simpa using hl.symm,fun j y hj=>?_⟩
 obtain ⟨x,h1,h2⟩:=hi j y hj
 exact ⟨x,by simpa using h1,cx.opd h2⟩
section inversions
variable {c:Value}
theorem VR.dI {k:IntKind} {n:Int} (hv:VR ψ w S m A (.int k n) c):c=.int k n:=by cases hv;rfl
theorem VR.iq {b:Bool} (hv:VR ψ w S m A (.bool b) c):c=.bool b:=by cases hv;rfl
theorem VR.jh {s:List UInt8} (hv:VR ψ w S m A (.str s) c):c=.string ⟨⟨s⟩⟩:=by cases hv;rfl
theorem VR.fM (hv:VR ψ w S m A .aZ c):c=.slice none 0 0:=by cases hv;rfl
theorem VR.rV (hv:VR ψ w S m A .dV c):c=.pointer none:=by cases hv;rfl
theorem VR.rP (hv:VR ψ w S m A .dN c):c=.map none:=by cases hv;rfl
theorem VR.zM (hv:VR ψ w S m A .bK c):c=.nilFunc:=by cases hv;rfl
theorem VR.kQ {b i o:Nat} (hv:VR ψ w S m A (.ptr b i o) c):A b∧c=.pointer (some ⟨(m b).1,i * (m b).2+o,none⟩):=by cases hv;rename_i h;exact ⟨h,rfl⟩
theorem VR.yO {b:Nat} (hv:VR ψ w S m A (.map b) c):A b∧c=.map (some (m b).1):=by cases hv;rename_i h;exact ⟨h,rfl⟩
theorem VR.lY {b z i len cap:Nat} {ex:Bool} (hv:VR ψ w S m A (.sl b z i len cap ex) c):∃ cc,c=.slice (some ⟨(m b).1,i * z,none⟩) len cc∧A b∧(m b).2=z∧len≤cc∧cap≤cc ∧
 (ex=true→cc=cap)∧∃ cur t fr,w.heap[(m b).1]?=some (.cells cur t fr)∧(i+cc) * z≤cur.size:=by
 cases hv with
 | sl b z i len cap ex cc hA hz hl hc hx hrow=>exact ⟨cc,rfl,hA,hz,hl,hc,hx,hrow⟩
theorem VR.nI {z:Nat} {es:List (List AV)} {ex:Bool} (hv:VR ψ w S m A (.ro z es ex) c):(∃ (b off cap:Nat) (cs:Nat→Nat→Value),c=.slice (some ⟨b,off,none⟩) es.length cap∧S b ∧
 (∀ (i:Nat) (e:List AV),es[i]?=some e→e.length=z)∧es.length≤cap∧(ex=true→cap=es.length) ∧
 (∀ (i:Nat) (e:List AV) (j:Nat) (x:AV),es[i]?=some e→e[j]?=some x→x.cell=true∧w.cell? ⟨b,off+i * z+j,none⟩=some (cs i j)) ∧
 ∀ (i:Nat) (e:List AV) (j:Nat) (x:AV),es[i]?=some e→e[j]?=some x→VR ψ w S m (fun _=>False) x (cs i j)) ∨
 (es=[]∧∃ (a:Addr) (k:Nat),c=.slice (some a) 0 k∧(ex=true→k=0)):=by
 cases hv with
 | ro z es ex b off cap cs hS hz hc hx hcell hrep=>exact .inl ⟨b,off,cap,cs,rfl,hS,hz,hc,hx,hcell,hrep⟩
 | roe z ex a k hk=>exact .inr ⟨rfl,a,k,rfl,hk⟩
theorem VR.qc {cs:List AV} (hv:VR ψ w S m A (.rop cs) c):∃ (b off:Nat) (vs:Nat→Value),c=.pointer (some ⟨b,off,none⟩)∧S b ∧
 (∀ (j:Nat) (x:AV),cs[j]?=some x→x.cell=true∧w.cell? ⟨b,off+j,none⟩=some (vs j)) ∧
 ∀ (j:Nat) (x:AV),cs[j]?=some x→VR ψ w S m (fun _=>False) x (vs j):=by
 cases hv with
 | rop cs b off vs hS hcell hrep=>exact ⟨b,off,vs,rfl,hS,hcell,hrep⟩
theorem VR.Cm {f:Nat} {caps:List AV} (hv:VR ψ w S m A (.fn f caps) c):∃ vs,c=.func (.func (ψ f)) #[] vs∧vs.size=caps.length ∧
 ∀ (j:Nat) (x:AV),caps[j]?=some x→VR ψ w S m A x (vs.getD j Go.undef):=by cases hv;rename_i vs h1 h2;exact ⟨vs,rfl,h1,h2⟩
theorem VR.uq {cs:List AV} (hv:VR ψ w S m A (.agg cs) c):∃ vs,c=.agg vs∧vs.size=cs.length∧(∀ (j:Nat) (x:AV),cs[j]?=some x→x.cell=true) ∧
 ∀ (j:Nat) (x:AV),cs[j]?=some x→VR ψ w S m A x (vs.getD j Go.undef):=by cases hv;rename_i vs h1 h2 h3;exact ⟨vs,rfl,h1,h2,h3⟩
theorem VR.Vo {cs:List AV} (hv:VR ψ w S m A (.tup cs) c):∃ vs,c=.tuple vs∧vs.size=cs.length ∧
 ∀ (j:Nat) (x:AV),cs[j]?=some x→VR ψ w S m A x (vs.getD j Go.undef):=by cases hv;rename_i vs h1 h2;exact ⟨vs,rfl,h1,h2⟩
theorem VR.open_ {v:AV} {A':Nat→Prop} (hv:VR ψ w S m (fun _=>False) v c):VR ψ w S m A' v c :=
 hv.mono' (fun _ _=>rfl) (fun _ c _ _ h=>⟨c,h,rfl⟩) (fun _ h=>h) (fun _ h=>h.elim) (fun _ h=>h.elim)
end inversions
theorem nat?_some {n:Int} {k:Nat} (hn:nat? n=some k):n=(k:Int):=by
 cases n with
 | ofNat a=>simp [nat?] at hn;subst hn;rfl
 | negSucc a=>simp [nat?] at hn
theorem dS {x:Option AV} {v:AV} {u:Upd} (hx:ov x=some (v,u)):x=some v∧u=[]:=by
 obtain ⟨y,h1,h2⟩:=aC hx
 cases h2
 exact ⟨h1,rfl⟩
theorem Snd.val {o:Oper} {s:Sem Value} (i:Inv ψ N w0 w S m A h) (hx:execOp a.eval o=(do pure (.value (← s)))) {cv:Value} {v:AV} (hr:s.run P w=.ok cv w) (hv:VR ψ w S m A v cv) (nid:Nat) :
 Snd P ψ N w0 w S m A (execOp a.eval o) h v nid :=
 Snd.quiet i (by rw [hx];simp [hr]) hv nid
theorem bytesLess_eq:∀ (x y:List UInt8),bytesLess x y=Op.bytesLess x y
 | _,[]=>by simp [bytesLess,Op.bytesLess]
 | [],_::_=>rfl
 | a::x,b::y=>by
  simp only [bytesLess,Op.bytesLess,bytesLess_eq x y]
  congr 1
theorem kU (s:List UInt8):(⟨⟨s⟩⟩:ByteArray).toList=s:=ByteArray.toList_eq _
theorem MK (x y:List UInt8):(⟨⟨x⟩⟩++⟨⟨y⟩⟩:ByteArray)=⟨⟨x++y⟩⟩:=by
 have:(⟨⟨x⟩⟩++⟨⟨y⟩⟩:ByteArray).data=⟨x++y⟩:=by
  rw [ByteArray.data_append]
  simp
 calc (⟨⟨x⟩⟩++⟨⟨y⟩⟩:ByteArray)=⟨(⟨⟨x⟩⟩++⟨⟨y⟩⟩:ByteArray).data⟩:=rfl
  _=_:=by rw [this]
theorem QL {op:BinOp} {t:TypeId} {k:IntKind} {x y:Int} {v:AV} (hv:BN op k x y=some v) (hs:zx op=false) (X Y:Operand) :
 ∃ cv,(do eqGuard op t X Y (.int k x) (.int k y);binOp op t (.int k x) (.int k y):Sem Value).run P w=.ok cv w∧VR ψ w S m A v cv:=by
 cases op <;> simp [zx] at hs <;> simp only [BN] at hv
 case quo=>split at hv <;> cases hv;refine ⟨_,?_,.int _ _⟩;simp_all [binOp,Op.intDiv,eqGuard_at_int]
 case rem=>split at hv <;> cases hv;refine ⟨_,?_,.int _ _⟩;simp_all [binOp,Op.intDiv,eqGuard_at_int]
 all_goals (cases hv;first | refine ⟨_,?_,.int _ _⟩ | refine ⟨_,?_,.bool _⟩)
 all_goals simp [binOp,Op.intArith,Op.intBits,Op.intCmp,eqGuard_at_int]
theorem XU {op:BinOp} {t:TypeId} {k k':IntKind} {x:Int} {n:Nat} {v:AV} (hv:rG op k x n=some v) (X Y:Operand) :
 ∃ cv,(do eqGuard op t X Y (.int k x) (.int k' n);binOp op t (.int k x) (.int k' n):Sem Value).run P w=.ok cv w∧VR ψ w S m A v cv:=by
 have h0:¬ ((n:Int) < 0):=by omega
 cases op <;> simp only [rG] at hv <;> cases hv <;> refine ⟨_,?_,.int _ _⟩ <;> simp [binOp,Op.shift,eqGuard_at_int,h0]
theorem RD {op:BinOp} {t:TypeId} {x y:List UInt8} {v:AV} (hv:BI op x y=some v) (X Y:Operand) :
 ∃ cv,(do eqGuard op t X Y (.string ⟨⟨x⟩⟩) (.string ⟨⟨y⟩⟩);binOp op t (.string ⟨⟨x⟩⟩) (.string ⟨⟨y⟩⟩):Sem Value).run P w=.ok cv w∧VR ψ w S m A v cv:=by
 have sz:∀ s:List UInt8,(⟨⟨s⟩⟩:ByteArray).size=s.length:=fun s=>rfl
 cases op <;> simp only [BI] at hv
 case add =>
  split at hv
  · rename_i hl
    cases hv
    refine ⟨_,?_,.str _⟩
    rw [eqGuard_at_string]
    simp only [pure_bind,binOp_string_add]
    have hl':(⟨⟨x⟩⟩:ByteArray).size+(⟨⟨y⟩⟩:ByteArray).size≤9223372036854775807:=by rw [sz,sz];simp only [maxStr] at hl;omega
    rw [run_string_add_sum w ⟨⟨x⟩⟩ ⟨⟨y⟩⟩ hl',MK]
  · cases hv
 all_goals (cases hv)
 all_goals (refine ⟨_,?_,.bool _⟩;rw [eqGuard_at_string];simp only [pure_bind,binOp_string_eql,binOp_string_neq,binOp_string_lss,binOp_string_leq,binOp_string_gtr,binOp_string_geq,Sem.run_pure,kU,bytesLess_eq])
theorem Xi {op:BinOp} {t:TypeId} {x y:AV} {v:AV} (hv:yu op x y=some v) {cx cy:Value}
 (hx:VR ψ w S m A x cx) (hy:VR ψ w S m A y cy) (X Y:Operand) :
 ∃ cv,(do eqGuard op t X Y cx cy;binOp op t cx cy:Sem Value).run P w=.ok cv w∧VR ψ w S m A v cv:=by
 unfold yu at hv
 split at hv
 · cases hx.dI
   cases hy.dI
   by_cases hs:zx op=true
   · rw [if_pos hs] at hv
     obtain ⟨n,hn,hv⟩:=ak hv
     cases nat?_some hn
     exact XU hv X Y
   · rw [if_neg hs] at hv
     split at hv
     · rename_i hk
       subst hk
       exact QL hv (by simpa using hs) X Y
     · cases hv
 · cases hx.jh
   cases hy.jh
   exact RD hv X Y
 · cases hv
end
end Go.Pav
end
section
set_option linter.unusedSimpArgs false
set_option linter.unusedVariables false
namespace Go.Pav
open Go
def sK (ψ:Nat→FuncId) (w:World) (S:Nat→Prop) (m:Nat→Nat × Nat) (A:Nat→Prop) (cs:List AV) (g off:Nat):Prop :=
 ∀ (j:Nat) (x:AV),cs[j]?=some x→x.cell=true∧∃ u,w.cell? ⟨g,off+j,none⟩=some u∧VR ψ w S m A x u
section
variable {P:Program} {φ:FuncId→Option Nat} {ψ:Nat→FuncId} {N:Nat} {w0 w:World} {S:Nat→Prop} {m:Nat→Nat × Nat} {A:Nat→Prop} {h:Heap} {e:Env} {a:Act}
theorem sK.drop {cs:List AV} {g off:Nat} (hc:sK ψ w S m A cs g off) (k:Nat):sK ψ w S m A (cs.drop k) g (off+k):=by
 intro j x hx
 rw [List.getElem?_drop] at hx
 obtain ⟨h1,u,h2,h3⟩:=hc _ _ hx
 exact ⟨h1,u,by rw [Nat.add_assoc];exact h2,h3⟩
theorem wB {t:TypeId} {ag:Bool} (ht:uH P t=some ag):(isAgg t).run P w=.ok ag w:=by
 unfold uH at ht
 simp only [Option.map_eq_some_iff] at ht
 obtain ⟨d,hd,rfl⟩:=ht
 unfold isAgg
 rw [Sem.run_bind,run_underlying hd]
 cases d <;> rfl
theorem fC {t:TypeId} {n:Nat} (ht:sizeT P t=some n):(sizeOf t).run P w=.ok n w:=by
 unfold sizeT at ht
 simp only [Option.map_eq_some_iff] at ht
 obtain ⟨i,hi,rfl⟩:=ht
 simp [sizeOf,typeInfo,hi]
theorem lu (g off j:Nat):(⟨g,off,none⟩:Addr).add j=⟨g,off+j,none⟩:=Addr.add_lit g off j
theorem IG {cs:List AV} {g off n:Nat} (hc:sK ψ w S m A cs g off) (hn:n≤cs.length) :
 ∃ vs:Array Value,(loadCells ⟨g,off,none⟩ n).run P w=.ok vs w∧vs.size=n∧(∀ (j:Nat) (x:AV),(cs.take n)[j]?=some x→VR ψ w S m A x (vs.getD j Go.undef)) ∧
  ∀ j,j < n→w.cell? ⟨g,off+j,none⟩=some (vs.getD j Go.undef):=by
 have hf:∀ j,j < n→w.cell? ((⟨g,off,none⟩:Addr).add j)=some ((w.cell? ⟨g,off+j,none⟩).getD Go.undef):=by
  intro j hj
  obtain ⟨_,u,h2,_⟩:=hc j _ (List.getElem?_eq_getElem (by omega))
  rw [lu,h2];rfl
 have hg:∀ j,j < n→(((List.range n).map fun j=>(w.cell? ⟨g,off+j,none⟩).getD Go.undef).toArray).getD j Go.undef=(w.cell? ⟨g,off+j,none⟩).getD Go.undef:=by
  intro j hj
  rw [Array.getD_eq_getD_getElem?]
  simp [hj]
 refine ⟨_,run_loadCells w ⟨g,off,none⟩ n _ hf,by simp,?_,?_⟩
 · intro j x hx
   rw [List.getElem?_take] at hx
   by_cases hj:j < n
   · rw [if_pos hj] at hx
     obtain ⟨_,u,h2,h3⟩:=hc j x hx
     rw [hg j hj,h2];exact h3
   · rw [if_neg hj] at hx;cases hx
 · intro j hj
   rw [hg j hj]
   have:=hf j hj
   rwa [lu] at this
theorem vM {t:TypeId} {n:Nat} {ag:Bool} {cs:List AV} {g off:Nat} {v:AV} (hc:sK ψ w S m A cs g off) (hs:sizeT P t=some n) (hag:uH P t=some ag)
 (hl:qJ n ag cs=some v):∃ cv,(loadVar t ⟨g,off,none⟩).run P w=.ok cv w∧VR ψ w S m A v cv:=by
 unfold qJ at hl
 cases ag with
 | true =>
  simp only [if_true] at hl
  by_cases hn:n≤cs.length
  · rw [if_pos hn] at hl
    cases hl
    obtain ⟨vs,h1,h2,h3,_⟩:=IG (P:=P) hc hn
    refine ⟨.agg vs,?_,.agg _ vs (by simp [h2];omega) (fun j x hx=>?_) h3⟩
    · unfold loadVar
      rw [Sem.run_bind,wB hag]
      simp only [Result.andThen_ok,if_true,Sem.run_bind,fC hs,h1,Sem.run_pure]
    · rw [List.getElem?_take] at hx
      by_cases hj:j < n
      · rw [if_pos hj] at hx;exact (hc j x hx).1
      · rw [if_neg hj] at hx;cases hx
  · rw [if_neg hn] at hl;cases hl
 | false =>
  simp only [Bool.false_eq_true,if_false] at hl
  cases cs with
  | nil=>cases hl
  | cons c r =>
   simp only [List.head?_cons,Option.some.injEq] at hl
   subst hl
   obtain ⟨_,u,h2,h3⟩:=hc 0 c (by simp)
   refine ⟨u,?_,h3⟩
   unfold loadVar
   rw [Sem.run_bind,wB hag]
   simp only [Nat.add_zero] at h2
   simp [h2]
theorem Inv.U4 (i:Inv ψ N w0 w S m A h) {b z k:Nat} {es:List (List AV)} {mu:Bool} {cs:List AV} (hb:get h b=some (.cells z es mu)) (hk:es[k]?=some cs) :
 sK ψ w S m A cs (m b).1 (k * (m b).2):=by
 obtain ⟨h0,h1,c,t,h2,h3,h4⟩:=i.obj b _ hb
 intro j x hx
 obtain ⟨h5,v,h6,h7⟩:=h4 k cs j x hk hx
 refine ⟨h5,v,?_,h7⟩
 rw [h0]
 rw [cell_of_row w _ _ c t _ h2]
 exact h6
theorem WZ {n:Nat} {ag:Bool} {p:AV} {c:Value} {t:TypeId} {v:AV} (i:Inv ψ N w0 w S m A h) (hp:VR ψ w S m A p c) (hs:sizeT P t=some n) (hag:uH P t=some ag)
 (hl:Bz n ag h p=some v) :
 ∃ cv,(Instr.loadAt t c).run P w=.ok cv w∧VR ψ w S m A v cv:=by
 cases p with
 | rop cs =>
  obtain ⟨b,off,vs,rfl,hS,hcell,hrep⟩:=hp.qc
  have hc:sK ψ w S m A _ b off:=fun j x hx=>⟨(hcell j x hx).1,vs j,(hcell j x hx).2,(hrep j x hx).open_⟩
  obtain ⟨cv,h1,h2⟩:=vM (P:=P) hc hs hag hl
  exact ⟨cv,by simp [Instr.loadAt,Instr.sureAddr,h1],h2⟩
 | ptr b k o =>
  obtain ⟨hA,rfl⟩:=hp.kQ
  simp only [Bz,loadAt] at hl
  split at hl
  · rename_i z es mu hb
    obtain ⟨cs,hk,hl⟩:=ak hl
    obtain ⟨cv,h1,h2⟩:=vM (P:=P) ((i.U4 hb hk).drop o) hs hag hl
    exact ⟨cv,by simp [Instr.loadAt,Instr.sureAddr,h1],h2⟩
  · cases hl
 | _=>cases hl
theorem Snd.Ol {x:Sem Next} {cv:Value} {v:AV} {w':World} (i:Inv ψ N w0 w S m A h) {nid:Nat} (hn:¬ A nid) (hr:x.run P w=.ok (.value cv) w')
 {c:Array Value} {t:TypeId} (hh:w'.heap=w.heap.push (.cells c t (0,0))) (ho:w'.os=w.os) (ht:w'.output=w.output) (z:Nat) (es:List (List AV))
 (hz:∀ (k:Nat) (e:List AV),es[k]?=some e→e.length=z) (hsz:es.length * z≤c.size)
 (hvr:∀ (k:Nat) (e:List AV) (j:Nat) (x:AV),es[k]?=some e→e[j]?=some x→x.cell=true∧∃ u,c[k * z+j]?=some u∧VR ψ w S m A x u)
 (hcv:∀ {w':World} {m':Nat→Nat × Nat} {A':Nat→Prop},m' nid=(w.heap.size,z)→A' nid→w'.heap[w.heap.size]?=some (.cells c t (0,0))→VR ψ w' S m' A' v cv) :
 Snd P ψ N w0 w S m A x (put h nid (.cells z es true)) v nid:=by
 have le:=Le.push (m:=m) hh i.sb hn (w.heap.size,z)
 have hnew:w'.heap[w.heap.size]?=some (.cells c t (0,0)):=by rw [hh];simp
 refine ⟨cv,w',S,gu m nid (w.heap.size,z),rQ A nid,.inl hr,hcv (by simp [gu]) (.inr rfl) hnew,i.push hh ho ht hn z _ ?_ rfl,le,fun _ _ hs=>hs,fun b hb=>hb⟩
 refine ⟨rfl,hz,c,t,hnew,hsz,fun k e j x hk hx=>?_⟩
 obtain ⟨h1,u,h2,h3⟩:=hvr k e j x hk hx
 exact ⟨h1,u,h2,h3.mono le⟩
theorem gX {t:TypeId} {z:List AV} (hz:zeroCells P t=some z):∃ i zv,P.info? t=some i∧i.zero=some zv∧zv.cells.size=z.length∧i.size=z.length ∧
 (∀ (j:Nat) (x:AV),z[j]?=some x→x.cell=true)∧∀ (j:Nat) (x:AV),z[j]?=some x→VR ψ w S m A x (zv.cells.getD j Go.undef):=by
 unfold zeroCells at hz
 simp only [Option.bind_eq_bind,Option.bind_eq_some_iff] at hz
 obtain ⟨i,hi,zv,hzv,cs,hcs,hz⟩:=hz
 split at hz
 · rename_i hl
   cases hz
   obtain ⟨h1,h2,h3⟩:=CY (ψ:=ψ) (w:=w) (S:=S) (m:=m) (A:=A) hcs
   exact ⟨i,zv,hi,hzv,h1,hl.symm,h2,h3⟩
 · cases hz
theorem getElem?_of_getD {vs:Array Value} {j:Nat} (hj:j < vs.size):vs[j]?=some (vs.getD j Go.undef):=by
 rw [Array.getD_eq_getD_getElem?,Array.getElem?_eq_getElem hj];rfl
theorem Snd.one {x:Sem Next} {w':World} (i:Inv ψ N w0 w S m A h) {nid:Nat} (hn:¬ A nid) (hr:x.run P w=.ok (.value (.pointer (some ⟨w.heap.size,0,none⟩))) w')
 {c:Array Value} {t:TypeId} (hh:w'.heap=w.heap.push (.cells c t (0,0))) (ho:w'.os=w.os) (ht:w'.output=w.output) (cs:List AV) (hsz:c.size=cs.length)
 (hcell:∀ (j:Nat) (x:AV),cs[j]?=some x→x.cell=true) (hvr:∀ (j:Nat) (x:AV),cs[j]?=some x→VR ψ w S m A x (c.getD j Go.undef)) :
 Snd P ψ N w0 w S m A x (put h nid (.cells cs.length [cs] true)) (.ptr nid 0 0) nid:=by
 refine Snd.Ol i hn hr hh ho ht cs.length [cs] (fun k e hk=>?_) (by simp [hsz]) (fun k e j x hk hx=>?_) (fun {w' m' A'} hm hA _=>?_)
 · cases k with
   | zero=>simp at hk;rw [← hk]
   | succ k=>simp at hk
 · cases k with
   | zero =>
    simp at hk
    subst hk
    have hj:j < c.size:=by rw [hsz];exact (List.getElem?_eq_some_iff.1 hx).1
    exact ⟨hcell j x hx,_,by rw [Nat.zero_mul,Nat.zero_add];exact getElem?_of_getD hj,hvr j x hx⟩
   | succ k=>simp at hk
 · have:=VR.ptr (ψ:=ψ) (w:=w') (S:=S) (m:=m') (A:=A') nid 0 0 hA
   rw [hm] at this
   simpa using this
end
end Go.Pav
end
section
set_option linter.unusedSimpArgs false
set_option linter.unusedVariables false
namespace Go.Pav
open Go
theorem uY {i k j z:Nat} (h:i < k) (hj:j < z):i * z+j < k * z:=by
 have:=Nat.mul_le_mul_right z (show i+1≤k from h)
 rw [Nat.add_mul,Nat.one_mul] at this
 omega
section
variable {P:Program} {φ:FuncId→Option Nat} {ψ:Nat→FuncId} {N:Nat} {w0 w:World} {S:Nat→Prop} {m:Nat→Nat × Nat} {A:Nat→Prop} {h:Heap} {e:Env} {a:Act}
theorem Fp {c:Array Value} {p:Nat} {vs:List Value} (hp:p+vs.length≤c.size) (q:Nat) :
 (c.toList.take p++vs++c.toList.drop (p+vs.length)).toArray[q]?=if p≤q∧q < p+vs.length then vs[q - p]? else c[q]?:=by
 have hl:c.toList.length=c.size:=by simp
 simp only [List.getElem?_toArray,List.getElem?_append,List.length_append,List.length_take,List.getElem?_take,List.getElem?_drop,hl]
 have hm:min p c.size=p:=by omega
 rw [hm]
 by_cases h1:q < p
 · have:¬ (p≤q∧q < p+vs.length):=by omega
   rw [if_neg this,if_pos (by omega),if_pos h1,if_pos h1]
   simp
 · by_cases h2:q < p+vs.length
   · have h3:p≤q∧q < p+vs.length:=⟨by omega,h2⟩
     rw [if_pos h2,if_neg h1,if_pos h3]
   · have:¬ (p≤q∧q < p+vs.length):=by omega
     rw [if_neg this,if_neg h2]
     rw [show p+vs.length+(q - (p+vs.length))=q by omega]
     simp
theorem vk {c:Array Value} {p:Nat} {vs:List Value} (hp:p+vs.length≤c.size):(c.toList.take p++vs++c.toList.drop (p+vs.length)).toArray.size=c.size:=by
 have hl:c.toList.length=c.size:=by simp
 simp only [List.size_toArray,List.length_append,List.length_take,List.length_drop,hl]
 omega
theorem Snd.write {x:Sem Next} (i:Inv ψ N w0 w S m A h) {b z:Nat} {es es':List (List AV)} (hb:get h b=some (.cells z es true)) {p:Nat} {vs:List Value}
 (hp:p+vs.length≤es.length * z) {cv:Value} {v:AV}
 (hr:∀ (c:Array Value) (t:TypeId),w.heap[(m b).1]?=some (.cells c t (0,0))→es.length * z≤c.size →
  (x.run P w=.ok (.value cv) (w.setRow (m b).1 (c.toList.take p++vs++c.toList.drop (p+vs.length)).toArray) ∨
   (x.run P w=.ok .skip (w.setRow (m b).1 (c.toList.take p++vs++c.toList.drop (p+vs.length)).toArray)∧cv=Go.undef)))
 (hl:es'.length=es.length) (hz:∀ (k:Nat) (e:List AV),es'[k]?=some e→e.length=z)
 (hc:∀ (k:Nat) (e:List AV) (j:Nat) (x:AV),es'[k]?=some e→e[j]?=some x →
  (p≤k * z+j∧k * z+j < p+vs.length∧x.cell=true∧∃ u,vs[k * z+j - p]?=some u∧VR ψ w S m A x u) ∨
  (¬ (p≤k * z+j∧k * z+j < p+vs.length)∧∃ e',es[k]?=some e'∧e'[j]?=some x))
 (hv:∀ {w':World},Le w S m A w' S m A→VR ψ w' S m A v cv) (nid:Nat) :
 Snd P ψ N w0 w S m A x (put h b (.cells z es' true)) v nid:=by
 obtain ⟨h0,h1,c,t,h2,h3,h4⟩:=i.obj b _ hb
 have hp':p+vs.length≤c.size:=Nat.le_trans hp h3
 have hg:=i.live b _ hb rfl
 have hrow:∀ c' t' fr,w.heap[(m b).1]?=some (.cells c' t' fr)→∃ c'',(w.setRow (m b).1 (c.toList.take p++vs++c.toList.drop (p+vs.length)).toArray).heap[(m b).1]?=some (.cells c'' t' fr)∧c''.size=c'.size:=by
  intro c' t' fr hc'
  rw [h2] at hc'
  cases hc'
  exact ⟨_,setRow_heap w _ c _ t (0,0) h2,vk hp'⟩
 have le:Le w S m A (w.setRow (m b).1 (c.toList.take p++vs++c.toList.drop (p+vs.length)).toArray) S m A :=
  Le.write hg.1 (fun k hk=>setRow_other w _ k _ hk) (by simp) hrow
 refine ⟨cv,_,S,m,A,hr c t h2 h3,hv le,?_,le,fun _ _ hs=>hs,fun _ hb=>.inl hb⟩
 refine i.write hb rfl rfl (fun k hk=>setRow_other w _ k _ hk) (by simp) rfl rfl hrow ?_
 refine ⟨h0,hz,_,t,setRow_heap w _ c _ t (0,0) h2,by rw [vk hp',hl];exact h3,fun k e j x hk hx=>?_⟩
 rcases hc k e j x hk hx with ⟨q1,q2,q3,u,q4,q5⟩ | ⟨q1,e',q2,q3⟩
 · refine ⟨q3,u,?_,q5.mono le⟩
   rw [Fp hp',if_pos ⟨q1,q2⟩]
   exact q4
 · obtain ⟨h5,u,h6,h7⟩:=h4 k e' j x q2 q3
   refine ⟨h5,u,?_,h7.mono le⟩
   rw [Fp hp',if_neg q1]
   exact h6
theorem length_splice {cs v:List AV} {o:Nat} (hl:o+v.length≤cs.length):(splice cs o v).length=cs.length:=by
 unfold splice
 simp only [List.length_append,List.length_take,List.length_drop]
 omega
theorem FZ {cs v:List AV} {o:Nat} (hl:o+v.length≤cs.length) (j:Nat) :
 (splice cs o v)[j]?=if o≤j∧j < o+v.length then v[j - o]? else cs[j]?:=by
 unfold splice
 simp only [List.getElem?_append,List.length_take,List.getElem?_take,List.getElem?_drop]
 have hm:min o cs.length=o:=by omega
 rw [hm]
 by_cases h1:j < o
 · have:¬ (o≤j∧j < o+v.length):=by omega
   rw [if_neg this,if_pos h1,if_pos h1]
 · by_cases h2:j < o+v.length
   · rw [if_neg h1,if_pos (by omega),if_pos ⟨by omega,h2⟩]
   · have:¬ (o≤j∧j < o+v.length):=by omega
     rw [if_neg h1,if_neg (by omega),if_neg this]
     congr 1
     omega
theorem SV {n:Nat} {p xv:AV} {cp cx:Value} {t:TypeId} {v:AV} {u:Upd} {o:Oper} {pa pv:Operand} (i:Inv ψ N w0 w S m A h) (ho:o.op=.store t pa pv)
 (hpa:a.eval pa=cp) (hpv:a.eval pv=cx) (hp:VR ψ w S m A p cp) (hx:VR ψ w S m A xv cx)
 (hs:sizeT P t=some n) (hl:(if xv.cells.length=n∧xv.cells.all AV.cell=true then zD n h xv.cells p else none)=some (v,u)) (nid:Nat):Snd P ψ N w0 w S m A (execOp a.eval o) (aN h u) v nid:=by
 split at hl
 · rename_i hc
   obtain ⟨hn,hall⟩:=hc
   obtain ⟨q1,q2,q3⟩:=hx.cells hall
   cases p with
   | ptr b k off =>
    obtain ⟨hA,rfl⟩:=hp.kQ
    simp only [zD,storeAt] at hl
    split at hl
    · rename_i z es mu hb
      split at hl
      · rename_i hmu
        subst hmu
        obtain ⟨cs,hk,hl⟩:=ak hl
        split at hl
        · rename_i hfit
          cases hl
          obtain ⟨h0,h1,_⟩:=i.obj b _ hb
          have hcz:=h1 k cs hk
          have hkl:k < es.length:=(List.getElem?_eq_some_iff.1 hk).1
          have hle:(k+1) * z≤es.length * z:=Nat.mul_le_mul_right z hkl
          rw [Nat.add_mul,Nat.one_mul] at hle
          have hvl:cx.cells.toList.length=n:=by simp [q1,hn]
          have hfit':off+xv.cells.length≤cs.length:=by omega
          refine Snd.write (z:=z) (p:=k * z+off) (vs:=cx.cells.toList) (cv:=Go.undef) i hb (by omega) (fun c t' hc hsz=>.inr ⟨?_,rfl⟩) (by simp) (fun k' e' he=>?_) (fun k' e' j y he hy=>?_) (fun _=>.tup [] #[] rfl (by simp)) nid
          · have hst:=run_storeCells_at P (m b).1 (k * z+off) t' cx.cells.toList 0 c w hc (by simp only [hvl];omega) q3
            have h0':(m b).2=z:=h0
            simp only [execOp,ho,hpa,hpv,Instr.storeAt,Instr.sureAddr,storeVar,h0',Sem.run_bind,Sem.run_pure,Result.andThen_ok,fC hs,Sem.run_ite,run_stuck]
            rw [if_neg (by simp [q1,hn])]
            simp only [Nat.add_zero] at hst
            simp [hst]
          · rw [List.getElem?_set] at he
            by_cases hkk:k=k'
            · subst hkk
              rw [if_pos rfl,if_pos hkl] at he
              cases he;rw [length_splice hfit'];exact hcz
            · rw [if_neg hkk] at he;exact h1 k' e' he
          · rw [List.getElem?_set] at he
            by_cases hkk:k=k'
            · subst hkk
              rw [if_pos rfl,if_pos hkl] at he
              cases he
              rw [FZ hfit'] at hy
              by_cases hr:off≤j∧j < off+xv.cells.length
              · rw [if_pos hr] at hy
                left
                refine ⟨by omega,by omega,?_,cx.cells.getD (j - off) Go.undef,?_,q2 _ _ hy⟩
                · exact List.all_eq_true.1 hall _ (List.mem_of_getElem? hy)
                · rw [show k * z+j - (k * z+off)=j - off by omega]
                  have hjs:j - off < cx.cells.size:=by omega
                  rw [Array.getElem?_toList]
                  exact getElem?_of_getD hjs
              · rw [if_neg hr] at hy
                right
                refine ⟨by omega,cs,hk,hy⟩
            · rw [if_neg hkk] at he
              right
              have hj:j < z:=by rw [← h1 k' e' he];exact (List.getElem?_eq_some_iff.1 hy).1
              refine ⟨?_,e',he,hy⟩
              rcases Nat.lt_or_gt_of_ne hkk with hlt | hgt
              · have:=Nat.mul_le_mul_right z (show k+1≤k' from hlt)
                rw [Nat.add_mul,Nat.one_mul] at this
                omega
              · have:=uY hgt hj
                omega
        · cases hl
      · cases hl
    · cases hl
   | _=>cases hl
 · cases hl
end
end Go.Pav
end
section
set_option linter.unusedSimpArgs false
set_option linter.unusedVariables false
namespace Go.Pav
open Go
section
variable {P:Program} {φ:FuncId→Option Nat} {ψ:Nat→FuncId} {N:Nat} {w0 w:World} {S:Nat→Prop} {m:Nat→Nat × Nat} {A:Nat→Prop} {h:Heap} {e:Env} {a:Act}
def CsR (ψ:Nat→FuncId) (w:World) (S:Nat→Prop) (m:Nat→Nat × Nat) (A:Nat→Prop) (cs:List AV) (vs:Array Value):Prop :=
 vs.size=cs.length∧∀ (j:Nat) (x:AV),cs[j]?=some x→x.cell=true∧VR ψ w S m A x (vs.getD j Go.undef)
theorem Hz (off:Nat):∀ (l:List Value) (k:Nat) (cells:Array Value),off+k+l.length≤cells.size →
 ((l.zipIdx k).foldl (fun cs (x:Value × Nat)=>cs.setIfInBounds (off+x.2) x.1) cells).size=cells.size ∧
 ∀ q,((l.zipIdx k).foldl (fun cs (x:Value × Nat)=>cs.setIfInBounds (off+x.2) x.1) cells)[q]?=if off+k≤q∧q < off+k+l.length then l[q - (off+k)]? else cells[q]?
 | [],k,cells,_=>by
  refine ⟨rfl,fun q=>?_⟩
  rw [if_neg (by simp only [List.length_nil];omega)]
  rfl
 | v::l,k,cells,hl=>by
  simp only [List.length_cons] at hl
  obtain ⟨h1,h2⟩:=Hz off l (k+1) (cells.setIfInBounds (off+k) v) (by simp;omega)
  simp only [List.zipIdx_cons,List.foldl_cons]
  refine ⟨by rw [h1];simp,fun q=>?_⟩
  rw [h2 q]
  by_cases hq:q=off+k
  · subst hq
    have hlt:off+k < cells.size:=by omega
    rw [if_neg (by omega),if_pos (by simp)]
    simp [hlt]
  · by_cases hr:off+(k+1)≤q∧q < off+(k+1)+l.length
    · rw [if_pos hr,if_pos (by simp;omega)]
      rw [show q - (off+k)=(q - (off+(k+1)))+1 by omega]
      simp
    · rw [if_neg hr,if_neg (by simp;omega)]
      rw [Array.getElem?_setIfInBounds_ne (by omega)]
theorem CZ (vs:Array Value) (off:Nat) (cells:Array Value) :
 vs.zipIdx.foldl (fun cs (x:Value × Nat)=>cs.setIfInBounds (off+x.2) x.1) cells=(vs.toList.zipIdx 0).foldl (fun cs (x:Value × Nat)=>cs.setIfInBounds (off+x.2) x.1) cells:=by
 rw [← Array.foldl_toList]
 simp
theorem CsR.fill {cs:List AV} {vs:Array Value} (hc:CsR ψ w S m A cs vs) {x:AV} {c:Value} (hx:VR ψ w S m A x c) (hall:x.cells.all AV.cell=true) {off:Nat} (hl:off+x.cells.length≤cs.length) :
 CsR ψ w S m A (splice cs off x.cells) (c.cells.zipIdx.foldl (fun cs (x:Value × Nat)=>cs.setIfInBounds (off+x.2) x.1) vs):=by
 obtain ⟨q1,q2,q3⟩:=hx.cells hall
 have hsz:c.cells.toList.length=x.cells.length:=by simp [q1]
 rw [CZ]
 obtain ⟨h1,h2⟩:=Hz off c.cells.toList 0 vs (by rw [hc.1];omega)
 refine ⟨by rw [h1,length_splice hl,hc.1],fun j y hy=>?_⟩
 rw [FZ hl] at hy
 rw [Array.getD_eq_getD_getElem?,h2 j]
 simp only [Nat.add_zero,hsz]
 by_cases hr:off≤j∧j < off+x.cells.length
 · rw [if_pos hr] at hy ⊢
   refine ⟨List.all_eq_true.1 hall _ (List.mem_of_getElem? hy),?_⟩
   have:=q2 _ _ hy
   rw [Array.getD_eq_getD_getElem?] at this
   simpa using this
 · rw [if_neg hr] at hy ⊢
   have:=hc.2 j y hy
   rw [Array.getD_eq_getD_getElem?] at this
   exact this
theorem IL (cx:Cx P φ ψ N w0 w S m A h e a) (fs:Nat→Option (Nat × Nat)):∀ (ps:List (Nat × Operand)) (ps':List (Nat × Nat × Opd)) (cs cs':List AV) (vs:Array Value),
 yK φ fs ps=some ps'→qK e cs ps'=some cs'→CsR ψ w S m A cs vs →
 ∃ vs',Instr.fill fs vs (ps.map fun x=>(x.1,a.eval x.2))=some vs'∧CsR ψ w S m A cs' vs'
 | [],ps',cs,cs',vs,h1,h2,h3=>by
  simp only [yK] at h1
  cases h1
  simp only [qK] at h2
  cases h2
  exact ⟨vs,rfl,h3⟩
 | (i,x)::r,ps',cs,cs',vs,h1,h2,h3=>by
  simp only [yK,Option.bind_eq_bind,Option.bind_eq_some_iff] at h1
  obtain ⟨⟨off,n⟩,hf,y,hy,ys,hys,h1⟩:=h1
  cases h1
  simp only [qK] at h2
  split at h2
  · rename_i hc
    obtain ⟨c1,c2,c3⟩:=hc
    have hx:=cx.opd hy
    obtain ⟨q1,_,_⟩:=hx.cells c3
    obtain ⟨vs',h4,h5⟩:=IL cx fs r ys _ cs' _ hys h2 (h3.fill hx c3 (by omega))
    refine ⟨vs',?_,h5⟩
    simp only [List.map_cons,Instr.fill,hf]
    rw [if_neg (by rw [h3.1];simp;omega)]
    exact h4
  · cases h2
theorem Yc (cx:Cx P φ ψ N w0 w S m A h e a) {o:Oper} {t:TypeId} {ps:Array (Nat × Operand)} (ho:o.op=.build t ps) {cop:COp} (hc:cOp P φ (.build t ps)=some cop)
 {v:AV} {u:Upd} {nid:Nat} (hs:aH cop e h nid=some (v,u)):Snd P ψ N w0 w S m A (execOp a.eval o) (aN h u) v nid:=by
 simp only [cOp,Option.bind_eq_bind,Option.bind_eq_some_iff] at hc
 obtain ⟨z,hz,d,hd,hc⟩:=hc
 obtain ⟨it,zv,hit,hzv,z1,z2,z3,z4⟩:=gX (ψ:=ψ) (w:=w) (S:=S) (m:=m) (A:=A) hz
 have hzr:CsR ψ w S m A z zv.cells:=⟨z1,fun j x hx=>⟨z3 j x hx,z4 j x hx⟩⟩
 have fin:∀ (fs:Nat→Option (Nat × Nat)) (ps':List (Nat × Nat × Opd)),yK φ fs ps.toList=some ps'→cop=.build z ps' →
  (∀ parts,Instr.fill fs zv.cells parts=P.built t parts)→Snd P ψ N w0 w S m A (execOp a.eval o) (aN h u) v nid:=by
  intro fs ps' hp hcop hb
  subst hcop
  simp only [aH,BA] at hs
  obtain ⟨cs',h1,h2⟩:=aC hs
  cases h2
  obtain ⟨vs',h3,h4⟩:=IL cx fs ps.toList ps' z cs' zv.cells hp h1 hzr
  rw [hb] at h3
  refine Snd.quiet (cv:=.agg vs') cx.inv ?_ (.agg cs' vs' h4.1 (fun j x hx=>(h4.2 j x hx).1) fun j x hx=>(h4.2 j x hx).2) nid
  have hr:=run_build w t (ps.map fun x=>(x.1,a.eval x.2)) vs' (by simpa using h3)
  simp only [execOp,ho,Sem.run_bind]
  rw [hr]
  rfl
 split at hc
 · rename_i fields
   simp only [Option.bind_eq_some_iff] at hc
   obtain ⟨pl,hpl,ps',hp,hc⟩:=hc
   cases hc
   refine fin (fun i=>pl[i]?) ps' hp rfl fun parts=>?_
   unfold Program.built
   simp only [hit,hd,hzv,hpl]
   simp
 · rename_i len el
   simp only [Option.bind_eq_some_iff] at hc
   obtain ⟨n,hn,ps',hp,hc⟩:=hc
   cases hc
   refine fin (fun i=>some (i * n,n)) ps' hp rfl fun parts=>?_
   unfold sizeT at hn
   simp only [Option.map_eq_some_iff] at hn
   obtain ⟨ie,hie,rfl⟩:=hn
   unfold Program.built
   simp only [hit,hd,hzv,hie]
 · cases hc
structure EsR (ψ:Nat→FuncId) (w:World) (S:Nat→Prop) (m:Nat→Nat × Nat) (A:Nat→Prop) (z:Nat) (es:List (List AV)) (vs:Array Value):Prop where
 size:vs.size=es.length * z
 wide:∀ (k:Nat) (e:List AV),es[k]?=some e→e.length=z
 cell:∀ (k:Nat) (e:List AV) (j:Nat) (x:AV),es[k]?=some e→e[j]?=some x→x.cell=true∧VR ψ w S m A x (vs.getD (k * z+j) Go.undef)
theorem EsR.at_ {z:Nat} {es:List (List AV)} {vs:Array Value} (hr:EsR ψ w S m A z es vs) {k:Nat} {e:List AV} {j:Nat} {x:AV} (he:es[k]?=some e) (hx:e[j]?=some x) :
 x.cell=true∧∃ u,vs[k * z+j]?=some u∧VR ψ w S m A x u:=by
 obtain ⟨h1,h2⟩:=hr.cell k e j x he hx
 have hk:k < es.length:=(List.getElem?_eq_some_iff.1 he).1
 have hj:j < z:=by rw [← hr.wide k e he];exact (List.getElem?_eq_some_iff.1 hx).1
 have:=uY hk hj
 exact ⟨h1,_,getElem?_of_getD (by rw [hr.size];exact this),h2⟩
theorem EsR.fill {z:Nat} {es:List (List AV)} {vs:Array Value} (hr:EsR ψ w S m A z es vs) {x:AV} {c:Value} (hx:VR ψ w S m A x c) (hall:x.cells.all AV.cell=true) {i:Nat} (hi:i < es.length) (hz:x.cells.length=z) :
 EsR ψ w S m A z (es.set i x.cells) (c.cells.zipIdx.foldl (fun cs (x:Value × Nat)=>cs.setIfInBounds (i * z+x.2) x.1) vs):=by
 obtain ⟨q1,q2,q3⟩:=hx.cells hall
 have hsz:c.cells.toList.length=z:=by simp [q1,hz]
 have hfit:i * z+z≤vs.size:=by
  rw [hr.size]
  have:=Nat.mul_le_mul_right z (show i+1≤es.length from hi)
  rw [Nat.add_mul,Nat.one_mul] at this
  exact this
 rw [CZ]
 obtain ⟨h1,h2⟩:=Hz (i * z) c.cells.toList 0 vs (by omega)
 refine ⟨by rw [h1,hr.size];simp,fun k e he=>?_,fun k e j y he hy=>?_⟩
 · rw [List.getElem?_set] at he
   by_cases hk:i=k
   · subst hk;rw [if_pos rfl,if_pos hi] at he;cases he;exact hz
   · rw [if_neg hk] at he;exact hr.wide k e he
 · rw [Array.getD_eq_getD_getElem?,h2]
   simp only [Nat.add_zero,hsz]
   rw [List.getElem?_set] at he
   by_cases hk:i=k
   · subst hk
     rw [if_pos rfl,if_pos hi] at he
     cases he
     have hj:j < z:=by rw [← hz];exact (List.getElem?_eq_some_iff.1 hy).1
     rw [if_pos (by omega),show i * z+j - i * z=j by omega]
     refine ⟨List.all_eq_true.1 hall _ (List.mem_of_getElem? hy),?_⟩
     have:=q2 _ _ hy
     rw [Array.getD_eq_getD_getElem?] at this
     simpa using this
   · rw [if_neg hk] at he
     have hj:j < z:=by rw [← hr.wide k e he];exact (List.getElem?_eq_some_iff.1 hy).1
     have hne:¬ (i * z≤k * z+j∧k * z+j < i * z+z):=by
      rcases Nat.lt_or_gt_of_ne hk with hlt | hgt
      · have:=Nat.mul_le_mul_right z (show i+1≤k from hlt)
        rw [Nat.add_mul,Nat.one_mul] at this
        omega
      · have:=uY hgt hj
        omega
     rw [if_neg hne]
     have:=hr.cell k e j y he hy
     rw [Array.getD_eq_getD_getElem?] at this
     exact this
theorem Ji (cx:Cx P φ ψ N w0 w S m A h e a) (z:Nat):∀ (ps:List (Nat × Operand)) (ps':List (Nat × Opd)) (es es':List (List AV)) (vs:Array Value),
 Gq φ ps=some ps'→kZ e z es ps'=some es'→EsR ψ w S m A z es vs →
 ∃ vs',Instr.fill (fun i=>some (i * z,z)) vs (ps.map fun x=>(x.1,a.eval x.2))=some vs'∧EsR ψ w S m A z es' vs'
 | [],ps',es,es',vs,h1,h2,h3=>by
  simp only [Gq] at h1
  cases h1
  simp only [kZ] at h2
  cases h2
  exact ⟨vs,rfl,h3⟩
 | (i,x)::r,ps',es,es',vs,h1,h2,h3=>by
  simp only [Gq,Option.bind_eq_bind,Option.bind_eq_some_iff] at h1
  obtain ⟨y,hy,ys,hys,h1⟩:=h1
  cases h1
  simp only [kZ] at h2
  split at h2
  · rename_i hc
    obtain ⟨c1,c2,c3⟩:=hc
    have hx:=cx.opd hy
    obtain ⟨q1,_,_⟩:=hx.cells c3
    obtain ⟨vs',h4,h5⟩:=Ji cx z r ys _ es' _ hys h2 (h3.fill hx c3 c2 c1)
    refine ⟨vs',?_,h5⟩
    simp only [List.map_cons,Instr.fill]
    have hb:=Nat.mul_le_mul_right z (show i+1≤es.length from c2)
    rw [Nat.add_mul,Nat.one_mul] at hb
    rw [if_neg (by rw [h3.size];simp;omega)]
    exact h4
  · cases h2
theorem CJ {z:List AV} {zc:Array Value} (h1:zc.size=z.length) (h3:∀ (j:Nat) (x:AV),z[j]?=some x→x.cell=true)
 (h4:∀ (j:Nat) (x:AV),z[j]?=some x→VR ψ w S m A x (zc.getD j Go.undef)) (len:Nat) :
 EsR ψ w S m A z.length (List.replicate len z) ((Array.range (len * z.length)).map (zc[· % zc.size]!)):=by
 refine ⟨by simp,fun k e he=>?_,fun k e j x he hx=>?_⟩
 · rw [List.getElem?_replicate] at he
   split at he
   · cases he;rfl
   · cases he
 · rw [List.getElem?_replicate] at he
   split at he
   · rename_i hk
     cases he
     have hj:j < z.length:=(List.getElem?_eq_some_iff.1 hx).1
     have hlt:=uY hk hj
     refine ⟨h3 j x hx,?_⟩
     have:((Array.range (len * z.length)).map (zc[· % zc.size]!)).getD (k * z.length+j) Go.undef=zc.getD j Go.undef:=by
      rw [Array.getD_eq_getD_getElem?]
      simp only [Array.getElem?_map,Array.getElem?_range,hlt,if_true,Option.map_some,Option.getD_some]
      rw [h1,Nat.mul_comm,Nat.mul_add_mod,Nat.mod_eq_of_lt hj]
      rw [Array.getD_eq_getD_getElem?]
      have hj':j < zc.size:=by omega
      simp [hj']
     rw [this]
     exact h4 j x hx
   · cases he
theorem Snd.VQ {x:Sem Next} {w':World} (i:Inv ψ N w0 w S m A h) {nid:Nat} (hn:¬ A nid) {len cap:Nat} (hr:x.run P w=.ok (.value (.slice (some ⟨w.heap.size,0,none⟩) len cap)) w')
 {c:Array Value} {t:TypeId} (hh:w'.heap=w.heap.push (.cells c t (0,0))) (ho:w'.os=w.os) (ht:w'.output=w.output) {z:Nat} {es:List (List AV)} {cs:Array Value} (he:EsR ψ w S m A z es cs)
 (hc:∀ q,q < cs.size→c[q]?=cs[q]?) (hcs:cs.size≤c.size) {len' cap':Nat} {ex:Bool} (hl:len'=len) (hlc:len≤cap) (hcap:cap'≤cap) (hex:ex=true→cap=cap') (hsz:cap * z≤c.size) :
 Snd P ψ N w0 w S m A x (put h nid (.cells z es true)) (.sl nid z 0 len' cap' ex) nid:=by
 subst hl
 refine Snd.Ol i hn hr hh ho ht z es he.wide (by rw [← he.size];exact hcs) (fun k e j x hk hx=>?_) (fun {w' m' A'} hm hA hb=>?_)
 · obtain ⟨h1,u,h2,h3⟩:=he.at_ hk hx
   exact ⟨h1,u,by rw [hc _ ((Array.getElem?_eq_some_iff.1 h2).1)];exact h2,h3⟩
 · have:=VR.sl (ψ:=ψ) (w:=w') (S:=S) (m:=m') (A:=A') nid z 0 len' cap' ex cap hA (by rw [hm]) hlc hcap hex ⟨c,t,(0,0),by rw [hm];exact hb,by rw [Nat.zero_add];exact hsz⟩
   rw [hm] at this
   simpa using this
theorem SB (cx:Cx P φ ψ N w0 w S m A h e a) {o:Oper} {t:TypeId} {len:Nat} {ps:Array (Nat × Operand)} (ho:o.op=.buildSlice t len ps) {cop:COp} (hc:cOp P φ (.buildSlice t len ps)=some cop)
 {v:AV} {u:Upd} {nid:Nat} (hn:¬ A nid) (hs:aH cop e h nid=some (v,u)):Snd P ψ N w0 w S m A (execOp a.eval o) (aN h u) v nid:=by
 simp only [cOp,Option.bind_eq_bind,Option.bind_eq_some_iff] at hc
 obtain ⟨d,hd,hc⟩:=hc
 split at hc
 · rename_i el
   simp only [Option.bind_eq_some_iff] at hc
   obtain ⟨z,hz,hc⟩:=hc
   split at hc
   · cases hc
   · rename_i hsm
     simp only [Option.bind_eq_some_iff] at hc
     obtain ⟨ps',hp,hc⟩:=hc
     cases hc
     obtain ⟨it,zv,hit,hzv,z1,z2,z3,z4⟩:=gX (ψ:=ψ) (w:=w) (S:=S) (m:=m) (A:=A) hz
     simp only [aH,zh] at hs
     obtain ⟨es',h1,h2⟩:=aC hs
     cases h2
     obtain ⟨vs',h3,h4⟩:=Ji cx z.length ps.toList ps' _ es' _ hp h1 (CJ z1 z3 z4 len)
     have hlen:es'.length=len:=by
      have:∀ (ps:List (Nat × Opd)) (es es':List (List AV)),kZ e z.length es ps=some es'→es'.length=es.length:=by
       intro ps
       induction ps with
       | nil=>intro es es' hf;simp only [kZ] at hf;cases hf;rfl
       | cons p r ih =>
        intro es es' hf
        obtain ⟨i,x⟩:=p
        simp only [kZ] at hf
        split at hf
        · rw [ih _ _ hf];simp
        · cases hf
      rw [this _ _ _ h1];simp
     by_cases hl0:len=0
     · subst hl0
       have hes:es'=[]:=List.eq_nil_of_length_eq_zero hlen
       subst hes
       have hv0:vs'=#[]:=by
        have:=h4.size
        simp at this
        exact this
       subst hv0
       have hpe:ps.toList.map (fun x=>(x.1,a.eval x.2))=(ps.map fun x=>(x.1,a.eval x.2)).toList:=by simp
       refine Snd.VQ (w':=w.alloc (.cells #[] el)) (c:=#[]) (t:=el) (cs:=#[]) cx.inv hn (len:=0) (cap:=0) ?_ rfl rfl rfl h4 (by simp) (by simp) rfl (by simp) (by simp) (by simp) (by simp)
       simp only [execOp,ho,Sem.run_bind]
       have h3':Instr.fill (fun i=>some (i * it.size,it.size)) #[] (ps.toList.map fun x=>(x.1,a.eval x.2))=some #[]:=by
        have hr0:Array.range 0=#[]:=rfl
        rw [z2]
        rw [Nat.zero_mul,hr0,Array.map_empty] at h3
        exact h3
       have hr0:Array.range 0=#[]:=rfl
       simp only [Instr.buildSlice,run_underlying hd,Sem.run_bind,Result.andThen_ok,sizeOf,typeInfo,hit,run_program,Sem.run_pure,Nat.zero_mul]
       simp [hr0,h3',Go.newRow]
     · have hpe:ps.toList.map (fun x=>(x.1,a.eval x.2))=(ps.map fun x=>(x.1,a.eval x.2)).toList:=by simp
       have hzz:z.length≠0:=fun hz0=>hsm (.inl hz0)
       have hne:len * z.length≠0:=Nat.mul_ne_zero hl0 hzz
       have hr:=run_buildSlice (P:=P) w t el len (ps.map fun x=>(x.1,a.eval x.2)) vs' it zv hd hit hzv (by rw [z2];exact fun hg=>hsm (.inr hg)) (by rw [z2];exact hne)
        (by rw [z2,← hpe];exact h3)
       refine Snd.VQ (w':=w.alloc (.cells vs' el)) (c:=vs') (t:=el) (cs:=vs') cx.inv hn (len:=len) (cap:=len) ?_ rfl rfl rfl h4 (fun _ _=>rfl) (Nat.le_refl _) rfl (Nat.le_refl _) (Nat.le_refl _) (fun _=>rfl) (by rw [h4.size,hlen];exact Nat.le_refl _)
       simp only [execOp,ho,Sem.run_bind]
       rw [hr]
       rfl
 · cases hc
end
end Go.Pav
end
section
set_option linter.unusedSimpArgs false
set_option linter.unusedVariables false
namespace Go.Pav
open Go
section
variable {P:Program} {φ:FuncId→Option Nat} {ψ:Nat→FuncId} {N:Nat} {w0 w:World} {S:Nat→Prop} {m:Nat→Nat × Nat} {A:Nat→Prop} {h:Heap} {e:Env} {a:Act} {o:Oper}
 {v:AV} {u:Upd} {nid:Nat}
abbrev Ok (P:Program) (φ:FuncId→Option Nat) (ψ:Nat→FuncId) (N:Nat) (w0 w:World) (S:Nat→Prop) (m:Nat→Nat × Nat) (A:Nat→Prop) (h:Heap) (e:Env) (a:Act) (o:Oper):Prop :=
 ∀ cop v u nid,cOp P φ o.op=some cop→aH cop e h nid=some (v,u)→¬ A nid→Snd P ψ N w0 w S m A (execOp a.eval o) (aN h u) v nid
theorem ahb (cx:Cx P φ ψ N w0 w S m A h e a) {x:Operand} (ho:o.op=.move x∨o.op=.assign x):Ok P φ ψ N w0 w S m A h e a o:=by
 intro cop v u nid hc hs hn
 have hc':(fA φ x).map COp.mv=some cop:=by rcases ho with ho | ho <;> rw [ho] at hc <;> exact hc
 simp only [Option.map_eq_some_iff] at hc'
 obtain ⟨y,hy,rfl⟩:=hc'
 simp only [aH,sMv] at hs
 cases hs
 refine Snd.quiet cx.inv ?_ (cx.opd hy) nid
 rcases ho with ho | ho <;> simp [execOp,ho]
theorem agI (cx:Cx P φ ψ N w0 w S m A h e a) {c x y:Operand} (ho:o.op=.pick c x y):Ok P φ ψ N w0 w S m A h e a o:=by
 intro cop v u nid hc hs hn
 rw [ho] at hc
 simp only [cOp,Option.bind_eq_bind,Option.bind_eq_some_iff,Option.some.injEq] at hc
 obtain ⟨c',hc',x',hx',y',hy',rfl⟩:=hc
 simp only [aH,Dx] at hs
 split at hs
 · rename_i t ht
   cases hs
   have h1:=cx.opd hc'
   rw [ht] at h1
   have h2:=h1.iq
   refine Snd.quiet (cv:=if t then a.eval x else a.eval y) cx.inv ?_ ?_ nid
   · simp only [execOp,ho,h2,asBool,Sem.run_bind,Sem.run_pure,Result.andThen_ok]
   · cases t
     · exact cx.opd hy'
     · exact cx.opd hx'
 · cases hs
theorem ZE (cx:Cx P φ ψ N w0 w S m A h e a) {t:TypeId} (ho:o.op=.alloc t):Ok P φ ψ N w0 w S m A h e a o:=by
 intro cop v u nid hc hs hn
 rw [ho] at hc
 simp only [cOp,Option.map_eq_some_iff] at hc
 obtain ⟨z,hz,rfl⟩:=hc
 simp only [aH,abZ] at hs
 cases hs
 obtain ⟨it,zv,hit,hzv,z1,z2,z3,z4⟩:=gX (ψ:=ψ) (w:=w) (S:=S) (m:=m) (A:=A) hz
 refine Snd.one (w':=w.alloc (.cells zv.cells t)) (c:=zv.cells) (t:=t) cx.inv hn ?_ rfl rfl rfl z z1 z3 z4
 simp [execOp,ho,Instr.alloc,zeroValue,typeInfo,hit,hzv,Go.newVar,Go.newRow]
theorem ai4 (cx:Cx P φ ψ N w0 w S m A h e a) {t:TypeId} {x:Operand} (ho:o.op=.box t x):Ok P φ ψ N w0 w S m A h e a o:=by
 intro cop v u nid hc hs hn
 rw [ho] at hc
 simp only [cOp,Option.map_eq_some_iff] at hc
 obtain ⟨y,hy,rfl⟩:=hc
 simp only [aH,agq,boxed] at hs
 split at hs
 · rename_i hall
   cases hs
   obtain ⟨q1,q2,q3⟩:=(cx.opd hy).cells hall
   refine Snd.one (w':=w.alloc (.cells (a.eval x).cells t)) (c:=(a.eval x).cells) (t:=t) cx.inv hn ?_ rfl rfl rfl _ q1 (fun j y hj=>List.all_eq_true.1 hall _ (List.mem_of_getElem? hj)) q2
   simp [execOp,ho,Instr.box,Go.newVar,Go.newRow]
 · cases hs
theorem agP (cx:Cx P φ ψ N w0 w S m A h e a) {t:TypeId} {x:Operand} (ho:o.op=.load t x):Ok P φ ψ N w0 w S m A h e a o:=by
 intro cop v u nid hc hs hn
 rw [ho] at hc
 simp only [cOp,Option.bind_eq_bind,Option.bind_eq_some_iff,Option.some.injEq] at hc
 obtain ⟨n,hn',ag,hag,y,hy,rfl⟩:=hc
 simp only [aH,aaQ] at hs
 obtain ⟨key,rfl⟩:=dS hs
 obtain ⟨cv,h1,h2⟩:=WZ (P:=P) cx.inv (cx.opd hy) hn' hag key
 exact Snd.val cx.inv (by simp [execOp,ho]) h1 h2 nid
theorem Zi (cx:Cx P φ ψ N w0 w S m A h e a) {t:TypeId} {p x:Operand} (ho:o.op=.store t p x):Ok P φ ψ N w0 w S m A h e a o:=by
 intro cop v u nid hc hs hn
 rw [ho] at hc
 simp only [cOp,Option.bind_eq_bind,Option.bind_eq_some_iff,Option.some.injEq] at hc
 obtain ⟨n,hn',y,hy,z,hz,rfl⟩:=hc
 simp only [aH,KZ] at hs
 exact SV cx.inv ho rfl rfl (cx.opd hy) (cx.opd hz) hn' hs nid
theorem XW (cx:Cx P φ ψ N w0 w S m A h e a) {x:Operand} (ho:o.op=.nilCheck x):Ok P φ ψ N w0 w S m A h e a o:=by
 intro cop v u nid hc hs hn
 rw [ho] at hc
 simp only [cOp,Option.map_eq_some_iff] at hc
 obtain ⟨y,hy,rfl⟩:=hc
 have hx:=cx.opd hy
 simp only [aH,mP] at hs
 split at hs
 · rename_i b k off he
   cases hs
   rw [he] at hx
   obtain ⟨_,h2⟩:=hx.kQ
   exact Snd.quiet cx.inv (by simp [execOp,ho,h2]) (h2 ▸ hx) nid
 · rename_i cs he
   cases hs
   rw [he] at hx
   obtain ⟨b,off,vs,h2,_⟩:=hx.qc
   exact Snd.quiet cx.inv (by simp [execOp,ho,h2]) (h2 ▸ hx) nid
 · rename_i f cs he
   cases hs
   rw [he] at hx
   obtain ⟨vs,h2,_⟩:=hx.Cm
   exact Snd.quiet cx.inv (by simp [execOp,ho,h2]) (h2 ▸ hx) nid
 · cases hs
theorem ab6 {x y:AV} {b:Bool} (hb:QW x y=some b) {cx cy:Value} (hx:VR ψ w S m A x cx) (hy:VR ψ w S m A y cy) {t el:TypeId} (ht:P.underlying t=some (.slice el)) (d:Nat) :
 (Op.equalIn (d+1) t cx cy).run P w=.ok b w∧∀ op X Y,eqGuard op t X Y cx cy=pure ():=by
 unfold QW at hb
 split at hb <;> cases hb
 · cases hx.fM;cases hy.fM
   exact ⟨by simp [Op.equalIn,run_underlying ht],fun op X Y=>eqGuard_at_slice ..⟩
 · cases hx.fM;rcases hy.nI with ⟨b',off,cap,cs,rfl,_⟩ | ⟨_,ad,_,rfl,_⟩ <;>
   exact ⟨by simp [Op.equalIn,run_underlying ht],fun op X Y=>eqGuard_at_slice ..⟩
 · cases hx.fM;obtain ⟨cc,rfl,_⟩:=hy.lY
   exact ⟨by simp [Op.equalIn,run_underlying ht],fun op X Y=>eqGuard_at_slice ..⟩
 · cases hy.fM;rcases hx.nI with ⟨b',off,cap,cs,rfl,_⟩ | ⟨_,ad,_,rfl,_⟩ <;>
   exact ⟨by simp [Op.equalIn,run_underlying ht],fun op X Y=>eqGuard_at_slice ..⟩
 · cases hy.fM;obtain ⟨cc,rfl,_⟩:=hx.lY
   exact ⟨by simp [Op.equalIn,run_underlying ht],fun op X Y=>eqGuard_at_slice ..⟩
theorem acn {x y:AV} {b:Bool} (hb:eqFn x y=some b) {cx cy:Value} (hx:VR ψ w S m A x cx) (hy:VR ψ w S m A y cy) {t:TypeId} {ps rs:Array TypeId} {vd:Bool} (ht:P.underlying t=some (.func ps rs vd)) (d:Nat) :
 (Op.equalIn (d+1) t cx cy).run P w=.ok b w∧∀ op X Y,eqGuard op t X Y cx cy=pure ():=by
 unfold eqFn at hb
 split at hb <;> cases hb
 · cases hx.zM;cases hy.zM
   exact ⟨by simp [Op.equalIn,run_underlying ht],fun op X Y=>eqGuard_at_nilFunc ..⟩
 · cases hx.zM;obtain ⟨vs,rfl,_⟩:=hy.Cm
   exact ⟨by simp [Op.equalIn,run_underlying ht],fun op X Y=>eqGuard_at_nilFunc ..⟩
 · cases hy.zM;obtain ⟨vs,rfl,_⟩:=hx.Cm
   exact ⟨by simp [Op.equalIn,run_underlying ht],fun op X Y=>eqGuard_at_func ..⟩
theorem V9 {x y:AV} {b:Bool} (hb:Jo x y=some b) {cx cy:Value} (hx:VR ψ w S m A x cx) (hy:VR ψ w S m A y cy) {t el:TypeId} (ht:P.underlying t=some (.pointer el)) (d:Nat) :
 (Op.equalIn (d+1) t cx cy).run P w=.ok b w∧∀ op X Y,eqGuard op t X Y cx cy=pure ():=by
 unfold Jo at hb
 split at hb <;> cases hb
 · cases hx.rV;cases hy.rV
   exact ⟨by simp [Op.equalIn,run_underlying ht],fun op X Y=>eqGuard_at_pointer ..⟩
 · cases hx.rV;obtain ⟨_,rfl⟩:=hy.kQ
   exact ⟨by simp [Op.equalIn,run_underlying ht],fun op X Y=>eqGuard_at_pointer ..⟩
 · cases hy.rV;obtain ⟨_,rfl⟩:=hx.kQ
   exact ⟨by simp [Op.equalIn,run_underlying ht],fun op X Y=>eqGuard_at_pointer ..⟩
 · cases hx.rV;obtain ⟨b',off,vs,rfl,_⟩:=hy.qc
   exact ⟨by simp [Op.equalIn,run_underlying ht],fun op X Y=>eqGuard_at_pointer ..⟩
 · cases hy.rV;obtain ⟨b',off,vs,rfl,_⟩:=hx.qc
   exact ⟨by simp [Op.equalIn,run_underlying ht],fun op X Y=>eqGuard_at_pointer ..⟩
theorem XV {x y:AV} {b:Bool} (hb:I9 x y=some b) {cx cy:Value} (hx:VR ψ w S m A x cx) (hy:VR ψ w S m A y cy) {t kt el:TypeId} (ht:P.underlying t=some (.map kt el)) (d:Nat) :
 (Op.equalIn (d+1) t cx cy).run P w=.ok b w∧∀ op X Y,eqGuard op t X Y cx cy=pure ():=by
 unfold I9 at hb
 split at hb <;> cases hb
 · cases hx.rP;cases hy.rP
   exact ⟨by simp [Op.equalIn,run_underlying ht],fun op X Y=>eqGuard_at_map ..⟩
 · cases hx.rP;obtain ⟨_,rfl⟩:=hy.yO
   exact ⟨by simp [Op.equalIn,run_underlying ht],fun op X Y=>eqGuard_at_map ..⟩
 · cases hy.rP;obtain ⟨_,rfl⟩:=hx.yO
   exact ⟨by simp [Op.equalIn,run_underlying ht],fun op X Y=>eqGuard_at_map ..⟩
theorem RI {x y:AV} {b:Bool} (hb:BR x y=some b) {cx cy:Value} (hx:VR ψ w S m A x cx) (hy:VR ψ w S m A y cy) {t:TypeId} (ht:P.underlying t=some .bool) (d:Nat) :
 (Op.equalIn (d+1) t cx cy).run P w=.ok b w∧∀ op X Y,eqGuard op t X Y cx cy=pure ():=by
 unfold BR at hb
 split at hb
 · cases hb
   cases hx.iq;cases hy.iq
   exact ⟨by simp [Op.equalIn,run_underlying ht],fun op X Y=>eqGuard_at_bool ..⟩
 · cases hb
theorem jB {t:TypeId} {kd:Nat} (ht:mF P t=some kd):(∃ k,P.underlying t=some (.int k)∧kd=0)∨(P.underlying t=some .string∧kd=1)∨(P.underlying t=some .bool∧kd=2):=by
 unfold mF at ht
 split at ht
 · rename_i k hk;cases ht;exact .inl ⟨k,hk,rfl⟩
 · rename_i hk;cases ht;exact .inr (.inl ⟨hk,rfl⟩)
 · rename_i hk;cases ht;exact .inr (.inr ⟨hk,rfl⟩)
 · cases ht
theorem SY {x y:AV} {b:Bool} (hb:iE x y=some b) {cx cy:Value} (hx:VR ψ w S m A x cx) (hy:VR ψ w S m A y cy) {t:TypeId} {kd:Nat} (ht:mF P t=some kd) (hk:kL kd x=true) (d:Nat) :
 (Op.equalIn (d+1) t cx cy).run P w=.ok b w:=by
 have hkk:=jB ht
 unfold iE at hb
 split at hb
 · split at hb
   · rename_i hk'
     subst hk'
     cases hb
     have h0:kd=0:=by simpa [kL] using hk
     subst h0
     rcases hkk with ⟨k',hk',_⟩ | ⟨_,h⟩ | ⟨_,h⟩
     · cases hx.dI;cases hy.dI
       exact run_equalIn_int w d t _ k' _ _ hk'
     · cases h
     · cases h
   · cases hb
 · cases hb
   have h0:kd=1:=by simpa [kL] using hk
   subst h0
   rcases hkk with ⟨k',_,h⟩ | ⟨hk',_⟩ | ⟨_,h⟩
   · cases h
   · cases hx.jh;cases hy.jh
     rw [run_equalIn_string w d t _ _ hk',kU,kU]
   · cases h
 · cases hb
   have h0:kd=2:=by simpa [kL] using hk
   subst h0
   rcases hkk with ⟨k',_,h⟩ | ⟨_,h⟩ | ⟨hk',_⟩
   · cases h
   · cases h
   · cases hx.iq;cases hy.iq
     exact run_equalIn_bool' w d t _ _ hk'
 · cases hb
theorem Dp (xs ys:Array Value) (d:Nat):∀ (fs:List Field) (k:Nat) (ks:List Nat) (x y:List AV) (b:Bool),mY P k fs=some ks→iL ks x y=some b →
 (∀ (j:Nat) (v:AV),x[j]?=some v→v.cell=true∧k+j < xs.size∧VR ψ w S m A v (xs.getD (k+j) Go.undef))→(∀ (j:Nat) (v:AV),y[j]?=some v→v.cell=true∧k+j < ys.size∧VR ψ w S m A v (ys.getD (k+j) Go.undef)) →
 (Op.eqFields (d+1) xs ys fs).run P w=.ok b w
 | [],k,ks,x,y,b,h1,h2,_,_=>by
  simp only [mY] at h1
  cases h1
  cases x <;> cases y <;> simp only [iL] at h2 <;> cases h2
  simp [Op.eqFields]
 | f::fs,k,ks,x,y,b,h1,h2,h3,h4=>by
  simp only [mY] at h1
  split at h1
  · rename_i hc
    obtain ⟨c1,c2,c3⟩:=hc
    simp only [Option.bind_eq_bind,Option.bind_eq_some_iff,Option.some.injEq] at h1
    obtain ⟨kd,hkd,ks',hks,rfl⟩:=h1
    cases x with
    | nil=>simp only [iL] at h2;cases h2
    | cons vx x =>
     cases y with
     | nil=>simp only [iL] at h2;cases h2
     | cons vy y =>
      simp only [iL] at h2
      split at h2
      · rename_i hko
        obtain ⟨r,hr,h2⟩:=ak h2
        obtain ⟨s,hs,h2⟩:=aC h2
        obtain ⟨x1,x2,x3⟩:=h3 0 vx (by simp)
        obtain ⟨y1,y2,y3⟩:=h4 0 vy (by simp)
        simp only [Nat.add_zero] at x2 x3 y2 y3
        have hq:=SY (P:=P) (d:=d) hr x3 y3 hkd hko
        have ih:=Dp xs ys d fs (k+1) ks' x y s hks hs (fun j v hj=>by have:=h3 (j+1) v (by simpa using hj);rwa [show k+(j+1)=k+1+j by omega] at this)
         (fun j v hj=>by have:=h4 (j+1) v (by simpa using hj);rwa [show k+(j+1)=k+1+j by omega] at this)
        have hag:(isAgg f.type).run P w=.ok false w:=by
         unfold isAgg
         rcases jB hkd with ⟨k',hk',_⟩ | ⟨hk',_⟩ | ⟨hk',_⟩ <;> rw [Sem.run_bind,run_underlying hk'] <;> rfl
        have hpart:∀ (zs:Array Value),k < zs.size→(part f.type zs f.offset).run P w=.ok (zs.getD k Go.undef) w:=by
         intro zs hz
         unfold part
         rw [Sem.run_bind,hag]
         simp only [Result.andThen_ok,Bool.false_eq_true,if_false,c1]
         rw [getElem?_of_getD hz]
         rfl
        simp only [Op.eqFields]
        rw [if_pos c2]
        simp only [Sem.run_bind,hpart xs x2,hpart ys y2,Result.andThen_ok,hq]
        cases r
        · simp at h2;subst h2;simp
        · simp at h2;subst h2;simp [ih]
      · cases h2
  · cases h1
end
end Go.Pav
end
section
set_option linter.unusedSimpArgs false
set_option linter.unusedVariables false
namespace Go.Pav
open Go
section
variable {P:Program} {φ:FuncId→Option Nat} {ψ:Nat→FuncId} {N:Nat} {w0 w:World} {S:Nat→Prop} {m:Nat→Nat × Nat} {A:Nat→Prop} {h:Heap} {e:Env} {a:Act} {o:Oper}
theorem adv (cx:Cx P φ ψ N w0 w S m A h e a) {op:BinOp} {t t':TypeId} {X Y:Operand} (ho:o.op=.binOp op t X Y t') {x y:Opd} {kd:Nat} {ks:List Nat} {cop:COp} (hc:cEq kd ks op x y=some cop)
 {v:AV} {u:Upd} {nid:Nat} (hs:aH cop e h nid=some (v,u))
 (hr:∀ b,iJ kd ks (x.ev e) (y.ev e)=some b→(Op.equalIn 10000 t (a.eval X) (a.eval Y)).run P w=.ok b w∧(eqGuard op t X Y (a.eval X) (a.eval Y)).run P w=.ok () w)
 (hform:binOp .eql t (a.eval X) (a.eval Y)=(do pure (.bool (← Op.equal t (a.eval X) (a.eval Y)))) ∧
  binOp .neq t (a.eval X) (a.eval Y)=(do pure (.bool (!(← Op.equal t (a.eval X) (a.eval Y)))))):Snd P ψ N w0 w S m A (execOp a.eval o) (aN h u) v nid:=by
 have fin:∀ ne,cop=.eqv kd ks ne x y→(op=if ne then .neq else .eql)→Snd P ψ N w0 w S m A (execOp a.eval o) (aN h u) v nid:=by
  intro ne hcop hop
  subst hcop
  simp only [aH,Ic] at hs
  obtain ⟨b,h1,h2⟩:=aC hs
  cases h2
  obtain ⟨h3,h4⟩:=hr b h1
  refine Snd.quiet (cv:=.bool (b != ne)) cx.inv ?_ (.bool _) nid
  have he:(Op.equal t (a.eval X) (a.eval Y)).run P w=.ok b w:=h3
  simp only [execOp,ho,Sem.run_bind,h4,Result.andThen_ok]
  cases ne
  · simp only [Bool.false_eq_true,if_false] at hop
    subst hop
    rw [hform.1]
    simp [he]
  · simp only [if_true] at hop
    subst hop
    rw [hform.2]
    simp [he]
 unfold cEq at hc
 split at hc
 · cases hc;exact fin false rfl rfl
 · cases hc;exact fin true rfl rfl
 · cases hc
theorem QT {x y:Value} (t:TypeId) (hx:(∀ k n,x≠.int k n)∧(∀ k n,x≠.float k n)∧(∀ k n l,x≠.complex k n l)∧∀ s,x≠.string s) :
 binOp .eql t x y=(do pure (.bool (← Op.equal t x y)))∧binOp .neq t x y=(do pure (.bool (!(← Op.equal t x y)))):=by
 obtain ⟨h1,h2,h3,h4⟩:=hx
 cases x <;> first
  | exact absurd rfl (h1 _ _)
  | exact absurd rfl (h2 _ _)
  | exact absurd rfl (h3 _ _ _)
  | exact absurd rfl (h4 _)
  | (constructor <;> cases y <;> rfl)
theorem VR.form {x:AV} {c:Value} (hx:VR ψ w S m A x c) (hn:(∀ k n,x≠.int k n)∧(∀ s,x≠.str s)∧x≠.undef) :
 (∀ k n,c≠.int k n)∧(∀ k n,c≠.float k n)∧(∀ k n l,c≠.complex k n l)∧∀ s,c≠.string s:=by
 cases hx <;> simp_all
theorem Qe {kd:Nat} {ks:List Nat} {x y:AV} {b:Bool} (hb:iJ kd ks x y=some b):(∀ k n,x≠.int k n)∧(∀ s,x≠.str s)∧x≠.undef:=by
 unfold iJ at hb
 split at hb
 · unfold QW at hb;split at hb <;> simp_all
 · split at hb
   · unfold eqFn at hb;split at hb <;> simp_all
   · split at hb
     · unfold Jo at hb;split at hb <;> simp_all
     · split at hb
       · unfold I9 at hb;split at hb <;> simp_all
       · split at hb
         · unfold Js at hb;split at hb <;> simp_all
         · unfold BR at hb;split at hb <;> simp_all
theorem BP (cx:Cx P φ ψ N w0 w S m A h e a) {op:BinOp} {t t':TypeId} {X Y:Operand} (ho:o.op=.binOp op t X Y t') {x y:Opd} (hx:fA φ X=some x) {kd:Nat} {ks:List Nat} {cop:COp} (hc:cEq kd ks op x y=some cop)
 {v:AV} {u:Upd} {nid:Nat} (hs:aH cop e h nid=some (v,u))
 (hr:∀ b,iJ kd ks (x.ev e) (y.ev e)=some b→(Op.equalIn 10000 t (a.eval X) (a.eval Y)).run P w=.ok b w∧(eqGuard op t X Y (a.eval X) (a.eval Y)).run P w=.ok () w):Snd P ψ N w0 w S m A (execOp a.eval o) (aN h u) v nid:=by
 have hsome:∃ b,iJ kd ks (x.ev e) (y.ev e)=some b:=by
  unfold cEq at hc
  split at hc
  · cases hc;simp only [aH,Ic] at hs;obtain ⟨b,h1,_⟩:=aC hs;exact ⟨b,h1⟩
  · cases hc;simp only [aH,Ic] at hs;obtain ⟨b,h1,_⟩:=aC hs;exact ⟨b,h1⟩
  · cases hc
 obtain ⟨b,hb⟩:=hsome
 exact adv cx ho hc hs hr (QT t ((cx.opd hx).form (Qe hb)))
theorem aiO (cx:Cx P φ ψ N w0 w S m A h e a) {op:BinOp} {t t':TypeId} {X Y:Operand} (ho:o.op=.binOp op t X Y t'):Ok P φ ψ N w0 w S m A h e a o:=by
 intro cop v u nid hc hs hn
 rw [ho] at hc
 simp only [cOp,Option.bind_eq_bind,Option.bind_eq_some_iff] at hc
 obtain ⟨x,hx,y,hy,d,hd,hc⟩:=hc
 have hX:=cx.opd hx
 have hY:=cx.opd hy
 have plain:cop=.bin op x y→Snd P ψ N w0 w S m A (execOp a.eval o) (aN h u) v nid:=by
  intro hcop
  subst hcop
  simp only [aH,YO] at hs
  obtain ⟨h1,rfl⟩:=dS hs
  obtain ⟨cv,h2,h3⟩:=Xi (P:=P) (t:=t) h1 hX hY X Y
  refine Snd.val cx.inv ?_ h2 h3 nid
  simp [execOp,ho]
 split at hc
 · cases hc;exact plain rfl
 · cases hc;exact plain rfl
 · refine BP cx ho hx hc hs fun b hb=>?_
   obtain ⟨h1,h2⟩:=ab6 (P:=P) (by simpa [iJ] using hb) hX hY hd 9999
   exact ⟨h1,by rw [h2];rfl⟩
 · refine BP cx ho hx hc hs fun b hb=>?_
   obtain ⟨h1,h2⟩:=acn (P:=P) (by simpa [iJ] using hb) hX hY hd 9999
   exact ⟨h1,by rw [h2];rfl⟩
 · refine BP cx ho hx hc hs fun b hb=>?_
   obtain ⟨h1,h2⟩:=V9 (P:=P) (by simpa [iJ] using hb) hX hY hd 9999
   exact ⟨h1,by rw [h2];rfl⟩
 · refine BP cx ho hx hc hs fun b hb=>?_
   obtain ⟨h1,h2⟩:=XV (P:=P) (by simpa [iJ] using hb) hX hY hd 9999
   exact ⟨h1,by rw [h2];rfl⟩
 · refine BP cx ho hx hc hs fun b hb=>?_
   obtain ⟨h1,h2⟩:=RI (P:=P) (by simpa [iJ] using hb) hX hY hd 9999
   exact ⟨h1,by rw [h2];rfl⟩
 · rename_i fs
   simp only [Option.bind_eq_some_iff] at hc
   obtain ⟨ks,hks,hc⟩:=hc
   split at hc
   · rename_i hg
     obtain ⟨g1,g2⟩:=hg
     refine BP cx ho hx hc hs fun b hb=>?_
     have hb':Js ks (x.ev e) (y.ev e)=some b:=by simpa [iJ] using hb
     unfold Js at hb'
     split at hb'
     · rename_i xs ys ex ey
       rw [ex] at hX
       rw [ey] at hY
       obtain ⟨vx,e1,n1,c1,r1⟩:=hX.uq
       obtain ⟨vy,e2,n2,c2,r2⟩:=hY.uq
       rw [e1,e2]
       have hf:P.fieldsOf t=fs:=by unfold Program.fieldsOf;rw [hd]
       constructor
       · have hst:=run_equalIn_struct (P:=P) w 9999 t vx vy (by rw [hf];exact hd) g2
         show (Op.equalIn (9999+1) t (.agg vx) (.agg vy)).run P w=.ok b w
         rw [hst,hf]
         refine Dp (ψ:=ψ) (S:=S) (m:=m) (A:=A) vx vy 9998 fs.toList 0 ks xs ys b hks hb' (fun j v hj=>?_) (fun j v hj=>?_)
         · rw [Nat.zero_add]
           exact ⟨c1 j v hj,by rw [n1];exact (List.getElem?_eq_some_iff.1 hj).1,r1 j v hj⟩
         · rw [Nat.zero_add]
           exact ⟨c2 j v hj,by rw [n2];exact (List.getElem?_eq_some_iff.1 hj).1,r2 j v hj⟩
       · exact run_eqGuard_agg w op t X Y vx vy g1
     · cases hb'
   · cases hc
 · cases hc
theorem ame (cx:Cx P φ ψ N w0 w S m A h e a) {op:UnOp} {t:TypeId} {X:Operand} (ho:o.op=.unOp op t X):Ok P φ ψ N w0 w S m A h e a o:=by
 intro cop v u nid hc hs hn
 rw [ho] at hc
 simp only [cOp,Option.map_eq_some_iff] at hc
 obtain ⟨x,hx,rfl⟩:=hc
 have hX:=cx.opd hx
 simp only [aH,sUn] at hs
 obtain ⟨h1,rfl⟩:=dS hs
 unfold Pg at h1
 split at h1
 · rename_i k n he
   rw [he] at hX
   have hc:=hX.dI
   split at h1 <;> cases h1
   · exact Snd.val cx.inv (s:=Op.unary .neg (a.eval X)) (by simp [execOp,ho]) (by rw [hc];simp [Op.unary,Op.intArith]) (.int _ _) nid
   · exact Snd.val cx.inv (s:=Op.unary .xor (a.eval X)) (by simp [execOp,ho]) (by rw [hc];simp [Op.unary,Op.intBits]) (.int _ _) nid
 · rename_i b he
   rw [he] at hX
   have hc:=hX.iq
   split at h1 <;> cases h1
   exact Snd.val cx.inv (s:=Op.unary .not (a.eval X)) (by simp [execOp,ho]) (by rw [hc];simp [Op.unary]) (.bool _) nid
 · cases h1
theorem y7:∀ {es:List (List AV)} {s:List UInt8},bytesOf es=some s→∃ ns:List Int,ns.length=es.length∧s=ns.map (fun n=>UInt8.ofNat n.toNat)∧∀ (i:Nat) (n:Int),ns[i]?=some n→es[i]?=some [.int .u8 n]
 | [],s,h=>by simp only [bytesOf,Option.some.injEq] at h;subst h;exact ⟨[],rfl,rfl,by simp⟩
 | e::r,s,h=>by
  simp only [bytesOf] at h
  split at h
  · rename_i n
    obtain ⟨t,ht,rfl⟩:=aC h
    obtain ⟨ns,h1,h2,h3⟩:=y7 ht
    refine ⟨n::ns,by simp [h1],by simp [h2],fun i k hk=>?_⟩
    cases i with
    | zero=>simp at hk;subst hk;rfl
    | succ i=>simpa using h3 i k (by simpa using hk)
  · cases h
theorem He:∀ (ns:List Int) (s:ByteArray),ns.foldl (fun r n=>r.push (UInt8.ofNat n.toNat)) s=⟨⟨s.data.toList++ns.map fun n=>UInt8.ofNat n.toNat⟩⟩
 | [],s=>by cases s;simp
 | n::ns,s=>by
  rw [List.foldl_cons,He ns]
  simp [ByteArray.push]
theorem aja (cx:Cx P φ ψ N w0 w S m A h e a) {t t':TypeId} {X:Operand} (ho:o.op=.convert t t' X):Ok P φ ψ N w0 w S m A h e a o:=by
 intro cop v u nid hc hs hn
 rw [ho] at hc
 simp only [cOp,Option.bind_eq_bind,Option.bind_eq_some_iff] at hc
 obtain ⟨x,hx,d1,hd1,d2,hd2,hc⟩:=hc
 have hX:=cx.opd hx
 split at hc
 · cases hc
   simp only [aH,QD] at hs
   split at hs
   · rename_i k' n he
     cases hs
     rw [he] at hX
     have hc:=hX.dI
     refine Snd.val cx.inv (s:=convert t t' (a.eval X)) (by simp [execOp,ho]) ?_ (.int _ _) nid
     rw [hc]
     simp [convert,run_underlying hd1,run_underlying hd2,Conv.intToInt]
   · cases hs
 · cases hc
   simp only [aH,Qg] at hs
   split at hs
   · rename_i s he
     cases hs
     rw [he] at hX
     have hc:=hX.jh
     refine Snd.val cx.inv (s:=convert t t' (a.eval X)) (by simp [execOp,ho]) ?_ (.str _) nid
     rw [hc]
     simp [convert,run_underlying hd1,run_underlying hd2]
   · cases hs
 · rename_i el
   simp only [Option.bind_eq_some_iff] at hc
   obtain ⟨d3,hd3,hc⟩:=hc
   split at hc
   · cases hc
     simp only [aH,Qb] at hs
     obtain ⟨h1,rfl⟩:=dS hs
     have fin:∀ (s:List UInt8),(convert t t' (a.eval X)).run P w=.ok (.string ⟨⟨s⟩⟩) w→v=.str s→Snd P ψ N w0 w S m A (execOp a.eval o) (aN h []) v nid:=fun s q1 q2=>by
      rw [q2];exact Snd.val cx.inv (s:=convert t t' (a.eval X)) (by simp [execOp,ho]) q1 (.str _) nid
     cases hxv:x.ev e <;> rw [hxv] at h1 hX <;> simp only [PY] at h1 <;> try (cases h1;done)
     · cases h1
       refine fin [] ?_ rfl
       rw [hX.fM,run_convert_bytes_string w t t' el none 0 0 hd1 hd3 hd2]
       simp [Conv.bytesToString]
       rfl
     · rename_i z es ex
       split at h1
       · rename_i hz
         subst hz
         obtain ⟨s,hb,rfl⟩:=aC h1
         obtain ⟨ns,n1,n2,n3⟩:=y7 hb
         have load:∀ (b off:Nat),(∀ (i:Nat) (n:Int),ns[i]?=some n→w.cell? ⟨b,off+i,none⟩=some (.int .u8 n))→∀ cap,(convert t t' (.slice (some ⟨b,off,none⟩) es.length cap)).run P w=.ok (.string ⟨⟨s⟩⟩) w:=by
          intro b off hcell cap
          rw [run_convert_bytes_string w t t' el (some ⟨b,off,none⟩) es.length cap hd1 hd3 hd2]
          have hl:(loadCells ⟨b,off,none⟩ es.length).run P w=.ok (ns.map (Value.int .u8)).toArray w:=by
           rw [run_loadCells w ⟨b,off,none⟩ es.length (fun j=>Value.int .u8 (ns.getD j 0)) (fun j hj=>by
            have hj':j < ns.length:=by omega
            rw [lu,hcell j ns[j] (List.getElem?_eq_getElem hj')]
            simp [hj'])]
           congr 2
           refine List.ext_getElem? fun j=>?_
           by_cases hj:j < es.length
           · have hj':j < ns.length:=by omega
             simp [hj,hj']
           · have hj':¬ j < ns.length:=by omega
             simp [hj,hj']
          rw [run_bytesToString w ⟨b,off,none⟩ es.length cap ns hl,He,n2]
          rfl
         rcases hX.nI with ⟨b,off,cap,cs,e1,hS,hw,hcap,hex,hcell,hrep⟩ | ⟨rfl,ad,k,e1,_⟩
         · refine fin s ?_ rfl
           rw [e1]
           refine load b off (fun i n hi=>?_) cap
           have he:=n3 i n hi
           obtain ⟨_,q⟩:=hcell i _ 0 _ he rfl
           have r:=(hrep i _ 0 _ he rfl).dI
           rw [r] at q
           simpa using q
         · refine fin s ?_ rfl
           simp only [bytesOf,Option.some.injEq] at hb
           subst hb
           rw [e1,run_convert_bytes_string w t t' el (some ad) 0 k hd1 hd3 hd2]
           rw [run_bytesToString w ad 0 k [] (by simp [loadCells,loadCellsFrom])]
           rfl
       · cases h1
   · cases hc
 · cases hc
theorem afn (cx:Cx P φ ψ N w0 w S m A h e a) {fn:Go.Fn} {first caps:Array Operand} (ho:o.op=.makeFunc fn first caps):Ok P φ ψ N w0 w S m A h e a o:=by
 intro cop v u nid hc hs hn
 rw [ho] at hc
 cases fn <;> simp only [cOp] at hc <;> try (cases hc;done)
 rename_i f
 simp only [Option.bind_eq_bind,Option.bind_eq_some_iff] at hc
 obtain ⟨g,hg,hc⟩:=hc
 split at hc
 · rename_i hf
   simp only [Option.bind_eq_some_iff] at hc
   obtain ⟨ys,hys,hc⟩:=hc
   cases hc
   simp only [aH,yY] at hs
   split at hs
   · cases hs
     obtain ⟨hl,hi⟩:=cx.alM hys
     have hfe:first=#[]:=Array.eq_empty_of_size_eq_zero hf
     refine Snd.val cx.inv (s:=Instr.makeFunc (.func f) (first.map a.eval) (caps.map a.eval)) (cv:=.func (.func (ψ g)) #[] (caps.map a.eval)) (by simp [execOp,ho]) ?_ (.fn g _ _ (by simp [hl]) fun j x hj=>?_) nid
     · rw [cx.ids f g hg,hfe];simp [Instr.makeFunc]
     · simp only [List.getElem?_map,Option.map_eq_some_iff] at hj
       obtain ⟨y,hj,rfl⟩:=hj
       obtain ⟨x,h1,h2⟩:=hi j y hj
       rw [Array.getD_eq_getD_getElem?]
       simp only [Array.getElem?_map,h1,Option.map_some,Option.getD_some]
       exact h2
   · cases hs
 · cases hc
theorem Zx (cx:Cx P φ ψ N w0 w S m A h e a) {t:TypeId} {r:Option Operand} (ho:o.op=.makeMap t r):Ok P φ ψ N w0 w S m A h e a o:=by
 intro cop v u nid hc hs hn
 rw [ho] at hc
 cases r with
 | some x=>simp only [cOp] at hc;cases hc
 | none =>
  simp only [cOp] at hc
  cases hc
  simp only [aH,aau] at hs
  cases hs
  have le:=Le.push (w:=w) (w':=w.alloc (.map #[] 0)) (m:=m) (A:=A) (obj:=.map #[] 0) rfl cx.inv.sb hn (w.heap.size,0)
  have hnew:(w.alloc (.map #[] 0)).heap[w.heap.size]?=some (.map #[] 0):=by show (w.heap.push _)[_]?=_;simp
  refine ⟨.map (some w.heap.size),w.alloc (.map #[] 0),S,gu m nid (w.heap.size,0),rQ A nid,.inl ?_,?_,cx.inv.push (w':=w.alloc (.map #[] 0)) (obj:=.map #[] 0) rfl rfl rfl hn 0 (.map []) ?_ rfl,le,fun _ _ hs=>hs,fun b hb=>hb⟩
  · simp [execOp,ho,Instr.makeMap]
  · have:=VR.map (ψ:=ψ) (w:=w.alloc (.map #[] 0)) (S:=S) (m:=gu m nid (w.heap.size,0)) (A:=rQ A nid) nid (.inr rfl)
    simpa [gu] using this
  · exact ⟨#[],0,hnew,rfl,fun i k v hi=>by simp at hi⟩
theorem abT (cx:Cx P φ ψ N w0 w S m A h e a) {t:TypeId} {X:Operand} (ho:o.op=.range t X):Ok P φ ψ N w0 w S m A h e a o:=by
 intro cop v u nid hc hs hn
 rw [ho] at hc
 simp only [cOp,Option.bind_eq_bind,Option.bind_eq_some_iff] at hc
 obtain ⟨x,hx,d,hd,hc⟩:=hc
 have hX:=cx.opd hx
 split at hc
 · cases hc
   simp only [aH,KI] at hs
   split at hs
   · rename_i s he
     cases hs
     rw [he] at hX
     have hc:=hX.jh
     have le:=Le.push (w:=w) (w':=w.alloc (.stringIter ⟨⟨s⟩⟩ 0)) (m:=m) (A:=A) (obj:=.stringIter ⟨⟨s⟩⟩ 0) rfl cx.inv.sb hn (w.heap.size,0)
     have hnew:(w.alloc (.stringIter ⟨⟨s⟩⟩ 0)).heap[w.heap.size]?=some (.stringIter ⟨⟨s⟩⟩ 0):=by show (w.heap.push _)[_]?=_;simp
     refine ⟨.pointer (some ⟨w.heap.size,0,none⟩),w.alloc (.stringIter ⟨⟨s⟩⟩ 0),S,gu m nid (w.heap.size,0),rQ A nid,.inl ?_,?_,cx.inv.push (w':=w.alloc (.stringIter ⟨⟨s⟩⟩ 0)) (obj:=.stringIter ⟨⟨s⟩⟩ 0) rfl rfl rfl hn 0 (.iter s 0) hnew rfl,le,fun _ _ hs=>hs,fun b hb=>hb⟩
     · simp [execOp,ho,Instr.range,run_underlying hd,hc]
     · have:=VR.ptr (ψ:=ψ) (w:=w.alloc (.stringIter ⟨⟨s⟩⟩ 0)) (S:=S) (m:=gu m nid (w.heap.size,0)) (A:=rQ A nid) nid 0 0 (.inr rfl)
       simpa [gu] using this
   · cases hs
 · cases hc
theorem ahW (cx:Cx P φ ψ N w0 w S m A h e a) {X:Operand} {k:Nat} (ho:o.op=.extract X k):Ok P φ ψ N w0 w S m A h e a o:=by
 intro cop v u nid hc hs hn
 rw [ho] at hc
 simp only [cOp,Option.map_eq_some_iff] at hc
 obtain ⟨x,hx,rfl⟩:=hc
 have hX:=cx.opd hx
 simp only [aH,Po] at hs
 split at hs
 · rename_i vs he
   obtain ⟨h1,rfl⟩:=dS hs
   rw [he] at hX
   obtain ⟨cs,e1,n1,r1⟩:=hX.Vo
   have hk:k < cs.size:=by rw [n1];exact (List.getElem?_eq_some_iff.1 h1).1
   refine Snd.val cx.inv (s:=Instr.extract (a.eval X) k) (by simp [execOp,ho]) ?_ (r1 k v h1) nid
   rw [e1]
   simp only [Instr.extract,getElem?_of_getD hk]
   rfl
 · cases hs
end
end Go.Pav
end
section
set_option linter.unusedSimpArgs false
set_option linter.unusedVariables false
namespace Go.Pav
open Go
section
variable {P:Program} {φ:FuncId→Option Nat} {ψ:Nat→FuncId} {N:Nat} {w0 w:World} {S:Nat→Prop} {m:Nat→Nat × Nat} {A:Nat→Prop} {h:Heap} {e:Env} {a:Act} {o:Oper}
theorem VR.OL {cs:List AV} {b off:Nat} (hv:VR ψ w S m A (.rop cs) (.pointer (some ⟨b,off,none⟩))) (k:Nat):VR ψ w S m A (.rop (cs.drop k)) (.pointer (some ⟨b,off+k,none⟩)):=by
 obtain ⟨b',off',vs,e1,hS,hcell,hrep⟩:=hv.qc
 cases e1
 refine .rop (cs.drop k) b (off+k) (fun j=>vs (k+j)) hS (fun j x hx=>?_) (fun j x hx=>?_)
 · rw [List.getElem?_drop] at hx
   obtain ⟨h1,h2⟩:=hcell _ x hx
   exact ⟨h1,by rw [Nat.add_assoc];exact h2⟩
 · rw [List.getElem?_drop] at hx
   exact hrep _ x hx
theorem VR.Vs {b i o:Nat} {c:Value} (hv:VR ψ w S m A (.ptr b i o) c) (k:Nat):VR ψ w S m A (.ptr b i (o+k)) (.pointer (some ⟨(m b).1,i * (m b).2+o+k,none⟩)):=by
 obtain ⟨hA,_⟩:=hv.kQ
 have:=VR.ptr (ψ:=ψ) (w:=w) (S:=S) (m:=m) (A:=A) b i (o+k) hA
 rwa [← Nat.add_assoc] at this
theorem ahN (cx:Cx P φ ψ N w0 w S m A h e a) {t:TypeId} {X:Operand} {f:Nat} (ho:o.op=.fieldAddr t X f):Ok P φ ψ N w0 w S m A h e a o:=by
 intro cop v u nid hc hs hn
 rw [ho] at hc
 simp only [cOp,Option.bind_eq_bind,Option.bind_eq_some_iff] at hc
 obtain ⟨x,hx,d,hd,hc⟩:=hc
 have hX:=cx.opd hx
 split at hc
 · rename_i fs
   simp only [Option.bind_eq_some_iff] at hc
   obtain ⟨fd,hf,n,hn',hc⟩:=hc
   split at hc
   · cases hc
   · rename_i hne
     cases hc
     have run:∀ b off,a.eval X=.pointer (some ⟨b,off,none⟩)→(Instr.fieldAt t (a.eval X) f).run P w=.ok (.pointer (some ⟨b,off+fd.offset,none⟩)) w:=by
      intro b off he
      rw [he]
      simp only [Instr.fieldAt,Sem.run_bind,run_underlying hd,Result.andThen_ok,hf,Instr.sureAddr,Sem.run_pure,fieldPlace,fC hn']
      rw [if_neg hne]
      simp [lu]
     simp only [aH,Ky] at hs
     split at hs
     · rename_i cs he
       cases hs
       rw [he] at hX
       obtain ⟨b,off,vs,e1,_⟩:=hX.qc
       refine Snd.val cx.inv (s:=Instr.fieldAt t (a.eval X) f) (by simp [execOp,ho]) (run b off e1) ?_ nid
       rw [e1] at hX
       exact hX.OL _
     · rename_i b i o' he
       cases hs
       rw [he] at hX
       obtain ⟨_,e1⟩:=hX.kQ
       exact Snd.val cx.inv (s:=Instr.fieldAt t (a.eval X) f) (by simp [execOp,ho]) (run _ _ e1) (hX.Vs _) nid
     · cases hs
 · cases hc
theorem OG {t:TypeId} {n:Nat} {ag:Bool} (hs:sizeT P t=some n) (hag:uH P t=some ag) {cs:List AV} {vs:Array Value} (hn:vs.size=cs.length)
 (hcell:∀ (j:Nat) (x:AV),cs[j]?=some x→x.cell=true) (hr:∀ (j:Nat) (x:AV),cs[j]?=some x→VR ψ w S m A x (vs.getD j Go.undef)) {off:Nat} {v:AV}
 (hl:qJ n ag (cs.drop off)=some v):∃ cv,(part t vs off).run P w=.ok cv w∧VR ψ w S m A v cv:=by
 unfold qJ at hl
 cases ag with
 | true =>
  simp only [if_true] at hl
  by_cases hle:n≤(cs.drop off).length
  · rw [if_pos hle] at hl
    cases hl
    rw [List.length_drop] at hle
    have get:∀ (j:Nat) (x:AV),((cs.drop off).take n)[j]?=some x→j < n∧cs[off+j]?=some x:=by
     intro j x hx
     rw [List.getElem?_take] at hx
     split at hx
     · rename_i hj
       rw [List.getElem?_drop] at hx
       exact ⟨hj,hx⟩
     · cases hx
    refine ⟨.agg (vs.extract off (off+n)),?_,.agg _ _ ?_ (fun j x hx=>hcell _ x (get j x hx).2) (fun j x hx=>?_)⟩
    · unfold part
      rw [Sem.run_bind,wB hag]
      simp [fC hs]
    · by_cases h0:n=0
      · subst h0;simp;omega
      · simp;omega
    · obtain ⟨hj,h2⟩:=get j x hx
      have h3:=hr _ x h2
      have hlt:off+j < vs.size:=by rw [hn];exact (List.getElem?_eq_some_iff.1 h2).1
      rw [Array.getD_eq_getD_getElem?] at h3 ⊢
      rw [Array.getElem?_extract]
      rw [if_pos (by omega)]
      exact h3
  · rw [if_neg hle] at hl;cases hl
 | false =>
  simp only [Bool.false_eq_true,if_false] at hl
  rw [List.head?_drop] at hl
  have hlt:off < vs.size:=by rw [hn];exact (List.getElem?_eq_some_iff.1 hl).1
  refine ⟨vs.getD off Go.undef,?_,hr off v hl⟩
  unfold part
  rw [Sem.run_bind,wB hag]
  simp only [Result.andThen_ok,Bool.false_eq_true,if_false]
  rw [getElem?_of_getD hlt]
  rfl
theorem afd (cx:Cx P φ ψ N w0 w S m A h e a) {t:TypeId} {X:Operand} {f:Nat} (ho:o.op=.field t X f):Ok P φ ψ N w0 w S m A h e a o:=by
 intro cop v u nid hc hs hn
 rw [ho] at hc
 simp only [cOp,Option.bind_eq_bind,Option.bind_eq_some_iff] at hc
 obtain ⟨x,hx,d,hd,hc⟩:=hc
 have hX:=cx.opd hx
 split at hc
 · rename_i fs
   simp only [Option.bind_eq_some_iff] at hc
   obtain ⟨fd,hf,n,hn',ag,hag,hc⟩:=hc
   cases hc
   simp only [aH,DF] at hs
   split at hs
   · rename_i cs he
     obtain ⟨h1,rfl⟩:=dS hs
     rw [he] at hX
     obtain ⟨vs,e1,n1,c1,r1⟩:=hX.uq
     obtain ⟨cv,h2,h3⟩:=OG (P:=P) hn' hag n1 c1 r1 h1
     refine Snd.val cx.inv (s:=Instr.field t (a.eval X) f) (by simp [execOp,ho]) ?_ h3 nid
     rw [e1]
     simp only [Instr.field,Sem.run_bind,run_underlying hd,Result.andThen_ok,hf,asAgg,Sem.run_pure,h2]
   · cases hs
 · cases hc
theorem VX {k:IntKind} {n:Nat} {g off:Nat} {t el:TypeId} {len cap z:Nat} (hd:P.underlying t=some (.slice el)) (hz:sizeT P el=some z) (hl:n < len) :
 (Instr.indexAt t (.slice (some ⟨g,off,none⟩) len cap) (.int k n)).run P w=.ok (.pointer (some ⟨g,off+n * z,none⟩)) w:=by
 have h1:(0:Int)≤n∧(n:Int) < len:=by omega
 simp only [Instr.indexAt,asIntOf,Sem.run_bind,Sem.run_pure,run_underlying hd,Result.andThen_ok]
 rw [if_pos h1]
 simp [fC hz,lu]
theorem agG (cx:Cx P φ ψ N w0 w S m A h e a) {t:TypeId} {X I:Operand} (ho:o.op=.indexAddr t X I):Ok P φ ψ N w0 w S m A h e a o:=by
 intro cop v u nid hc hs hn
 rw [ho] at hc
 simp only [cOp,Option.bind_eq_bind,Option.bind_eq_some_iff] at hc
 obtain ⟨x,hx,ix,hix,d,hd,hc⟩:=hc
 have hX:=cx.opd hx
 have hI:=cx.opd hix
 split at hc
 · rename_i el
   simp only [Option.bind_eq_some_iff] at hc
   obtain ⟨z,hz,hc⟩:=hc
   split at hc
   · cases hc
   · cases hc
     simp only [aH,Dc] at hs
     split at hs
     · rename_i k n he
       obtain ⟨n',hn',hs1⟩:=ak hs
       replace hs:=hs1;clear hs1
       cases nat?_some hn'
       rw [he] at hI
       have eI:=hI.dI
       cases hxv:x.ev e <;> rw [hxv] at hs hX <;> simp only [sF] at hs <;> try (cases hs;done)
       · rename_i z' es ex
         split at hs
         · rename_i hzz
           subst hzz
           obtain ⟨cs,hcs,hs⟩:=ak hs
           cases hs
           have hlt:n' < es.length:=(List.getElem?_eq_some_iff.1 hcs).1
           rcases hX.nI with ⟨b,off,cap,vs,e1,hS,hw,hcap,hex,hcell,hrep⟩ | ⟨rfl,_⟩
           case inr=>simp at hlt
           refine Snd.val cx.inv (s:=Instr.indexAt t (a.eval X) (a.eval I)) (by simp [execOp,ho]) (by rw [e1,eI];exact VX hd hz hlt) ?_ nid
           exact .rop cs b (off+n' * z') (vs n') hS (fun j y hy=>hcell n' cs j y hcs hy) (fun j y hy=>hrep n' cs j y hcs hy)
         · cases hs
       · rename_i b z' j len cap ex
         split at hs
         · rename_i hzz
           obtain ⟨hzz,hlt⟩:=hzz
           subst hzz
           cases hs
           obtain ⟨cc,e1,hA,hmz,_⟩:=hX.lY
           refine Snd.val cx.inv (s:=Instr.indexAt t (a.eval X) (a.eval I)) (by simp [execOp,ho]) (by rw [e1,eI];exact VX hd hz hlt) ?_ nid
           have:=VR.ptr (ψ:=ψ) (w:=w) (S:=S) (m:=m) (A:=A) b (j+n') 0 hA
           rw [hmz,Nat.add_zero,Nat.add_mul] at this
           exact this
         · cases hs
     · cases hs
 · rename_i len el
   simp only [Option.bind_eq_some_iff] at hc
   obtain ⟨z,hz,hc⟩:=hc
   split at hc
   · cases hc
   · cases hc
     simp only [aH,Dl] at hs
     split at hs
     · rename_i k n he
       obtain ⟨n',hn',hs1⟩:=ak hs
       replace hs:=hs1;clear hs1
       cases nat?_some hn'
       rw [he] at hI
       have eI:=hI.dI
       split at hs
       · rename_i hlt
         have run:∀ b off,a.eval X=.pointer (some ⟨b,off,none⟩)→(Instr.indexAt t (a.eval X) (a.eval I)).run P w=.ok (.pointer (some ⟨b,off+n' * z,none⟩)) w:=by
          intro b off e1
          rw [e1,eI]
          have h1:(0:Int)≤n'∧(n':Int) < len:=by omega
          simp only [Instr.indexAt,asIntOf,Sem.run_bind,Sem.run_pure,run_underlying hd,Result.andThen_ok,Instr.sureAddr]
          rw [if_pos h1]
          simp [fC hz,lu]
         cases hxv:x.ev e <;> rw [hxv] at hs hX <;> simp only [sS] at hs <;> try (cases hs;done)
         · rename_i cs
           cases hs
           obtain ⟨b,off,vs,e1,_⟩:=hX.qc
           refine Snd.val cx.inv (s:=Instr.indexAt t (a.eval X) (a.eval I)) (by simp [execOp,ho]) (run b off e1) ?_ nid
           rw [e1] at hX
           exact hX.OL _
         · rename_i b i o'
           cases hs
           obtain ⟨_,e1⟩:=hX.kQ
           exact Snd.val cx.inv (s:=Instr.indexAt t (a.eval X) (a.eval I)) (by simp [execOp,ho]) (run _ _ e1) (hX.Vs _) nid
       · cases hs
     · cases hs
 · cases hc
theorem zX (cx:Cx P φ ψ N w0 w S m A h e a) {t:TypeId} {X I:Operand} (ho:o.op=.index t X I):Ok P φ ψ N w0 w S m A h e a o:=by
 intro cop v u nid hc hs hn
 rw [ho] at hc
 simp only [cOp,Option.bind_eq_bind,Option.bind_eq_some_iff] at hc
 obtain ⟨x,hx,ix,hix,d,hd,hc⟩:=hc
 have hX:=cx.opd hx
 have hI:=cx.opd hix
 split at hc
 · cases hc
   simp only [aH,qI] at hs
   split at hs
   · rename_i s k n ex ei
     obtain ⟨n',hn',hs1⟩:=ak hs
     replace hs:=hs1;clear hs1
     cases nat?_some hn'
     obtain ⟨c,hc',hs⟩:=ak hs
     cases hs
     rw [ex] at hX
     rw [ei] at hI
     have eX:=hX.jh
     have eI:=hI.dI
     refine Snd.val cx.inv (s:=Instr.index t (a.eval X) (a.eval I)) (cv:=.int .u8 c.toNat) (by simp [execOp,ho]) ?_ (.int _ _) nid
     rw [eX,eI]
     have h0:(0:Int)≤n':=by omega
     have hlt:n' < s.length:=(List.getElem?_eq_some_iff.1 hc').1
     have hb:(⟨⟨s⟩⟩:ByteArray)[n']?=some c:=by
      have hsz:(⟨⟨s⟩⟩:ByteArray).size=s.length:=rfl
      rw [getElem?_pos (⟨⟨s⟩⟩:ByteArray) n' (by rw [hsz];exact hlt)]
      congr 1
      have:=(List.getElem?_eq_some_iff.1 hc').2
      rw [← this]
      rfl
     simp only [Instr.index,asIntOf,Sem.run_bind,Sem.run_pure,run_underlying hd,Result.andThen_ok]
     rw [if_pos h0]
     simp [hb]
   · cases hs
 · rename_i len el
   simp only [Option.bind_eq_some_iff] at hc
   obtain ⟨z,hz,ag,hag,hc⟩:=hc
   cases hc
   simp only [aH,Dv] at hs
   split at hs
   · rename_i cs k n ex ei
     obtain ⟨n',hn',hs1⟩:=ak hs
     replace hs:=hs1;clear hs1
     cases nat?_some hn'
     split at hs
     · rename_i hlt
       obtain ⟨h1,rfl⟩:=dS hs
       rw [ex] at hX
       rw [ei] at hI
       obtain ⟨vs,e1,n1,c1,r1⟩:=hX.uq
       have eI:=hI.dI
       obtain ⟨cv,h2,h3⟩:=OG (P:=P) hz hag n1 c1 r1 h1
       refine Snd.val cx.inv (s:=Instr.index t (a.eval X) (a.eval I)) (by simp [execOp,ho]) ?_ h3 nid
       rw [e1,eI]
       have h0:(0:Int)≤n'∧(n':Int) < len:=by omega
       simp only [Instr.index,asIntOf,Sem.run_bind,Sem.run_pure,run_underlying hd,Result.andThen_ok]
       rw [if_pos h0]
       simp [fC hz,h2]
     · cases hs
   · cases hs
 · cases hc
end
end Go.Pav
end
section
set_option linter.unusedSimpArgs false
set_option linter.unusedVariables false
namespace Go.Pav
open Go
section
variable {h:Heap}
theorem CQ (k:Nat):∀ (bs:List Nat) (h1:Heap),
 (∃ z es mu,get h k=some (.cells z es mu)∧k ∈ bs∧get (aN h1 (aV h bs)) k=some (.cells z es false)) ∨
 (get (aN h1 (aV h bs)) k=get h1 k∧(k ∈ bs→∀ z es mu,get h k≠some (.cells z es mu))):=by
 intro bs
 induction bs with
 | nil=>intro h1;exact .inr ⟨rfl,fun hk=>by cases hk⟩
 | cons b r ih =>
  intro h1
  have other:(∀ z es mu,get h b≠some (.cells z es mu))→aV h (b::r)=aV h r:=by
   intro hno
   simp only [aV]
  by_cases hb:∃ z es mu,get h b=some (.cells z es mu)
  · obtain ⟨z,es,mu,hg⟩:=hb
    have e1:aN h1 (aV h (b::r))=aN (put h1 b (.cells z es false)) (aV h r):=by simp only [aV,hg,aN,uF]
    rw [e1]
    rcases ih (put h1 b (.cells z es false)) with ⟨z',es',mu',q1,q2,q3⟩ | ⟨q1,q2⟩
    · exact .inl ⟨z',es',mu',q1,List.mem_cons_of_mem _ q2,q3⟩
    · rw [get_put] at q1
      by_cases e:b=k
      · subst e
        rw [if_pos rfl] at q1
        exact .inl ⟨z,es,mu,hg,List.mem_cons_self,q1⟩
      · rw [if_neg e] at q1
        exact .inr ⟨q1,fun hk=>q2 (by rcases List.mem_cons.1 hk with rfl | hk;exact absurd rfl e;exact hk)⟩
  · have hb':∀ z es mu,get h b≠some (.cells z es mu):=fun z es mu hg=>hb ⟨z,es,mu,hg⟩
    rw [other hb']
    rcases ih h1 with ⟨z',es',mu',q1,q2,q3⟩ | ⟨q1,q2⟩
    · exact .inl ⟨z',es',mu',q1,List.mem_cons_of_mem _ q2,q3⟩
    · refine .inr ⟨q1,fun hk=>?_⟩
      rcases List.mem_cons.1 hk with rfl | hk
      · exact hb'
      · exact q2 hk
end
theorem Inv.data {ψ:Nat→FuncId} {N:Nat} {w0 w:World} {S:Nat→Prop} {m:Nat→Nat × Nat} {A:Nat→Prop} {h:Heap} (i:Inv ψ N w0 w S m A h) {w':World}
 (hold:∀ c,c < w.heap.size→w'.heap[c]?=w.heap[c]?) (hsz:w.heap.size≤w'.heap.size) (hos:w'.os=w.os) (hout:w'.output=w.output) {Sn:Nat→Prop}
 (hsub:∀ c,S c→Sn c) (hsn:∀ c,Sn c→c < w'.heap.size) (bs:List Nat) (hbs:∀ b ∈ bs,∃ z es mu,get h b=some (.cells z es mu)∧Sn (m b).1)
 (hnew:∀ c,Sn c→S c∨(∃ b ∈ bs,c=(m b).1)∨w.heap.size≤c):Inv ψ N w0 w' Sn m A (aN h (aV h bs))∧Le w S m A w' Sn m A:=by
 have le:Le w S m A w' Sn m A:=by
  refine ⟨fun b hb=>hold b (i.sb b hb),fun b c t fr hc=>⟨c,?_,rfl⟩,hsz,hsub,fun _ h=>h,fun _ _=>rfl⟩
  rw [hold b (Array.getElem?_eq_some_iff.1 hc).1];exact hc
 refine ⟨?_,le⟩
 have look:∀ b o,get (aN h (aV h bs)) b=some o→(∃ z es mu,get h b=some (.cells z es mu)∧b ∈ bs∧o=.cells z es false)∨(get h b=some o∧b ∉ bs):=by
  intro b o hb
  rcases CQ (h:=h) b bs h with ⟨z,es,mu,q1,q2,q3⟩ | ⟨q1,q2⟩
  · rw [q3] at hb;cases hb;exact .inl ⟨z,es,mu,q1,q2,rfl⟩
  · rw [q1] at hb
    refine .inr ⟨hb,fun hm=>?_⟩
    obtain ⟨z,es,mu,r1,_⟩:=hbs b hm
    exact q2 hm z es mu r1
 have mutless:∀ b o,get (aN h (aV h bs)) b=some o→nM o=true→get h b=some o∧b ∉ bs:=by
  intro b o hb hm
  rcases look b o hb with ⟨z,es,mu,q1,q2,rfl⟩ | q
  · cases hm
  · exact q
 constructor
 · intro b o hb
   rcases look b o hb with ⟨z,es,mu,q1,q2,rfl⟩ | ⟨q,_⟩
   · exact i.dom b _ q1
   · exact i.dom b o q
 · intro b o hb
   rcases look b o hb with ⟨z,es,mu,q1,q2,rfl⟩ | ⟨q,_⟩
   · have:=(i.obj b _ q1).mono le (hold _ (i.obj b _ q1).lt)
     exact this
   · exact (i.obj b o q).mono le (hold _ (i.obj b o q).lt)
 · intro b o hb hm
   rcases look b o hb with ⟨z,es,mu,q1,q2,rfl⟩ | ⟨q,_⟩
   · obtain ⟨_,_,_,_,r⟩:=hbs b q2;exact r
   · exact hsub _ (i.fro b o q hm)
 · intro b o hb hm
   obtain ⟨q,qn⟩:=mutless b o hb hm
   obtain ⟨l1,l2⟩:=i.live b o q hm
   refine ⟨fun hs=>?_,l2⟩
   rcases hnew _ hs with r | ⟨b',r1,r2⟩ | r
   · exact l1 r
   · obtain ⟨z,es,mu,r3,r4⟩:=hbs b' r1
     have hne:b≠b':=fun e=>qn (e ▸ r1)
     cases mu with
     | true=>exact i.inj b o b' _ q r3 hm rfl hne r2
     | false=>exact l1 (r2 ▸ i.fro b' _ r3 rfl)
   · have:=(i.obj b o q).lt;omega
 · intro b o b' o' h1 h2 m1 m2 hne
   exact i.inj b o b' o' (mutless b o h1 m1).1 (mutless b' o' h2 m2).1 m1 m2 hne
 · exact hsn
 · exact Nat.le_trans i.size hsz
 · intro c hc
   rw [hold c (Nat.lt_of_lt_of_le hc i.size)];exact i.old c hc
 · exact hos.trans i.os
 · exact hout.trans i.out
section
variable {P:Program} {ψ:Nat→FuncId} {N:Nat} {w0 w:World} {S S':Nat→Prop} {m:Nat→Nat × Nat} {A A':Nat→Prop} {h:Heap}
theorem agj {x:AV} {u:Value} (hl:qN x=true) (hv:VR ψ w S m A x u):VR ψ w S' m A' x u:=by
 cases hv <;> first | (constructor;done) | (simp [qN] at hl)
theorem ZP (i:Inv ψ N w0 w S m A h) {b z:Nat} {es:List (List AV)} {mu:Bool} (hg:get h b=some (.cells z es mu)) :
 Inv ψ N w0 w (fun c=>S c∨c=(m b).1) m A (aN h [(b,some (.cells z es false))])∧Le w S m A w (fun c=>S c∨c=(m b).1) m A∧∀ c,c < N→(S c∨c=(m b).1)→S c:=by
 obtain ⟨j1,j2⟩:=i.data (w':=w) (Sn:=fun c=>S c∨c=(m b).1) (fun _ _=>rfl) (Nat.le_refl _) rfl rfl (fun c hc=>.inl hc) (fun c hc=>by
  rcases hc with hc | rfl
  · exact i.sb c hc
  · exact (i.obj b _ hg).lt) [b] (fun b' hb=>by
  simp only [List.mem_cons,List.not_mem_nil,or_false] at hb
  subst hb
  exact ⟨z,es,mu,hg,.inr rfl⟩) (fun c hc=>by
  rcases hc with hc | rfl
  · exact .inl hc
  · exact .inr (.inl ⟨b,by simp,rfl⟩))
 refine ⟨?_,j2,fun c hc hs=>?_⟩
 · simpa [aV,hg] using j1
 · rcases hs with q | rfl
   · exact q
   · cases mu with
     | true=>have:=(i.live b _ hg rfl).2;omega
     | false=>exact i.fro b _ hg rfl
end
end Go.Pav
end
section
set_option linter.unusedSimpArgs false
set_option linter.unusedVariables false
namespace Go.Pav
open Go
section
variable {P:Program} {φ:FuncId→Option Nat} {ψ:Nat→FuncId} {N:Nat} {w0 w:World} {S:Nat→Prop} {m:Nat→Nat × Nat} {A:Nat→Prop} {h:Heap} {e:Env} {a:Act} {o:Oper}
def agQ (ψ:Nat→FuncId) (w:World) (S:Nat→Prop) (m:Nat→Nat × Nat) (A:Nat→Prop):Option AV→Option Value→Prop
 | none,none=>True
 | some x,some c=>VR ψ w S m A x c
 | _,_=>False
theorem Cx.opt (cx:Cx P φ ψ N w0 w S m A h e a) {x:Option Operand} {y:Option Opd} (hy:cOpt φ x=some y):agQ ψ w S m A (oev e y) (x.map a.eval):=by
 cases x with
 | none=>simp only [cOpt] at hy;cases hy;trivial
 | some x =>
  simp only [cOpt,Option.map_eq_some_iff] at hy
  obtain ⟨z,hz,rfl⟩:=hy
  exact cx.opd hz
theorem gG {x:Option AV} {c:Option Value} (hr:agQ ψ w S m A x c) {d n:Nat} (hb:bound x d=some n):(x=none∧c=none∧n=d)∨(x.isSome=true∧∃ k:IntKind,c=some (.int k n)):=by
 cases x with
 | none =>
  cases c with
  | none=>simp only [bound] at hb;cases hb;exact .inl ⟨rfl,rfl,rfl⟩
  | some c=>exact hr.elim
 | some x =>
  cases c with
  | none=>exact hr.elim
  | some c =>
   right
   cases x <;> simp only [bound] at hb <;> try (cases hb;done)
   have hv:VR ψ w S m A _ c:=hr
   have e1:=hv.dI
   have e2:=nat?_some hb
   exact ⟨rfl,_,by rw [e1,e2]⟩
theorem dU (k:IntKind) (n y:Nat) (code:BoundsCode) (hn:n≤y):(Instr.sliceBound (.int k n) y code).run P w=.ok n w:=by
 unfold Instr.sliceBound
 simp only [asIntOf,Sem.run_bind,Sem.run_pure,Result.andThen_ok]
 rw [if_pos (by omega)]
 simp
theorem kJ (isS:Bool) {len cap l h:Nat} {lo hi:Option Value} (hlo:(lo=none∧l=0)∨∃ k:IntKind,lo=some (.int k l)) (hhi:(hi=none∧h=len)∨∃ k:IntKind,hi=some (.int k h))
 (h1:l≤h) (h2:h≤cap):(Instr.sliceBounds isS len cap lo hi none).run P w=.ok (l,h,cap) w:=by
 unfold Instr.sliceBounds
 rcases hhi with ⟨rfl,rfl⟩ | ⟨k,rfl⟩
 · rcases hlo with ⟨rfl,rfl⟩ | ⟨k',rfl⟩
   · simp
   · simp [dU k' l h _ h1]
 · rcases hlo with ⟨rfl,rfl⟩ | ⟨k',rfl⟩
   · simp [dU k h cap _ h2]
   · simp [dU k h cap _ h2,dU k' l h _ h1]
theorem qC {len cap l h mm:Nat} {lo:Option Value} {k k2:IntKind} (hlo:(lo=none∧l=0)∨∃ k:IntKind,lo=some (.int k l))
 (h1:l≤h) (h2:h≤mm) (h3:mm≤cap):(Instr.sliceBounds true len cap lo (some (.int k h)) (some (.int k2 mm))).run P w=.ok (l,h,mm) w:=by
 unfold Instr.sliceBounds
 rcases hlo with ⟨rfl,rfl⟩ | ⟨k',rfl⟩
 · simp [dU k2 mm cap _ h3,dU k h mm _ h2]
 · simp [dU k2 mm cap _ h3,dU k h mm _ h2,dU k' l h _ h1]
theorem lg {t el:TypeId} {z:Nat} (hd:P.underlying t=some (.slice el)) (hz:sizeT P el=some z) {g off len cap l h mm:Nat} {lo hi mx:Option Value}
 (hb:(Instr.sliceBounds true len cap lo hi mx).run P w=.ok (l,h,mm) w) :
 (Instr.sliceAt t (.slice (some ⟨g,off,none⟩) len cap) lo hi mx).run P w=.ok (.slice (some ⟨g,if mm=l then off else off+l * z,none⟩) (h - l) (mm - l)) w:=by
 simp only [Instr.sliceAt,Instr.slice,Sem.run_bind,run_underlying hd,Result.andThen_ok,hb,fC hz,Sem.run_pure]
 split <;> simp_all [lu]
theorem VR.QI {z:Nat} {es:List (List AV)} {ex:Bool} {g off len cap:Nat} (hv:∃ cs:Nat→Nat→Value,len=es.length∧S g∧(∀ (i:Nat) (e:List AV),es[i]?=some e→e.length=z)∧es.length≤cap∧(ex=true→cap=es.length)∧(∀ (i:Nat) (e:List AV) (j:Nat) (x:AV),es[i]?=some e→e[j]?=some x→x.cell=true∧w.cell? ⟨g,off+i * z+j,none⟩=some (cs i j))∧∀ (i:Nat) (e:List AV) (j:Nat) (x:AV),es[i]?=some e→e[j]?=some x→VR ψ w S m (fun _=>False) x (cs i j)) {l h mm:Nat} (h1:l≤h) (h2:h≤es.length) (h3:h≤mm) {ex':Bool}
 (hex:ex'=true→mm=h):VR ψ w S m A (.ro z ((es.take h).drop l) ex') (.slice (some ⟨g,if mm=l then off else off+l * z,none⟩) (h - l) (mm - l)):=by
 obtain ⟨cs,rfl,hS,hw,hcap,hx,hcell,hrep⟩:=hv
 have hl:((es.take h).drop l).length=h - l:=by simp;omega
 have get:∀ (i:Nat) (e:List AV),((es.take h).drop l)[i]?=some e→es[l+i]?=some e∧l+i < h:=by
  intro i e he
  rw [List.getElem?_drop,List.getElem?_take] at he
  split at he
  · rename_i hh;exact ⟨he,hh⟩
  · cases he
 have:=VR.ro (ψ:=ψ) (w:=w) (S:=S) (m:=m) (A:=A) z ((es.take h).drop l) ex' g (if mm=l then off else off+l * z) (mm - l) (fun i j=>cs (l+i) j) hS (fun i e he=>hw _ e (get i e he).1) (by rw [hl];omega) (fun hx'=>by rw [hl];have:=hex hx';omega)
  (fun i e j x he hx=>?_) (fun i e j x he hx=>hrep _ e j x (get i e he).1 hx)
 · rwa [hl] at this
 · obtain ⟨q1,q2⟩:=get i e he
   obtain ⟨q3,q4⟩:=hcell _ e j x q1 hx
   refine ⟨q3,?_⟩
   rw [if_neg (by omega),← q4]
   congr 2
   rw [Nat.add_mul]
   omega
theorem VR.NQ {b z i len cap:Nat} {ex:Bool} {c:Value} (hv:VR ψ w S m A (.sl b z i len cap ex) c) {cc l h mm cap':Nat} (hc:c=.slice (some ⟨(m b).1,i * z,none⟩) len cc) (h1:l≤h) (h3:h≤mm) (h4:mm≤cc) (h5:cap'≤mm - l) {ex':Bool}
 (hex:ex'=true→mm - l=cap') (i':Nat) (hi:i'=if mm=l then i else i+l) :
 VR ψ w S m A (.sl b z i' (h - l) cap' ex') (.slice (some ⟨(m b).1,if mm=l then i * z else i * z+l * z,none⟩) (h - l) (mm - l)):=by
 obtain ⟨cc',e1,hA,hz,hl,hcap,hx,cur,t,fr,hrow,hsz⟩:=hv.lY
 rw [hc] at e1
 cases e1
 have hoff:(if mm=l then i * z else i * z+l * z)=i' * z:=by
  rw [hi]
  split
  · rfl
  · rw [Nat.add_mul]
 rw [hoff]
 refine .sl b z i' (h - l) cap' ex' (mm - l) hA hz (by omega) h5 hex ⟨cur,t,fr,hrow,Nat.le_trans (Nat.mul_le_mul_right z ?_) hsz⟩
 rw [hi]
 split <;> omega
theorem afr {t el:TypeId} {n:Nat} (hd:P.underlying t=some (.array n el)) (hz:sizeT P el=some 1) {g off l h:Nat} {lo hi:Option Value}
 (hb:(Instr.sliceBounds false n n lo hi none).run P w=.ok (l,h,n) w) :
 (Instr.sliceAt t (.pointer (some ⟨g,off,none⟩)) lo hi none).run P w=.ok (.slice (some ⟨g,if n=l then off else off+l * 1,none⟩) (h - l) (n - l)) w:=by
 simp only [Instr.sliceAt,Instr.sureAddr,Sem.run_bind,run_underlying hd,Result.andThen_ok,Sem.run_pure,hb,fC hz]
 split <;> simp_all [lu]
theorem Dt {S':Nat→Prop} {t el:TypeId} {n:Nat} (hd:P.underlying t=some (.array n el)) (hz:sizeT P el=some 1) {cs:List AV} {g off:Nat}
 (hcell:∀ (j:Nat) (x:AV),cs[j]?=some x→∃ u,w.cell? ⟨g,off+j,none⟩=some u∧VR ψ w S m A x u) (hS:S' g) {alo ahi:Option AV} {clo chi:Option Value}
 (rlo:agQ ψ w S m A alo clo) (rhi:agQ ψ w S m A ahi chi) {v:AV} (hs:jR n cs alo ahi=some v) :
 ∃ cv,(Instr.sliceAt t (.pointer (some ⟨g,off,none⟩)) clo chi none).run P w=.ok cv w∧VR ψ w S' m A v cv:=by
 unfold jR at hs
 split at hs
 case isFalse=>cases hs
 rename_i hc
 obtain ⟨hn,hleaf⟩:=hc
 unfold gQ at hs
 simp only [List.length_map,List.length_take,Nat.min_eq_left hn] at hs
 obtain ⟨hh,hhh,hs⟩:=ak hs
 obtain ⟨l,hl,hs⟩:=ak hs
 split at hs
 case isFalse=>cases hs
 rename_i hc
 obtain ⟨c1,c2⟩:=hc
 cases hs
 refine ⟨_,afr hd hz (kJ false (l:=l) (h:=hh) ?_ ?_ c1 c2),?_⟩
 · rcases gG rlo hl with ⟨_,q1,q2⟩ | ⟨_,q⟩
   · exact .inl ⟨q1,q2⟩
   · exact .inr q
 · rcases gG rhi hhh with ⟨_,q1,q2⟩ | ⟨_,q⟩
   · exact .inl ⟨q1,q2⟩
   · exact .inr q
 · have hlen:((cs.take n).map fun x=>[x]).length=n:=by simp;omega
   have get:∀ (i:Nat) (e:List AV) (j:Nat) (x:AV),((cs.take n).map fun x=>[x])[i]?=some e→e[j]?=some x→j=0∧cs[i]?=some x∧qN x=true:=by
    intro i e j x he hx
    rw [List.getElem?_map] at he
    cases hy:(cs.take n)[i]? with
    | none=>rw [hy] at he;cases he
    | some y =>
     rw [hy] at he
     cases he
     cases j with
     | succ j=>simp at hx
     | zero =>
      simp at hx
      subst hx
      rw [List.getElem?_take] at hy
      split at hy
      · rename_i hi
        exact ⟨rfl,hy,List.all_eq_true.1 hleaf y (List.mem_of_getElem? (i:=i) (by rw [List.getElem?_take,if_pos hi];exact hy))⟩
      · cases hy
   refine VR.QI (len:=((cs.take n).map fun x=>[x]).length) (cap:=n) (ex:=true) ⟨fun i j=>(w.cell? ⟨g,off+i * 1+j,none⟩).getD Go.undef,rfl,hS,fun i e he=>?_,by omega,fun _=>hlen.symm,fun i e j x he hx=>?_,fun i e j x he hx=>?_⟩ c1 (by omega) c2 (fun q=>by simp at q;omega)
   · rw [List.getElem?_map] at he
     cases hy:(cs.take n)[i]? with
     | none=>rw [hy] at he;cases he
     | some y=>rw [hy] at he;cases he;rfl
   · obtain ⟨rfl,q1,q2⟩:=get i e j x he hx
     obtain ⟨u,q3,q4⟩:=hcell i x q1
     refine ⟨by cases x <;> simp [qN] at q2 <;> rfl,?_⟩
     simp only [Nat.mul_one,Nat.add_zero,q3,Option.getD_some]
   · obtain ⟨rfl,q1,q2⟩:=get i e j x he hx
     obtain ⟨u,q3,q4⟩:=hcell i x q1
     simp only [Nat.mul_one,Nat.add_zero,q3,Option.getD_some]
     exact agj q2 q4
theorem X3 (cx:Cx P φ ψ N w0 w S m A h e a) {t el:TypeId} {X:Operand} {lo hi:Option Operand} (ho:o.op=.slice t X lo hi none) {n:Nat} (hd:P.underlying t=some (.array n el)) (hz:sizeT P el=some 1)
 {x:Opd} (hx:fA φ X=some x) {lo' hi':Option Opd} (hlo:cOpt φ lo=some lo') (hhi:cOpt φ hi=some hi') {v:AV} {u:Upd} {nid:Nat} (hs:aH (.gJ n x lo' hi') e h nid=some (v,u)) :
 Snd P ψ N w0 w S m A (execOp a.eval o) (aN h u) v nid:=by
 have hX:=cx.opd hx
 have rlo:=cx.opt hlo
 have rhi:=cx.opt hhi
 simp only [aH,Ba] at hs
 have hex:∀ cv,(Instr.sliceAt t (a.eval X) (lo.map a.eval) (hi.map a.eval) none).run P w=.ok cv w→(execOp a.eval o).run P w=.ok (.value cv) w:=fun cv q=>by simp [execOp,ho,q]
 cases hxv:x.ev e <;> rw [hxv] at hs hX <;> simp only [vS] at hs <;> try (cases hs;done)
 · rename_i cs
   obtain ⟨r,hr,q⟩:=aC hs
   cases q
   obtain ⟨b,off,vs,e1,hS,hcell,hrep⟩:=hX.qc
   rw [e1] at hex
   obtain ⟨cv,q1,q2⟩:=Dt (P:=P) (S':=S) hd hz (fun j x hj=>⟨_,(hcell j x hj).2,(hrep j x hj).open_⟩) hS rlo rhi hr
   exact Snd.quiet cx.inv (hex _ q1) q2 nid
 · rename_i b i o'
   unfold sliceAt at hs
   split at hs
   case h_2=>cases hs
   rename_i z es mu hg
   obtain ⟨cs,hcs,hs⟩:=ak hs
   obtain ⟨r,hr,q⟩:=aC hs
   cases q
   obtain ⟨j1,j2,j3⟩:=ZP cx.inv hg
   obtain ⟨p1,p2,cur,tt,p3,p4,p5⟩:=cx.inv.obj b _ hg
   obtain ⟨hA,e1⟩:=hX.kQ
   rw [e1] at hex
   obtain ⟨cv,q1,q2⟩:=Dt (P:=P) (S':=fun c=>S c∨c=(m b).1) (g:=(m b).1) (off:=i * (m b).2+o') hd hz (fun j x hj=>by
    rw [List.getElem?_drop] at hj
    obtain ⟨t1,u,t2,t3⟩:=p5 _ cs _ x hcs hj
    refine ⟨u,?_,t3⟩
    have e2:i * (m b).2+o'+j=i * z+(o'+j):=by rw [← p1,Nat.add_assoc]
    simp only [World.cell?,p3,e2,Option.isSome_none,Bool.false_eq_true,if_false]
    exact t2) (.inr rfl) rlo rhi hr
   exact ⟨cv,w,_,m,A,.inl (hex _ q1),q2,j1,j2,j3,fun b hb=>.inl hb⟩
theorem abn (cx:Cx P φ ψ N w0 w S m A h e a) {t:TypeId} {X:Operand} {lo hi mx:Option Operand} (ho:o.op=.slice t X lo hi mx):Ok P φ ψ N w0 w S m A h e a o:=by
 intro cop v u nid hc hs hn
 rw [ho] at hc
 simp only [cOp,Option.bind_eq_bind,Option.bind_eq_some_iff] at hc
 obtain ⟨x,hx,d,hd,hc⟩:=hc
 have hX:=cx.opd hx
 have fin:∀ cv,(Instr.sliceAt t (a.eval X) (lo.map a.eval) (hi.map a.eval) (mx.map a.eval)).run P w=.ok cv w→VR ψ w S m A v cv→Snd P ψ N w0 w S m A (execOp a.eval o) (aN h []) v nid :=
  fun cv q1 q2=>Snd.val cx.inv (s:=Instr.sliceAt t (a.eval X) (lo.map a.eval) (hi.map a.eval) (mx.map a.eval)) (by simp [execOp,ho]) q1 q2 nid
 split at hc
 · rename_i el
   simp only [Option.bind_eq_some_iff] at hc
   obtain ⟨z,hz,hc⟩:=hc
   split at hc
   · cases hc
   · rename_i hz0
     simp only [Option.bind_eq_some_iff] at hc
     obtain ⟨lo',hlo,hi',hhi,mx',hmx,hc⟩:=hc
     cases hc
     simp only [aH,Cc] at hs
     obtain ⟨h1,rfl⟩:=dS hs
     have rlo:=cx.opt hlo
     have rhi:=cx.opt hhi
     have rmx:=cx.opt hmx
     generalize oev e lo'=alo at h1 rlo
     generalize oev e hi'=ahi at h1 rhi
     generalize oev e mx'=amx at h1 rmx
     generalize lo.map a.eval=clo at rlo fin
     generalize hi.map a.eval=chi at rhi fin
     generalize mx.map a.eval=cmx at rmx fin
     have lob:∀ l,bound alo 0=some l→(clo=none∧l=0)∨∃ k:IntKind,clo=some (.int k l):=by
      intro l hl
      rcases gG rlo hl with ⟨_,q1,q2⟩ | ⟨_,q⟩
      · exact .inl ⟨q1,q2⟩
      · exact .inr q
     have hib:∀ d h,bound ahi d=some h→(ahi=none∧chi=none∧h=d)∨∃ k:IntKind,chi=some (.int k h):=by
      intro d h hl
      rcases gG rhi hl with q | ⟨_,q⟩
      · exact .inl q
      · exact .inr q
     cases hxv:x.ev e <;> rw [hxv] at h1 hX <;> simp only [gU] at h1 <;> try (cases h1;done)
     · rw [if_neg hz0] at h1;cases h1
     · rw [if_neg hz0] at h1
       unfold jS at h1
       obtain ⟨mm,hm,h1'⟩:=ak h1
       replace h1:=h1';clear h1'
       obtain ⟨hh,hhh,h1'⟩:=ak h1
       replace h1:=h1';clear h1'
       obtain ⟨l,hl,h1'⟩:=ak h1
       replace h1:=h1';clear h1'
       split at h1
       · rename_i hc
         obtain ⟨rfl,rfl,rfl,hno⟩:=hc
         cases h1
         rw [hX.fM] at fin
         refine fin (.slice none 0 0) ?_ .aZ
         have hb:(Instr.sliceBounds true 0 0 clo chi cmx).run P w=.ok (0,0,0) w:=by
          rcases gG rmx hm with ⟨q1,rfl,_⟩ | ⟨q1,k,rfl⟩
          · refine kJ true (lob 0 hl) ?_ (Nat.le_refl _) (Nat.le_refl _)
            rcases hib 0 0 hhh with ⟨_,q2,q3⟩ | ⟨k,q2⟩
            · exact .inl ⟨q2,rfl⟩
            · exact .inr ⟨k,q2⟩
          · rcases hib 0 0 hhh with ⟨q2,_,_⟩ | ⟨k2,rfl⟩
            · exact absurd ⟨q1,by rw [q2];rfl⟩ hno
            · exact qC (lob 0 hl) (Nat.le_refl _) (Nat.le_refl _) (Nat.le_refl _)
         simp only [Instr.sliceAt,Instr.slice,Sem.run_bind,run_underlying hd,Result.andThen_ok,hb,fC hz,Sem.run_pure]
         simp
       · cases h1
     · rename_i z' es ex
       split at h1
       · rename_i hzz
         obtain ⟨_,rfl⟩:=hzz
         rcases hX.nI with ⟨g,off,cap,cs,e1,hS,hw,hcap,hex,hcell,hrep⟩ | ⟨rfl,ad,k0,e1,hk0⟩
         case inr =>
          rw [e1] at fin
          unfold gQ at h1
          have done_:∀ m,(Instr.sliceBounds true 0 k0 clo chi cmx).run P w=.ok (0,0,m) w→∃ ad',(Instr.sliceAt t (.slice (some ad) 0 k0) clo chi cmx).run P w=.ok (.slice (some ad') 0 m) w:=fun m hb=>by
           simp only [Instr.sliceAt,Instr.slice,Sem.run_bind,run_underlying hd,Result.andThen_ok,hb,fC hz,Sem.run_pure]
           by_cases hm0:m=0
           · subst hm0;exact ⟨ad,by simp⟩
           · exact ⟨ad.add (0 * z'),by rw [if_neg (by omega)];rfl⟩
          cases amx with
          | none =>
           have hcm:cmx=none:=by cases cmx with | none=>rfl | some c=>exact rmx.elim
           subst hcm
           simp only at h1
           obtain ⟨hh,hhh,h1'⟩:=ak h1
           replace h1:=h1';clear h1'
           obtain ⟨l,hl,h1'⟩:=ak h1
           replace h1:=h1';clear h1'
           split at h1
           · rename_i hc
             obtain ⟨c1,c2⟩:=hc
             simp only [List.length_nil,Nat.le_zero] at c2
             subst c2
             obtain rfl:l=0:=by omega
             cases h1
             obtain ⟨ad',hd'⟩:=done_ k0 (kJ true (lob 0 hl) (by
              rcases hib _ _ hhh with ⟨_,q2,q3⟩ | ⟨k,q2⟩
              · exact .inl ⟨q2,rfl⟩
              · exact .inr ⟨k,q2⟩) (Nat.le_refl _) (Nat.zero_le _))
             exact fin _ hd' (.roe _ _ _ _ fun q=>hk0 (by simpa using q))
           · cases h1
          | some am =>
           simp only at h1
           obtain ⟨mm,hm,h1'⟩:=ak h1
           replace h1:=h1';clear h1'
           obtain ⟨ah,hah,h1'⟩:=ak h1
           replace h1:=h1';clear h1'
           subst hah
           obtain ⟨hh,hhh,h1'⟩:=ak h1
           replace h1:=h1';clear h1'
           obtain ⟨l,hl,h1'⟩:=ak h1
           replace h1:=h1';clear h1'
           split at h1
           · rename_i hc
             obtain ⟨c1,c2,c3⟩:=hc
             simp only [List.length_nil,Nat.le_zero] at c3
             subst c3
             obtain rfl:hh=0:=by omega
             obtain rfl:l=0:=by omega
             cases h1
             rcases gG rmx hm with ⟨q1,_,_⟩ | ⟨_,k,rfl⟩
             · cases q1
             · rcases hib _ _ hhh with ⟨q2,_,_⟩ | ⟨k2,rfl⟩
               · cases q2
               · obtain ⟨ad',hd'⟩:=done_ 0 (qC (lob 0 hl) (Nat.le_refl _) (Nat.le_refl _) (Nat.zero_le _))
                 exact fin _ hd' (.roe _ _ _ _ fun _=>rfl)
           · cases h1
         rw [e1] at fin hX
         unfold gQ at h1
         cases amx with
         | none =>
          have hcm:cmx=none:=by cases cmx with | none=>rfl | some c=>exact rmx.elim
          subst hcm
          simp only at h1
          obtain ⟨hh,hhh,h1'⟩:=ak h1
          replace h1:=h1';clear h1'
          obtain ⟨l,hl,h1'⟩:=ak h1
          replace h1:=h1';clear h1'
          split at h1
          · rename_i hc
            obtain ⟨c1,c2⟩:=hc
            cases h1
            refine fin _ (lg hd hz (kJ true (lob l hl) ?_ c1 (by omega))) (VR.QI ⟨cs,rfl,hS,hw,hcap,hex,hcell,hrep⟩ c1 c2 (by omega) fun hx'=>?_)
            · rcases hib _ _ hhh with ⟨_,q2,q3⟩ | ⟨k,q2⟩
              · exact .inl ⟨q2,q3⟩
              · exact .inr ⟨k,q2⟩
            · simp only [Bool.and_eq_true,decide_eq_true_eq] at hx'
              rw [hex hx'.1,hx'.2]
          · cases h1
         | some am =>
          simp only at h1
          obtain ⟨mm,hm,h1'⟩:=ak h1
          replace h1:=h1';clear h1'
          obtain ⟨ah,hah,h1'⟩:=ak h1
          replace h1:=h1';clear h1'
          subst hah
          obtain ⟨hh,hhh,h1'⟩:=ak h1
          replace h1:=h1';clear h1'
          obtain ⟨l,hl,h1'⟩:=ak h1
          replace h1:=h1';clear h1'
          split at h1
          · rename_i hc
            obtain ⟨c1,c2,c3⟩:=hc
            cases h1
            rcases gG rmx hm with ⟨q1,_,_⟩ | ⟨_,k,rfl⟩
            · cases q1
            · rcases hib _ _ hhh with ⟨q2,_,_⟩ | ⟨k2,rfl⟩
              · cases q2
              · exact fin _ (lg hd hz (qC (lob l hl) c1 c2 (by omega))) (VR.QI ⟨cs,rfl,hS,hw,hcap,hex,hcell,hrep⟩ c1 (by omega) c2 fun hx'=>by simpa using hx')
          · cases h1
       · cases h1
     · rename_i b z' i len cap ex
       split at h1
       · rename_i hzz
         obtain ⟨_,rfl⟩:=hzz
         obtain ⟨cc,e1,hA,hmz,hlen,hcap,hex,hrow⟩:=hX.lY
         rw [e1] at fin
         unfold mQ at h1
         cases amx with
         | none =>
          have hcm:cmx=none:=by cases cmx with | none=>rfl | some c=>exact rmx.elim
          subst hcm
          simp only at h1
          obtain ⟨hh,hhh,h1'⟩:=ak h1
          replace h1:=h1';clear h1'
          obtain ⟨l,hl,h1'⟩:=ak h1
          replace h1:=h1';clear h1'
          split at h1
          · rename_i hc
            obtain ⟨c1,c2,c3⟩:=hc
            have run:=lg (P:=P) (w:=w) (t:=t) (off:=i * z') (g:=(m b).1) hd hz (kJ (P:=P) (w:=w) (len:=len) (cap:=cc) (h:=hh) (hi:=chi) true (lob l hl) (by
             rcases hib _ _ hhh with ⟨_,q2,q3⟩ | ⟨k,q2⟩
             · exact .inl ⟨q2,q3⟩
             · exact .inr ⟨k,q2⟩) c1 (by omega))
            split at h1
            · cases h1
              exact fin _ run (hX.NQ e1 c1 (by omega) (Nat.le_refl _) (by omega) (fun hx'=>by rw [hex hx']) _ (by rw [if_neg (by omega)]))
            · split at h1
              · rename_i hl0
                subst hl0
                cases h1
                have:=hX.NQ (l:=0) (mm:=cc) (cap':=cap) (ex':=ex) e1 c1 (by omega) (Nat.le_refl _) (by omega) (fun hx'=>by rw [hex hx'];rfl) i (by split <;> rfl)
                rw [Nat.sub_zero] at this
                exact fin _ run this
              · cases h1
                have e0:hh - l=0:=by omega
                rw [e0] at run
                exact fin _ run (.roe _ _ _ _ fun hx'=>by have:=hex hx';omega)
          · cases h1
         | some am =>
          simp only at h1
          obtain ⟨mm,hm,h1'⟩:=ak h1
          replace h1:=h1';clear h1'
          obtain ⟨ah,hah,h1'⟩:=ak h1
          replace h1:=h1';clear h1'
          subst hah
          obtain ⟨hh,hhh,h1'⟩:=ak h1
          replace h1:=h1';clear h1'
          obtain ⟨l,hl,h1'⟩:=ak h1
          replace h1:=h1';clear h1'
          split at h1
          · rename_i hc
            obtain ⟨c1,c2,c3⟩:=hc
            rcases gG rmx hm with ⟨q1,_,_⟩ | ⟨_,k,rfl⟩
            · cases q1
            · rcases hib _ _ hhh with ⟨q2,_,_⟩ | ⟨k2,rfl⟩
              · cases q2
              · have run:=lg (P:=P) (w:=w) (t:=t) (off:=i * z') (g:=(m b).1) hd hz (qC (P:=P) (w:=w) (len:=len) (cap:=cc) (h:=hh) (k:=k2) (k2:=k) (mm:=mm) (lob l hl) c1 c2 (by omega))
                split at h1
                · cases h1
                  exact fin _ run (hX.NQ e1 c1 c2 (by omega) (Nat.le_refl _) (fun _=>rfl) _ (by rw [if_neg (by omega)]))
                · cases h1
                  have e0:hh - l=0:=by omega
                  have:=hX.NQ (l:=l) (h:=hh) (mm:=mm) (cap':=0) (ex':=true) e1 c1 c2 (by omega) (Nat.zero_le _) (fun _=>by omega) i (by rw [if_pos (by omega)])
                  rw [e0] at this run
                  exact fin _ run this
          · cases h1
       · cases h1
 · simp only [Option.bind_eq_some_iff] at hc
   obtain ⟨lo',hlo,hi',hhi,mx',hmx,hc⟩:=hc
   cases hc
   simp only [aH,Cc] at hs
   obtain ⟨h1,rfl⟩:=dS hs
   have rlo:=cx.opt hlo
   have rhi:=cx.opt hhi
   have rmx:=cx.opt hmx
   generalize oev e lo'=alo at h1 rlo
   generalize oev e hi'=ahi at h1 rhi
   generalize oev e mx'=amx at h1 rmx
   generalize lo.map a.eval=clo at rlo fin
   generalize hi.map a.eval=chi at rhi fin
   generalize mx.map a.eval=cmx at rmx fin
   cases hxv:x.ev e <;> rw [hxv] at h1 hX <;> simp only [gU] at h1 <;> try (cases h1;done)
   · rename_i s
     rw [if_pos trivial] at h1
     unfold vC at h1
     cases amx with
     | some am=>cases h1
     | none =>
      have hcm:cmx=none:=by cases cmx with | none=>rfl | some c=>exact rmx.elim
      subst hcm
      simp only at h1
      obtain ⟨hh,hhh,h1'⟩:=ak h1
      replace h1:=h1';clear h1'
      obtain ⟨l,hl,h1'⟩:=ak h1
      replace h1:=h1';clear h1'
      split at h1
      · rename_i hc
        obtain ⟨c1,c2⟩:=hc
        cases h1
        have eX:=hX.jh
        rw [eX] at fin
        have hsz:(⟨⟨s⟩⟩:ByteArray).size=s.length:=rfl
        have hb:(Instr.sliceBounds false s.length s.length clo chi none).run P w=.ok (l,hh,s.length) w:=by
         refine kJ false ?_ ?_ c1 c2
         · rcases gG rlo hl with ⟨_,q1,q2⟩ | ⟨_,q⟩
           · exact .inl ⟨q1,q2⟩
           · exact .inr q
         · rcases gG rhi hhh with ⟨_,q1,q2⟩ | ⟨_,q⟩
           · exact .inl ⟨q1,q2⟩
           · exact .inr q
        refine fin (.string ⟨⟨(s.take hh).drop l⟩⟩) ?_ (.str _)
        have hx:(⟨⟨s⟩⟩:ByteArray).extract l hh=⟨⟨(s.take hh).drop l⟩⟩:=by
         have:((⟨⟨s⟩⟩:ByteArray).extract l hh).data=⟨(s.take hh).drop l⟩:=by
          rw [ByteArray.data_extract]
          apply Array.ext'
          simp only [Array.toList_extract,List.extract_eq_take_drop]
          rw [List.drop_take]
         calc (⟨⟨s⟩⟩:ByteArray).extract l hh=⟨((⟨⟨s⟩⟩:ByteArray).extract l hh).data⟩:=rfl
          _=_:=by rw [this]
        simp only [Instr.sliceAt,Instr.slice,Sem.run_bind,run_underlying hd,Result.andThen_ok,hsz]
        simp only [Option.isSome_none,Bool.false_eq_true,if_false,Sem.run_bind,Result.andThen_ok,hb,Sem.run_pure]
        rw [hx]
      · cases h1
   all_goals (simp at h1)
 · rename_i n el
   simp only [Option.bind_eq_some_iff] at hc
   obtain ⟨z,hz,hc⟩:=hc
   split at hc
   · rename_i hzm
     obtain ⟨rfl,rfl⟩:=hzm
     simp only [Option.bind_eq_some_iff,Option.some.injEq] at hc
     obtain ⟨lo',hlo,hi',hhi,rfl⟩:=hc
     exact X3 cx ho hd hz hx hlo hhi hs
   · cases hc
 · cases hc
end
end Go.Pav
end
