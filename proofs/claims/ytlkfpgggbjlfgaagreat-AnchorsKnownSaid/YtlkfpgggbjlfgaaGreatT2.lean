/- Part of the theory that the claims of this work use: PavSnd9, PavSndA, PavSndB, PavSndC, PavCall, PavOp, PavMono, PavEv, T04, T05, PavDen. No conditions of its own. -/
import Derived.Test.YtlkfpgggbjlfgaaGreatT1
import Derived.WideLaws
import Derived.Defers
import Derived.Orders
import Derived.Tactics
import Derived.Scope
section
set_option linter.unusedSimpArgs false
set_option linter.unusedVariables false
namespace Go.Pav
open Go
section
variable {P:Program} {φ:FuncId→Option Nat} {ψ:Nat→FuncId} {N:Nat} {w0 w:World} {S:Nat→Prop} {m:Nat→Nat × Nat} {A:Nat→Prop} {h:Heap} {e:Env} {a:Act} {o:Oper}
theorem wrap_i64 {n:Nat} (hn:n≤cZ):IntKind.i64.wrap (n:Int)=(n:Int):=by
 simp only [cZ] at hn
 simp only [IntKind.wrap,IntKind.bits,IntKind.signed]
 have:(n:Int) % 2 ^ 64=n:=Int.emod_eq_of_lt (by omega) (by omega)
 simp only [this]
 rw [if_neg]
 simp
 omega
theorem ae3 (cx:Cx P φ ψ N w0 w S m A h e a) {t:TypeId} {L C:Operand} (ho:o.op=.makeSlice t L C):Ok P φ ψ N w0 w S m A h e a o:=by
 intro cop v u nid hc hs hn
 rw [ho] at hc
 simp only [cOp,Option.bind_eq_bind,Option.bind_eq_some_iff] at hc
 obtain ⟨l,hl,c,hcc,d,hd,hc⟩:=hc
 have hL:=cx.opd hl
 have hC:=cx.opd hcc
 split at hc
 · rename_i el
   simp only [Option.bind_eq_some_iff] at hc
   obtain ⟨z,hz,i,hi,hc⟩:=hc
   split at hc
   · cases hc
   · cases hc
     simp only [aH,UR] at hs
     split at hs
     · rename_i k1 n1 k2 n2 e1 e2
       obtain ⟨nl,hnl,hs'⟩:=ak hs
       replace hs:=hs';clear hs'
       obtain ⟨nc,hnc,hs'⟩:=ak hs
       replace hs:=hs';clear hs'
       split at hs
       · rename_i hcond
         obtain ⟨c1,c2⟩:=hcond
         cases hs
         rw [e1] at hL
         rw [e2] at hC
         have eL:=hL.dI
         have eC:=hC.dI
         have q1:=nat?_some hnl
         have q2:=nat?_some hnc
         subst q1 q2
         obtain ⟨it,zv,hit,hzv,z1,z2,z3,z4⟩:=gX (ψ:=ψ) (w:=w) (S:=S) (m:=m) (A:=A) hz
         rw [hi] at hit
         cases hit
         have hcb:nc≤cZ:=Nat.le_trans (Nat.le_mul_of_pos_right nc (Nat.succ_pos _)) c2
         have hlb:nl≤cZ:=Nat.le_trans c1 hcb
         have hbig:¬ ((i.bytes:Int) * (nc:Int) > 2 ^ 48):=by
          have h1:nc * i.bytes≤nc * (i.bytes+1):=Nat.mul_le_mul_left nc (Nat.le_succ _)
          have h2:nc * i.bytes≤cZ:=Nat.le_trans h1 c2
          simp only [cZ] at h2
          rw [Nat.mul_comm] at h2
          have h3:((i.bytes * nc:Nat):Int)≤35184372088832:=by omega
          rw [Int.natCast_mul] at h3
          omega
         have hrow:=CJ (ψ:=ψ) (w:=w) (S:=S) (m:=m) (A:=A) z1 z3 z4 nc
         refine Snd.VQ (w':=w.alloc (.cells ((Array.range (nc * z.length)).map (zv.cells[· % zv.cells.size]!)) el)) (c:=(Array.range (nc * z.length)).map (zv.cells[· % zv.cells.size]!)) (t:=el) cx.inv hn (len:=nl) (cap:=nc) ?_ rfl rfl rfl hrow (fun _ _=>rfl) (Nat.le_refl _) rfl c1 (Nat.le_refl _) (fun _=>rfl) (by simp)
         simp only [execOp,ho,Sem.run_bind]
         have:(Instr.makeSlice t (a.eval L) (a.eval C)).run P w=.ok (.slice (some ⟨w.heap.size,0,none⟩) nl nc) (w.alloc (.cells ((Array.range (nc * z.length)).map (zv.cells[· % zv.cells.size]!)) el)):=by
          rw [eL,eC]
          unfold Instr.makeSlice
          simp only [Sem.run_bind,run_underlying hd,Result.andThen_ok,asInt,asIntOf,Sem.run_pure,typeInfo,run_program,hi]
          rw [wrap_i64 hlb,wrap_i64 hcb]
          have t1:(decide ((nc:Int) < 0)||decide ((i.bytes:Int) * (nc:Int) > 2 ^ 48))=false:=by
           rw [decide_eq_false hbig]
           simp
          have t2:decide ((nl:Int) < 0)=false:=by rw [decide_eq_false];omega
          have t3:decide ((nl:Int) > (nc:Int))=false:=by rw [decide_eq_false];omega
          simp only [t1,t2,t3,Bool.or_false,Bool.false_eq_true,if_false,Sem.run_bind,run_askRoom,Result.andThen_ok,sizeOf,typeInfo,run_program,hi,Sem.run_pure,z2,Int.toNat_natCast]
          by_cases hz0:nc * z.length=0
          · rw [if_pos hz0]
            have hr0:Array.range 0=#[]:=rfl
            simp [hz0,hr0,Go.newRow]
          · rw [if_neg hz0]
            simp [zeroValue,typeInfo,hi,hzv,Go.newRow]
         rw [this]
         rfl
       · cases hs
     · cases hs
 · cases hc
theorem iG {c:Call} {b:Builtin} (ho:o.op=.call c) (hb:c.callee=.builtin b) {s:Sem Value} (hs:∀ consts,builtin b c.argTypes o.type consts (c.args.map a.eval)=(do pure (.value (← s)))) :
 execOp a.eval o=(do pure (.value (← s))):=by
 simp only [execOp,ho,resolve,hb,pure_bind,invoke]
 exact hs _
theorem arr1 {α:Type} {xs:Array α} {x:α} (hx:xs.toList=[x]):xs=#[x]:=by
 apply Array.ext';simpa using hx
theorem aaM {α:Type} {xs:Array α} {x y:α} (hx:xs.toList=[x,y]):xs=#[x,y]:=by
 apply Array.ext';simpa using hx
theorem aj8 (cx:Cx P φ ψ N w0 w S m A h e a) {c:Call} (ho:o.op=.call c) (hb:c.callee=.builtin .len):Ok P φ ψ N w0 w S m A h e a o:=by
 intro cop v u nid hc hs hn
 rw [ho] at hc
 simp only [cOp,hb,jQ] at hc
 unfold cLen at hc
 split at hc
 · rename_i X t hargs htys
   simp only [Option.bind_eq_bind,Option.bind_eq_some_iff] at hc
   obtain ⟨x,hx,d,hd,hc⟩:=hc
   have hX:=cx.opd hx
   have ea:=arr1 hargs
   have et:=arr1 htys
   have hex:execOp a.eval o=(do pure (.value (← Builtin.len_ #[t] o.type #[a.eval X]))):=iG ho hb (fun _=>by rw [ea,et];simp [builtin])
   have fin:∀ kd,cop=.len kd x→(∀ v,nK kd h (x.ev e)=some v→∃ cv,(Builtin.len_ #[t] o.type #[a.eval X]).run P w=.ok cv w∧VR ψ w S m A v cv)→Snd P ψ N w0 w S m A (execOp a.eval o) (aN h u) v nid:=by
    intro kd hcop hr
    subst hcop
    simp only [aH,sLen] at hs
    obtain ⟨h1,rfl⟩:=dS hs
    obtain ⟨cv,h2,h3⟩:=hr v h1
    exact Snd.val cx.inv hex h2 h3 nid
   split at hc
   · cases hc
     refine fin 0 rfl fun v hv=>?_
     cases hxv:x.ev e <;> rw [hxv] at hv hX <;> simp only [nK] at hv <;> first
      | (cases hv;done)
      | (simp at hv;done)
      | skip
     rename_i s
     simp only [if_true] at hv
     cases hv
     rw [hX.jh]
     refine ⟨_,?_,.int _ _⟩
     have hsz:(⟨⟨s⟩⟩:ByteArray).size=s.length:=rfl
     simp [Builtin.len_,run_underlying hd,goInt,hsz]
   · cases hc
     refine fin 1 rfl fun v hv=>?_
     cases hxv:x.ev e <;> rw [hxv] at hv hX <;> simp only [nK] at hv <;> first
      | (cases hv;done)
      | (simp at hv;done)
      | skip
     · simp only [if_true] at hv
       cases hv
       rw [hX.fM]
       refine ⟨_,?_,.int _ _⟩
       simp [Builtin.len_,run_underlying hd,goInt]
     · simp only [if_true] at hv
       cases hv
       rcases hX.nI with ⟨b,off,cap,cs,e1,_⟩ | ⟨rfl,ad,k,e1,_⟩ <;>
       · rw [e1]
         refine ⟨_,?_,.int _ _⟩
         simp [Builtin.len_,run_underlying hd,goInt]
     · simp only [if_true] at hv
       cases hv
       obtain ⟨cc,e1,_⟩:=hX.lY
       rw [e1]
       refine ⟨_,?_,.int _ _⟩
       simp [Builtin.len_,run_underlying hd,goInt]
   · cases hc
     refine fin 2 rfl fun v hv=>?_
     cases hxv:x.ev e <;> rw [hxv] at hv hX <;> simp only [nK] at hv <;> first
      | (cases hv;done)
      | (simp at hv;done)
      | skip
     · simp only [if_true] at hv
       cases hv
       rw [hX.rP]
       refine ⟨_,?_,.int _ _⟩
       simp [Builtin.len_,run_underlying hd,goInt]
     · rename_i b
       simp only [if_true] at hv
       unfold SE at hv
       split at hv
       · rename_i es hg
         cases hv
         obtain ⟨hA,e1⟩:=hX.yO
         obtain ⟨es',clock,q1,q2,_⟩:=cx.inv.obj b _ hg
         rw [e1]
         refine ⟨_,?_,.int _ _⟩
         simp [Builtin.len_,run_underlying hd,goInt,run_getObj_map w _ _ _ q1,q2]
       · cases hv
   · cases hc
 · cases hc
theorem aiz (cx:Cx P φ ψ N w0 w S m A h e a) {c:Call} (ho:o.op=.call c) (hb:c.callee=.builtin .cap):Ok P φ ψ N w0 w S m A h e a o:=by
 intro cop v u nid hc hs hn
 rw [ho] at hc
 simp only [cOp,hb,jQ] at hc
 unfold ai7 at hc
 split at hc
 · rename_i X t hargs htys
   simp only [Option.bind_eq_bind,Option.bind_eq_some_iff] at hc
   obtain ⟨x,hx,d,hd,hc⟩:=hc
   have hX:=cx.opd hx
   have ea:=arr1 hargs
   have et:=arr1 htys
   have hex:execOp a.eval o=(do pure (.value (← Builtin.cap_ #[t] o.type #[a.eval X]))):=iG ho hb (fun _=>by rw [ea,et];simp [builtin])
   split at hc
   · cases hc
     simp only [aH,sCap] at hs
     obtain ⟨h1,rfl⟩:=dS hs
     cases hxv:x.ev e <;> rw [hxv] at h1 hX <;> simp only [yw] at h1 <;> try (cases h1;done)
     · cases h1
       have e1:=hX.fM
       exact Snd.val cx.inv hex (cv:=.int .i64 0) (by rw [e1];simp [Builtin.cap_,run_underlying hd,goInt]) (.int _ _) nid
     · split at h1
       · rename_i hx'
         cases h1
         rcases hX.nI with ⟨b,off,cap,cs,e1,_,_,_,hex',_⟩ | ⟨rfl,ad,k,e1,hk⟩
         case inr=>exact Snd.val cx.inv hex (cv:=.int .i64 0) (by rw [e1,hk hx'];simp [Builtin.cap_,run_underlying hd,goInt]) (.int _ _) nid
         exact Snd.val cx.inv hex (cv:=.int .i64 _) (by rw [e1,hex' hx'];simp [Builtin.cap_,run_underlying hd,goInt]) (.int _ _) nid
       · cases h1
     · split at h1
       · rename_i hx'
         cases h1
         obtain ⟨cc,e1,_,_,_,_,hex',_⟩:=hX.lY
         exact Snd.val cx.inv hex (cv:=.int .i64 _) (by rw [e1,hex' hx'];simp [Builtin.cap_,run_underlying hd,goInt]) (.int _ _) nid
       · cases h1
   · cases hc
 · cases hc
theorem ahj (cx:Cx P φ ψ N w0 w S m A h e a) {c:Call} (ho:o.op=.call c) {mxx:Bool} (hb:c.callee=.builtin (if mxx then .max else .min)):Ok P φ ψ N w0 w S m A h e a o:=by
 intro cop v u nid hc hs hn
 rw [ho] at hc
 have hc':acv φ mxx c.args.toList=some cop:=by
  simp only [cOp,hb,jQ] at hc
  cases mxx <;> exact hc
 clear hc
 unfold acv at hc'
 split at hc'
 · rename_i X Y hargs
   simp only [Option.bind_eq_bind,Option.bind_eq_some_iff,Option.some.injEq] at hc'
   obtain ⟨x,hx,y,hy,rfl⟩:=hc'
   have hX:=cx.opd hx
   have hY:=cx.opd hy
   have ea:=aaM hargs
   cases mxx
   · have hex:execOp a.eval o=(do pure (.value (← Builtin.min_ c.argTypes o.type #[a.eval X,a.eval Y]))):=iG ho hb (fun _=>by rw [ea];simp [builtin])
     simp only [Bool.false_eq_true,if_false,aH,sMn] at hs
     split at hs
     · rename_i k n k' n' ex ey
       split at hs
       · rename_i hk
         subst hk
         cases hs
         rw [ex] at hX
         rw [ey] at hY
         have e1:=hX.dI
         have e2:=hY.dI
         exact Snd.val cx.inv hex (cv:=.int k _) (by rw [e1,e2];simp [Builtin.min_,Builtin.min2]) (.int _ _) nid
       · cases hs
     · cases hs
   · have hex:execOp a.eval o=(do pure (.value (← Builtin.max_ c.argTypes o.type #[a.eval X,a.eval Y]))):=iG ho hb (fun _=>by rw [ea];simp [builtin])
     simp only [if_true,aH,sMx] at hs
     split at hs
     · rename_i k n k' n' ex ey
       split at hs
       · rename_i hk
         subst hk
         cases hs
         rw [ex] at hX
         rw [ey] at hY
         have e1:=hX.dI
         have e2:=hY.dI
         exact Snd.val cx.inv hex (cv:=.int k _) (by rw [e1,e2];simp [Builtin.max_,Builtin.max2]) (.int _ _) nid
       · cases hs
     · cases hs
 · cases hc'
end
end Go.Pav
end
section
set_option linter.unusedSimpArgs false
set_option linter.unusedVariables false
namespace Go.Pav
open Go
section
variable {P:Program} {φ:FuncId→Option Nat} {ψ:Nat→FuncId} {N:Nat} {w0 w:World} {S:Nat→Prop} {m:Nat→Nat × Nat} {A:Nat→Prop} {h:Heap} {e:Env} {a:Act} {o:Oper}
structure FN (ψ:Nat→FuncId) (w:World) (S:Nat→Prop) (m:Nat→Nat × Nat) (A:Nat→Prop) (z:Nat) (es:List (List AV)) (g off:Nat):Prop where
 wide:∀ (k:Nat) (e:List AV),es[k]?=some e→e.length=z
 cell:∀ (k:Nat) (e:List AV) (j:Nat) (x:AV),es[k]?=some e→e[j]?=some x→x.cell=true∧∃ u,w.cell? ⟨g,off+(k * z+j),none⟩=some u∧VR ψ w S m A x u
theorem FN.load {z:Nat} {es:List (List AV)} {g off:Nat} (hr:FN ψ w S m A z es g off) (hz:0 < z) {n:Nat} (hn:n≤es.length) :
 ∃ vs,(∀ w2:World,w2.heap=w.heap→(loadCells ⟨g,off,none⟩ (n * z)).run P w2=.ok vs w2)∧EsR ψ w S m A z (es.take n) vs:=by
 have key:∀ q,q < n * z→∃ u,w.cell? ⟨g,off+q,none⟩=some u:=by
  intro q hq
  have hk:q / z < n:=Nat.div_lt_of_lt_mul (by rw [Nat.mul_comm];exact hq)
  have hj:q % z < z:=Nat.mod_lt _ hz
  have he:es[q / z]?=some es[q / z]:=List.getElem?_eq_getElem (by omega)
  have hw:=hr.wide _ _ he
  obtain ⟨_,u,h2,_⟩:=hr.cell _ _ (q % z) _ he (List.getElem?_eq_getElem (by omega))
  rw [Nat.mul_comm,Nat.div_add_mod] at h2
  exact ⟨u,h2⟩
 refine ⟨((List.range (n * z)).map fun q=>(w.cell? ⟨g,off+q,none⟩).getD Go.undef).toArray,fun w2 hw2=>?_,?_,?_,?_⟩
 · refine run_loadCells w2 ⟨g,off,none⟩ (n * z) _ fun q hq=>?_
   obtain ⟨u,hu⟩:=key q hq
   rw [lu,hu]
   have:w2.cell? ⟨g,off+q,none⟩=w.cell? ⟨g,off+q,none⟩:=World.cell?_of_block (by rw [hw2])
   rw [this,hu];rfl
 · simp;rw [Nat.min_eq_left hn]
 · intro k e he
   rw [List.getElem?_take] at he
   split at he
   · exact hr.wide k e he
   · cases he
 · intro k e j x he hx
   rw [List.getElem?_take] at he
   split at he
   · rename_i hk
     obtain ⟨h1,u,h2,h3⟩:=hr.cell k e j x he hx
     have hj:j < z:=by rw [← hr.wide k e he];exact (List.getElem?_eq_some_iff.1 hx).1
     have hlt:=uY hk hj
     refine ⟨h1,?_⟩
     rw [Array.getD_eq_getD_getElem?]
     simp only [List.getElem?_toArray,List.getElem?_map,List.getElem?_range hlt,Option.map_some,Option.getD_some,h2]
     exact h3
   · cases he
theorem Inv.TM (i:Inv ψ N w0 w S m A h) {b z k len:Nat} {es:List (List AV)} {mu:Bool} (hb:get h b=some (.cells z es mu)) :
 (m b).2=z∧FN ψ w S m A z ((es.drop k).take len) (m b).1 (k * z):=by
 obtain ⟨h0,h1,c,t,h2,h3,h4⟩:=i.obj b _ hb
 have get:∀ (q:Nat) (e:List AV),((es.drop k).take len)[q]?=some e→es[k+q]?=some e:=by
  intro q e he
  rw [List.getElem?_take] at he
  split at he
  · rwa [List.getElem?_drop] at he
  · cases he
 refine ⟨h0,fun q e he=>h1 _ e (get q e he),fun q e j x he hx=>?_⟩
 obtain ⟨h5,u,h6,h7⟩:=h4 _ e j x (get q e he) hx
 refine ⟨h5,u,?_,h7⟩
 rw [cell_of_row w _ _ c t _ h2,← h6]
 congr 1
 rw [Nat.add_mul]
 omega
theorem Je (i:Inv ψ N w0 w S m A h) {z:Nat} (hz:0 < z) {xv:AV} {c:Value} (hx:VR ψ w S m A xv c) {xs:List (List AV)} (he:elems h z xv=some xs) :
 (Builtin.lenOf c).run P w=.ok xs.length w∧∀ n,n≤xs.length→∃ vs,(∀ w2:World,w2.heap=w.heap→(Builtin.firstCells z n c).run P w2=.ok vs w2)∧EsR ψ w S m A z (xs.take n) vs:=by
 cases xv <;> simp only [elems] at he <;> try (cases he;done)
 · rename_i s
   split at he
   · rename_i hz1
     subst hz1
     cases he
     rw [hx.jh]
     have hsz:(⟨⟨s⟩⟩:ByteArray).size=s.length:=rfl
     refine ⟨by simp [Builtin.lenOf,hsz],fun n hn=>?_⟩
     rw [List.length_map] at hn
     refine ⟨((s.take n).map fun b=>Value.int .u8 b.toNat).toArray,fun w2 _=>?_,?_,?_,?_⟩
     · have hd:((⟨⟨s⟩⟩:ByteArray).extract 0 n).data=⟨s.take n⟩:=by
        rw [ByteArray.data_extract]
        apply Array.ext'
        simp [List.extract_eq_take_drop]
       simp only [Builtin.firstCells,hd,Sem.run_pure]
       congr 1
       apply Array.ext'
       simp
     · simp
     · intro k e he
       simp only [List.getElem?_take,List.getElem?_map] at he
       split at he
       · simp only [Option.map_eq_some_iff] at he
         obtain ⟨b,_,rfl⟩:=he
         rfl
       · cases he
     · intro k e j x he hx
       simp only [List.getElem?_take,List.getElem?_map] at he
       split at he
       · rename_i hk
         simp only [Option.map_eq_some_iff] at he
         obtain ⟨b,hb,rfl⟩:=he
         cases j with
         | succ j=>simp at hx
         | zero =>
          simp only [List.getElem?_cons_zero,Option.some.injEq] at hx
          subst hx
          refine ⟨rfl,?_⟩
          rw [Array.getD_eq_getD_getElem?]
          simp only [Nat.mul_one,Nat.add_zero,List.getElem?_toArray,List.getElem?_map,List.getElem?_take,if_pos hk,hb,Option.map_some,Option.getD_some]
          exact .int _ _
       · cases he
   · cases he
 · cases he
   rw [hx.fM]
   refine ⟨by simp [Builtin.lenOf],fun n hn=>?_⟩
   simp only [List.length_nil,Nat.le_zero_eq] at hn
   subst hn
   exact ⟨#[],fun w2 _=>by simp [Builtin.firstCells],⟨by simp,by simp,by simp⟩⟩
 · rename_i z' es ex
   split at he
   · rename_i hzz
     subst hzz
     cases he
     rcases hx.nI with ⟨b,off,cap,cs,e1,hS,hw,hcap,hex,hcell,hrep⟩ | ⟨rfl,ad,k,e1,_⟩
     case inr =>
      rw [e1]
      refine ⟨by simp [Builtin.lenOf],fun n hn=>?_⟩
      obtain rfl:n=0:=by simpa using hn
      exact ⟨#[],fun w2 _=>by simp [Builtin.firstCells,loadCells,loadCellsFrom],⟨by simp,by simp,by simp⟩⟩
     rw [e1]
     refine ⟨by simp [Builtin.lenOf],fun n hn=>?_⟩
     have hr:FN ψ w S m A z' xs b off:=⟨hw,fun k e j x q1 q2=>by
      obtain ⟨q3,q4⟩:=hcell k e j x q1 q2
      exact ⟨q3,cs k j,by rw [← Nat.add_assoc];exact q4,(hrep k e j x q1 q2).open_⟩⟩
     obtain ⟨vs,q1,q2⟩:=hr.load (P:=P) hz hn
     exact ⟨vs,fun w2 hw2=>by simp only [Builtin.firstCells];exact q1 w2 hw2,q2⟩
   · cases he
 · rename_i b z' k len cap ex
   split at he
   · rename_i hzz
     subst hzz
     split at he
     · rename_i zb es mu hb
       split at he
       · rename_i hfit
         cases he
         obtain ⟨cc,e1,hA,hmz,_⟩:=hx.lY
         obtain ⟨h0,hr⟩:=i.TM (k:=k) (len:=len) hb
         have hzb:zb=z':=by rw [← h0,hmz]
         subst hzb
         have hl:((es.drop k).take len).length=len:=by simp;omega
         rw [e1]
         refine ⟨by simp [Builtin.lenOf,hl],fun n hn=>?_⟩
         obtain ⟨vs,q1,q2⟩:=hr.load (P:=P) hz hn
         exact ⟨vs,fun w2 hw2=>by simp only [Builtin.firstCells];exact q1 w2 hw2,q2⟩
       · cases he
     · cases he
   · cases he
theorem EsR.one {z:Nat} {es:List (List AV)} {vs:Array Value} (hr:EsR ψ w S m A z es vs):∀ u ∈ vs.toList,u.oneCell'=true:=by
 intro u hu
 obtain ⟨q,hq,e1⟩:=List.getElem_of_mem hu
 have hqs:q < vs.size:=by simpa using hq
 have hsz:=hr.size
 by_cases hz:z=0
 · subst hz;rw [Nat.mul_zero] at hsz;omega
 · have hk:q / z < es.length:=Nat.div_lt_of_lt_mul (by rw [Nat.mul_comm,← hsz];exact hqs)
   have hj:q % z < z:=Nat.mod_lt _ (Nat.pos_of_ne_zero hz)
   have he:es[q / z]?=some es[q / z]:=List.getElem?_eq_getElem hk
   have hw:=hr.wide _ _ he
   obtain ⟨h1,h2⟩:=hr.cell _ _ (q % z) _ he (List.getElem?_eq_getElem (by omega))
   have h3:=h2.one h1
   rw [Nat.mul_comm,Nat.div_add_mod] at h3
   have:vs.getD q Go.undef=u:=by simp only [Array.getD,hqs,dif_pos];simpa using e1
   rwa [this] at h3
theorem Snd.overwrite {x:Sem Next} (i:Inv ψ N w0 w S m A h) {b z k:Nat} {es xs:List (List AV)} (hb:get h b=some (.cells z es true)) (hk:k+xs.length≤es.length) {vs:Array Value} (hx:EsR ψ w S m A z xs vs)
 {cv:Value} {v:AV}
 (hr:∀ (c:Array Value) (t:TypeId),w.heap[(m b).1]?=some (.cells c t (0,0))→es.length * z≤c.size →
  x.run P w=.ok (.value cv) (w.setRow (m b).1 (c.toList.take (k * z)++vs.toList++c.toList.drop (k * z+vs.toList.length)).toArray))
 (hv:∀ {w':World},Le w S m A w' S m A→VR ψ w' S m A v cv) (nid:Nat) :
 Snd P ψ N w0 w S m A x (put h b (.cells z (es.take k++(xs++es.drop (k+xs.length))) true)) v nid:=by
 obtain ⟨h0,h1,_⟩:=i.obj b _ hb
 have hvl:vs.toList.length=xs.length * z:=by simp [hx.size]
 have hmul:=Nat.mul_le_mul_right z hk
 rw [Nat.add_mul] at hmul
 have get:∀ (q:Nat) (e:List AV),(es.take k++(xs++es.drop (k+xs.length)))[q]?=some e→(q < k∧es[q]?=some e)∨(k≤q∧q < k+xs.length∧xs[q - k]?=some e)∨(k+xs.length≤q∧es[q]?=some e):=by
  intro q e he
  simp only [List.getElem?_append,List.length_take,List.getElem?_take,List.getElem?_drop] at he
  have hm:min k es.length=k:=by omega
  rw [hm] at he
  by_cases q1:q < k
  · rw [if_pos q1,if_pos q1] at he;exact .inl ⟨q1,he⟩
  · rw [if_neg q1] at he
    by_cases q2:q - k < xs.length
    · rw [if_pos q2] at he;exact .inr (.inl ⟨by omega,by omega,he⟩)
    · rw [if_neg q2] at he
      right;right
      refine ⟨by omega,?_⟩
      rwa [show k+xs.length+(q - k - xs.length)=q by omega] at he
 refine Snd.write (z:=z) (p:=k * z) (vs:=vs.toList) i hb (by omega) (fun c t hc hsz=>.inl (hr c t hc hsz)) ?_ (fun q e he=>?_) (fun q e j y he hy=>?_) hv nid
 · simp;omega
 · rcases get q e he with ⟨_,q2⟩ | ⟨_,_,q2⟩ | ⟨_,q2⟩
   · exact h1 _ e q2
   · exact hx.wide _ e q2
   · exact h1 _ e q2
 · rcases get q e he with ⟨q1,q2⟩ | ⟨q1,q1',q2⟩ | ⟨q1,q2⟩
   · right
     have hj:j < z:=by rw [← h1 q e q2];exact (List.getElem?_eq_some_iff.1 hy).1
     have:=uY q1 hj
     exact ⟨by omega,e,q2,hy⟩
   · left
     obtain ⟨c1,u,c2,c3⟩:=hx.at_ q2 hy
     have hj:j < z:=by rw [← hx.wide _ e q2];exact (List.getElem?_eq_some_iff.1 hy).1
     have hlt:=uY (show q - k < xs.length by omega) hj
     have e2:q * z=k * z+(q - k) * z:=by rw [← Nat.add_mul];congr 1;omega
     refine ⟨by omega,by omega,c1,u,?_,c3⟩
     rw [show q * z+j - k * z=(q - k) * z+j by omega,Array.getElem?_toList]
     exact c2
   · right
     have:=Nat.mul_le_mul_right z q1
     rw [Nat.add_mul] at this
     exact ⟨by omega,e,q2,hy⟩
end
end Go.Pav
end
section
set_option linter.unusedSimpArgs false
set_option linter.unusedVariables false
set_option linter.unusedSimpArgs false
namespace Go.Pav
open Go
section
variable {P:Program} {φ:FuncId→Option Nat} {ψ:Nat→FuncId} {N:Nat} {w0 w:World} {S:Nat→Prop} {m:Nat→Nat × Nat} {A:Nat→Prop} {h:Heap} {e:Env} {a:Act} {o:Oper}
structure Src (P:Program) (w:World) (t u ty el:TypeId) (i:TypeInfo) (z:Nat) (zv:Value) (x:Value) (n:Nat) (news:Array Value):Prop where
 room:∀ (base:Option Addr) (sLen sCap:Nat),sLen+n≤sCap→(Builtin.append_ #[t,u] ty #[.slice base sLen sCap,x]).run P w =
  (match base with | some ad=>((storeCells (ad.add (sLen * z)) news.toList).run P w).andThen fun _ w'=>.ok (.slice base (sLen+n) sCap) w' | none=>.ok (.slice base (sLen+n) sCap) w)
 grow:∀ (base:Option Addr) (sLen sCap:Nat) (olds:Array Value),¬ sLen+n≤sCap→(sLen+n) * (i.bytes+1)≤cZ→i.bytes≠0 →
  (∀ w2:World,w2.heap=w.heap→(Builtin.firstCells z sLen (.slice base sLen sCap)).run P w2=.ok olds w2) →
  (Builtin.append_ #[t,u] ty #[.slice base sLen sCap,x]).run P w=.ok (.slice (some ⟨w.heap.size,0,none⟩) (sLen+n) (grownCap w (sLen+n) sCap el))
   (w.drew.alloc (.cells (olds++news++Builtin.zeroCells zv.cells (grownCap w (sLen+n) sCap el - (sLen+n))) el))
theorem yC {n b:Nat} (hn:n * (b+1)≤cZ):n≤cZ∧n * b≤140737488355328:=by
 have h1:n≤n * (b+1):=Nat.le_mul_of_pos_right n (Nat.succ_pos b)
 have h2:n * b≤n * (b+1):=Nat.mul_le_mul_left n (Nat.le_succ b)
 simp only [cZ] at hn ⊢
 omega
theorem Yf {t u ty el:TypeId} {i:TypeInfo} {z:Nat} {zv x:Value} {n:Nat} {news:Array Value} {du:TypeDesc} (ht:P.underlying t=some (.slice el)) (hu:P.underlying u=some du) (hdu:∀ k,du≠.int k)
 (hi:P.info? el=some i) (hz:i.size=z) (hzv:i.zero=some zv) (hl:(Builtin.lenOf x).run P w=.ok n w) (hf:∀ w2:World,w2.heap=w.heap→(Builtin.firstCells z n x).run P w2=.ok news w2) :
 Src P w t u ty el i z zv x n news:=by
 have hno:(du matches .int _)=false:=by cases du <;> first | rfl | exact absurd rfl (hdu _)
 constructor
 · intro base sLen sCap hroom
   have hf0:=hf w rfl
   unfold Builtin.append_
   simp only [List.getElem?_toArray,List.getElem?_cons_zero,List.getElem?_cons_succ,Sem.run_bind,run_underlying ht,run_underlying hu,Result.andThen_ok,sizeOf,typeInfo,run_program,hi,Sem.run_pure,hz,hno,Bool.false_eq_true,if_false,hl,Bool.not_false,if_true]
   rw [if_pos hroom]
   cases base with
   | none=>simp [hf0]
   | some ad=>simp [hf0]
 · intro base sLen sCap olds hroom hb hb0 hold
   obtain ⟨s1,s2⟩:=yC hb
   have h63:¬ (((sLen+n:Nat):Int) > IntKind.i64.max∧(false=true∨i.bytes=0)):=by simp [hb0]
   have h48:¬ (Builtin.nextslicecap (sLen+n) sCap * i.bytes > 2 ^ 48):=by
    have:=growslice_fits (need:=sLen+n) (old:=sCap) (bytes:=i.bytes) (by omega) s2
    omega
   have hd1:=hf w.drew rfl
   have hd2:=hold w.drew rfl
   unfold Builtin.append_
   simp only [List.getElem?_toArray,List.getElem?_cons_zero,List.getElem?_cons_succ,Sem.run_bind,run_underlying ht,run_underlying hu,Result.andThen_ok,sizeOf,typeInfo,run_program,hi,Sem.run_pure,hz,hno,Bool.false_eq_true,if_false,hl,Bool.not_false,if_true]
   rw [if_neg hroom]
   have h63':¬ (((sLen+n:Nat):Int) > IntKind.i64.max∧i.bytes=0):=by simp [hb0]
   simp only [Bool.false_eq_true,false_or,h63',if_false,Sem.run_bind,Sem.run_pure,Result.andThen_ok,run_program,hi,h48,run_choose,Question.forced,run_askRoom]
   simp [hd1,hd2,zeroValue,typeInfo,hi,hzv,grownCap,Go.newRow]
theorem yA {z:List AV} {zc:Array Value} (h1:zc.size=z.length) (h3:∀ (j:Nat) (x:AV),z[j]?=some x→x.cell=true)
 (h4:∀ (j:Nat) (x:AV),z[j]?=some x→VR ψ w S m A x (zc.getD j Go.undef)) (n:Nat):EsR ψ w S m A z.length (List.replicate n z) (Builtin.zeroCells zc n):=by
 have:=CJ h1 h3 h4 n
 unfold Builtin.zeroCells
 rw [h1]
 rw [h1] at this
 exact this
theorem Xl {t u ty el:TypeId} {i:TypeInfo} {z:Nat} {zv:Value} {n:Nat} {k k':IntKind} (ht:P.underlying t=some (.slice el)) (hu:P.underlying u=some (.int k'))
 (hi:P.info? el=some i) (hz:i.size=z) (hz0:z≠0) (hzv:i.zero=some zv) (_hsz:zv.cells.size=z) (hb:n * (i.bytes+1)≤cZ) :
 Src P w t u ty el i z zv (.int k n) n (Builtin.zeroCells zv.cells n):=by
 obtain ⟨s1,s2⟩:=yC hb
 have hw:=wrap_i64 s1
 have hbig:¬ ((n:Int) * (i.bytes:Int) > 2 ^ 48):=by
  have h3:((n * i.bytes:Nat):Int)≤140737488355328:=by omega
  rw [Int.natCast_mul] at h3
  omega
 have hap:∀ w2:World,(if n * z=0 then pure #[] else do pure (Builtin.zeroCells (← zeroValue el).cells n):Sem (Array Value)).run P w2=.ok (Builtin.zeroCells zv.cells n) w2:=by
  intro w2
  by_cases h0:n * z=0
  · have hn0:n=0:=by rcases Nat.mul_eq_zero.1 h0 with h | h;exact h;exact absurd h hz0
    rw [if_pos h0,hn0]
    simp only [Sem.run_pure]
    congr 1
    apply Array.ext'
    simp [Builtin.zeroCells]
  · rw [if_neg h0]
    simp [zeroValue,typeInfo,hi,hzv]
 constructor
 · intro base sLen sCap hroom
   have hap0:=hap w
   unfold Builtin.append_
   simp only [List.getElem?_toArray,List.getElem?_cons_zero,List.getElem?_cons_succ,Sem.run_bind,run_underlying ht,run_underlying hu,Result.andThen_ok,sizeOf,typeInfo,run_program,hi,Sem.run_pure,hz,if_true,asInt,asIntOf,hw]
   rw [if_neg (show ¬ ((n:Int) < 0) by omega)]
   simp only [Sem.run_bind,Sem.run_pure,run_program,Result.andThen_ok,hi]
   rw [if_neg hbig]
   simp only [Sem.run_bind,Sem.run_pure,Result.andThen_ok,Int.toNat_natCast,Bool.not_true,Bool.false_eq_true,if_false]
   rw [if_pos hroom]
   simp only [Sem.run_bind,hap0,Result.andThen_ok]
   cases base with
   | none=>simp
   | some ad=>simp
 · intro base sLen sCap olds hroom hb hb0 hold
   obtain ⟨s1,s2⟩:=yC hb
   have h48:¬ (Builtin.nextslicecap (sLen+n) sCap * i.bytes > 2 ^ 48):=by
    have:=growslice_fits (need:=sLen+n) (old:=sCap) (bytes:=i.bytes) (by omega) s2
    omega
   have h63:¬ (((sLen+n:Nat):Int) > IntKind.i64.max):=by
    rw [IntKind.max_i64]
    simp only [cZ] at s1
    omega
   have hd1:=hap w.drew
   have hd2:=hold w.drew rfl
   unfold Builtin.append_
   simp only [List.getElem?_toArray,List.getElem?_cons_zero,List.getElem?_cons_succ,Sem.run_bind,run_underlying ht,run_underlying hu,Result.andThen_ok,sizeOf,typeInfo,run_program,hi,Sem.run_pure,hz,if_true,asInt,asIntOf,hw]
   rw [if_neg (show ¬ ((n:Int) < 0) by omega)]
   simp only [Sem.run_bind,Sem.run_pure,run_program,Result.andThen_ok,hi]
   rw [if_neg hbig]
   simp only [Sem.run_bind,Sem.run_pure,Result.andThen_ok,Int.toNat_natCast,Bool.not_true,Bool.false_eq_true,if_false]
   rw [if_neg hroom]
   simp only [h63,false_and,if_false,Sem.run_bind,Sem.run_pure,Result.andThen_ok,run_program,hi,h48,run_choose,Question.forced,run_askRoom,Bool.false_eq_true]
   have hd1':(if n * z=0 then pure #[] else do pure (Builtin.zeroCells (← zeroValue el).cells n):Sem (Array Value)).run P { w with drawn:=w.drawn+1 }=.ok (Builtin.zeroCells zv.cells n) w.drew:=hd1
   have hd2':(Builtin.firstCells z sLen (.slice base sLen sCap)).run P { w with drawn:=w.drawn+1 }=.ok olds w.drew:=hd2
   simp only [hd2',Result.andThen_ok,hd1]
   simp [zeroValue,typeInfo,hi,hzv,grownCap,Go.newRow]
theorem EsR.append {z:Nat} {es fs:List (List AV)} {vs us:Array Value} (_hz:0 < z) (h1:EsR ψ w S m A z es vs) (h2:EsR ψ w S m A z fs us):EsR ψ w S m A z (es++fs) (vs++us):=by
 have get:∀ (k:Nat) (e:List AV),(es++fs)[k]?=some e→(k < es.length∧es[k]?=some e)∨(es.length≤k∧fs[k - es.length]?=some e):=by
  intro k e he
  rw [List.getElem?_append] at he
  split at he
  · rename_i hk;exact .inl ⟨hk,he⟩
  · rename_i hk;exact .inr ⟨by omega,he⟩
 refine ⟨by simp [h1.size,h2.size,Nat.add_mul],fun k e he=>?_,fun k e j x he hx=>?_⟩
 · rcases get k e he with ⟨_,q⟩ | ⟨_,q⟩
   · exact h1.wide _ e q
   · exact h2.wide _ e q
 · rcases get k e he with ⟨q1,q2⟩ | ⟨q1,q2⟩
   · obtain ⟨c1,u,c2,c3⟩:=h1.at_ q2 hx
     refine ⟨c1,?_⟩
     have hlt:=(Array.getElem?_eq_some_iff.1 c2).1
     rw [Array.getD_eq_getD_getElem?,Array.getElem?_append_left hlt,c2]
     exact c3
   · obtain ⟨c1,u,c2,c3⟩:=h2.at_ q2 hx
     refine ⟨c1,?_⟩
     have e2:k * z=es.length * z+(k - es.length) * z:=by rw [← Nat.add_mul];congr 1;omega
     rw [Array.getD_eq_getD_getElem?,Array.getElem?_append_right (by rw [h1.size];omega)]
     rw [show k * z+j - vs.size=(k - es.length) * z+j by rw [h1.size];omega,c2]
     exact c3
theorem Snd.grown {x:Sem Next} (i:Inv ψ N w0 w S m A h) {nid:Nat} (hn:¬ A nid) {need cap z:Nat} {es:List (List AV)} {vs:Array Value} {el:TypeId} {zc:Array Value}
 (hr:x.run P w=.ok (.value (.slice (some ⟨w.heap.size,0,none⟩) need cap)) (w.drew.alloc (.cells (vs++Builtin.zeroCells zc (cap - need)) el)))
 (he:EsR ψ w S m A z es vs) (hl:es.length=need) (hcap:need≤cap) (hzc:zc.size=z) :
 Snd P ψ N w0 w S m A x (put h nid (.cells z es true)) (.sl nid z 0 need need false) nid:=by
 refine Snd.VQ (w':=w.drew.alloc (.cells (vs++Builtin.zeroCells zc (cap - need)) el)) (c:=vs++Builtin.zeroCells zc (cap - need)) (t:=el) (cs:=vs) i hn hr rfl rfl rfl he (fun q hq=>?_) (by simp) rfl hcap hcap (fun hx=>by cases hx) ?_
 · rw [Array.getElem?_append_left hq]
 · rw [Array.size_append,size_zeroCells,he.size,hl,hzc,← Nat.add_mul]
   exact Nat.mul_le_mul_right z (by omega)
theorem aeM (i:Inv ψ N w0 w S m A h) {nid:Nat} (hn:¬ A nid) {t u ty el:TypeId} {it:TypeInfo} {zv:Value} {z:Nat} (hz0:0 < z) (hzv:zv.cells.size=z) (hb0:it.bytes≠0) {x:Sem Next} {cs cx:Value} {xs:List (List AV)} {news:Array Value}
 (hx:∀ w' v,(Builtin.append_ #[t,u] ty #[cs,cx]).run P w=.ok v w'→x.run P w=.ok (.value v) w')
 (src:Src P w t u ty el it z zv cx xs.length news) (hnews:EsR ψ w S m A z xs news) {b cap:Nat} {es:List (List AV)} (hs:VR ψ w S m A (.sl b z 0 es.length cap false) cs) (hb:get h b=some (.cells z es true))
 (hbb:(es.length+xs.length) * (it.bytes+1)≤cZ) :
 Snd P ψ N w0 w S m A x (put (Pav.del h b) nid (.cells z (es++xs) true)) (.sl nid z 0 (es.length+xs.length) (es.length+xs.length) false) nid:=by
 have hone:=hnews.one
 obtain ⟨cc,e1,hA,hmz,hlen,hcap,hex,cur,tt,fr,hrow,hsz⟩:=hs.lY
 subst e1
 have hlive:=i.live b _ hb rfl
 obtain ⟨h0,h1,c,tc,h2,h3,h4⟩:=i.obj b _ hb
 by_cases hroom:es.length+xs.length≤cc
 · -- in place
   have heq:=h2.symm.trans hrow
   simp only [Option.some.injEq,Obj.cells.injEq] at heq
   rw [← heq.1,Nat.zero_add] at hsz
   have hmul:=Nat.mul_le_mul_right z hroom
   rw [Nat.add_mul,← hnews.size] at hmul
   have hfit:es.length * z+news.toList.length≤c.size:=by simp;omega
   have hst:=run_storeCells_at P (m b).1 (0 * z+es.length * z) tc news.toList 0 c w h2 (by simp;omega) hone
   simp only [Nat.zero_mul,Nat.zero_add,Nat.add_zero] at hst
   have hrun:=src.room (some ⟨(m b).1,0 * z,none⟩) es.length cc hroom
   simp only [lu,Nat.zero_mul,Nat.zero_add,hst,Result.andThen_ok] at hrun
   have hrow2:∀ c' t' fr,w.heap[(m b).1]?=some (.cells c' t' fr)→∃ c'',(w.setRow (m b).1 (c.toList.take (es.length * z)++news.toList++c.toList.drop (es.length * z+news.toList.length)).toArray).heap[(m b).1]?=some (.cells c'' t' fr)∧c''.size=c'.size:=by
    intro c' t' fr hc'
    rw [h2] at hc'
    cases hc'
    exact ⟨_,setRow_heap w _ c _ tc (0,0) h2,vk hfit⟩
   have le:=Le.adopt (m:=m) (A:=A) (nid:=nid) hlive.1 (fun k hk=>setRow_other w _ k _ hk) (setRow_size w _ _) hrow2 hn ((m b).1,z)
   have hnew:(w.setRow (m b).1 (c.toList.take (es.length * z)++news.toList++c.toList.drop (es.length * z+news.toList.length)).toArray).heap[(m b).1]?=some (.cells (c.toList.take (es.length * z)++news.toList++c.toList.drop (es.length * z+news.toList.length)).toArray tc (0,0)):=setRow_heap w _ c _ tc (0,0) h2
   refine ⟨_,_,S,gu m nid ((m b).1,z),rQ A nid,.inl (hx _ _ (by rw [Nat.zero_mul];exact hrun)),?_,i.adopt hb rfl rfl hn z (fun k hk=>setRow_other w _ k _ hk) (setRow_size w _ _) rfl rfl hrow2 ?_,le,fun _ _ hs=>hs,fun _ q=>q⟩
   · have:=VR.sl (ψ:=ψ) (w:=w.setRow (m b).1 (c.toList.take (es.length * z)++news.toList++c.toList.drop (es.length * z+news.toList.length)).toArray) (S:=S) (m:=gu m nid ((m b).1,z)) (A:=rQ A nid) nid z 0 (es.length+xs.length) (es.length+xs.length) false cc (.inr rfl) (by simp [gu]) hroom hroom (fun q=>by cases q)
      ⟨_,tc,(0,0),by simp only [gu,if_true];exact hnew,by rw [vk hfit,Nat.zero_add];exact hsz⟩
     simpa [gu] using this
   · have hnl:news.toList.length=xs.length * z:=by simp [hnews.size]
     refine ⟨rfl,fun q e he=>?_,_,tc,hnew,?_,fun q e j y he hy=>?_⟩
     · rw [List.getElem?_append] at he
       split at he
       · exact h1 q e he
       · exact hnews.wide _ e he
     · rw [vk hfit,List.length_append,Nat.add_mul];omega
     · rw [List.getElem?_append] at he
       split at he
       · rename_i hq
         obtain ⟨c1,u',c2,c3⟩:=h4 q e j y he hy
         have hj:j < z:=by rw [← h1 q e he];exact (List.getElem?_eq_some_iff.1 hy).1
         have hlt:=uY hq hj
         exact ⟨c1,u',by rw [Fp hfit,if_neg (by omega)];exact c2,c3.mono le⟩
       · rename_i hq
         obtain ⟨c1,u',c2,c3⟩:=hnews.at_ he hy
         have hlt:=(Array.getElem?_eq_some_iff.1 c2).1
         rw [hnews.size] at hlt
         have e2:q * z=es.length * z+(q - es.length) * z:=by rw [← Nat.add_mul];congr 1;omega
         refine ⟨c1,u',?_,c3.mono le⟩
         rw [Fp hfit,if_pos (by omega),show q * z+j - es.length * z=(q - es.length) * z+j by omega,Array.getElem?_toList]
         exact c2
 · -- a new block
   obtain ⟨_,hr0⟩:=i.TM (k:=0) (len:=es.length) hb
   have hl:(es.drop 0).take es.length=es:=by simp
   rw [hl] at hr0
   obtain ⟨vs,q1,q2⟩:=hr0.load (P:=P) hz0 (Nat.le_refl _)
   rw [List.take_of_length_le (Nat.le_refl _)] at q2
   have hr:=src.grow (some ⟨(m b).1,0 * z,none⟩) es.length cc vs hroom hbb hb0 (fun w2 hw2=>by simp only [Builtin.firstCells];exact q1 w2 hw2)
   exact Snd.grown (i.del b) hn (hx _ _ hr) (q2.append hz0 hnews) (by simp) (grownCap_ge ..) hzv
theorem Vj (i:Inv ψ N w0 w S m A h) {nid:Nat} (hn:¬ A nid) {t u ty el:TypeId} {it:TypeInfo} {zv:Value} {z:Nat} (hz0:0 < z) (hzv:zv.cells.size=z) (hb0:it.bytes≠0) {x:Sem Next} {cs cx:Value} {sv:AV} {xs:List (List AV)} {news:Array Value}
 (hx:∀ w' v,(Builtin.append_ #[t,u] ty #[cs,cx]).run P w=.ok v w'→x.run P w=.ok (.value v) w')
 (src:Src P w t u ty el it z zv cx xs.length news) (hnews:EsR ψ w S m A z xs news) (hs:VR ψ w S m A sv cs) {v:AV} {up:Upd} (hv:kK h nid z it.bytes sv xs=some (v,up)) :
 Snd P ψ N w0 w S m A x (aN h up) v nid:=by
 cases sv <;> simp only [kK] at hv <;> try (cases hv;done)
 · -- nil
   have e1:=hs.fM
   subst e1
   cases xs with
   | nil =>
    simp only at hv
    cases hv
    refine Snd.quiet i (hx _ _ ?_) .aZ nid
    rw [src.room none 0 0 (by simp)]
    simp
   | cons x0 xr =>
    simp only [Pav.newRow] at hv
    split at hv
    · rename_i hb
      cases hv
      have hr:=src.grow none 0 0 #[] (by simp) (by rw [Nat.zero_add];exact hb) hb0 (fun w2 _=>by simp [Builtin.firstCells])
      rw [Nat.zero_add,Array.empty_append] at hr
      exact Snd.grown i hn (hx _ _ hr) hnews rfl (grownCap_ge ..) hzv
    · cases hv
 · -- read-only
   rename_i z' es ex
   split at hv
   · rename_i hzz
     subst hzz
     rcases hs.nI with ⟨b,off,cap,f,e1,hS,hw,hcap,hex,hcell,hrep⟩ | ⟨rfl,ad,kk,e1,hkk⟩
     case inr =>
      subst e1
      cases xs with
      | nil =>
       simp only at hv
       cases hv
       have hnil:news=#[]:=by have:=hnews.size;simp at this;exact this
       subst hnil
       refine Snd.quiet i (hx _ _ ?_) hs nid
       rw [src.room (some ad) 0 kk (by simp)]
       simp [storeCells]
      | cons x0 xr =>
       simp only at hv
       split at hv
       · rename_i hex'
         obtain rfl:=hkk hex'
         simp only [Pav.newRow] at hv
         split at hv
         · rename_i hb
           simp only [List.length_nil,Nat.zero_add,List.nil_append] at hv hb
           cases hv
           have hr:=src.grow (some ad) 0 0 #[] (by simp) (by rw [Nat.zero_add];exact hb) hb0 (fun w2 _=>by simp [Builtin.firstCells,loadCells,loadCellsFrom])
           rw [Nat.zero_add,Array.empty_append] at hr
           exact Snd.grown i hn (hx _ _ hr) hnews rfl (grownCap_ge ..) hzv
         · cases hv
       · cases hv
     subst e1
     cases xs with
     | nil =>
      simp only at hv
      cases hv
      have hnil:news=#[]:=by have:=hnews.size;simp at this;exact this
      subst hnil
      refine Snd.quiet i (hx _ _ ?_) hs nid
      rw [src.room _ _ _ (by simp;exact hcap)]
      simp [storeCells]
     | cons x0 xr =>
      simp only at hv
      split at hv
      · rename_i hext
        simp only [Pav.newRow] at hv
        split at hv
        · rename_i hb
          cases hv
          have hce:=hex hext
          subst hce
          have hr0:FN ψ w S m A z' es b off:=⟨hw,fun k e j y q1 q2=>by
           obtain ⟨q3,q4⟩:=hcell k e j y q1 q2
           exact ⟨q3,f k j,by rw [← Nat.add_assoc];exact q4,(hrep k e j y q1 q2).open_⟩⟩
          obtain ⟨vs,q1,q2⟩:=hr0.load (P:=P) hz0 (Nat.le_refl _)
          rw [List.take_of_length_le (Nat.le_refl _)] at q2
          have hr:=src.grow (some ⟨b,off,none⟩) es.length es.length vs (by simp) hb hb0 (fun w2 hw2=>by simp only [Builtin.firstCells];exact q1 w2 hw2)
          exact Snd.grown i hn (hx _ _ hr) (q2.append hz0 hnews) (by simp) (grownCap_ge ..) hzv
        · cases hv
      · cases hv
   · cases hv
 · -- the frame's own
   rename_i b z' k len cap ex
   split at hv
   · rename_i hzz
     subst hzz
     obtain ⟨cc,e1,hA,hmz,hlen,hcap,hex,cur,tt,fr,hrow,hsz⟩:=hs.lY
     subst e1
     cases xs with
     | nil =>
      simp only at hv
      cases hv
      have hnil:news=#[]:=by have:=hnews.size;simp at this;exact this
      subst hnil
      refine Snd.quiet i (hx _ _ ?_) hs nid
      rw [src.room _ _ _ (by simp;exact hlen)]
      simp [storeCells]
     | cons x0 xr =>
      simp only [aco] at hv
      split at hv
      · rename_i zb es mu hb
        split at hv
        · rename_i hzb
          subst hzb
          have hone:=hnews.one
          have hxl:(x0::xr).length=xr.length+1:=rfl
          split at hv
          · rename_i hle
            split at hv
            · rename_i hc
              obtain ⟨rfl,hfit⟩:=hc
              cases hv
              have hkl:k+len+(x0::xr).length≤es.length:=by omega
              have key:=Snd.overwrite (P:=P) (x:=x) (k:=k+len) i hb hkl hnews (cv:=.slice (some ⟨(m b).1,k * zb,none⟩) (len+(x0::xr).length) cc) (v:=.sl b zb k (len+(x0::xr).length) cap ex) (fun c t' hc hsz'=>?_) (fun le=>?_) nid
              · rw [show k+(len+(x0::xr).length)=k+len+(x0::xr).length by omega]
                exact key
              · refine hx _ _ ?_
                rw [src.room _ _ _ (by omega)]
                have hmul:=Nat.mul_le_mul_right zb hkl
                rw [Nat.add_mul,Nat.add_mul,← hnews.size] at hmul
                have hst:=run_storeCells_at P (m b).1 (k * zb+len * zb) t' news.toList 0 c w hc (by simp;omega) hone
                simp only [Nat.add_zero] at hst
                rw [Nat.add_mul]
                simp only [lu,hst,Result.andThen_ok]
              · have:=hs.mono le
                obtain ⟨cc',e2,q1,q2,q3,q4,q5,q6⟩:=this.lY
                cases e2
                exact .sl b zb k _ cap ex cc q1 q2 (by omega) q4 q5 q6
            · cases hv
          · rename_i hgt
            split at hv
            · rename_i hext
              split at hv
              · rename_i hfit
                simp only [Pav.newRow] at hv
                split at hv
                · rename_i hbb
                  cases hv
                  have hce:=hex hext
                  obtain ⟨_,hr0⟩:=i.TM (k:=k) (len:=len) hb
                  have hl:((es.drop k).take len).length=len:=by simp;omega
                  obtain ⟨vs,q1,q2⟩:=hr0.load (P:=P) hz0 (n:=len) (by omega)
                  rw [List.take_of_length_le (by omega)] at q2
                  have hr:=src.grow (some ⟨(m b).1,k * zb,none⟩) len cc vs (by omega) hbb hb0 (fun w2 hw2=>by simp only [Builtin.firstCells];exact q1 w2 hw2)
                  exact Snd.grown i hn (hx _ _ hr) (q2.append hz0 hnews) (by simp;omega) (grownCap_ge ..) hzv
                · cases hv
              · cases hv
            · rename_i hnex
              split at hv
              · rename_i hc
                obtain ⟨rfl,rfl,hel,hbb⟩:=hc
                subst hel
                cases hv
                have hexf:ex=false:=by simpa using hnex
                subst hexf
                exact aeM i hn hz0 hzv hb0 hx src hnews hs hb hbb
              · cases hv
        · cases hv
      · cases hv
   · cases hv
theorem ai6 (cx:Cx P φ ψ N w0 w S m A h e a) {c:Call} (ho:o.op=.call c) (hb:c.callee=.builtin .append):Ok P φ ψ N w0 w S m A h e a o:=by
 intro cop v up nid hc hs hn
 rw [ho] at hc
 simp only [cOp,hb,jQ] at hc
 unfold Nv at hc
 split at hc
 · rename_i S0 X t u hargs htys
   simp only [Option.bind_eq_bind,Option.bind_eq_some_iff] at hc
   obtain ⟨s,hsx,x,hx,d,hd,hc⟩:=hc
   have hS:=cx.opd hsx
   have hX:=cx.opd hx
   have ea:=aaM hargs
   have et:=aaM htys
   have hex:∀ w' v,(Builtin.append_ #[t,u] o.type #[a.eval S0,a.eval X]).run P w=.ok v w'→(execOp a.eval o).run P w=.ok (.value v) w':=by
    intro w' v hr
    rw [iG (s:=Builtin.append_ #[t,u] o.type #[a.eval S0,a.eval X]) ho hb (fun _=>by rw [ea,et];simp [builtin])]
    simp [hr]
   split at hc
   · rename_i el
     simp only [Option.bind_eq_some_iff] at hc
     obtain ⟨z,hz,it,hit,hc⟩:=hc
     split at hc
     · cases hc
     · rename_i hne
       obtain ⟨it',zv,hit',hzv,z1,z2,z3,z4⟩:=gX (ψ:=ψ) (w:=w) (S:=S) (m:=m) (A:=A) hz
       rw [hit] at hit'
       cases hit'
       have hz0:0 < z.length:=Nat.pos_of_ne_zero fun q=>hne (.inl q)
       have hb0:it.bytes≠0:=fun q=>hne (.inr q)
       simp only [Option.bind_eq_some_iff] at hc
       obtain ⟨du,hdu,hc⟩:=hc
       have plain:(∀ k,du≠.int k)→cop=.app z it.bytes false s x→Snd P ψ N w0 w S m A (execOp a.eval o) (aN h up) v nid:=by
        intro hno hcop
        subst hcop
        simp only [aH,Ua,Bool.false_eq_true,if_false] at hs
        obtain ⟨xs,hxs,hs'⟩:=ak hs
        obtain ⟨q1,q2⟩:=Je (P:=P) cx.inv hz0 hX hxs
        obtain ⟨news,q3,q4⟩:=q2 xs.length (Nat.le_refl _)
        rw [List.take_of_length_le (Nat.le_refl _)] at q4
        exact Vj cx.inv hn hz0 z1 hb0 hex (Yf hd hdu hno hit z2 hzv q1 q3) q4 hS hs'
       split at hc
       · cases hc
         simp only [aH,Ua,if_true] at hs
         split at hs
         · rename_i k n ei
           obtain ⟨n',hn',hs'⟩:=ak hs
           cases nat?_some hn'
           replace hs:=hs';clear hs'
           split at hs
           · rename_i hbb
             rw [ei] at hX
             have eX:=hX.dI
             have src:=Xl (P:=P) (w:=w) (t:=t) (u:=u) (ty:=o.type) (k:=k) hd hdu hit z2 (Nat.pos_iff_ne_zero.1 hz0) hzv z1 hbb
             rw [← eX] at src
             have hl:(List.replicate n' z).length=n':=by simp
             have src':Src P w t u o.type el it z.length zv (a.eval X) (List.replicate n' z).length (Builtin.zeroCells zv.cells n'):=by rw [hl];exact src
             exact Vj cx.inv hn hz0 z1 hb0 hex src' (yA z1 z3 z4 n') hS hs
           · cases hs
         · cases hs
       · cases hc;exact plain (fun k q=>by cases q) rfl
       · cases hc;exact plain (fun k q=>by cases q) rfl
       · cases hc
   · cases hc
 · cases hc
theorem ajK (cx:Cx P φ ψ N w0 w S m A h e a) {c:Call} (ho:o.op=.call c) (hb:c.callee=.builtin .copy):Ok P φ ψ N w0 w S m A h e a o:=by
 intro cop v up nid hc hs hn
 rw [ho] at hc
 simp only [cOp,hb,jQ] at hc
 unfold acK at hc
 split at hc
 · rename_i D X t u hargs htys
   simp only [Option.bind_eq_bind,Option.bind_eq_some_iff] at hc
   obtain ⟨dd,hdx,x,hx,d,hd,hc⟩:=hc
   have hD:=cx.opd hdx
   have hX:=cx.opd hx
   have ea:=aaM hargs
   have et:=aaM htys
   have hex:∀ w' v,(Builtin.copy_ #[t,u] o.type #[a.eval D,a.eval X]).run P w=.ok v w'→(execOp a.eval o).run P w=.ok (.value v) w':=by
    intro w' v hr
    rw [iG (s:=Builtin.copy_ #[t,u] o.type #[a.eval D,a.eval X]) ho hb (fun _=>by rw [ea,et];simp [builtin])]
    simp [hr]
   split at hc
   · rename_i el
     simp only [Option.bind_eq_some_iff] at hc
     obtain ⟨z,hz,hc⟩:=hc
     split at hc
     · cases hc
     · rename_i hz0
       cases hc
       simp only [aH,ac8] at hs
       obtain ⟨xs,hxs,hs'⟩:=ak hs
       replace hs:=hs';clear hs'
       obtain ⟨q1,q2⟩:=Je (P:=P) cx.inv (Nat.pos_of_ne_zero hz0) hX hxs
       have run:∀ base dLen dCap news n,n=Nat.min xs.length dLen→a.eval D=.slice base dLen dCap→(∀ w2:World,w2.heap=w.heap→(Builtin.firstCells z n (a.eval X)).run P w2=.ok news w2) →
        (Builtin.copy_ #[t,u] o.type #[a.eval D,a.eval X]).run P w=(match base with | some ad=>((storeCells ad news.toList).run P w).andThen fun _ w'=>.ok (.int .i64 (n:Int)) w' | none=>.ok (.int .i64 (n:Int)) w):=by
        intro base dLen dCap news n hn e1 hf
        have hf0:=hf w rfl
        rw [e1]
        unfold Builtin.copy_
        simp only [List.getElem?_toArray,List.getElem?_cons_zero,List.getElem?_cons_succ,Sem.run_bind,run_underlying hd,Result.andThen_ok,q1,fC hz]
        rw [← hn]
        clear hn
        cases base
        · simp only [Sem.run_bind,hf0,Result.andThen_ok,Sem.run_pure];rfl
        · simp only [Sem.run_bind,hf0,Result.andThen_ok,Sem.run_pure];rfl
       cases hxv:dd.ev e <;> rw [hxv] at hs hD <;> simp only [tC] at hs <;> try (cases hs;done)
       · cases hs
         have e1:=hD.fM
         obtain ⟨news,q3,q4⟩:=q2 (min xs.length 0) (Nat.min_le_left _ _)
         have hr:=run none 0 0 news 0 (by simp) e1 (by simpa using q3)
         exact Snd.quiet cx.inv (hex _ _ hr) (.int _ _) nid
       · rename_i z' es ex
         cases es with
         | cons _ _=>cases hs
         | nil =>
          cases hs
          obtain ⟨ad,cap,e1⟩:∃ (ad:Addr) (cap:Nat),_=Value.slice (some ad) 0 cap:=by
           rcases hD.nI with ⟨b,off,cap,_,e1,_⟩ | ⟨_,ad,_,e1,_⟩
           · exact ⟨_,_,e1⟩
           · exact ⟨_,_,e1⟩
          obtain ⟨news,q3,q4⟩:=q2 (min xs.length 0) (Nat.min_le_left _ _)
          have hr:=run _ _ _ news 0 (by simp) e1 (by simpa using q3)
          have hnil:news=#[]:=by have:=q4.size;simp at this;exact this
          subst hnil
          simp only [storeCells,Sem.run_pure,Result.andThen_ok] at hr
          exact Snd.quiet cx.inv (hex _ _ hr) (.int _ _) nid
       · rename_i b z' k len cap ex
         split at hs
         · rename_i hzz
           subst hzz
           obtain ⟨cc,e1,hA,hmz,_⟩:=hD.lY
           obtain ⟨news,q3,q4⟩:=q2 (min xs.length len) (Nat.min_le_left _ _)
           have hr:=run _ _ _ news _ rfl e1 q3
           simp only at hr
           rw [show Nat.min xs.length len=min xs.length len from rfl] at hr
           split at hs
           · rename_i h0
             cases hs
             rw [h0] at q4
             have hnil:news=#[]:=by have:=q4.size;simp at this;exact this
             subst hnil
             rw [h0] at hr
             simp only [storeCells,Sem.run_pure,Result.andThen_ok] at hr
             exact Snd.quiet cx.inv (hex _ _ hr) (.int _ _) nid
           · unfold RV at hs
             split at hs
             · rename_i zb es mu hb'
               split at hs
               · rename_i hcc
                 obtain ⟨rfl,rfl,hfit⟩:=hcc
                 cases hs
                 have hl:(xs.take (min xs.length len)).length=min xs.length len:=by simp
                 have hkl:k+(xs.take (min xs.length len)).length≤es.length:=by rw [hl];omega
                 have key:=Snd.overwrite (P:=P) (x:=execOp a.eval o) (k:=k) cx.inv hb' hkl q4 (cv:=.int .i64 ((min xs.length len:Nat):Int)) (v:=.int .i64 ((min xs.length len:Nat):Int)) (fun c' t' hc hsz'=>?_) (fun _=>.int _ _) nid
                 · rw [hl] at key
                   exact key
                 · have hmul:=Nat.mul_le_mul_right zb hkl
                   rw [Nat.add_mul,← q4.size] at hmul
                   have hst:=run_storeCells_at P (m b).1 (k * zb) t' news.toList 0 c' w hc (by simp;omega) q4.one
                   simp only [Nat.add_zero] at hst
                   rw [hst] at hr
                   exact hex _ _ hr
               · cases hs
             · cases hs
         · cases hs
   · cases hc
 · cases hc
theorem ajG (cx:Cx P φ ψ N w0 w S m A h e a) {c:Call} (ho:o.op=.call c) (hb:c.callee=.builtin .clear):Ok P φ ψ N w0 w S m A h e a o:=by
 intro cop v up nid hc hs hn
 rw [ho] at hc
 simp only [cOp,hb,jQ] at hc
 unfold Tt at hc
 split at hc
 · rename_i D t hargs htys
   simp only [Option.bind_eq_bind,Option.bind_eq_some_iff] at hc
   obtain ⟨dd,hdx,d,hd,hc⟩:=hc
   have hD:=cx.opd hdx
   have ea:c.args=#[D]:=by rw [← hargs]
   have et:c.argTypes=#[t]:=by rw [← htys]
   have hex:∀ w' v,(Builtin.clear_ #[t] o.type #[a.eval D]).run P w=.ok v w'→(execOp a.eval o).run P w=.ok (.value v) w':=by
    intro w' v hr
    rw [iG (s:=Builtin.clear_ #[t] o.type #[a.eval D]) ho hb (fun _=>by rw [ea,et];simp [builtin])]
    simp [hr]
   split at hc
   · rename_i el
     simp only [Option.bind_eq_some_iff] at hc
     obtain ⟨z,hz,hc⟩:=hc
     split at hc
     · cases hc
     · rename_i hz0
       cases hc
       obtain ⟨it,zv,hit,hzv,z1,z2,z3,z4⟩:=gX (ψ:=ψ) (w:=w) (S:=S) (m:=m) (A:=A) hz
       simp only [aH,adp] at hs
       have run0:∀ base cap,a.eval D=.slice base 0 cap→(Builtin.clear_ #[t] o.type #[a.eval D]).run P w=.ok (.tuple #[]) w:=by
        intro base cap e1
        rw [e1]
        unfold Builtin.clear_
        cases base <;> simp [Sem.run_bind,run_underlying hd]
       have run1:∀ ad n cap,n≠0→a.eval D=.slice (some ad) n cap→(Builtin.clear_ #[t] o.type #[a.eval D]).run P w=((storeCells ad (Builtin.zeroCells zv.cells n).toList).run P w).andThen fun _ w'=>.ok (.tuple #[]) w':=by
        intro ad n cap h0 e1
        rw [e1]
        obtain ⟨n,rfl⟩:∃ k,n=k+1:=⟨n - 1,by omega⟩
        unfold Builtin.clear_
        simp [Sem.run_bind,run_underlying hd,zeroValue,typeInfo,hit,hzv]
       cases hxv:dd.ev e <;> rw [hxv] at hs hD <;> simp only [HY] at hs <;> try (cases hs;done)
       · cases hs
         exact Snd.quiet cx.inv (hex _ _ (run0 none 0 hD.fM)) (.tup _ _ rfl (by simp)) nid
       · rename_i z' es ex
         cases es with
         | cons _ _=>cases hs
         | nil =>
          cases hs
          obtain ⟨ad,cap,e1⟩:∃ (ad:Addr) (cap:Nat),_=Value.slice (some ad) 0 cap:=by
           rcases hD.nI with ⟨b,off,cap,_,e1,_⟩ | ⟨_,ad,_,e1,_⟩
           · exact ⟨_,_,e1⟩
           · exact ⟨_,_,e1⟩
          exact Snd.quiet cx.inv (hex _ _ (run0 _ _ e1)) (.tup _ _ rfl (by simp)) nid
       · rename_i b z' k len cap ex
         split at hs
         · rename_i hzz
           subst hzz
           obtain ⟨cc,e1,hA,hmz,_⟩:=hD.lY
           split at hs
           · rename_i h0
             subst h0
             cases hs
             exact Snd.quiet cx.inv (hex _ _ (run0 _ _ e1)) (.tup _ _ rfl (by simp)) nid
           · rename_i h0
             have hr:=run1 _ _ _ h0 e1
             have q4:=yA z1 z3 z4 len
             unfold acg at hs
             split at hs
             · rename_i zb es mu hb'
               split at hs
               · rename_i hcc
                 obtain ⟨rfl,rfl,hfit⟩:=hcc
                 cases hs
                 have hl:(List.replicate len z).length=len:=by simp
                 have hkl:k+(List.replicate len z).length≤es.length:=by rw [hl];omega
                 have key:=Snd.overwrite (P:=P) (x:=execOp a.eval o) (k:=k) cx.inv hb' hkl q4 (cv:=.tuple #[]) (v:=.tup []) (fun c' t' hc hsz'=>?_) (fun _=>.tup _ _ rfl (by simp)) nid
                 · rw [hl] at key
                   exact key
                 · have hmul:=Nat.mul_le_mul_right z.length hkl
                   rw [Nat.add_mul,← q4.size] at hmul
                   have hst:=run_storeCells_at P (m b).1 (k * z.length) t' (Builtin.zeroCells zv.cells len).toList 0 c' w hc (by simp;omega) q4.one
                   simp only [Nat.add_zero] at hst
                   rw [hst] at hr
                   exact hex _ _ hr
               · cases hs
             · cases hs
         · cases hs
   · cases hc
 · cases hc
end
end Go.Pav
end
section
set_option linter.unusedSimpArgs false
set_option linter.unusedVariables false
set_option linter.unusedSimpArgs false
namespace Go.Pav
open Go
section
variable {P:Program} {φ:FuncId→Option Nat} {ψ:Nat→FuncId} {N:Nat} {w0 w:World} {S:Nat→Prop} {m:Nat→Nat × Nat} {A:Nat→Prop} {h:Heap} {e:Env} {a:Act} {o:Oper}
theorem Gw {x y:AV} {b:Bool} (hb:iE x y=some b) {cx cy:Value} (hx:VR ψ w S m A x cx) (hy:VR ψ w S m A y cy) {kd:Nat} {t:TypeId} (ht:mF P t=some kd) (hk:kL kd x=true) :
 ∃ d,P.underlying t=some d∧Instr.sameNow d cx cy=some b:=by
 have hkk:=jB ht
 unfold iE at hb
 split at hb
 · split at hb
   · rename_i hk'
     subst hk'
     cases hb
     have h0:kd=0:=by simpa [kL] using hk
     subst h0
     rcases hkk with ⟨k',hk',_⟩ | ⟨_,h⟩ | ⟨_,h⟩
     · cases hx.dI;cases hy.dI
       exact ⟨_,hk',by simp [Instr.sameNow]⟩
     · cases h
     · cases h
   · cases hb
 · cases hb
   have h0:kd=1:=by simpa [kL] using hk
   subst h0
   rcases hkk with ⟨k',_,h⟩ | ⟨hk',_⟩ | ⟨_,h⟩
   · cases h
   · cases hx.jh;cases hy.jh
     refine ⟨_,hk',?_⟩
     simp only [Instr.sameNow]
     rw [beq_toListBytes,kU,kU]
   · cases h
 · cases hb
   have h0:kd=2:=by simpa [kL] using hk
   subst h0
   rcases hkk with ⟨k',_,h⟩ | ⟨_,h⟩ | ⟨hk',_⟩
   · cases h
   · cases h
   · cases hx.iq;cases hy.iq
     exact ⟨_,hk',by simp [Instr.sameNow]⟩
 · cases hb
def pU (ψ:Nat→FuncId) (w:World) (S:Nat→Prop) (m:Nat→Nat × Nat) (A:Nat→Prop):List (AV × AV)→List MapEntry→Prop
 | [],[]=>True
 | (k,v)::r,x::s=>k.cell=true∧VR ψ w S m A k x.key∧VR ψ w S m A v x.val∧pU ψ w S m A r s
 | _,_=>False
theorem pU.of:∀ (es:List (AV × AV)) (xs:List MapEntry),xs.length=es.length→(∀ (i:Nat) (k v:AV),es[i]?=some (k,v)→k.cell=true∧∃ x,xs[i]?=some x∧VR ψ w S m A k x.key∧VR ψ w S m A v x.val)→pU ψ w S m A es xs
 | [],[],_,_=>trivial
 | [],_::_,h,_=>by simp at h
 | _::_,[],h,_=>by simp at h
 | (k,v)::r,x::s,h1,h2=>by
  obtain ⟨q1,x',q2,q3,q4⟩:=h2 0 k v (by simp)
  simp at q2
  subst q2
  refine ⟨q1,q3,q4,pU.of r s (by simpa using h1) fun i k v hi=>?_⟩
  obtain ⟨r1,x',r2,r3⟩:=h2 (i+1) k v (by simpa using hi)
  exact ⟨r1,x',by simpa using r2,r3⟩
theorem pU.to:∀ (es:List (AV × AV)) (xs:List MapEntry),pU ψ w S m A es xs→xs.length=es.length∧∀ (i:Nat) (k v:AV),es[i]?=some (k,v)→k.cell=true∧∃ x,xs[i]?=some x∧VR ψ w S m A k x.key∧VR ψ w S m A v x.val
 | [],[],_=>⟨rfl,fun i k v hi=>by simp at hi⟩
 | [],_::_,h=>h.elim
 | _::_,[],h=>h.elim
 | (k,v)::r,x::s,h=>by
  obtain ⟨h1,h2,h3,h4⟩:=h
  obtain ⟨q1,q2⟩:=pU.to r s h4
  refine ⟨by simp [q1],fun i k' v' hi=>?_⟩
  cases i with
  | zero =>
   simp at hi
   obtain ⟨rfl,rfl⟩:=hi
   exact ⟨h1,x,by simp,h2,h3⟩
  | succ i =>
   obtain ⟨r1,x',r2,r3⟩:=q2 i k' v' (by simpa using hi)
   exact ⟨r1,x',by simpa using r2,r3⟩
theorem Ih {kd:Nat} {t:TypeId} {d:TypeDesc} (ht:mF P t=some kd) (hd:P.underlying t=some d) {x:AV} {cx:Value} (hx:VR ψ w S m A x cx) (hk:kL kd x=true) :
 ∀ (es:List (AV × AV)) (xs:List MapEntry) (k:Nat) (r:Option AV),pU ψ w S m A es xs→lW es x=some r →
  ∃ q,Instr.findNow d cx xs k=some q∧(match r,q with | none,none=>True | some v,some (_,c)=>VR ψ w S m A v c | _,_=>False)
 | [],[],k,r,_,h=>by simp only [lW] at h;cases h;exact ⟨none,rfl,trivial⟩
 | [],_::_,_,_,h,_=>h.elim
 | _::_,[],_,_,h,_=>h.elim
 | (ky,v)::es,y::xs,k,r,h1,h2=>by
  obtain ⟨_,c2,c3,c4⟩:=h1
  simp only [lW] at h2
  obtain ⟨b,hb,h2⟩:=ak h2
  obtain ⟨d',hd',hs⟩:=Gw (P:=P) hb hx c2 ht hk
  rw [hd] at hd'
  cases hd'
  cases b with
  | true =>
   simp only [if_true,Option.some.injEq] at h2
   subst h2
   exact ⟨some (k,y.val),by simp only [Instr.findNow,hs],c3⟩
  | false =>
   simp only [Bool.false_eq_true,if_false] at h2
   obtain ⟨q,q1,q2⟩:=Ih ht hd hx hk es xs (k+1) r c4 h2
   exact ⟨q,by simp only [Instr.findNow,hs];exact q1,q2⟩
theorem nY {kd:Nat} {t:TypeId} (ht:mF P t=some kd) (emp:Bool) (v:Value) (n:Nat):(Instr.checkKey emp (n+1) t v).run P w=.ok () w:=by
 rcases jB ht with ⟨k',hk',_⟩ | ⟨hk',_⟩ | ⟨hk',_⟩ <;> simp [Instr.checkKey,run_underlying hk']
theorem look_ok (cx:Cx P φ ψ N w0 w S m A h e a) {t:TypeId} {M K:Operand} {ok:Bool} (ho:o.op=.lookup t M K ok):Ok P φ ψ N w0 w S m A h e a o:=by
 intro cop v u nid hc hs hn
 rw [ho] at hc
 simp only [cOp,Option.bind_eq_bind,Option.bind_eq_some_iff] at hc
 obtain ⟨mm,hm,k,hk,d,hd,hc⟩:=hc
 have hM:=cx.opd hm
 have hK:=cx.opd hk
 split at hc
 · rename_i kt et
   simp only [Option.bind_eq_some_iff,Option.some.injEq] at hc
   obtain ⟨it,hit,zc,hzc,z,hz,kd,hkd,rfl⟩:=hc
   have hZ:VR ψ w S m A z zc:=VL hz
   obtain ⟨dk,hdk⟩:∃ dk,P.underlying kt=some dk:=by
    rcases jB hkd with ⟨k',hk',_⟩ | ⟨hk',_⟩ | ⟨hk',_⟩ <;> exact ⟨_,hk'⟩
   have hex:execOp a.eval o=(do pure (.value (← Instr.lookup t (a.eval M) (a.eval K) ok))):=by simp [execOp,ho]
   have fin:∀ (r:Option AV) (es:Array MapEntry),((a.eval M=.map none∧es=#[])∨∃ g clock,a.eval M=.map (some g)∧w.heap[g]?=some (.map es clock)) →
    (∃ q,Instr.findNow dk (a.eval K) es.toList 0=some q∧(match r,q with | none,none=>True | some v,some (_,c)=>VR ψ w S m A v c | _,_=>False)) →
    ∃ cv,(Instr.lookup t (a.eval M) (a.eval K) ok).run P w=.ok cv w∧VR ψ w S m A (found z ok r) cv:=by
    intro r es hes hq
    obtain ⟨q,q1,q2⟩:=hq
    have hfk:(Instr.findKey kt (a.eval K) es.toList).run P w=.ok q w:=by
     unfold Instr.findKey
     rw [Sem.run_bind,run_underlying hdk]
     simp only [Result.andThen_ok,q1,Sem.run_pure]
    have hrun:∀ (f:Option (Nat × Value)→Sem Value),f=(fun r=>do
     let (v,ok') ← match r with
      | some (_,v)=>pure (v,true)
      | none=>pure (← zeroValue et,false)
     pure (if ok then .tuple #[v,.bool ok'] else v))→(Instr.lookup t (a.eval M) (a.eval K) ok).run P w=(f q).run P w:=by
     intro f hf
     subst hf
     unfold Instr.lookup
     simp only [Sem.run_bind,run_underlying hd,Result.andThen_ok]
     rcases hes with ⟨e1,e2⟩ | ⟨g,clock,e1,e2⟩
     · subst e2
       rw [e1]
       simp only [Sem.run_pure,Result.andThen_ok,nY hkd,Sem.run_bind,hfk]
       cases q <;> rfl
     · rw [e1]
       simp only [Sem.run_bind,run_getObj_map w _ _ _ e2,Sem.run_pure,Result.andThen_ok,nY hkd,hfk]
       cases q <;> rfl
    rw [hrun _ rfl]
    simp only [Sem.run_bind]
    cases r with
    | none =>
     cases q with
     | some q=>exact q2.elim
     | none =>
      simp only [Sem.run_bind,zeroValue,typeInfo,run_program,Result.andThen_ok,hit,hzc,Sem.run_pure]
      cases ok
      · exact ⟨zc,rfl,hZ⟩
      · refine ⟨.tuple #[zc,.bool false],rfl,.tup _ _ rfl fun j y hj=>?_⟩
        cases j with
        | zero=>simp at hj;subst hj;exact hZ
        | succ j=>cases j with
         | zero=>simp at hj;subst hj;exact .bool _
         | succ j=>simp at hj
    | some rv =>
     cases q with
     | none=>exact q2.elim
     | some q =>
      obtain ⟨qi,qv⟩:=q
      simp only [Sem.run_pure,Result.andThen_ok]
      cases ok
      · exact ⟨qv,rfl,q2⟩
      · refine ⟨.tuple #[qv,.bool true],rfl,.tup _ _ rfl fun j y hj=>?_⟩
        cases j with
        | zero=>simp at hj;subst hj;exact q2
        | succ j=>cases j with
         | zero=>simp at hj;subst hj;exact .bool _
         | succ j=>simp at hj
   simp only [aH,IJ] at hs
   split at hs
   · rename_i hko
     split at hs
     · rename_i em
       cases hs
       rw [em] at hM
       have e1:=hM.rP
       obtain ⟨cv,q1,q2⟩:=fin none #[] (.inl ⟨e1,rfl⟩) ⟨none,rfl,trivial⟩
       exact Snd.val cx.inv hex q1 q2 nid
     · rename_i b em
       obtain ⟨h1,rfl⟩:=dS hs
       unfold lookIn at h1
       split at h1
       · rename_i es hg
         obtain ⟨r,hr,rfl⟩:=aC h1
         rw [em] at hM
         obtain ⟨hA,e1⟩:=hM.yO
         obtain ⟨es',clock,q1,q2,q3⟩:=cx.inv.obj b _ hg
         have hent:pU ψ w S m A es es'.toList:=pU.of es es'.toList (by simpa using q2) (fun i k v hi=>by
          obtain ⟨c1,x,c2,c3⟩:=q3 i k v hi
          exact ⟨c1,x,by simpa using c2,c3⟩)
         obtain ⟨cv,q4,q5⟩:=fin r es' (.inr ⟨_,clock,e1,q1⟩) (Ih hkd hdk hK hko es es'.toList 0 r hent hr)
         exact Snd.val cx.inv hex q4 q5 nid
       · cases h1
     · cases hs
   · cases hs
 · cases hc
theorem ae4 (cx:Cx P φ ψ N w0 w S m A h e a) {X:Operand} (ho:o.op=.next X true):Ok P φ ψ N w0 w S m A h e a o:=by
 intro cop v u nid hc hs hn
 rw [ho] at hc
 simp only [cOp,Option.map_eq_some_iff] at hc
 obtain ⟨x,hx,rfl⟩:=hc
 have hX:=cx.opd hx
 simp only [aH,QB] at hs
 split at hs
 · rename_i b ex
   rw [ex] at hX
   obtain ⟨hA,e1⟩:=hX.kQ
   simp only [Nat.zero_mul,Nat.add_zero] at e1
   unfold nextIter at hs
   split at hs
   · rename_i s pos hg
     have hobj:w.heap[(m b).1]?=some (.stringIter ⟨⟨s⟩⟩ pos):=cx.inv.obj b _ hg
     have hget:(getObj (m b).1).run P w=.ok (.stringIter ⟨⟨s⟩⟩ pos) w:=by simp [getObj,Sem.run,hobj]
     have hsz:(⟨⟨s⟩⟩:ByteArray).size=s.length:=rfl
     split at hs
     · rename_i hpos
       cases hs
       have hset:∀ o',(setObj (m b).1 o').run P w=.ok () { w with heap:=w.heap.setIfInBounds (m b).1 o' }:=by intro o';simp [setObj,Sem.run,hobj]
       have hlt:(m b).1 < w.heap.size:=(Array.getElem?_eq_some_iff.1 hobj).1
       have hoth:∀ o' c,c≠(m b).1→(w.heap.setIfInBounds (m b).1 o')[c]?=w.heap[c]?:=fun o' c hc=>by rw [Array.getElem?_setIfInBounds_ne (Ne.symm hc)]
       refine ⟨.tuple #[.bool true,goInt pos,.int .i32 (Utf8.decode ⟨⟨s⟩⟩ pos).1],_,S,m,A,.inl ?_,?_,cx.inv.write hg rfl rfl (w':={ w with heap:=w.heap.setIfInBounds (m b).1 (.stringIter ⟨⟨s⟩⟩ (pos+(Utf8.decode ⟨⟨s⟩⟩ pos).2)) }) (hoth _) (by simp) rfl rfl ?_ ?_,
        Le.write (cx.inv.live b _ hg rfl).1 (hoth _) (by simp) ?_,fun _ _ hs=>hs,fun _ q=>.inl q⟩
       · simp only [execOp,ho,Sem.run_bind]
         rw [e1]
         simp only [Instr.next,Sem.run_bind,hget,Result.andThen_ok,hsz]
         rw [if_pos hpos]
         simp only [Sem.run_bind,hset,Result.andThen_ok,Sem.run_pure]
       · refine .tup _ #[.bool true,goInt pos,.int .i32 (Utf8.decode ⟨⟨s⟩⟩ pos).1] rfl fun j y hj=>?_
         match j,hj with
         | 0,hj=>simp at hj;subst hj;exact .bool _
         | 1,hj=>simp at hj;subst hj;exact .int _ _
         | 2,hj=>simp at hj;subst hj;exact .int _ _
         | j+3,hj=>simp at hj
       · intro c t fr hc;rw [hobj] at hc;cases hc
       · show (w.heap.setIfInBounds (m b).1 _)[(m b).1]?=_
         simp [hlt]
       · intro c t fr hc;rw [hobj] at hc;cases hc
     · rename_i hpos
       cases hs
       refine Snd.val cx.inv (s:=Instr.next (a.eval X) true o.type) (cv:=.tuple #[.bool false]) (by simp [execOp,ho]) ?_ (.tup _ _ rfl fun j y hj=>?_) nid
       · rw [e1]
         simp only [Instr.next,Sem.run_bind,hget,Result.andThen_ok,hsz]
         rw [if_neg hpos]
         rfl
       · cases j with
         | zero=>simp at hj;subst hj;exact .bool _
         | succ j=>simp at hj
   · cases hs
 · cases hs
theorem TW {x y:AV} (hb:iE x y=some true) {cx cy:Value} (hx:VR ψ w S m A x cx) (hy:VR ψ w S m A y cy) (n:Nat):Instr.sameBits n cy cx=true:=by
 unfold iE at hb
 split at hb
 · split at hb
   · rename_i hk
     subst hk
     cases hx.dI;cases hy.dI
     simp only [Option.some.injEq,beq_iff_eq] at hb
     subst hb
     simp [Instr.sameBits]
   · cases hb
 · cases hx.jh;cases hy.jh
   simp only [Option.some.injEq,beq_iff_eq] at hb
   subst hb
   simp only [Instr.sameBits]
   rw [beq_toListBytes]
   simp
 · cases hx.iq;cases hy.iq
   simp only [Option.some.injEq,beq_iff_eq] at hb
   subst hb
   simp [Instr.sameBits]
 · cases hb
theorem Ho {kd:Nat} {x:AV} (hk:kL kd x=true):x.cell=true:=by
 cases x <;> simp [kL] at hk <;> rfl
theorem FP {kd:Nat} {t:TypeId} {d:TypeDesc} (ht:mF P t=some kd) (hd:P.underlying t=some d) {x:AV} {cx:Value} (hx:VR ψ w S m A x cx) (hk:kL kd x=true) {v:AV} {cv:Value} (hv:VR ψ w S m A v cv) :
 ∀ (es es':List (AV × AV)) (xs:List MapEntry) (k:Nat),pU ψ w S m A es xs→jX es x v=some es' →
  (∃ i old c,Instr.findNow d cx xs k=some (some (k+i,c))∧xs[i]?=some old∧Instr.sameBits 10000 old.key cx=true∧pU ψ w S m A es' (xs.modify i fun e=>{ e with key:=cx,val:=cv })) ∨
  (Instr.findNow d cx xs k=some none∧∀ born,pU ψ w S m A es' (xs++[{ key:=cx,val:=cv,born:=born }]))
 | [],es',[],k,_,h=>by
  simp only [jX] at h
  cases h
  exact .inr ⟨rfl,fun born=>⟨Ho hk,hx,hv,trivial⟩⟩
 | [],_,_::_,_,h,_=>h.elim
 | _::_,_,[],_,h,_=>h.elim
 | (ky,vy)::es,es',y::xs,k,h1,h2=>by
  obtain ⟨c1,c2,c3,c4⟩:=h1
  simp only [jX] at h2
  obtain ⟨b,hb,h2⟩:=ak h2
  obtain ⟨d',hd',hs⟩:=Gw (P:=P) hb hx c2 ht hk
  rw [hd] at hd'
  cases hd'
  cases b with
  | true =>
   simp only [if_true,Option.some.injEq] at h2
   subst h2
   left
   refine ⟨0,y,y.val,by simp only [Instr.findNow,hs,Nat.add_zero],by simp,TW hb hx c2 10000,?_⟩
   simp only [List.modify_zero_cons]
   exact ⟨Ho hk,hx,hv,c4⟩
  | false =>
   simp only [Bool.false_eq_true,if_false] at h2
   obtain ⟨es1,q1,rfl⟩:=aC h2
   rcases FP ht hd hx hk hv es es1 xs (k+1) c4 q1 with ⟨i,old,c,r1,r2,r3,r4⟩ | ⟨r1,r2⟩
   · left
     refine ⟨i+1,old,c,?_,by simpa using r2,r3,?_⟩
     · simp only [Instr.findNow,hs]
       rw [show k+(i+1)=k+1+i by omega]
       exact r1
     · simp only [List.modify_succ_cons]
       exact ⟨c1,c2,c3,r4⟩
   · right
     exact ⟨by simp only [Instr.findNow,hs];exact r1,fun born=>⟨c1,c2,c3,r2 born⟩⟩
theorem pU.mono {w':World} {S':Nat→Prop} {m':Nat→Nat × Nat} {A':Nat→Prop} (le:Le w S m A w' S' m' A'):∀ (es:List (AV × AV)) (xs:List MapEntry),pU ψ w S m A es xs→pU ψ w' S' m' A' es xs
 | [],[],_=>trivial
 | [],_::_,h=>h.elim
 | _::_,[],h=>h.elim
 | (_,_)::r,_::s,h=>⟨h.1,h.2.1.mono le,h.2.2.1.mono le,pU.mono le r s h.2.2.2⟩
theorem aay (cx:Cx P φ ψ N w0 w S m A h e a) {t:TypeId} {M K V:Operand} (ho:o.op=.mapUpdate t M K V∨o.op=.insert t M K V):Ok P φ ψ N w0 w S m A h e a o:=by
 intro cop v u nid hc hs hn
 have hc':cOp P φ (.mapUpdate t M K V)=some cop:=by
  rcases ho with ho | ho <;> rw [ho] at hc
  · exact hc
  · simpa only [cOp] using hc
 simp only [cOp,Option.bind_eq_bind,Option.bind_eq_some_iff] at hc'
 obtain ⟨mm,hm,k,hk,vv,hvv,d,hd,hc'⟩:=hc'
 have hM:=cx.opd hm
 have hK:=cx.opd hk
 have hV:=cx.opd hvv
 split at hc'
 · rename_i kt et
   simp only [Option.bind_eq_some_iff,Option.some.injEq] at hc'
   obtain ⟨kd,hkd,rfl⟩:=hc'
   obtain ⟨dk,hdk⟩:∃ dk,P.underlying kt=some dk:=by
    rcases jB hkd with ⟨k',hk',_⟩ | ⟨hk',_⟩ | ⟨hk',_⟩ <;> exact ⟨_,hk'⟩
   have hex:∀ w',(Instr.mapUpdate t (a.eval M) (a.eval K) (a.eval V)).run P w=.ok () w'→(execOp a.eval o).run P w=.ok .skip w':=by
    intro w' hr
    rcases ho with ho | ho <;> simp [execOp,ho,hr]
   simp only [aH,aeT] at hs
   split at hs
   · rename_i hko
     split at hs
     · rename_i b em
       unfold acw at hs
       split at hs
       · rename_i es hg
         obtain ⟨es1,hp,hs'⟩:=aC hs
         cases hs'
         rw [em] at hM
         obtain ⟨hA,e1⟩:=hM.yO
         obtain ⟨es',clock,q1,q2,q3⟩:=cx.inv.obj b _ hg
         have hlt:(m b).1 < w.heap.size:=(Array.getElem?_eq_some_iff.1 q1).1
         have hent:pU ψ w S m A es es'.toList:=pU.of es es'.toList (by simpa using q2) (fun i k v hi=>by
          obtain ⟨c1,x,c2,c3⟩:=q3 i k v hi
          exact ⟨c1,x,by simpa using c2,c3⟩)
         have hoth:∀ o' c,c≠(m b).1→(w.heap.setIfInBounds (m b).1 o')[c]?=w.heap[c]?:=fun o' c hc=>by rw [Array.getElem?_setIfInBounds_ne (Ne.symm hc)]
         have fin:∀ (xs:Array MapEntry) (ck:Nat),(Instr.mapUpdate t (a.eval M) (a.eval K) (a.eval V)).run P w=.ok () { w with heap:=w.heap.setIfInBounds (m b).1 (.map xs ck) }→pU ψ w S m A es1 xs.toList →
          Snd P ψ N w0 w S m A (execOp a.eval o) (aN h [(b,some (.map es1))]) (.tup []) nid:=by
          intro xs ck hr he
          have le:Le w S m A { w with heap:=w.heap.setIfInBounds (m b).1 (.map xs ck) } S m A:=Le.write (cx.inv.live b _ hg rfl).1 (hoth _) (by simp) (fun c t fr hc=>by rw [q1] at hc;cases hc)
          refine ⟨Go.undef,_,S,m,A,.inr ⟨hex _ hr,rfl⟩,.tup [] #[] rfl (by simp),cx.inv.write hg rfl rfl (hoth _) (by simp) rfl rfl (fun c t fr hc=>by rw [q1] at hc;cases hc) ?_,le,fun _ _ hs=>hs,fun _ q=>.inl q⟩
          obtain ⟨l1,l2⟩:=pU.to es1 xs.toList (pU.mono le es1 xs.toList he)
          refine ⟨xs,ck,?_,by simpa using l1,fun i k v hi=>?_⟩
          · show (w.heap.setIfInBounds (m b).1 _)[(m b).1]?=_
            simp [hlt]
          · obtain ⟨c1,x,c2,c3⟩:=l2 i k v hi
            exact ⟨c1,x,by simpa using c2,c3⟩
         have hset:∀ o',(setObj (m b).1 o').run P w=.ok () { w with heap:=w.heap.setIfInBounds (m b).1 o' }:=by intro o';simp [setObj,Sem.run,q1]
         rcases FP (P:=P) hkd hdk hK hko hV es es1 es'.toList 0 hent hp with ⟨i,old,c,r1,r2,r3,r4⟩ | ⟨r1,r2⟩
         · refine fin (es'.modify i fun e=>{ e with key:=a.eval K,val:=a.eval V }) clock ?_ (by rw [Array.toList_modify];exact r4)
           have hfk:(Instr.findKey kt (a.eval K) es'.toList).run P w=.ok (some (i,c)) w:=by
            unfold Instr.findKey
            rw [Sem.run_bind,run_underlying hdk]
            simp only [Result.andThen_ok,r1,Sem.run_pure,Nat.zero_add]
           have ho':es'[i]?=some old:=by simpa using r2
           unfold Instr.mapUpdate
           rw [e1]
           simp only [Sem.run_bind,run_underlying hd,Result.andThen_ok,run_getObj_map w _ _ _ q1,nY hkd,hfk,ho',Option.map_some,Option.getD_some,Instr.keyThatStays,r3,if_true,Sem.run_pure,hset]
         · refine fin (es'.push { key:=a.eval K,val:=a.eval V,born:=clock }) (clock+1) ?_ (by rw [Array.toList_push];exact r2 clock)
           have hfk:(Instr.findKey kt (a.eval K) es'.toList).run P w=.ok none w:=by
            unfold Instr.findKey
            rw [Sem.run_bind,run_underlying hdk]
            simp only [Result.andThen_ok,r1,Sem.run_pure]
           unfold Instr.mapUpdate
           rw [e1]
           simp only [Sem.run_bind,run_underlying hd,Result.andThen_ok,run_getObj_map w _ _ _ q1,nY hkd,hfk,hset]
       · cases hs
     · cases hs
   · cases hs
 · cases hc'
theorem step_ok (cx:Cx P φ ψ N w0 w S m A h e a) {cop:COp} {v:AV} {u:Upd} {nid:Nat} (hc:cOp P φ o.op=some cop) (hs:aH cop e h nid=some (v,u)) (hn:¬ A nid) :
 Snd P ψ N w0 w S m A (execOp a.eval o) (aN h u) v nid:=by
 cases ho:o.op with
 | move x=>exact ahb cx (.inl ho) cop v u nid hc hs hn
 | assign x=>exact ahb cx (.inr ho) cop v u nid hc hs hn
 | pick c x y=>exact agI cx ho cop v u nid hc hs hn
 | alloc t=>exact ZE cx ho cop v u nid hc hs hn
 | box t x=>exact ai4 cx ho cop v u nid hc hs hn
 | build t ps=>rw [ho] at hc;exact Yc cx ho hc hs
 | buildSlice t len ps=>rw [ho] at hc;exact SB cx ho hc hn hs
 | load t x=>exact agP cx ho cop v u nid hc hs hn
 | store t p x=>exact Zi cx ho cop v u nid hc hs hn
 | nilCheck x=>exact XW cx ho cop v u nid hc hs hn
 | binOp op t X Y t'=>exact aiO cx ho cop v u nid hc hs hn
 | unOp op t X=>exact ame cx ho cop v u nid hc hs hn
 | convert t t' X=>exact aja cx ho cop v u nid hc hs hn
 | makeFunc fn f cs=>exact afn cx ho cop v u nid hc hs hn
 | makeMap t r=>exact Zx cx ho cop v u nid hc hs hn
 | makeSlice t l c=>exact ae3 cx ho cop v u nid hc hs hn
 | slice t x lo hi mx=>exact abn cx ho cop v u nid hc hs hn
 | fieldAddr t x f=>exact ahN cx ho cop v u nid hc hs hn
 | field t x f=>exact afd cx ho cop v u nid hc hs hn
 | indexAddr t x i=>exact agG cx ho cop v u nid hc hs hn
 | index t x i=>exact zX cx ho cop v u nid hc hs hn
 | lookup t M K ok=>exact look_ok cx ho cop v u nid hc hs hn
 | mapUpdate t M K V=>exact aay cx (.inl ho) cop v u nid hc hs hn
 | insert t M K V=>exact aay cx (.inr ho) cop v u nid hc hs hn
 | range t X=>exact abT cx ho cop v u nid hc hs hn
 | next X b =>
  cases b with
  | true=>exact ae4 cx ho cop v u nid hc hs hn
  | false=>rw [ho] at hc;simp only [cOp] at hc;cases hc
 | extract X k=>exact ahW cx ho cop v u nid hc hs hn
 | call c =>
  cases hcal:c.callee with
  | builtin b =>
   cases b with
   | len=>exact aj8 cx ho hcal cop v u nid hc hs hn
   | cap=>exact aiz cx ho hcal cop v u nid hc hs hn
   | append=>exact ai6 cx ho hcal cop v u nid hc hs hn
   | copy=>exact ajK cx ho hcal cop v u nid hc hs hn
   | clear=>exact ajG cx ho hcal cop v u nid hc hs hn
   | max=>exact ahj cx ho (mxx:=true) hcal cop v u nid hc hs hn
   | min=>exact ahj cx ho (mxx:=false) hcal cop v u nid hc hs hn
   | _=>rw [ho] at hc;simp only [cOp,hcal,jQ] at hc;cases hc
  | value f =>
   rw [ho] at hc
   cases f with
   | func f =>
    simp only [cOp,hcal,Option.bind_eq_bind,Option.bind_eq_some_iff,Option.some.injEq] at hc
    obtain ⟨_,_,_,_,rfl⟩:=hc
    simp only [aH,zV] at hs
    cases hs
   | _ =>
    simp only [cOp,hcal,Option.bind_eq_bind,Option.bind_eq_some_iff,Option.some.injEq] at hc
    obtain ⟨_,_,_,_,rfl⟩:=hc
    simp only [aH,zV] at hs
    cases hs
  | invoke r n=>rw [ho] at hc;simp only [cOp,hcal] at hc;cases hc
 | _=>rw [ho] at hc;simp only [cOp] at hc;cases hc
end
end Go.Pav
end
section
set_option linter.unusedSimpArgs false
set_option linter.unusedVariables false
namespace Go.Pav
open Go
theorem iw {α β:Type} {f:α→Option β}:∀ {l:List α} {r:List β},bg f l=some r→∀ (i:Nat) (b:β),r[i]?=some b→∃ a,l[i]?=some a∧f a=some b:=by
 intro l r h i b hb
 obtain ⟨hl,hi⟩:=bY h
 have hlt:i < l.length:=by rw [← hl];exact (List.getElem?_eq_some_iff.1 hb).1
 obtain ⟨b',h1,h2⟩:=hi i l[i] (List.getElem?_eq_getElem hlt)
 rw [hb] at h1
 cases h1
 exact ⟨l[i],List.getElem?_eq_getElem hlt,h2⟩
section
variable {ψ:Nat→FuncId} {w:World} {S S':Nat→Prop} {m:Nat→Nat × Nat} {A:Nat→Prop} {h:Heap}
theorem F8 {n:Nat} {v v':AV} (hf:frz h n v=some v'):v'.cell=v.cell:=by
 cases n with
 | zero=>simp [frz] at hf
 | succ n =>
  cases v <;> simp only [frz] at hf
  case ptr b i o =>
   split at hf
   · obtain ⟨cs,_,hf⟩:=ak hf
     obtain ⟨cs',_,rfl⟩:=aC hf
     rfl
   · cases hf
  case sl b z i len cap ex =>
   split at hf
   · obtain ⟨es',_,hf⟩:=ak hf
     obtain ⟨_,hf⟩:=xK hf
     cases hf;rfl
   · cases hf
  case fn f caps=>obtain ⟨cs,_,rfl⟩:=aC hf;rfl
  case agg cs=>obtain ⟨cs,_,rfl⟩:=aC hf;rfl
  case tup cs=>obtain ⟨cs,_,rfl⟩:=aC hf;rfl
  all_goals (cases hf;try rfl)
theorem IE {α:Type} {l:List α} {i len k:Nat} {a:α} (hk:((l.drop i).take len)[k]?=some a):k < len∧l[i+k]?=some a:=by
 rw [List.getElem?_take] at hk
 split at hk
 · rename_i hlt
   rw [List.getElem?_drop] at hk
   exact ⟨hlt,hk⟩
 · cases hk
theorem uT (hob:∀ b o,get h b=some o→OR ψ w S m A (m b) o) (hS:∀ b,S b→S' b):∀ (n:Nat) (v v':AV) (c:Value),frz h n v=some v'→VR ψ w S m A v c →
 (∀ b ∈ reach h n v,S' (m b).1)→VR ψ w S' m (fun _=>False) v' c:=by
 intro n
 induction n with
 | zero=>intro v v' c hf;simp [frz] at hf
 | succ n ih =>
  intro v v' c hf hv hr
  cases hv with
  | undef=>simp [frz] at hf
  | bool b=>simp only [frz] at hf;cases hf;exact .bool b
  | int k x=>simp only [frz] at hf;cases hf;exact .int k x
  | str s=>simp only [frz] at hf;cases hf;exact .str s
  | dV=>simp only [frz] at hf;cases hf;exact .dV
  | aZ=>simp only [frz] at hf;cases hf;exact .aZ
  | dN=>simp only [frz] at hf;cases hf;exact .dN
  | bK=>simp only [frz] at hf;cases hf;exact .bK
  | roe z ex a k hk=>simp only [frz] at hf;cases hf;exact .roe z ex a k hk
  | ro z es ex b off cap cs h1 h2 h3 h4 h5 h6 =>
   simp only [frz] at hf;cases hf
   exact (VR.ro (A:=fun _=>False) z es ex b off cap cs h1 h2 h3 h4 h5 h6).mono' (fun _ _=>rfl) (fun _ c _ _ h=>⟨c,h,rfl⟩) hS (fun _ h=>h) (fun _ h=>h.elim)
  | rop cs b off vs h1 h2 h3 =>
   simp only [frz] at hf;cases hf
   exact (VR.rop (A:=fun _=>False) cs b off vs h1 h2 h3).mono' (fun _ _=>rfl) (fun _ c _ _ h=>⟨c,h,rfl⟩) hS (fun _ h=>h) (fun _ h=>h.elim)
  | ptr b i o hA =>
   simp only [frz] at hf
   split at hf
   · rename_i zb es mu hg
     obtain ⟨cs,hcs,hf⟩:=ak hf
     obtain ⟨cs',hcs',rfl⟩:=aC hf
     obtain ⟨q1,q2,cur,t,q3,q4,q5⟩:=hob b _ hg
     have elem:∀ (j:Nat) (x':AV),cs'[j]?=some x'→∃ x,cs[o+j]?=some x∧x ∈ cs.drop o∧frz h n x=some x':=by
      intro j x' hj
      obtain ⟨x,r1,r2⟩:=iw hcs' j x' hj
      exact ⟨x,by rw [List.getElem?_drop] at r1;exact r1,List.mem_of_getElem? r1,r2⟩
     refine VR.rop cs' (m b).1 (i * (m b).2+o) (fun j=>cur.getD (i * zb+(o+j)) Go.undef) (hr b (by simp [reach])) ?_ ?_
     · intro j x' hj
       obtain ⟨x,r1,r2,r3⟩:=elem j x' hj
       obtain ⟨t1,u,t2,t3⟩:=q5 _ cs _ x hcs r1
       refine ⟨by rw [F8 r3];exact t1,?_⟩
       have e1:i * (m b).2+o+j=i * zb+(o+j):=by rw [← q1,Nat.add_assoc]
       simp only [World.cell?,q3,e1,Option.isSome_none,Bool.false_eq_true,if_false]
       rw [t2,Array.getD_eq_getD_getElem?,t2];rfl
     · intro j x' hj
       obtain ⟨x,r1,r2,r3⟩:=elem j x' hj
       obtain ⟨t1,u,t2,t3⟩:=q5 _ cs _ x hcs r1
       rw [Array.getD_eq_getD_getElem?,t2]
       refine ih x x' u r3 t3 fun b' hb'=>hr b' ?_
       simp only [reach,hg,hcs,Option.getD_some,List.mem_cons,List.mem_flatMap]
       exact .inr ⟨x,r2,hb'⟩
   · cases hf
  | map b hA=>simp [frz] at hf
  | sl b z i len cap ex cc hA hz hl hc hx hrow =>
   simp only [frz] at hf
   split at hf
   · rename_i zb es mu hg
     obtain ⟨es',hes,hf⟩:=ak hf
     obtain ⟨hlen,hf⟩:=xK hf
     simp only [decide_eq_true_eq] at hlen
     cases hf
     obtain ⟨q1,q2,cur,t,q3,q4,q5⟩:=hob b _ hg
     have hzb:zb=z:=q1.symm.trans hz
     subst hzb
     have elem:∀ (k:Nat) (e':List AV),es'[k]?=some e'→∃ e,es[i+k]?=some e∧((es.drop i).take len)[k]?=some e∧bg (frz h n) e=some e':=by
      intro k e' hk
      obtain ⟨e,r1,r2⟩:=iw hes k e' hk
      exact ⟨e,(IE r1).2,r1,r2⟩
     have hro:=VR.ro (ψ:=ψ) (w:=w) (S:=S') (m:=m) (A:=fun _=>False) zb es' (ex&&decide (cap=len)) (m b).1 (i * zb) cc (fun k j=>cur.getD ((i+k) * zb+j) Go.undef)
      (hr b (by simp [reach])) ?_ (by rw [hlen];exact hl) ?_ ?_ ?_
     · rw [hlen] at hro;exact hro
     · intro k e' hk
       obtain ⟨e,r1,r2,r3⟩:=elem k e' hk
       rw [(bY r3).1]
       exact q2 _ _ r1
     · intro hx'
       simp only [Bool.and_eq_true,decide_eq_true_eq] at hx'
       rw [hx hx'.1,hx'.2,hlen]
     · intro k e' j x' hk hj
       obtain ⟨e,r1,r2,r3⟩:=elem k e' hk
       obtain ⟨x,s1,s2⟩:=iw r3 j x' hj
       obtain ⟨t1,u,t2,t3⟩:=q5 _ e j x r1 s1
       refine ⟨by rw [F8 s2];exact t1,?_⟩
       have e1:i * zb+k * zb+j=(i+k) * zb+j:=by rw [Nat.add_mul]
       simp only [World.cell?,q3,e1,Option.isSome_none,Bool.false_eq_true,if_false]
       rw [t2,Array.getD_eq_getD_getElem?,t2];rfl
     · intro k e' j x' hk hj
       obtain ⟨e,r1,r2,r3⟩:=elem k e' hk
       obtain ⟨x,s1,s2⟩:=iw r3 j x' hj
       obtain ⟨t1,u,t2,t3⟩:=q5 _ e j x r1 s1
       rw [Array.getD_eq_getD_getElem?,t2]
       refine ih x x' u s2 t3 fun b' hb'=>hr b' ?_
       simp only [reach,hg,List.mem_cons,List.mem_flatMap]
       exact .inr ⟨e,List.mem_of_getElem? r2,x,List.mem_of_getElem? s1,hb'⟩
   · cases hf
  | fn f caps vs hn hc =>
   simp only [frz] at hf
   obtain ⟨cs,hcs,rfl⟩:=aC hf
   refine .fn f cs vs (by rw [(bY hcs).1];exact hn) fun j x' hj=>?_
   obtain ⟨x,s1,s2⟩:=iw hcs j x' hj
   refine ih x x' _ s2 (hc j x s1) fun b' hb'=>hr b' ?_
   simp only [reach,List.mem_flatMap]
   exact ⟨x,List.mem_of_getElem? s1,hb'⟩
  | agg cs vs hn hcell hc =>
   simp only [frz] at hf
   obtain ⟨cs',hcs,rfl⟩:=aC hf
   refine .agg cs' vs (by rw [(bY hcs).1];exact hn) (fun j x' hj=>?_) fun j x' hj=>?_
   · obtain ⟨x,s1,s2⟩:=iw hcs j x' hj
     rw [F8 s2];exact hcell j x s1
   · obtain ⟨x,s1,s2⟩:=iw hcs j x' hj
     refine ih x x' _ s2 (hc j x s1) fun b' hb'=>hr b' ?_
     simp only [reach,List.mem_flatMap]
     exact ⟨x,List.mem_of_getElem? s1,hb'⟩
  | tup cs vs hn hc =>
   simp only [frz] at hf
   obtain ⟨cs',hcs,rfl⟩:=aC hf
   refine .tup cs' vs (by rw [(bY hcs).1];exact hn) fun j x' hj=>?_
   obtain ⟨x,s1,s2⟩:=iw hcs j x' hj
   refine ih x x' _ s2 (hc j x s1) fun b' hb'=>hr b' ?_
   simp only [reach,List.mem_flatMap]
   exact ⟨x,List.mem_of_getElem? s1,hb'⟩
theorem kG:∀ (n:Nat) (v v':AV),frz h n v=some v'→∀ b ∈ reach h n v,∃ z es mu,get h b=some (.cells z es mu):=by
 intro n
 induction n with
 | zero=>intro v v' hf;simp [frz] at hf
 | succ n ih =>
  have many:∀ (l r:List AV),bg (frz h n) l=some r→∀ b ∈ l.flatMap (reach h n),∃ z es mu,get h b=some (.cells z es mu):=by
   intro l r hl b hb
   simp only [List.mem_flatMap] at hb
   obtain ⟨x,hx,hb⟩:=hb
   obtain ⟨j,hj,e⟩:=List.getElem_of_mem hx
   obtain ⟨x',_,h2⟩:=(bY hl).2 j x (by rw [List.getElem?_eq_getElem hj,e])
   exact ih x x' h2 b hb
  intro v v' hf b hb
  cases v <;> simp only [frz,reach] at hf hb <;> try (simp at hb;done)
  case ptr b0 i o =>
   split at hf
   · rename_i zb es mu hg
     simp only [hg,List.mem_cons] at hb
     obtain ⟨cs,hcs,hf⟩:=ak hf
     obtain ⟨cs',hcs',rfl⟩:=aC hf
     rcases hb with rfl | hb
     · exact ⟨_,_,_,hg⟩
     · rw [hcs] at hb
       exact many _ _ hcs' b hb
   · cases hf
  case sl b0 z i len cap ex =>
   split at hf
   · rename_i zb es mu hg
     simp only [hg,List.mem_cons,List.mem_flatMap] at hb
     obtain ⟨es',hes,hf⟩:=ak hf
     rcases hb with rfl | ⟨e,he,hb⟩
     · exact ⟨_,_,_,hg⟩
     · obtain ⟨j,hj,e1⟩:=List.getElem_of_mem he
       obtain ⟨x',_,h2⟩:=(bY hes).2 j e (by rw [List.getElem?_eq_getElem hj,e1])
       exact many e x' h2 b (by simpa only [List.mem_flatMap] using hb)
   · cases hf
  case fn f caps=>obtain ⟨cs,hcs,rfl⟩:=aC hf;exact many _ _ hcs b hb
  case agg cs=>obtain ⟨cs,hcs,rfl⟩:=aC hf;exact many _ _ hcs b hb
  case tup cs=>obtain ⟨cs,hcs,rfl⟩:=aC hf;exact many _ _ hcs b hb
theorem aap {w':World} {m':Nat→Nat × Nat}:∀ (n:Nat) (v:AV) (c:Value),fO n v=false→VR ψ w S m (fun _=>False) v c→VR ψ w' S' m' (fun _=>False) v c:=by
 intro n
 induction n with
 | zero=>intro v c hf;simp [fO] at hf
 | succ n ih =>
  intro v c hf hv
  have each:∀ (l:List AV),l.any (fO n)=false→∀ (j:Nat) (x:AV),l[j]?=some x→fO n x=false:=by
   intro l hl j x hj
   cases hx:fO n x with
   | false=>rfl
   | true=>rw [List.any_eq_true.2 ⟨x,List.mem_of_getElem? hj,hx⟩] at hl;cases hl
  cases hv with
  | undef=>exact .undef _
  | bool b=>exact .bool b
  | int k x=>exact .int k x
  | str s=>exact .str s
  | dV=>exact .dV
  | aZ=>exact .aZ
  | dN=>exact .dN
  | bK=>exact .bK
  | ro=>simp [fO] at hf
  | roe=>simp [fO] at hf
  | rop=>simp [fO] at hf
  | ptr b i o hA=>exact hA.elim
  | map b hA=>exact hA.elim
  | sl b z i len cap ex cc hA=>exact hA.elim
  | fn f caps vs hn hc=>exact .fn f caps vs hn fun j x hj=>ih x _ (each _ (by simpa [fO] using hf) j x hj) (hc j x hj)
  | agg cs vs hn hcell hc=>exact .agg cs vs hn hcell fun j x hj=>ih x _ (each _ (by simpa only [fO] using hf) j x hj) (hc j x hj)
  | tup cs vs hn hc=>exact .tup cs vs hn fun j x hj=>ih x _ (each _ (by simpa only [fO] using hf) j x hj) (hc j x hj)
end
def Out (ψ:Nat→FuncId) (N:Nat) (w0 w:World) (S:Nat→Prop) (m:Nat→Nat × Nat) (A:Nat→Prop) (n:Nat) (w':World) (v:AV) (cv:Value) (h':Heap) (n':Nat):Prop :=
 ∃ S' m' A',VR ψ w' S' m' A' v cv∧Inv ψ N w0 w' S' m' A' h'∧Le w S m A w' S' m' A'∧(∀ c,c < N→S' c→S c)∧n≤n'∧∀ b,A' b→A b∨(n≤b∧b < n')
def VJ (P:Program) (f:FuncId):Prop:=∀ fn c,P.funcs[f]?=some fn→fn.body=some c→gq c=false
def iY (P:Program) (f:FuncId) (args:Array Value) (w:World) (R:Ending→World→Prop):Prop :=
 Calls P f args w R∧(VJ P f→∀ u,CallsD P f args u w fun e u' w'=>u'=u∧R e w')
theorem iY.mono {P:Program} {f:FuncId} {args:Array Value} {w:World} {R R':Ending→World→Prop} (h:iY P f args w R) (hr:∀ e w',R e w'→R' e w'):iY P f args w R' :=
 ⟨Calls.mono h.1 hr,fun hp u=>(h.2 hp u).mono fun e u' w' q=>⟨q.1,hr e w' q.2⟩⟩
def mZ (P:Program) (ψ:Nat→FuncId) (run:Run):Prop :=
 ∀ (g:Nat) (args:List AV) (h:Heap) (n:Nat) (v:AV) (h':Heap) (n':Nat),run g args h n=some (v,h',n') →
  (∃ fn c, P.funcs[ψ g]? = some fn ∧ fn.name ≠ "runtime.NumGoroutine" ∧ fn.body = some c) ∧
  ∀ (N:Nat) (w0 w:World) (S:Nat→Prop) (m:Nat→Nat × Nat) (A:Nat→Prop) (cargs:Array Value),Inv ψ N w0 w S m A h→(∀ b,A b→b < n)→cargs.size=args.length →
   (∀ (j:Nat) (x:AV),args[j]?=some x→VR ψ w S m A x (cargs.getD j Go.undef)) →
   iY P (ψ g) cargs w fun e w'=>∃ cv,e=.returned cv∧Out ψ N w0 w S m A n w' v cv h' n'
section
variable {P:Program} {ψ:Nat→FuncId} {N:Nat} {w0 w:World} {S:Nat→Prop} {m:Nat→Nat × Nat} {A:Nat→Prop} {h:Heap} {run:Run}
theorem pure_ok (hr:mZ P ψ run) {g:Nat} {args az:List AV} {n:Nat} {v:AV} {cargs:Array Value} (hfr:bg (frz h au) args=some az) (hp:rH run g az=some v)
 (i:Inv ψ N w0 w S m A h) (hs:cargs.size=args.length) (hv:∀ (j:Nat) (x:AV),args[j]?=some x→VR ψ w S m A x (cargs.getD j Go.undef)) :
 iY P (ψ g) cargs w fun e w'=>∃ cv,e=.returned cv∧Out ψ N w0 w S m A n w' v cv (aN h (marks h args v)) n:=by
 obtain ⟨⟨v0,h0,n0⟩,hrun,hfv⟩:=ak hp
 let S1:Nat→Prop:=fun c=>S c∨∃ b ∈ args.flatMap (reach h au),c=(m b).1
 have hreach:∀ b ∈ args.flatMap (reach h au),∃ z es mu,get h b=some (.cells z es mu):=by
  intro b hb
  simp only [List.mem_flatMap] at hb
  obtain ⟨x,hx,hb⟩:=hb
  obtain ⟨j,hj,e⟩:=List.getElem_of_mem hx
  obtain ⟨x',_,h2⟩:=(bY hfr).2 j x (by rw [List.getElem?_eq_getElem hj,e])
  exact kG _ x x' h2 b hb
 have hS1:∀ c,S1 c→c < w.heap.size:=by
  rintro c (hc | ⟨b,hb,rfl⟩)
  · exact i.sb c hc
  · obtain ⟨z,es,mu,hg⟩:=hreach b hb
    exact (i.obj b _ hg).lt
 have hi0:Inv ψ w.heap.size w w S1 m (fun _=>False) ([]:Heap) :=
  ⟨fun b o hb=>by simp [get] at hb,fun b o hb=>by simp [get] at hb,fun b o hb=>by simp [get] at hb,fun b o hb=>by simp [get] at hb,fun b o b' o' hb=>by simp [get] at hb,
   hS1,Nat.le_refl _,fun _ _=>rfl,rfl,rfl⟩
 refine iY.mono ((hr g az [] 0 v0 h0 n0 hrun).2 w.heap.size w w S1 m (fun _=>False) cargs hi0 (fun b hb=>hb.elim) (by rw [(bY hfr).1];exact hs) ?_) ?_
 · intro j x' hj
   obtain ⟨x,s1,s2⟩:=iw hfr j x' hj
   exact uT i.obj (fun b hb=>.inl hb) au x x' _ s2 (hv j x s1) fun b hb=>.inr ⟨b,by simp only [List.mem_flatMap];exact ⟨x,List.mem_of_getElem? s1,hb⟩,rfl⟩
 · rintro e w' ⟨cv,rfl,S',m',A',hvr,hinv,hle,hsub,_,_⟩
   refine ⟨cv,rfl,?_⟩
   let S2:Nat→Prop:=fun c=>S' c∨∃ b ∈ reach h0 au v0,c=(m' b).1
   have hfro:=uT (S':=S2) hinv.obj (fun b hb=>.inl hb) au v0 v _ hfv hvr fun b hb=>.inr ⟨b,hb,rfl⟩
   have hold:∀ c,c < w.heap.size→w'.heap[c]?=w.heap[c]?:=hinv.old
   by_cases href:fO au v=true
   · have hS2:∀ c,S2 c→c < w'.heap.size:=by
      rintro c (hc | ⟨b,hb,rfl⟩)
      · exact hinv.sb c hc
      · obtain ⟨z,es,mu,hg⟩:=kG _ v0 v hfv b hb
        exact (hinv.obj b _ hg).lt
     have hS21:∀ c,S2 c→c < w.heap.size→S1 c:=by
      rintro c (hc | ⟨b,hb,rfl⟩) hlt
      · exact hsub c hlt hc
      · obtain ⟨z,es,mu,hg⟩:=kG _ v0 v hfv b hb
        cases mu with
        | true=>have:=(hinv.live b _ hg rfl).2;omega
        | false=>exact hsub _ hlt (hinv.fro b _ hg rfl)
     have h12:∀ c,S1 c→S2 c:=fun c hc=>.inl (hle.sub c hc)
     obtain ⟨j1,j2⟩:=i.data (w':=w') (Sn:=S2) hold hinv.size hinv.os hinv.out (fun c hc=>h12 c (.inl hc)) hS2 (args.flatMap (reach h au))
      (fun b hb=>by
       obtain ⟨z,es,mu,hg⟩:=hreach b hb
       exact ⟨z,es,mu,hg,h12 _ (.inr ⟨b,hb,rfl⟩)⟩)
      (fun c hc=>by
       rcases Nat.lt_or_ge c w.heap.size with hlt | hge
       · rcases hS21 c hc hlt with q | q
         · exact .inl q
         · exact .inr (.inl q)
       · exact .inr (.inr hge))
     refine ⟨S2,m,A,?_,?_,j2,?_,Nat.le_refl _,fun b hb=>.inl hb⟩
     · exact hfro.mono' (fun _ _=>rfl) (fun _ c _ _ h=>⟨c,h,rfl⟩) (fun _ h=>h) (fun _ h=>h.elim) (fun _ h=>h.elim)
     · simp only [marks,href,if_true];exact j1
     · intro c hc hs2
       rcases hS21 c hs2 (Nat.lt_of_lt_of_le hc i.size) with q | ⟨b,hb,rfl⟩
       · exact q
       · obtain ⟨z,es,mu,hg⟩:=hreach b hb
         cases mu with
         | true=>have:=(i.live b _ hg rfl).2;omega
         | false=>exact i.fro b _ hg rfl
   · have href':fO au v=false:=by simpa using href
     obtain ⟨j1,j2⟩:=i.data (w':=w') (Sn:=S) hold hinv.size hinv.os hinv.out (fun c hc=>hc) (fun c hc=>Nat.lt_of_lt_of_le (i.sb c hc) hinv.size) [] (fun b hb=>by cases hb) (fun c hc=>.inl hc)
     refine ⟨S,m,A,(aap au v cv href' hfro:VR ψ w' S m (fun _=>False) v cv).open_,?_,j2,fun c _ hs=>hs,Nat.le_refl _,fun b hb=>.inl hb⟩
     simp only [marks,href',Bool.false_eq_true,if_false];exact j1
theorem XY (hr:mZ P ψ run) {g:Nat} {args:List AV} {n:Nat} {r:AV × Heap × Nat} {cargs:Array Value} (hp:uj run g args h n=some r)
 (i:Inv ψ N w0 w S m A h) (hn:∀ b,A b→b < n) (hs:cargs.size=args.length) (hv:∀ (j:Nat) (x:AV),args[j]?=some x→VR ψ w S m A x (cargs.getD j Go.undef)) :
 iY P (ψ g) cargs w fun e w'=>∃ cv,e=.returned cv∧Out ψ N w0 w S m A n w' r.1 cv r.2.1 r.2.2:=by
 obtain ⟨⟨v0,h0,n0⟩,hrun,rfl⟩:=aC hp
 refine iY.mono ((hr g args h n v0 h0 n0 hrun).2 N w0 w S m A cargs i hn hs hv) ?_
 rintro e w' ⟨cv,rfl,S',m',A',hvr,hinv,hle,hsub,hnn,hA⟩
 refine ⟨cv,rfl,?_⟩
 exact ⟨S',m',A',hvr,hinv,hle,hsub,hnn,hA⟩
theorem FU {S S' A':Nat→Prop} {m':Nat→Nat × Nat} {x:AV} {v:Value} (hx:lM x=true) (h:VR ψ w S m A x v) (hs:∀ b,S b→S' b):VR ψ w S' m' A' x v:=by
 cases h with
 | undef=>simp [lM] at hx
 | bool b=>exact .bool b
 | int k n=>exact .int k n
 | str s=>exact .str s
 | dV=>exact .dV
 | aZ=>exact .aZ
 | dN=>exact .dN
 | bK=>exact .bK
 | roe z ex a k hk=>exact .roe z ex a k hk
 | ro z es ex b off cap cs hS hz hc hx2 hcell hrep =>
  exact .ro z es ex b off cap cs (hs b hS) hz hc hx2 hcell (fun i e j x h1 h2=>(hrep i e j x h1 h2).mono' (fun _ _=>rfl) (fun _ c _ _ h=>⟨c,h,rfl⟩) hs (fun _ h=>h) (fun _ h=>h.elim))
 | rop cs b off vs hS hcell hrep =>
  exact .rop cs b off vs (hs b hS) hcell (fun j x h1=>(hrep j x h1).mono' (fun _ _=>rfl) (fun _ c _ _ h=>⟨c,h,rfl⟩) hs (fun _ h=>h) (fun _ h=>h.elim))
 | ptr=>simp [lM] at hx
 | sl=>simp [lM] at hx
 | map=>simp [lM] at hx
 | agg=>simp [lM] at hx
 | tup=>simp [lM] at hx
 | fn f caps vs hn hc =>
  cases caps with
  | nil=>exact .fn f [] vs hn fun j x hj=>by simp at hj
  | cons a r=>simp [lM] at hx
theorem CG {b nid:Nat}:∀ (l r:List AV),nP b nid l=some r→r.length=l.length∧∀ (j:Nat) (x':AV),r[j]?=some x'→∃ x,l[j]?=some x∧hand b nid x=some x':=by
 intro l
 induction l with
 | nil=>intro r hr;simp only [nP,Option.some.injEq] at hr;subst hr;exact ⟨rfl,fun j x' hj=>by simp at hj⟩
 | cons a l ih =>
  intro r hr
  simp only [nP] at hr
  obtain ⟨y,h1,hr⟩:=ak hr
  obtain ⟨ys,h2,rfl⟩:=aC hr
  obtain ⟨q1,q2⟩:=ih ys h2
  refine ⟨by simp [q1],fun j x' hj=>?_⟩
  cases j with
  | zero=>simp only [List.getElem?_cons_zero,Option.some.injEq] at hj;subst hj;exact ⟨a,by simp,h1⟩
  | succ j=>simpa using q2 j x' (by simpa using hj)
theorem Yo {b nid:Nat} {v v':AV} (hf:hand b nid v=some v'):v'.cell=v.cell:=by
 cases v <;> simp only [hand] at hf
 case ptr=>split at hf <;> cases hf;rfl
 case sl=>split at hf <;> cases hf;rfl
 case fn f caps=>obtain ⟨cs,_,rfl⟩:=aC hf;rfl
 case agg cs=>obtain ⟨cs,_,rfl⟩:=aC hf;rfl
 case tup cs=>obtain ⟨cs,_,rfl⟩:=aC hf;rfl
 all_goals (cases hf;try rfl)
theorem DX {b nid:Nat} {m2:Nat→Nat × Nat} {A2:Nat→Prop} (hb:A b→A2 nid∧m2 nid=m b) {v:AV} {c:Value} (hv:VR ψ w S m A v c):∀ v',hand b nid v=some v'→VR ψ w S m2 A2 v' c:=by
 have data:∀ {S A A2:Nat→Prop} {m m2:Nat→Nat × Nat} {x:AV} {u:Value},lM x=true→VR ψ w S m A x u→VR ψ w S m2 A2 x u:=fun hx h=>FU hx h fun _ h=>h
 induction hv with
 | undef v=>intro v' h;simp [hand] at h
 | bool b=>intro v' h;simp only [hand] at h;cases h;exact .bool b
 | int k n=>intro v' h;simp only [hand] at h;cases h;exact .int k n
 | str s=>intro v' h;simp only [hand] at h;cases h;exact .str s
 | dV=>intro v' h;simp only [hand] at h;cases h;exact .dV
 | aZ=>intro v' h;simp only [hand] at h;cases h;exact .aZ
 | dN=>intro v' h;simp only [hand] at h;cases h;exact .dN
 | bK=>intro v' h;simp only [hand] at h;cases h;exact .bK
 | roe z ex a k hk=>intro v' h;simp only [hand] at h;cases h;exact .roe z ex a k hk
 | ro z es ex b off cap cs hS hz hc hx hcell hrep _ =>
  intro v' h;simp only [hand] at h;cases h
  exact data rfl (VR.ro (A:=A) z es ex b off cap cs hS hz hc hx hcell hrep)
 | rop cs b off vs hS hcell hrep _ =>
  intro v' h;simp only [hand] at h;cases h
  exact data rfl (VR.rop (A:=A) cs b off vs hS hcell hrep)
 | ptr c i o hA =>
  intro v' h
  simp only [hand] at h
  split at h
  · rename_i e
    cases h
    subst e
    obtain ⟨q1,q2⟩:=hb hA
    rw [← q2]
    exact .ptr nid i o q1
  · cases h
 | sl c z i len cap ex k hA hz hl hc hx hrow =>
  intro v' h
  simp only [hand] at h
  split at h
  · rename_i e
    cases h
    subst e
    obtain ⟨q1,q2⟩:=hb hA
    rw [← q2] at hz hrow ⊢
    exact .sl nid z i len cap ex k q1 hz hl hc hx hrow
  · cases h
 | map c hA=>intro v' h;simp [hand] at h
 | fn f caps vs hn _ ih =>
  intro v' h
  simp only [hand] at h
  obtain ⟨cs,h1,rfl⟩:=aC h
  obtain ⟨q1,q2⟩:=CG _ _ h1
  refine .fn f cs vs (hn.trans q1.symm) fun j x' hj=>?_
  obtain ⟨x,r1,r2⟩:=q2 j x' hj
  exact ih j x r1 hb x' r2
 | agg cs vs hn hcell _ ih =>
  intro v' h
  simp only [hand] at h
  obtain ⟨cs',h1,rfl⟩:=aC h
  obtain ⟨q1,q2⟩:=CG _ _ h1
  refine .agg cs' vs (hn.trans q1.symm) (fun j x' hj=>?_) fun j x' hj=>?_
  · obtain ⟨x,r1,r2⟩:=q2 j x' hj
    rw [Yo r2];exact hcell j x r1
  · obtain ⟨x,r1,r2⟩:=q2 j x' hj
    exact ih j x r1 hb x' r2
 | tup cs vs hn _ ih =>
  intro v' h
  simp only [hand] at h
  obtain ⟨cs',h1,rfl⟩:=aC h
  obtain ⟨q1,q2⟩:=CG _ _ h1
  refine .tup cs' vs (hn.trans q1.symm) fun j x' hj=>?_
  obtain ⟨x,r1,r2⟩:=q2 j x' hj
  exact ih j x r1 hb x' r2
theorem Inv.join (i:Inv ψ N w0 w S m A h) {nid:Nat} (hn:¬ A nid) (x:Nat × Nat) (o:ji) (hor:OR ψ w S (gu m nid x) (rQ A nid) x o) (hm:nM o=true) (hlive:¬ S x.1∧N≤x.1)
 (hne:∀ b o',get h b=some o'→nM o'=true→(m b).1≠x.1):Inv ψ N w0 w S (gu m nid x) (rQ A nid) (put h nid o)∧Le w S m A w S (gu m nid x) (rQ A nid):=by
 have mof:∀ b,b≠nid→gu m nid x b=m b:=fun b hb=>by simp [gu,hb]
 have mn:gu m nid x nid=x:=by simp [gu]
 have le:Le w S m A w S (gu m nid x) (rQ A nid) :=
  ⟨fun _ _=>rfl,fun _ c _ _ h=>⟨c,h,rfl⟩,Nat.le_refl _,fun _ h=>h,fun _ h=>.inl h,fun b hb=>mof b fun e=>hn (e ▸ hb)⟩
 refine ⟨?_,le⟩
 constructor
 · intro b o' hb
   rw [get_put] at hb
   by_cases e:nid=b
   · exact .inr e.symm
   · rw [if_neg e] at hb;exact .inl (i.dom b o' hb)
 · intro b o' hb
   rw [get_put] at hb
   by_cases e:nid=b
   · rw [if_pos e] at hb
     cases hb
     subst e
     rw [mn];exact hor
   · rw [if_neg e] at hb
     rw [mof b (Ne.symm e)]
     exact (i.obj b o' hb).mono le rfl
 · intro b o' hb hf
   rw [get_put] at hb
   by_cases e:nid=b
   · rw [if_pos e] at hb;cases hb;rw [hm] at hf;cases hf
   · rw [if_neg e] at hb;rw [mof b (Ne.symm e)];exact i.fro b o' hb hf
 · intro b o' hb hf
   rw [get_put] at hb
   by_cases e:nid=b
   · subst e;rw [mn];exact hlive
   · rw [if_neg e] at hb;rw [mof b (Ne.symm e)];exact i.live b o' hb hf
 · intro b o1 b' o2 h1 h2 f1 f2 hne'
   rw [get_put] at h1 h2
   by_cases e1:nid=b
   · by_cases e2:nid=b'
     · exact absurd (e1.symm.trans e2) hne'
     · rw [if_neg e2] at h2
       subst e1
       rw [mn,mof b' (Ne.symm e2)]
       exact Ne.symm (hne b' o2 h2 f2)
   · rw [if_neg e1] at h1
     by_cases e2:nid=b'
     · subst e2
       rw [mn,mof b (Ne.symm e1)]
       exact hne b o1 h1 f1
     · rw [if_neg e2] at h2
       rw [mof b (Ne.symm e1),mof b' (Ne.symm e2)]
       exact i.inj b o1 b' o2 h1 h2 f1 f2 hne'
 · exact i.sb
 · exact i.size
 · exact i.old
 · exact i.os
 · exact i.out
theorem iT:∀ (u v:Upd) (h:Heap),aN h (u++v)=aN (aN h u) v:=by
 intro u
 induction u with
 | nil=>intro v h;rfl
 | cons x u ih=>intro v h;obtain ⟨b,o⟩:=x;simp only [List.cons_append,aN];exact ih v _
theorem oK (hr:mZ P ψ run) {g:Nat} {args az:List AV} {nid n:Nat} {x:AV × Upd} {cargs:Array Value} (hfr:bg (frz h au) args=some az) (hp:iV run g az nid=some x)
 (i:Inv ψ N w0 w S m A h) (hnid:¬ A nid) (hs:cargs.size=args.length) (hv:∀ (j:Nat) (x:AV),args[j]?=some x→VR ψ w S m A x (cargs.getD j Go.undef)) :
 iY P (ψ g) cargs w fun e w'=>∃ cv,e=.returned cv∧∃ S' m' A',VR ψ w' S' m' A' x.1 cv∧Inv ψ N w0 w' S' m' A' (aN h (aV h (args.flatMap (reach h au))++x.2))∧Le w S m A w' S' m' A' ∧
  (∀ c,c < N→S' c→S c)∧n≤n∧∀ b,A' b→A b∨b=nid∨(n≤b∧b < n):=by
 obtain ⟨⟨v0,h0,n0⟩,hrun,hx⟩:=ak hp
 let S1:Nat→Prop:=fun c=>S c∨∃ b ∈ args.flatMap (reach h au),c=(m b).1
 have hreach:∀ b ∈ args.flatMap (reach h au),∃ z es mu,get h b=some (.cells z es mu):=by
  intro b hb
  simp only [List.mem_flatMap] at hb
  obtain ⟨x,hx,hb⟩:=hb
  obtain ⟨j,hj,e⟩:=List.getElem_of_mem hx
  obtain ⟨x',_,h2⟩:=(bY hfr).2 j x (by rw [List.getElem?_eq_getElem hj,e])
  exact kG _ x x' h2 b hb
 have hS1:∀ c,S1 c→c < w.heap.size:=by
  rintro c (hc | ⟨b,hb,rfl⟩)
  · exact i.sb c hc
  · obtain ⟨z,es,mu,hg⟩:=hreach b hb
    exact (i.obj b _ hg).lt
 have hi0:Inv ψ w.heap.size w w S1 m (fun _=>False) ([]:Heap) :=
  ⟨fun b o hb=>by simp [get] at hb,fun b o hb=>by simp [get] at hb,fun b o hb=>by simp [get] at hb,fun b o hb=>by simp [get] at hb,fun b o b' o' hb=>by simp [get] at hb,
   hS1,Nat.le_refl _,fun _ _=>rfl,rfl,rfl⟩
 refine iY.mono ((hr g az [] 0 v0 h0 n0 hrun).2 w.heap.size w w S1 m (fun _=>False) cargs hi0 (fun b hb=>hb.elim) (by rw [(bY hfr).1];exact hs) ?_) ?_
 · intro j x' hj
   obtain ⟨x,s1,s2⟩:=iw hfr j x' hj
   exact uT i.obj (fun b hb=>.inl hb) au x x' _ s2 (hv j x s1) fun b hb=>.inr ⟨b,by simp only [List.mem_flatMap];exact ⟨x,List.mem_of_getElem? s1,hb⟩,rfl⟩
 · rintro e w' ⟨cv,rfl,S',m',A',hvr,hinv,hle,hsub,_,hA'⟩
   refine ⟨cv,rfl,?_⟩
   have hold:∀ c,c < w.heap.size→w'.heap[c]?=w.heap[c]?:=hinv.old
   have h12:∀ c,S1 c→S' c:=hle.sub
   obtain ⟨j1,j2⟩:=i.data (w':=w') (Sn:=S') hold hinv.size hinv.os hinv.out (fun c hc=>h12 c (.inl hc)) hinv.sb (args.flatMap (reach h au))
    (fun b hb=>by
     obtain ⟨z,es,mu,hg⟩:=hreach b hb
     exact ⟨z,es,mu,hg,h12 _ (.inr ⟨b,hb,rfl⟩)⟩)
    (fun c hc=>by
     rcases Nat.lt_or_ge c w.heap.size with hlt | hge
     · rcases hsub c hlt hc with q | q
       · exact .inl q
       · exact .inr (.inl q)
     · exact .inr (.inr hge))
   have hlow:∀ c,c < N→S' c→S c:=by
    intro c hc hs2
    rcases hsub c (Nat.lt_of_lt_of_le hc i.size) hs2 with q | ⟨b,hb,rfl⟩
    · exact q
    · obtain ⟨z,es,mu,hg⟩:=hreach b hb
      cases mu with
      | true=>have:=(i.live b _ hg rfl).2;omega
      | false=>exact i.fro b _ hg rfl
   simp only at hx
   split at hx
   · obtain ⟨v,h1,rfl⟩:=aC hx
     refine ⟨S',m,A,?_,?_,j2,hlow,Nat.le_refl _,fun b hb=>.inl hb⟩
     · exact DX (b:=n0) (nid:=0) (fun hb=>by rcases hA' _ hb with q | q;exact q.elim;omega) hvr _ h1
     · simp only [List.append_nil];exact j1
   · rename_i b _
     unfold EZ at hx
     split at hx
     · rename_i z es mu hg
       split at hx
       · rename_i hcond
         obtain ⟨v,h1,rfl⟩:=aC hx
         simp only [Bool.and_eq_true] at hcond
         obtain ⟨rfl,hpl⟩:=hcond
         obtain ⟨q1,q2,cur,t,q3,q4,q5⟩:=hinv.obj b _ hg
         obtain ⟨l1,l2⟩:=hinv.live b _ hg rfl
         have hmn:gu m nid (m' b) nid=m' b:=by simp [gu]
         obtain ⟨k1,k2⟩:=j1.join (nid:=nid) hnid (m' b) (.cells z es true) ⟨q1,q2,cur,t,q3,q4,fun i e j x he hx=>by
          obtain ⟨r1,u,r2,r3⟩:=q5 i e j x he hx
          refine ⟨r1,u,r2,FU ?_ r3 fun _ h=>h⟩
          simp only [List.all_eq_true] at hpl
          exact hpl e (List.mem_of_getElem? he) x (List.mem_of_getElem? hx)⟩ rfl ⟨l1,Nat.le_trans i.size l2⟩ (fun c o' hc hmu=>by
          rcases CQ (h:=h) c (args.flatMap (reach h au)) h with ⟨z',es',mu',r1,r2,r3⟩ | ⟨r1,_⟩
          · rw [r3] at hc;cases hc;cases hmu
          · rw [r1] at hc
            have:=(i.obj c o' hc).lt
            omega)
         refine ⟨S',gu m nid (m' b),rQ A nid,?_,?_,j2.trans k2,hlow,Nat.le_refl _,fun c hc=>hc.imp id .inl⟩
         · exact DX (fun _=>⟨.inr rfl,hmn⟩) hvr _ h1
         · rw [iT]
           exact k1
       · cases hx
     · cases hx
theorem xu:∀ {l:List AV},nO l=true→∀ x ∈ l,gY x=true:=by
 intro l
 induction l with
 | nil=>intro _ x hx;cases hx
 | cons a l ih =>
  intro h x hx
  simp only [nO,Bool.and_eq_true] at h
  rcases List.mem_cons.1 hx with rfl | hx
  · exact h.1
  · exact ih h.2 x hx
theorem NI {S S':Nat→Prop} {v:AV} {c:Value} (hb:gY v=true) (hv:VR ψ w S m A v c):VR ψ w S' m A v c:=by
 induction hv with
 | undef v=>simp [gY] at hb
 | bool b=>exact .bool b
 | int k n=>exact .int k n
 | str s=>exact .str s
 | dV=>exact .dV
 | aZ=>exact .aZ
 | dN=>exact .dN
 | bK=>exact .bK
 | roe z ex a k hk=>exact .roe z ex a k hk
 | ro z es ex b off cap cs hS hz hc hx hcell hrep _ =>
  simp only [gY,Bool.and_eq_true,List.isEmpty_iff] at hb
  obtain ⟨rfl,rfl⟩:=hb
  have hc0:cap=0:=hx rfl
  subst hc0
  exact .roe z true _ 0 (fun _=>rfl)
 | rop cs b off vs hS hcell hrep _=>simp [gY] at hb
 | ptr c i o hA=>exact .ptr c i o hA
 | sl c z i len cap ex k hA hz hl hc hx hrow=>exact .sl c z i len cap ex k hA hz hl hc hx hrow
 | map c hA=>exact .map c hA
 | fn f caps vs hn _ ih=>exact .fn f caps vs hn fun j x hj=>ih j x hj (xu (by simpa only [gY] using hb) x (List.mem_of_getElem? hj))
 | agg cs vs hn hcell _ ih=>exact .agg cs vs hn hcell fun j x hj=>ih j x hj (xu (by simpa only [gY] using hb) x (List.mem_of_getElem? hj))
 | tup cs vs hn _ ih=>exact .tup cs vs hn fun j x hj=>ih j x hj (xu (by simpa only [gY] using hb) x (List.mem_of_getElem? hj))
theorem af2 (hr:mZ P ψ run) {g:Nat} {args az:List AV} {nid n:Nat} {x:AV × Upd} {cargs:Array Value} (hfr:bg (frz h au) args=some az) (hp:iV run g az nid=some x) (hbx:uK x=true)
 (i:Inv ψ N w0 w S m A h) (hnid:¬ A nid) (hs:cargs.size=args.length) (hv:∀ (j:Nat) (x:AV),args[j]?=some x→VR ψ w S m A x (cargs.getD j Go.undef)) :
 iY P (ψ g) cargs w fun e w'=>∃ cv,e=.returned cv∧∃ S' m' A',VR ψ w' S' m' A' x.1 cv∧Inv ψ N w0 w' S' m' A' (aN h x.2)∧Le w S m A w' S' m' A' ∧
  (∀ c,c < N→S' c→S c)∧n≤n∧∀ b,A' b→A b∨b=nid∨(n≤b∧b < n):=by
 obtain ⟨⟨v0,h0,n0⟩,hrun,hx⟩:=ak hp
 let S1:Nat→Prop:=fun c=>S c∨∃ b ∈ args.flatMap (reach h au),c=(m b).1
 have hreach:∀ b ∈ args.flatMap (reach h au),∃ z es mu,get h b=some (.cells z es mu):=by
  intro b hb
  simp only [List.mem_flatMap] at hb
  obtain ⟨x,hx,hb⟩:=hb
  obtain ⟨j,hj,e⟩:=List.getElem_of_mem hx
  obtain ⟨x',_,h2⟩:=(bY hfr).2 j x (by rw [List.getElem?_eq_getElem hj,e])
  exact kG _ x x' h2 b hb
 have hS1:∀ c,S1 c→c < w.heap.size:=by
  rintro c (hc | ⟨b,hb,rfl⟩)
  · exact i.sb c hc
  · obtain ⟨z,es,mu,hg⟩:=hreach b hb
    exact (i.obj b _ hg).lt
 have hi0:Inv ψ w.heap.size w w S1 m (fun _=>False) ([]:Heap) :=
  ⟨fun b o hb=>by simp [get] at hb,fun b o hb=>by simp [get] at hb,fun b o hb=>by simp [get] at hb,fun b o hb=>by simp [get] at hb,fun b o b' o' hb=>by simp [get] at hb,
   hS1,Nat.le_refl _,fun _ _=>rfl,rfl,rfl⟩
 refine iY.mono ((hr g az [] 0 v0 h0 n0 hrun).2 w.heap.size w w S1 m (fun _=>False) cargs hi0 (fun b hb=>hb.elim) (by rw [(bY hfr).1];exact hs) ?_) ?_
 · intro j x' hj
   obtain ⟨x,s1,s2⟩:=iw hfr j x' hj
   exact uT i.obj (fun b hb=>.inl hb) au x x' _ s2 (hv j x s1) fun b hb=>.inr ⟨b,by simp only [List.mem_flatMap];exact ⟨x,List.mem_of_getElem? s1,hb⟩,rfl⟩
 · rintro e w' ⟨cv,rfl,S',m',A',hvr,hinv,hle,hsub,_,hA'⟩
   refine ⟨cv,rfl,?_⟩
   have hold:∀ c,c < w.heap.size→w'.heap[c]?=w.heap[c]?:=hinv.old
   obtain ⟨j1,j2⟩:=i.data (w':=w') (Sn:=S) hold hinv.size hinv.os hinv.out (fun c hc=>hc) (fun c hc=>Nat.lt_of_lt_of_le (i.sb c hc) hinv.size) [] (fun b hb=>by cases hb) (fun c hc=>.inl hc)
   simp only at hx
   split at hx
   · obtain ⟨v,h1,rfl⟩:=aC hx
     simp only [uK,Bool.and_eq_true] at hbx
     refine ⟨S,m,A,?_,j1,j2,fun c _ hs=>hs,Nat.le_refl _,fun b hb=>.inl hb⟩
     exact NI hbx.1 (DX (b:=n0) (nid:=0) (m2:=m) (A2:=A) (fun hb=>by rcases hA' _ hb with q | q;exact q.elim;omega) hvr _ h1)
   · rename_i b _
     unfold EZ at hx
     split at hx
     · rename_i z es mu hg
       split at hx
       · rename_i hcond
         obtain ⟨v,h1,rfl⟩:=aC hx
         simp only [uK,List.all_cons,List.all_nil,aae,Bool.and_eq_true,Bool.and_true] at hbx
         obtain ⟨hb1,hb2⟩:=hbx
         simp only [Bool.and_eq_true] at hcond
         obtain ⟨rfl,hpl⟩:=hcond
         obtain ⟨q1,q2,cur,t,q3,q4,q5⟩:=hinv.obj b _ hg
         obtain ⟨l1,l2⟩:=hinv.live b _ hg rfl
         have hmn:gu m nid (m' b) nid=m' b:=by simp [gu]
         obtain ⟨k1,k2⟩:=j1.join (nid:=nid) hnid (m' b) (.cells z es true) ⟨q1,q2,cur,t,q3,q4,fun i e j x he hx=>by
          obtain ⟨r1,u,r2,r3⟩:=q5 i e j x he hx
          refine ⟨r1,u,r2,?_⟩
          simp only [List.all_eq_true] at hpl hb2
          have hp1:lM x=true:=hpl e (List.mem_of_getElem? he) x (List.mem_of_getElem? hx)
          have hp2:gY x=true:=xu (hb2 e (List.mem_of_getElem? he)) x (List.mem_of_getElem? hx)
          exact NI hp2 (FU hp1 r3 fun _ h=>h)⟩ rfl ⟨fun q=>l1 (hle.sub _ (.inl q)),Nat.le_trans i.size l2⟩ (fun c o' hc hmu=>by
          have:=(i.obj c o' hc).lt
          omega)
         refine ⟨S,gu m nid (m' b),rQ A nid,?_,k1,j2.trans k2,fun c _ hs=>hs,Nat.le_refl _,fun c hc=>hc.imp id .inl⟩
         exact NI hb1 (DX (fun _=>⟨.inr rfl,hmn⟩) hvr _ h1)
       · cases hx
     · cases hx
theorem Ku (n n1 b:Nat):∀ (h1 h:Heap),get (aN h (ups n n1 h1)) b=if n≤b∧b < n1 then (match get h1 b with | some o=>some o | none=>get h b) else get h b:=by
 intro h1
 induction h1 with
 | nil=>intro h;simp [ups,aN,get]
 | cons x r ih =>
  intro h
  obtain ⟨c,o⟩:=x
  by_cases hc:n≤c∧c < n1
  · have e:ups n n1 ((c,o)::r)=ups n n1 r++[(c,some o)]:=by simp [ups,hc]
    rw [e,iT]
    simp only [aN,uF,get_put,get]
    by_cases q:c=b
    · subst q;simp [hc]
    · simp only [if_neg q];exact ih h
  · have e:ups n n1 ((c,o)::r)=ups n n1 r:=by simp [ups,hc]
    rw [e,ih h]
    simp only [get]
    by_cases q:c=b
    · subst q;simp [hc]
    · simp only [if_neg q]
theorem Inv.union {N2:Nat} {w2:World} {m1:Nat→Nat × Nat} {A1:Nat→Prop} {h1:Heap} {n n1:Nat} (i:Inv ψ N w0 w S m A h) (i1:Inv ψ N2 w2 w S m1 A1 h1) (hn:∀ b,A b→b < n) (hn1:∀ b,A1 b→n≤b) (hN:N≤N2)
 (hlt:∀ b o,get h b=some o→nM o=true→(m b).1 < N2) :
 Inv ψ N w0 w S (fun b=>if n≤b then m1 b else m b) (fun b=>A b∨A1 b) (aN h (ups n n1 h1))∧Le w S m A w S (fun b=>if n≤b then m1 b else m b) (fun b=>A b∨A1 b)∧Le w S m1 A1 w S (fun b=>if n≤b then m1 b else m b) (fun b=>A b∨A1 b):=by
 have le:Le w S m A w S (fun b=>if n≤b then m1 b else m b) (fun b=>A b∨A1 b) :=
  ⟨fun _ _=>rfl,fun _ c _ _ h=>⟨c,h,rfl⟩,Nat.le_refl _,fun _ h=>h,fun _ h=>.inl h,fun b hb=>if_neg (by have:=hn b hb;omega)⟩
 have le1:Le w S m1 A1 w S (fun b=>if n≤b then m1 b else m b) (fun b=>A b∨A1 b) :=
  ⟨fun _ _=>rfl,fun _ c _ _ h=>⟨c,h,rfl⟩,Nat.le_refl _,fun _ h=>h,fun _ h=>.inr h,fun b hb=>if_pos (hn1 b hb)⟩
 have key:∀ b o,get (aN h (ups n n1 h1)) b=some o→(get h1 b=some o∧n≤b)∨(get h b=some o∧¬ n≤b):=by
  intro b o hb
  rw [Ku] at hb
  by_cases q:n≤b∧b < n1
  · rw [if_pos q] at hb
    cases hq:get h1 b with
    | some o1 =>
     rw [hq] at hb
     cases hb
     exact .inl ⟨rfl,q.1⟩
    | none =>
     rw [hq] at hb
     exact .inr ⟨hb,by have:=hn b (i.dom b _ hb);omega⟩
  · rw [if_neg q] at hb
    exact .inr ⟨hb,by have:=hn b (i.dom b _ hb);omega⟩
 refine ⟨⟨?_,?_,?_,?_,?_,i.sb,i.size,i.old,i.os,i.out⟩,le,le1⟩
 · intro b o hb
   rcases key b o hb with ⟨q,_⟩ | ⟨q,_⟩
   · exact .inr (i1.dom b o q)
   · exact .inl (i.dom b o q)
 · intro b o hb
   rcases key b o hb with ⟨q,q2⟩ | ⟨q,q2⟩
   · simp only [if_pos q2];exact (i1.obj b o q).mono le1 rfl
   · simp only [if_neg q2];exact (i.obj b o q).mono le rfl
 · intro b o hb hf
   rcases key b o hb with ⟨q,q2⟩ | ⟨q,q2⟩
   · simp only [if_pos q2];exact i1.fro b o q hf
   · simp only [if_neg q2];exact i.fro b o q hf
 · intro b o hb hf
   rcases key b o hb with ⟨q,q2⟩ | ⟨q,q2⟩
   · simp only [if_pos q2];obtain ⟨l1,l2⟩:=i1.live b o q hf;exact ⟨l1,Nat.le_trans hN l2⟩
   · simp only [if_neg q2];exact i.live b o q hf
 · intro b o b' o' hb hb' hf hf' hne
   rcases key b o hb with ⟨q,q2⟩ | ⟨q,q2⟩ <;> rcases key b' o' hb' with ⟨p,p2⟩ | ⟨p,p2⟩
   · simp only [if_pos q2,if_pos p2];exact i1.inj b o b' o' q p hf hf' hne
   · simp only [if_pos q2,if_neg p2]
     have h1:=(i1.live b o q hf).2
     have h2:=hlt b' o' p hf'
     omega
   · simp only [if_neg q2,if_pos p2]
     have h1:=(i1.live b' o' p hf').2
     have h2:=hlt b o q hf
     omega
   · simp only [if_neg q2,if_neg p2];exact i.inj b o b' o' q p hf hf' hne
theorem get_filter {α:Type} (p:Nat→Bool):∀ (h:List (Nat × α)) (b:Nat),get (h.filter fun x=>p x.1) b=if p b=true then get h b else none:=by
 intro h
 induction h with
 | nil=>intro b;simp [get]
 | cons x r ih =>
  intro b
  obtain ⟨c,o⟩:=x
  by_cases hc:p c=true
  · rw [List.filter_cons_of_pos (by simpa using hc)]
    simp only [get]
    by_cases q:c=b
    · subst q;simp [hc]
    · rw [if_neg q,if_neg q,ih]
  · rw [List.filter_cons_of_neg (by simpa using hc),ih]
    simp only [get]
    by_cases q:c=b
    · subst q;simp [hc]
    · rw [if_neg q]
theorem fQ {L:List Nat}:∀ {l:List AV},qo L l=true→∀ x ∈ l,cO L x=true:=by
 intro l
 induction l with
 | nil=>intro _ x hx;cases hx
 | cons a l ih =>
  intro h x hx
  simp only [qo,Bool.and_eq_true] at h
  rcases List.mem_cons.1 hx with rfl | hx
  · exact h.1
  · exact ih h.2 x hx
theorem UO {S S':Nat→Prop} {L:List Nat} {v:AV} {c:Value} (hb:cO L v=true) (hv:VR ψ w S m A v c):VR ψ w S' m (fun b=>A b∧b ∈ L) v c:=by
 induction hv with
 | undef v=>simp [cO] at hb
 | bool b=>exact .bool b
 | int k n=>exact .int k n
 | str s=>exact .str s
 | dV=>exact .dV
 | aZ=>exact .aZ
 | dN=>exact .dN
 | bK=>exact .bK
 | roe z ex a k hk=>exact .roe z ex a k hk
 | ro z es ex b off cap cs hS hz hc hx hcell hrep _ =>
  simp only [cO,Bool.and_eq_true,List.isEmpty_iff] at hb
  obtain ⟨rfl,rfl⟩:=hb
  have hc0:cap=0:=hx rfl
  subst hc0
  exact .roe z true _ 0 (fun _=>rfl)
 | rop cs b off vs hS hcell hrep _=>simp [cO] at hb
 | ptr c i o hA=>exact .ptr c i o ⟨hA,by simpa [cO] using hb⟩
 | sl c z i len cap ex k hA hz hl hc hx hrow=>exact .sl c z i len cap ex k ⟨hA,by simpa [cO] using hb⟩ hz hl hc hx hrow
 | map c hA=>simp [cO] at hb
 | fn f caps vs hn _ ih=>exact .fn f caps vs hn fun j x hj=>ih j x hj (fQ (by simpa only [cO] using hb) x (List.mem_of_getElem? hj))
 | agg cs vs hn hcell _ ih=>exact .agg cs vs hn hcell fun j x hj=>ih j x hj (fQ (by simpa only [cO] using hb) x (List.mem_of_getElem? hj))
 | tup cs vs hn _ ih=>exact .tup cs vs hn fun j x hj=>ih j x hj (fQ (by simpa only [cO] using hb) x (List.mem_of_getElem? hj))
theorem Inv.keep {N2:Nat} {w2 w':World} {S' Sn:Nat→Prop} {m':Nat→Nat × Nat} {A':Nat→Prop} {h0:Heap} {L:List Nat} (i:Inv ψ N2 w2 w' S' m' A' h0) (hL:∀ b ∈ L,Dj L (get h0 b)=true) (hsub:∀ c,Sn c→S' c) :
 Inv ψ N2 w2 w' Sn m' (fun b=>A' b∧b ∈ L) (h0.filter fun x=>L.contains x.1):=by
 have key:∀ b o,get (h0.filter fun x=>L.contains x.1) b=some o→get h0 b=some o∧b ∈ L:=by
  intro b o hb
  rw [get_filter] at hb
  by_cases q:b ∈ L
  · rw [if_pos (by simpa using q)] at hb;exact ⟨hb,q⟩
  · rw [if_neg (by simpa using q)] at hb;cases hb
 have mut_:∀ b o,get (h0.filter fun x=>L.contains x.1) b=some o→nM o=true:=by
  intro b o hb
  obtain ⟨q1,q2⟩:=key b o hb
  have:=hL b q2
  rw [q1] at this
  cases o with
  | cells z es mu=>simp only [Dj,Bool.and_eq_true] at this;exact this.1
  | map es=>rfl
  | iter s pos=>rfl
 refine ⟨fun b o hb=>?_,fun b o hb=>?_,fun b o hb hf=>?_,fun b o hb hf=>?_,fun b o b' o' hb hb' hf hf' hne=>?_,fun c hc=>i.sb c (hsub c hc),i.size,i.old,i.os,i.out⟩
 · obtain ⟨q1,q2⟩:=key b o hb
   exact ⟨i.dom b o q1,q2⟩
 · obtain ⟨q1,q2⟩:=key b o hb
   have h1:=hL b q2
   have h2:=i.obj b o q1
   rw [q1] at h1
   cases o with
   | cells z es mu =>
    simp only [Dj,Bool.and_eq_true,List.all_eq_true] at h1
    obtain ⟨r1,r2,c,t,r3,r4,r5⟩:=h2
    refine ⟨r1,r2,c,t,r3,r4,fun a e j x he hx=>?_⟩
    obtain ⟨u1,u,u2,u3⟩:=r5 a e j x he hx
    exact ⟨u1,u,u2,UO (fQ (h1.2 e (List.mem_of_getElem? he)) x (List.mem_of_getElem? hx)) u3⟩
   | map es=>simp [Dj] at h1
   | iter s pos=>simp [Dj] at h1
 · rw [mut_ b o hb] at hf;cases hf
 · obtain ⟨l1,l2⟩:=i.live b o (key b o hb).1 hf
   exact ⟨fun q=>l1 (hsub _ q),l2⟩
 · exact i.inj b o b' o' (key b o hb).1 (key b' o' hb').1 hf hf' hne
theorem abB (hr:mZ P ψ run) {g:Nat} {args az:List AV} {nid n:Nat} {x:AV × Upd × Nat} {cargs:Array Value} (hdb:yD g=true) (hfr:bg (frz h au) args=some az) (hp:qX run g az n=some x)
 (i:Inv ψ N w0 w S m A h) (hn:∀ b,A b→b < n) (hs:cargs.size=args.length) (hv:∀ (j:Nat) (x:AV),args[j]?=some x→VR ψ w S m A x (cargs.getD j Go.undef)) :
 iY P (ψ g) cargs w fun e w'=>∃ cv,e=.returned cv∧∃ S' m' A',VR ψ w' S' m' A' x.1 cv∧Inv ψ N w0 w' S' m' A' (aN h x.2.1)∧Le w S m A w' S' m' A' ∧
  (∀ c,c < N→S' c→S c)∧n≤x.2.2∧∀ b,A' b→A b∨b=nid∨(n≤b∧b < x.2.2):=by
 obtain ⟨⟨v0,h0,n0⟩,hrun,hx⟩:=ak hp
 obtain ⟨hh,hx2,rfl⟩:=aC hx
 clear hx
 unfold uV at hx2
 rw [if_pos hdb] at hx2
 split at hx2
 case isFalse=>cases hx2
 rename_i hk
 obtain rfl:=Option.some.inj hx2
 let S1:Nat→Prop:=fun c=>S c∨∃ b ∈ args.flatMap (reach h au),c=(m b).1
 have hreach:∀ b ∈ args.flatMap (reach h au),∃ z es mu,get h b=some (.cells z es mu):=by
  intro b hb
  simp only [List.mem_flatMap] at hb
  obtain ⟨x,hx,hb⟩:=hb
  obtain ⟨j,hj,e⟩:=List.getElem_of_mem hx
  obtain ⟨x',_,h2⟩:=(bY hfr).2 j x (by rw [List.getElem?_eq_getElem hj,e])
  exact kG _ x x' h2 b hb
 have hS1:∀ c,S1 c→c < w.heap.size:=by
  rintro c (hc | ⟨b,hb,rfl⟩)
  · exact i.sb c hc
  · obtain ⟨z,es,mu,hg⟩:=hreach b hb
    exact (i.obj b _ hg).lt
 have hi0:Inv ψ w.heap.size w w S1 m (fun _=>False) ([]:Heap) :=
  ⟨fun b o hb=>by simp [get] at hb,fun b o hb=>by simp [get] at hb,fun b o hb=>by simp [get] at hb,fun b o hb=>by simp [get] at hb,fun b o b' o' hb=>by simp [get] at hb,
   hS1,Nat.le_refl _,fun _ _=>rfl,rfl,rfl⟩
 refine iY.mono ((hr g az [] n v0 h0 n0 hrun).2 w.heap.size w w S1 m (fun _=>False) cargs hi0 (fun b hb=>hb.elim) (by rw [(bY hfr).1];exact hs) ?_) ?_
 · intro j x' hj
   obtain ⟨x,s1,s2⟩:=iw hfr j x' hj
   exact uT i.obj (fun b hb=>.inl hb) au x x' _ s2 (hv j x s1) fun b hb=>.inr ⟨b,by simp only [List.mem_flatMap];exact ⟨x,List.mem_of_getElem? s1,hb⟩,rfl⟩
 · rintro e w' ⟨cv,rfl,S',m',A',hvr,hinv,hle,hsub,hnn,hA'⟩
   refine ⟨cv,rfl,?_⟩
   simp only [Vt,Bool.and_eq_true,List.all_eq_true] at hk
   obtain ⟨hk1,hk2⟩:=hk
   have hold:∀ c,c < w.heap.size→w'.heap[c]?=w.heap[c]?:=hinv.old
   have hinvB:=hinv.keep (Sn:=S) hk2 (fun c hc=>hle.sub c (.inl hc))
   obtain ⟨j1,j2⟩:=i.data (w':=w') (Sn:=S) hold hinv.size hinv.os hinv.out (fun c hc=>hc) (fun c hc=>Nat.lt_of_lt_of_le (i.sb c hc) hinv.size) [] (fun b hb=>by cases hb) (fun c hc=>.inl hc)
   obtain ⟨k1,k2,k3⟩:=Inv.union (n:=n) (n1:=n0) j1 hinvB hn (fun b hb=>(hA' b hb.1).elim (fun q=>q.elim) (fun q=>q.1)) i.size (fun c o' hc _=>(i.obj c o' hc).lt)
   refine ⟨S,_,_,(UO hk1 hvr).mono k3,k1,j2.trans k2,fun c _ q=>q,hnn,fun b hb=>?_⟩
   rcases hb with q | q
   · exact .inl q
   · rcases hA' b q.1 with z | z
     · exact z.elim
     · exact .inr (.inr z)
theorem aes (hr:mZ P ψ run) {g:Nat} {args az:List AV} {nid n:Nat} {x:AV × Upd × Nat} {cargs:Array Value} (hdb:¬ yD g=true) (hfr:bg (frz h au) args=some az) (hp:qX run g az n=some x)
 (i:Inv ψ N w0 w S m A h) (hn:∀ b,A b→b < n) (hs:cargs.size=args.length) (hv:∀ (j:Nat) (x:AV),args[j]?=some x→VR ψ w S m A x (cargs.getD j Go.undef)) :
 iY P (ψ g) cargs w fun e w'=>∃ cv,e=.returned cv∧∃ S' m' A',VR ψ w' S' m' A' x.1 cv∧Inv ψ N w0 w' S' m' A' (aN h (aV h (args.flatMap (reach h au))++x.2.1))∧Le w S m A w' S' m' A' ∧
  (∀ c,c < N→S' c→S c)∧n≤x.2.2∧∀ b,A' b→A b∨b=nid∨(n≤b∧b < x.2.2):=by
 obtain ⟨⟨v0,h0,n0⟩,hrun,hx⟩:=ak hp
 unfold uV at hx
 rw [if_neg hdb] at hx
 cases hx
 let S1:Nat→Prop:=fun c=>S c∨∃ b ∈ args.flatMap (reach h au),c=(m b).1
 have hreach:∀ b ∈ args.flatMap (reach h au),∃ z es mu,get h b=some (.cells z es mu):=by
  intro b hb
  simp only [List.mem_flatMap] at hb
  obtain ⟨x,hx,hb⟩:=hb
  obtain ⟨j,hj,e⟩:=List.getElem_of_mem hx
  obtain ⟨x',_,h2⟩:=(bY hfr).2 j x (by rw [List.getElem?_eq_getElem hj,e])
  exact kG _ x x' h2 b hb
 have hS1:∀ c,S1 c→c < w.heap.size:=by
  rintro c (hc | ⟨b,hb,rfl⟩)
  · exact i.sb c hc
  · obtain ⟨z,es,mu,hg⟩:=hreach b hb
    exact (i.obj b _ hg).lt
 have hi0:Inv ψ w.heap.size w w S1 m (fun _=>False) ([]:Heap) :=
  ⟨fun b o hb=>by simp [get] at hb,fun b o hb=>by simp [get] at hb,fun b o hb=>by simp [get] at hb,fun b o hb=>by simp [get] at hb,fun b o b' o' hb=>by simp [get] at hb,
   hS1,Nat.le_refl _,fun _ _=>rfl,rfl,rfl⟩
 refine iY.mono ((hr g az [] n v0 h0 n0 hrun).2 w.heap.size w w S1 m (fun _=>False) cargs hi0 (fun b hb=>hb.elim) (by rw [(bY hfr).1];exact hs) ?_) ?_
 · intro j x' hj
   obtain ⟨x,s1,s2⟩:=iw hfr j x' hj
   exact uT i.obj (fun b hb=>.inl hb) au x x' _ s2 (hv j x s1) fun b hb=>.inr ⟨b,by simp only [List.mem_flatMap];exact ⟨x,List.mem_of_getElem? s1,hb⟩,rfl⟩
 · rintro e w' ⟨cv,rfl,S',m',A',hvr,hinv,hle,hsub,hnn,hA'⟩
   refine ⟨cv,rfl,?_⟩
   have hold:∀ c,c < w.heap.size→w'.heap[c]?=w.heap[c]?:=hinv.old
   have h12:∀ c,S1 c→S' c:=hle.sub
   obtain ⟨j1,j2⟩:=i.data (w':=w') (Sn:=S') hold hinv.size hinv.os hinv.out (fun c hc=>h12 c (.inl hc)) hinv.sb (args.flatMap (reach h au))
    (fun b hb=>by
     obtain ⟨z,es,mu,hg⟩:=hreach b hb
     exact ⟨z,es,mu,hg,h12 _ (.inr ⟨b,hb,rfl⟩)⟩)
    (fun c hc=>by
     rcases Nat.lt_or_ge c w.heap.size with hlt | hge
     · rcases hsub c hlt hc with q | q
       · exact .inl q
       · exact .inr (.inl q)
     · exact .inr (.inr hge))
   have hlow:∀ c,c < N→S' c→S c:=by
    intro c hc hs2
    rcases hsub c (Nat.lt_of_lt_of_le hc i.size) hs2 with q | ⟨b,hb,rfl⟩
    · exact q
    · obtain ⟨z,es,mu,hg⟩:=hreach b hb
      cases mu with
      | true=>have:=(i.live b _ hg rfl).2;omega
      | false=>exact i.fro b _ hg rfl
   obtain ⟨k1,k2,k3⟩:=j1.union (n1:=n0) hinv hn (fun b hb=>(hA' b hb).elim (fun q=>q.elim) (fun q=>q.1)) i.size (fun c o' hc hmu=>by
    rcases CQ (h:=h) c (args.flatMap (reach h au)) h with ⟨z',es',mu',r1,r2,r3⟩ | ⟨r1,_⟩
    · rw [r3] at hc;cases hc;cases hmu
    · rw [r1] at hc
      exact (i.obj c o' hc).lt)
   refine ⟨S',_,_,hvr.mono k3,by rw [iT];exact k1,j2.trans k2,hlow,hnn,fun b hb=>?_⟩
   rcases hb with q | q
   · exact .inl q
   · rcases hA' b q with z | z
     · exact z.elim
     · exact .inr (.inr z)
theorem Jj (hr:mZ P ψ run) {C:Prog} {g:Nat} {args:List AV} {nid n:Nat} {d:Called} {cargs:Array Value} (hp:jr C run g args h nid n=some d)
 (i:Inv ψ N w0 w S m A h) (hn:∀ b,A b→b < n) (hnid:¬ A nid) (hs:cargs.size=args.length) (hv:∀ (j:Nat) (x:AV),args[j]?=some x→VR ψ w S m A x (cargs.getD j Go.undef)) :
 (∃ fn c, P.funcs[ψ g]? = some fn ∧ fn.name ≠ "runtime.NumGoroutine" ∧ fn.body = some c) ∧
 iY P (ψ g) cargs w fun e w'=>∃ cv,e=.returned cv∧∃ S' m' A',VR ψ w' S' m' A' (bU h n args d).v cv∧Inv ψ N w0 w' S' m' A' (bU h n args d).h∧Le w S m A w' S' m' A' ∧
  (∀ c,c < N→S' c→S c)∧n≤(bU h n args d).n∧∀ b,A' b→A b∨b=nid∨(n≤b∧b < (bU h n args d).n):=by
 have wide:∀ {w':World} {v:AV} {cv:Value} {h':Heap} {n':Nat},Out ψ N w0 w S m A n w' v cv h' n'→∃ S' m' A',VR ψ w' S' m' A' v cv∧Inv ψ N w0 w' S' m' A' h'∧Le w S m A w' S' m' A' ∧
  (∀ c,c < N→S' c→S c)∧n≤n'∧∀ b,A' b→A b∨b=nid∨(n≤b∧b < n'):=by
  rintro w' v cv h' n' ⟨S',m',A',r1,r2,r3,r4,r5,r6⟩
  exact ⟨S',m',A',r1,r2,r3,r4,r5,fun b hb=>(r6 b hb).imp id .inr⟩
 unfold jr at hp
 split at hp
 · rename_i az hfr
   split at hfr
   · cases hfr
   · obtain ⟨v,hv1,rfl⟩:=aC hp
     refine ⟨?_,(pure_ok hr hfr hv1 i hs hv).mono fun e w' ⟨cv,h1,h2⟩=>⟨cv,h1,wide h2⟩⟩
     obtain ⟨⟨v0,h0,n0⟩,hrun,_⟩:=ak hv1
     exact (hr _ _ _ _ _ _ _ hrun).1
 · split at hp
   · obtain ⟨az,hfr,hp⟩:=ak hp
     obtain ⟨x,hx,rfl⟩:=aC hp
     refine ⟨?_,?_⟩
     · obtain ⟨⟨v0,h0,n0⟩,hrun,_⟩:=ak hx
       exact (hr _ _ _ _ _ _ _ hrun).1
     · simp only [bU]
       unfold Qk
       by_cases hdb:yD g=true
       · rw [if_pos hdb,List.nil_append]
         exact abB hr hdb hfr hx i hn hs hv
       · rw [if_neg hdb]
         exact aes hr hdb hfr hx i hn hs hv
   split at hp
   · obtain ⟨az,hfr,hp⟩:=ak hp
     obtain ⟨x,hx,hend⟩:=ak hp
     refine ⟨?_,?_⟩
     · obtain ⟨⟨v0,h0,n0⟩,hrun,_⟩:=ak hx
       exact (hr _ _ _ _ _ _ _ hrun).1
     · unfold zG at hend
       split at hend
       · cases hend
       · rename_i hbr
         cases hend
         unfold BL
         by_cases hb:tZ g=true
         · simp only [hb,Bool.true_and,Bool.not_eq_true',Bool.not_eq_false] at hbr
           simp only [hb,if_true,bU,List.nil_append]
           exact af2 hr hfr hx (by simpa using hbr) i hnid hs hv
         · simp only [hb,Bool.false_eq_true,if_false,bU]
           exact oK hr hfr hx i hnid hs hv
   · obtain ⟨r,hr1,rfl⟩:=aC hp
     refine ⟨?_,(XY hr hr1 i hn hs hv).mono fun e w' ⟨cv,h1,h2⟩=>⟨cv,h1,wide h2⟩⟩
     obtain ⟨⟨v0,h0,n0⟩,hrun,_⟩:=aC hr1
     exact (hr _ _ _ _ _ _ _ hrun).1
end
end Go.Pav
end
section
set_option linter.unusedSimpArgs false
set_option linter.unusedVariables false
namespace Go.Pav
open Go
def COp.calls:COp→Bool
 | .call _ _=>true
 | .eu _ _=>true
 | _=>false
def dM (x:Option COp):Prop:=∀ c,x=some c→c.calls=false
theorem dM.none:dM none:=fun c h=>by cases h
theorem dM.some {c:COp} (h:c.calls=false):dM (some c):=fun c' h'=>by cases h';exact h
theorem dM.bind {α:Type} {x:Option α} {f:α→Option COp} (h:∀ a,dM (f a)):dM (x >>= f):=by
 intro c hc
 cases x with
 | none=>cases hc
 | some a=>exact h a c hc
theorem dM.map {α:Type} {x:Option α} {f:α→COp} (h:∀ a,(f a).calls=false):dM (x.map f):=by
 intro c hc
 cases x with
 | none=>cases hc
 | some a=>cases hc;exact h a
theorem Rt (kd:Nat) (ks:List Nat) (op:BinOp) (x y:Opd):dM (cEq kd ks op x y):=by
 unfold cEq
 split <;> first | exact dM.some rfl | exact dM.none
theorem DT (P:Program) (φ:FuncId→Option Nat) (b:Builtin) (args:List Operand) (ts:List TypeId):dM (jQ P φ b args ts):=by
 unfold jQ
 split
 all_goals (first | unfold cLen | unfold ai7 | unfold Nv | unfold acK | unfold Tt | unfold acv | skip)
 all_goals (repeat' (first | exact dM.none | exact dM.some rfl | (refine dM.bind fun _=>?_) | split))
theorem Sv (P:Program) (φ:FuncId→Option Nat) (op:Op) (h:∀ c x,op=.call c→c.callee≠.value x):dM (cOp P φ op):=by
 cases op
 case call c =>
  simp only [cOp]
  cases hc:c.callee with
  | value f=>exact absurd hc (h c f rfl)
  | builtin b=>exact DT P φ b _ _
  | invoke r n=>exact dM.none
 case makeFunc fn first caps =>
  cases fn <;> simp only [cOp] <;> first | exact dM.none | skip
  refine dM.bind fun _=>?_
  split
  · exact dM.bind fun _=>dM.some rfl
  · exact dM.none
 case makeMap t r=>cases r <;> simp only [cOp] <;> first | exact dM.none | exact dM.some rfl
 case next x b=>cases b <;> simp only [cOp] <;> first | exact dM.none | exact dM.map (fun _=>rfl)
 all_goals simp only [cOp]
 all_goals (repeat' (first | exact dM.none | exact dM.some rfl | exact dM.map (fun _=>rfl) | exact Rt _ _ _ _ _ | (refine dM.bind fun _=>?_) | split))
theorem Qq {e:Env} {c:COp} (h:c.calls=false):callOf e c=some none:=by
 cases c <;> first | rfl | (simp [COp.calls] at h)
theorem pX {P : Program} {f : FuncId} {fn : Func} {c : Code} (hf : P.funcs[f]? = some fn) (hname : fn.name ≠ "runtime.NumGoroutine") (hb : fn.body = some c) (args : Array Value) (w : World) :
 (callFunc f args).run P w=.ok (.enter f args) w:=by
 simp [callFunc,hf,hname,hb]
section
variable {P:Program} {φ:FuncId→Option Nat} {ψ:Nat→FuncId} {N:Nat} {w0 w:World} {S:Nat→Prop} {m:Nat→Nat × Nat} {A:Nat→Prop} {h:Heap} {e:Env} {a:Act} {o:Oper} {run:Run} {C:Prog}
theorem Xf (cx:Cx P φ ψ N w0 w S m A h e a) {cop:COp} (hc:cOp P φ o.op=some cop) {f:Nat} {args:List AV} (hcall:callOf e cop=some (some (f,args))) :
 ∃ cargs:Array Value,cargs.size=args.length∧(∀ (j:Nat) (x:AV),args[j]?=some x→VR ψ w S m A x (cargs.getD j Go.undef)) ∧
  ∀ fn c, P.funcs[ψ f]? = some fn → fn.name ≠ "runtime.NumGoroutine" → fn.body = some c → (execOp a.eval o).run P w = .ok (.enter (ψ f) cargs) w := by
 have key:∃ c X,o.op=.call c∧c.callee=.value X:=by
  apply Classical.byContradiction
  intro hno
  have:=Sv P φ o.op (fun c x h1 h2=>hno ⟨c,x,h1,h2⟩) cop hc
  rw [Qq this] at hcall
  cases hcall
 obtain ⟨c,X,ho,hX⟩:=key
 have exec : ∀ (F : FuncId) (vs : Array Value), a.eval X = .func (.func F) #[] vs → ∀ fn b, P.funcs[F]? = some fn → fn.name ≠ "runtime.NumGoroutine" → fn.body = some b →
  (execOp a.eval o).run P w=.ok (.enter F (c.args.map a.eval++vs)) w:=by
  intro F vs hev fn b h1 h2 h3
  simp only [execOp,ho,resolve,hX,hev,Deferred.ofValue,invoke,Sem.run_bind,Sem.run_pure,Result.andThen_ok,Array.empty_append]
  exact pX h1 h2 h3 _ w
 have sized:∀ (xs:List Opd) (caps:List AV) (vs:Array Value),Jz φ c.args.toList=some xs→vs.size=caps.length→(∀ (j:Nat) (x:AV),caps[j]?=some x→VR ψ w S m A x (vs.getD j Go.undef)) →
  (c.args.map a.eval++vs).size=(xs.map (fun x=>x.ev e)++caps).length ∧
  ∀ (j:Nat) (x:AV),(xs.map (fun x=>x.ev e)++caps)[j]?=some x→VR ψ w S m A x ((c.args.map a.eval++vs).getD j Go.undef):=by
  intro xs caps vs hxs hn hcs
  obtain ⟨n1,n2⟩:=cx.alM hxs
  refine ⟨by simp [n1,hn],fun j x hj=>?_⟩
  rw [Array.getD_eq_getD_getElem?,Array.getElem?_append]
  rw [List.getElem?_append] at hj
  simp only [List.length_map,Array.size_map] at hj ⊢
  rw [n1]
  split at hj
  · rename_i hlt
    rw [if_pos hlt]
    rw [List.getElem?_map] at hj
    cases hy:xs[j]? with
    | none=>rw [hy] at hj;cases hj
    | some y =>
     rw [hy] at hj
     cases hj
     obtain ⟨x0,r1,r2⟩:=n2 j y hy
     rw [Array.getElem?_map,r1]
     exact r2
  · rename_i hge
    rw [if_neg hge]
    have:=hcs _ x hj
    rwa [Array.getD_eq_getD_getElem?] at this
 rw [ho] at hc
 simp only [cOp,hX] at hc
 split at hc
 · rename_i f0 heq
   cases heq
   simp only [Option.bind_eq_bind,Option.bind_eq_some_iff,Option.some.injEq] at hc
   obtain ⟨g,hg,xs,hxs,rfl⟩:=hc
   simp only [callOf,Option.some.injEq,Prod.mk.injEq] at hcall
   obtain ⟨rfl,rfl⟩:=hcall
   obtain ⟨s1,s2⟩:=sized xs [] #[] hxs rfl (fun j x hj=>by simp at hj)
   refine ⟨c.args.map a.eval++#[],by simpa using s1,fun j x hj=>s2 j x (by simpa using hj),?_⟩
   exact exec (ψ g) #[] (by rw [cx.ids _ _ hg];rfl)
 · rename_i X' _ heq
   cases heq
   simp only [Option.bind_eq_bind,Option.bind_eq_some_iff,Option.some.injEq] at hc
   obtain ⟨g,hg,xs,hxs,rfl⟩:=hc
   simp only [callOf] at hcall
   split at hcall
   · rename_i f' caps hev
     simp only [Option.some.injEq,Prod.mk.injEq] at hcall
     obtain ⟨rfl,rfl⟩:=hcall
     have hv:=cx.opd hg
     rw [hev] at hv
     obtain ⟨vs,e1,n1,r1⟩:=hv.Cm
     obtain ⟨s1,s2⟩:=sized xs caps vs hxs n1 r1
     exact ⟨_,s1,s2,exec (ψ f') vs e1⟩
   · cases hcall
 · rename_i heq;cases heq
 · rename_i heq;cases heq
def U3 (ψ:Nat→FuncId) (N:Nat) (w0 w:World) (S:Nat→Prop) (m:Nat→Nat × Nat) (A:Nat→Prop) (nid n:Nat) (w':World) (cv:Value) (d:Did):Prop :=
 ∃ S' m' A',VR ψ w' S' m' A' d.v cv∧Inv ψ N w0 w' S' m' A' d.h∧Le w S m A w' S' m' A'∧(∀ c,c < N→S' c→S c)∧n≤d.n∧∀ b,A' b→A b∨b=nid∨(n≤b∧b < d.n)
theorem Tf {ops:Array Oper} {tmps:Array Value} {j s:Nat} (hs:(ops[j]?).bind (·.dst)=some s) :
 yielded ops tmps j=match tmps[s]? with | some (.bool b)=>some b | _=>none:=by
 simp only [yielded,hs,Option.bind_some]
 rfl
theorem IU {ops:Array Oper} (env:jO ψ w S m A e a.tmps) {g:Option (Nat × Bool)}
 (hg:(match o.guard with | none=>some none | some (j,w)=>((ops[j]?).bind (·.dst)).map fun d=>some (d,w):Option (Option (Nat × Bool)))=some g) {b:Bool} (hw:wants e g=some b) :
 Region.wanted o (yielded ops a.tmps)=b:=by
 cases hgu:o.guard with
 | none =>
  rw [hgu] at hg
  cases hg
  simp only [wants,Option.some.injEq] at hw
  simp [Region.wanted,hgu,← hw]
 | some jw =>
  obtain ⟨j,want⟩:=jw
  rw [hgu] at hg
  simp only [Option.map_eq_some_iff] at hg
  obtain ⟨s,hs,rfl⟩:=hg
  simp only [wants] at hw
  simp only [Region.wanted,hgu,Tf hs]
  cases hx:get e s with
  | none=>rw [hx] at hw;cases hw
  | some x =>
   have hv:=env s x hx
   rw [hx] at hw
   cases x <;> (try simp only at hw) <;> try (cases hw;done)
   case bool t =>
    have:=hv.iq
    rw [Array.getD_eq_getD_getElem?] at this
    cases hy:a.tmps[s]? with
    | none=>rw [hy] at this;cases this
    | some y =>
     rw [hy] at this
     simp only [Option.getD_some] at this
     subst this
     cases hw
     cases t <;> cases want <;> rfl
   case tup vs =>
    cases vs with
    | nil =>
     cases hw
     obtain ⟨us,e1,_,_⟩:=hv.Vo
     rw [Array.getD_eq_getD_getElem?] at e1
     cases hy:a.tmps[s]? with
     | none=>rfl
     | some y =>
      rw [hy] at e1
      simp only [Option.getD_some] at e1
      subst e1
      rfl
    | cons _ _=>cases hw
theorem abU (hr:mZ P ψ run) {ops:Array Oper} {i:Nat} (hi:ops[i]?=some o) {nid n:Nat} {d:Did} (he:jA C run (bV P φ ops o) nid e h n=some d)
 (cx:Cx P φ ψ N w0 w S m A h e a) (hA:∀ b,A b→b < n) (hnid:¬ A nid) {K:Act→World→Prop} {Q:Exit→Act→World→Prop}
 (hK:∀ cv w',U3 ψ N w0 w S m A nid n w' cv d→K (a.put o.dst cv) w'):wpOp P ops Q i K a w:=by
 have quiet:∀ {d':Did},d'.v=.tup []→d'.h=h→d'.n=n→U3 ψ N w0 w S m A nid n w Go.undef d':=by
  intro d' e1 e2 e3
  refine ⟨S,m,A,?_,?_,Le.refl ..,fun _ _ hs=>hs,by omega,fun b hb=>.inl hb⟩
  · rw [e1];exact .tup [] #[] rfl (by simp)
  · rw [e2];exact cx.inv
 unfold bV at he
 simp only at he
 split at he
 case h_2=>simp only [jA,wants,jl,callOf,aH,zV,om] at he;cases he
 rename_i g cop hg hcop
 unfold wpOp
 simp only [hi]
 unfold jA at he
 simp only at he
 split at he
 · cases he
 · rename_i hw
   cases he
   rw [IU cx.env hg hw]
   simp only [Bool.false_eq_true,if_false]
   exact hK _ _ (quiet rfl rfl rfl)
 · rename_i hw
   rw [IU cx.env hg hw]
   simp only [if_true]
   refine .inl ?_
   unfold Oper.wp
   unfold jl at he
   split at he
   · cases he
   · rename_i f args hcall
     obtain ⟨c,hcd,rfl⟩:=aC he
     obtain ⟨cargs,n1,n2,hex⟩:=Xf cx hcop hcall
     obtain ⟨⟨fn,b,q1,q2,q3⟩,hcalls⟩:=Jj hr hcd cx.inv hA hnid n1 n2
     rw [hex fn b q1 q2 q3]
     simp only [Oper.upon]
     refine Calls.mono hcalls.1 ?_
     rintro e' w' ⟨cv,rfl,S',m',A',r1,r2,r3,r4,r5,r6⟩
     exact hK cv w' ⟨S',m',A',r1,r2,r3,r4,r5,r6⟩
   · rename_i hcall
     obtain ⟨⟨v,u⟩,hst,rfl⟩:=aC he
     obtain ⟨cv,w',S',m',A',hrun,r1,r2,r3,r5,r4⟩:=step_ok cx hcop hst hnid
     have out:U3 ψ N w0 w S m A nid n w' cv ⟨v,aN h u,n,false,readsOf e cop,u.map (·.1)⟩ :=
      ⟨S',m',A',r1,r2,r3,r5,Nat.le_refl _,fun b hb=>(r4 b hb).imp id .inl⟩
     rcases hrun with hrun | ⟨hrun,rfl⟩
     · rw [hrun];exact hK _ _ out
     · rw [hrun];exact hK _ _ out
end
end Go.Pav
end
section
set_option linter.unusedSimpArgs false
set_option linter.unusedVariables false
namespace Go.Pav
open Go
def Hl (r r':Run):Prop:=∀ f args h n x,r f args h n=some x→r' f args h n=some x
theorem bG {α β:Type} {x x':Option α} {f f':α→Option β} {b:β} (h:ob x f=some b) (hx:∀ a,x=some a→x'=some a) (hf:∀ a,f a=some b→f' a=some b):ob x' f'=some b:=by
 cases x with
 | none=>simp [ob] at h
 | some a=>rw [hx a rfl];exact hf a h
theorem kX {α β:Type} {x x':Option α} {f:α→β} {b:β} (h:om x f=some b) (hx:∀ a,x=some a→x'=some a):om x' f=some b:=by
 cases x with
 | none=>simp [om] at h
 | some a=>rw [hx a rfl];exact h
section
variable {C:Prog} {r r':Run}
theorem OQ (hr:Hl r r') {f:Nat} {args:List AV} {h:Heap} {nid n:Nat} {c:Called} (hc:jr C r f args h nid n=some c):jr C r' f args h nid n=some c:=by
 unfold jr at hc ⊢
 split
 · rename_i az ha
   rw [ha] at hc
   exact kX hc fun v hv=>bG hv (fun x hx=>hr _ _ _ _ _ hx) fun x hx=>hx
 · rename_i ha
   rw [ha] at hc
   simp only at hc
   by_cases hd:(C.inl f&&rW f)=true
   · rw [if_pos hd] at hc ⊢
     exact bG hc (fun x hx=>hx) fun az has=>kX has fun v hv=>bG hv (fun x hx=>hr _ _ _ _ _ hx) fun x hx=>hx
   rw [if_neg hd] at hc ⊢
   split
   · rename_i hf
     rw [if_pos hf] at hc
     exact bG hc (fun x hx=>hx) fun az has=>bG has (fun v hv=>bG hv (fun x hx=>hr _ _ _ _ _ hx) fun x hx=>hx) fun x hx=>hx
   · rename_i hf
     rw [if_neg hf] at hc
     exact kX hc fun v hv=>kX hv fun x hx=>hr _ _ _ _ _ hx
theorem Q9 (hr:Hl r r') {op:COp} {nid:Nat} {e:Env} {h:Heap} {n:Nat} {d:Did} (hd:jl C r op nid e h n=some d):jl C r' op nid e h n=some d:=by
 unfold jl at hd ⊢
 split
 · rename_i hc;rw [hc] at hd;cases hd
 · rename_i hc;rw [hc] at hd;exact kX hd fun c hc=>OQ hr hc
 · rename_i hc;rw [hc] at hd;exact hd
theorem IQ (hr:Hl r r') {o:aX} {nid:Nat} {e:Env} {h:Heap} {n:Nat} {d:Did} (hd:jA C r o nid e h n=some d):jA C r' o nid e h n=some d:=by
 unfold jA at hd ⊢
 split
 · rename_i hc;rw [hc] at hd;cases hd
 · rename_i hc;rw [hc] at hd;exact hd
 · rename_i hc;rw [hc] at hd;exact Q9 hr hd
theorem QZ (hr:Hl r r'):∀ (l:List aX) (s s':St),lJ C r l s=some s'→lJ C r' l s=some s':=by
 intro l
 induction l with
 | nil=>intro s s' h;exact h
 | cons o l ih=>intro s s' h;exact bG h (fun d hd=>IQ hr hd) fun d hd=>ih _ _ hd
theorem Pm (hr:Hl r r'):∀ (l:List aX) (nid:Nat) (s:St) (ds:List Did) (x:St × List Did),oU C r l nid s ds=some x→oU C r' l nid s ds=some x:=by
 intro l
 induction l with
 | nil=>intro nid s ds x h;exact h
 | cons o l ih=>intro nid s ds x h;exact bG h (fun d hd=>IQ hr hd) fun d hd=>ih _ _ _ _ hd
theorem MX {ev ev':aY→St→Option (Ex × St)} (he:∀ c s x,ev c s=some x→ev' c s=some x):Hl (runWith C ev) (runWith C ev'):=by
 intro f args h n x hx
 refine bG hx (fun a ha=>ha) fun fn hfn=>?_
 split
 · rename_i hl
   rw [if_pos hl] at hfn
   exact bG hfn (fun a ha=>he _ _ _ ha) fun a ha=>ha
 · rename_i hl
   rw [if_neg hl] at hfn;cases hfn
theorem Hw {b b':St→Option (Ex × St)} (h:∀ s x,b s=some x→b' s=some x) {r:Ex × St} {x:Ex × St} (hx:bW b r=some x):bW b' r=some x:=by
 unfold bW at hx ⊢
 split
 · rename_i hr;rw [hr] at hx;exact h _ _ hx
 · split at hx
   · rename_i h1 _ h2;exact absurd h2 h1
   · exact hx
theorem oV:∀ (n m:Nat),n≤m→∀ (c:aY) (s:St) (x:Ex × St),evC C n c s=some x→evC C m c s=some x:=by
 intro n
 induction n with
 | zero=>intro m _ c s x h;simp only [evC] at h;cases h
 | succ n ih =>
  intro m hm c s x h
  obtain ⟨m,rfl⟩:∃ k,m=k+1:=⟨m - 1,by omega⟩
  have ih':=ih m (by omega)
  have hr:Hl (runWith C (evC C n)) (runWith C (evC C m)):=MX ih'
  cases c with
  | skip=>exact h
  | exit id=>exact h
  | ret=>exact h
  | fail=>exact h
  | vG k=>exact h
  | ops l live=>simp only [evC] at h ⊢;exact bG h (fun s' hs=>QZ hr l s s' hs) fun x hx=>hx
  | draw l un live=>simp only [evC] at h ⊢;exact bG h (fun x hx=>Pm hr l _ _ _ x hx) fun x hx=>hx
  | seq a b=>simp only [evC] at h ⊢;exact bG h (fun x hx=>ih' _ _ _ hx) fun x hx=>Hw (fun s x hx=>ih' _ _ _ hx) hx
  | cond c a b =>
   simp only [evC] at h ⊢
   unfold uz at h ⊢
   split
   · rename_i t hv
     rw [hv] at h
     cases t with
     | true=>exact ih' _ _ _ h
     | false=>exact ih' _ _ _ h
   · split at h
     · rename_i h1 _ t hv;exact absurd hv (h1 t)
     · cases h
  | block id b=>simp only [evC] at h ⊢;exact kX h fun x hx=>ih' _ _ _ hx
  | loop live b=>simp only [evC] at h ⊢;exact bG h (fun x hx=>ih' _ _ _ hx) fun x hx=>Hw (fun s x hx=>ih' _ _ _ hx) hx
end
end Go.Pav
end
section
set_option linter.unusedSimpArgs false
set_option linter.unusedVariables false
namespace Go.Pav
open Go
def Ru (P : Program) (ψ : Nat → FuncId) (g : Nat) (cf : CFn) : Prop := ∃ k, cf = Lm k ∧ (∃ fn c, P.funcs[ψ g]? = some fn ∧ fn.name ≠ "runtime.NumGoroutine" ∧ fn.body = some c) ∧
 ∀ (args:List AV) (v:AV),o7 k args=some v→∀ (h:Heap) (n N:Nat) (w0 w:World) (S:Nat→Prop) (m:Nat→Nat × Nat) (A:Nat→Prop) (cargs:Array Value),Inv ψ N w0 w S m A h→(∀ b,A b→b < n)→cargs.size=args.length →
  (∀ (j:Nat) (x:AV),args[j]?=some x→VR ψ w S m A x (cargs.getD j Go.undef))→iY P (ψ g) cargs w fun e w'=>∃ cv,e=.returned cv∧Out ψ N w0 w S m A n w' v cv h n
structure Linked (P:Program) (Φ:Nat→FuncId→Option Nat) (ψ:Nat→FuncId) (C:Prog):Prop where
 ids:∀ g f k,Φ g f=some k→ψ k=f
 fns:∀ g cf,C.fns.get g=some cf→(∃ fn,P.funcs[ψ g]?=some fn∧(cFn P (Φ g) fn).map GX=some (GX cf))∨Ru P ψ g cf
 mixed:P.follows .mixedOrders=true
def Reach (ψ:Nat→FuncId) (N:Nat) (w0 w:World) (S:Nat→Prop) (m:Nat→Nat × Nat) (A:Nat→Prop) (n:Nat) (a:Act) (s':St) (a':Act) (w':World):Prop :=
 ∃ S' m' A',Inv ψ N w0 w' S' m' A' s'.heap∧jO ψ w' S' m' A' s'.env a'.tmps∧a'.tmps.size=a.tmps.size∧a'.defers=a.defers∧Le w S m A w' S' m' A' ∧
  (∀ c,c < N→S' c→S c)∧n≤s'.next∧∀ b,A' b→A b∨(n≤b∧b < s'.next)
section
variable {P:Program} {φ:FuncId→Option Nat} {ψ:Nat→FuncId} {N:Nat} {w0 w:World} {S:Nat→Prop} {m:Nat→Nat × Nat} {A:Nat→Prop} {a:Act} {run:Run} {C:Prog}
theorem Reach.refl {s:St} (i:Inv ψ N w0 w S m A s.heap) (env:jO ψ w S m A s.env a.tmps):Reach ψ N w0 w S m A s.next a s a w :=
 ⟨S,m,A,i,env,rfl,rfl,Le.refl ..,fun _ _ h=>h,Nat.le_refl _,fun _ h=>.inl h⟩
def kD (T:Nat→Prop) (a a':Act):Prop:=∀ t,T t→a'.tmps.getD t Go.undef=a.tmps.getD t Go.undef
theorem kD.refl (T:Nat→Prop) (a:Act):kD T a a:=fun _ _=>rfl
theorem kD.trans {T:Nat→Prop} {a b c:Act} (h:kD T a b) (k:kD T b c):kD T a c:=fun t ht=>(k t ht).trans (h t ht)
theorem kD.put {T:Nat→Prop} {a:Act} {d:Option Tmp} {v:Value} (h:∀ x,d=some x→¬ T x):kD T a (a.put d v):=by
 intro t ht
 cases d with
 | none=>rfl
 | some x =>
  have hne:x≠t:=fun e=>h x rfl (e ▸ ht)
  simp only [Act.put,Array.getD_eq_getD_getElem?,Array.getElem?_setIfInBounds_ne hne]
def jq (T:Nat→Prop) (ψ:Nat→FuncId) (N:Nat) (w0 w:World) (S:Nat→Prop) (m:Nat→Nat × Nat) (A:Nat→Prop) (n:Nat) (a:Act) (s':St) (a':Act) (w':World):Prop :=
 kD T a a'∧Reach ψ N w0 w S m A n a s' a' w'
theorem Reach.trans {w1:World} {S1:Nat→Prop} {m1:Nat→Nat × Nat} {A1:Nat→Prop} {a1:Act} {n n1:Nat} (hs:a1.tmps.size=a.tmps.size) (hd:a1.defers=a.defers)
 (hle:Le w S m A w1 S1 m1 A1) (hS:∀ c,c < N→S1 c→S c) (hn:n≤n1) (hA:∀ b,A1 b→A b∨(n≤b∧b < n1)) {s2:St} {a2:Act} {w2:World}
 (r:Reach ψ N w0 w1 S1 m1 A1 n1 a1 s2 a2 w2):Reach ψ N w0 w S m A n a s2 a2 w2:=by
 obtain ⟨S2,m2,A2,r1,r2,r3,r4,r5,r6,r7,r8⟩:=r
 refine ⟨S2,m2,A2,r1,r2,r3.trans hs,r4.trans hd,hle.trans r5,fun c hc h=>hS c hc (r6 c hc h),Nat.le_trans hn r7,fun b hb=>?_⟩
 rcases r8 b hb with q | ⟨q1,q2⟩
 · rcases hA b q with q | ⟨q1,q2⟩
   · exact .inl q
   · exact .inr ⟨q1,by omega⟩
 · exact .inr ⟨by omega,q2⟩
theorem Act.F7 (a:Act) (d:Option Tmp) (v:Value):(a.put d v).tmps.size=a.tmps.size:=by
 cases d <;> simp [Act.put]
theorem Act.Dz (a:Act) (d:Option Tmp) (v:Value):(a.put d v).defers=a.defers:=by
 cases d <;> rfl
theorem jO.dL {e:Env} (env:jO ψ w S m A e a.tmps) {d:Option Nat} (hd:∀ x,d=some x→x < a.tmps.size) {v:AV} {cv:Value} (hv:VR ψ w S m A v cv) :
 jO ψ w S m A (dL e d v) (a.put d cv).tmps:=by
 cases d with
 | none=>exact env
 | some d=>exact env.put (hd d rfl) hv
theorem XR (ops:Array Oper) (Q:Exit→Act→World→Prop) (i:Nat) (rest:List Nat) (a:Act) (w:World):wpOps P ops Q (i::rest) a w=wpOp P ops Q i (wpOps P ops Q rest) a w:=wpOps_cons i rest a w
theorem Qy {T:Nat→Prop} (ids:∀ f g,φ f=some g→ψ g=f) (hr:mZ P ψ run) (ops:Array Oper) (Q:Exit→Act→World→Prop) (rest:List Nat):∀ (l:List Oper) (k:Nat),(∀ j o,l[j]?=some o→ops[k+j]?=some o)→∀ (s s':St),lJ C run (l.map (bV P φ ops)) s=some s' →
 ∀ (w:World) (S:Nat→Prop) (m:Nat→Nat × Nat) (A:Nat→Prop) (a:Act),Inv ψ N w0 w S m A s.heap→jO ψ w S m A s.env a.tmps→(∀ b,A b→b < s.next) →
 (∀ o ∈ l,∀ x,o.dst=some x→x < a.tmps.size)→(∀ o ∈ l,∀ x,o.dst=some x→¬ T x)→(∀ a' w',jq T ψ N w0 w S m A s.next a s' a' w'→wpOps P ops Q rest a' w')→wpOps P ops Q (List.range' k l.length++rest) a w:=by
 intro l
 induction l with
 | nil =>
  intro k _ s s' he w S m A a i env hA _ _ hQ
  simp only [List.map_nil,lJ,Option.some.injEq] at he
  subst he
  exact hQ a w ⟨kD.refl _ _,Reach.refl i env⟩
 | cons o l ih =>
  intro k hk s s' he w S m A a i env hA hd hT hQ
  have h0:ops[k]?=some o:=by simpa using hk 0 o rfl
  simp only [List.map_cons,lJ] at he
  obtain ⟨d,hev,he⟩:=ak he
  rw [List.length_cons,List.range'_succ,List.cons_append,XR]
  refine abU hr h0 hev ⟨i,env,ids⟩ (fun b hb=>Nat.lt_succ_of_lt (hA b hb)) (fun hb=>Nat.lt_irrefl _ (hA _ hb)) ?_
  rintro cv w1 ⟨S1,m1,A1,r1,r2,r3,r4,r5,r6⟩
  have hdst:(bV P φ ops o).dst=o.dst:=by unfold bV;simp only;split <;> rfl
  rw [hdst] at he
  have hA1:∀ b,A1 b→A b∨(s.next≤b∧b < d.n):=by
   intro b hb
   rcases r6 b hb with q | q | ⟨q1,q2⟩
   · exact .inl q
   · exact .inr ⟨by omega,by omega⟩
   · exact .inr ⟨by omega,q2⟩
  refine ih (k+1) (fun j o' ho'=>by have:=hk (j+1) o' (by simpa using ho');simpa [Nat.add_assoc,Nat.add_comm 1 j] using this) ⟨dL s.env o.dst d.v,d.h,d.n⟩ s' he w1 S1 m1 A1 (a.put o.dst cv) r2
   ((env.mono r3).dL (hd o List.mem_cons_self) r1) (fun b hb=>?_) (fun o' ho' x hx=>?_) (fun o' ho'=>hT o' (List.mem_cons_of_mem _ ho')) (fun a' w' hre=>?_)
  · rcases hA1 b hb with q | q
    · have:=hA b q;simp only;omega
    · exact q.2
  · rw [Act.F7];exact hd o' (List.mem_cons_of_mem _ ho') x hx
  · exact hQ a' w' ⟨(kD.put (hT o List.mem_cons_self)).trans hre.1,Reach.trans (Act.F7 ..) (Act.Dz ..) r3 r4 (by omega) hA1 hre.2⟩
inductive Fit (P:Program) (φ:FuncId→Option Nat) (nt:Nat):Option Nat→Code→aY→Prop
 | fail (c:Code):Fit P φ nt none c .fail
 | skip:Fit P φ nt none .skip .skip
 | ops (id:Nat) (ops:Array Oper) (live:Nat × List Nat) (hd:∀ o ∈ ops.toList,∀ x,o.dst=some x→x < nt):Fit P φ nt none (.region id ops false) (.ops (ops.toList.map (bV P φ ops)) live)
 | draw (id:Nat) (ops:Array Oper) (live:Nat × List Nat) (hd:∀ o ∈ ops.toList,∀ x,o.dst=some x→x < nt) (he:qA 0 ops.toList=true)
  (hu:(unordered (ancestors ops.toList)).all (fun p=>lV ((ops.toList.map (bV P φ ops)).getD p.1 default) ((ops.toList.map (bV P φ ops)).getD p.2 default))=true) :
  Fit P φ nt none (.region id ops true) (.draw (ops.toList.map (bV P φ ops))
   ((unordered (ancestors ops.toList)).filter fun p=>uS ((ops.toList.map (bV P φ ops)).getD p.1 default).op ((ops.toList.map (bV P φ ops)).getD p.2 default).op) live)
 | seq {a b:Code} {x y:aY} (ha:Fit P φ nt none a x) (hb:Fit P φ nt none b y):Fit P φ nt none (.seq a b) (.seq x y)
 | cond {c:Operand} {c':Opd} {a b:Code} {x y:aY} (hc:fA φ c=some c') (ha:Fit P φ nt none a x) (hb:Fit P φ nt none b y):Fit P φ nt none (.cond c a b) (.cond c' x y)
 | block (id:Nat) (hid:id < iQ) {b:Code} {y:aY} (hb:Fit P φ nt none b y):Fit P φ nt none (.block id b) (.block id y)
 | loop (live:Nat) {b:Code} {y:aY} (hb:Fit P φ nt none b y):Fit P φ nt none (.loop b) (.loop live y)
 | scope {b:Code} {y:aY} (hj:GI b=true) (hb:Fit P φ nt none b y):Fit P φ nt none (.scope b) (.seq y .skip)
 | label (l:Nat):Fit P φ nt none (.label l) .skip
 | exit (id:Nat) (hid:id < iQ):Fit P φ nt none (.exit id) (.exit id)
 | goto (l:Nat):Fit P φ nt none (.goto l) (.exit (gI l))
 | again (l:Nat) {b:Code} {y:aY} (hb:Fit P φ nt (some l) b y):Fit P φ nt none (.scope b) y
 | here (l live:Nat) {b:Code} {y:aY} (hj:dH (fun k=>decide (k=l)) b=true) (hb:Fit P φ nt none b y) :
  Fit P φ nt (some l) (.seq (.label l) b) (.block (lI l) (.loop live (.block (gI l) (.seq y (.exit (lI l))))))
 | on (l:Nat) {a b:Code} {x y:aY} (hj:GI a=true) (hl:findLabel a l=none) (ha:Fit P φ nt none a x) (hb:Fit P φ nt (some l) b y):Fit P φ nt (some l) (.seq a b) (.seq x y)
 | ret:Fit P φ nt none .ret .ret
theorem PN {nt id:Nat} {ops:Array Oper} {d:Bool} (hd:∀ o ∈ ops.toList,∀ x,o.dst=some x→x < nt):Fit P φ nt none (.region id ops d) (J3 P φ ops d):=by
 unfold J3
 cases d with
 | false=>exact .ops id ops (0,[]) hd
 | true =>
  simp only
  split
  · rename_i h
    simp only [Bool.and_eq_true] at h
    exact .draw id ops (0,[]) hd h.1 h.2
  · exact .fail _
theorem LG {a:Code} {l:Nat} (h:Bo a=some l):a=.label l:=by
 cases a <;> simp only [Bo,Option.some.injEq] at h <;> first | (cases h;done) | (rw [h])
theorem Xg {nt:Nat}:∀ (c:Code),dR nt c=true→Fit P φ nt none c (lG P φ c)∧∀ l,gV l c=true→Fit P φ nt (some l) c (JV P φ c):=by
 intro c
 induction c with
 | skip=>intro _;exact ⟨.skip,fun l h=>by simp [gV] at h⟩
 | region id ops d =>
  intro h
  refine ⟨PN fun o ho x hx=>?_,fun l h=>by simp [gV] at h⟩
  simp only [dR,List.all_eq_true] at h
  have:=h o ho
  rw [hx] at this
  exact Nat.blt_eq ▸ this
 | seq a b iha ihb =>
  intro h
  simp only [dR,Bool.and_eq_true] at h
  refine ⟨.seq (iha h.1).1 (ihb h.2).1,fun l hl=>?_⟩
  simp only [gV] at hl
  simp only [JV]
  split at hl
  · rename_i l' hla
    simp only [Bool.and_eq_true,decide_eq_true_eq] at hl
    obtain ⟨rfl,hj⟩:=hl
    rw [LG hla]
    exact .here _ 0 hj (ihb h.2).1
  · rename_i hla
    simp only [Bool.and_eq_true,Option.isNone_iff_eq_none] at hl
    exact .on l hl.1.1 hl.1.2 (iha h.1).1 ((ihb h.2).2 l hl.2)
 | cond c a b iha ihb =>
  intro h
  simp only [dR,Bool.and_eq_true] at h
  refine ⟨?_,fun l h=>by simp [gV] at h⟩
  simp only [lG]
  split
  · rename_i c' hc;exact .cond hc (iha h.1).1 (ihb h.2).1
  · exact .fail _
 | block id b ih =>
  intro h
  simp only [dR,Bool.and_eq_true] at h
  exact ⟨.block id (Nat.blt_eq ▸ h.1) (ih h.2).1,fun l h=>by simp [gV] at h⟩
 | loop b ih=>intro h;exact ⟨.loop 0 (ih h).1,fun l h=>by simp [gV] at h⟩
 | scope b ih =>
  intro h
  simp only [dR,Bool.and_eq_true,Bool.or_eq_true] at h
  refine ⟨?_,fun l h=>by simp [gV] at h⟩
  simp only [lG]
  split
  · rename_i hj;exact .scope hj (ih h.1).1
  · rename_i hj
    have h2:=h.2.resolve_left (by rw [hj];simp)
    split at h2
    · rename_i l hl;exact .again l ((ih h.1).2 l h2)
    · cases h2
 | label l=>intro _;exact ⟨.label l,fun l h=>by simp [gV] at h⟩
 | goto l=>intro _;exact ⟨.goto l,fun l h=>by simp [gV] at h⟩
 | exit id =>
  intro h
  simp only [dR] at h
  exact ⟨.exit id (Nat.blt_eq ▸ h),fun l h=>by simp [gV] at h⟩
 | ret=>intro _;exact ⟨.ret,fun l h=>by simp [gV] at h⟩
 | rangeFunc f ps a b _ _=>intro _;exact ⟨.fail _,fun l h=>by simp [gV] at h⟩
 | refuse w=>intro _;exact ⟨.fail _,fun l h=>by simp [gV] at h⟩
theorem CB {nt:Nat} (c:Code) (h:dR nt c=true):Fit P φ nt none c (lG P φ c):=(Xg c h).1
theorem XG {nt rm:Nat} {sp:Option Nat} {c:Code} {cc:aY} (h:Fit P φ nt sp c cc):∀ (out:Nat) (ex:List (Nat × Nat)),Fit P φ nt sp c (nN rm cc out ex).1:=by
 induction h with
 | fail c=>intro out ex;exact .fail c
 | skip=>intro out ex;exact .skip
 | ops id ops live hd=>intro out ex;exact .ops id ops _ hd
 | draw id ops live hd he hu=>intro out ex;exact .draw id ops _ hd he hu
 | seq _ _ iha ihb=>intro out ex;exact .seq (iha _ _) (ihb _ _)
 | cond hc _ _ iha ihb=>intro out ex;exact .cond hc (iha _ _) (ihb _ _)
 | block id hid _ ih=>intro out ex;exact .block id hid (ih _ _)
 | loop live _ ih=>intro out ex;exact .loop _ (ih _ _)
 | scope hj _ ih=>intro out ex;exact .scope hj (ih _ _)
 | label l=>intro out ex;exact .label l
 | exit id hid=>intro out ex;exact .exit id hid
 | goto l=>intro out ex;exact .goto l
 | again l _ ih=>intro out ex;exact .again l (ih _ _)
 | here l live hj _ ih=>intro out ex;exact .here l _ hj (ih _ _)
 | on l hj hl _ _ iha ihb=>intro out ex;exact .on l hj hl (iha _ _) (ihb _ _)
 | ret=>intro out ex;exact .ret
theorem Ug {nt:Nat} {c:Code} {x:aY} {sp:Option Nat} (h:Fit P φ nt sp c x):∀ y,mz y=mz x→Fit P φ nt sp c y:=by
 induction h with
 | fail c=>intro y hy;cases y <;> simp only [mz] at hy <;> first | (cases hy;done) | exact .fail _
 | skip=>intro y hy;cases y <;> simp only [mz] at hy <;> first | (cases hy;done) | exact .skip
 | label l=>intro y hy;cases y <;> simp only [mz] at hy <;> first | (cases hy;done) | exact .label _
 | scope hj _ ih =>
  intro y hy
  cases y <;> simp only [mz] at hy <;> try (cases hy;done)
  rename_i y1 y2
  simp only [aY.seq.injEq] at hy
  have h2:y2=.skip:=by
   have:=hy.2
   cases y2 <;> simp only [mz] at this <;> first | rfl | (cases this;done)
  rw [h2]
  exact .scope hj (ih _ hy.1)
 | again l _ ih=>intro y hy;exact .again l (ih _ hy)
 | on l hj hl _ _ iha ihb =>
  intro y hy
  cases y <;> simp only [mz] at hy <;> try (cases hy;done)
  simp only [aY.seq.injEq] at hy
  exact .on l hj hl (iha _ hy.1) (ihb _ hy.2)
 | here l live hj _ ih =>
  intro y hy
  cases y <;> simp only [mz] at hy <;> try (cases hy;done)
  rename_i y1
  simp only [aY.block.injEq] at hy
  obtain ⟨rfl,hy⟩:=hy
  cases y1 <;> simp only [mz] at hy <;> try (cases hy;done)
  rename_i m1 y2
  simp only [aY.loop.injEq,true_and] at hy
  cases y2 <;> simp only [mz] at hy <;> try (cases hy;done)
  rename_i y3
  simp only [aY.block.injEq] at hy
  obtain ⟨rfl,hy⟩:=hy
  cases y3 <;> simp only [mz] at hy <;> try (cases hy;done)
  rename_i y4 y5
  simp only [aY.seq.injEq] at hy
  have h5:y5=.exit (lI l):=by
   have:=hy.2
   cases y5 <;> simp only [mz] at this <;> first | (cases this;done) | (cases this;rfl)
  rw [h5]
  exact .here l _ hj (ih _ hy.1)
 | exit id hid=>intro y hy;cases y <;> simp only [mz] at hy <;> first | (cases hy;done) | (cases hy;exact .exit _ hid)
 | goto l=>intro y hy;cases y <;> simp only [mz] at hy <;> first | (cases hy;done) | (cases hy;exact .goto _)
 | ret=>intro y hy;cases y <;> simp only [mz] at hy <;> first | (cases hy;done) | exact .ret
 | ops id ops live hd =>
  intro y hy
  cases y <;> simp only [mz] at hy <;> try (cases hy;done)
  simp only [aY.ops.injEq,and_true] at hy
  rw [hy];exact .ops id ops _ hd
 | draw id ops live hd he hu =>
  intro y hy
  cases y <;> simp only [mz] at hy <;> try (cases hy;done)
  simp only [aY.draw.injEq,and_true] at hy
  rw [hy.1,hy.2];exact .draw id ops _ hd he hu
 | seq _ _ iha ihb =>
  intro y hy
  cases y <;> simp only [mz] at hy <;> try (cases hy;done)
  simp only [aY.seq.injEq] at hy
  exact .seq (iha _ hy.1) (ihb _ hy.2)
 | cond hc _ _ iha ihb =>
  intro y hy
  cases y <;> simp only [mz] at hy <;> try (cases hy;done)
  simp only [aY.cond.injEq] at hy
  rw [hy.1]
  exact .cond hc (iha _ hy.2.1) (ihb _ hy.2.2)
 | block id hid _ ih =>
  intro y hy
  cases y <;> simp only [mz] at hy <;> try (cases hy;done)
  simp only [aY.block.injEq] at hy
  rw [hy.1];exact .block id hid (ih _ hy.2)
 | loop live _ ih =>
  intro y hy
  cases y <;> simp only [mz] at hy <;> try (cases hy;done)
  simp only [aY.loop.injEq,true_and] at hy
  exact .loop _ (ih _ hy)
theorem PW (l:Nat):lI l≠gI l:=by unfold lI gI;omega
theorem DI {m live l:Nat} {y:aY} {s s':St} {ex:Ex} (h:evC C m (.loop live (.block (gI l) (.seq y (.exit (lI l))))) s=some (ex,s')) :
 ∃ k e1 s1,k < m∧evC C k y (iK live s)=some (e1,s1)∧((e1=.norm∧ex=.exit (lI l)∧s'=s1)∨(e1=.exit (gI l)∧∃ m',m' < m∧evC C m' (.loop live (.block (gI l) (.seq y (.exit (lI l))))) s1=some (ex,s')) ∨
  (e1=.ret∧ex=.ret∧s'=s1)∨(∃ j,e1=.exit j∧j≠gI l∧ex=.exit j∧s'=s1)):=by
 match m,h with
 | 0,h=>simp only [evC] at h;cases h
 | 1,h=>simp only [evC,ob] at h;cases h
 | 2,h=>simp only [evC,ob,om] at h;cases h
 | k+3,h =>
  rw [evC] at h
  obtain ⟨⟨e2,s2⟩,h2,h⟩:=ak h
  rw [evC] at h2
  obtain ⟨⟨e3,s3⟩,h3,h2⟩:=aC h2
  rw [evC] at h3
  obtain ⟨⟨e1,s1⟩,h1,h3⟩:=ak h3
  refine ⟨k,e1,s1,by omega,h1,?_⟩
  cases e1 with
  | norm =>
   simp only [bW] at h3
   cases k with
   | zero=>simp only [evC] at h3;cases h3
   | succ k =>
    simp only [evC,Option.some.injEq,Prod.mk.injEq] at h3
    obtain ⟨rfl,rfl⟩:=h3
    simp only [dh,if_neg (PW l)] at h2
    cases h2
    simp only [bW,Option.some.injEq,Prod.mk.injEq] at h
    exact .inl ⟨rfl,h.1.symm,h.2.symm⟩
  | ret =>
   simp only [bW,Option.some.injEq,Prod.mk.injEq] at h3
   obtain ⟨rfl,rfl⟩:=h3
   simp only [dh] at h2
   cases h2
   simp only [bW,Option.some.injEq,Prod.mk.injEq] at h
   exact .inr (.inr (.inl ⟨rfl,h.1.symm,h.2.symm⟩))
  | exit j =>
   simp only [bW,Option.some.injEq,Prod.mk.injEq] at h3
   obtain ⟨rfl,rfl⟩:=h3
   simp only [dh] at h2
   by_cases hj:j=gI l
   · rw [if_pos hj] at h2
     cases h2
     exact .inr (.inl ⟨by rw [hj],k+2,by omega,h⟩)
   · rw [if_neg hj] at h2
     cases h2
     simp only [bW,Option.some.injEq,Prod.mk.injEq] at h
     exact .inr (.inr (.inr ⟨j,rfl,hj,h.1.symm,h.2.symm⟩))
theorem Eo {nt:Nat}:∀ (n:Nat) {sp:Option Nat} {c:Code} {cc:aY},Fit P φ nt sp c cc→∀ (s s':St) (i:Nat),evC C n cc s=some (.exit i,s') →
 i < iQ∨∃ l,i=gI l∧∀ p,dH p c=true→p l=true:=by
 intro n
 induction n with
 | zero=>intro sp c cc _ s s' i he;simp only [evC] at he;cases he
 | succ n ih =>
  have spine:∀ {l:Nat} {c:Code} {cc:aY},Fit P φ nt (some l) c cc→∀ (s s':St) (i:Nat),evC C (n+1) cc s=some (.exit i,s')→i < iQ∨∃ l,i=gI l∧∀ p,dH p c=true→p l=true:=by
   intro l c cc hf s s' i he
   cases hf with
   | on _ hj hl ha hb =>
    simp only [evC] at he
    obtain ⟨⟨e1,s1⟩,h1,he⟩:=ak he
    cases e1 with
    | norm =>
     rcases ih hb _ _ _ he with q | ⟨l,q1,q2⟩
     · exact .inl q
     · exact .inr ⟨l,q1,fun p hp=>by simp only [dH,Bool.and_eq_true] at hp;exact q2 p hp.2⟩
    | exit j =>
     simp only [bW,Option.some.injEq,Prod.mk.injEq,Ex.exit.injEq] at he
     obtain ⟨rfl,rfl⟩:=he
     rcases ih ha _ _ _ h1 with q | ⟨l,q1,q2⟩
     · exact .inl q
     · exact .inr ⟨l,q1,fun p hp=>by simp only [dH,Bool.and_eq_true] at hp;exact q2 p hp.1⟩
    | ret=>simp [bW] at he
   | @here _ live _ y hj hb =>
    rw [evC] at he
    obtain ⟨⟨e1,s1⟩,h1,he⟩:=aC he
    have loop:∀ (m:Nat),m≤n→∀ s s1 j,evC C m (.loop live (.block (gI l) (.seq y (.exit (lI l))))) s=some (.exit j,s1)→j=lI l∨j < iQ:=by
     intro m
     induction m using Nat.strongRecOn with
     | _ m ihm =>
      intro hm s s1 j h
      obtain ⟨k,e1,s2,hk,hy,hc⟩:=DI h
      rcases hc with ⟨_,q,_⟩ | ⟨_,m',hm',q⟩ | ⟨_,q,_⟩ | ⟨i,rfl,q1,q2,_⟩
      · cases q;exact .inl rfl
      · exact ihm m' hm' (by omega) _ _ _ q
      · cases q
      · cases q2
        rcases ih hb _ _ _ (oV k n (by omega) _ _ _ hy) with z | ⟨l',z1,z2⟩
        · exact .inr z
        · have:=z2 _ hj
          simp only [decide_eq_true_eq] at this
          exact absurd (by rw [z1,this]) q1
    cases e1 with
    | norm=>simp [dh] at he
    | ret=>simp [dh] at he
    | exit j =>
     simp only [dh] at he
     split at he
     · cases he
     · rename_i hne
       cases he
       exact .inl ((loop n (Nat.le_refl _) _ _ _ h1).resolve_left hne)
  intro sp c cc hf s s' i he
  cases hf with
  | here l live hj hb=>exact spine (.here l live hj hb) _ _ _ he
  | again l hb =>
   rcases spine hb _ _ _ he with q | ⟨l,q1,q2⟩
   · exact .inl q
   · exact .inr ⟨l,q1,fun p hp=>by simp only [dH] at hp;exact q2 p hp⟩
  | on l hj hl ha hb=>exact spine (.on l hj hl ha hb) _ _ _ he
  | fail=>simp only [evC] at he;cases he
  | skip=>simp only [evC] at he;cases he
  | label=>simp only [evC] at he;cases he
  | ret=>simp only [evC] at he;cases he
  | exit id hid=>simp only [evC,Option.some.injEq,Prod.mk.injEq,Ex.exit.injEq] at he;exact .inl (he.1 ▸ hid)
  | goto l=>simp only [evC,Option.some.injEq,Prod.mk.injEq,Ex.exit.injEq] at he;exact .inr ⟨l,he.1.symm,fun p hp=>by simpa [dH] using hp⟩
  | ops id ops live hd=>simp only [evC] at he;obtain ⟨s1,_,he⟩:=ak he;obtain ⟨s2,_,he⟩:=aC he;cases he
  | draw id ops live hd h1 h2 =>
   simp only [evC] at he
   obtain ⟨s1,_,he⟩:=ak he
   unfold zU at he
   split at he
   · obtain ⟨s2,_,he⟩:=aC he;cases he
   · cases he
  | seq ha hb =>
   simp only [evC] at he
   obtain ⟨⟨e1,s1⟩,h1,he⟩:=ak he
   cases e1 with
   | norm =>
    rcases ih hb _ _ _ he with q | ⟨l,q1,q2⟩
    · exact .inl q
    · exact .inr ⟨l,q1,fun p hp=>by simp only [dH,Bool.and_eq_true] at hp;exact q2 p hp.2⟩
   | exit j =>
    simp only [bW,Option.some.injEq,Prod.mk.injEq,Ex.exit.injEq] at he
    obtain ⟨rfl,rfl⟩:=he
    rcases ih ha _ _ _ h1 with q | ⟨l,q1,q2⟩
    · exact .inl q
    · exact .inr ⟨l,q1,fun p hp=>by simp only [dH,Bool.and_eq_true] at hp;exact q2 p hp.1⟩
   | ret=>simp [bW] at he
  | cond hc ha hb =>
   simp only [evC] at he
   unfold uz at he
   split at he
   · rename_i t _
     cases t with
     | true =>
      rcases ih ha _ _ _ he with q | ⟨l,q1,q2⟩
      · exact .inl q
      · exact .inr ⟨l,q1,fun p hp=>by simp only [dH,Bool.and_eq_true] at hp;exact q2 p hp.1⟩
     | false =>
      rcases ih hb _ _ _ he with q | ⟨l,q1,q2⟩
      · exact .inl q
      · exact .inr ⟨l,q1,fun p hp=>by simp only [dH,Bool.and_eq_true] at hp;exact q2 p hp.2⟩
   · cases he
  | block id hid hb =>
   simp only [evC] at he
   obtain ⟨⟨e1,s1⟩,h1,he⟩:=aC he
   cases e1 with
   | norm=>simp [dh] at he
   | ret=>simp [dh] at he
   | exit j =>
    simp only [dh] at he
    split at he
    · cases he
    · cases he
      rcases ih hb _ _ _ h1 with q | ⟨l,q1,q2⟩
      · exact .inl q
      · exact .inr ⟨l,q1,fun p hp=>by simp only [dH] at hp;exact q2 p hp⟩
  | loop live hb =>
   simp only [evC] at he
   obtain ⟨⟨e1,s1⟩,h1,he⟩:=ak he
   cases e1 with
   | norm=>exact ih (.loop live hb) _ _ _ he
   | exit j =>
    simp only [bW,Option.some.injEq,Prod.mk.injEq,Ex.exit.injEq] at he
    obtain ⟨rfl,rfl⟩:=he
    rcases ih hb _ _ _ h1 with q | ⟨l,q1,q2⟩
    · exact .inl q
    · exact .inr ⟨l,q1,fun p hp=>by simp only [dH] at hp;exact q2 p hp⟩
   | ret=>simp [bW] at he
  | scope hj hb =>
   simp only [evC] at he
   obtain ⟨⟨e1,s1⟩,h1,he⟩:=ak he
   cases e1 with
   | norm =>
    simp only [bW] at he
    cases n with
    | zero=>simp only [evC] at he;cases he
    | succ k=>simp only [evC] at he;cases he
   | exit j =>
    simp only [bW,Option.some.injEq,Prod.mk.injEq,Ex.exit.injEq] at he
    obtain ⟨rfl,rfl⟩:=he
    rcases ih hb _ _ _ h1 with q | ⟨l,q1,q2⟩
    · exact .inl q
    · exact .inr ⟨l,q1,fun p hp=>by simp only [dH] at hp;exact q2 p hp⟩
   | ret=>simp [bW] at he
def RJ (P:Program) (φ:FuncId→Option Nat) (ψ:Nat→FuncId) (C:Prog) (run:Run):Prop :=
 ∀ (nt id:Nat) (ops:Array Oper) (un:List (Nat × Nat)) (live:Nat × List Nat) (T:Nat→Prop),(∀ t,T t→gy t (.region id ops true)=false)→Fit P φ nt none (.region id ops true) (.draw (ops.toList.map (bV P φ ops)) un live) →
  ∀ (s:St) (r:St × List Did),oU C run (ops.toList.map (bV P φ ops)) s.next ⟨s.env,s.heap,s.next+(ops.toList.map (bV P φ ops)).length⟩ []=some r→un.all (apart r.2)=true →
  ∀ (N:Nat) (w0 w:World) (S:Nat→Prop) (m:Nat→Nat × Nat) (A:Nat→Prop) (a:Act) (Q:Exit→Act→World→Prop),Inv ψ N w0 w S m A s.heap→jO ψ w S m A s.env a.tmps→(∀ b,A b→b < s.next) →
  a.tmps.size=nt→(∀ a' w',jq T ψ N w0 w S m A s.next a r.1 a' w'→Q .normal a' w')→(Code.region id ops true).wp P Q a w
def Ex.out:Ex→Exit
 | .norm=>.normal
 | .exit id=>if id < iQ then .exit id else .goto ((id - 1000000) / 2)
 | .ret=>.ret
theorem rX {id:Nat} (h:id < iQ):(Ex.exit id).out=.exit id:=by simp only [Ex.out,if_pos h]
theorem Oh (l:Nat):(Ex.exit (gI l)).out=.goto l:=by
 have h:¬ gI l < iQ:=by unfold gI iQ;omega
 simp only [Ex.out,if_neg h,Exit.goto.injEq]
 unfold gI;omega
theorem Oq {R:Act→World→Prop} {Q:Exit→Act→World→Prop} {a:Act} {w:World} {id:Nat} (h:Q (Ex.exit id).out a w):Exit.then R Q (Ex.exit id).out a w:=by
 revert h
 unfold Ex.out
 simp only
 split <;> exact fun h=>h
def AA (P:Program) (c:Code) (Q:Exit→Act→World→Prop) (a:Act) (w:World):Prop :=
 ∀ (b:Frame) (k:List Item) (cs:List Frame),∃ e a' w',Q e a' w'∧Arrives P (lone (b.at a (.code c::.inLoop c::k)) cs w) b k cs e a' w'
theorem AA.wp {c:Code} {Q:Exit→Act→World→Prop} (h:AA P c Q a w):(Code.loop c).wp P Q a w:=by
 intro b k cs
 obtain ⟨e,a',w',hq,harr⟩:=h b k cs
 exact ⟨e,a',w',hq,.of_steps (.one step_loop) harr⟩
theorem AA.step {c:Code} {Q:Exit→Act→World→Prop} (h:c.wp P (Exit.then (AA P c Q) Q) a w):AA P c Q a w:=by
 intro b k cs
 obtain ⟨e,a₁,w₁,hq,harr⟩:=h b (.inLoop c::k) cs
 cases e with
 | normal =>
  obtain ⟨e₂,a₂,w₂,hq₂,harr₂⟩:=hq b k cs
  exact ⟨e₂,a₂,w₂,hq₂,.of_steps (Steps.trans harr (.one step_inLoop)) harr₂⟩
 | exit id=>exact ⟨_,a₁,w₁,hq,.pass (x:=.inLoop c) rfl (fun _ _=>.inl (by simp)) harr⟩
 | goto l=>exact ⟨_,a₁,w₁,hq,.pass (x:=.inLoop c) rfl (fun _ _=>.inl (by simp)) harr⟩
 | ret=>exact ⟨_,a₁,w₁,hq,.pass (x:=.inLoop c) rfl (fun _ _=>.inl (by simp)) harr⟩
 | panic ch=>exact ⟨_,a₁,w₁,hq,.pass (x:=.inLoop c) rfl (fun _ _=>.inl (by simp)) harr⟩
 | outgrown=>exact ⟨_,a₁,w₁,hq,.pass (x:=.inLoop c) rfl (fun _ _=>.inl (by simp)) harr⟩
def qW (P:Program) (φ:FuncId→Option Nat) (ψ:Nat→FuncId) (C:Prog) (fuel:Nat):Prop :=
 ∀ (nt:Nat) (c:Code) (cc:aY),Fit P φ nt none c cc→∀ (T:Nat→Prop),(∀ t,T t→gy t c=false)→∀ (s:St) (ex:Ex) (s':St),evC C fuel cc s=some (ex,s') →
  ∀ (N:Nat) (w0 w:World) (S:Nat→Prop) (m:Nat→Nat × Nat) (A:Nat→Prop) (a:Act) (Q:Exit→Act→World→Prop),Inv ψ N w0 w S m A s.heap→jO ψ w S m A s.env a.tmps→(∀ b,A b→b < s.next) →
  a.tmps.size=nt→(∀ a' w',jq T ψ N w0 w S m A s.next a s' a' w'→Q ex.out a' w')→c.wp P Q a w∧∀ b,c=.loop b→AA P b Q a w
theorem jO.drop {s':St} {t:Array Value} (h:jO ψ w S m A s'.env t) (live:Nat):jO ψ w S m A (iK live s').env t:=by
 unfold iK
 simp only
 split
 · exact h
 · exact h.keep live
theorem Reach.drop {n live:Nat} {s':St} {a':Act} {w':World} (r:Reach ψ N w0 w S m A n a s' a' w'):Reach ψ N w0 w S m A n a (iK live s') a' w':=by
 obtain ⟨S2,m2,A2,r1,r2,r3⟩:=r
 exact ⟨S2,m2,A2,r1,r2.drop live,r3⟩
theorem Reach.frz {n k:Nat} {s' s2:St} {a':Act} {w':World} (r:Reach ψ N w0 w S m A n a s' a' w') (h:ED k s'=some s2):Reach ψ N w0 w S m A n a s2 a' w':=by
 obtain ⟨S2,m2,A2,i,env,hsz,hdf,le,hS,hn,hA⟩:=r
 obtain ⟨v,hv,h⟩:=ak h
 obtain ⟨v',hf,rfl⟩:=aC h
 have hreach:∀ b ∈ reach s'.heap au v,∃ z es mu,get s'.heap b=some (.cells z es mu):=kG _ v v' hf
 obtain ⟨j1,j2⟩:=i.data (w':=w') (Sn:=fun c=>S2 c∨∃ b ∈ reach s'.heap au v,c=(m2 b).1) (fun _ _=>rfl) (Nat.le_refl _) rfl rfl (fun _ hc=>.inl hc)
  (fun c hc=>by
   rcases hc with hc | ⟨b,hb,rfl⟩
   · exact i.sb c hc
   · obtain ⟨z,es,mu,hg⟩:=hreach b hb
     exact (i.obj b _ hg).lt)
  (reach s'.heap au v)
  (fun b hb=>by
   obtain ⟨z,es,mu,hg⟩:=hreach b hb
   exact ⟨z,es,mu,hg,.inr ⟨b,hb,rfl⟩⟩)
  (fun c hc=>hc.elim .inl fun q=>.inr (.inl q))
 refine ⟨fun c=>S2 c∨∃ b ∈ reach s'.heap au v,c=(m2 b).1,m2,A2,j1,?_,hsz,hdf,le.trans j2,?_,hn,hA⟩
 · intro sl x hx
   simp only [dL,get_put] at hx
   split at hx
   · rename_i hk
     cases hx
     subst hk
     have hro:=uT (S':=fun c=>S2 c∨∃ b ∈ reach s'.heap au v,c=(m2 b).1) i.obj (fun b hb=>.inl hb) au v v' _ hf (env k v hv) fun b hb=>.inr ⟨b,hb,rfl⟩
     exact hro.mono' (fun _ _=>rfl) (fun _ c _ _ h=>⟨c,h,rfl⟩) (fun _ h=>h) (fun _ h=>h.elim) (fun _ h=>h.elim)
   · exact (env sl x hx).mono j2
 · intro c hc hs
   rcases hs with q | ⟨b,hb,rfl⟩
   · exact hS c hc q
   · obtain ⟨z,es,mu,hg⟩:=hreach b hb
     cases mu with
     | true=>have:=(i.live b _ hg rfl).2;omega
     | false=>exact hS _ hc (i.fro b _ hg rfl)
theorem Reach.Yw {n:Nat} {a':Act} {w':World}:∀ (l:List Nat) {s' s2:St},Reach ψ N w0 w S m A n a s' a' w'→kV l s'=some s2→Reach ψ N w0 w S m A n a s2 a' w'
 | [],s',s2,r,h=>by simp only [kV,Option.some.injEq] at h;exact h ▸ r
 | k::l,s',s2,r,h=>by
  simp only [kV] at h
  obtain ⟨s1,h1,h2⟩:=ak h
  exact Reach.Yw l (r.frz h1) h2
theorem Reach.ku {n:Nat} {live:Nat × List Nat} {s' s2:St} {a':Act} {w':World} (r:Reach ψ N w0 w S m A n a s' a' w') (h:Pav.ku live s'=some s2):Reach ψ N w0 w S m A n a s2 a' w':=by
 obtain ⟨s1,h1,rfl⟩:=aC h
 exact (r.Yw _ h1).drop
theorem jq.ku {T:Nat→Prop} {n:Nat} {live:Nat × List Nat} {s' s2:St} {a':Act} {w':World} (r:jq T ψ N w0 w S m A n a s' a' w') (h:Pav.ku live s'=some s2):jq T ψ N w0 w S m A n a s2 a' w' :=
 ⟨r.1,r.2.ku h⟩
theorem jq.trans {T:Nat→Prop} {w1:World} {S1:Nat→Prop} {m1:Nat→Nat × Nat} {A1:Nat→Prop} {a1:Act} {n n1:Nat} (hk:kD T a a1) (hs:a1.tmps.size=a.tmps.size) (hd:a1.defers=a.defers)
 (hle:Le w S m A w1 S1 m1 A1) (hS:∀ c,c < N→S1 c→S c) (hn:n≤n1) (hA:∀ b,A1 b→A b∨(n≤b∧b < n1)) {s2:St} {a2:Act} {w2:World}
 (r:jq T ψ N w0 w1 S1 m1 A1 n1 a1 s2 a2 w2):jq T ψ N w0 w S m A n a s2 a2 w2:=⟨hk.trans r.1,Reach.trans hs hd hle hS hn hA r.2⟩
def iy (l:Nat) (e:Ex):Exit:=match e with
 | .exit i=>if i=lI l then .normal else (Ex.exit i).out
 | e=>e.out
theorem Xd {fuel nt l:Nat} (ih:qW P φ ψ C fuel) {live:Nat} {b whole:Code} {y:aY} (hj:dH (fun k=>decide (k=l)) b=true) (hf:Fit P φ nt none b y) (hw:findLabel whole l=some (.seq .skip b)) {T:Nat→Prop} (hT:∀ t,T t→gy t b=false) :
 ∀ (n:Nat),n≤fuel+1→∀ (s:St) (ex:Ex) (s':St),evC C n (.loop live (.block (gI l) (.seq y (.exit (lI l))))) s=some (ex,s') →
 ∀ (N:Nat) (w0 w:World) (S:Nat→Prop) (m:Nat→Nat × Nat) (A:Nat→Prop) (a:Act) (Q:Exit→Act→World→Prop),Inv ψ N w0 w S m A s.heap→jO ψ w S m A s.env a.tmps→(∀ b,A b→b < s.next) →
 a.tmps.size=nt→(∀ a' w',jq T ψ N w0 w S m A s.next a s' a' w'→Q (iy l ex) a' w') →
 ∀ (f:Go.Frame) (k:List Item) (cs:List Go.Frame),∃ e a' w',Q e a' w'∧Arrives P (lone (f.at a (.code b::.inScope whole::k)) cs w) f k cs e a' w':=by
 intro n
 induction n using Nat.strongRecOn with
 | _ n ihn =>
  intro hn s ex s' he N w0 w S m A a Q i env hA hsz hQ f k cs
  obtain ⟨k1,e1,s1,hk,hy,hc⟩:=DI he
  obtain ⟨e,a1,w1,⟨rfl,hk1,hre⟩,harr⟩:=(ih nt b y hf T hT (iK live s) e1 s1 (oV k1 fuel (by omega) _ _ _ hy) N w0 w S m A a (fun e a' w'=>e=e1.out∧jq T ψ N w0 w S m A s.next a s1 a' w') i (env.drop live) hA hsz (fun a' w' h=>⟨rfl,h⟩)).1 f (.inScope whole::k) cs
  rcases hc with ⟨rfl,rfl,rfl⟩ | ⟨rfl,m',hm',he'⟩ | ⟨rfl,rfl,rfl⟩ | ⟨j,rfl,hne,rfl,rfl⟩
  · refine ⟨.normal,a1,w1,?_,Steps.trans harr (.one step_inScope)⟩
    have:=hQ a1 w1 ⟨hk1,hre⟩
    simpa only [iy,if_pos] using this
  · rw [Oh] at harr
    have hg:gotoIn l (.inScope whole::k)=some (.code (.seq .skip b)::.inScope whole::k):=by simp [gotoIn,hw]
    have hs:=harr _ hg
    obtain ⟨S1,m1,A1,r1,r2,r3,r4,r5,r6,r7,r8⟩:=hre
    obtain ⟨e2,a2,w2,hq2,harr2⟩:=ihn m' hm' (by omega) s1 ex s' he' N w0 w1 S1 m1 A1 a1 Q r1 r2 (fun b hb=>by
     rcases r8 b hb with q | q
     · have:=hA b q;omega
     · exact q.2) (r3.trans hsz) (fun a' w' h=>hQ a' w' (jq.trans hk1 r3 r4 r5 r6 r7 r8 h)) f k cs
    exact ⟨e2,a2,w2,hq2,.of_steps (Steps.trans hs (.head step_seq (.one step_skip))) harr2⟩
  · exact ⟨.ret,a1,w1,hQ a1 w1 ⟨hk1,hre⟩,harr⟩
  · have hlt:j < iQ:=by
     rcases Eo k1 hf _ _ _ hy with z | ⟨l',z1,z2⟩
     · exact z
     · have:=z2 _ hj
       simp only [decide_eq_true_eq] at this
       exact absurd (by rw [z1,this]) hne
    rw [rX hlt] at harr
    refine ⟨.exit j,a1,w1,?_,fun k' hk'=>harr k' (by simp [exitTo,hk'])⟩
    have:=hQ a1 w1 ⟨hk1,hre⟩
    have hno:j≠lI l:=by unfold lI iQ at *;omega
    simpa only [iy,if_neg hno,rX hlt] using this
theorem Z8 {fuel nt l:Nat} (ih:qW P φ ψ C fuel) {whole:Code} {T:Nat→Prop}:∀ (c:Code) (cc:aY),Fit P φ nt (some l) c cc→findLabel whole l=findLabel c l→(∀ t,T t→gy t c=false) →
 ∀ (n:Nat),n≤fuel+1→∀ (s:St) (ex:Ex) (s':St),evC C n cc s=some (ex,s') →
 ∀ (N:Nat) (w0 w:World) (S:Nat→Prop) (m:Nat→Nat × Nat) (A:Nat→Prop) (a:Act) (Q:Exit→Act→World→Prop),Inv ψ N w0 w S m A s.heap→jO ψ w S m A s.env a.tmps→(∀ b,A b→b < s.next) →
 a.tmps.size=nt→(∀ a' w',jq T ψ N w0 w S m A s.next a s' a' w'→Q ex.out a' w') →
 ∀ (f:Go.Frame) (k:List Item) (cs:List Go.Frame),∃ e a' w',Q e a' w'∧Arrives P (lone (f.at a (.code c::.inScope whole::k)) cs w) f k cs e a' w':=by
 intro c
 induction c with
 | seq a0 b _ ihb =>
  intro cc hf hw hT n hn s ex s' he N w0 w S m A a Q i env hA hsz hQ f k cs
  have hTb:∀ t,T t→gy t b=false:=fun t ht=>by have:=hT t ht;simp only [gy,Bool.or_eq_false_iff] at this;exact this.2
  have hTa:∀ t,T t→gy t a0=false:=fun t ht=>by have:=hT t ht;simp only [gy,Bool.or_eq_false_iff] at this;exact this.1
  cases hf with
  | @here _ live _ y hj hb =>
   match n,he with
   | 0,he=>simp only [evC] at he;cases he
   | n+1,he =>
    rw [evC] at he
    obtain ⟨⟨e1,s1⟩,h1,he⟩:=aC he
    have hw':findLabel whole l=some (.seq .skip b):=by rw [hw];simp [findLabel]
    have hs1:s1=s':=by
     unfold dh at he
     split at he
     · split at he <;> cases he <;> rfl
     · cases he;rfl
    subst hs1
    obtain ⟨e2,a2,w2,hq2,harr2⟩:=Xd ih hj hb hw' hTb n (by omega) s e1 s1 h1 N w0 w S m A a Q i env hA hsz (fun a' w' h=>by
     have hq:=hQ a' w' h
     cases e1 with
     | norm=>simp only [dh,Prod.mk.injEq] at he;rw [← he.1] at hq;exact hq
     | ret=>simp only [dh,Prod.mk.injEq] at he;rw [← he.1] at hq;exact hq
     | exit j =>
      simp only [dh] at he
      simp only [iy]
      by_cases hj':j=lI l
      · rw [if_pos hj'] at he ⊢
        simp only [Prod.mk.injEq] at he
        rw [← he.1] at hq;exact hq
      · rw [if_neg hj'] at he ⊢
        simp only [Prod.mk.injEq] at he
        rw [← he.1] at hq;exact hq) f k cs
    exact ⟨e2,a2,w2,hq2,.of_steps (.head step_seq (.one step_label)) harr2⟩
  | @on _ _ _ x y hj hl ha hb =>
   match n,he with
   | 0,he=>simp only [evC] at he;cases he
   | n+1,he =>
    rw [evC] at he
    obtain ⟨⟨e1,s1⟩,h1,he⟩:=ak he
    obtain ⟨e,a1,w1,⟨rfl,hk1,hre⟩,harr⟩:=(ih nt a0 x ha T hTa s e1 s1 (oV n fuel (by omega) _ _ _ h1) N w0 w S m A a (fun e a' w'=>e=e1.out∧jq T ψ N w0 w S m A s.next a s1 a' w') i env hA hsz (fun a' w' h=>⟨rfl,h⟩)).1 f (.code b::.inScope whole::k) cs
    cases e1 with
    | norm =>
     simp only [bW] at he
     obtain ⟨S1,m1,A1,r1,r2,r3,r4,r5,r6,r7,r8⟩:=hre
     have hwb:findLabel whole l=findLabel b l:=by rw [hw];simp [findLabel,hl]
     obtain ⟨e2,a2,w2,hq2,harr2⟩:=ihb y hb hwb hTb n (by omega) s1 ex s' he N w0 w1 S1 m1 A1 a1 Q r1 r2 (fun b hb=>by
      rcases r8 b hb with q | q
      · have:=hA b q;omega
      · exact q.2) (r3.trans hsz) (fun a' w' h=>hQ a' w' (jq.trans hk1 r3 r4 r5 r6 r7 r8 h)) f k cs
     exact ⟨e2,a2,w2,hq2,.of_steps (.head step_seq harr) harr2⟩
    | ret =>
     simp only [bW,Option.some.injEq,Prod.mk.injEq] at he
     obtain ⟨rfl,rfl⟩:=he
     exact ⟨.ret,a1,w1,hQ a1 w1 ⟨hk1,hre⟩,.of_steps (.one step_seq) harr⟩
    | exit j =>
     simp only [bW,Option.some.injEq,Prod.mk.injEq] at he
     obtain ⟨rfl,rfl⟩:=he
     have hlt:j < iQ:=by
      rcases Eo n ha _ _ _ h1 with z | ⟨l',z1,z2⟩
      · exact z
      · have:=z2 _ hj;cases this
     have hq:=hQ a1 w1 ⟨hk1,hre⟩
     rw [rX hlt] at harr hq
     exact ⟨.exit j,a1,w1,hq,fun k' hk'=>.head step_seq (harr k' (by simp [exitTo,hk']))⟩
 | _=>intro cc hf;cases hf
theorem X7 (ids:∀ f g,φ f=some g→ψ g=f) {fuel:Nat} (ih:qW P φ ψ C fuel) (hr:mZ P ψ (runWith C (evC C fuel))) (hd:RJ P φ ψ C (runWith C (evC C fuel))):qW P φ ψ C (fuel+1):=by
 intro nt c cc hfit T hT s ex s' he N w0 w S m A a Q i env hA hsz hQ
 have plain:∀ {c:Code},(∀ b,c≠.loop b)→c.wp P Q a w→c.wp P Q a w∧∀ b,c=.loop b→AA P b Q a w:=fun hne h=>⟨h,fun b e=>absurd e (hne b)⟩
 cases hfit with
 | fail c=>simp only [evC] at he;cases he
 | skip =>
  simp only [evC,Option.some.injEq,Prod.mk.injEq] at he
  obtain ⟨rfl,rfl⟩:=he
  exact plain (fun b e=>by cases e) (wp_skip (hQ a w ⟨kD.refl _ _,Reach.refl i env⟩))
 | label l =>
  simp only [evC,Option.some.injEq,Prod.mk.injEq] at he
  obtain ⟨rfl,rfl⟩:=he
  exact plain (fun b e=>by cases e) (wp_label (hQ a w ⟨kD.refl _ _,Reach.refl i env⟩))
 | @scope b cb hj hb =>
  simp only [evC] at he
  obtain ⟨⟨e1,s1⟩,h1,he⟩:=ak he
  refine plain (fun b e=>by cases e) (wp_scope_straight ?_)
  refine (ih nt b cb hb T (fun t ht=>by simpa only [gy] using hT t ht) s e1 s1 h1 N w0 w S m A a _ i env hA hsz ?_).1
  rintro a1 w1 hre
  cases e1 with
  | norm =>
   simp only [bW] at he
   cases fuel with
   | zero=>simp only [evC] at he;cases he
   | succ k =>
    simp only [evC,Option.some.injEq,Prod.mk.injEq] at he
    obtain ⟨rfl,rfl⟩:=he
    exact hQ a1 w1 hre
  | exit id =>
   simp only [bW,Option.some.injEq,Prod.mk.injEq] at he
   obtain ⟨rfl,rfl⟩:=he
   have hlt:id < iQ:=by
    rcases Eo fuel hb _ _ _ h1 with z | ⟨l',z1,z2⟩
    · exact z
    · have:=z2 _ hj;cases this
   have hq:=hQ a1 w1 hre
   rw [rX hlt] at hq ⊢
   exact hq
  | ret =>
   simp only [bW,Option.some.injEq,Prod.mk.injEq] at he
   obtain ⟨rfl,rfl⟩:=he
   exact hQ a1 w1 hre
 | @again l b cb hb =>
  refine plain (fun b e=>by cases e) (fun f k cs=>?_)
  obtain ⟨e2,a2,w2,hq2,harr2⟩:=Z8 ih b cc hb rfl (fun t ht=>by simpa only [gy] using hT t ht) (fuel+1) (Nat.le_refl _) s ex s' he N w0 w S m A a Q i env hA hsz hQ f k cs
  exact ⟨e2,a2,w2,hq2,.of_steps (.one step_scope) harr2⟩
 | goto l =>
  simp only [evC,Option.some.injEq,Prod.mk.injEq] at he
  obtain ⟨rfl,rfl⟩:=he
  have hq:=hQ a w ⟨kD.refl _ _,Reach.refl i env⟩
  rw [Oh] at hq
  exact plain (fun b e=>by cases e) (fun f k cs=>⟨.goto l,a,w,hq,fun k' hk=>.one (step_goto hk)⟩)
 | exit id hid =>
  simp only [evC,Option.some.injEq,Prod.mk.injEq] at he
  obtain ⟨rfl,rfl⟩:=he
  have hq:=hQ a w ⟨kD.refl _ _,Reach.refl i env⟩
  rw [rX hid] at hq
  exact plain (fun b e=>by cases e) (wp_exit hq)
 | ret =>
  simp only [evC,Option.some.injEq,Prod.mk.injEq] at he
  obtain ⟨rfl,rfl⟩:=he
  exact plain (fun b e=>by cases e) (wp_ret (hQ a w ⟨kD.refl _ _,Reach.refl i env⟩))
 | ops id ops live hdst =>
  simp only [evC] at he
  obtain ⟨s1,h1,he⟩:=ak he
  obtain ⟨s2,h2,he⟩:=aC he
  cases he
  refine plain (fun b e=>by cases e) (wp_region ?_)
  rw [List.range_eq_range',← Array.length_toList,← List.append_nil (List.range' 0 ops.toList.length)]
  refine Qy ids hr ops Q [] ops.toList 0 (fun j o ho=>by simpa using ho) s s1 h1 w S m A a i env hA (by rw [hsz];exact hdst) (fun o ho x hx hTx=>?_) fun a' w' hre=>hQ a' w' (hre.ku h2)
  have:=hT x hTx
  simp only [gy,List.any_eq_false] at this
  have:=this o ho
  rw [hx] at this
  simp at this
 | draw id ops live hdst hedge hun =>
  simp only [evC] at he
  obtain ⟨r,h1,he⟩:=ak he
  unfold zU at he
  split at he
  · rename_i hap
    obtain ⟨s2,h2,he⟩:=aC he
    cases he
    exact plain (fun b e=>by cases e) (hd nt id ops _ live T hT (.draw id ops live hdst hedge hun) s r h1 hap N w0 w S m A a Q i env hA hsz fun a' w' hre=>hQ a' w' (hre.ku h2))
  · cases he
 | @seq x y cx cy hx hy =>
  simp only [evC] at he
  obtain ⟨⟨e1,s1⟩,h1,he⟩:=ak he
  have hTx:∀ t,T t→gy t x=false:=fun t ht=>by have:=hT t ht;simp only [gy,Bool.or_eq_false_iff] at this;exact this.1
  have hTy:∀ t,T t→gy t y=false:=fun t ht=>by have:=hT t ht;simp only [gy,Bool.or_eq_false_iff] at this;exact this.2
  refine plain (fun b e=>by cases e) (wp_seq ?_)
  refine (ih nt x cx hx T hTx s e1 s1 h1 N w0 w S m A a _ i env hA hsz ?_).1
  rintro a1 w1 ⟨hk1,hre⟩
  obtain ⟨S1,m1,A1,r1,r2,r3,r4,r5,r6,r7,r8⟩:=hre
  cases e1 with
  | norm =>
   simp only [bW] at he
   refine (ih nt y cy hy T hTy s1 ex s' he N w0 w1 S1 m1 A1 a1 Q r1 r2 (fun b hb=>?_) (r3.trans hsz) fun a' w' hre=>hQ a' w' (jq.trans hk1 r3 r4 r5 r6 r7 r8 hre)).1
   rcases r8 b hb with q | q
   · have:=hA b q;omega
   · exact q.2
  | exit id =>
   simp only [bW,Option.some.injEq,Prod.mk.injEq] at he
   obtain ⟨rfl,rfl⟩:=he
   exact Oq (hQ a1 w1 ⟨hk1,S1,m1,A1,r1,r2,r3,r4,r5,r6,r7,r8⟩)
  | ret =>
   simp only [bW,Option.some.injEq,Prod.mk.injEq] at he
   obtain ⟨rfl,rfl⟩:=he
   exact hQ a1 w1 ⟨hk1,S1,m1,A1,r1,r2,r3,r4,r5,r6,r7,r8⟩
 | @cond c c' x y cx cy hc hx hy =>
  simp only [evC] at he
  have hv:=(Cx.mk i env ids:Cx P φ ψ N w0 w S m A s.heap s.env a).opd hc
  unfold uz at he
  split at he
  · rename_i t heq
    rw [heq] at hv
    refine plain (fun b e=>by cases e) (wp_cond hv.iq ?_)
    cases t with
    | true=>exact (ih nt x cx hx T (fun t ht=>by have:=hT t ht;simp only [gy,Bool.or_eq_false_iff] at this;exact this.1) s ex s' he N w0 w S m A a Q i env hA hsz hQ).1
    | false=>exact (ih nt y cy hy T (fun t ht=>by have:=hT t ht;simp only [gy,Bool.or_eq_false_iff] at this;exact this.2) s ex s' he N w0 w S m A a Q i env hA hsz hQ).1
  · cases he
 | @block id hid b cb hb =>
  simp only [evC] at he
  obtain ⟨⟨e1,s1⟩,h1,he⟩:=aC he
  refine plain (fun b e=>by cases e) (wp_block ?_)
  refine (ih nt b cb hb T (fun t ht=>by simpa only [gy] using hT t ht) s e1 s1 h1 N w0 w S m A a _ i env hA hsz ?_).1
  intro a1 w1 hre
  cases e1 with
  | norm=>simp only [dh,Prod.mk.injEq] at he;obtain ⟨rfl,rfl⟩:=he;exact hQ a1 w1 hre
  | ret=>simp only [dh,Prod.mk.injEq] at he;obtain ⟨rfl,rfl⟩:=he;exact hQ a1 w1 hre
  | exit id' =>
   simp only [dh] at he
   by_cases hid':id'=id
   · rw [if_pos hid'] at he
     simp only [Prod.mk.injEq] at he
     obtain ⟨rfl,rfl⟩:=he
     subst hid'
     rw [rX hid]
     simp only [Exit.inBlock,if_true];exact hQ a1 w1 hre
   · rw [if_neg hid'] at he
     simp only [Prod.mk.injEq] at he
     obtain ⟨rfl,rfl⟩:=he
     have hq:=hQ a1 w1 hre
     revert hq
     unfold Ex.out
     simp only
     split
     · simp only [Exit.inBlock,if_neg hid'];exact fun h=>h
     · simp only [Exit.inBlock];exact fun h=>h
 | @loop live b cb hb =>
  simp only [evC] at he
  obtain ⟨⟨e1,s1⟩,h1,he⟩:=ak he
  have key:AA P b Q a w:=by
   refine AA.step ?_
   refine (ih nt b cb hb T (fun t ht=>by simpa only [gy] using hT t ht) (iK live s) e1 s1 h1 N w0 w S m A a _ i (env.drop live) hA hsz ?_).1
   rintro a1 w1 ⟨hk1,hre⟩
   obtain ⟨S1,m1,A1,r1,r2,r3,r4,r5,r6,r7,r8⟩:=hre
   cases e1 with
   | norm =>
    simp only [bW] at he
    refine (ih nt (.loop b) (.loop live cb) (.loop live hb) T hT s1 ex s' he N w0 w1 S1 m1 A1 a1 Q r1 r2 (fun b hb=>?_) (r3.trans hsz) fun a' w' hre=>hQ a' w' (jq.trans hk1 r3 r4 r5 r6 r7 r8 hre)).2 b rfl
    rcases r8 b hb with q | q
    · have:=hA b q;have:=r7;simp only [iK] at this;omega
    · exact q.2
   | exit id =>
    simp only [bW,Option.some.injEq,Prod.mk.injEq] at he
    obtain ⟨rfl,rfl⟩:=he
    exact Oq (hQ a1 w1 ⟨hk1,S1,m1,A1,r1,r2,r3,r4,r5,r6,r7,r8⟩)
   | ret =>
    simp only [bW,Option.some.injEq,Prod.mk.injEq] at he
    obtain ⟨rfl,rfl⟩:=he
    exact hQ a1 w1 ⟨hk1,S1,m1,A1,r1,r2,r3,r4,r5,r6,r7,r8⟩
  exact ⟨key.wp,fun b' e=>by cases e;exact key⟩
end
end Go.Pav
end
section
set_option linter.unusedSimpArgs false
set_option linter.unusedVariables false
namespace Go.Proofs
open Go.RowKit Go.Shelf Go.Pav
theorem H28.aaf (ks:Nat→Int) (len:Nat):pF (H28.upto ks len)=H28.first ks len:=by
 cases len with
 | zero=>simp [H28.upto,H28.first,pF]
 | succ n=>simp [H28.upto,H28.first,pF,List.range_succ_eq_map]
theorem H28.idx_eq (ks:Nat→Int) (k:Int):∀ r i,XK k i ((List.range' i r).map ks)=if H28.fnd ks k r i < 0 then none else some (H28.fnd ks k r i).toNat
 | 0,i=>by simp [XK,H28.fnd]
 | r+1,i=>by
  simp only [List.range'_succ,List.map_cons,XK,H28.fnd]
  by_cases h:ks i=k
  · simp [h]
  · simp [h,H28.idx_eq ks k r (i+1)]
theorem H28.acB (ks:Nat→Int) (x:Int):∀ r i,hasK ((List.range' i r).map ks) x=decide (0≤H28.fnd ks x r i)
 | 0,i=>by simp [hasK,H28.fnd]
 | r+1,i=>by
  have ih:=H28.acB ks x r (i+1)
  simp only [hasK] at ih
  simp only [List.range'_succ,List.map_cons,hasK,List.any_cons,H28.fnd,ih]
  by_cases h:ks i=x <;> simp [h]
theorem H28.Dn (ks:Nat→Int) (len:Nat):H28.upto ks len=(List.range' 0 len).map ks:=by simp [H28.upto,List.range_eq_range']
theorem H28.ab5 (ks:Nat→Int) (len p:Nat) (hp:p < len):(H28.upto ks len).drop (p+1)++((H28.upto ks len).take p).reverse=H28.Oy ks len p:=by
 unfold H28.Oy
 congr 1
 · apply List.ext_getElem
   · simp [H28.upto]
   · intro i h1 h2
     simp [H28.upto]
 · apply List.ext_getElem
   · simp [H28.upto];omega
   · intro i h1 h2
     simp [H28.upto] at h1 h2 ⊢
     congr 1
     omega
theorem H28.aj9 (ks ks':Nat→Int) (len len':Nat) (k d:Int):uZ (H28.upto ks len) (H28.upto ks' len') k d=H28.aft ks len ks' len' k d:=by
 have hh:∀ x,hasK (H28.upto ks' len') x=H28.has ks' len' x:=fun x=>by rw [H28.Dn,H28.acB];rfl
 have hf:hasK (H28.upto ks' len')=H28.has ks' len':=funext hh
 have hi:XK k 0 (H28.upto ks len)=if H28.fnd ks k len 0 < 0 then none else some (H28.fnd ks k len 0).toNat:=by rw [H28.Dn,H28.idx_eq]
 unfold uZ H28.aft
 rw [hf,H28.aaf,hi]
 by_cases h0:k=0
 · simp [h0]
 · rw [if_neg h0,if_neg h0]
   by_cases h1:H28.has ks' len' k=true
   · simp [h1]
   · rw [if_neg h1,if_neg h1]
     rcases H28.Ci ks k len 0 with h | ⟨q,_,hq,h,_⟩
     · rw [h];rfl
     · rw [h,if_neg (by omega),if_neg (by omega),Int.toNat_natCast]
       simp only []
       rw [H28.ab5 ks len q (by omega)]
       all_goals rfl
end Go.Proofs
end
section
set_option linter.unusedSimpArgs false
set_option linter.unusedVariables false
namespace Go.Proofs
open Go.RowKit Go.Shelf Go.Pav
theorem H28.XC {ψ:Nat→FuncId} {N:Nat} {w0 w w':World} {S:Nat→Prop} {m:Nat→Nat × Nat} {A:Nat→Prop} {h:Heap} (i:Inv ψ N w0 w S m A h) (hb:Below w.heap.size w w'):Inv ψ N w0 w' S m A h∧Le w S m A w' S m A:=by
 have le:Le w S m A w' S m A :=
  ⟨fun b hs=>hb.block b (i.sb b hs),fun b c t fr he=>⟨c,(hb.block b (Array.getElem?_eq_some_iff.1 he).1).trans he,rfl⟩,hb.size,fun _ h=>h,fun _ h=>h,fun _ _=>rfl⟩
 refine ⟨⟨i.dom,fun b o he=>(i.obj b o he).mono le (hb.block _ (i.obj b o he).lt),i.fro,i.live,i.inj,fun c hc=>Nat.lt_of_lt_of_le (i.sb c hc) hb.size,Nat.le_trans i.size hb.size,fun c hc=>(hb.block c (Nat.lt_of_lt_of_le hc i.size)).trans (i.old c hc),hb.os.trans i.os,hb.output.trans i.out⟩,le⟩
theorem H28.ad9 {e:List AV} {k:Int} (h:nH e=some k):e.length=6∧e[0]?=some (.int .u64 k):=by
 unfold nH at h
 split at h
 · split at h
   · simp only [Option.some.injEq] at h;subst h;exact ⟨rfl,rfl⟩
   · cases h
 · cases h
theorem H28.Vm {ψ:Nat→FuncId} {N:Nat} {w0 w:World} {S:Nat→Prop} {m:Nat→Nat × Nat} {A:Nat→Prop} {h:Heap} (i:Inv ψ N w0 w S m A h) {a:AV} {c:Value} (hv:VR ψ w S m A a c) {kb:List Int} (hk:jV a=some kb) :
 ∃ (sa:Option Addr) (len cap b off:Nat) (cv:Nat→Nat→Value) (ks:Nat→Int),c=.agg #[.slice sa len cap]∧(len=0∨sa=some ⟨b,off,none⟩)∧(∀ i,cv i 0=.int .u64 (ks i))∧(∀ i j,i < len→j < 6→(cv i j).oneCell'=true)∧len≤1000000∧len≤cap∧b≤w.heap.size∧(0 < len→b < w.heap.size)∧(∀ i j,i < len→j < 6→w.cell? ⟨b,off+i * 6+j,none⟩=some (cv i j))∧kb=H28.upto ks len:=by
 unfold jV at hk
 split at hk
 · cases hk
   obtain ⟨vs,rfl,hn,_,hc⟩:=hv.uq
   have h0:=(hc 0 .aZ rfl).fM
   obtain ⟨l⟩:=vs
   match l,hn with
   | [x],_ =>
    simp at h0;subst h0
    exact ⟨none,0,0,0,0,fun _ _=>.int .u64 0,fun _=>0,rfl,.inl rfl,fun _=>rfl,fun i j hi=>absurd hi (by omega),by omega,by omega,by omega,fun h=>absurd h (by omega),fun i j hi=>absurd hi (by omega),rfl⟩
 · rename_i z es ex
   split at hk
   · rename_i hz
     obtain ⟨rfl,hlen⟩:=hz
     obtain ⟨vs,rfl,hn,_,hc⟩:=hv.uq
     have h0:=(hc 0 _ rfl)
     obtain ⟨l⟩:=vs
     match l,hn with
     | [x],_ =>
      simp at h0
      obtain ⟨hl1,hl2⟩:=bY hk
      rcases h0.nI with ⟨b,off,cap,cs,rfl,hS,hz,hcap,_,hcell,hrep⟩ | ⟨rfl,ad,k,rfl,_⟩
      · refine ⟨some ⟨b,off,none⟩,es.length,cap,b,off,fun i j=>if i < es.length then cs i j else .int .u64 0,fun i=>(kb[i]?).getD 0,rfl,.inr rfl,fun q=>?_,fun q j hq hj=>?_,hlen,hcap,Nat.le_of_lt (i.sb b hS),fun _=>i.sb b hS,fun q j hq hj=>?_,?_⟩
        · by_cases hq:q < es.length
          · simp only [hq,if_true]
            obtain ⟨k,h1,h2⟩:=hl2 q es[q] (by simp [hq])
            rw [(hrep q es[q] 0 _ (by simp [hq]) (H28.ad9 h2).2).dI,h1]
            rfl
          · simp only [hq,if_false]
            rw [List.getElem?_eq_none (by omega)]
            rfl
        · simp only [hq,if_true]
          have h6:=hz q es[q] (by simp [hq])
          exact (hrep q es[q] j es[q][j] (by simp [hq]) (by simp [h6,hj])).one (hcell q es[q] j es[q][j] (by simp [hq]) (by simp [h6,hj])).1
        · simp only [hq,if_true]
          have h6:=hz q es[q] (by simp [hq])
          exact (hcell q es[q] j es[q][j] (by simp [hq]) (by simp [h6,hj])).2
        · apply List.ext_getElem
          · simp [H28.upto,hl1]
          · intro q h1 h2
            simp [H28.upto,h1]
      · refine ⟨some ad,0,k,0,0,fun _ _=>.int .u64 0,fun _=>0,rfl,.inl rfl,fun _=>rfl,fun i j hi=>absurd hi (by omega),by omega,by omega,by omega,fun h=>absurd h (by omega),fun i j hi=>absurd hi (by omega),?_⟩
        simp [bg] at hk
        simp [hk,H28.upto]
   · cases hk
 · cases hk
theorem H28.QJ (ψ:Nat→FuncId) (g:Nat) (hg:ψ g=39):Ru Tryz.prog ψ g (Lm 0):=by
 refine ⟨0,rfl,⟨Tryz.f39,_,by rw [hg];exact Tryz.func39,by decide,rfl⟩,?_⟩
 intro args v hp h n N w0 w S m A cargs i hA hn hv
 simp only [o7,if_true] at hp
 unfold kH at hp
 split at hp
 · rename_i bb nn k d
   obtain ⟨kb,h1,hp⟩:=ak hp
   obtain ⟨kn,h2,rfl⟩:=aC hp
   obtain ⟨sa,len,cap,b,off,cv,ks,e1,hsa,hk,ho,hre,hcap,hb,hbl,hc,rfl⟩:=H28.Vm i (hv 0 _ rfl) h1
   obtain ⟨sa',len',cap',b',off',cv',ks',e1',hsa',hk',ho',hre',hcap',hb',hbl',hc',rfl⟩:=H28.Vm i (hv 1 _ rfl) h2
   have e2:cargs.getD 2 Go.undef=.agg #[.int .u64 k,.int .i64 d]:=by
    obtain ⟨vs,q1,q2,_,q3⟩:=(hv 2 _ rfl).uq
    obtain ⟨l⟩:=vs
    match l,q2 with
    | [x,y],_ =>
     have h5:=(q3 0 _ rfl).dI
     have h6:=(q3 1 _ rfl).dI
     simp at h5 h6
     rw [q1,h5,h6]
   have hca:cargs=#[.agg #[.slice sa len cap],.agg #[.slice sa' len' cap'],.agg #[.int .u64 k,.int .i64 d]]:=by
    obtain ⟨l⟩:=cargs
    match l,hn with
    | [x,y,z],_ =>
     simp at e1 e1' e2
     rw [e1,e1',e2]
   rw [hca,hg,H28.aj9]
   refine ⟨Calls.mono (callsIn_wide (n:=5).1 (aaz Fence.wide 5 trivial trivial trivial trivial trivial trivial rfl (by omega) k d b off len cap sa hsa cv ks hk ho hre hcap b' off' len' cap' sa' hsa' cv' ks' hk' ho' hre' w hb hb' hbl hbl' hc hc')) ?_,?_⟩
   · rintro e w' ⟨rfl,hbw⟩
     obtain ⟨i',le⟩:=H28.XC i hbw
     refine ⟨_,rfl,S,m,A,?_,i',le,fun c _ hs=>hs,Nat.le_refl _,fun b hb=>.inl hb⟩
     refine VR.agg _ _ rfl (fun j x hx=>?_) (fun j x hx=>?_)
     · match j,hx with
       | 0,hx=>cases hx;rfl
       | 1,hx=>cases hx;rfl
     · match j,hx with
       | 0,hx=>cases hx;exact VR.int _ _
       | 1,hx=>cases hx;exact VR.int _ _
   · intro hpl
     have:=hpl Tryz.f39 _ Tryz.func39 rfl
     exact absurd this (by decide)
 · cases hp
end Go.Proofs
end
section
set_option linter.unusedSimpArgs false
set_option linter.unusedVariables false
namespace Go.Pav
open Go
section
open Classical
noncomputable def lim {α:Type} (g:Nat→Option α):Option α:=if h:∃ n a,g n=some a then some (Classical.choose (Classical.choose_spec h)) else none
def af9 {α:Type} (g:Nat→Option α):Prop:=∀ n m,n≤m→∀ a,g n=some a→g m=some a
theorem ai2 {α:Type} {g:Nat→Option α} (hm:af9 g) {n:Nat} {a:α} (h:g n=some a):lim g=some a:=by
 have hx:∃ n a,g n=some a:=⟨n,a,h⟩
 unfold lim
 rw [dif_pos hx]
 have h1:=Classical.choose_spec (Classical.choose_spec hx)
 have h2:=hm _ _ (Nat.le_max_left n (Classical.choose hx)) _ h
 have h3:=hm _ _ (Nat.le_max_right n (Classical.choose hx)) _ h1
 rw [h2] at h3
 exact h3.symm
theorem abm {α:Type} {g:Nat→Option α} (_hm:af9 g) {a:α} (h:lim g=some a):∃ n,g n=some a:=by
 unfold lim at h
 split at h
 · rename_i hx
   cases h
   exact ⟨_,Classical.choose_spec (Classical.choose_spec hx)⟩
 · cases h
theorem aev {α:Type} {g:Nat→Option α} (hm:af9 g) {a:α}:lim g=some a↔∃ n,g n=some a :=
 ⟨abm hm,fun ⟨_,h⟩=>ai2 hm h⟩
theorem su {α:Type} {x y:Option α} (h:∀ a,x=some a↔y=some a):x=y:=by
 cases x with
 | none=>cases y with
  | none=>rfl
  | some b=>exact absurd ((h b).2 rfl) (by simp)
 | some a=>exact ((h a).1 rfl).symm
end
section
variable (C:Prog)
noncomputable def Cd (c:aY) (s:St):Option (Ex × St):=lim fun n=>evC C n c s
noncomputable def Rn:Run:=runWith C (Cd C)
noncomputable def Fn (f:Nat) (args:List AV):Option AV:=rH (Rn C) f args
end
section
variable {C:Prog}
theorem oJ {α β:Type} {x:Option α} {f:α→Option β} {b:β}:ob x f=some b↔∃ a,x=some a∧f a=some b:=by
 cases x <;> simp [ob]
end
end Go.Pav
end
