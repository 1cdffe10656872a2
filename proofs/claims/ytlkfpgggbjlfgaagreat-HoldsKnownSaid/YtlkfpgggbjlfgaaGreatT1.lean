/- Part of the theory that the claims of this work use: PavDefs, PavMono, PavDen, PwDefs, PavComp, PavRel, PavInv, PavSnd1, PavSnd2, PavSnd3, PavSnd4, PavSnd5, PavSnd6, PavSnd7, PavMark. No conditions of its own. -/
import GoSem.Dispatch
import GoSem.Core.Program
import GoSem.Core.Region
import GoSem.Machine.Frame
import Derived.Laws.AppendOwn
import Derived.Laws.Strings
import Derived.Laws.Concat
import Derived.Laws.Cover1
import Derived.Great.BuildSlice
import Derived.Laws.StructEq
import Derived.Laws.Unary
import Derived.Laws.BytesString
theorem qqq{P:Prop}(h:P:=by omega):P:=h
theorem qqz{P:Prop}(h:P:=by simp):P:=h
theorem qqx{P:Prop}(h:P:=by simp;omega):P:=h
abbrev qqj:=@List.getElem?_eq_getElem
abbrev qwq:=@Option.some.injEq
abbrev qwz:=@Bool.and_eq_true
abbrev qwx:=@if_neg
abbrev qwj:=@List.mem_of_getElem?
abbrev qzq:=@if_pos
abbrev qzz:=@Option.bind_eq_some_iff
abbrev qzx:=@List.drop_eq_nil_of_le
abbrev qzj:=@List.getElem?_eq_some_iff
abbrev qxq:=@List.getElem_mem
abbrev qxz:=@List.take_of_length_le
abbrev qxx:=@Nat.le_refl
abbrev qxj:=@Bool.false_eq_true
abbrev qjq:=@Array.getD_eq_getD_getElem?
abbrev qjz:=@List.drop_zero
abbrev qjx:=@Prod.mk.injEq
abbrev qjj:=@List.mem_cons
abbrev qkq:=@Option.some.inj
abbrev qkz:=@List.all_eq_true
abbrev qkx:=@List.mem_map
abbrev qkj:=@decide_eq_true_eq
abbrev qvq:=@List.mem_flatMap
abbrev qvz:=@Option.bind_eq_bind
abbrev qvx:=@List.getElem_of_mem
abbrev qvj:=@List.map_cons
abbrev qyq:=@Int.tmod_eq_emod_of_nonneg
abbrev qyz:=@Option.map_eq_some_iff
abbrev qyx:=@if_true
abbrev qyj:=@List.mem_cons_of_mem
abbrev qQq:=@List.getElem?_map
abbrev qQz:=@eq_true
abbrev qQx:=@List.length_cons
abbrev qQj:=@List.length_map
abbrev qWq:=@if_false
abbrev qWz:=@Array.getElem?_eq_some_iff
abbrev qWx:=@List.map_append
abbrev qWj:=@List.mem_append
abbrev qZq:=@List.length_eq_zero_iff
abbrev qZz:=@List.map_map
abbrev qZx:=@Nat.lt_of_lt_of_le
abbrev qZj:=@List.take_succ_eq_append_getElem
abbrev qXq:=@Bool.or_eq_false_iff
abbrev qXz:=@List.mem_of_mem_drop
abbrev qXx:=@List.mem_or_eq_of_mem_set
abbrev qXj:=@Nat.zero_add
abbrev qJq:=@List.mem_of_mem_take
abbrev qJz:=@List.getElem?_take
abbrev qJx:=@List.length_nil
abbrev qJj:=@List.getElem?_append_left
abbrev qKq:=@Option.getD_some
abbrev qKz:=@List.append_nil
abbrev qKx:=@Nat.mul_le_mul_right
abbrev qKj:=@decide_eq_false
abbrev qVq:=@List.contains_iff_mem
abbrev qVz:=@List.getElem?_drop
abbrev qVx:=@List.mem_cons_self
abbrev qVj:=@Int.tdiv_eq_ediv_of_nonneg
abbrev qYq:=@Nat.add_mul
abbrev qYz:=@List.nil_append
abbrev qYx:=@Ne.symm
abbrev qYj:=@List.all_cons
abbrev qaq:=@List.any_eq_true
abbrev qaz:=@List.mem_filter
abbrev qax:=@List.getElem?_append_right
abbrev qaj:=@List.mem_iff_getElem
abbrev qbq:=@Array.getElem?_setIfInBounds_ne
abbrev qbz:=@Bool.not_eq_true'
abbrev qbx:=@List.length_take
abbrev qbj:=@List.length_drop
abbrev qcq:=@Array.getElem?_toList
abbrev qcz:=@List.getElem?_toArray
abbrev qcx:=@Nat.eq_of_beq_eq_true
abbrev qcj:=@Nat.add_zero
abbrev qdq:=@List.getElem?_cons_succ
abbrev qdz:=@List.getElem?_append
abbrev qdx:=@List.length_append
abbrev qdj:=@Nat.add_assoc
abbrev qeq:=@Nat.le_trans
abbrev qez:=@List.getElem?_set_self
abbrev qex:=@List.map_congr_left
abbrev qej:=@List.replicate_succ
abbrev qfq:=@List.pairwise_cons
abbrev qfz:=@List.not_mem_nil
abbrev qfx:=@List.isEmpty_iff
abbrev qfj:=@decide_eq_false_iff_not
abbrev qgq:=@List.getElem?_set
abbrev qgz:=@List.map_nil
abbrev qgx:=@List.flatMap_cons
abbrev qgj:=@decide_eq_true
abbrev qhq:=@Option.map_some
abbrev qhz:=@Array.getElem?_eq_getElem
abbrev qhx:=@List.mem_singleton
abbrev qhj:=@Bool.and_self
abbrev qiq:=@List.mem_append_left
abbrev qiz:=@Bool.false_and
abbrev qix:=@Nat.lt_succ_of_lt
abbrev qij:=@List.take_add_one
abbrev qlq:=@Bool.or_eq_true
abbrev qlz:=@List.cons.injEq
abbrev qlx:=@Bool.true_and
abbrev qlj:=@decide_true
abbrev qmq:=@Int.add_assoc
abbrev qmz:=@Nat.le_max_right
abbrev qmx:=@List.cons_append
abbrev qmj:=@List.mem_reverse
abbrev qnq:=@List.getD_eq_getElem?_getD
abbrev qnz:=@Classical.choose_spec
abbrev qnx:=@List.sizeOf_lt_of_mem
abbrev qnj:=@Classical.byContradiction
abbrev qoq:=@List.nodup_cons
abbrev qoz:=@List.all_append
abbrev qox:=@Bool.true_or
abbrev qoj:=@of_decide_eq_true
abbrev qpq:=@List.nodup_append
abbrev qpz:=@Nat.lt_irrefl
abbrev qpx:=@Array.getElem?_push
abbrev qpj:=@List.map_reverse
abbrev qrq:=@Nat.le_add_right
abbrev qrz:=@Nat.zero_mul
abbrev qrx:=@Nat.lt_or_ge
abbrev qrj:=@Bool.false_or
abbrev qsq:=@List.mem_append_right
abbrev qsz:=@List.set_append_right
abbrev qsx:=@Int.toNat_natCast
abbrev qsj:=@List.getElem?_set_ne
abbrev qtq:=@Nat.mul_comm
abbrev qtz:=@Nat.lt_succ_self
abbrev qtx:=@List.getElem?_eq_none_iff
abbrev qtj:=@List.replicate_zero
abbrev quq:=@true_and
abbrev quz:=@List.eq_of_mem_replicate
abbrev quj:=@Nat.le_max_left
abbrev q0q:=@List.foldl_cons
abbrev q0x:=@List.length_set
abbrev q0j:=@Option.isSome_none
abbrev q1q:=@Array.empty_append
abbrev q1x:=@Nat.add_sub_cancel
abbrev q1j:=@List.getElem?_replicate
abbrev q2q:=@Nat.mul_one
abbrev q2x:=@List.not_lt
abbrev q2j:=@List.append_assoc
abbrev q3q:=@List.getElem_cons_succ
abbrev q3x:=@List.cons_lt_cons_iff
abbrev q3j:=@List.take_append_drop
abbrev q4q:=@Bool.and_true
abbrev q4x:=@List.map_drop
abbrev q4j:=@List.map_take
abbrev q5q:=@Nat.one_mul
abbrev q5x:=@or_false
abbrev q5j:=@Nat.div_lt_of_lt_mul
abbrev q6q:=@List.contains_eq_mem
abbrev q6x:=@List.getElem?_of_mem
abbrev q6j:=@Array.length_toList
abbrev q7q:=@Nat.ne_of_lt
abbrev q7z:=@List.all_nil
abbrev q7x:=@false_and
abbrev q7j:=@Array.getElem?_map
abbrev q8q:=@Array.ext'
abbrev q8z:=@Nat.pos_of_ne_zero
abbrev q8x:=@Bool.not_false
abbrev q8j:=@Array.getElem?_append_left
abbrev q9q:=@List.mem_filterMap
abbrev q9z:=@Bool.and_false
abbrev q9x:=@List.take_zero
abbrev q9j:=@List.take_take
abbrev zqq:=@List.extract_eq_take_drop
abbrev zqz:=@List.drop_eq_getElem_cons
abbrev zqx:=@List.mem_take_iff_getElem
abbrev zqj:=@List.ext_getElem?
abbrev zwq:=@List.any_eq_false
abbrev zwz:=@Nat.mul_add
abbrev zwx:=@List.take_nil
abbrev zwj:=@List.drop_nil
abbrev zzq:=@List.cons.inj
abbrev zzx:=@Nat.le_mul_of_pos_right
abbrev zzj:=@Option.bind_some
abbrev zxq:=@Classical.axiomOfChoice
abbrev zxz:=@List.getElem_inj
abbrev zxx:=@List.filter_cons
abbrev zxj:=@ByteArray.data_extract
abbrev zjq:=@Nat.blt_eq
abbrev zjz:=@List.getElem_cons_zero
abbrev zjx:=@Option.pure_def
abbrev zjj:=@Nat.min_eq_left
abbrev zkq:=@Nat.min_le_left
abbrev zkz:=@Array.getElem?_append
abbrev zkx:=@List.mapM_cons
abbrev zkj:=@Nat.zero_le
abbrev zvq:=@Nat.le_succ
abbrev zvz:=@false_or
abbrev zvx:=@List.drop_drop
abbrev zvj:=@cond_true
abbrev zyq:=@Bool.not_true
abbrev zyz:=@beq_iff_eq
abbrev zyx:=@Nat.sub_zero
abbrev zyj:=@and_true
abbrev zQq:=@decide_false
abbrev zQz:=@eq_false
abbrev zQx:=@Nat.sub_self
abbrev zQj:=@gt_iff_lt
abbrev zWq:=@dif_pos
abbrev zWz:=@Iff.rfl
section
namespace Go.Pav
open Go
inductive AV where
 |undef
 |bool (b:Bool)
 |int (k:IntKind) (n:Int)
 |str (s:List UInt8)
 |eG
 |bG
 |dU
 |dW
 |ro (z:Nat) (es:List (List AV)) (ex:Bool)
 |rop (cs:List AV)
 |ptr (b i o:Nat)
 |sl (b z i len cap:Nat) (ex:Bool)
 |map (b:Nat)
 |fn (f:Nat) (caps:List AV)
 |agg (cs:List AV)
 |tup (vs:List AV)
 deriving Inhabited
inductive jq where
 |cells (z:Nat) (es:List (List AV)) (mu:Bool)
 |map (es:List (AV×AV))
 |iter (s:List UInt8) (pos:Nat)
 deriving Inhabited
abbrev Env:=List (Nat×AV)
abbrev Heap:=List (Nat×jq)
def get{α:Type}:List (Nat×α)->Nat->Option α
 |[],_=>none
 |(k,v)::r,n=>if k=n then some v else get r n
def put{α:Type}:List (Nat×α)->Nat->α->List (Nat×α)
 |[],n,x=>[(n,x)]
 |(k,v)::r,n,x=>if k=n then(n,x)::r else if n<=k then(n,x)::(k,v)::r else(k,v)::put r n x
def del{α:Type}:List (Nat×α)->Nat->List (Nat×α)
 |[],_=>[]
 |(k,v)::r,n=>if k=n then del r n else(k,v)::del r n
def keep{α:Type}(m:Nat):List (Nat×α)->List (Nat×α)
 |[]=>[]
 |(k,v)::r=>if m.testBit k then(k,v)::keep m r else keep m r
def below{α:Type}(n:Nat):List (Nat×α)->List (Nat×α)
 |[]=>[]
 |(k,v)::r=>if k<n then(k,v)::below n r else below n r
def ob{α β:Type}(x:Option α)(f:α->Option β):Option β :=
 match x with
 |some a=>f a
 |none=>none
def om{α β:Type}(x:Option α)(f:α->β):Option β :=
 match x with
 |some a=>some (f a)
 |none=>none
def og{β:Type}(c:Bool)(x:Option β):Option β :=
 match c with
 |true=>x
 |false=>none
def aZ{α β:Type}(f:α->Option β):List α->Option (List β)
 |[]=>some []
 |a::r=>ob (f a) λb=>om (aZ f r) λbs=>b::bs
def nat?:Int->Option Nat
 |.ofNat n=>some n
 |.negSucc _=>none
def bytesLess:List UInt8->List UInt8->Bool
 |_,[]=>false
 |[],_::_=>true
 |a::x,b::y=>decide (a<b)||(decide (a=b)&&bytesLess x y)
inductive Opd where
 |t (s:Nat)
 |c (v:AV)
 deriving Inhabited
inductive COp where
 |mv (x:Opd)
 |pick (c a b:Opd)
 |alloc (z:List AV)
 |box (x:Opd)
 |build (z:List AV) (ps:List (Nat×Nat×Opd))
 |aW (z:List AV) (len:Nat) (ps:List (Nat×Opd))
 |load (n:Nat) (ag:Bool) (a:Opd)
 |store (n:Nat) (a x:Opd)
 |jS (x:Opd)
 |bin (op:BinOp) (x y:Opd)
 |eqv (kd:Nat) (ks:List Nat) (ne:Bool) (x y:Opd)
 |un (op:UnOp) (x:Opd)
 |cvt (k:IntKind) (x:Opd)
 |cvs (x:Opd)
 |cvb (x:Opd)
 |lN (f:Nat) (caps:List Opd)
 |kP
 |nK (z:List AV) (bytes:Nat) (l c:Opd)
 |slice (z:Nat) (x:Opd) (lo hi mx:Option Opd)
 |gW (n:Nat) (x:Opd) (lo hi:Option Opd)
 |fld (off:Nat) (x:Opd)
 |zJ (off n:Nat) (ag:Bool) (x:Opd)
 |idxs (z:Nat) (x i:Opd)
 |gG (len z:Nat) (x i:Opd)
 |fE (x i:Opd)
 |y8 (len z:Nat) (ag:Bool) (x i:Opd)
 |look (kd:Nat) (z:AV) (ok:Bool) (m k:Opd)
 |upd (kd:Nat) (m k v:Opd)
 |range (x:Opd)
 |next (x:Opd)
 |ext (i:Nat) (x:Opd)
 |call (f:Nat) (args:List Opd)
 |dY (g:Opd) (args:List Opd)
 |len (kd:Nat) (x:Opd)
 |cap (x:Opd)
 |app (z:List AV) (bytes:Nat) (zeros:Bool) (s x:Opd)
 |cpy (z:Nat) (d s:Opd)
 |clr (z:List AV) (d:Opd)
 |mx (x y:Opd)
 |mn (x y:Opd)
 |fail
 deriving Inhabited
structure bn where
 dst:Option Nat
 guard:Option (Nat×Bool)
 op:COp
 deriving Inhabited
inductive bC where
 |skip
 |ops (l:List bn) (live:Nat×List Nat)
 |draw (l:List bn) (un:List (Nat×Nat)) (live:Nat×List Nat)
 |seq (a b:bC)
 |cond (c:Opd) (a b:bC)
 |block (id:Nat) (b:bC)
 |loop (live:Nat) (b:bC)
 |exit (id:Nat)
 |ret
 |fail
 |zx (k:Nat)
 deriving Inhabited
inductive vN where
 |tmp (t:Nat)
 |cell (t n:Nat) (ag:Bool)
 deriving Inhabited
structure CFn where
 np:Nat
 res:List vN
 body:bC
 deriving Inhabited
def mz:bC->bC
 |.ops l _=>.ops l (0,[])
 |.draw l un _=>.draw l un (0,[])
 |.seq a b=>.seq (mz a) (mz b)
 |.cond c a b=>.cond c (mz a) (mz b)
 |.block id b=>.block id (mz b)
 |.loop _ b=>.loop 0 (mz b)
 |c=>c
def J7(f:CFn):CFn:=⟨f.np,f.res,mz f.body⟩
inductive Tree where
 |leaf
 |node (l:Tree) (k:Nat) (f:CFn) (r:Tree)
 deriving Inhabited
def Tree.get:Tree->Nat->Option CFn
 |.leaf,_=>none
 |.node l k f r,n=>if n=k then some f else if n<=k then l.get n else r.get n
structure Prog where
 fns:Tree
 inl:Nat->Bool
 /-- which of them may be given pointers that they only read -/
 pp:Nat->Bool
def Opd.ev(x:Opd)(e:Env):AV :=
 match x with
 |.t s=>(get e s).getD .undef
 |.c v=>v
def AV.cells:AV->List AV
 |.agg cs=>cs
 |v=>[v]
def AV.cell:AV->Bool
 |.agg _=>false
 |.tup _=>false
 |.undef=>false
 |_=>true
def frz(h:Heap):Nat->AV->Option AV
 |0,_=>none
 |n+1,v=>match v with
  |.undef=>none
  |.ptr b i o=>match get h b with
   |some (.cells _ es _)=>ob es[i]? λcs=>om (aZ (frz h n) (cs.drop o)) λcs'=>.rop cs'
   |_=>none
  |.map _=>none
  |.sl b z i len cap ex=>match get h b with
   |some (.cells _ es _)=>ob (aZ (aZ (frz h n)) ((es.drop i).take len)) λes' =>og (decide (es'.length=len)) (some (.ro z es' (ex&&decide (cap=len))))
   |_=>none
  |.fn f caps=>om (aZ (frz h n) caps) λcs=>.fn f cs
  |.agg cs=>om (aZ (frz h n) cs) λcs=>.agg cs
  |.tup vs=>om (aZ (frz h n) vs) λvs=>.tup vs
  |.bool b=>some (.bool b)
  |.int k x=>some (.int k x)
  |.str s=>some (.str s)
  |.eG=>some .eG
  |.bG=>some .bG
  |.dU=>some .dU
  |.dW=>some .dW
  |.ro z es ex=>some (.ro z es ex)
  |.rop cs=>some (.rop cs)
def aC:Nat:=16
def reach(h:Heap):Nat->AV->List Nat
 |0,_=>[]
 |n+1,v=>match v with
  |.ptr b i o=>b::(match get h b with
   |some (.cells _ es _)=>((es[i]?.getD []).drop o).flatMap (reach h n)
   |_=>[])
  |.sl b _ i len _ _=>b::(match get h b with
   |some (.cells _ es _)=>((es.drop i).take len).flatMap λe=>e.flatMap (reach h n)
   |_=>[])
  |.fn _ caps=>caps.flatMap (reach h n)
  |.agg cs=>cs.flatMap (reach h n)
  |.tup vs=>vs.flatMap (reach h n)
  |_=>[]
def fP:Nat->AV->Bool
 |0,_=>true
 |n+1,v=>match v with
  |.ro _ _ _=>true
  |.rop _=>true
  |.fn _ caps=>caps.any (fP n)
  |.agg cs=>cs.any (fP n)
  |.tup vs=>vs.any (fP n)
  |_=>false
def under(b0:Nat):Nat->AV->Bool
 |0,_=>false
 |n+1,v=>match v with
  |.ptr b _ _=>decide (b<b0)
  |.sl b _ _ _ _ _=>decide (b<b0)
  |.map b=>decide (b<b0)
  |.fn _ caps=>caps.all (under b0 n)
  |.agg cs=>cs.all (under b0 n)
  |.tup vs=>vs.all (under b0 n)
  |_=>true
def jq.under(b0:Nat):jq->Bool
 |.cells _ es _=>es.all λe=>e.all (Pav.under b0 aC)
 |.map es=>es.all λx=>Pav.under b0 aC x.1&&Pav.under b0 aC x.2
 |.iter _ _=>true
abbrev Upd:=List (Nat×Option jq)
def uZ(h:Heap)(b:Nat):Option jq->Heap
 |some o=>put h b o
 |none=>del h b
def aS:Heap->Upd->Heap
 |h,[]=>h
 |h,(b,o)::r=>aS (uZ h b o) r
def aY(h:Heap):List Nat->Upd
 |[]=>[]
 |b::r=>match get h b with
  |some (.cells z es _)=>(b,some (.cells z es false))::aY h r
  |_=>aY h r
def Eh(op:BinOp)(k:IntKind)(x y:Int):Option AV :=
 match op with
 |.add=>some (.int k (k.wrap (x+y)))
 |.sub=>some (.int k (k.wrap (x-y)))
 |.mul=>some (.int k (k.wrap (x*y)))
 |.quo=>if y=0 then none else some (.int k (k.wrap (x.tdiv y)))
 |.rem=>if y=0 then none else some (.int k (x.tmod y))
 |.and=>some (.int k (k.wrap (BitVec.ofInt k.bits x &&& BitVec.ofInt k.bits y).toNat))
 |.or=>some (.int k (k.wrap (BitVec.ofInt k.bits x ||| BitVec.ofInt k.bits y).toNat))
 |.xor=>some (.int k (k.wrap (BitVec.ofInt k.bits x ^^^ BitVec.ofInt k.bits y).toNat))
 |.andNot=>some (.int k (k.wrap (BitVec.ofInt k.bits x &&& ~~~ BitVec.ofInt k.bits y).toNat))
 |.eql=>some (.bool (x == y))
 |.neq=>some (.bool (x != y))
 |.lss=>some (.bool (x<y))
 |.leq=>some (.bool (x<=y))
 |.gtr=>some (.bool (x > y))
 |.geq=>some (.bool (x ≥ y))
 |.shl=>none
 |.shr=>none
def sU(op:BinOp)(k:IntKind)(x:Int)(n:Nat):Option AV :=
 match op with
 |.shl=>some (.int k (k.wrap (x*2 ^ (min n k.bits))))
 |.shr=>some (.int k (x.fdiv (2 ^ (min n k.bits))))
 |_=>none
def maxStr:Nat:=1099511627776
def Ey(op:BinOp)(x y:List UInt8):Option AV :=
 match op with
 |.add=>if x.length+y.length<=maxStr then some (.str (x++y))else none
 |.eql=>some (.bool (x == y))
 |.neq=>some (.bool (!(x == y)))
 |.lss=>some (.bool (bytesLess x y))
 |.leq=>some (.bool (bytesLess x y||x == y))
 |.gtr=>some (.bool (!(bytesLess x y||x == y)))
 |.geq=>some (.bool (!bytesLess x y))
 |_=>none
def Ag:BinOp->Bool
 |.shl=>true
 |.shr=>true
 |_=>false
def zB(op:BinOp)(x y:AV):Option AV :=
 match x,y with
 |.int k a,.int k' b=>if Ag op then ob (nat? b) (sU op k a)else if k=k' then Eh op k a b else none
 |.str a,.str b=>Ey op a b
 |_,_=>none
def iD:AV->AV->Option Bool
 |.int k a,.int k' b=>if k=k' then some (a == b)else none
 |.str a,.str b=>some (a == b)
 |.bool a,.bool b=>some (a == b)
 |_,_=>none
def kM(kd:Nat):AV->Bool
 |.int _ _=>decide (kd=0)
 |.str _=>decide (kd=1)
 |.bool _=>decide (kd=2)
 |_=>false
def iI:List Nat->List AV->List AV->Option Bool
 |[],[],[]=>some true
 |k::ks,a::x,b::y=>if kM k a=true then ob (iD a b) λr=>om (iI ks x y) λs=>r&&s else none
 |_,_,_=>none
def XQ:AV->AV->Option Bool
 |.bG,.bG=>some true
 |.bG,.ro _ _ _=>some false
 |.bG,.sl _ _ _ _ _ _=>some false
 |.ro _ _ _,.bG=>some false
 |.sl _ _ _ _ _ _,.bG=>some false
 |_,_=>none
def eqFn:AV->AV->Option Bool
 |.dW,.dW=>some true
 |.dW,.fn _ _=>some false
 |.fn _ _,.dW=>some false
 |_,_=>none
def MX:AV->AV->Option Bool
 |.eG,.eG=>some true
 |.eG,.ptr _ _ _=>some false
 |.ptr _ _ _,.eG=>some false
 |.eG,.rop _=>some false
 |.rop _,.eG=>some false
 |_,_=>none
def Nv:AV->AV->Option Bool
 |.dU,.dU=>some true
 |.dU,.map _=>some false
 |.map _,.dU=>some false
 |_,_=>none
def MG(ks:List Nat):AV->AV->Option Bool
 |.agg x,.agg y=>iI ks x y
 |_,_=>none
def Ed:AV->AV->Option Bool
 |.bool a,.bool b=>some (a == b)
 |_,_=>none
def iJ(kd:Nat)(ks:List Nat)(x y:AV):Option Bool :=if kd=0 then XQ x y else if kd=1 then eqFn x y else if kd=2 then MX x y else if kd=3 then Nv x y else if kd=4 then MG ks x y else Ed x y
def Tn(op:UnOp):AV->Option AV
 |.int k n=>match op with
  |.neg=>some (.int k (k.wrap (0-n)))
  |.xor=>some (.int k (k.wrap (BitVec.ofInt k.bits (if k.signed then -1 else k.max) ^^^ BitVec.ofInt k.bits n).toNat))
  |_=>none
 |.bool b=>match op with
  |.not=>some (.bool (!b))
  |_=>none
 |_=>none
def splice(cs:List AV)(off:Nat)(v:List AV):List AV:=cs.take off++(v++cs.drop (off+v.length))
def qH(e:Env):List AV->List (Nat×Nat×Opd)->Option (List AV)
 |cs,[]=>some cs
 |cs,(off,n,x)::r=>if (x.ev e).cells.length=n/\off+n<=cs.length/\(x.ev e).cells.all AV.cell=true then qH e (splice cs off (x.ev e).cells) r else none
def lG(e:Env)(z:Nat):List (List AV)->List (Nat×Opd)->Option (List (List AV))
 |es,[]=>some es
 |es,(i,x)::r=>if (x.ev e).cells.length=z/\i<es.length/\(x.ev e).cells.all AV.cell=true then lG e z (es.set i (x.ev e).cells) r else none
def elems(h:Heap)(z:Nat):AV->Option (List (List AV))
 |.bG=>some []
 |.ro z' es _=>if z'=z then some es else none
 |.sl b z' i len _ _=>if z'=z then(match get h b with
  |some (.cells _ es _)=>if i+len<=es.length then some ((es.drop i).take len)else none
  |_=>none)else none
 |.str s=>if z=1 then some (s.map λc=>[.int .u8 c.toNat])else none
 |_=>none
def dA:Nat:=35184372088832
def newRow(nid zl n bytes:Nat)(xs:List (List AV)):Option (AV×Upd) :=if n*(bytes+1)<=dA then some (.sl nid zl 0 n n false,[(nid,some (.cells zl xs true))])else none
def ad2(o:Option jq)(nid zl bytes:Nat)(b i len cap:Nat)(ex:Bool)(xs:List (List AV))(n:Nat):Option (AV×Upd) :=
 match o with
 |some (.cells zb es mu)=>
  if zb=zl then
   if n<=cap then
    if mu=true/\i+n<=es.length then some (.sl b zl i n cap ex,[(b,some (.cells zl (es.take (i+len)++(xs++es.drop (i+n))) true))])else none
   else if ex then
    if i+len<=es.length then newRow nid zl n bytes ((es.drop i).take len++xs)else none
   else if mu=true/\i=0/\es.length=len/\n*(bytes+1)<=dA then
    some (.sl nid zl 0 n n false,[(b,none),(nid,some (.cells zl (es++xs) true))])
   else none
  else none
 |_=>none
def kQ(h:Heap)(nid zl bytes:Nat)(s:AV)(xs:List (List AV)):Option (AV×Upd) :=
 match s with
 |.bG=>match xs with
  |[]=>some (.bG,[])
  |_=>newRow nid zl xs.length bytes xs
 |.ro z' es ex=>if z'=zl then(match xs with
  |[]=>some (s,[])
  |_=>if ex then newRow nid zl (es.length+xs.length) bytes (es++xs)else none)else none
 |.sl b z' i len cap ex=>if z'=zl then(match xs with
  |[]=>some (s,[])
  |_=>ad2 (get h b) nid zl bytes b i len cap ex xs (len+xs.length))else none
 |_=>none
def bound(v:Option AV)(d:Nat):Option Nat :=
 match v with
 |none=>some d
 |some (.int _ n)=>nat? n
 |some _=>none
def vX(s:List UInt8)(lo hi mx:Option AV):Option AV :=
 match mx with
 |none=>ob (bound hi s.length) λh=>ob (bound lo 0) λl =>if l<=h/\h<=s.length then some (.str ((s.take h).drop l))else none
 |some _=>none
def ku(lo hi mx:Option AV):Option AV :=ob (bound mx 0) λm=>ob (bound hi 0) λh=>ob (bound lo 0) λl =>if l=0/\h=0/\m=0/\¬(mx.isSome=true/\hi.isNone=true)then some .bG else none
def ig(z:Nat)(es:List (List AV))(ex:Bool)(lo hi mx:Option AV):Option AV :=
 match mx with
 |none=>ob (bound hi es.length) λh=>ob (bound lo 0) λl =>if l<=h/\h<=es.length then some (.ro z ((es.take h).drop l) (ex&&decide (h=es.length)))else none
 |some m=>ob (bound (some m) 0) λm=>ob hi λh=>ob (bound (some h) 0) λh=>ob (bound lo 0) λl =>if l<=h/\h<=m/\m<=es.length then some (.ro z ((es.take h).drop l) (decide (m=h)))else none
def nD(b z i len cap:Nat)(ex:Bool)(lo hi mx:Option AV):Option AV :=
 match mx with
 |none=>ob (bound hi len) λh=>ob (bound lo 0) λl =>
  if l<=h/\h<=cap/\len<=cap then
   if l<cap then some (.sl b z (i+l) (h-l) (cap-l) ex)
   else if l=0 then some (.sl b z i h cap ex)else some (.ro z [] ex)
  else none
 |some m=>ob (bound (some m) 0) λm=>ob hi λh=>ob (bound (some h) 0) λh=>ob (bound lo 0) λl =>
  if l<=h/\h<=m/\m<=cap then
   if l<m then some (.sl b z (i+l) (h-l) (m-l) true)else some (.sl b z i 0 0 true)
  else none
def gZ(k:Nat)(x:AV)(lo hi mx:Option AV):Option AV :=
 match x with
 |.str s=>if k=0 then vX s lo hi mx else none
 |.bG=>if k=0 then none else ku lo hi mx
 |.ro z es ex=>if k≠0/\z=k then ig z es ex lo hi mx else none
 |.sl b z i len cap ex=>if k≠0/\z=k then nD b z i len cap ex lo hi mx else none
 |_=>none
def rV:AV->Bool
 |.bool _=>true
 |.int _ _=>true
 |.str _=>true
 |_=>false
def jZ(n:Nat)(cs:List AV)(lo hi:Option AV):Option AV :=if n<=cs.length/\(cs.take n).all rV=true then ig 1 ((cs.take n).map λx=>[x]) true lo hi none else none
def sliceAt(n b i o:Nat)(lo hi:Option AV):Option jq->Option (AV×Upd)
 |some (.cells z es _)=>ob es[i]? λcs=>om (jZ n (cs.drop o) lo hi) λr=>(r,[(b,some (.cells z es false))])
 |_=>none
def wo(h:Heap)(n:Nat)(v:AV)(lo hi:Option AV):Option (AV×Upd) :=
 match v with
 |.rop cs=>om (jZ n cs lo hi) λr=>(r,[])
 |.ptr b i o=>sliceAt n b i o lo hi (get h b)
 |_=>none
def jP:List (AV×AV)->AV->Option (Option AV)
 |[],_=>some none
 |(k,v)::r,x=>ob (iD x k) λc=>if c then some (some v)else jP r x
def kJ:List (AV×AV)->AV->AV->Option (List (AV×AV))
 |[],x,w=>some [(x,w)]
 |(k,v)::r,x,w=>ob (iD x k) λc=>if c then some ((x,w)::r)else om (kJ r x w) λl=>(k,v)::l
def qQ(n:Nat)(ag:Bool)(cs:List AV):Option AV :=if ag then(if n<=cs.length then some (.agg (cs.take n))else none)else cs.head?
def ov(x:Option AV):Option (AV×Upd):=om x λv=>(v,[])
abbrev Step:=Env->Heap->Nat->Option (AV×Upd)
def sMv(x:Opd):Step:=λe _ _=>some (x.ev e,[])
def Fv(c a b:Opd):Step:=λe _ _=>match c.ev e with
 |.bool t=>some (if t then a.ev e else b.ev e,[])
 |_=>none
def afg(z:List AV):Step:=λ_ _ nid=>some (.ptr nid 0 0,[(nid,some (.cells z.length [z] true))])
def boxed(cs:List AV)(nid:Nat):Option (AV×Upd):=if cs.all AV.cell=true then some (.ptr nid 0 0,[(nid,some (.cells cs.length [cs] true))])else none
def agD(x:Opd):Step:=λe _ nid=>boxed (x.ev e).cells nid
def ET(z:List AV)(ps:List (Nat×Nat×Opd)):Step:=λe _ _=>om (qH e z ps) λcs=>(.agg cs,[])
def DY(z:List AV)(len:Nat)(ps:List (Nat×Opd)):Step:=λe _ nid =>om (lG e z.length (List.replicate len z) ps) λes=>(.sl nid z.length 0 len len true,[(nid,some (.cells z.length es true))])
def loadAt(n:Nat)(ag:Bool)(o i:Nat):Option jq->Option AV
 |some (.cells _ es _)=>ob es[i]? λcs=>qQ n ag (cs.drop o)
 |_=>none
def EL(n:Nat)(ag:Bool)(h:Heap):AV->Option AV
 |.rop cs=>qQ n ag cs
 |.ptr b i o=>loadAt n ag o i (get h b)
 |_=>none
def aev(n:Nat)(ag:Bool)(a:Opd):Step:=λe h _=>ov (EL n ag h (a.ev e))
def storeAt(n b i o:Nat)(v:List AV):Option jq->Option (AV×Upd)
 |some (.cells z es mu)=>if mu then ob es[i]? λcs=>if o+n<=cs.length then some (.tup [],[(b,some (.cells z (es.set i (splice cs o v)) true))])else none else none
 |_=>none
def BH(n:Nat)(h:Heap)(v:List AV):AV->Option (AV×Upd)
 |.ptr b i o=>storeAt n b i o v (get h b)
 |_=>none
def Qu(n:Nat)(a x:Opd):Step:=λe h _ =>if (x.ev e).cells.length=n/\(x.ev e).cells.all AV.cell=true then BH n h (x.ev e).cells (a.ev e)else none
def mZ(x:Opd):Step:=λe _ _=>match x.ev e with
 |.ptr b i o=>some (.ptr b i o,[])
 |.rop cs=>some (.rop cs,[])
 |.fn f cs=>some (.fn f cs,[])
 |_=>none
def adv(op:BinOp)(x y:Opd):Step:=λe _ _=>ov (zB op (x.ev e) (y.ev e))
def Kq(kd:Nat)(ks:List Nat)(ne:Bool)(x y:Opd):Step:=λe _ _=>om (iJ kd ks (x.ev e) (y.ev e)) λb=>(.bool (b != ne),[])
def sUn(op:UnOp)(x:Opd):Step:=λe _ _=>ov (Tn op (x.ev e))
def Uz(k:IntKind)(x:Opd):Step:=λe _ _=>match x.ev e with
 |.int _ n=>some (.int k (k.wrap n),[])
 |_=>none
def bytesOf:List (List AV)->Option (List UInt8)
 |[]=>some []
 |e::r=>match e with
  |[.int .u8 n]=>om (bytesOf r) λs=>UInt8.ofNat n.toNat::s
  |_=>none
def Vb:AV->Option AV
 |.bG=>some (.str [])
 |.ro z es _=>if z=1 then om (bytesOf es) λs=>.str s else none
 |_=>none
def UM(x:Opd):Step:=λe _ _=>ov (Vb (x.ev e))
def TD(x:Opd):Step:=λe _ _=>match x.ev e with
 |.str s=>some (.str s,[])
 |_=>none
def Ec(f:Nat)(caps:List Opd):Step:=λe _ _ =>if (caps.all λx=>(x.ev e).cell)=true then some (.fn f (caps.map λx=>x.ev e),[])else none
def ad5:Step:=λ_ _ nid=>some (.map nid,[(nid,some (.map []))])
def Zr(z:List AV)(bytes:Nat)(l c:Opd):Step:=λe _ nid=>match l.ev e,c.ev e with
 |.int _ l,.int _ c=>ob (nat? l) λl=>ob (nat? c) λc =>if l<=c/\c*(bytes+1)<=dA then some (.sl nid z.length 0 l c true,[(nid,some (.cells z.length (List.replicate c z) true))])else none
 |_,_=>none
def oev(e:Env):Option Opd->Option AV
 |some x=>some (x.ev e)
 |none=>none
def BM(n:Nat)(x:Opd)(lo hi:Option Opd):Step:=λe h _=>wo h n (x.ev e) (oev e lo) (oev e hi)
def Es(z:Nat)(x:Opd)(lo hi mx:Option Opd):Step:=λe _ _=>ov (gZ z (x.ev e) (oev e lo) (oev e hi) (oev e mx))
def NS(off:Nat)(x:Opd):Step:=λe _ _=>match x.ev e with
 |.rop cs=>some (.rop (cs.drop off),[])
 |.ptr b i o=>some (.ptr b i (o+off),[])
 |_=>none
def FW(off n:Nat)(ag:Bool)(x:Opd):Step:=λe _ _=>match x.ev e with
 |.agg cs=>ov (qQ n ag (cs.drop off))
 |_=>none
def uI(z n:Nat):AV->Option (AV×Upd)
 |.ro z' es _=>if z'=z then ob es[n]? λcs=>some (.rop cs,[])else none
 |.sl b z' j len _ _=>if z'=z/\n<len then some (.ptr b (j+n) 0,[])else none
 |_=>none
def Gg(z:Nat)(x i:Opd):Step:=λe _ _=>match i.ev e with
 |.int _ n=>ob (nat? n) λn=>uI z n (x.ev e)
 |_=>none
def uz(z n:Nat):AV->Option (AV×Upd)
 |.rop cs=>some (.rop (cs.drop (n*z)),[])
 |.ptr b j o=>some (.ptr b j (o+n*z),[])
 |_=>none
def FI(len z:Nat)(x i:Opd):Step:=λe _ _=>match i.ev e with
 |.int _ n=>ob (nat? n) λn=>if n<len then uz z n (x.ev e)else none
 |_=>none
def qN(x i:Opd):Step:=λe _ _=>match x.ev e,i.ev e with
 |.str s,.int _ n=>ob (nat? n) λn=>ob s[n]? λc=>some (.int .u8 c.toNat,[])
 |_,_=>none
def FB(len z:Nat)(ag:Bool)(x i:Opd):Step:=λe _ _=>match x.ev e,i.ev e with
 |.agg cs,.int _ n=>ob (nat? n) λn=>if n<len then ov (qQ z ag (cs.drop (n*z)))else none
 |_,_=>none
def found(z:AV)(ok:Bool)(r:Option AV):AV :=if ok then .tup [r.getD z,.bool r.isSome]else r.getD z
def lookIn(z:AV)(ok:Bool)(k:AV):Option jq->Option AV
 |some (.map es)=>om (jP es k) (found z ok)
 |_=>none
def Nc(kd:Nat)(z:AV)(ok:Bool)(m k:Opd):Step:=λe h _=>if kM kd (k.ev e)=true then(match m.ev e with
 |.dU=>some (found z ok none,[])
 |.map b=>ov (lookIn z ok (k.ev e) (get h b))
 |_=>none)else none
def afz(b:Nat)(k v:AV):Option jq->Option (AV×Upd)
 |some (.map es)=>om (kJ es k v) λes'=>(.tup [],[(b,some (.map es'))])
 |_=>none
def aiX(kd:Nat)(m k v:Opd):Step:=λe h _=>if kM kd (k.ev e)=true then(match m.ev e with
 |.map b=>afz b (k.ev e) (v.ev e) (get h b)
 |_=>none)else none
def QG(x:Opd):Step:=λe _ nid=>match x.ev e with
 |.str s=>some (.ptr nid 0 0,[(nid,some (.iter s 0))])
 |_=>none
def nextIter(b:Nat):Option jq->Option (AV×Upd)
 |some (.iter s pos)=>if pos<s.length then
  some (.tup [.bool true,.int .i64 pos,.int .i32 (Utf8.decode ⟨⟨s⟩⟩ pos).1],[(b,some (.iter s (pos+(Utf8.decode ⟨⟨s⟩⟩ pos).2)))])
  else some (.tup [.bool false],[])
 |_=>none
def Tv(x:Opd):Step:=λe h _=>match x.ev e with
 |.ptr b 0 0=>nextIter b (get h b)
 |_=>none
def TJ(i:Nat)(x:Opd):Step:=λe _ _=>match x.ev e with
 |.tup vs=>ov vs[i]?
 |_=>none
def WB:Option jq->Option AV
 |some (.map es)=>some (.int .i64 es.length)
 |_=>none
def nZ(kd:Nat)(h:Heap):AV->Option AV
 |.str s=>if kd=0 then some (.int .i64 s.length)else none
 |.bG=>if kd=1 then some (.int .i64 0)else none
 |.ro _ es _=>if kd=1 then some (.int .i64 es.length)else none
 |.sl _ _ _ len _ _=>if kd=1 then some (.int .i64 len)else none
 |.dU=>if kd=2 then some (.int .i64 0)else none
 |.map b=>if kd=2 then WB (get h b)else none
 |_=>none
def sLen(kd:Nat)(x:Opd):Step:=λe h _=>ov (nZ kd h (x.ev e))
def zG:AV->Option AV
 |.bG=>some (.int .i64 0)
 |.ro _ es ex=>if ex then some (.int .i64 es.length)else none
 |.sl _ _ _ _ c ex=>if ex then some (.int .i64 c)else none
 |_=>none
def sCap(x:Opd):Step:=λe _ _=>ov (zG (x.ev e))
def VZ(z:List AV)(bytes:Nat)(zeros:Bool)(s x:Opd):Step:=λe h nid =>
 if zeros then(match x.ev e with
  |.int _ n=>ob (nat? n) λn=>if n*(bytes+1)<=dA then kQ h nid z.length bytes (s.ev e) (List.replicate n z)else none
  |_=>none)
 else ob (elems h z.length (x.ev e)) λxs=>kQ h nid z.length bytes (s.ev e) xs
def XK(z b i len:Nat)(xs:List (List AV))(n:Nat):Option jq->Option (AV×Upd)
 |some (.cells zb es mu)=>if mu=true/\zb=z/\i+len<=es.length then
  some (.int .i64 n,[(b,some (.cells z (es.take i++(xs.take n++es.drop (i+n))) true))])else none
 |_=>none
def uU(h:Heap)(z:Nat)(xs:List (List AV)):AV->Option (AV×Upd)
 |.bG=>some (.int .i64 0,[])
 |.ro _ [] _=>some (.int .i64 0,[])
 |.sl b z' i len _ _=>if z'=z then
  if min xs.length len=0 then some (.int .i64 0,[])else XK z b i len xs (min xs.length len) (get h b)
  else none
 |_=>none
def ai0(z:Nat)(d s:Opd):Step:=λe h _=>ob (elems h z (s.ev e)) λxs=>uU h z xs (d.ev e)
def adg(z:List AV)(b i len:Nat):Option jq->Option (AV×Upd)
 |some (.cells zb es mu)=>if mu=true/\zb=z.length/\i+len<=es.length then
  some (.tup [],[(b,some (.cells z.length (es.take i++(List.replicate len z++es.drop (i+len))) true))])else none
 |_=>none
def JF(h:Heap)(z:List AV):AV->Option (AV×Upd)
 |.bG=>some (.tup [],[])
 |.ro _ [] _=>some (.tup [],[])
 |.sl b z' i len _ _=>if z'=z.length then
  if len=0 then some (.tup [],[])else adg z b i len (get h b)
  else none
 |_=>none
def agP(z:List AV)(d:Opd):Step:=λe h _=>JF h z (d.ev e)
def sMx(x y:Opd):Step:=λe _ _=>match x.ev e,y.ev e with
 |.int k a,.int k' b=>if k=k' then some (.int k (if b > a then b else a),[])else none
 |_,_=>none
def sMn(x y:Opd):Step:=λe _ _=>match x.ev e,y.ev e with
 |.int k a,.int k' b=>if k=k' then some (.int k (if b<a then b else a),[])else none
 |_,_=>none
def DT:Step:=λ_ _ _=>none
def aP(op:COp):Step :=
 match op with
 |.mv x=>sMv x
 |.pick c a b=>Fv c a b
 |.alloc z=>afg z
 |.box x=>agD x
 |.build z ps=>ET z ps
 |.aW z len ps=>DY z len ps
 |.load n ag a=>aev n ag a
 |.store n a x=>Qu n a x
 |.jS x=>mZ x
 |.bin op x y=>adv op x y
 |.eqv kd ks ne x y=>Kq kd ks ne x y
 |.un op x=>sUn op x
 |.cvt k x=>Uz k x
 |.cvs x=>TD x
 |.cvb x=>UM x
 |.lN f caps=>Ec f caps
 |.kP=>ad5
 |.nK z bytes l c=>Zr z bytes l c
 |.slice z x lo hi mx=>Es z x lo hi mx
 |.gW n x lo hi=>BM n x lo hi
 |.fld off x=>NS off x
 |.zJ off n ag x=>FW off n ag x
 |.idxs z x i=>Gg z x i
 |.gG len z x i=>FI len z x i
 |.fE x i=>qN x i
 |.y8 len z ag x i=>FB len z ag x i
 |.look kd z ok m k=>Nc kd z ok m k
 |.upd kd m k v=>aiX kd m k v
 |.range x=>QG x
 |.next x=>Tv x
 |.ext i x=>TJ i x
 |.len kd x=>sLen kd x
 |.cap x=>sCap x
 |.app z bytes zeros s x=>VZ z bytes zeros s x
 |.cpy z d s=>ai0 z d s
 |.clr z d=>agP z d
 |.mx x y=>sMx x y
 |.mn x y=>sMn x y
 |.call _ _=>DT
 |.dY _ _=>DT
 |.fail=>DT
def COp.makes:COp->Bool
 |.alloc _=>true
 |.box _=>true
 |.aW _ _ _=>true
 |.kP=>true
 |.nK _ _ _ _=>true
 |.range _=>true
 |.app _ _ _ _ _=>true
 |_=>false
inductive Ex where
 |norm
 |exit (id:Nat)
 |ret
 deriving Inhabited
structure St where
 env:Env
 heap:Heap
 next:Nat
 deriving Inhabited
abbrev Run:=Nat->List AV->Heap->Nat->Option (AV×Heap×Nat)
def sW(run:Run)(f:Nat)(args:List AV):Option AV :=ob (run f args [] 0) λr=>frz r.2.1 aC r.1
def tidy(_:Nat)(r:AV×Heap×Nat):AV×Heap×Nat:=r
def uw(run:Run)(f:Nat)(args:List AV)(h:Heap)(n:Nat):Option (AV×Heap×Nat) :=om (run f args h n) (tidy n)
def marks(h:Heap)(args:List AV)(v:AV):Upd :=if fP aC v then aY h (args.flatMap (reach h aC))else[]
inductive Called where
 |data (v:AV) (u:Upd)
 |whole (v:AV) (h:Heap) (n:Nat)
 |deep (v:AV) (u:Upd) (n:Nat)
mutual
/-- Does it hold a pointer or a map? -/
def cu:AV->Bool
 |.ptr _ _ _=>true
 |.map _=>true
 |.fn _ cs=>bW cs
 |.agg cs=>bW cs
 |.tup cs=>bW cs
 |_=>false
def bW:List AV->Bool
 |[]=>false
 |v::r=>cu v||bW r
end
def Pv(f:Nat):Bool:=decide (3000<=f)
def rZ(f:Nat):Bool:=decide (5000<=f)
def ups(n n1:Nat)(h:Heap):Upd:=((h.filter λx=>decide (n<=x.1/\x.1<n1)).map λx=>(x.1,some x.2)).reverse
def mg:AV->Bool
 |.bool _=>true
 |.int _ _=>true
 |.str _=>true
 |.eG=>true
 |.bG=>true
 |.dU=>true
 |.dW=>true
 |.ro _ _ _=>true
 |.rop _=>true
 |.fn _ []=>true
 |_=>false
mutual
/-- The first block that a value names. -/
def nP:AV->Option Nat
 |.ptr b _ _=>some b
 |.sl b _ _ _ _ _=>some b
 |.map b=>some b
 |.fn _ cs=>jv cs
 |.agg cs=>jv cs
 |.tup cs=>jv cs
 |_=>none
def jv:List AV->Option Nat
 |[]=>none
 |v::r=>match nP v with
  |some b=>some b
  |none=>jv r
end
mutual
/-- A value that names one block alone, under another number. -/
def hand(b nid:Nat):AV->Option AV
 |.undef=>none
 |.ptr c i o=>if c=b then some (.ptr nid i o)else none
 |.sl c z i l k ex=>if c=b then some (.sl nid z i l k ex)else none
 |.map _=>none
 |.fn f cs=>om (nO b nid cs) λcs=>.fn f cs
 |.agg cs=>om (nO b nid cs) λcs=>.agg cs
 |.tup cs=>om (nO b nid cs) λcs=>.tup cs
 |v=>some v
def nO(b nid:Nat):List AV->Option (List AV)
 |[]=>some []
 |v::r=>ob (hand b nid v) λv=>om (nO b nid r) λr=>v::r
end
def Hr(nid:Nat)(v:AV)(b:Nat):Option jq->Option (AV×Upd)
 |some (.cells z es mu)=>if (mu&&es.all λe=>e.all mg)=true then om (hand b nid v) λv=>(v,[(nid,some (.cells z es true))])else none
 |_=>none
def jc(run:Run)(f:Nat)(args:List AV)(nid:Nat):Option (AV×Upd) :=
 ob (run f args [] 0) λr=>match nP r.1 with
  |none=>om (hand r.2.2 0 r.1) λv=>(v,[])
  |some b=>Hr nid r.1 b (get r.2.1 b)
mutual
/-- A value that names no read-only memory. -/
def iy:AV->Bool
 |.undef=>false
 |.ro _ es ex=>es.isEmpty&&ex
 |.rop _=>false
 |.fn _ cs=>ou cs
 |.agg cs=>ou cs
 |.tup cs=>ou cs
 |_=>true
def ou:List AV->Bool
 |[]=>true
 |v::r=>iy v&&ou r
end
def acz:Option jq->Bool
 |some (.cells _ es _)=>es.all ou
 |_=>false
def vK(x:AV×Upd):Bool:=iy x.1&&x.2.all λy=>acz y.2
def uh(f:Nat):Bool:=decide (4000<=f)
def EI(f:Nat)(u:Upd):Upd:=if uh f=true then[]else u
def DF(f:Nat)(u:Upd)(x:AV×Upd):Option Called :=if (uh f&&!vK x)=true then none else some (.data x.1 (EI f u++x.2))
mutual
/-- A value that names no read-only memory, and of blocks only those of a list. -/
def dw(L:List Nat):AV->Bool
 |.undef=>false
 |.ro _ es ex=>es.isEmpty&&ex
 |.rop _=>false
 |.ptr b _ _=>L.contains b
 |.sl b _ _ _ _ _=>L.contains b
 |.map _=>false
 |.fn _ cs=>ru L cs
 |.agg cs=>ru L cs
 |.tup cs=>ru L cs
 |_=>true
def ru(L:List Nat):List AV->Bool
 |[]=>true
 |v::r=>dw L v&&ru L r
end
def F9(L:List Nat):Option jq->Bool
 |some (.cells _ es mu)=>mu&&es.all (ru L)
 |_=>false
def Yq(h:Heap)(v:AV)(L:List Nat):Bool:=dw L v&&L.all λb=>F9 L (get h b)
def zU(f:Nat):Bool:=decide (6000<=f)
def Ti(f:Nat)(u:Upd):Upd:=if zU f=true then[]else u
def wI(f:Nat)(h:Heap)(v:AV):Option Heap :=if zU f=true then(if Yq h v (reach h aC v)=true then some (h.filter λx=>(reach h aC v).contains x.1)else none)else some h
def sD(run:Run)(f:Nat)(args:List AV)(n:Nat):Option (AV×Upd×Nat):=ob (run f args [] n) λr=>om (wI f r.2.1 r.1) λhk=>(r.1,ups n r.2.2 hk,r.2.2)
def jy(C:Prog)(run:Run)(f:Nat)(args:List AV)(h:Heap)(nid n:Nat):Option Called :=
 match (if (C.inl f||(!C.pp f&&bW args))=true then none else aZ (frz h aC) args)with
 |some az=>om (sW run f az) λv=>.data v (marks h args v)
 |none=>if (C.inl f&&rZ f)=true then ob (aZ (frz h aC) args) λaz=>om (sD run f az n) λx=>.deep x.1 (Ti f (aY h (args.flatMap (reach h aC)))++x.2.1) x.2.2
  else if (C.inl f&&Pv f)=true then ob (aZ (frz h aC) args) λaz=>ob (jc run f az nid) (DF f (aY h (args.flatMap (reach h aC))))
  else om (uw run f args h n) λr=>.whole r.1 r.2.1 r.2.2
def dO(e:Env)(d:Option Nat)(v:AV):Env :=
 match d with
 |some d=>put e d v
 |none=>e
def wants(e:Env):Option (Nat×Bool)->Option Bool
 |none=>some true
 |some (s,want)=>match get e s with
  |some (.bool b)=>some (b == want)
  |some (.tup [])=>some false
  |_=>none
def callOf(e:Env):COp->Option (Option (Nat×List AV))
 |.call f args=>some (some (f,args.map λx=>x.ev e))
 |.dY g args=>match g.ev e with
  |.fn f caps=>some (some (f,args.map (λx=>x.ev e)++caps))
  |_=>none
 |_=>some none
structure Did where
 v:AV
 h:Heap
 n:Nat
 bar:Bool
 rd:List Nat
 wr:List Nat
def eH:AV->List Nat
 |.ptr b _ _=>[b]
 |.sl b _ _ _ _ _=>[b]
 |.map b=>[b]
 |_=>[]
def readsOf(e:Env):COp->List Nat
 |.load _ _ a=>eH (a.ev e)
 |.gW _ x _ _=>eH (x.ev e)
 |.store _ a _=>eH (a.ev e)
 |.app _ _ _ s x=>eH (s.ev e)++eH (x.ev e)
 |.cpy _ d x=>eH (d.ev e)++eH (x.ev e)
 |.clr _ d=>eH (d.ev e)
 |.look _ _ _ m _=>eH (m.ev e)
 |.upd _ m _ _=>eH (m.ev e)
 |.len _ m=>eH (m.ev e)
 |.next x=>eH (x.ev e)
 |_=>[]
def bZ(h:Heap)(n:Nat)(args:List AV):Called->Did
 |.data v u=>⟨v,aS h u,n,false,args.flatMap (reach h aC),u.map (·.1)⟩
 |.whole v h' n'=>⟨v,h',n',true,[],[]⟩
 |.deep v u n'=>⟨v,aS h u,n',false,args.flatMap (reach h aC),u.map (·.1)⟩
def jr(C:Prog)(run:Run)(op:COp)(nid:Nat)(e:Env)(h:Heap)(n:Nat):Option Did :=
 match callOf e op with
 |none=>none
 |some (some (f,args))=>om (jy C run f args h nid n) (bZ h n args)
 |some none=>om (aP op e h nid) λx=>⟨x.1,aS h x.2,n,false,readsOf e op,x.2.map (·.1)⟩
def jI(C:Prog)(run:Run)(o:bn)(nid:Nat)(e:Env)(h:Heap)(n:Nat):Option Did :=
 match wants e o.guard with
 |none=>none
 |some false=>some ⟨.tup [],h,n,false,[],[]⟩
 |some true=>jr C run o.op nid e h n
def lX(C:Prog)(run:Run):List bn->St->Option St
 |[],s=>some s
 |o::r,s=>ob (jI C run o s.next s.env s.heap (s.next+1)) λd=>lX C run r ⟨dO s.env o.dst d.v,d.h,d.n⟩
def meets(a b:List Nat):Bool:=a.any λx=>b.any λy=>decide (x=y)
def quiet(d:Did):Bool:=!d.bar&&(d.wr.isEmpty&&d.rd.isEmpty)
def clash(a b:Did):Bool:=!(quiet a||quiet b)&&(a.bar||(b.bar||(meets a.wr b.wr||(meets a.wr b.rd||meets a.rd b.wr))))
def pO(C:Prog)(run:Run):List bn->Nat->St->List Did->Option (St×List Did)
 |[],_,s,ds=>some (s,ds)
 |o::r,nid,s,ds=>ob (jI C run o nid s.env s.heap s.next) λd=>pO C run r (nid+1) ⟨dO s.env o.dst d.v,d.h,d.n⟩ (ds++[d])
def apart(ds:List Did)(p:Nat×Nat):Bool :=
 match ds[p.1]?,ds[p.2]? with
 |some a,some b=>!clash a b
 |_,_=>false
def fF:Nat->List AV->Env
 |_,[]=>[]
 |k,v::r=>(k,v)::fF (k+1) r
def FN(e:Env)(h:Heap):vN->Option AV
 |.tmp t=>get e t
 |.cell t n ag=>match get e t with
  |some (.ptr b i o)=>loadAt n ag o i (get h b)
  |_=>none
def Et:List AV->AV
 |[v]=>v
 |vs=>.tup vs
def results(e:Env)(h:Heap)(rs:List vN):Option AV:=om (aZ (FN e h) rs) Et
def Td(fn:CFn)(r:Ex×St):Option (AV×Heap×Nat) :=
 match r.1 with
 |.exit _=>none
 |_=>om (results r.2.env r.2.heap fn.res) λv=>(v,r.2.heap,r.2.next)
def runWith(C:Prog)(ev:bC->St->Option (Ex×St)):Run:=λf args h n =>ob (C.fns.get f) λfn=>if args.length=fn.np then ob (ev fn.body ⟨fF 0 args,h,n⟩) (Td fn)else none
def iK(live:Nat)(s:St):St:=⟨if live=0 then s.env else Pav.keep live s.env,s.heap,s.next⟩
def cO(b:St->Option (Ex×St))(r:Ex×St):Option (Ex×St) :=
 match r.1 with
 |.norm=>b r.2
 |_=>some r
def dB(id:Nat)(r:Ex×St):Ex×St :=
 match r.1 with
 |.exit i=>if i=id then(.norm,r.2)else r
 |_=>r
def uj(a b:St->Option (Ex×St))(v:AV)(s:St):Option (Ex×St) :=
 match v with
 |.bool t=>if t then a s else b s
 |_=>none
def Hz(k:Nat)(s:St):Option St :=ob (get s.env k) λv=>om (frz s.heap aC v) λv'=>⟨dO s.env (some k) v',aS s.heap (aY s.heap (reach s.heap aC v)),s.next⟩
def lI:List Nat->St->Option St
 |[],s=>some s
 |k::r,s=>ob (Hz k s) (lI r)
def kL(live:Nat×List Nat)(s:St):Option St:=om (lI live.2 s) (iK live.1)
def Dp(un:List (Nat×Nat))(live:Nat×List Nat)(r:St×List Did):Option (Ex×St) :=if un.all (apart r.2)=true then om (kL live r.1) λs=>(.norm,s)else none
def markRow:List AV->Bool
 |[.str _]=>true
 |_=>false
def AP:AV->Bool
 |.bG=>true
 |.ro z es _=>decide (z=1)&&es.all markRow
 |_=>false
def zV:List AV->Option Int
 |[.int .u64 k,.int .u8 _,.str _,m,.int .i64 _,.bool _]=>if AP m=true then some k else none
 |_=>none
def qM:AV->Option (List Int)
 |.agg [.bG]=>some []
 |.agg [.ro z es _]=>if z=6/\es.length<=1000000 then aZ zV es else none
 |_=>none
def aop(k:Int):Nat->List Int->Option Nat
 |_,[]=>none
 |i,x::r=>if x=k then some i else aop k (i+1) r
def hasK(l:List Int)(k:Int):Bool:=l.any λx=>decide (x=k)
def WW(l:List Int):Int:=match l with
 |[]=>0
 |x::_=>x
def aoX(kb kn:List Int)(k d:Int):Int×Int :=
 if k=0 then(WW kn,0)else if hasK kn k=true then(k,d)else match aop k 0 kb with
  |none=>(WW kn,0)
  |some i=>match (kb.drop (i+1)++(kb.take i).reverse).find? (hasK kn)with
   |some x=>(x,0)
   |none=>(WW kn,0)
def oW:List AV->Option AV
 |[b,n,.agg [.int .u64 k,.int .i64 d]]=>ob (qM b) λkb=>om (qM n) λkn=>.agg [.int .u64 (aoX kb kn k d).1,.int .i64 (aoX kb kn k d).2]
 |_=>none
def vJ(k:Nat)(args:List AV):Option AV:=if k=0 then oW args else none
def sK(k:Nat):Nat:=if k=0 then 3 else 0
def dK:Nat->Nat->Env->List AV
 |0,_,_=>[]
 |n+1,i,e=>(get e i).getD .undef::dK n (i+1) e
def VJ(k:Nat):CFn:=⟨sK k,[.tmp 9],.zx k⟩
def evC(C:Prog):Nat->bC->St->Option (Ex×St)
 |0,_,_=>none
 |n+1,c,s=>
  match c with
  |.skip=>some (.norm,s)
  |.ops l live=>ob (lX C (runWith C (evC C n)) l s) λs=>om (kL live s) λs=>(.norm,s)
  |.draw l un live=>ob (pO C (runWith C (evC C n)) l s.next ⟨s.env,s.heap,s.next+l.length⟩ []) (Dp un live)
  |.seq a b=>ob (evC C n a s) (cO (evC C n b))
  |.cond c a b=>uj (evC C n a) (evC C n b) (c.ev s.env) s
  |.block id b=>om (evC C n b s) (dB id)
  |.loop live b=>ob (evC C n b (iK live s)) (cO (evC C n (.loop live b)))
  |.exit id=>some (.exit id,s)
  |.ret=>some (.ret,s)
  |.fail=>none
  |.zx k=>om (vJ k (dK (sK k) 0 s.env)) λv=>(.ret,⟨put s.env 9 v,s.heap,s.next⟩)
def run(C:Prog)(n:Nat):Run:=runWith C (evC C n)
def ajw(C:Prog)(n:Nat)(f:Nat)(args:List AV):Option AV:=sW (run C n) f args
def Kr(r r':Run):Prop:=∀f args h n x,r f args h n=some x->r' f args h n=some x
theorem bP{α β:Type}{x x':Option α}{f f':α->Option β}{b:β}(h:ob x f=some b)(hx:∀a,x=some a->x'=some a)(hf:∀a,f a=some b->f' a=some b):ob x' f'=some b:=by
 cases x with
 |none=>simp[ob]at h
 |some a=>rw[hx a rfl];exact hf a h
theorem lg{α β:Type}{x x':Option α}{f:α->β}{b:β}(h:om x f=some b)(hx:∀a,x=some a->x'=some a):om x' f=some b:=by
 cases x with
 |none=>simp[om]at h
 |some a=>rw[hx a rfl];exact h
section
variable {C:Prog}{r r':Run}
theorem U7(hr:Kr r r'){f:Nat}{args:List AV}{h:Heap}{nid n:Nat}{c:Called}(hc:jy C r f args h nid n=some c):jy C r' f args h nid n=some c:=by
 unfold jy at hc |-;split
 ·rename_i az ha;rw[ha]at hc;exact lg hc λv hv=>bP hv (λx hx=>hr _ _ _ _ _ hx) λx hx=>hx
 ·rename_i ha;rw[ha]at hc;simp only at hc;by_cases hd:(C.inl f&&rZ f)=true
  ·rw[qzq hd]at hc |-;exact bP hc (λx hx=>hx) λaz has=>lg has λv hv=>bP hv (λx hx=>hr _ _ _ _ _ hx) λx hx=>hx
  rw[qwx hd]at hc |-;split
  ·rename_i hf;rw[qzq hf]at hc;exact bP hc (λx hx=>hx) λaz has=>bP has (λv hv=>bP hv (λx hx=>hr _ _ _ _ _ hx) λx hx=>hx) λx hx=>hx
  ·rename_i hf;rw[qwx hf]at hc;exact lg hc λv hv=>lg hv λx hx=>hr _ _ _ _ _ hx
theorem Xn(hr:Kr r r'){op:COp}{nid:Nat}{e:Env}{h:Heap}{n:Nat}{d:Did}(hd:jr C r op nid e h n=some d):jr C r' op nid e h n=some d:=by
 unfold jr at hd |-;split
 ·rename_i hc;rw[hc]at hd;cases hd
 ·rename_i hc;rw[hc]at hd;exact lg hd λc hc=>U7 hr hc
 ·rename_i hc;rw[hc]at hd;exact hd
theorem Mc(hr:Kr r r'){o:bn}{nid:Nat}{e:Env}{h:Heap}{n:Nat}{d:Did}(hd:jI C r o nid e h n=some d):jI C r' o nid e h n=some d:=by
 unfold jI at hd |-;split
 ·rename_i hc;rw[hc]at hd;cases hd
 ·rename_i hc;rw[hc]at hd;exact hd
 ·rename_i hc;rw[hc]at hd;exact Xn hr hd
theorem WV(hr:Kr r r'):∀(l:List bn) (s s':St),lX C r l s=some s'->lX C r' l s=some s':=by
 intro l;induction l with
 |nil=>intro s s' h;exact h
 |cons o l ih=>intro s s' h;exact bP h (λd hd=>Mc hr hd) λd hd=>ih _ _ hd
theorem SX(hr:Kr r r'):∀(l:List bn) (nid:Nat) (s:St) (ds:List Did) (x:St×List Did),pO C r l nid s ds=some x->pO C r' l nid s ds=some x:=by
 intro l;induction l with
 |nil=>intro nid s ds x h;exact h
 |cons o l ih=>intro nid s ds x h;exact bP h (λd hd=>Mc hr hd) λd hd=>ih _ _ _ _ hd
theorem Q8{ev ev':bC->St->Option (Ex×St)}(he:∀c s x,ev c s=some x->ev' c s=some x):Kr (runWith C ev) (runWith C ev'):=by
 intro f args h n x hx;refine bP hx (λa ha=>ha) λfn hfn=>?_;split
 ·rename_i hl;rw[qzq hl]at hfn;exact bP hfn (λa ha=>he _ _ _ ha) λa ha=>ha
 ·rename_i hl;rw[qwx hl]at hfn;cases hfn
theorem KZ{b b':St->Option (Ex×St)}(h:∀s x,b s=some x->b' s=some x){r:Ex×St}{x:Ex×St}(hx:cO b r=some x):cO b' r=some x:=by
 unfold cO at hx |-;split
 ·rename_i hr;rw[hr]at hx;exact h _ _ hx
 ·split at hx
  ·rename_i h1 _ h2;exact absurd h2 h1
  ·exact hx
theorem pU:∀(n m:Nat),n<=m->∀(c:bC) (s:St) (x:Ex×St),evC C n c s=some x->evC C m c s=some x:=by
 intro n;induction n with
 |zero=>intro m _ c s x h;simp only[evC]at h;cases h
 |succ n ih=>
  intro m hm c s x h;obtain⟨m,rfl⟩:∃k,m=k+1:=⟨m-1,by omega⟩;have ih':=ih m qqq;have hr:Kr (runWith C (evC C n)) (runWith C (evC C m)):=Q8 ih';cases c with
  |skip=>exact h
  |exit id=>exact h
  |ret=>exact h
  |fail=>exact h
  |zx k=>exact h
  |ops l live=>simp only[evC]at h |-;exact bP h (λs' hs=>WV hr l s s' hs) λx hx=>hx
  |draw l un live=>simp only[evC]at h |-;exact bP h (λx hx=>SX hr l _ _ _ x hx) λx hx=>hx
  |seq a b=>simp only[evC]at h |-;exact bP h (λx hx=>ih' _ _ _ hx) λx hx=>KZ (λs x hx=>ih' _ _ _ hx) hx
  |cond c a b=>
   simp only[evC]at h |-;unfold uj at h |-;split
   ·rename_i t hv;rw[hv]at h;cases t with
    |true=>exact ih' _ _ _ h
    |false=>exact ih' _ _ _ h
   ·split at h
    ·rename_i h1 _ t hv;exact absurd hv (h1 t)
    ·cases h
  |block id b=>simp only[evC]at h |-;exact lg h λx hx=>ih' _ _ _ hx
  |loop live b=>simp only[evC]at h |-;exact bP h (λx hx=>ih' _ _ _ hx) λx hx=>KZ (λs x hx=>ih' _ _ _ hx) hx
end
section
open Classical
noncomputable def lim{α:Type}(g:Nat->Option α):Option α:=if h:∃n a,g n=some a then some (Classical.choose (qnz h))else none
def aia{α:Type}(g:Nat->Option α):Prop:=∀n m,n<=m->∀a,g n=some a->g m=some a
theorem am2{α:Type}{g:Nat->Option α}(hm:aia g){n:Nat}{a:α}(h:g n=some a):lim g=some a:=by have hx:∃n a,g n=some a:=⟨n,a,h⟩;unfold lim;rw[zWq hx];have h1:=qnz (qnz hx);have h2:=hm _ _ (quj n (Classical.choose hx)) _ h;have h3:=hm _ _ (qmz n (Classical.choose hx)) _ h1;rw[h2]at h3;exact h3.symm
theorem afa{α:Type}{g:Nat->Option α}(_hm:aia g){a:α}(h:lim g=some a):∃n,g n=some a:=by
 unfold lim at h;split at h
 ·rename_i hx;cases h;exact⟨_,qnz (qnz hx)⟩
 ·cases h
theorem aij{α:Type}{g:Nat->Option α}(hm:aia g){a:α}:lim g=some a↔∃n,g n=some a :=⟨afa hm,λ⟨_,h⟩=>am2 hm h⟩
theorem uF{α:Type}{x y:Option α}(h:∀a,x=some a↔y=some a):x=y:=by
 cases x with
 |none=>cases y with
  |none=>rfl
  |some b=>exact absurd ((h b).2 rfl) qqz
 |some a=>exact((h a).1 rfl).symm
end
section
variable (C:Prog)
noncomputable def Cd(c:bC)(s:St):Option (Ex×St):=lim λn=>evC C n c s
noncomputable def Rn:Run:=runWith C (Cd C)
noncomputable def Fn(f:Nat)(args:List AV):Option AV:=sW (Rn C) f args
end
section
variable {C:Prog}
theorem pz{α β:Type}{x:Option α}{f:α->Option β}{b:β}:ob x f=some b↔∃a,x=some a/\f a=some b:=by cases x<;>simp[ob]
end
end Go.Pav
end
section
namespace Go.Pw
open Go Go.Pav
inductive dD where
 |cells (z:Nat) (es:List (List AV)) (mu dt:Bool)
 |map (es:List (AV×AV))
 |iter (s:List UInt8) (pos:Nat)
 deriving Inhabited
abbrev aI:=List (Nat×dD)
abbrev dV:=List (Nat×Option dD)
def isC:AV->Bool
 |.bool _=>true
 |.int _ _=>true
 |.str _=>true
 |.eG=>true
 |.bG=>true
 |.dU=>true
 |.dW=>true
 |.ro _ _ _=>true
 |.rop _=>true
 |.fn _ []=>true
 |_=>false
def isD:AV->Bool
 |.agg cs=>cs.all isC
 |v=>isC v
mutual
def refs:AV->List Nat
 |.ptr b _ _=>[b]
 |.sl b _ _ _ _ _=>[b]
 |.map b=>[b]
 |.fn _ cs=>FD cs
 |.agg cs=>FD cs
 |.tup cs=>FD cs
 |_=>[]
def FD:List AV->List Nat
 |[]=>[]
 |v::r=>refs v++FD r
end
mutual
def ren(π:Nat->Option Nat):AV->Option AV
 |.ptr b i o=>om (π b) λb=>.ptr b i o
 |.sl b z i l c ex=>om (π b) λb=>.sl b z i l c ex
 |.map b=>om (π b) λb=>.map b
 |.fn f cs=>om (mQ π cs) λcs=>.fn f cs
 |.agg cs=>om (mQ π cs) λcs=>.agg cs
 |.tup cs=>om (mQ π cs) λcs=>.tup cs
 |v=>some v
def mQ(π:Nat->Option Nat):List AV->Option (List AV)
 |[]=>some []
 |v::r=>ob (ren π v) λv=>om (mQ π r) λr=>v::r
end
def Rk:Option dD->List Nat
 |some (.cells _ es _ dt)=>if dt then[]else es.flatMap FD
 |_=>[]
def iH(π:Nat->Option Nat):dD->Option dD
 |.cells z es mu dt=>if dt then some (.cells z es mu dt)else om (aZ (mQ π) es) λes=>.cells z es mu dt
 |.map es=>some (.map es)
 |.iter s p=>some (.iter s p)
def Gv:Env->List Nat
 |[]=>[]
 |(_,v)::r=>refs v++Gv r
def uV(base:Nat):aI->List Nat
 |[]=>[]
 |(b,o)::r=>if b<base then Rk (some o)++uV base r else uV base r
def close(base:Nat)(h:aI):Nat->List Nat->List Nat->List Nat
 |0,_,acc=>acc
 |_+1,[],acc=>acc
 |n+1,b::w,acc=>if b<base then close base h n w acc else if acc.contains b then close base h n w acc else close base h n (Rk (Pav.get h b)++w) (acc++[b])
def place(n:Nat):List Nat->Nat->Option Nat
 |[],_=>none
 |a::r,b=>if a=b then some n else place (n+1) r b
def iF(base:Nat)(L:List Nat)(b:Nat):Option Nat:=if b<base then some b else place base L b
def kH(π:Nat->Option Nat):Env->Option Env
 |[]=>some []
 |(k,v)::r=>ob (ren π v) λv=>om (kH π r) λr=>(k,v)::r
def jU(base:Nat)(π:Nat->Option Nat):aI->Option aI
 |[]=>some []
 |(b,o)::r=>if b<base then ob (iH π o) λo=>om (jU base π r) λr=>(b,o)::r else jU base π r
def mP(π:Nat->Option Nat)(h:aI)(n:Nat):List Nat->Option aI
 |[]=>some []
 |b::r=>match Pav.get h b with
  |some o=>ob (iH π o) λo=>om (mP π h (n+1) r) λr=>(n,o)::r
  |none=>mP π h (n+1) r
structure WSt where
 env:Env
 heap:aI
 next:Nat
 deriving Inhabited
structure Ann where
 cn:Bool
 live:List Nat
 grow:List (Nat×Nat)
 deriving Inhabited
def vP:Env->Nat->AV->Env
 |[],n,x=>[(n,x)]
 |(k,v)::r,n,x=>if k<n then(n,x)::(k,v)::r else if k=n then(n,x)::r else(k,v)::vP r n x
def fC(e:Env)(d:Option Nat)(v:AV):Env :=
 match d with
 |some d=>vP e d v
 |none=>e
def Fh:Nat->List AV->Env->Env
 |_,[],acc=>acc
 |k,v::r,acc=>Fh (k+1) r ((k,v)::acc)
def tV(k:Nat):List Nat->List Nat
 |[]=>[]
 |a::l=>if k<a then tV k l else a::l
def Zm:Env->List Nat->Env
 |[],_=>[]
 |(k,v)::r,live=>match tV k live with
  |[]=>[]
  |a::l=>if a=k then(k,v)::Zm r l else Zm r (a::l)
def pV(live:List Nat)(e:Env):Env:=Zm e live
def Yl(k:Nat)(v:AV)(r:Env):List Nat->Env
 |[]=>[]
 |a::l=>if a=k then(k,v)::pV l r else pV (a::l) r
theorem MW(live:List Nat):pV live []=[]:=rfl
theorem JB(live:List Nat)(k:Nat)(v:AV)(r:Env):pV live ((k,v)::r)=Yl k v r (tV k live):=by simp only[pV,Zm];cases tV k live<;>rfl
def Dc(s:WSt)(k z:Nat):AV->WSt
 |.ro z' [] true=>if z'=z then⟨vP s.env k (.sl s.next z 0 0 0 false),put s.heap s.next (.cells z [] true true),s.next+1⟩else s
 |_=>s
def lu:List (Nat×Nat)->WSt->WSt
 |[],s=>s
 |(k,z)::r,s=>match Pav.get s.env k with
  |some v=>lu r (Dc s k z v)
  |none=>lu r s
def renumber(base:Nat)(s:WSt)(L:List Nat):Option WSt :=ob (kH (iF base L) s.env) λe=>ob (jU base (iF base L) s.heap) λh1=>om (mP (iF base L) s.heap base L) λh2=>⟨e,h1++h2,base+L.length⟩
def WQ(base:Nat)(s:WSt):Option WSt:=renumber base s (close base s.heap 1000 (Gv s.env++uV base s.heap) [])
def bitsOf:List Nat->Nat
 |[]=>0
 |k::r=>2 ^ k ||| bitsOf r
def Zi:List (Nat×Nat)->Bool
 |[]=>false
 |(_,z)::r=>if z=65537 then true else Zi r
def canon(base:Nat)(a:Ann)(s:WSt):Option WSt :=
 match a.cn with
 |true=>match Zi a.grow with
  |true=>some (lu a.grow ⟨pV a.live s.env,s.heap,s.next⟩)
  |false=>WQ base (lu a.grow ⟨pV a.live s.env,s.heap,s.next⟩)
 |false=>some s
def uo(a:Ann):Nat:=match a.cn with
 |true=>bitsOf a.live
 |false=>0
def KA:List (Nat×Nat)->List Nat
 |[]=>[]
 |(k,z)::r=>if z=65536 then k::KA r else KA r
def BI(h:aI)(b:Nat):Option dD->aI
 |some o=>put h b o
 |none=>del h b
def bT:aI->dV->aI
 |h,[]=>h
 |h,(b,o)::r=>bT (BI h b o) r
abbrev nV:=Env->aI->Nat->Option (AV×dV)
def ovW(x:Option AV):Option (AV×dV):=om x λv=>(v,[])
def V7(z:List AV):nV:=λ_ _ nid=>some (.ptr nid 0 0,[(nid,some (.cells z.length [z] true (z.all isC)))])
def X5(cs:List AV)(nid:Nat):Option (AV×dV):=if cs.all AV.cell=true then some (.ptr nid 0 0,[(nid,some (.cells cs.length [cs] true (cs.all isC)))])else none
def amN(x:Opd):nV:=λe _ nid=>X5 (x.ev e).cells nid
def Q7(z:List AV)(len:Nat)(ps:List (Nat×Opd)):nV:=λe _ nid =>om (lG e z.length (List.replicate len z) ps) λes=>(.sl nid z.length 0 len len true,[(nid,some (.cells z.length es true (es.all λc=>c.all isC)))])
def yP(n:Nat)(ag:Bool)(o i:Nat):Option dD->Option AV
 |some (.cells _ es _ _)=>ob es[i]? λcs=>qQ n ag (cs.drop o)
 |_=>none
def Aj(n:Nat)(ag:Bool)(h:aI):AV->Option AV
 |.rop cs=>qQ n ag cs
 |.ptr b i o=>yP n ag o i (Pav.get h b)
 |_=>none
def af5(n:Nat)(ag:Bool)(a:Opd):nV:=λe h _=>ovW (Aj n ag h (a.ev e))
def Js(n b i o:Nat)(v:List AV):Option dD->Option (AV×dV)
 |some (.cells z es mu dt)=>if mu then ob es[i]? λcs=>if o+n<=cs.length then some (.tup [],[(b,some (.cells z (es.set i (splice cs o v)) true (dt&&v.all isC)))])else none else none
 |_=>none
def wH(n:Nat)(h:aI)(v:List AV):AV->Option (AV×dV)
 |.ptr b i o=>Js n b i o v (Pav.get h b)
 |_=>none
def Oh(n:Nat)(a x:Opd):nV:=λe h _ =>if (x.ev e).cells.length=n/\(x.ev e).cells.all AV.cell=true then wH n h (x.ev e).cells (a.ev e)else none
def WO:nV:=λ_ _ nid=>some (.map nid,[(nid,some (.map []))])
def aeG(z:List AV)(bytes:Nat)(l c:Opd):nV:=λe _ nid=>match l.ev e,c.ev e with
 |.int _ l,.int _ c=>ob (nat? l) λl=>ob (nat? c) λc =>if l<=c/\c*(bytes+1)<=dA then some (.sl nid z.length 0 l c true,[(nid,some (.cells z.length (List.replicate c z) true (z.all isC)))])else none
 |_,_=>none
def OE(z:AV)(ok:Bool)(k:AV):Option dD->Option AV
 |some (.map es)=>om (jP es k) (found z ok)
 |_=>none
def YS(kd:Nat)(z:AV)(ok:Bool)(m k:Opd):nV:=λe h _=>if kM kd (k.ev e)=true then(match m.ev e with
 |.dU=>some (found z ok none,[])
 |.map b=>ovW (OE z ok (k.ev e) (Pav.get h b))
 |_=>none)else none
def VX(b:Nat)(k v:AV):Option dD->Option (AV×dV)
 |some (.map es)=>om (kJ es k v) λes'=>(.tup [],[(b,some (.map es'))])
 |_=>none
def agl(kd:Nat)(m k v:Opd):nV:=λe h _=>if kM kd (k.ev e)=true/\isD (v.ev e)=true then(match m.ev e with
 |.map b=>VX b (k.ev e) (v.ev e) (Pav.get h b)
 |_=>none)else none
def VO(x:Opd):nV:=λe _ nid=>match x.ev e with
 |.str s=>some (.ptr nid 0 0,[(nid,some (.iter s 0))])
 |_=>none
def Ef(b:Nat):Option dD->Option (AV×dV)
 |some (.iter s pos)=>if pos<s.length then
  some (.tup [.bool true,.int .i64 pos,.int .i32 (Utf8.decode ⟨⟨s⟩⟩ pos).1],[(b,some (.iter s (pos+(Utf8.decode ⟨⟨s⟩⟩ pos).2)))])
  else some (.tup [.bool false],[])
 |_=>none
def YK(x:Opd):nV:=λe h _=>match x.ev e with
 |.ptr b 0 0=>Ef b (Pav.get h b)
 |_=>none
def Rq:Option dD->Option AV
 |some (.map es)=>some (.int .i64 es.length)
 |_=>none
def rU(kd:Nat)(h:aI):AV->Option AV
 |.str s=>if kd=0 then some (.int .i64 s.length)else none
 |.bG=>if kd=1 then some (.int .i64 0)else none
 |.ro _ es _=>if kd=1 then some (.int .i64 es.length)else none
 |.sl _ _ _ len _ _=>if kd=1 then some (.int .i64 len)else none
 |.dU=>if kd=2 then some (.int .i64 0)else none
 |.map b=>if kd=2 then Rq (Pav.get h b)else none
 |_=>none
def ak3(kd:Nat)(x:Opd):nV:=λe h _=>ovW (rU kd h (x.ev e))
def kF(h:aI)(z:Nat):AV->Option (List (List AV)×Bool)
 |.bG=>some ([],true)
 |.ro z' es _=>if z'=z then some (es,true)else none
 |.sl b z' i len _ _=>if z'=z then(match Pav.get h b with
  |some (.cells _ es _ dt)=>if i+len<=es.length then some ((es.drop i).take len,dt)else none
  |_=>none)else none
 |.str s=>if z=1 then some (s.map λc=>[.int .u8 c.toNat],true)else none
 |_=>none
def mX(nid zl n bytes:Nat)(xs:List (List AV))(dt:Bool):Option (AV×dV) :=if n*(bytes+1)<=dA then some (.sl nid zl 0 n n false,[(nid,some (.cells zl xs true dt))])else none
def NV(o:Option dD)(nid zl bytes:Nat)(b i len cap:Nat)(ex:Bool)(xs:List (List AV))(d:Bool)(n:Nat):Option (AV×dV) :=
 match o with
 |some (.cells zb es mu dt)=>
  if zb=zl then
   if n<=cap then
    if mu=true/\i+n<=es.length then some (.sl b zl i n cap ex,[(b,some (.cells zl (es.take (i+len)++(xs++es.drop (i+n))) true (dt&&d)))])else none
   else if ex then
    if i+len<=es.length then mX nid zl n bytes ((es.drop i).take len++xs) (dt&&d)else none
   else if mu=true/\i=0/\es.length=len/\n*(bytes+1)<=dA then
    some (.sl nid zl 0 n n false,[(b,none),(nid,some (.cells zl (es++xs) true (dt&&d)))])
   else none
  else none
 |_=>none
def kK(h:aI)(nid zl bytes:Nat)(s:AV)(xs:List (List AV))(d:Bool):Option (AV×dV) :=
 match s with
 |.bG=>match xs with
  |[]=>some (.bG,[])
  |_=>mX nid zl xs.length bytes xs d
 |.ro z' es ex=>if z'=zl then(match xs with
  |[]=>some (s,[])
  |_=>if ex then mX nid zl (es.length+xs.length) bytes (es++xs) d else none)else none
 |.sl b z' i len cap ex=>if z'=zl then(match xs with
  |[]=>some (s,[])
  |_=>NV (Pav.get h b) nid zl bytes b i len cap ex xs d (len+xs.length))else none
 |_=>none
def Uo(z:List AV)(bytes:Nat)(zeros:Bool)(s x:Opd):nV:=λe h nid =>
 if zeros then(match x.ev e with
  |.int _ n=>ob (nat? n) λn=>if n*(bytes+1)<=dA then kK h nid z.length bytes (s.ev e) (List.replicate n z) (z.all isC)else none
  |_=>none)
 else ob (kF h z.length (x.ev e)) λxs=>kK h nid z.length bytes (s.ev e) xs.1 xs.2
def Qs(z b i len:Nat)(xs:List (List AV))(d:Bool)(n:Nat):Option dD->Option (AV×dV)
 |some (.cells zb es mu dt)=>if mu=true/\zb=z/\i+len<=es.length then
  some (.int .i64 n,[(b,some (.cells z (es.take i++(xs.take n++es.drop (i+n))) true (dt&&d)))])else none
 |_=>none
def qU(h:aI)(z:Nat)(xs:List (List AV))(d:Bool):AV->Option (AV×dV)
 |.bG=>some (.int .i64 0,[])
 |.sl b z' i len _ _=>if z'=z then
  if min xs.length len=0 then some (.int .i64 0,[])else Qs z b i len xs d (min xs.length len) (Pav.get h b)
  else none
 |_=>none
def abt(z:Nat)(d s:Opd):nV:=λe h _=>ob (kF h z (s.ev e)) λxs=>qU h z xs.1 xs.2 (d.ev e)
def XD(z:List AV)(b i len:Nat):Option dD->Option (AV×dV)
 |some (.cells zb es mu dt)=>if mu=true/\zb=z.length/\i+len<=es.length then
  some (.tup [],[(b,some (.cells z.length (es.take i++(List.replicate len z++es.drop (i+len))) true (dt&&z.all isC)))])else none
 |_=>none
def EN(h:aI)(z:List AV):AV->Option (AV×dV)
 |.bG=>some (.tup [],[])
 |.sl b z' i len _ _=>if z'=z.length then
  if len=0 then some (.tup [],[])else XD z b i len (Pav.get h b)
  else none
 |_=>none
def ain(z:List AV)(d:Opd):nV:=λe h _=>EN h z (d.ev e)
def J6(n b i o:Nat)(lo hi:Option AV):Option dD->Option (AV×dV)
 |some (.cells z es _ dt)=>ob es[i]? λcs=>om (jZ n (cs.drop o) lo hi) λr=>(r,[(b,some (.cells z es false dt))])
 |_=>none
def CG(h:aI)(n:Nat)(lo hi:Option AV):AV->Option (AV×dV)
 |.rop cs=>om (jZ n cs lo hi) λr=>(r,[])
 |.ptr b i o=>J6 n b i o lo hi (Pav.get h b)
 |_=>none
def Ih(n:Nat)(x:Opd)(lo hi:Option Opd):nV:=λe h _=>CG h n (oev e lo) (oev e hi) (x.ev e)
def Yb:AV->AV->Option Bool
 |.bG,.bG=>some true
 |.bG,.ro _ (_::_) _=>some false
 |.ro _ (_::_) _,.bG=>some false
 |_,_=>none
def plainW(x:Option (AV×Upd)):Option (AV×dV):=om x λx=>(x.1,[])
def stepW(op:COp):nV :=
 match op with
 |.mv x=>λe _ _=>plainW (sMv x e [] 0)
 |.pick c a b=>λe _ _=>plainW (Fv c a b e [] 0)
 |.alloc z=>V7 z
 |.box x=>amN x
 |.build z ps=>λe _ _=>plainW (ET z ps e [] 0)
 |.aW z len ps=>Q7 z len ps
 |.load n ag a=>af5 n ag a
 |.store n a x=>Oh n a x
 |.jS x=>λe _ _=>plainW (mZ x e [] 0)
 |.bin op x y=>λe _ _=>plainW (adv op x y e [] 0)
 |.eqv kd ks ne x y=>λe _ _=>if kd=0 then om (Yb (x.ev e) (y.ev e)) (λb=>(.bool (b != ne),[]))else plainW (Kq kd ks ne x y e [] 0)
 |.un op x=>λe _ _=>plainW (sUn op x e [] 0)
 |.cvt k x=>λe _ _=>plainW (Uz k x e [] 0)
 |.cvs x=>λe _ _=>plainW (TD x e [] 0)
 |.cvb x=>λe _ _=>plainW (UM x e [] 0)
 |.lN f caps=>λe _ _=>plainW (Ec f caps e [] 0)
 |.kP=>WO
 |.nK z bytes l c=>aeG z bytes l c
 |.slice z x lo hi mx=>λe _ _=>plainW (Es z x lo hi mx e [] 0)
 |.gW n x lo hi=>Ih n x lo hi
 |.fld off x=>λe _ _=>plainW (NS off x e [] 0)
 |.zJ off n ag x=>λe _ _=>plainW (FW off n ag x e [] 0)
 |.idxs z x i=>λe _ _=>plainW (Gg z x i e [] 0)
 |.gG len z x i=>λe _ _=>plainW (FI len z x i e [] 0)
 |.fE x i=>λe _ _=>plainW (qN x i e [] 0)
 |.y8 len z ag x i=>λe _ _=>plainW (FB len z ag x i e [] 0)
 |.look kd z ok m k=>YS kd z ok m k
 |.upd kd m k v=>agl kd m k v
 |.range x=>VO x
 |.next x=>YK x
 |.ext i x=>λe _ _=>plainW (TJ i x e [] 0)
 |.len kd x=>ak3 kd x
 |.cap x=>λe _ _=>plainW (sCap x e [] 0)
 |.app z bytes zeros s x=>Uo z bytes zeros s x
 |.cpy z d s=>abt z d s
 |.clr z d=>ain z d
 |.mx x y=>λe _ _=>plainW (sMx x y e [] 0)
 |.mn x y=>λe _ _=>plainW (sMn x y e [] 0)
 |.call _ _=>λ_ _ _=>none
 |.dY _ _=>λ_ _ _=>none
 |.fail=>λ_ _ _=>none
def bD(h:aI):Nat->AV->Option AV
 |0,_=>none
 |n+1,v=>match v with
  |.undef=>none
  |.ptr b i o=>match Pav.get h b with
   |some (.cells _ es _ dt)=>ob es[i]? λcs=>if dt then(if n=0 then none else some (.rop (cs.drop o)))else om (aZ (bD h n) (cs.drop o)) λcs'=>.rop cs'
   |_=>none
  |.map _=>none
  |.sl b z i len cap ex=>match Pav.get h b with
   |some (.cells _ es _ dt)=>
    if dt then(if n=0 then none else og (decide (((es.drop i).take len).length=len)) (some (.ro z ((es.drop i).take len) (ex&&decide (cap=len)))))
    else ob (aZ (aZ (bD h n)) ((es.drop i).take len)) λes' =>og (decide (es'.length=len)&&es'.all λe=>e.all isC) (some (.ro z es' (ex&&decide (cap=len))))
   |_=>none
  |.fn f caps=>om (aZ (bD h n) caps) λcs=>.fn f cs
  |.agg cs=>om (aZ (bD h n) cs) λcs=>.agg cs
  |.tup vs=>om (aZ (bD h n) vs) λvs=>.tup vs
  |.bool b=>some (.bool b)
  |.int k x=>some (.int k x)
  |.str s=>some (.str s)
  |.eG=>some .eG
  |.bG=>some .bG
  |.dU=>some .dU
  |.dW=>some .dW
  |.ro z es ex=>some (.ro z es ex)
  |.rop cs=>some (.rop cs)
def aQ(h:aI):Nat->AV->List Nat
 |0,_=>[]
 |n+1,v=>match v with
  |.ptr b i o=>b::(match Pav.get h b with
   |some (.cells _ es _ dt)=>if dt then[]else((es[i]?.getD []).drop o).flatMap (aQ h n)
   |_=>[])
  |.sl b _ i len _ _=>b::(match Pav.get h b with
   |some (.cells _ es _ dt)=>if dt then[]else((es.drop i).take len).flatMap λe=>e.flatMap (aQ h n)
   |_=>[])
  |.fn _ caps=>caps.flatMap (aQ h n)
  |.agg cs=>cs.flatMap (aQ h n)
  |.tup vs=>vs.flatMap (aQ h n)
  |_=>[]
def bf(h:aI):List Nat->dV
 |[]=>[]
 |b::r=>match Pav.get h b with
  |some (.cells z es _ dt)=>(b,some (.cells z es false dt))::bf h r
  |_=>bf h r
def sS(k:Nat)(s:WSt):Option WSt :=ob (Pav.get s.env k) λv=>om (bD s.heap aC v) λv'=>⟨fC s.env (some k) v',bT s.heap (bf s.heap (aQ s.heap aC v)),s.next⟩
def mM:List Nat->WSt->Option WSt
 |[],s=>some s
 |k::r,s=>ob (sS k s) (mM r)
def pX(base:Nat)(a:Ann)(s:WSt):Option WSt:=ob (mM (KA a.grow) s) (canon base a)
abbrev tK:=Nat->List AV->aI->Nat->Option (AV×aI×Nat)
def fB(run:tK)(f:Nat)(args:List AV):Option AV :=ob (run f args [] 0) λr=>bD r.2.1 aC r.1
def dG:Nat->AV->Bool
 |0,_=>true
 |n+1,v=>match v with
  |.undef=>true
  |.ro _ _ _=>true
  |.rop _=>true
  |.fn _ caps=>caps.any (dG n)
  |.agg cs=>cs.any (dG n)
  |.tup vs=>vs.any (dG n)
  |_=>false
def pI(h:aI)(args:List AV)(v:AV):dV :=if dG aC v then bf h (args.flatMap (aQ h aC))else[]
inductive wX where
 |data (v:AV) (u:dV)
 |whole (v:AV) (h:aI) (n:Nat)
 |deep (v:AV) (mk u:dV) (n:Nat)
inductive aB where
 |skip
 |ops (l:List bn) (a:Ann)
 |draw (l:List bn) (un:List (Nat×Nat)) (a:Ann)
 |seq (a b:aB)
 |cond (c:Opd) (a b:aB)
 |block (id:Nat) (b:aB) (a:Ann)
 |loop (a:Ann) (b:aB)
 |exit (id:Nat)
 |ret
 |fail
 /-- slices.Clone: whether an empty slice is nil is not known, and its copy is empty in either case -/
 |cln (zz:List AV) (z b:Nat)
 |zx (k:Nat)
 deriving Inhabited
def Tq(zz:List AV)(z b:Nat):aB :=
 .seq (.ops [⟨some 2,none,.mv (.c (.ro z [] true))⟩] ⟨false,[],[]⟩)
  (.seq (.seq (.ops [⟨some 3,none,.mv (.t 0)⟩,⟨some 4,none,.eqv 0 [] false (.t 3) (.c .bG)⟩] ⟨false,[],[]⟩)
   (.cond (.t 4) (.seq (.ops [⟨some 2,none,.mv (.c (.ro z [] true))⟩] ⟨false,[],[]⟩) .ret) .skip))
  (.seq (.ops [⟨some 5,none,.aW zz 0 []⟩,⟨some 6,none,.mv (.t 0)⟩,⟨some 7,none,.app zz b false (.t 5) (.t 6)⟩,⟨some 2,none,.mv (.t 7)⟩] ⟨false,[],[]⟩) .ret))
def ajg(zz:List AV)(b:Nat):bC :=
 .seq (.ops [⟨some 2,none,.mv (.c .bG)⟩] (0,[]))
  (.seq (.seq (.ops [⟨some 3,none,.mv (.t 0)⟩,⟨some 4,none,.eqv 0 [] false (.t 3) (.c .bG)⟩] (0,[]))
   (.cond (.t 4) (.seq (.ops [⟨some 2,none,.mv (.c .bG)⟩] (0,[])) .ret) .skip))
  (.seq (.ops [⟨some 5,none,.aW zz 0 []⟩,⟨some 6,none,.mv (.t 0)⟩,⟨some 7,none,.app zz b false (.t 5) (.t 6)⟩,⟨some 2,none,.mv (.t 7)⟩] (0,[])) .ret))
def jG:AV->Option Nat
 |.ro z [] _=>some z
 |_=>none
structure WFn where
 np:Nat
 res:List vN
 body:aB
 deriving Inhabited
inductive sO where
 |leaf
 |node (l:sO) (k:Nat) (f:WFn) (r:sO)
 deriving Inhabited
def sO.get:sO->Nat->Option WFn
 |.leaf,_=>none
 |.node l k f r,n=>if n=k then some f else if n<=k then l.get n else r.get n
structure aJ where
 fns:sO
 inl:Nat->Bool
 pp:Nat->Bool
def wU(nid:Nat)(v:AV)(b:Nat):Option dD->Option (AV×dV)
 |some (.cells z es mu dt)=>if (mu&&dt)=true then om (hand b nid v) λv=>(v,[(nid,some (.cells z es true true))])else none
 |_=>none
def dQ(run:tK)(f:Nat)(args:List AV)(nid:Nat):Option (AV×dV) :=
 ob (run f args [] 0) λr=>match nP r.1 with
  |none=>om (hand r.2.2 0 r.1) λv=>(v,[])
  |some b=>wU nid r.1 b (Pav.get r.2.1 b)
def Xm:Option dD->Bool
 |some (.cells _ es _ _)=>es.all ou
 |_=>false
def nX(x:AV×dV):Bool:=iy x.1&&x.2.all λy=>Xm y.2
def xM(f:Nat)(u:dV):dV:=if uh f=true then[]else u
def yX(f:Nat)(u:dV)(x:AV×dV):Option wX :=if (uh f&&!nX x)=true then none else some (.data x.1 (xM f u++x.2))
def Gl(n:Nat)(h:aI):dV:=((h.filter λx=>decide (n<=x.1)).map λx=>(x.1,some x.2)).reverse
def jR(L:List Nat):Option dD->Bool
 |some (.cells _ es mu _)=>mu&&es.all (ru L)
 |_=>false
def pG(h:aI)(v:AV)(L:List Nat):Bool:=dw L v&&L.all λb=>jR L (Pav.get h b)
def PI(f:Nat)(u:dV):dV:=if zU f=true then[]else u
def yu(f:Nat)(h:aI)(v:AV):Option aI :=if zU f=true then(if pG h v (aQ h aC v)=true then some (h.filter λx=>(aQ h aC v).contains x.1)else none)else some h
def iq(C:aJ)(run:tK)(f:Nat)(args:List AV)(h:aI)(nid n:Nat):Option wX :=
 if C.inl f then(if Pv f then ob (aZ (bD h aC) args) λaz=>if rZ f then ob (run f az [] n) λr=>om (yu f r.2.1 r.1) λhk=>.deep r.1 (PI f (bf h (args.flatMap (aQ h aC)))) (Gl n hk) r.2.2 else ob (dQ run f az nid) (yX f (bf h (args.flatMap (aQ h aC))))
  else om (run f args h n) λr=>.whole r.1 r.2.1 r.2.2)
 else if (!C.pp f&&bW args)=true then om (run f args h n) λr=>.whole r.1 r.2.1 r.2.2
 else ob (aZ (bD h aC) args) λaz=>om (fB run f az) λv=>.data v (pI h args v)
structure jH where
 v:AV
 h:aI
 n:Nat
 bar:Bool
 rd:List Nat
 wr:List Nat
def iZ(h:aI)(n:Nat)(args:List AV):wX->jH
 |.data v u=>⟨v,bT h u,n,false,args.flatMap (aQ h aC),u.map (·.1)⟩
 |.whole v h' n'=>⟨v,h',n',true,[],[]⟩
 |.deep v mk u n'=>⟨v,bT (bT h mk) u,n',true,args.flatMap (aQ h aC),n::mk.map (·.1)⟩
def iQ(C:aJ)(run:tK)(op:COp)(nid:Nat)(e:Env)(h:aI)(n:Nat):Option jH :=
 match callOf e op with
 |none=>none
 |some (some (f,args))=>om (iq C run f args h nid n) (iZ h n args)
 |some none=>om (stepW op e h nid) λx=>⟨x.1,bT h x.2,n,false,readsOf e op,x.2.map (·.1)⟩
def fV(C:aJ)(run:tK)(o:bn)(nid:Nat)(e:Env)(h:aI)(n:Nat):Option jH :=
 match wants e o.guard with
 |none=>none
 |some false=>some ⟨.tup [],h,n,false,[],[]⟩
 |some true=>iQ C run o.op nid e h n
def gY(C:aJ)(run:tK):List bn->WSt->Option WSt
 |[],s=>some s
 |o::r,s=>ob (fV C run o s.next s.env s.heap (s.next+1)) λd=>gY C run r ⟨fC s.env o.dst d.v,d.h,d.n⟩
def Ei(d:jH):Bool:=!d.bar&&(d.wr.isEmpty&&d.rd.isEmpty)
def WE(rd wr rd' wr':List Nat):Bool :=
 match wr with
 |[]=>true
 |k::w=>(rd'++wr').any (λc=>decide (k<=c))||(meets w wr'||(meets w rd'||meets rd wr'))
def WX(a b:jH):Bool:=!(Ei a||Ei b)&&(if a.bar=true then b.bar||WE a.rd a.wr b.rd b.wr else if b.bar=true then WE b.rd b.wr a.rd a.wr else(meets a.wr b.wr||(meets a.wr b.rd||meets a.rd b.wr)))
def eU(C:aJ)(run:tK):List bn->Nat->WSt->List jH->Option (WSt×List jH)
 |[],_,s,ds=>some (s,ds)
 |o::r,nid,s,ds=>ob (fV C run o nid s.env s.heap s.next) λd=>eU C run r (nid+1) ⟨fC s.env o.dst d.v,d.h,d.n⟩ (ds++[d])
def KD(ds:List jH)(p:Nat×Nat):Bool :=
 match ds[p.1]?,ds[p.2]? with
 |some a,some b=>!WX a b
 |_,_=>false
def Ej(e:Env)(h:aI):vN->Option AV
 |.tmp t=>Pav.get e t
 |.cell t n ag=>match Pav.get e t with
  |some (.ptr b i o)=>yP n ag o i (Pav.get h b)
  |_=>none
def KF(e:Env)(h:aI)(rs:List vN):Option AV:=om (aZ (Ej e h) rs) Et
def gX(res:List vN)(r:Ex×WSt):Option (AV×aI×Nat) :=
 match r.1 with
 |.exit _=>none
 |_=>om (KF r.2.env r.2.heap res) λv=>(v,r.2.heap,r.2.next)
abbrev WEv:=Nat->aB->WSt->Option (Ex×WSt)
def dR(C:aJ)(ev:WEv):tK:=λf args h n =>ob (C.fns.get f) λfn=>if args.length=fn.np then ob (ev n fn.body ⟨Fh 0 args [],h,n⟩) (gX fn.res)else none
def eP(b:WSt->Option (Ex×WSt))(r:Ex×WSt):Option (Ex×WSt) :=
 match r.1 with
 |.norm=>b r.2
 |_=>some r
def jC(base id:Nat)(a:Ann)(r:Ex×WSt):Option (Ex×WSt) :=
 match r.1 with
 |.norm=>om (canon base a r.2) λs=>(.norm,s)
 |.exit i=>if i=id then om (canon base a r.2) λs=>(.norm,s)else some r
 |.ret=>some r
def rH(a b:WSt->Option (Ex×WSt))(v:AV)(s:WSt):Option (Ex×WSt) :=
 match v with
 |.bool t=>if t then a s else b s
 |_=>none
def sZ(base:Nat)(un:List (Nat×Nat))(a:Ann)(r:WSt×List jH):Option (Ex×WSt) :=if un.all (KD r.2)=true then om (pX base a r.1) λs=>(.norm,s)else none
def evW(C:aJ):Nat->WEv
 |0,_,_,_=>none
 |n+1,base,c,s=>
  match c with
  |.skip=>some (.norm,s)
  |.ops l a=>ob (gY C (dR C (evW C n)) l s) λs=>om (pX base a s) λs=>(.norm,s)
  |.draw l un a=>ob (eU C (dR C (evW C n)) l s.next ⟨s.env,s.heap,s.next+l.length⟩ []) (sZ base un a)
  |.seq a b=>ob (evW C n base a s) (eP (evW C n base b))
  |.cond c a b=>rH (evW C n base a) (evW C n base b) (c.ev s.env) s
  |.block id b a=>ob (evW C n base b s) (jC base id a)
  |.loop a b=>ob (canon base a s) λs=>ob (evW C n base b s) (eP (evW C n base (.loop a b)))
  |.exit id=>some (.exit id,s)
  |.ret=>some (.ret,s)
  |.fail=>none
  |.zx k=>om (vJ k (dK (sK k) 0 s.env)) λv=>(.ret,⟨vP s.env 9 v,s.heap,s.next⟩)
  |.cln zz z b=>match (Pav.get s.env 0).bind jG with
   |some z'=>if z'=z/\zz.length=z/\8<=n then some (.ret,⟨[(2,.sl s.next z 0 0 0 true)],Pav.put s.heap s.next (.cells z [] true true),s.next+1⟩)else none
   |none=>evW C n base (Tq zz z b) s
def Lu(C:aJ)(n:Nat):tK:=dR C (evW C n)
def ael(C:aJ)(n:Nat)(f:Nat)(args:List AV):Option AV:=fB (Lu C n) f args
mutual
def er:AV->AV
 |.ro z es ex=>(match es,ex with
  |[],true=>.bG
  |es,ex=>.ro z es ex)
 |.agg cs=>.agg (erL cs)
 |.fn f cs=>.fn f (erL cs)
 |.tup cs=>.tup (erL cs)
 |v=>v
def erL:List AV->List AV
 |[]=>[]
 |v::r=>er v::erL r
end
def erO:Opd->Opd
 |.t s=>.t s
 |.c v=>.c (er v)
def gu:COp->COp
 |.mv x=>.mv (erO x)
 |.pick c a b=>.pick (erO c) (erO a) (erO b)
 |.alloc z=>.alloc (erL z)
 |.box x=>.box (erO x)
 |.build z ps=>.build (erL z) (ps.map λp=>(p.1,p.2.1,erO p.2.2))
 |.aW z len ps=>.aW (erL z) len (ps.map λp=>(p.1,erO p.2))
 |.load n ag a=>.load n ag (erO a)
 |.store n a x=>.store n (erO a) (erO x)
 |.jS x=>.jS (erO x)
 |.bin op x y=>.bin op (erO x) (erO y)
 |.eqv kd ks ne x y=>.eqv kd ks ne (erO x) (erO y)
 |.un op x=>.un op (erO x)
 |.cvt k x=>.cvt k (erO x)
 |.cvs x=>.cvs (erO x)
 |.cvb x=>.cvb (erO x)
 |.lN f caps=>.lN f (caps.map erO)
 |.kP=>.kP
 |.nK z bytes l c=>.nK (erL z) bytes (erO l) (erO c)
 |.slice z x lo hi mx=>.slice z (erO x) (lo.map erO) (hi.map erO) (mx.map erO)
 |.gW n x lo hi=>.gW n (erO x) (lo.map erO) (hi.map erO)
 |.fld off x=>.fld off (erO x)
 |.zJ off n ag x=>.zJ off n ag (erO x)
 |.idxs z x i=>.idxs z (erO x) (erO i)
 |.gG len z x i=>.gG len z (erO x) (erO i)
 |.fE x i=>.fE (erO x) (erO i)
 |.y8 len z ag x i=>.y8 len z ag (erO x) (erO i)
 |.look kd z ok m k=>.look kd (er z) ok (erO m) (erO k)
 |.upd kd m k v=>.upd kd (erO m) (erO k) (erO v)
 |.range x=>.range (erO x)
 |.next x=>.next (erO x)
 |.ext i x=>.ext i (erO x)
 |.call f args=>.call f (args.map erO)
 |.dY g args=>.dY (erO g) (args.map erO)
 |.len kd x=>.len kd (erO x)
 |.cap x=>.cap (erO x)
 |.app z bytes zeros s x=>.app (erL z) bytes zeros (erO s) (erO x)
 |.cpy z d s=>.cpy z (erO d) (erO s)
 |.clr z d=>.clr (erL z) (erO d)
 |.mx x y=>.mx (erO x) (erO y)
 |.mn x y=>.mn (erO x) (erO y)
 |.fail=>.fail
def tX(o:bn):bn:=⟨o.dst,o.guard,gu o.op⟩
def erC:aB->bC
 |.skip=>.skip
 |.ops l a=>.ops (l.map tX) (uo a,KA a.grow)
 |.draw l un a=>.draw (l.map tX) un (uo a,KA a.grow)
 |.seq a b=>.seq (erC a) (erC b)
 |.cond c a b=>.cond (erO c) (erC a) (erC b)
 |.block id b _=>.block id (erC b)
 |.loop a b=>.loop (uo a) (erC b)
 |.exit id=>.exit id
 |.ret=>.ret
 |.fail=>.fail
 |.cln zz _ b=>ajg (erL zz) b
 |.zx k=>.zx k
def aU(f:WFn):CFn:=⟨f.np,f.res,erC f.body⟩
def EG:sO->Tree
 |.leaf=>.leaf
 |.node l k f r=>.node (EG l) k (aU f) (EG r)
def fK(C:aJ):Prog:=⟨EG C.fns,C.inl,C.pp⟩
mutual
/-- A constant that has its like. -/
def okV:AV->Bool
 |.ptr _ _ _=>false
 |.sl _ _ _ _ _ _=>false
 |.map _=>false
 |.rop _=>false
 |.undef=>false
 |.ro _ es _=>es.isEmpty
 |.fn _ cs=>okL cs
 |.agg cs=>okL cs
 |.tup cs=>okL cs
 |_=>true
def okL:List AV->Bool
 |[]=>true
 |v::r=>okV v&&okL r
end
def okO:Opd->Bool
 |.t _=>true
 |.c v=>okV v
def jd:COp->Bool
 |.mv x | .box x | .load _ _ x | .jS x | .un _ x | .cvt _ x | .cvs x | .cvb x | .fld _ x | .zJ _ _ _ x | .range x | .next x | .ext _ x | .len _ x | .cap x=>okO x
 |.pick c a b | .upd _ c a b=>okO c&&(okO a&&okO b)
 |.alloc z=>okL z
 |.build z ps=>okL z&&ps.all λp=>okO p.2.2
 |.aW z _ ps=>okL z&&ps.all λp=>okO p.2
 |.store _ a x | .bin _ a x | .eqv _ _ _ a x | .idxs _ a x | .gG _ _ a x | .fE a x | .y8 _ _ _ a x | .cpy _ a x | .mx a x | .mn a x=>okO a&&okO x
 |.lN _ caps=>caps.all okO
 |.nK z _ l c=>okL z&&(okO l&&okO c)
 |.gW _ x lo hi=>okO x&&((lo.map okO).getD true&&(hi.map okO).getD true)
 |.slice _ x lo hi mx=>okO x&&((lo.map okO).getD true&&((hi.map okO).getD true&&(mx.map okO).getD true))
 |.look _ z _ m k=>okV z&&(okO m&&okO k)
 |.call _ args=>args.all okO
 |.dY g args=>okO g&&args.all okO
 |.app z _ _ s x=>okL z&&(okO s&&okO x)
 |.clr z d=>okL z&&okO d
 |.kP | .fail=>true
def okC:aB->Bool
 |.ops l _=>l.all λo=>jd o.op
 |.draw l _ _=>l.all λo=>jd o.op
 |.seq a b=>okC a&&okC b
 |.cond c a b=>okO c&&(okC a&&okC b)
 |.block _ b _=>okC b
 |.loop _ b=>okC b
 |.cln zz _ _=>okL zz
 |_=>true
def uy:sO->Bool
 |.leaf=>true
 |.node l _ f r=>uy l&&(okC f.body&&uy r)
end Go.Pw
end
section
namespace Go.Pav
open Go
def Ee:Value->Option AV
 |.bool b=>some (.bool b)
 |.int k n=>some (.int k n)
 |.string s=>some (.str s.data.toList)
 |.pointer none=>some .eG
 |.slice none 0 0=>some .bG
 |.map none=>some .dU
 |.nilFunc=>some .dW
 |_=>none
def ahV:Value->Option AV
 |.agg cs=>(cs.toList.mapM Ee).map .agg
 |v=>Ee v
def zeroCells(P:Program)(t:TypeId):Option (List AV):=do
 let i <- P.info? t;let z <- i.zero;let cs <- z.cells.toList.mapM Ee
 if cs.length=i.size then some cs else none
def sizeT(P:Program)(t:TypeId):Option Nat:=(P.info? t).map (·.size)
def uq(P:Program)(t:TypeId):Option Bool :=
 (P.underlying t).map fun
  |.struct _ | .array _ _=>true
  |_=>false
def ng(P:Program)(t:TypeId):Option Nat :=
 match P.underlying t with
 |some (.int _)=>some 0
 |some .string=>some 1
 |some .bool=>some 2
 |_=>none
def nR(P:Program):Nat->List Field->Option (List Nat)
 |_,[]=>some []
 | k, f :: r => if f.offset = k /\ f.name ≠ "_" /\ sizeT P f.type = some 1 then do
  let kd <- ng P f.type;let ks <- nR P (k+1) r
  some (kd::ks)
  else none
section
variable (P:Program)(φ:FuncId->Option Nat)
def fJ:Operand->Option Opd
 |.tmp t=>some (.t t)
 |.const v=>(ahV v).map .c
 |.func f=>(φ f).map λg=>.c (.fn g [])
 |.global _=>none
def MB(xs:List Operand):Option (List Opd):=xs.mapM (fJ φ)
def cOpt:Option Operand->Option (Option Opd)
 |none=>some none
 |some x=>(fJ φ x).map some
def zQ(fs:Nat->Option (Nat×Nat)):List (Nat×Operand)->Option (List (Nat×Nat×Opd))
 |[]=>some []
 |(i,x)::r=>do
  let (off,n) <- fs i;let y <- fJ φ x;let ys <- zQ fs r
  some ((off,n,y)::ys)
def JG:List (Nat×Operand)->Option (List (Nat×Opd))
 |[]=>some []
 |(i,x)::r=>do
  let y <- fJ φ x;let ys <- JG r
  some ((i,y)::ys)
def cLen:List Operand->List TypeId->Option COp
 |[x],[t]=>do
  let x <- fJ φ x;match <- P.underlying t with
  |.string=>some (.len 0 x)
  |.slice _=>some (.len 1 x)
  |.map _ _=>some (.len 2 x)
  |_=>none
 |_,_=>none
def akJ:List Operand->List TypeId->Option COp
 |[x],[t]=>do
  let x <- fJ φ x;match <- P.underlying t with
  |.slice _=>some (.cap x)
  |_=>none
 |_,_=>none
def Pj:List Operand->List TypeId->Option COp
 |[s,x],[t,u]=>do
  let s <- fJ φ s;let x <- fJ φ x;match <- P.underlying t with
  |.slice e=>do
   let z <- zeroCells P e;let i <- P.info? e
   if z.length=0\/i.bytes=0 then none else
   match <- P.underlying u with
   |.int _=>some (.app z i.bytes true s x)
   |.slice _=>some (.app z i.bytes false s x)
   |.string=>some (.app z i.bytes false s x)
   |_=>none
  |_=>none
 |_,_=>none
def afx:List Operand->List TypeId->Option COp
 |[d,s],t::_::[]=>do
  let d <- fJ φ d;let s <- fJ φ s;match <- P.underlying t with
  |.slice e=>do
   let z <- sizeT P e
   if z=0 then none else some (.cpy z d s)
  |_=>none
 |_,_=>none
def Wy:List Operand->List TypeId->Option COp
 |[d],t::[]=>do
  let d <- fJ φ d;match <- P.underlying t with
  |.slice e=>do
   let z <- zeroCells P e
   if z.length=0 then none else some (.clr z d)
  |_=>none
 |_,_=>none
def afT(mx:Bool):List Operand->Option COp
 |[x,y]=>do
  let x <- fJ φ x;let y <- fJ φ y
  some (if mx then .mx x y else .mn x y)
 |_=>none
def jX(b:Builtin)(args:List Operand)(ts:List TypeId):Option COp :=
 match b with
 |.len=>cLen P φ args ts
 |.cap=>akJ P φ args ts
 |.append=>Pj P φ args ts
 |.copy=>afx P φ args ts
 |.clear=>Wy P φ args ts
 |.max=>afT φ true args
 |.min=>afT φ false args
 |_=>none
def cEq(kd:Nat)(ks:List Nat)(op:BinOp)(x y:Opd):Option COp :=
 match op with
 |.eql=>some (.eqv kd ks false x y)
 |.neq=>some (.eqv kd ks true x y)
 |_=>none
def cOp(op:Op):Option COp :=
 match op with
 |.move x | .assign x=>(fJ φ x).map .mv
 |.pick c a b=>do some (.pick (<- fJ φ c) (<- fJ φ a) (<- fJ φ b))
 |.alloc t=>(zeroCells P t).map .alloc
 |.box _ x=>(fJ φ x).map .box
 |.build t ps=>do
  let z <- zeroCells P t;match <- P.underlying t with
  |.struct fs=>do
   let pl <- fs.toList.mapM λf=>(P.info? f.type).map λi=>(f.offset,i.size)
   some (.build z (<- zQ φ (λi=>pl[i]?) ps.toList))
  |.array _ e=>do
   let n <- sizeT P e
   some (.build z (<- zQ φ (λi=>some (i*n,n)) ps.toList))
  |_=>none
 |.buildSlice t len ps=>do
  match <- P.underlying t with
  |.slice e=>do
   let z <- zeroCells P e
   if z.length=0\/len*z.length > 2 ^ 24 then none else
   some (.aW z len (<- JG φ ps.toList))
  |_=>none
 |.load t a=>do some (.load (<- sizeT P t) (<- uq P t) (<- fJ φ a))
 |.store t a x=>do some (.store (<- sizeT P t) (<- fJ φ a) (<- fJ φ x))
 |.nilCheck x=>(fJ φ x).map .jS
 |.binOp op t x y _=>do
  let x <- fJ φ x;let y <- fJ φ y;match <- P.underlying t with
  |.int _ | .string=>some (.bin op x y)
  |.slice _=>cEq 0 [] op x y
  |.func _ _ _=>cEq 1 [] op x y
  |.pointer _=>cEq 2 [] op x y
  |.map _ _=>cEq 3 [] op x y
  |.bool=>cEq 5 [] op x y
  |.struct fs=>do
   let ks <- nR P 0 fs.toList
   if P.eqGuardType P.depth t=false/\P.stoodInHeld t=false then cEq 4 ks op x y else none
  |_=>none
 |.unOp op _ x=>(fJ φ x).map (.un op)
 |.convert s t x=>do
  let x <- fJ φ x;match <- P.underlying s,<- P.underlying t with
  |.int _,.int k=>some (.cvt k x)
  |.string,.string=>some (.cvs x)
  |.slice e,.string=>do
   match <- P.underlying e with
   |.int .u8=>some (.cvb x)
   |_=>none
  |_,_=>none
 |.makeFunc (.func f) first caps=>do
  let g <- φ f
  if first.size=0 then some (.lN g (<- MB φ caps.toList))else none
 |.makeMap _ none=>some .kP
 |.makeSlice t l c=>do
  let l <- fJ φ l;let c <- fJ φ c;match <- P.underlying t with
  |.slice e=>do
   let z <- zeroCells P e;let i <- P.info? e
   if z.length=0 then none else
   some (.nK z i.bytes l c)
  |_=>none
 |.slice t x lo hi mx=>do
  let x <- fJ φ x;match <- P.underlying t with
  |.slice el=>do
   let z <- sizeT P el
   if z=0 then none else some (.slice z x (<- cOpt φ lo) (<- cOpt φ hi) (<- cOpt φ mx))
  |.string=>do some (.slice 0 x (<- cOpt φ lo) (<- cOpt φ hi) (<- cOpt φ mx))
  |.array n el=>do
   let z <- sizeT P el
   if z=1/\mx=none then some (.gW n x (<- cOpt φ lo) (<- cOpt φ hi))else none
  |_=>none
 |.fieldAddr t x f=>do
  let x <- fJ φ x;match <- P.underlying t with
  |.struct fs=>do
   let f <- fs[f]?
   if (<- sizeT P f.type)=0 then none else some (.fld f.offset x)
  |_=>none
 |.field t x f=>do
  let x <- fJ φ x;match <- P.underlying t with
  |.struct fs=>do
   let f <- fs[f]?
   some (.zJ f.offset (<- sizeT P f.type) (<- uq P f.type) x)
  |_=>none
 |.indexAddr t x i=>do
  let x <- fJ φ x;let i <- fJ φ i;match <- P.underlying t with
  |.slice e=>do
   let n <- sizeT P e
   if n=0 then none else some (.idxs n x i)
  |.array len e=>do
   let n <- sizeT P e
   if n=0 then none else some (.gG len n x i)
  |_=>none
 |.index t x i=>do
  let x <- fJ φ x;let i <- fJ φ i;match <- P.underlying t with
  |.string=>some (.fE x i)
  |.array len e=>do some (.y8 len (<- sizeT P e) (<- uq P e) x i)
  |_=>none
 |.lookup t m k ok=>do
  let m <- fJ φ m;let k <- fJ φ k;match <- P.underlying t with
  |.map kt et=>do
   let i <- P.info? et;let z <- i.zero;let z <- ahV z;let kd <- ng P kt
   some (.look kd z ok m k)
  |_=>none
 |.mapUpdate t m k v | .insert t m k v=>do
  let m <- fJ φ m;let k <- fJ φ k;let v <- fJ φ v;match <- P.underlying t with
  |.map kt _=>do some (.upd (<- ng P kt) m k v)
  |_=>none
 |.range t x=>do
  let x <- fJ φ x;match <- P.underlying t with
  |.string=>some (.range x)
  |_=>none
 |.next x true=>(fJ φ x).map .next
 |.extract x i=>(fJ φ x).map (.ext i)
 |.call c=>match c.callee with
  |.value (.func f)=>do
   let g <- φ f
   some (.call g (<- MB φ c.args.toList))
  |.value g=>do some (.dY (<- fJ φ g) (<- MB φ c.args.toList))
  |.builtin b=>jX P φ b c.args.toList c.argTypes.toList
  |.invoke _ _=>none
 |_=>none
def cZ(ops:Array Oper)(o:Oper):bn :=
 let g:Option (Option (Nat×Bool)):=match o.guard with
  |none=>some none
  |some (j,w)=>((ops[j]?).bind (·.dst)).map λd=>some (d,w)
 match g,cOp P φ o.op with
 |some g,some op=>⟨o.dst,g,op⟩
 |_,_=>⟨o.dst,none,.fail⟩
def Opd.slot:Opd->List Nat
 |.t s=>[s]
 |.c _=>[]
def yI:Option Opd->List Nat
 |none=>[]
 |some x=>x.slot
def COp.slots:COp->List Nat
 |.mv x | .box x | .jS x | .un _ x | .cvt _ x | .cvs x | .cvb x | .fld _ x | .zJ _ _ _ x | .range x | .next x | .ext _ x | .len _ x | .cap x | .load _ _ x | .clr _ x=>x.slot
 |.pick a b c | .upd _ a b c=>a.slot++b.slot++c.slot
 |.alloc _ | .kP | .fail=>[]
 |.build _ ps=>ps.flatMap λp=>p.2.2.slot
 |.aW _ _ ps=>ps.flatMap λp=>p.2.slot
 |.store _ a x | .bin _ a x | .eqv _ _ _ a x | .nK _ _ a x | .idxs _ a x | .gG _ _ a x | .fE a x | .y8 _ _ _ a x | .look _ _ _ a x | .app _ _ _ a x | .cpy _ a x | .mx a x | .mn a x=>a.slot++x.slot
 |.lN _ xs | .call _ xs=>xs.flatMap Opd.slot
 |.dY g xs=>g.slot++xs.flatMap Opd.slot
 |.slice _ x a b c=>x.slot++yI a++yI b++yI c
 |.gW _ x a b=>x.slot++yI a++yI b
def bn.slots(o:bn):List Nat:=o.op.slots++(match o.guard with | some (s,_)=>[s] | none=>[])
def NM(m:Nat):List Nat->Nat
 |[]=>m
 |s::r=>NM (m ||| 2 ^ s) r
def alZ(m s:Nat):Nat:=if m.testBit s then m-2 ^ s else m
def Qw:List bn->Nat->Nat
 |[],out=>out
 |o::r,out=>
  let m:=Qw r out;let m:=match o.dst with
   |some d=>alZ m d
   |none=>m
  NM m o.slots
def oz(rm:Nat):bC->Nat->List (Nat×Nat)->bC×Nat
 |.skip,out,_=>(.skip,out)
 |.ops l _,out,_=>(.ops l (out,[]),Qw l out)
 |.draw l un _,out,_=>(.draw l un (out,[]),Qw l out)
 |.seq a b,out,ex=>
  let (b,m):=oz rm b out ex;let (a,m):=oz rm a m ex
  (.seq a b,m)
 |.cond c a b,out,ex=>
  let (a,m):=oz rm a out ex;let (b,k):=oz rm b out ex
  (.cond c a b,NM (m ||| k) c.slot)
 |.block id b,out,ex=>
  let (b,m):=oz rm b out ((id,out)::ex)
  (.block id b,m)
 |.loop _ b,_,ex=>
  let m:=(oz rm b 0 ex).2;let m:=(oz rm b m ex).2;let m:=m ||| (oz rm b m ex).2
  (.loop m (oz rm b m ex).1,m)
 |.exit id,_,ex=>(.exit id,(get ex id).getD 0)
 |.ret,_,_=>(.ret,rm)
 |.fail,_,_=>(.fail,0)
 |.zx k,_,_=>(.zx k,0)
def ancestors(ops:List Oper):List Nat :=(ops.foldl (λacc o=>acc.push (o.after.toList.foldl (λs e=>if Region.binds .any e then s ||| 2 ^ e.on ||| acc.getD e.on 0 else s) 0)) (#[]:Array Nat)).toList
def qO:Nat->List Oper->Bool
 |_,[]=>true
 |k,o::r=>o.after.toList.all (λe=>!Region.binds .any e||Nat.blt e.on k)&&qO (k+1) r
def touches:COp->Bool
 |.gW _ _ _ _=>true
 |.load _ _ _ | .store _ _ _ | .alloc _ | .box _ | .aW _ _ _ | .kP | .nK _ _ _ _ | .look _ _ _ _ _ | .upd _ _ _ _ | .range _ | .next _ | .call _ _ | .dY _ _ | .len _ _ | .app _ _ _ _ _ | .cpy _ _ _ | .clr _ _=>true
 |_=>false
def writes:COp->Bool
 |.store _ _ _ | .gW _ _ _ _ | .upd _ _ _ _ | .next _ | .call _ _ | .dY _ _ | .app _ _ _ _ _ | .cpy _ _ _ | .clr _ _=>true
 |_=>false
def wR(a b:COp):Bool:=touches a&&touches b&&(writes a||writes b||a.makes||b.makes)
def dH:COp->Bool
 |.call f _=>rZ f
 |.dY _ _=>true
 |_=>false
def tZ:COp->Bool
 |.call _ _=>true
 |.dY _ _=>true
 |_=>false
def lY(a b:bn):Bool :=
 !((dH a.op&&tZ b.op)||(tZ a.op&&dH b.op)) &&
 ((match a.dst with | some d=>!(b.slots.contains d)&&!(b.dst == some d) | none=>true) &&
 (match b.dst with | some d=>!(a.slots.contains d) | none=>true))
def unordered(anc:List Nat):List (Nat×Nat) :=(List.range anc.length).flatMap λj=>(List.range j).filterMap λi=>if ((anc.getD j 0).testBit i)then none else some (i,j)
def QM(ops:Array Oper)(draw:Bool):bC :=
 let l:=ops.toList.map (cZ P φ ops);match draw with
 |false=>.ops l (0,[])
 |true=>
  let anc:=ancestors ops.toList;let un:=unordered anc
  if qO 0 ops.toList&&un.all (λp=>lY (l.getD p.1 default) (l.getD p.2 default))then
   .draw l (un.filter λp=>wR (l.getD p.1 default).op (l.getD p.2 default).op) (0,[])
  else .fail
def iT:Nat:=999999
def gV(l:Nat):Nat:=1000000+2*l
def lV(l:Nat):Nat:=1000001+2*l
def dJ(p:Nat->Bool):Code->Bool
 |.goto l=>p l
 |.seq a b=>dJ p a&&dJ p b
 |.cond _ a b=>dJ p a&&dJ p b
 |.block _ b=>dJ p b
 |.loop b=>dJ p b
 |.scope b=>dJ p b
 |.rangeFunc _ _ a b=>dJ p a&&dJ p b
 |_=>true
def Jd:Code->Bool:=dJ λ_=>false
def BN:Code->Option Nat
 |.label l=>some l
 |_=>none
def Uu:Code->Option Nat
 |.seq a b=>match BN a with
  |some l=>some l
  |none=>Uu b
 |_=>none
def iw(l:Nat):Code->Bool
 |.seq a b=>match BN a with
  |some l'=>decide (l'=l)&&dJ (λk=>decide (k=l)) b
  |none=>Jd a&&(findLabel a l).isNone&&iw l b
 |_=>false
mutual
def lW:Code->bC
 |.skip=>.skip
 |.region _ ops draw=>QM P φ ops draw
 |.seq a b=>.seq (lW a) (lW b)
 |.cond c a b=>match fJ φ c with
  |some c=>.cond c (lW a) (lW b)
  |none=>.fail
 |.block id b=>.block id (lW b)
 |.loop b=>.loop 0 (lW b)
 |.scope b=>match Jd b with
  |true=>.seq (lW b) .skip
  |false=>RS b
 |.label _=>.skip
 |.goto l=>.exit (gV l)
 |.exit id=>.exit id
 |.ret=>.ret
 |_=>.fail
/-- Statements of which one is jumped back to. -/
def RS:Code->bC
 |.seq a b=>match BN a with
  |some l=>.block (lV l) (.loop 0 (.block (gV l) (.seq (lW b) (.exit (lV l)))))
  |none=>.seq (lW a) (RS b)
 |_=>.fail
end
def RJ:ResultVar->Option vN
 |.tmp t=>some (.tmp t)
 |.cell t ty=>do some (.cell t (<- sizeT P ty) (<- uq P ty))
def vN.slot:vN->Nat
 |.tmp t=>t
 |.cell t _ _=>t
def dX(nt:Nat):Code->Bool
 |.region _ ops _=>ops.toList.all λo=>match o.dst with | some d=>Nat.blt d nt | none=>true
 |.seq a b=>dX nt a&&dX nt b
 |.cond _ a b=>dX nt a&&dX nt b
 |.block id b=>Nat.blt id iT&&dX nt b
 |.loop b=>dX nt b
 |.scope b=>dX nt b&&(Jd b||match Uu b with | some l=>iw l b | none=>false)
 |.exit id=>Nat.blt id iT
 |_=>true
def agx:Op->Bool
 |.defer _=>true
 |_=>false
def gJ:Code->Bool
 |.region _ ops _=>ops.toList.any λo=>agx o.op
 |.seq a b=>gJ a||gJ b
 |.cond _ a b=>gJ a||gJ b
 |.block _ b=>gJ b
 |.loop b=>gJ b
 |.scope b=>gJ b
 |.rangeFunc _ _ _ _=>true
 |_=>false
def gK(t:Nat):Code->Bool
 |.region _ ops _=>ops.toList.any λo=>match o.dst with | some d=>Nat.beq d t | none=>false
 |.seq a b=>gK t a||gK t b
 |.cond _ a b=>gK t a||gK t b
 |.block _ b=>gK t b
 |.loop b=>gK t b
 |.scope b=>gK t b
 |.rangeFunc _ _ _ _=>true
 |_=>false
def FH:bC->bC
 |.ret=>.exit iT
 |.seq a b=>.seq (FH a) (FH b)
 |.cond c a b=>.cond c (FH a) (FH b)
 |.block id b=>.block id (FH b)
 |.loop m b=>.loop m (FH b)
 |c=>c
def deferred(ops:List Oper):Option (List Oper×Nat×FuncId) :=
 match ops.reverse with
 |d::mk::r=>match d.op,d.dst,d.guard,mk.op,mk.dst,mk.guard with
  |.defer ⟨.value (.tmp t),args,_⟩,none,none,.makeFunc (.func f) _ _,some t',none=>if t=t'/\args.size=0 then some ((mk::r).reverse,t,f)else none
  |_,_,_,_,_,_=>none
 |_=>none
def ES:Code->bC
 |.seq a b=>match a with
  |.region _ ops false=>match deferred ops.toList with
   |some (l,t,f)=>
    if gK t b=false/\(((P.funcs[f]?).bind (·.body)).map gJ)=some false/\gJ b=false then
     .seq (.ops (l.map (cZ P φ ops)) (0,[])) (.seq (.block iT (FH (lW P φ b))) (.ops [⟨none,none,.dY (.t t) []⟩] (0,[])))
    else .fail
   |none=>.seq (lW P φ a) (ES b)
  |_=>.seq (lW P φ a) (ES b)
 |_=>.fail
def aj2(c:Code):bC:=match gJ c with
 |true=>ES P φ c
 |false=>lW P φ c
def cFn(fn:Func):Option CFn:=do
 let c <- fn.body
 if dX fn.ntmps c=false then none else
 let res <- fn.results.toList.mapM (RJ P);let rm:=NM 0 (res.map vN.slot)
 if fn.name = "runtime.NumGoroutine" then none else
 some ⟨fn.params.size+fn.nfree,res,(oz rm (aj2 P φ c) rm []).1⟩
end
section lists
variable {α:Type}
theorem get_put(l:List (Nat×α))(n:Nat)(x:α)(k:Nat):get (put l n x) k=if n=k then some x else get l k:=by
 induction l with
 |nil=>simp[put,get]
 |cons a r ih=>
  obtain⟨j,v⟩:=a;simp only[put];by_cases h1:j=n
  ·subst h1;simp only[qyx,get];by_cases h2:j=k<;>simp[h2]
  ·simp only[h1,qWq];by_cases h2:n<=j
   ·simp only[h2,qyx,get]
   ·simp only[h2,qWq,get,ih];by_cases h3:j=k
    ·subst h3;simp[qYx h1]
    ·simp[h3]
theorem nC(l:List (Nat×α))(n k:Nat):get (del l n) k=if n=k then none else get l k:=by
 induction l with
 |nil=>simp[del,get]
 |cons a r ih=>
  obtain⟨j,v⟩:=a;simp only[del];by_cases h1:j=n
  ·subst h1;simp only[qyx,ih,get];by_cases h2:j=k<;>simp[h2]
  ·simp only[h1,qWq,get,ih];by_cases h3:j=k
   ·subst h3;simp[qYx h1]
   ·simp[h3]
theorem Vd(m:Nat)(l:List (Nat×α))(k:Nat):get (Pav.keep m l) k=if m.testBit k then get l k else none:=by
 induction l with
 |nil=>simp[Pav.keep,get]
 |cons a r ih=>
  obtain⟨j,v⟩:=a;simp only[Pav.keep];by_cases h1:m.testBit j=true
  ·simp only[h1,qyx,get,ih];by_cases h3:j=k
   ·subst h3;simp[h1]
   ·simp[h3]
  ·rw[qwx h1,ih];simp only[get];by_cases h3:j=k
   ·subst h3;simp[h1]
   ·simp[h3]
theorem get_mem{l:List (Nat×α)}{k:Nat}{x:α}(h:get l k=some x):(k,x)∈l:=by
 induction l with
 |nil=>simp[get]at h
 |cons a r ih=>
  obtain⟨j,v⟩:=a;simp only[get]at h;by_cases h1:j=k
  ·simp[h1]at h;subst h;subst h1;simp
  ·simp[h1]at h;exact qyj _ (ih h)
end lists
theorem aA{α β:Type}{x:Option α}{f:α->Option β}{b:β}(h:ob x f=some b):∃a,x=some a/\f a=some b:=by
 cases x with
 |none=>simp[ob]at h
 |some a=>exact⟨a,rfl,h⟩
theorem aH{α β:Type}{x:Option α}{f:α->β}{b:β}(h:om x f=some b):∃a,x=some a/\f a=b:=by
 cases x with
 |none=>simp[om]at h
 |some a=>exact⟨a,rfl,by simpa [om]using h⟩
theorem wW{β:Type}{c:Bool}{x:Option β}{b:β}(h:og c x=some b):c=true/\x=some b:=by
 cases c with
 |false=>simp[og]at h
 |true=>exact⟨rfl,h⟩
theorem dn{α β:Type}{f:α->Option β}:∀{l:List α}{r:List β},aZ f l=some r->r.length=l.length/\∀(i:Nat) (a:α),l[i]?=some a->∃b,r[i]?=some b/\f a=some b:=by
 intro l;induction l with
 |nil=>intro r h;simp[aZ]at h;subst h;simp
 |cons a l ih=>
  intro r h;simp only[aZ]at h;obtain⟨b,hb,h⟩:=aA h;obtain⟨bs,hbs,rfl⟩:=aH h;obtain⟨hl,hi⟩:=ih hbs;refine⟨by simp[hl],?_⟩;intro i x hx;cases i with
  |zero=>simp at hx;subst hx;exact⟨b,by simp,hb⟩
  |succ i=>simpa using hi i x (by simpa using hx)
inductive VR(ψ:Nat->FuncId)(w:World)(S:Nat->Prop)(m:Nat->Nat×Nat):(Nat->Prop)->AV->Value->Prop
 |undef {A:Nat->Prop}(v:Value):VR ψ w S m A .undef v
 |bool {A:Nat->Prop}(b:Bool):VR ψ w S m A (.bool b) (.bool b)
 |int {A:Nat->Prop}(k:IntKind) (n:Int):VR ψ w S m A (.int k n) (.int k n)
 |str {A:Nat->Prop}(s:List UInt8):VR ψ w S m A (.str s) (.string ⟨⟨s⟩⟩)
 |eG {A:Nat->Prop}:VR ψ w S m A .eG (.pointer none)
 |bG {A:Nat->Prop}:VR ψ w S m A .bG (.slice none 0 0)
 |dU {A:Nat->Prop}:VR ψ w S m A .dU (.map none)
 |dW {A:Nat->Prop}:VR ψ w S m A .dW .nilFunc
 |ro {A:Nat->Prop}(z:Nat) (es:List (List AV)) (ex:Bool) (b off cap:Nat) (cs:Nat->Nat->Value) (hS:S b)
  (hz:∀(i:Nat) (e:List AV),es[i]?=some e->e.length=z) (hc:es.length<=cap) (hx:ex=true->cap=es.length)
  (hcell:∀(i:Nat) (e:List AV) (j:Nat) (x:AV),es[i]?=some e->e[j]?=some x->x.cell=true/\w.cell? ⟨b,off+i*z+j,none⟩=some (cs i j))
  (hrep:∀(i:Nat) (e:List AV) (j:Nat) (x:AV),es[i]?=some e->e[j]?=some x->VR ψ w S m (λ_=>False) x (cs i j)) :
  VR ψ w S m A (.ro z es ex) (.slice (some ⟨b,off,none⟩) es.length cap)
 |roe {A:Nat->Prop}(z:Nat) (ex:Bool) (a:Addr) (k:Nat) (hk:ex=true->k=0):VR ψ w S m A (.ro z [] ex) (.slice (some a) 0 k)
 |rop {A:Nat->Prop}(cs:List AV) (b off:Nat) (vs:Nat->Value) (hS:S b)
  (hcell:∀(j:Nat) (x:AV),cs[j]?=some x->x.cell=true/\w.cell? ⟨b,off+j,none⟩=some (vs j))
  (hrep:∀(j:Nat) (x:AV),cs[j]?=some x->VR ψ w S m (λ_=>False) x (vs j)) :
  VR ψ w S m A (.rop cs) (.pointer (some ⟨b,off,none⟩))
 |ptr {A:Nat->Prop}(b i o:Nat) (hA:A b):VR ψ w S m A (.ptr b i o) (.pointer (some ⟨(m b).1,i*(m b).2+o,none⟩))
 |sl {A:Nat->Prop}(b z i len cap:Nat) (ex:Bool) (c:Nat) (hA:A b) (hz:(m b).2=z) (hl:len<=c) (hc:cap<=c) (hx:ex=true->c=cap)
  (hrow:∃cur t fr,w.heap[(m b).1]?=some (.cells cur t fr)/\(i+c)*z<=cur.size) :
  VR ψ w S m A (.sl b z i len cap ex) (.slice (some ⟨(m b).1,i*z,none⟩) len c)
 |map {A:Nat->Prop}(b:Nat) (hA:A b):VR ψ w S m A (.map b) (.map (some (m b).1))
 |fn {A:Nat->Prop}(f:Nat) (caps:List AV) (vs:Array Value) (hn:vs.size=caps.length)
  (hc:∀(j:Nat) (x:AV),caps[j]?=some x->VR ψ w S m A x (vs.getD j undef)):VR ψ w S m A (.fn f caps) (.func (.func (ψ f)) #[] vs)
 |agg {A:Nat->Prop}(cs:List AV) (vs:Array Value) (hn:vs.size=cs.length)
  (hcell:∀(j:Nat) (x:AV),cs[j]?=some x->x.cell=true) (hc:∀(j:Nat) (x:AV),cs[j]?=some x->VR ψ w S m A x (vs.getD j undef)):VR ψ w S m A (.agg cs) (.agg vs)
 |tup {A:Nat->Prop}(cs:List AV) (vs:Array Value) (hn:vs.size=cs.length)
  (hc:∀(j:Nat) (x:AV),cs[j]?=some x->VR ψ w S m A x (vs.getD j undef)):VR ψ w S m A (.tup cs) (.tuple vs)
structure Le(w:World)(S:Nat->Prop)(m:Nat->Nat×Nat)(A:Nat->Prop)(w':World)(S':Nat->Prop)(m':Nat->Nat×Nat)(A':Nat->Prop):Prop where
 kept:∀b,S b->w'.heap[b]?=w.heap[b]?
 rows:∀(b:Nat) c t fr,w.heap[b]?=some (.cells c t fr)->∃c',w'.heap[b]?=some (.cells c' t fr)/\c'.size=c.size
 size:w.heap.size<=w'.heap.size
 sub:∀b,S b->S' b
 made:∀b,A b->A' b
 same:∀b,A b->m' b=m b
theorem Le.refl(w:World)(S:Nat->Prop)(m:Nat->Nat×Nat)(A:Nat->Prop):Le w S m A w S m A :=⟨λ_ _=>rfl,λ_ c _ _ h=>⟨c,h,rfl⟩,qxx _,λ_ h=>h,λ_ h=>h,λ_ _=>rfl⟩
theorem Le.trans{w w1 w2:World}{S S1 S2:Nat->Prop}{m m1 m2:Nat->Nat×Nat}{A A1 A2:Nat->Prop}(h:Le w S m A w1 S1 m1 A1)(h':Le w1 S1 m1 A1 w2 S2 m2 A2):Le w S m A w2 S2 m2 A2 where
 kept b hb:=(h'.kept b (h.sub b hb)).trans (h.kept b hb)
 rows b c t fr hc:=by obtain⟨c1,h1,e1⟩:=h.rows b c t fr hc;obtain⟨c2,h2,e2⟩:=h'.rows b c1 t fr h1;exact⟨c2,h2,e2.trans e1⟩
 size:=qeq h.size h'.size
 sub b hb:=h'.sub b (h.sub b hb)
 made b hb:=h'.made b (h.made b hb)
 same b hb:=(h'.same b (h.made b hb)).trans (h.same b hb)
section
variable {ψ:Nat->FuncId}{w w':World}{S S':Nat->Prop}{m m':Nat->Nat×Nat}{A A':Nat->Prop}
theorem VR.mono'{v:AV}{c:Value}(h:VR ψ w S m A v c)(hk:∀b,S b->w'.heap[b]?=w.heap[b]?)
 (hr:∀(b:Nat) c t fr,w.heap[b]?=some (.cells c t fr)->∃c',w'.heap[b]?=some (.cells c' t fr)/\c'.size=c.size) (hs:∀b,S b->S' b) :
 ∀{A':Nat->Prop},(∀b,A b->A' b)->(∀b,A b->m' b=m b)->VR ψ w' S' m' A' v c:=by
 induction h with
 |undef v=>intro A' _ _;exact .undef v
 |bool b=>intro A' _ _;exact .bool b
 |int k n=>intro A' _ _;exact .int k n
 |str s=>intro A' _ _;exact .str s
 |eG=>intro A' _ _;exact .eG
 |bG=>intro A' _ _;exact .bG
 |dU=>intro A' _ _;exact .dU
 |dW=>intro A' _ _;exact .dW
 |roe z ex a k hk=>intro A' _ _;exact .roe z ex a k hk
 |ro z es ex b off cap cs hS hz hc hx hcell _ ih=>intro A' _ _;refine .ro z es ex b off cap cs (hs b hS) hz hc hx (λi e j x h1 h2=>⟨(hcell i e j x h1 h2).1,?_⟩) (λi e j x h1 h2=>ih i e j x h1 h2 (λ_ h=>h) (λ_ h=>h.elim));rw[<- (hcell i e j x h1 h2).2];exact World.cell?_of_block (hk b hS)
 |rop cs b off vs hS hcell _ ih=>intro A' _ _;refine .rop cs b off vs (hs b hS) (λj x h1=>⟨(hcell j x h1).1,?_⟩) (λj x h1=>ih j x h1 (λ_ h=>h) (λ_ h=>h.elim));rw[<- (hcell j x h1).2];exact World.cell?_of_block (hk b hS)
 |ptr b i o hA=>intro A' ha hm;rw[<- hm b hA];exact .ptr b i o (ha b hA)
 |sl b z i len cap ex c hA hz hl hc hx hrow=>intro A' ha hm;obtain⟨cur,t,fr,h1,h2⟩:=hrow;obtain⟨c',h3,h4⟩:=hr _ _ _ _ h1;have e:=hm b hA;rw[<- e]at hz h3 |-;exact .sl b z i len cap ex c (ha b hA) hz hl hc hx ⟨c',t,fr,h3,by omega⟩
 |map b hA=>intro A' ha hm;rw[<- hm b hA];exact .map b (ha b hA)
 |fn f caps vs hn _ ih=>intro A' ha hm;exact .fn f caps vs hn λj x h1=>ih j x h1 ha hm
 |agg cs vs hn hcell _ ih=>intro A' ha hm;exact .agg cs vs hn hcell λj x h1=>ih j x h1 ha hm
 |tup cs vs hn _ ih=>intro A' ha hm;exact .tup cs vs hn λj x h1=>ih j x h1 ha hm
theorem VR.mono{v:AV}{c:Value}(h:VR ψ w S m A v c)(le:Le w S m A w' S' m' A'):VR ψ w' S' m' A' v c :=h.mono' le.kept le.rows le.sub le.made le.same
theorem VR.one{v:AV}{c:Value}(h:VR ψ w S m A v c)(hv:v.cell=true):c.oneCell'=true:=by cases h<;>simp_all [AV.cell,Value.oneCell']
theorem VR.single{v:AV}{c:Value}(h:VR ψ w S m A v c)(hv:v.cells=[v])(hc:c.cells=#[c])(h1:v.cell=true) :
 c.cells.size=v.cells.length/\(∀(j:Nat) (x:AV),v.cells[j]?=some x->VR ψ w S m A x (c.cells.getD j Go.undef))/\∀u∈c.cells.toList,u.oneCell'=true:=by
 rw[hv,hc];refine⟨rfl,?_,?_⟩
 ·intro j x hj;cases j with
  |zero=>simp at hj;subst hj;simpa using h
  |succ j=>simp at hj
 ·intro u hu;simp at hu;subst hu;exact h.one h1
theorem VR.cells{v:AV}{c:Value}(h:VR ψ w S m A v c)(hv:v.cells.all AV.cell=true) :
 c.cells.size=v.cells.length/\(∀(j:Nat) (x:AV),v.cells[j]?=some x->VR ψ w S m A x (c.cells.getD j Go.undef))/\∀u∈c.cells.toList,u.oneCell'=true:=by
 cases h with
 |agg cs vs hn hcell hc=>
  refine⟨hn,hc,?_⟩;intro u hu;obtain⟨j,hj,e⟩:=qvx hu;have hjs:j<vs.size:=by simpa [Value.cells]using hj
  have hx:cs[j]?=some cs[j]:=qqj qqq;have h1:=(hc j _ hx).one (hcell j _ hx);have e2:vs.getD j Go.undef=u:=by simp only[Array.getD,hjs,zWq];simpa [Value.cells]using e
  rwa [e2]at h1
 |undef v=>simp[AV.cells,AV.cell]at hv
 |tup cs vs hn hc=>simp[AV.cells,AV.cell]at hv
 |bool b=>exact VR.single (.bool b) rfl rfl rfl
 |int k n=>exact VR.single (.int k n) rfl rfl rfl
 |str s=>exact VR.single (.str s) rfl rfl rfl
 |eG=>exact VR.single .eG rfl rfl rfl
 |bG=>exact VR.single .bG rfl rfl rfl
 |dU=>exact VR.single .dU rfl rfl rfl
 |dW=>exact VR.single .dW rfl rfl rfl
 |roe z ex a k hk=>exact VR.single (.roe z ex a k hk) rfl rfl rfl
 |ro z es ex b off cap cs hS hz hc hx hcell hrep=>exact VR.single (.ro z es ex b off cap cs hS hz hc hx hcell hrep) rfl rfl rfl
 |rop cs b off vs hS hcell hrep=>exact VR.single (.rop cs b off vs hS hcell hrep) rfl rfl rfl
 |ptr b i o hA=>exact VR.single (.ptr b i o hA) rfl rfl rfl
 |sl b z i len cap ex c hA hz hl hc hx hrow=>exact VR.single (.sl b z i len cap ex c hA hz hl hc hx hrow) rfl rfl rfl
 |map b hA=>exact VR.single (.map b hA) rfl rfl rfl
 |fn f caps vs hn hc=>exact VR.single (.fn f caps vs hn hc) rfl rfl rfl
end
def OR(ψ:Nat->FuncId)(w:World)(S:Nat->Prop)(m:Nat->Nat×Nat)(A:Nat->Prop)(bm:Nat×Nat):jq->Prop
 |.cells z es _=>bm.2=z/\(∀(i:Nat) (e:List AV),es[i]?=some e->e.length=z)/\∃c t,w.heap[bm.1]?=some (.cells c t (0,0))/\es.length*z<=c.size /\
  ∀(i:Nat) (e:List AV) (j:Nat) (x:AV),es[i]?=some e->e[j]?=some x->x.cell=true/\∃v,c[i*z+j]?=some v/\VR ψ w S m A x v
 |.map es=>∃es' clock,w.heap[bm.1]?=some (.map es' clock)/\es'.size=es.length /\
  ∀(i:Nat) (k v:AV),es[i]?=some (k,v)->k.cell=true/\∃x,es'[i]?=some x/\VR ψ w S m A k x.key/\VR ψ w S m A v x.val
 |.iter s pos=>w.heap[bm.1]?=some (.stringIter ⟨⟨s⟩⟩ pos)
def oh:jq->Bool
 |.cells _ _ mu=>mu
 |_=>true
structure Inv(ψ:Nat->FuncId)(N:Nat)(w0:World)(w:World)(S:Nat->Prop)(m:Nat->Nat×Nat)(A:Nat->Prop)(h:Heap):Prop where
 dom:∀b o,get h b=some o->A b
 obj:∀b o,get h b=some o->OR ψ w S m A (m b) o
 fro:∀b o,get h b=some o->oh o=false->S (m b).1
 live:∀b o,get h b=some o->oh o=true->¬S (m b).1/\N<=(m b).1
 inj:∀b o b' o',get h b=some o->get h b'=some o'->oh o=true->oh o'=true->b≠b'->(m b).1≠(m b').1
 sb:∀c,S c->c<w.heap.size
 size:N<=w.heap.size
 old:∀c,c<N->w.heap[c]?=w0.heap[c]?
 os:w.os=w0.os
 out:w.output=w0.output
theorem OR.lt{ψ:Nat->FuncId}{w:World}{S:Nat->Prop}{m:Nat->Nat×Nat}{A:Nat->Prop}{bm:Nat×Nat}{o:jq}(h:OR ψ w S m A bm o):bm.1<w.heap.size:=by
 cases o with
 |cells z es mu=>obtain⟨_,_,c,t,h,_⟩:=h;exact(qWz.1 h).1
 |map es=>obtain⟨es',clock,h,_⟩:=h;exact(qWz.1 h).1
 |iter s pos=>exact(qWz.1 h).1
theorem OR.mono{ψ:Nat->FuncId}{w w':World}{S S':Nat->Prop}{m m':Nat->Nat×Nat}{A A':Nat->Prop}{bm:Nat×Nat}{o:jq}(h:OR ψ w S m A bm o)
 (le:Le w S m A w' S' m' A') (hb:w'.heap[bm.1]?=w.heap[bm.1]?):OR ψ w' S' m' A' bm o:=by
 cases o with
 |cells z es mu=>obtain⟨h0,h1,c,t,h2,h3,h4⟩:=h;refine⟨h0,h1,c,t,hb.trans h2,h3,λi e j x he hx=>?_⟩;obtain⟨h5,v,h6,h7⟩:=h4 i e j x he hx;exact⟨h5,v,h6,h7.mono le⟩
 |map es=>obtain⟨es',clock,h1,h2,h3⟩:=h;refine⟨es',clock,hb.trans h1,h2,λi k v he=>?_⟩;obtain⟨h4,x,h5,h6,h7⟩:=h3 i k v he;exact⟨h4,x,h5,h6.mono le,h7.mono le⟩
 |iter s pos=>exact hb.trans h
def gI(m:Nat->Nat×Nat)(nid:Nat)(x:Nat×Nat):Nat->Nat×Nat:=λb=>if b=nid then x else m b
def sG(A:Nat->Prop)(nid:Nat):Nat->Prop:=λb=>A b\/b=nid
section
variable {ψ:Nat->FuncId}{N:Nat}{w0 w w':World}{S:Nat->Prop}{m:Nat->Nat×Nat}{A:Nat->Prop}{h:Heap}
theorem Le.wY(hh:w'.heap=w.heap):Le w S m A w' S m A :=⟨λ_ _=>by rw[hh],λ_ c _ _ hc=>⟨c,by rw[hh];exact hc,rfl⟩,by rw[hh];exact qxx _,λ_ x=>x,λ_ x=>x,λ_ _=>rfl⟩
theorem Inv.wY(i:Inv ψ N w0 w S m A h)(hh:w'.heap=w.heap)(ho:w'.os=w.os)(ht:w'.output=w.output):Inv ψ N w0 w' S m A h where
 dom:=i.dom
 obj b o hb:=(i.obj b o hb).mono (Le.wY hh) (by rw[hh])
 fro:=i.fro
 live:=i.live
 inj:=i.inj
 sb c hc:=by rw[hh];exact i.sb c hc
 size:=by rw[hh];exact i.size
 old c hc:=by rw[hh];exact i.old c hc
 os:=ho.trans i.os
 out:=ht.trans i.out
theorem Le.push{obj:Obj}(hh:w'.heap=w.heap.push obj)(sb:∀c,S c->c<w.heap.size){nid:Nat}(hn:¬A nid)(x:Nat×Nat) :
 Le w S m A w' S (gI m nid x) (sG A nid) where
 kept b hb:=by rw[hh,qpx,qwx (q7q (sb b hb))]
 rows b c t fr hc:=⟨c,by have:=(qWz.1 hc).1;rw[hh,qpx,qwx (q7q this)];exact hc,rfl⟩
 size:=by rw[hh];simp
 sub _ hb:=hb
 made _ hb:=.inl hb
 same b hb:=by have:b≠nid:=λe=>hn (e ▸ hb);simp[gI,this]
theorem Inv.push{obj:Obj}(i:Inv ψ N w0 w S m A h)(hh:w'.heap=w.heap.push obj)(ho:w'.os=w.os)(ht:w'.output=w.output){nid:Nat}(hn:¬A nid)(z:Nat)(o:jq)
 (hor:OR ψ w' S (gI m nid (w.heap.size,z)) (sG A nid) (w.heap.size,z) o) (hm:oh o=true) :
 Inv ψ N w0 w' S (gI m nid (w.heap.size,z)) (sG A nid) (put h nid o):=by
 have le:=Le.push (m:=m) hh i.sb hn (w.heap.size,z);have ne:∀b o',get h b=some o'->b≠nid:=λb o' hb e=>hn (e ▸ i.dom b o' hb);have nsz:¬S w.heap.size:=λhs=>qpz _ (i.sb _ hs);have mof:∀b,b≠nid->gI m nid (w.heap.size,z) b=m b:=λb hb=>by simp[gI,hb]
 have mn:gI m nid (w.heap.size,z) nid=(w.heap.size,z):=by simp[gI]
 have blk:∀c,c<w.heap.size->w'.heap[c]?=w.heap[c]?:=λc hc=>by rw[hh,qpx,qwx (q7q hc)]
 constructor
 ·intro b o' hb;rw[get_put]at hb;by_cases e:nid=b
  ·exact .inr e.symm
  ·rw[qwx e]at hb;exact .inl (i.dom b o' hb)
 ·intro b o' hb;rw[get_put]at hb;by_cases e:nid=b
  ·rw[qzq e]at hb;cases hb;subst e;rw[mn];exact hor
  ·rw[qwx e]at hb;rw[mof b (qYx e)];exact(i.obj b o' hb).mono le (blk _ (i.obj b o' hb).lt)
 ·intro b o' hb hf;rw[get_put]at hb;by_cases e:nid=b
  ·rw[qzq e]at hb;cases hb;rw[hm]at hf;cases hf
  ·rw[qwx e]at hb;rw[mof b (qYx e)];exact i.fro b o' hb hf
 ·intro b o' hb hf;rw[get_put]at hb;by_cases e:nid=b
  ·subst e;rw[mn];exact⟨nsz,i.size⟩
  ·rw[qwx e]at hb;rw[mof b (qYx e)];exact i.live b o' hb hf
 ·intro b o1 b' o2 h1 h2 f1 f2 hne;rw[get_put]at h1 h2;by_cases e1:nid=b
  ·by_cases e2:nid=b'
   ·exact absurd (e1.symm.trans e2) hne
   ·rw[qwx e2]at h2;subst e1;rw[mn,mof b' (qYx e2)];exact Nat.ne_of_gt (i.obj b' o2 h2).lt
  ·rw[qwx e1]at h1;by_cases e2:nid=b'
   ·subst e2;rw[mn,mof b (qYx e1)];exact q7q (i.obj b o1 h1).lt
   ·rw[qwx e2]at h2;rw[mof b (qYx e1),mof b' (qYx e2)];exact i.inj b o1 b' o2 h1 h2 f1 f2 hne
 ·intro c hc;exact qZx (i.sb c hc) le.size
 ·exact qeq i.size le.size
 ·intro c hc;rw[blk c (qZx hc i.size)];exact i.old c hc
 ·exact ho.trans i.os
 ·exact ht.trans i.out
theorem Le.write{g:Nat}(hg:¬S g)(hb:∀b,b≠g->w'.heap[b]?=w.heap[b]?)(hs:w'.heap.size=w.heap.size)
 (hrow:∀c t fr,w.heap[g]?=some (.cells c t fr)->∃c',w'.heap[g]?=some (.cells c' t fr)/\c'.size=c.size):Le w S m A w' S m A where
 kept b hS:=hb b (λe=>hg (e ▸ hS))
 rows b c t fr hc:=by
  by_cases e:b=g
  ·subst e;exact hrow c t fr hc
  ·exact⟨c,by rw[hb b e];exact hc,rfl⟩
 size:=by omega
 sub _ x:=x
 made _ x:=x
 same _ _:=rfl
theorem Inv.write(i:Inv ψ N w0 w S m A h){b:Nat}{o o':jq}(hget:get h b=some o)(hm:oh o=true)(hm':oh o'=true)
 (hb:∀c,c≠(m b).1->w'.heap[c]?=w.heap[c]?) (hs:w'.heap.size=w.heap.size) (ho:w'.os=w.os) (ht:w'.output=w.output)
 (hrow:∀c t fr,w.heap[(m b).1]?=some (.cells c t fr)->∃c',w'.heap[(m b).1]?=some (.cells c' t fr)/\c'.size=c.size)
 (hor:OR ψ w' S m A (m b) o'):Inv ψ N w0 w' S m A (put h b o'):=by
 have le:Le w S m A w' S m A:=Le.write (i.live b o hget hm).1 hb hs hrow;constructor
 ·intro c x hc;rw[get_put]at hc;by_cases e:b=c
  ·subst e;exact i.dom b o hget
  ·rw[qwx e]at hc;exact i.dom c x hc
 ·intro c x hc;rw[get_put]at hc;by_cases e:b=c
  ·subst e;rw[qzq rfl]at hc;cases hc;exact hor
  ·rw[qwx e]at hc;refine(i.obj c x hc).mono le (hb _ ?_);cases hx:oh x with
   |true=>exact i.inj c x b o hc hget hx hm (qYx e)
   |false=>exact λe2=>(i.live b o hget hm).1 (e2 ▸ i.fro c x hc hx)
 ·intro c x hc hf;rw[get_put]at hc;by_cases e:b=c
  ·rw[qzq e]at hc;cases hc;rw[hm']at hf;cases hf
  ·rw[qwx e]at hc;exact i.fro c x hc hf
 ·intro c x hc hf;rw[get_put]at hc;by_cases e:b=c
  ·subst e;exact i.live b o hget hm
  ·rw[qwx e]at hc;exact i.live c x hc hf
 ·intro c o1 c' o2 h1 h2 f1 f2 hne;rw[get_put]at h1 h2;by_cases e1:b=c
  ·by_cases e2:b=c'
   ·exact absurd (e1.symm.trans e2) hne
   ·rw[qwx e2]at h2;subst e1;exact i.inj b o c' o2 hget h2 hm f2 hne
  ·rw[qwx e1]at h1;by_cases e2:b=c'
   ·subst e2;exact i.inj c o1 b o h1 hget f1 hm hne
   ·rw[qwx e2]at h2;exact i.inj c o1 c' o2 h1 h2 f1 f2 hne
 ·intro c hc;rw[hs];exact i.sb c hc
 ·rw[hs];exact i.size
 ·intro c hc;rw[hb c]
  ·exact i.old c hc
  ·have:=(i.live b o hget hm).2;omega
 ·exact ho.trans i.os
 ·exact ht.trans i.out
theorem Inv.del(i:Inv ψ N w0 w S m A h)(b:Nat):Inv ψ N w0 w S m A (del h b):=by
 have sub:∀c o,get (Pav.del h b) c=some o->get h c=some o:=by
  intro c o hc;rw[nC]at hc;by_cases e:b=c
  ·simp[e]at hc
  ·rwa [qwx e]at hc
 exact⟨λc o hc=>i.dom c o (sub c o hc),λc o hc=>i.obj c o (sub c o hc),λc o hc=>i.fro c o (sub c o hc),λc o hc=>i.live c o (sub c o hc), λc o c' o' h1 h2=>i.inj c o c' o' (sub c o h1) (sub c' o' h2),i.sb,i.size,i.old,i.os,i.out⟩
theorem Le.adopt{g:Nat}(hg:¬S g)(hb:∀b,b≠g->w'.heap[b]?=w.heap[b]?)(hs:w'.heap.size=w.heap.size)
 (hrow:∀c t fr,w.heap[g]?=some (.cells c t fr)->∃c',w'.heap[g]?=some (.cells c' t fr)/\c'.size=c.size) {nid:Nat}(hn:¬A nid) (x:Nat×Nat):Le w S m A w' S (gI m nid x) (sG A nid) where
 kept b hS:=hb b (λe=>hg (e ▸ hS))
 rows b c t fr hc:=by
  by_cases e:b=g
  ·subst e;exact hrow c t fr hc
  ·exact⟨c,by rw[hb b e];exact hc,rfl⟩
 size:=by omega
 sub _ x:=x
 made _ x:=.inl x
 same b hb:=by have:b≠nid:=λe=>hn (e ▸ hb);simp[gI,this]
theorem Inv.adopt(i:Inv ψ N w0 w S m A h){b nid:Nat}{o o':jq}(hget:get h b=some o)(hm:oh o=true)(hm':oh o'=true)(hn:¬A nid)(z:Nat)
 (hb:∀c,c≠(m b).1->w'.heap[c]?=w.heap[c]?) (hs:w'.heap.size=w.heap.size) (ho:w'.os=w.os) (ht:w'.output=w.output)
 (hrow:∀c t fr,w.heap[(m b).1]?=some (.cells c t fr)->∃c',w'.heap[(m b).1]?=some (.cells c' t fr)/\c'.size=c.size)
 (hor:OR ψ w' S (gI m nid ((m b).1,z)) (sG A nid) ((m b).1,z) o'):Inv ψ N w0 w' S (gI m nid ((m b).1,z)) (sG A nid) (put (Pav.del h b) nid o'):=by
 have hlive:=i.live b o hget hm;have le:Le w S m A w' S (gI m nid ((m b).1,z)) (sG A nid):=Le.adopt hlive.1 hb hs hrow hn _;have sub:∀c x,get (Pav.del h b) c=some x->get h c=some x/\c≠b/\c≠nid:=by
  intro c x hc;rw[nC]at hc;by_cases e:b=c
  ·simp[e]at hc
  ·rw[qwx e]at hc;exact⟨hc,qYx e,λe2=>hn (e2 ▸ i.dom c x hc)⟩
 have mof:∀c,c≠nid->gI m nid ((m b).1,z) c=m c:=λc hc=>by simp[gI,hc]
 have mn:gI m nid ((m b).1,z) nid=((m b).1,z):=by simp[gI]
 have part:∀c x,get h c=some x->c≠b->(m c).1≠(m b).1:=by
  intro c x hc hcb;cases hx:oh x with
  |true=>exact i.inj c x b o hc hget hx hm hcb
  |false=>exact λe2=>hlive.1 (e2 ▸ i.fro c x hc hx)
 constructor
 ·intro c x hc;rw[get_put]at hc;by_cases e:nid=c
  ·exact .inr e.symm
  ·rw[qwx e]at hc;exact .inl (i.dom c x (sub c x hc).1)
 ·intro c x hc;rw[get_put]at hc;by_cases e:nid=c
  ·rw[qzq e]at hc;cases hc;subst e;rw[mn];exact hor
  ·rw[qwx e]at hc;obtain⟨q1,q2,q3⟩:=sub c x hc;rw[mof c q3];exact(i.obj c x q1).mono le (hb _ (part c x q1 q2))
 ·intro c x hc hf;rw[get_put]at hc;by_cases e:nid=c
  ·rw[qzq e]at hc;cases hc;rw[hm']at hf;cases hf
  ·rw[qwx e]at hc;obtain⟨q1,q2,q3⟩:=sub c x hc;rw[mof c q3];exact i.fro c x q1 hf
 ·intro c x hc hf;rw[get_put]at hc;by_cases e:nid=c
  ·subst e;rw[mn];exact hlive
  ·rw[qwx e]at hc;obtain⟨q1,q2,q3⟩:=sub c x hc;rw[mof c q3];exact i.live c x q1 hf
 ·intro c o1 c' o2 h1 h2 f1 f2 hne;rw[get_put]at h1 h2;by_cases e1:nid=c
  ·by_cases e2:nid=c'
   ·exact absurd (e1.symm.trans e2) hne
   ·rw[qwx e2]at h2;obtain⟨q1,q2,q3⟩:=sub c' o2 h2;subst e1;rw[mn,mof c' q3];exact qYx (part c' o2 q1 q2)
  ·rw[qwx e1]at h1;obtain⟨q1,q2,q3⟩:=sub c o1 h1;by_cases e2:nid=c'
   ·subst e2;rw[mn,mof c q3];exact part c o1 q1 q2
   ·rw[qwx e2]at h2;obtain⟨r1,r2,r3⟩:=sub c' o2 h2;rw[mof c q3,mof c' r3];exact i.inj c o1 c' o2 q1 r1 f1 f2 hne
 ·intro c hc;rw[hs];exact i.sb c hc
 ·rw[hs];exact i.size
 ·intro c hc;rw[hb c]
  ·exact i.old c hc
  ·have:=hlive.2;omega
 ·exact ho.trans i.os
 ·exact ht.trans i.out
theorem Inv.sub(i:Inv ψ N w0 w S m A h){h':Heap}(sub:∀c o,get h' c=some o->get h c=some o):Inv ψ N w0 w S m A h' :=
 ⟨λc o hc=>i.dom c o (sub c o hc),λc o hc=>i.obj c o (sub c o hc),λc o hc=>i.fro c o (sub c o hc),λc o hc=>i.live c o (sub c o hc),
  λc o c' o' h1 h2=>i.inj c o c' o' (sub c o h1) (sub c' o' h2),i.sb,i.size,i.old,i.os,i.out⟩
end
def jM(ψ:Nat->FuncId)(w:World)(S:Nat->Prop)(m:Nat->Nat×Nat)(A:Nat->Prop)(e:Env)(tmps:Array Value):Prop :=∀s v,get e s=some v->VR ψ w S m A v (tmps.getD s Go.undef)
theorem jM.mono{ψ:Nat->FuncId}{w w':World}{S S':Nat->Prop}{m m':Nat->Nat×Nat}{A A':Nat->Prop}{e:Env}{tmps:Array Value}
 (h:jM ψ w S m A e tmps) (le:Le w S m A w' S' m' A'):jM ψ w' S' m' A' e tmps:=λs v hs=>(h s v hs).mono le
theorem jM.put{ψ:Nat->FuncId}{w:World}{S:Nat->Prop}{m:Nat->Nat×Nat}{A:Nat->Prop}{e:Env}{tmps:Array Value}(h:jM ψ w S m A e tmps)
 {d:Nat}(hd:d<tmps.size) {v:AV}{c:Value}(hv:VR ψ w S m A v c):jM ψ w S m A (put e d v) (tmps.setIfInBounds d c):=by
 intro s x hs;rw[get_put]at hs;by_cases e1:d=s
 ·subst e1;rw[qzq rfl]at hs;cases hs;have:(tmps.setIfInBounds d c).getD d Go.undef=c:=by simp[Array.getD,hd]
  rw[this];exact hv
 ·rw[qwx e1]at hs;have:(tmps.setIfInBounds d c).getD s Go.undef=tmps.getD s Go.undef:=by simp only[qjq];rw[qbq e1]
  rw[this];exact h s x hs
theorem jM.keep{ψ:Nat->FuncId}{w:World}{S:Nat->Prop}{m:Nat->Nat×Nat}{A:Nat->Prop}{e:Env}{tmps:Array Value}(h:jM ψ w S m A e tmps)(k:Nat) :
 jM ψ w S m A (Pav.keep k e) tmps:=by
 intro s v hs;rw[Vd]at hs;by_cases hk:k.testBit s=true
 ·rw[qzq hk]at hs;exact h s v hs
 ·rw[qwx hk]at hs;cases hs
structure Cx(P:Program)(φ:FuncId->Option Nat)(ψ:Nat->FuncId)(N:Nat)(w0 w:World)(S:Nat->Prop)(m:Nat->Nat×Nat)(A:Nat->Prop)(h:Heap)(e:Env)(a:Act):Prop where
 inv:Inv ψ N w0 w S m A h
 env:jM ψ w S m A e a.tmps
 ids:∀f g,φ f=some g->ψ g=f
def Snd(P:Program)(ψ:Nat->FuncId)(N:Nat)(w0 w:World)(S:Nat->Prop)(m:Nat->Nat×Nat)(A:Nat->Prop)(x:Sem Next)(h':Heap)(v:AV)(nid:Nat):Prop :=
 ∃cv w' S' m' A',(x.run P w=.ok (.value cv) w'\/(x.run P w=.ok .skip w'/\cv=Go.undef))/\VR ψ w' S' m' A' v cv/\Inv ψ N w0 w' S' m' A' h'/\Le w S m A w' S' m' A' /\
  (∀c,c<N->S' c->S c)/\∀b,A' b->A b\/b=nid
section
variable {P:Program}{φ:FuncId->Option Nat}{ψ:Nat->FuncId}{N:Nat}{w0 w:World}{S:Nat->Prop}{m:Nat->Nat×Nat}{A:Nat->Prop}{h:Heap}{e:Env}{a:Act}
theorem Snd.quiet{x:Sem Next}{cv:Value}{v:AV}(i:Inv ψ N w0 w S m A h)(hr:x.run P w=.ok (.value cv) w)(hv:VR ψ w S m A v cv)(nid:Nat) :
 Snd P ψ N w0 w S m A x h v nid :=
 ⟨cv,w,S,m,A,.inl hr,hv,i,Le.refl ..,λ_ _ hs=>hs,λ_ hb=>.inl hb⟩
theorem bytes_eta(s:ByteArray):s=⟨⟨s.data.toList⟩⟩:=by cases s;rfl
theorem Eo{v:Value}{x:AV}(hx:Ee v=some x):VR ψ w S m A x v/\x.cell=true/\x.cells=[x]/\v.cells=#[v]:=by
 unfold Ee at hx;split at hx<;>first
  |(cases hx;exact⟨by constructor,rfl,rfl,rfl⟩)
  |(cases hx;refine⟨?_,rfl,rfl,rfl⟩;rename_i s;have:=VR.str (ψ:=ψ) (w:=w) (S:=S) (m:=m) (A:=A) s.data.toList;rwa [<- bytes_eta s]at this)
  |cases hx
theorem mapM_some{α β:Type}{f:α->Option β}:∀{l:List α}{r:List β},l.mapM f=some r->r.length=l.length/\∀(i:Nat) (b:β),r[i]?=some b->∃a,l[i]?=some a/\f a=some b:=by
 intro l;induction l with
 |nil=>intro r h;simp at h;subst h;simp
 |cons a l ih=>
  intro r h;simp only[zkx,qvz,qzz,zjx,qwq]at h;obtain⟨b,hb,bs,hbs,rfl⟩:=h;obtain⟨hl,hi⟩:=ih hbs;refine⟨by simp[hl],?_⟩;intro i x hx;cases i with
  |zero=>simp at hx;subst hx;exact⟨a,by simp,hb⟩
  |succ i=>simpa using hi i x (by simpa using hx)
theorem F7{cs:Array Value}{r:List AV}(hr:cs.toList.mapM Ee=some r) :
 cs.size=r.length/\(∀(j:Nat) (x:AV),r[j]?=some x->x.cell=true)/\∀(j:Nat) (x:AV),r[j]?=some x->VR ψ w S m A x (cs.getD j Go.undef):=by
 obtain⟨hl,hi⟩:=mapM_some hr;refine⟨by simpa using hl.symm,λj x hx=>?_,λj x hx=>?_⟩
 ·obtain⟨v,_,h2⟩:=hi j x hx;exact(Eo (ψ:=ψ) (w:=w) (S:=S) (m:=m) (A:=A) h2).2.1
 ·obtain⟨v,h1,h2⟩:=hi j x hx;have h3:=(Eo (ψ:=ψ) (w:=w) (S:=S) (m:=m) (A:=A) h2).1;have:cs.getD j Go.undef=v:=by rw[qjq];simp only[qcq]at h1;simp[h1]
  rwa [this]
theorem Yx{v:Value}{x:AV}(hx:ahV v=some x):VR ψ w S m A x v:=by
 unfold ahV at hx;split at hx
 ·rename_i cs;simp only[qyz]at hx;obtain⟨r,hr,rfl⟩:=hx;obtain⟨h1,h2,h3⟩:=F7 (ψ:=ψ) (w:=w) (S:=S) (m:=m) (A:=A) hr;exact .agg r cs h1 h2 h3
 ·exact(Eo hx).1
theorem Cx.opd(cx:Cx P φ ψ N w0 w S m A h e a){x:Operand}{y:Opd}(hy:fJ φ x=some y):VR ψ w S m A (y.ev e) (a.eval x):=by
 unfold fJ at hy;split at hy
 ·cases hy;rename_i t;simp only[Opd.ev];cases hg:get e t with
  |none=>exact .undef _
  |some v=>exact cx.env t v hg
 ·simp only[qyz]at hy;obtain⟨v,hv,rfl⟩:=hy;exact Yx hv
 ·simp only[qyz]at hy;obtain⟨g,hg,rfl⟩:=hy;rename_i f;have:=VR.fn (ψ:=ψ) (w:=w) (S:=S) (m:=m) (A:=A) g [] #[] rfl qqz;rw[cx.ids f g hg]at this;exact this
 ·cases hy
theorem Cx.apm(cx:Cx P φ ψ N w0 w S m A h e a){xs:Array Operand}{ys:List Opd}(hy:MB φ xs.toList=some ys) :
 xs.size=ys.length/\∀(j:Nat) (y:Opd),ys[j]?=some y->∃x,xs[j]?=some x/\VR ψ w S m A (y.ev e) (a.eval x):=by
 obtain⟨hl,hi⟩:=mapM_some hy;refine⟨by simpa using hl.symm,λj y hj=>?_⟩;obtain⟨x,h1,h2⟩:=hi j y hj;exact⟨x,by simpa using h1,cx.opd h2⟩
section inversions
variable {c:Value}
theorem VR.eF{k:IntKind}{n:Int}(hv:VR ψ w S m A (.int k n) c):c=.int k n:=by cases hv;rfl
theorem VR.iG{b:Bool}(hv:VR ψ w S m A (.bool b) c):c=.bool b:=by cases hv;rfl
theorem VR.jl{s:List UInt8}(hv:VR ψ w S m A (.str s) c):c=.string ⟨⟨s⟩⟩:=by cases hv;rfl
theorem VR.gQ(hv:VR ψ w S m A .bG c):c=.slice none 0 0:=by cases hv;rfl
theorem VR.sH(hv:VR ψ w S m A .eG c):c=.pointer none:=by cases hv;rfl
theorem VR.tC(hv:VR ψ w S m A .dU c):c=.map none:=by cases hv;rfl
theorem VR.Cc(hv:VR ψ w S m A .dW c):c=.nilFunc:=by cases hv;rfl
theorem VR.lH{b i o:Nat}(hv:VR ψ w S m A (.ptr b i o) c):A b/\c=.pointer (some ⟨(m b).1,i*(m b).2+o,none⟩):=by cases hv;rename_i h;exact⟨h,rfl⟩
theorem VR.Ad{b:Nat}(hv:VR ψ w S m A (.map b) c):A b/\c=.map (some (m b).1):=by cases hv;rename_i h;exact⟨h,rfl⟩
theorem VR.lZ{b z i len cap:Nat}{ex:Bool}(hv:VR ψ w S m A (.sl b z i len cap ex) c):∃cc,c=.slice (some ⟨(m b).1,i*z,none⟩) len cc/\A b/\(m b).2=z/\len<=cc/\cap<=cc /\
 (ex=true->cc=cap)/\∃cur t fr,w.heap[(m b).1]?=some (.cells cur t fr)/\(i+cc)*z<=cur.size:=by
 cases hv with
 |sl b z i len cap ex cc hA hz hl hc hx hrow=>exact⟨cc,rfl,hA,hz,hl,hc,hx,hrow⟩
theorem VR.pW{z:Nat}{es:List (List AV)}{ex:Bool}(hv:VR ψ w S m A (.ro z es ex) c):(∃(b off cap:Nat) (cs:Nat->Nat->Value),c=.slice (some ⟨b,off,none⟩) es.length cap/\S b /\
 (∀(i:Nat) (e:List AV),es[i]?=some e->e.length=z)/\es.length<=cap/\(ex=true->cap=es.length) /\
 (∀(i:Nat) (e:List AV) (j:Nat) (x:AV),es[i]?=some e->e[j]?=some x->x.cell=true/\w.cell? ⟨b,off+i*z+j,none⟩=some (cs i j)) /\
 ∀(i:Nat) (e:List AV) (j:Nat) (x:AV),es[i]?=some e->e[j]?=some x->VR ψ w S m (λ_=>False) x (cs i j)) \/
 (es=[]/\∃(a:Addr) (k:Nat),c=.slice (some a) 0 k/\(ex=true->k=0)):=by
 cases hv with
 |ro z es ex b off cap cs hS hz hc hx hcell hrep=>exact .inl ⟨b,off,cap,cs,rfl,hS,hz,hc,hx,hcell,hrep⟩
 |roe z ex a k hk=>exact .inr ⟨rfl,a,k,rfl,hk⟩
theorem VR.rJ{cs:List AV}(hv:VR ψ w S m A (.rop cs) c):∃(b off:Nat) (vs:Nat->Value),c=.pointer (some ⟨b,off,none⟩)/\S b /\
 (∀(j:Nat) (x:AV),cs[j]?=some x->x.cell=true/\w.cell? ⟨b,off+j,none⟩=some (vs j)) /\
 ∀(j:Nat) (x:AV),cs[j]?=some x->VR ψ w S m (λ_=>False) x (vs j):=by
 cases hv with
 |rop cs b off vs hS hcell hrep=>exact⟨b,off,vs,rfl,hS,hcell,hrep⟩
theorem VR.Ep{f:Nat}{caps:List AV}(hv:VR ψ w S m A (.fn f caps) c):∃vs,c=.func (.func (ψ f)) #[] vs/\vs.size=caps.length /\
 ∀(j:Nat) (x:AV),caps[j]?=some x->VR ψ w S m A x (vs.getD j Go.undef):=by cases hv;rename_i vs h1 h2;exact⟨vs,rfl,h1,h2⟩
theorem VR.Hu{cs:List AV}(hv:VR ψ w S m A (.agg cs) c):∃vs,c=.agg vs/\vs.size=cs.length/\(∀(j:Nat) (x:AV),cs[j]?=some x->x.cell=true) /\
 ∀(j:Nat) (x:AV),cs[j]?=some x->VR ψ w S m A x (vs.getD j Go.undef):=by cases hv;rename_i vs h1 h2 h3;exact⟨vs,rfl,h1,h2,h3⟩
theorem VR.Y3{cs:List AV}(hv:VR ψ w S m A (.tup cs) c):∃vs,c=.tuple vs/\vs.size=cs.length /\
 ∀(j:Nat) (x:AV),cs[j]?=some x->VR ψ w S m A x (vs.getD j Go.undef):=by cases hv;rename_i vs h1 h2;exact⟨vs,rfl,h1,h2⟩
theorem VR.open_{v:AV}{A':Nat->Prop}(hv:VR ψ w S m (λ_=>False) v c):VR ψ w S m A' v c :=hv.mono' (λ_ _=>rfl) (λ_ c _ _ h=>⟨c,h,rfl⟩) (λ_ h=>h) (λ_ h=>h.elim) (λ_ h=>h.elim)
end inversions
theorem nat?_some{n:Int}{k:Nat}(hn:nat? n=some k):n=(k:Int):=by
 cases n with
 |ofNat a=>simp[nat?]at hn;subst hn;rfl
 |negSucc a=>simp[nat?]at hn
theorem dZ{x:Option AV}{v:AV}{u:Upd}(hx:ov x=some (v,u)):x=some v/\u=[]:=by obtain⟨y,h1,h2⟩:=aH hx;cases h2;exact⟨h1,rfl⟩
theorem Snd.val{o:Oper}{s:Sem Value}(i:Inv ψ N w0 w S m A h)(hx:execOp a.eval o=(do pure (.value (<- s)))){cv:Value}{v:AV}(hr:s.run P w=.ok cv w)(hv:VR ψ w S m A v cv)(nid:Nat) :
 Snd P ψ N w0 w S m A (execOp a.eval o) h v nid :=
 Snd.quiet i (by rw[hx];simp[hr]) hv nid
theorem bytesLess_eq:∀(x y:List UInt8),bytesLess x y=Op.bytesLess x y
 |_,[]=>by simp[bytesLess,Op.bytesLess]
 |[],_::_=>rfl
 |a::x,b::y=>by simp only[bytesLess,Op.bytesLess,bytesLess_eq x y];congr 1
theorem lK(s:List UInt8):(⟨⟨s⟩⟩:ByteArray).toList=s:=ByteArray.toList_eq _
theorem N9(x y:List UInt8):(⟨⟨x⟩⟩++⟨⟨y⟩⟩:ByteArray)=⟨⟨x++y⟩⟩:=by
 have:(⟨⟨x⟩⟩++⟨⟨y⟩⟩:ByteArray).data=⟨x++y⟩:=by rw[ByteArray.data_append];simp
 calc (⟨⟨x⟩⟩++⟨⟨y⟩⟩:ByteArray)=⟨(⟨⟨x⟩⟩++⟨⟨y⟩⟩:ByteArray).data⟩:=rfl
  _=_:=by rw[this]
theorem WR{op:BinOp}{t:TypeId}{k:IntKind}{x y:Int}{v:AV}(hv:Eh op k x y=some v)(hs:Ag op=false)(X Y:Operand) :
 ∃cv,(do eqGuard op t X Y (.int k x) (.int k y);binOp op t (.int k x) (.int k y):Sem Value).run P w=.ok cv w/\VR ψ w S m A v cv:=by
 cases op<;>simp[Ag]at hs<;>simp only[Eh]at hv;case quo=>split at hv<;>cases hv;refine⟨_,?_,.int _ _⟩;simp_all [binOp,Op.intDiv,eqGuard_at_int]
 case rem=>split at hv<;>cases hv;refine⟨_,?_,.int _ _⟩;simp_all [binOp,Op.intDiv,eqGuard_at_int]
 all_goals (cases hv;first | refine⟨_,?_,.int _ _⟩ | refine⟨_,?_,.bool _⟩)
 all_goals simp[binOp,Op.intArith,Op.intBits,Op.intCmp,eqGuard_at_int]
theorem ZF{op:BinOp}{t:TypeId}{k k':IntKind}{x:Int}{n:Nat}{v:AV}(hv:sU op k x n=some v)(X Y:Operand) :
 ∃cv,(do eqGuard op t X Y (.int k x) (.int k' n);binOp op t (.int k x) (.int k' n):Sem Value).run P w=.ok cv w/\VR ψ w S m A v cv:=by
 have h0:¬((n:Int)<0):=by omega
 cases op<;>simp only[sU]at hv<;>cases hv<;>refine⟨_,?_,.int _ _⟩<;>simp[binOp,Op.shift,eqGuard_at_int,h0]
theorem VQ{op:BinOp}{t:TypeId}{x y:List UInt8}{v:AV}(hv:Ey op x y=some v)(X Y:Operand) :
 ∃cv,(do eqGuard op t X Y (.string ⟨⟨x⟩⟩) (.string ⟨⟨y⟩⟩);binOp op t (.string ⟨⟨x⟩⟩) (.string ⟨⟨y⟩⟩):Sem Value).run P w=.ok cv w/\VR ψ w S m A v cv:=by
 have sz:∀s:List UInt8,(⟨⟨s⟩⟩:ByteArray).size=s.length:=λs=>rfl;cases op<;>simp only[Ey]at hv;case add =>
  split at hv
  ·rename_i hl;cases hv;refine⟨_,?_,.str _⟩;rw[eqGuard_at_string];simp only[pure_bind,binOp_string_add];have hl':(⟨⟨x⟩⟩:ByteArray).size+(⟨⟨y⟩⟩:ByteArray).size<=9223372036854775807:=by rw[sz,sz];simp only[maxStr]at hl;omega
   rw[run_string_add_sum w ⟨⟨x⟩⟩ ⟨⟨y⟩⟩ hl',N9]
  ·cases hv
 all_goals (cases hv)
 all_goals (refine⟨_,?_,.bool _⟩;rw[eqGuard_at_string];simp only[pure_bind,binOp_string_eql,binOp_string_neq,binOp_string_lss,binOp_string_leq,binOp_string_gtr,binOp_string_geq,Sem.run_pure,lK,bytesLess_eq])
theorem abx{op:BinOp}{t:TypeId}{x y:AV}{v:AV}(hv:zB op x y=some v){cx cy:Value}
 (hx:VR ψ w S m A x cx) (hy:VR ψ w S m A y cy) (X Y:Operand) :
 ∃cv,(do eqGuard op t X Y cx cy;binOp op t cx cy:Sem Value).run P w=.ok cv w/\VR ψ w S m A v cv:=by
 unfold zB at hv;split at hv
 ·cases hx.eF;cases hy.eF;by_cases hs:Ag op=true
  ·rw[qzq hs]at hv;obtain⟨n,hn,hv⟩:=aA hv;cases nat?_some hn;exact ZF hv X Y
  ·rw[qwx hs]at hv;split at hv
   ·rename_i hk;subst hk;exact WR hv (by simpa using hs) X Y
   ·cases hv
 ·cases hx.jl;cases hy.jl;exact VQ hv X Y
 ·cases hv
end
def uK(ψ:Nat->FuncId)(w:World)(S:Nat->Prop)(m:Nat->Nat×Nat)(A:Nat->Prop)(cs:List AV)(g off:Nat):Prop :=∀(j:Nat) (x:AV),cs[j]?=some x->x.cell=true/\∃u,w.cell? ⟨g,off+j,none⟩=some u/\VR ψ w S m A x u
section
variable {P:Program}{φ:FuncId->Option Nat}{ψ:Nat->FuncId}{N:Nat}{w0 w:World}{S:Nat->Prop}{m:Nat->Nat×Nat}{A:Nat->Prop}{h:Heap}{e:Env}{a:Act}
theorem uK.drop{cs:List AV}{g off:Nat}(hc:uK ψ w S m A cs g off)(k:Nat):uK ψ w S m A (cs.drop k) g (off+k):=by intro j x hx;rw[qVz]at hx;obtain⟨h1,u,h2,h3⟩:=hc _ _ hx;exact⟨h1,u,by rw[qdj];exact h2,h3⟩
theorem xX{t:TypeId}{ag:Bool}(ht:uq P t=some ag):(isAgg t).run P w=.ok ag w:=by unfold uq at ht;simp only[qyz]at ht;obtain⟨d,hd,rfl⟩:=ht;unfold isAgg;rw[Sem.run_bind,run_underlying hd];cases d<;>rfl
theorem fH{t:TypeId}{n:Nat}(ht:sizeT P t=some n):(sizeOf t).run P w=.ok n w:=by unfold sizeT at ht;simp only[qyz]at ht;obtain⟨i,hi,rfl⟩:=ht;simp[sizeOf,typeInfo,hi]
theorem kV(g off j:Nat):(⟨g,off,none⟩:Addr).add j=⟨g,off+j,none⟩:=Addr.add_lit g off j
theorem LJ{cs:List AV}{g off n:Nat}(hc:uK ψ w S m A cs g off)(hn:n<=cs.length) :
 ∃vs:Array Value,(loadCells ⟨g,off,none⟩ n).run P w=.ok vs w/\vs.size=n/\(∀(j:Nat) (x:AV),(cs.take n)[j]?=some x->VR ψ w S m A x (vs.getD j Go.undef)) /\
  ∀j,j<n->w.cell? ⟨g,off+j,none⟩=some (vs.getD j Go.undef):=by
 have hf:∀j,j<n->w.cell? ((⟨g,off,none⟩:Addr).add j)=some ((w.cell? ⟨g,off+j,none⟩).getD Go.undef):=by intro j hj;obtain⟨_,u,h2,_⟩:=hc j _ (qqj qqq);rw[kV,h2];rfl
 have hg:∀j,j<n->(((List.range n).map λj=>(w.cell? ⟨g,off+j,none⟩).getD Go.undef).toArray).getD j Go.undef=(w.cell? ⟨g,off+j,none⟩).getD Go.undef:=by intro j hj;rw[qjq];simp[hj]
 refine⟨_,run_loadCells w ⟨g,off,none⟩ n _ hf,by simp,?_,?_⟩
 ·intro j x hx;rw[qJz]at hx;by_cases hj:j<n
  ·rw[qzq hj]at hx;obtain⟨_,u,h2,h3⟩:=hc j x hx;rw[hg j hj,h2];exact h3
  ·rw[qwx hj]at hx;cases hx
 ·intro j hj;rw[hg j hj];have:=hf j hj;rwa [kV]at this
theorem wM{t:TypeId}{n:Nat}{ag:Bool}{cs:List AV}{g off:Nat}{v:AV}(hc:uK ψ w S m A cs g off)(hs:sizeT P t=some n)(hag:uq P t=some ag)
 (hl:qQ n ag cs=some v):∃cv,(loadVar t ⟨g,off,none⟩).run P w=.ok cv w/\VR ψ w S m A v cv:=by
 unfold qQ at hl;cases ag with
 |true=>
  simp only[qyx]at hl;by_cases hn:n<=cs.length
  ·rw[qzq hn]at hl;cases hl;obtain⟨vs,h1,h2,h3,_⟩:=LJ (P:=P) hc hn;refine⟨.agg vs,?_,.agg _ vs (by simp[h2];omega) (λj x hx=>?_) h3⟩
   ·unfold loadVar;rw[Sem.run_bind,xX hag];simp only[Result.andThen_ok,qyx,Sem.run_bind,fH hs,h1,Sem.run_pure]
   ·rw[qJz]at hx;by_cases hj:j<n
    ·rw[qzq hj]at hx;exact(hc j x hx).1
    ·rw[qwx hj]at hx;cases hx
  ·rw[qwx hn]at hl;cases hl
 |false=>
  simp only[qxj,qWq]at hl;cases cs with
  |nil=>cases hl
  |cons c r=>simp only[List.head?_cons,qwq]at hl;subst hl;obtain⟨_,u,h2,h3⟩:=hc 0 c qqz;refine⟨u,?_,h3⟩;unfold loadVar;rw[Sem.run_bind,xX hag];simp only[qcj]at h2;simp[h2]
theorem Inv.Yg(i:Inv ψ N w0 w S m A h){b z k:Nat}{es:List (List AV)}{mu:Bool}{cs:List AV}(hb:get h b=some (.cells z es mu))(hk:es[k]?=some cs) :
 uK ψ w S m A cs (m b).1 (k*(m b).2):=by
 obtain⟨h0,h1,c,t,h2,h3,h4⟩:=i.obj b _ hb;intro j x hx;obtain⟨h5,v,h6,h7⟩:=h4 k cs j x hk hx;refine⟨h5,v,?_,h7⟩;rw[h0];rw[cell_of_row w _ _ c t _ h2];exact h6
theorem abo{n:Nat}{ag:Bool}{p:AV}{c:Value}{t:TypeId}{v:AV}(i:Inv ψ N w0 w S m A h)(hp:VR ψ w S m A p c)(hs:sizeT P t=some n)(hag:uq P t=some ag)
 (hl:EL n ag h p=some v) :
 ∃cv,(Instr.loadAt t c).run P w=.ok cv w/\VR ψ w S m A v cv:=by
 cases p with
 |rop cs=>obtain⟨b,off,vs,rfl,hS,hcell,hrep⟩:=hp.rJ;have hc:uK ψ w S m A _ b off:=λj x hx=>⟨(hcell j x hx).1,vs j,(hcell j x hx).2,(hrep j x hx).open_⟩;obtain⟨cv,h1,h2⟩:=wM (P:=P) hc hs hag hl;exact⟨cv,by simp[Instr.loadAt,Instr.sureAddr,h1],h2⟩
 |ptr b k o=>
  obtain⟨hA,rfl⟩:=hp.lH;simp only[EL,loadAt]at hl;split at hl
  ·rename_i z es mu hb;obtain⟨cs,hk,hl⟩:=aA hl;obtain⟨cv,h1,h2⟩:=wM (P:=P) ((i.Yg hb hk).drop o) hs hag hl;exact⟨cv,by simp[Instr.loadAt,Instr.sureAddr,h1],h2⟩
  ·cases hl
 |_=>cases hl
theorem Snd.TM{x:Sem Next}{cv:Value}{v:AV}{w':World}(i:Inv ψ N w0 w S m A h){nid:Nat}(hn:¬A nid)(hr:x.run P w=.ok (.value cv) w')
 {c:Array Value}{t:TypeId}(hh:w'.heap=w.heap.push (.cells c t (0,0))) (ho:w'.os=w.os) (ht:w'.output=w.output) (z:Nat) (es:List (List AV))
 (hz:∀(k:Nat) (e:List AV),es[k]?=some e->e.length=z) (hsz:es.length*z<=c.size)
 (hvr:∀(k:Nat) (e:List AV) (j:Nat) (x:AV),es[k]?=some e->e[j]?=some x->x.cell=true/\∃u,c[k*z+j]?=some u/\VR ψ w S m A x u)
 (hcv:∀{w':World}{m':Nat->Nat×Nat}{A':Nat->Prop},m' nid=(w.heap.size,z)->A' nid->w'.heap[w.heap.size]?=some (.cells c t (0,0))->VR ψ w' S m' A' v cv) :
 Snd P ψ N w0 w S m A x (put h nid (.cells z es true)) v nid:=by
 have le:=Le.push (m:=m) hh i.sb hn (w.heap.size,z);have hnew:w'.heap[w.heap.size]?=some (.cells c t (0,0)):=by rw[hh];simp
 refine⟨cv,w',S,gI m nid (w.heap.size,z),sG A nid,.inl hr,hcv (by simp[gI]) (.inr rfl) hnew,i.push hh ho ht hn z _ ?_ rfl,le,λ_ _ hs=>hs,λb hb=>hb⟩;refine⟨rfl,hz,c,t,hnew,hsz,λk e j x hk hx=>?_⟩;obtain⟨h1,u,h2,h3⟩:=hvr k e j x hk hx;exact⟨h1,u,h2,h3.mono le⟩
theorem iE{t:TypeId}{z:List AV}(hz:zeroCells P t=some z):∃i zv,P.info? t=some i/\i.zero=some zv/\zv.cells.size=z.length/\i.size=z.length /\
 (∀(j:Nat) (x:AV),z[j]?=some x->x.cell=true)/\∀(j:Nat) (x:AV),z[j]?=some x->VR ψ w S m A x (zv.cells.getD j Go.undef):=by
 unfold zeroCells at hz;simp only[qvz,qzz]at hz;obtain⟨i,hi,zv,hzv,cs,hcs,hz⟩:=hz;split at hz
 ·rename_i hl;cases hz;obtain⟨h1,h2,h3⟩:=F7 (ψ:=ψ) (w:=w) (S:=S) (m:=m) (A:=A) hcs;exact⟨i,zv,hi,hzv,h1,hl.symm,h2,h3⟩
 ·cases hz
theorem getElem?_of_getD{vs:Array Value}{j:Nat}(hj:j<vs.size):vs[j]?=some (vs.getD j Go.undef):=by rw[qjq,qhz hj];rfl
theorem Snd.one{x:Sem Next}{w':World}(i:Inv ψ N w0 w S m A h){nid:Nat}(hn:¬A nid)(hr:x.run P w=.ok (.value (.pointer (some ⟨w.heap.size,0,none⟩))) w')
 {c:Array Value}{t:TypeId}(hh:w'.heap=w.heap.push (.cells c t (0,0))) (ho:w'.os=w.os) (ht:w'.output=w.output) (cs:List AV) (hsz:c.size=cs.length)
 (hcell:∀(j:Nat) (x:AV),cs[j]?=some x->x.cell=true) (hvr:∀(j:Nat) (x:AV),cs[j]?=some x->VR ψ w S m A x (c.getD j Go.undef)) :
 Snd P ψ N w0 w S m A x (put h nid (.cells cs.length [cs] true)) (.ptr nid 0 0) nid:=by
 refine Snd.TM i hn hr hh ho ht cs.length [cs] (λk e hk=>?_) (by simp[hsz]) (λk e j x hk hx=>?_) (λ{w' m' A'} hm hA _=>?_)
 ·cases k with
  |zero=>simp at hk;rw[<- hk]
  |succ k=>simp at hk
 ·cases k with
  |zero=>
   simp at hk;subst hk;have hj:j<c.size:=by rw[hsz];exact(qzj.1 hx).1
   exact⟨hcell j x hx,_,by rw[qrz,qXj];exact getElem?_of_getD hj,hvr j x hx⟩
  |succ k=>simp at hk
 ·have:=VR.ptr (ψ:=ψ) (w:=w') (S:=S) (m:=m') (A:=A') nid 0 0 hA;rw[hm]at this;simpa using this
end
theorem wP{i k j z:Nat}(h:i<k)(hj:j<z):i*z+j<k*z:=by have:=qKx z (show i+1<=k from h);rw[qYq,q5q]at this;omega
section
variable {P:Program}{φ:FuncId->Option Nat}{ψ:Nat->FuncId}{N:Nat}{w0 w:World}{S:Nat->Prop}{m:Nat->Nat×Nat}{A:Nat->Prop}{h:Heap}{e:Env}{a:Act}
theorem IJ{c:Array Value}{p:Nat}{vs:List Value}(hp:p+vs.length<=c.size)(q:Nat) :
 (c.toList.take p++vs++c.toList.drop (p+vs.length)).toArray[q]?=if p<=q/\q<p+vs.length then vs[q-p]? else c[q]?:=by
 have hl:c.toList.length=c.size:=by simp
 simp only[qcz,qdz,qdx,qbx,qJz,qVz,hl];have hm:min p c.size=p:=by omega
 rw[hm];by_cases h1:q<p
 ·have:¬(p<=q/\q<p+vs.length):=by omega
  rw[qwx this,qzq qqq,qzq h1,qzq h1];simp
 ·by_cases h2:q<p+vs.length
  ·have h3:p<=q/\q<p+vs.length:=⟨by omega,h2⟩;rw[qzq h2,qwx h1,qzq h3]
  ·have:¬(p<=q/\q<p+vs.length):=by omega
   rw[qwx this,qwx h2];rw[show p+vs.length+(q-(p+vs.length))=q by omega];simp
theorem wF{c:Array Value}{p:Nat}{vs:List Value}(hp:p+vs.length<=c.size):(c.toList.take p++vs++c.toList.drop (p+vs.length)).toArray.size=c.size:=by
 have hl:c.toList.length=c.size:=by simp
 simp only[List.size_toArray,qdx,qbx,qbj,hl];omega
theorem Snd.write{x:Sem Next}(i:Inv ψ N w0 w S m A h){b z:Nat}{es es':List (List AV)}(hb:get h b=some (.cells z es true)){p:Nat}{vs:List Value}
 (hp:p+vs.length<=es.length*z) {cv:Value}{v:AV}
 (hr:∀(c:Array Value) (t:TypeId),w.heap[(m b).1]?=some (.cells c t (0,0))->es.length*z<=c.size ->
  (x.run P w=.ok (.value cv) (w.setRow (m b).1 (c.toList.take p++vs++c.toList.drop (p+vs.length)).toArray) \/
   (x.run P w=.ok .skip (w.setRow (m b).1 (c.toList.take p++vs++c.toList.drop (p+vs.length)).toArray)/\cv=Go.undef)))
 (hl:es'.length=es.length) (hz:∀(k:Nat) (e:List AV),es'[k]?=some e->e.length=z)
 (hc:∀(k:Nat) (e:List AV) (j:Nat) (x:AV),es'[k]?=some e->e[j]?=some x ->
  (p<=k*z+j/\k*z+j<p+vs.length/\x.cell=true/\∃u,vs[k*z+j-p]?=some u/\VR ψ w S m A x u) \/
  (¬(p<=k*z+j/\k*z+j<p+vs.length)/\∃e',es[k]?=some e'/\e'[j]?=some x))
 (hv:∀{w':World},Le w S m A w' S m A->VR ψ w' S m A v cv) (nid:Nat) :
 Snd P ψ N w0 w S m A x (put h b (.cells z es' true)) v nid:=by
 obtain⟨h0,h1,c,t,h2,h3,h4⟩:=i.obj b _ hb;have hp':p+vs.length<=c.size:=qeq hp h3;have hg:=i.live b _ hb rfl;have hrow:∀c' t' fr,w.heap[(m b).1]?=some (.cells c' t' fr)->∃c'',(w.setRow (m b).1 (c.toList.take p++vs++c.toList.drop (p+vs.length)).toArray).heap[(m b).1]?=some (.cells c'' t' fr)/\c''.size=c'.size:=by intro c' t' fr hc';rw[h2]at hc';cases hc';exact⟨_,setRow_heap w _ c _ t (0,0) h2,wF hp'⟩
 have le:Le w S m A (w.setRow (m b).1 (c.toList.take p++vs++c.toList.drop (p+vs.length)).toArray) S m A :=Le.write hg.1 (λk hk=>setRow_other w _ k _ hk) qqz hrow;refine⟨cv,_,S,m,A,hr c t h2 h3,hv le,?_,le,λ_ _ hs=>hs,λ_ hb=>.inl hb⟩;refine i.write hb rfl rfl (λk hk=>setRow_other w _ k _ hk) qqz rfl rfl hrow ?_;refine⟨h0,hz,_,t,setRow_heap w _ c _ t (0,0) h2,by rw[wF hp',hl];exact h3,λk e j x hk hx=>?_⟩;rcases hc k e j x hk hx with⟨q1,q2,q3,u,q4,q5⟩|⟨q1,e',q2,q3⟩
 ·refine⟨q3,u,?_,q5.mono le⟩;rw[IJ hp',qzq ⟨q1,q2⟩];exact q4
 ·obtain⟨h5,u,h6,h7⟩:=h4 k e' j x q2 q3;refine⟨h5,u,?_,h7.mono le⟩;rw[IJ hp',qwx q1];exact h6
theorem length_splice{cs v:List AV}{o:Nat}(hl:o+v.length<=cs.length):(splice cs o v).length=cs.length:=by unfold splice;simp only[qdx,qbx,qbj];omega
theorem J5{cs v:List AV}{o:Nat}(hl:o+v.length<=cs.length)(j:Nat) :
 (splice cs o v)[j]?=if o<=j/\j<o+v.length then v[j-o]? else cs[j]?:=by
 unfold splice;simp only[qdz,qbx,qJz,qVz];have hm:min o cs.length=o:=by omega
 rw[hm];by_cases h1:j<o
 ·have:¬(o<=j/\j<o+v.length):=by omega
  rw[qwx this,qzq h1,qzq h1]
 ·by_cases h2:j<o+v.length
  ·rw[qwx h1,qzq qqq,qzq ⟨by omega,h2⟩]
  ·have:¬(o<=j/\j<o+v.length):=by omega
   rw[qwx h1,qwx qqq,qwx this];congr 1;omega
theorem Xl{n:Nat}{p xv:AV}{cp cx:Value}{t:TypeId}{v:AV}{u:Upd}{o:Oper}{pa pv:Operand}(i:Inv ψ N w0 w S m A h)(ho:o.op=.store t pa pv)
 (hpa:a.eval pa=cp) (hpv:a.eval pv=cx) (hp:VR ψ w S m A p cp) (hx:VR ψ w S m A xv cx)
 (hs:sizeT P t=some n) (hl:(if xv.cells.length=n/\xv.cells.all AV.cell=true then BH n h xv.cells p else none)=some (v,u)) (nid:Nat):Snd P ψ N w0 w S m A (execOp a.eval o) (aS h u) v nid:=by
 split at hl
 ·rename_i hc;obtain⟨hn,hall⟩:=hc;obtain⟨q1,q2,q3⟩:=hx.cells hall;cases p with
  |ptr b k off=>
   obtain⟨hA,rfl⟩:=hp.lH;simp only[BH,storeAt]at hl;split at hl
   ·rename_i z es mu hb;split at hl
    ·rename_i hmu;subst hmu;obtain⟨cs,hk,hl⟩:=aA hl;split at hl
     ·rename_i hfit;cases hl;obtain⟨h0,h1,_⟩:=i.obj b _ hb;have hcz:=h1 k cs hk;have hkl:k<es.length:=(qzj.1 hk).1;have hle:(k+1)*z<=es.length*z:=qKx z hkl;rw[qYq,q5q]at hle;have hvl:cx.cells.toList.length=n:=by simp[q1,hn]
      have hfit':off+xv.cells.length<=cs.length:=by omega
      refine Snd.write (z:=z) (p:=k*z+off) (vs:=cx.cells.toList) (cv:=Go.undef) i hb qqq (λc t' hc hsz=>.inr ⟨?_,rfl⟩) qqz (λk' e' he=>?_) (λk' e' j y he hy=>?_) (λ_=>.tup [] #[] rfl qqz) nid
      ·have hst:=run_storeCells_at P (m b).1 (k*z+off) t' cx.cells.toList 0 c w hc (by simp only[hvl];omega) q3;have h0':(m b).2=z:=h0;simp only[execOp,ho,hpa,hpv,Instr.storeAt,Instr.sureAddr,storeVar,h0',Sem.run_bind,Sem.run_pure,Result.andThen_ok,fH hs,Sem.run_ite,run_stuck];rw[qwx (by simp[q1,hn])];simp only[qcj]at hst;simp[hst]
      ·rw[qgq]at he;by_cases hkk:k=k'
       ·subst hkk;rw[qzq rfl,qzq hkl]at he;cases he;rw[length_splice hfit'];exact hcz
       ·rw[qwx hkk]at he;exact h1 k' e' he
      ·rw[qgq]at he;by_cases hkk:k=k'
       ·subst hkk;rw[qzq rfl,qzq hkl]at he;cases he;rw[J5 hfit']at hy;by_cases hr:off<=j/\j<off+xv.cells.length
        ·rw[qzq hr]at hy;left;refine⟨by omega,by omega,?_,cx.cells.getD (j-off) Go.undef,?_,q2 _ _ hy⟩
         ·exact qkz.1 hall _ (qwj hy)
         ·rw[show k*z+j-(k*z+off)=j-off by omega];have hjs:j-off<cx.cells.size:=by omega
          rw[qcq];exact getElem?_of_getD hjs
        ·rw[qwx hr]at hy;right;refine⟨by omega,cs,hk,hy⟩
       ·rw[qwx hkk]at he;right;have hj:j<z:=by rw[<- h1 k' e' he];exact(qzj.1 hy).1
        refine⟨?_,e',he,hy⟩;rcases Nat.lt_or_gt_of_ne hkk with hlt | hgt
        ·have:=qKx z (show k+1<=k' from hlt);rw[qYq,q5q]at this;omega
        ·have:=wP hgt hj;omega
     ·cases hl
    ·cases hl
   ·cases hl
  |_=>cases hl
 ·cases hl
end
section
variable {P:Program}{φ:FuncId->Option Nat}{ψ:Nat->FuncId}{N:Nat}{w0 w:World}{S:Nat->Prop}{m:Nat->Nat×Nat}{A:Nat->Prop}{h:Heap}{e:Env}{a:Act}
def CsR(ψ:Nat->FuncId)(w:World)(S:Nat->Prop)(m:Nat->Nat×Nat)(A:Nat->Prop)(cs:List AV)(vs:Array Value):Prop :=vs.size=cs.length/\∀(j:Nat) (x:AV),cs[j]?=some x->x.cell=true/\VR ψ w S m A x (vs.getD j Go.undef)
theorem Kt(off:Nat):∀(l:List Value) (k:Nat) (cells:Array Value),off+k+l.length<=cells.size ->
 ((l.zipIdx k).foldl (λcs (x:Value×Nat)=>cs.setIfInBounds (off+x.2) x.1) cells).size=cells.size /\
 ∀q,((l.zipIdx k).foldl (λcs (x:Value×Nat)=>cs.setIfInBounds (off+x.2) x.1) cells)[q]?=if off+k<=q/\q<off+k+l.length then l[q-(off+k)]? else cells[q]?
 |[],k,cells,_=>by refine⟨rfl,λq=>?_⟩;rw[qwx (by simp only[qJx];omega)];rfl
 |v::l,k,cells,hl=>by
  simp only[qQx]at hl;obtain⟨h1,h2⟩:=Kt off l (k+1) (cells.setIfInBounds (off+k) v) qqx;simp only[List.zipIdx_cons,q0q];refine⟨by rw[h1];simp,λq=>?_⟩;rw[h2 q];by_cases hq:q=off+k
  ·subst hq;have hlt:off+k<cells.size:=by omega
   rw[qwx qqq,qzq qqz];simp[hlt]
  ·by_cases hr:off+(k+1)<=q/\q<off+(k+1)+l.length
   ·rw[qzq hr,qzq qqx];rw[show q-(off+k)=(q-(off+(k+1)))+1 by omega];simp
   ·rw[qwx hr,qwx qqx];rw[qbq qqq]
theorem F8(vs:Array Value)(off:Nat)(cells:Array Value) :
 vs.zipIdx.foldl (λcs (x:Value×Nat)=>cs.setIfInBounds (off+x.2) x.1) cells=(vs.toList.zipIdx 0).foldl (λcs (x:Value×Nat)=>cs.setIfInBounds (off+x.2) x.1) cells:=by
 rw[<- Array.foldl_toList];simp
theorem CsR.fill{cs:List AV}{vs:Array Value}(hc:CsR ψ w S m A cs vs){x:AV}{c:Value}(hx:VR ψ w S m A x c)(hall:x.cells.all AV.cell=true){off:Nat}(hl:off+x.cells.length<=cs.length) :
 CsR ψ w S m A (splice cs off x.cells) (c.cells.zipIdx.foldl (λcs (x:Value×Nat)=>cs.setIfInBounds (off+x.2) x.1) vs):=by
 obtain⟨q1,q2,q3⟩:=hx.cells hall;have hsz:c.cells.toList.length=x.cells.length:=by simp[q1]
 rw[F8];obtain⟨h1,h2⟩:=Kt off c.cells.toList 0 vs (by rw[hc.1];omega);refine⟨by rw[h1,length_splice hl,hc.1],λj y hy=>?_⟩;rw[J5 hl]at hy;rw[qjq,h2 j];simp only[qcj,hsz];by_cases hr:off<=j/\j<off+x.cells.length
 ·rw[qzq hr]at hy |-;refine⟨qkz.1 hall _ (qwj hy),?_⟩;have:=q2 _ _ hy;rw[qjq]at this;simpa using this
 ·rw[qwx hr]at hy |-;have:=hc.2 j y hy;rw[qjq]at this;exact this
theorem Md(cx:Cx P φ ψ N w0 w S m A h e a)(fs:Nat->Option (Nat×Nat)):∀(ps:List (Nat×Operand)) (ps':List (Nat×Nat×Opd)) (cs cs':List AV) (vs:Array Value),
 zQ φ fs ps=some ps'->qH e cs ps'=some cs'->CsR ψ w S m A cs vs ->
 ∃vs',Instr.fill fs vs (ps.map λx=>(x.1,a.eval x.2))=some vs'/\CsR ψ w S m A cs' vs'
 |[],ps',cs,cs',vs,h1,h2,h3=>by simp only[zQ]at h1;cases h1;simp only[qH]at h2;cases h2;exact⟨vs,rfl,h3⟩
 |(i,x)::r,ps',cs,cs',vs,h1,h2,h3=>by
  simp only[zQ,qvz,qzz]at h1;obtain⟨⟨off,n⟩,hf,y,hy,ys,hys,h1⟩:=h1;cases h1;simp only[qH]at h2;split at h2
  ·rename_i hc;obtain⟨c1,c2,c3⟩:=hc;have hx:=cx.opd hy;obtain⟨q1,_,_⟩:=hx.cells c3;obtain⟨vs',h4,h5⟩:=Md cx fs r ys _ cs' _ hys h2 (h3.fill hx c3 qqq);refine⟨vs',?_,h5⟩;simp only[qvj,Instr.fill,hf];rw[qwx (by rw[h3.1];simp;omega)];exact h4
  ·cases h2
theorem aa9(cx:Cx P φ ψ N w0 w S m A h e a){o:Oper}{t:TypeId}{ps:Array (Nat×Operand)}(ho:o.op=.build t ps){cop:COp}(hc:cOp P φ (.build t ps)=some cop)
 {v:AV}{u:Upd}{nid:Nat}(hs:aP cop e h nid=some (v,u)):Snd P ψ N w0 w S m A (execOp a.eval o) (aS h u) v nid:=by
 simp only[cOp,qvz,qzz]at hc;obtain⟨z,hz,d,hd,hc⟩:=hc;obtain⟨it,zv,hit,hzv,z1,z2,z3,z4⟩:=iE (ψ:=ψ) (w:=w) (S:=S) (m:=m) (A:=A) hz;have hzr:CsR ψ w S m A z zv.cells:=⟨z1,λj x hx=>⟨z3 j x hx,z4 j x hx⟩⟩;have fin:∀(fs:Nat->Option (Nat×Nat)) (ps':List (Nat×Nat×Opd)),zQ φ fs ps.toList=some ps'->cop=.build z ps' ->
  (∀parts,Instr.fill fs zv.cells parts=P.built t parts)->Snd P ψ N w0 w S m A (execOp a.eval o) (aS h u) v nid:=by
  intro fs ps' hp hcop hb;subst hcop;simp only[aP,ET]at hs;obtain⟨cs',h1,h2⟩:=aH hs;cases h2;obtain⟨vs',h3,h4⟩:=Md cx fs ps.toList ps' z cs' zv.cells hp h1 hzr;rw[hb]at h3;refine Snd.quiet (cv:=.agg vs') cx.inv ?_ (.agg cs' vs' h4.1 (λj x hx=>(h4.2 j x hx).1) λj x hx=>(h4.2 j x hx).2) nid;have hr:=run_build w t (ps.map λx=>(x.1,a.eval x.2)) vs' (by simpa using h3);simp only[execOp,ho,Sem.run_bind];rw[hr];rfl
 split at hc
 ·rename_i fields;simp only[qzz]at hc;obtain⟨pl,hpl,ps',hp,hc⟩:=hc;cases hc;refine fin (λi=>pl[i]?) ps' hp rfl λparts=>?_;unfold Program.built;simp only[hit,hd,hzv,hpl];simp
 ·rename_i len el;simp only[qzz]at hc;obtain⟨n,hn,ps',hp,hc⟩:=hc;cases hc;refine fin (λi=>some (i*n,n)) ps' hp rfl λparts=>?_;unfold sizeT at hn;simp only[qyz]at hn;obtain⟨ie,hie,rfl⟩:=hn;unfold Program.built;simp only[hit,hd,hzv,hie]
 ·cases hc
structure EsR(ψ:Nat->FuncId)(w:World)(S:Nat->Prop)(m:Nat->Nat×Nat)(A:Nat->Prop)(z:Nat)(es:List (List AV))(vs:Array Value):Prop where
 size:vs.size=es.length*z
 wide:∀(k:Nat) (e:List AV),es[k]?=some e->e.length=z
 cell:∀(k:Nat) (e:List AV) (j:Nat) (x:AV),es[k]?=some e->e[j]?=some x->x.cell=true/\VR ψ w S m A x (vs.getD (k*z+j) Go.undef)
theorem EsR.at_{z:Nat}{es:List (List AV)}{vs:Array Value}(hr:EsR ψ w S m A z es vs){k:Nat}{e:List AV}{j:Nat}{x:AV}(he:es[k]?=some e)(hx:e[j]?=some x) :
 x.cell=true/\∃u,vs[k*z+j]?=some u/\VR ψ w S m A x u:=by
 obtain⟨h1,h2⟩:=hr.cell k e j x he hx;have hk:k<es.length:=(qzj.1 he).1;have hj:j<z:=by rw[<- hr.wide k e he];exact(qzj.1 hx).1
 have:=wP hk hj;exact⟨h1,_,getElem?_of_getD (by rw[hr.size];exact this),h2⟩
theorem EsR.fill{z:Nat}{es:List (List AV)}{vs:Array Value}(hr:EsR ψ w S m A z es vs){x:AV}{c:Value}(hx:VR ψ w S m A x c)(hall:x.cells.all AV.cell=true){i:Nat}(hi:i<es.length)(hz:x.cells.length=z) :
 EsR ψ w S m A z (es.set i x.cells) (c.cells.zipIdx.foldl (λcs (x:Value×Nat)=>cs.setIfInBounds (i*z+x.2) x.1) vs):=by
 obtain⟨q1,q2,q3⟩:=hx.cells hall;have hsz:c.cells.toList.length=z:=by simp[q1,hz]
 have hfit:i*z+z<=vs.size:=by rw[hr.size];have:=qKx z (show i+1<=es.length from hi);rw[qYq,q5q]at this;exact this
 rw[F8];obtain⟨h1,h2⟩:=Kt (i*z) c.cells.toList 0 vs qqq;refine⟨by rw[h1,hr.size];simp,λk e he=>?_,λk e j y he hy=>?_⟩
 ·rw[qgq]at he;by_cases hk:i=k
  ·subst hk;rw[qzq rfl,qzq hi]at he;cases he;exact hz
  ·rw[qwx hk]at he;exact hr.wide k e he
 ·rw[qjq,h2];simp only[qcj,hsz];rw[qgq]at he;by_cases hk:i=k
  ·subst hk;rw[qzq rfl,qzq hi]at he;cases he;have hj:j<z:=by rw[<- hz];exact(qzj.1 hy).1
   rw[qzq qqq,show i*z+j-i*z=j by omega];refine⟨qkz.1 hall _ (qwj hy),?_⟩;have:=q2 _ _ hy;rw[qjq]at this;simpa using this
  ·rw[qwx hk]at he;have hj:j<z:=by rw[<- hr.wide k e he];exact(qzj.1 hy).1
   have hne:¬(i*z<=k*z+j/\k*z+j<i*z+z):=by
    rcases Nat.lt_or_gt_of_ne hk with hlt | hgt
    ·have:=qKx z (show i+1<=k from hlt);rw[qYq,q5q]at this;omega
    ·have:=wP hgt hj;omega
   rw[qwx hne];have:=hr.cell k e j y he hy;rw[qjq]at this;exact this
theorem MZ(cx:Cx P φ ψ N w0 w S m A h e a)(z:Nat):∀(ps:List (Nat×Operand)) (ps':List (Nat×Opd)) (es es':List (List AV)) (vs:Array Value),
 JG φ ps=some ps'->lG e z es ps'=some es'->EsR ψ w S m A z es vs ->
 ∃vs',Instr.fill (λi=>some (i*z,z)) vs (ps.map λx=>(x.1,a.eval x.2))=some vs'/\EsR ψ w S m A z es' vs'
 |[],ps',es,es',vs,h1,h2,h3=>by simp only[JG]at h1;cases h1;simp only[lG]at h2;cases h2;exact⟨vs,rfl,h3⟩
 |(i,x)::r,ps',es,es',vs,h1,h2,h3=>by
  simp only[JG,qvz,qzz]at h1;obtain⟨y,hy,ys,hys,h1⟩:=h1;cases h1;simp only[lG]at h2;split at h2
  ·rename_i hc;obtain⟨c1,c2,c3⟩:=hc;have hx:=cx.opd hy;obtain⟨q1,_,_⟩:=hx.cells c3;obtain⟨vs',h4,h5⟩:=MZ cx z r ys _ es' _ hys h2 (h3.fill hx c3 c2 c1);refine⟨vs',?_,h5⟩;simp only[qvj,Instr.fill];have hb:=qKx z (show i+1<=es.length from c2);rw[qYq,q5q]at hb;rw[qwx (by rw[h3.size];simp;omega)];exact h4
  ·cases h2
theorem Fp{z:List AV}{zc:Array Value}(h1:zc.size=z.length)(h3:∀(j:Nat) (x:AV),z[j]?=some x->x.cell=true)
 (h4:∀(j:Nat) (x:AV),z[j]?=some x->VR ψ w S m A x (zc.getD j Go.undef)) (len:Nat) :
 EsR ψ w S m A z.length (List.replicate len z) ((Array.range (len*z.length)).map (zc[· % zc.size]!)):=by
 refine⟨by simp,λk e he=>?_,λk e j x he hx=>?_⟩
 ·rw[q1j]at he;split at he
  ·cases he;rfl
  ·cases he
 ·rw[q1j]at he;split at he
  ·rename_i hk;cases he;have hj:j<z.length:=(qzj.1 hx).1;have hlt:=wP hk hj;refine⟨h3 j x hx,?_⟩;have:((Array.range (len*z.length)).map (zc[· % zc.size]!)).getD (k*z.length+j) Go.undef=zc.getD j Go.undef:=by
    rw[qjq];simp only[q7j,Array.getElem?_range,hlt,qyx,qhq,qKq];rw[h1,qtq,Nat.mul_add_mod,Nat.mod_eq_of_lt hj];rw[qjq];have hj':j<zc.size:=by omega
    simp[hj']
   rw[this];exact h4 j x hx
  ·cases he
theorem Snd.Yh{x:Sem Next}{w':World}(i:Inv ψ N w0 w S m A h){nid:Nat}(hn:¬A nid){len cap:Nat}(hr:x.run P w=.ok (.value (.slice (some ⟨w.heap.size,0,none⟩) len cap)) w')
 {c:Array Value}{t:TypeId}(hh:w'.heap=w.heap.push (.cells c t (0,0))) (ho:w'.os=w.os) (ht:w'.output=w.output) {z:Nat}{es:List (List AV)}{cs:Array Value}(he:EsR ψ w S m A z es cs)
 (hc:∀q,q<cs.size->c[q]?=cs[q]?) (hcs:cs.size<=c.size) {len' cap':Nat}{ex:Bool}(hl:len'=len) (hlc:len<=cap) (hcap:cap'<=cap) (hex:ex=true->cap=cap') (hsz:cap*z<=c.size) :
 Snd P ψ N w0 w S m A x (put h nid (.cells z es true)) (.sl nid z 0 len' cap' ex) nid:=by
 subst hl;refine Snd.TM i hn hr hh ho ht z es he.wide (by rw[<- he.size];exact hcs) (λk e j x hk hx=>?_) (λ{w' m' A'} hm hA hb=>?_)
 ·obtain⟨h1,u,h2,h3⟩:=he.at_ hk hx;exact⟨h1,u,by rw[hc _ ((qWz.1 h2).1)];exact h2,h3⟩
 ·have:=VR.sl (ψ:=ψ) (w:=w') (S:=S) (m:=m') (A:=A') nid z 0 len' cap' ex cap hA (by rw[hm]) hlc hcap hex ⟨c,t,(0,0),by rw[hm];exact hb,by rw[qXj];exact hsz⟩;rw[hm]at this;simpa using this
theorem Xy(cx:Cx P φ ψ N w0 w S m A h e a){o:Oper}{t:TypeId}{len:Nat}{ps:Array (Nat×Operand)}(ho:o.op=.buildSlice t len ps){cop:COp}(hc:cOp P φ (.buildSlice t len ps)=some cop)
 {v:AV}{u:Upd}{nid:Nat}(hn:¬A nid) (hs:aP cop e h nid=some (v,u)):Snd P ψ N w0 w S m A (execOp a.eval o) (aS h u) v nid:=by
 simp only[cOp,qvz,qzz]at hc;obtain⟨d,hd,hc⟩:=hc;split at hc
 ·rename_i el;simp only[qzz]at hc;obtain⟨z,hz,hc⟩:=hc;split at hc
  ·cases hc
  ·rename_i hsm;simp only[qzz]at hc;obtain⟨ps',hp,hc⟩:=hc;cases hc;obtain⟨it,zv,hit,hzv,z1,z2,z3,z4⟩:=iE (ψ:=ψ) (w:=w) (S:=S) (m:=m) (A:=A) hz;simp only[aP,DY]at hs;obtain⟨es',h1,h2⟩:=aH hs;cases h2;obtain⟨vs',h3,h4⟩:=MZ cx z.length ps.toList ps' _ es' _ hp h1 (Fp z1 z3 z4 len);have hlen:es'.length=len:=by
    have:∀(ps:List (Nat×Opd)) (es es':List (List AV)),lG e z.length es ps=some es'->es'.length=es.length:=by
     intro ps;induction ps with
     |nil=>intro es es' hf;simp only[lG]at hf;cases hf;rfl
     |cons p r ih=>
      intro es es' hf;obtain⟨i,x⟩:=p;simp only[lG]at hf;split at hf
      ·rw[ih _ _ hf];simp
      ·cases hf
    rw[this _ _ _ h1];simp
   by_cases hl0:len=0
   ·subst hl0;have hes:es'=[]:=List.eq_nil_of_length_eq_zero hlen;subst hes;have hv0:vs'=#[]:=by have:=h4.size;simp at this;exact this
    subst hv0;have hpe:ps.toList.map (λx=>(x.1,a.eval x.2))=(ps.map λx=>(x.1,a.eval x.2)).toList:=by simp
    refine Snd.Yh (w':=w.alloc (.cells #[] el)) (c:=#[]) (t:=el) (cs:=#[]) cx.inv hn (len:=0) (cap:=0) ?_ rfl rfl rfl h4 qqz qqz rfl qqz qqz qqz qqz;simp only[execOp,ho,Sem.run_bind];have h3':Instr.fill (λi=>some (i*it.size,it.size)) #[] (ps.toList.map λx=>(x.1,a.eval x.2))=some #[]:=by have hr0:Array.range 0=#[]:=rfl;rw[z2];rw[qrz,hr0,Array.map_empty]at h3;exact h3
    have hr0:Array.range 0=#[]:=rfl;simp only[Instr.buildSlice,run_underlying hd,Sem.run_bind,Result.andThen_ok,sizeOf,typeInfo,hit,run_program,Sem.run_pure,qrz];simp[hr0,h3',Go.newRow]
   ·have hpe:ps.toList.map (λx=>(x.1,a.eval x.2))=(ps.map λx=>(x.1,a.eval x.2)).toList:=by simp
    have hzz:z.length≠0:=λhz0=>hsm (.inl hz0);have hne:len*z.length≠0:=Nat.mul_ne_zero hl0 hzz;have hr:=run_buildSlice (P:=P) w t el len (ps.map λx=>(x.1,a.eval x.2)) vs' it zv hd hit hzv (by rw[z2];exact λhg=>hsm (.inr hg)) (by rw[z2];exact hne) (by rw[z2,<- hpe];exact h3);refine Snd.Yh (w':=w.alloc (.cells vs' el)) (c:=vs') (t:=el) (cs:=vs') cx.inv hn (len:=len) (cap:=len) ?_ rfl rfl rfl h4 (λ_ _=>rfl) (qxx _) rfl (qxx _) (qxx _) (λ_=>rfl) (by rw[h4.size,hlen];exact qxx _);simp only[execOp,ho,Sem.run_bind];rw[hr];rfl
 ·cases hc
end
section
variable {P:Program}{φ:FuncId->Option Nat}{ψ:Nat->FuncId}{N:Nat}{w0 w:World}{S:Nat->Prop}{m:Nat->Nat×Nat}{A:Nat->Prop}{h:Heap}{e:Env}{a:Act}{o:Oper}
 {v:AV}{u:Upd}{nid:Nat}
abbrev Ok(P:Program)(φ:FuncId->Option Nat)(ψ:Nat->FuncId)(N:Nat)(w0 w:World)(S:Nat->Prop)(m:Nat->Nat×Nat)(A:Nat->Prop)(h:Heap)(e:Env)(a:Act)(o:Oper):Prop :=∀cop v u nid,cOp P φ o.op=some cop->aP cop e h nid=some (v,u)->¬A nid->Snd P ψ N w0 w S m A (execOp a.eval o) (aS h u) v nid
theorem ajV(cx:Cx P φ ψ N w0 w S m A h e a){x:Operand}(ho:o.op=.move x\/o.op=.assign x):Ok P φ ψ N w0 w S m A h e a o:=by
 intro cop v u nid hc hs hn;have hc':(fJ φ x).map COp.mv=some cop:=by rcases ho with ho | ho<;>rw[ho]at hc<;>exact hc
 simp only[qyz]at hc';obtain⟨y,hy,rfl⟩:=hc';simp only[aP,sMv]at hs;cases hs;refine Snd.quiet cx.inv ?_ (cx.opd hy) nid;rcases ho with ho | ho<;>simp[execOp,ho]
theorem agK(cx:Cx P φ ψ N w0 w S m A h e a){c x y:Operand}(ho:o.op=.pick c x y):Ok P φ ψ N w0 w S m A h e a o:=by
 intro cop v u nid hc hs hn;rw[ho]at hc;simp only[cOp,qvz,qzz,qwq]at hc;obtain⟨c',hc',x',hx',y',hy',rfl⟩:=hc;simp only[aP,Fv]at hs;split at hs
 ·rename_i t ht;cases hs;have h1:=cx.opd hc';rw[ht]at h1;have h2:=h1.iG;refine Snd.quiet (cv:=if t then a.eval x else a.eval y) cx.inv ?_ ?_ nid
  ·simp only[execOp,ho,h2,asBool,Sem.run_bind,Sem.run_pure,Result.andThen_ok]
  ·cases t
   ·exact cx.opd hy'
   ·exact cx.opd hx'
 ·cases hs
theorem ab3(cx:Cx P φ ψ N w0 w S m A h e a){t:TypeId}(ho:o.op=.alloc t):Ok P φ ψ N w0 w S m A h e a o:=by intro cop v u nid hc hs hn;rw[ho]at hc;simp only[cOp,qyz]at hc;obtain⟨z,hz,rfl⟩:=hc;simp only[aP,afg]at hs;cases hs;obtain⟨it,zv,hit,hzv,z1,z2,z3,z4⟩:=iE (ψ:=ψ) (w:=w) (S:=S) (m:=m) (A:=A) hz;refine Snd.one (w':=w.alloc (.cells zv.cells t)) (c:=zv.cells) (t:=t) cx.inv hn ?_ rfl rfl rfl z z1 z3 z4;simp[execOp,ho,Instr.alloc,zeroValue,typeInfo,hit,hzv,Go.newVar,Go.newRow]
theorem amH(cx:Cx P φ ψ N w0 w S m A h e a){t:TypeId}{x:Operand}(ho:o.op=.box t x):Ok P φ ψ N w0 w S m A h e a o:=by
 intro cop v u nid hc hs hn;rw[ho]at hc;simp only[cOp,qyz]at hc;obtain⟨y,hy,rfl⟩:=hc;simp only[aP,agD,boxed]at hs;split at hs
 ·rename_i hall;cases hs;obtain⟨q1,q2,q3⟩:=(cx.opd hy).cells hall;refine Snd.one (w':=w.alloc (.cells (a.eval x).cells t)) (c:=(a.eval x).cells) (t:=t) cx.inv hn ?_ rfl rfl rfl _ q1 (λj y hj=>qkz.1 hall _ (qwj hj)) q2;simp[execOp,ho,Instr.box,Go.newVar,Go.newRow]
 ·cases hs
theorem ajf(cx:Cx P φ ψ N w0 w S m A h e a){t:TypeId}{x:Operand}(ho:o.op=.load t x):Ok P φ ψ N w0 w S m A h e a o:=by intro cop v u nid hc hs hn;rw[ho]at hc;simp only[cOp,qvz,qzz,qwq]at hc;obtain⟨n,hn',ag,hag,y,hy,rfl⟩:=hc;simp only[aP,aev]at hs;obtain⟨key,rfl⟩:=dZ hs;obtain⟨cv,h1,h2⟩:=abo (P:=P) cx.inv (cx.opd hy) hn' hag key;exact Snd.val cx.inv (by simp[execOp,ho]) h1 h2 nid
theorem ae0(cx:Cx P φ ψ N w0 w S m A h e a){t:TypeId}{p x:Operand}(ho:o.op=.store t p x):Ok P φ ψ N w0 w S m A h e a o:=by intro cop v u nid hc hs hn;rw[ho]at hc;simp only[cOp,qvz,qzz,qwq]at hc;obtain⟨n,hn',y,hy,z,hz,rfl⟩:=hc;simp only[aP,Qu]at hs;exact Xl cx.inv ho rfl rfl (cx.opd hy) (cx.opd hz) hn' hs nid
theorem Z9(cx:Cx P φ ψ N w0 w S m A h e a){x:Operand}(ho:o.op=.nilCheck x):Ok P φ ψ N w0 w S m A h e a o:=by
 intro cop v u nid hc hs hn;rw[ho]at hc;simp only[cOp,qyz]at hc;obtain⟨y,hy,rfl⟩:=hc;have hx:=cx.opd hy;simp only[aP,mZ]at hs;split at hs
 ·rename_i b k off he;cases hs;rw[he]at hx;obtain⟨_,h2⟩:=hx.lH;exact Snd.quiet cx.inv (by simp[execOp,ho,h2]) (h2 ▸ hx) nid
 ·rename_i cs he;cases hs;rw[he]at hx;obtain⟨b,off,vs,h2,_⟩:=hx.rJ;exact Snd.quiet cx.inv (by simp[execOp,ho,h2]) (h2 ▸ hx) nid
 ·rename_i f cs he;cases hs;rw[he]at hx;obtain⟨vs,h2,_⟩:=hx.Ep;exact Snd.quiet cx.inv (by simp[execOp,ho,h2]) (h2 ▸ hx) nid
 ·cases hs
theorem acP{x y:AV}{b:Bool}(hb:XQ x y=some b){cx cy:Value}(hx:VR ψ w S m A x cx)(hy:VR ψ w S m A y cy){t el:TypeId}(ht:P.underlying t=some (.slice el))(d:Nat) :
 (Op.equalIn (d+1) t cx cy).run P w=.ok b w/\∀op X Y,eqGuard op t X Y cx cy=pure ():=by
 unfold XQ at hb;split at hb<;>cases hb
 ·cases hx.gQ;cases hy.gQ;exact⟨by simp[Op.equalIn,run_underlying ht],λop X Y=>eqGuard_at_slice ..⟩
 ·cases hx.gQ;rcases hy.pW with⟨b',off,cap,cs,rfl,_⟩|⟨_,ad,_,rfl,_⟩ <;>
  exact⟨by simp[Op.equalIn,run_underlying ht],λop X Y=>eqGuard_at_slice ..⟩
 ·cases hx.gQ;obtain⟨cc,rfl,_⟩:=hy.lZ;exact⟨by simp[Op.equalIn,run_underlying ht],λop X Y=>eqGuard_at_slice ..⟩
 ·cases hy.gQ;rcases hx.pW with⟨b',off,cap,cs,rfl,_⟩|⟨_,ad,_,rfl,_⟩ <;>
  exact⟨by simp[Op.equalIn,run_underlying ht],λop X Y=>eqGuard_at_slice ..⟩
 ·cases hy.gQ;obtain⟨cc,rfl,_⟩:=hx.lZ;exact⟨by simp[Op.equalIn,run_underlying ht],λop X Y=>eqGuard_at_slice ..⟩
theorem acH{x y:AV}{b:Bool}(hb:eqFn x y=some b){cx cy:Value}(hx:VR ψ w S m A x cx)(hy:VR ψ w S m A y cy){t:TypeId}{ps rs:Array TypeId}{vd:Bool}(ht:P.underlying t=some (.func ps rs vd))(d:Nat) :
 (Op.equalIn (d+1) t cx cy).run P w=.ok b w/\∀op X Y,eqGuard op t X Y cx cy=pure ():=by
 unfold eqFn at hb;split at hb<;>cases hb
 ·cases hx.Cc;cases hy.Cc;exact⟨by simp[Op.equalIn,run_underlying ht],λop X Y=>eqGuard_at_nilFunc ..⟩
 ·cases hx.Cc;obtain⟨vs,rfl,_⟩:=hy.Ep;exact⟨by simp[Op.equalIn,run_underlying ht],λop X Y=>eqGuard_at_nilFunc ..⟩
 ·cases hy.Cc;obtain⟨vs,rfl,_⟩:=hx.Ep;exact⟨by simp[Op.equalIn,run_underlying ht],λop X Y=>eqGuard_at_func ..⟩
theorem abq{x y:AV}{b:Bool}(hb:MX x y=some b){cx cy:Value}(hx:VR ψ w S m A x cx)(hy:VR ψ w S m A y cy){t el:TypeId}(ht:P.underlying t=some (.pointer el))(d:Nat) :
 (Op.equalIn (d+1) t cx cy).run P w=.ok b w/\∀op X Y,eqGuard op t X Y cx cy=pure ():=by
 unfold MX at hb;split at hb<;>cases hb
 ·cases hx.sH;cases hy.sH;exact⟨by simp[Op.equalIn,run_underlying ht],λop X Y=>eqGuard_at_pointer ..⟩
 ·cases hx.sH;obtain⟨_,rfl⟩:=hy.lH;exact⟨by simp[Op.equalIn,run_underlying ht],λop X Y=>eqGuard_at_pointer ..⟩
 ·cases hy.sH;obtain⟨_,rfl⟩:=hx.lH;exact⟨by simp[Op.equalIn,run_underlying ht],λop X Y=>eqGuard_at_pointer ..⟩
 ·cases hx.sH;obtain⟨b',off,vs,rfl,_⟩:=hy.rJ;exact⟨by simp[Op.equalIn,run_underlying ht],λop X Y=>eqGuard_at_pointer ..⟩
 ·cases hy.sH;obtain⟨b',off,vs,rfl,_⟩:=hx.rJ;exact⟨by simp[Op.equalIn,run_underlying ht],λop X Y=>eqGuard_at_pointer ..⟩
theorem ZH{x y:AV}{b:Bool}(hb:Nv x y=some b){cx cy:Value}(hx:VR ψ w S m A x cx)(hy:VR ψ w S m A y cy){t kt el:TypeId}(ht:P.underlying t=some (.map kt el))(d:Nat) :
 (Op.equalIn (d+1) t cx cy).run P w=.ok b w/\∀op X Y,eqGuard op t X Y cx cy=pure ():=by
 unfold Nv at hb;split at hb<;>cases hb
 ·cases hx.tC;cases hy.tC;exact⟨by simp[Op.equalIn,run_underlying ht],λop X Y=>eqGuard_at_map ..⟩
 ·cases hx.tC;obtain⟨_,rfl⟩:=hy.Ad;exact⟨by simp[Op.equalIn,run_underlying ht],λop X Y=>eqGuard_at_map ..⟩
 ·cases hy.tC;obtain⟨_,rfl⟩:=hx.Ad;exact⟨by simp[Op.equalIn,run_underlying ht],λop X Y=>eqGuard_at_map ..⟩
theorem VL{x y:AV}{b:Bool}(hb:Ed x y=some b){cx cy:Value}(hx:VR ψ w S m A x cx)(hy:VR ψ w S m A y cy){t:TypeId}(ht:P.underlying t=some .bool)(d:Nat) :
 (Op.equalIn (d+1) t cx cy).run P w=.ok b w/\∀op X Y,eqGuard op t X Y cx cy=pure ():=by
 unfold Ed at hb;split at hb
 ·cases hb;cases hx.iG;cases hy.iG;exact⟨by simp[Op.equalIn,run_underlying ht],λop X Y=>eqGuard_at_bool ..⟩
 ·cases hb
theorem jF{t:TypeId}{kd:Nat}(ht:ng P t=some kd):(∃k,P.underlying t=some (.int k)/\kd=0)\/(P.underlying t=some .string/\kd=1)\/(P.underlying t=some .bool/\kd=2):=by
 unfold ng at ht;split at ht
 ·rename_i k hk;cases ht;exact .inl ⟨k,hk,rfl⟩
 ·rename_i hk;cases ht;exact .inr (.inl ⟨hk,rfl⟩)
 ·rename_i hk;cases ht;exact .inr (.inr ⟨hk,rfl⟩)
 ·cases ht
theorem Xj{x y:AV}{b:Bool}(hb:iD x y=some b){cx cy:Value}(hx:VR ψ w S m A x cx)(hy:VR ψ w S m A y cy){t:TypeId}{kd:Nat}(ht:ng P t=some kd)(hk:kM kd x=true)(d:Nat) :
 (Op.equalIn (d+1) t cx cy).run P w=.ok b w:=by
 have hkk:=jF ht;unfold iD at hb;split at hb
 ·split at hb
  ·rename_i hk';subst hk';cases hb;have h0:kd=0:=by simpa [kM]using hk
   subst h0;rcases hkk with⟨k',hk',_⟩|⟨_,h⟩|⟨_,h⟩
   ·cases hx.eF;cases hy.eF;exact run_equalIn_int w d t _ k' _ _ hk'
   ·cases h
   ·cases h
  ·cases hb
 ·cases hb;have h0:kd=1:=by simpa [kM]using hk
  subst h0;rcases hkk with⟨k',_,h⟩|⟨hk',_⟩|⟨_,h⟩
  ·cases h
  ·cases hx.jl;cases hy.jl;rw[run_equalIn_string w d t _ _ hk',lK,lK]
  ·cases h
 ·cases hb;have h0:kd=2:=by simpa [kM]using hk
  subst h0;rcases hkk with⟨k',_,h⟩|⟨_,h⟩|⟨hk',_⟩
  ·cases h
  ·cases h
  ·cases hx.iG;cases hy.iG;exact run_equalIn_bool' w d t _ _ hk'
 ·cases hb
theorem F6(xs ys:Array Value)(d:Nat):∀(fs:List Field) (k:Nat) (ks:List Nat) (x y:List AV) (b:Bool),nR P k fs=some ks->iI ks x y=some b ->
 (∀(j:Nat) (v:AV),x[j]?=some v->v.cell=true/\k+j<xs.size/\VR ψ w S m A v (xs.getD (k+j) Go.undef))->(∀(j:Nat) (v:AV),y[j]?=some v->v.cell=true/\k+j<ys.size/\VR ψ w S m A v (ys.getD (k+j) Go.undef)) ->
 (Op.eqFields (d+1) xs ys fs).run P w=.ok b w
 |[],k,ks,x,y,b,h1,h2,_,_=>by simp only[nR]at h1;cases h1;cases x<;>cases y<;>simp only[iI]at h2<;>cases h2;simp[Op.eqFields]
 |f::fs,k,ks,x,y,b,h1,h2,h3,h4=>by
  simp only[nR]at h1;split at h1
  ·rename_i hc;obtain⟨c1,c2,c3⟩:=hc;simp only[qvz,qzz,qwq]at h1;obtain⟨kd,hkd,ks',hks,rfl⟩:=h1;cases x with
   |nil=>simp only[iI]at h2;cases h2
   |cons vx x=>
    cases y with
    |nil=>simp only[iI]at h2;cases h2
    |cons vy y=>
     simp only[iI]at h2;split at h2
     ·rename_i hko;obtain⟨r,hr,h2⟩:=aA h2;obtain⟨s,hs,h2⟩:=aH h2;obtain⟨x1,x2,x3⟩:=h3 0 vx qqz;obtain⟨y1,y2,y3⟩:=h4 0 vy qqz;simp only[qcj]at x2 x3 y2 y3;have hq:=Xj (P:=P) (d:=d) hr x3 y3 hkd hko;have ih:=F6 xs ys d fs (k+1) ks' x y s hks hs (λj v hj=>by have:=h3 (j+1) v (by simpa using hj);rwa [show k+(j+1)=k+1+j by omega]at this) (λj v hj=>by have:=h4 (j+1) v (by simpa using hj);rwa [show k+(j+1)=k+1+j by omega]at this);have hag:(isAgg f.type).run P w=.ok false w:=by unfold isAgg;rcases jF hkd with⟨k',hk',_⟩|⟨hk',_⟩|⟨hk',_⟩<;>rw[Sem.run_bind,run_underlying hk']<;>rfl
      have hpart:∀(zs:Array Value),k<zs.size->(part f.type zs f.offset).run P w=.ok (zs.getD k Go.undef) w:=by intro zs hz;unfold part;rw[Sem.run_bind,hag];simp only[Result.andThen_ok,qxj,qWq,c1];rw[getElem?_of_getD hz];rfl
      simp only[Op.eqFields];rw[qzq c2];simp only[Sem.run_bind,hpart xs x2,hpart ys y2,Result.andThen_ok,hq];cases r
      ·simp at h2;subst h2;simp
      ·simp at h2;subst h2;simp[ih]
     ·cases h2
  ·cases h1
end
section
variable {P:Program}{φ:FuncId->Option Nat}{ψ:Nat->FuncId}{N:Nat}{w0 w:World}{S:Nat->Prop}{m:Nat->Nat×Nat}{A:Nat->Prop}{h:Heap}{e:Env}{a:Act}{o:Oper}
theorem ahj(cx:Cx P φ ψ N w0 w S m A h e a){op:BinOp}{t t':TypeId}{X Y:Operand}(ho:o.op=.binOp op t X Y t'){x y:Opd}{kd:Nat}{ks:List Nat}{cop:COp}(hc:cEq kd ks op x y=some cop)
 {v:AV}{u:Upd}{nid:Nat}(hs:aP cop e h nid=some (v,u))
 (hr:∀b,iJ kd ks (x.ev e) (y.ev e)=some b->(Op.equalIn 10000 t (a.eval X) (a.eval Y)).run P w=.ok b w/\(eqGuard op t X Y (a.eval X) (a.eval Y)).run P w=.ok () w)
 (hform:binOp .eql t (a.eval X) (a.eval Y)=(do pure (.bool (<- Op.equal t (a.eval X) (a.eval Y)))) /\
  binOp .neq t (a.eval X) (a.eval Y)=(do pure (.bool (!(<- Op.equal t (a.eval X) (a.eval Y)))))):Snd P ψ N w0 w S m A (execOp a.eval o) (aS h u) v nid:=by
 have fin:∀ne,cop=.eqv kd ks ne x y->(op=if ne then .neq else .eql)->Snd P ψ N w0 w S m A (execOp a.eval o) (aS h u) v nid:=by
  intro ne hcop hop;subst hcop;simp only[aP,Kq]at hs;obtain⟨b,h1,h2⟩:=aH hs;cases h2;obtain⟨h3,h4⟩:=hr b h1;refine Snd.quiet (cv:=.bool (b != ne)) cx.inv ?_ (.bool _) nid;have he:(Op.equal t (a.eval X) (a.eval Y)).run P w=.ok b w:=h3;simp only[execOp,ho,Sem.run_bind,h4,Result.andThen_ok];cases ne
  ·simp only[qxj,qWq]at hop;subst hop;rw[hform.1];simp[he]
  ·simp only[qyx]at hop;subst hop;rw[hform.2];simp[he]
 unfold cEq at hc;split at hc
 ·cases hc;exact fin false rfl rfl
 ·cases hc;exact fin true rfl rfl
 ·cases hc
theorem VI{x y:Value}(t:TypeId)(hx:(∀k n,x≠.int k n)/\(∀k n,x≠.float k n)/\(∀k n l,x≠.complex k n l)/\∀s,x≠.string s) :
 binOp .eql t x y=(do pure (.bool (<- Op.equal t x y)))/\binOp .neq t x y=(do pure (.bool (!(<- Op.equal t x y)))):=by
 obtain⟨h1,h2,h3,h4⟩:=hx;cases x<;>first
  |exact absurd rfl (h1 _ _)
  |exact absurd rfl (h2 _ _)
  |exact absurd rfl (h3 _ _ _)
  |exact absurd rfl (h4 _)
  |(constructor<;>cases y<;>rfl)
theorem VR.form{x:AV}{c:Value}(hx:VR ψ w S m A x c)(hn:(∀k n,x≠.int k n)/\(∀s,x≠.str s)/\x≠.undef) :
 (∀k n,c≠.int k n)/\(∀k n,c≠.float k n)/\(∀k n l,c≠.complex k n l)/\∀s,c≠.string s:=by
 cases hx<;>simp_all
theorem TY{kd:Nat}{ks:List Nat}{x y:AV}{b:Bool}(hb:iJ kd ks x y=some b):(∀k n,x≠.int k n)/\(∀s,x≠.str s)/\x≠.undef:=by
 unfold iJ at hb;split at hb
 ·unfold XQ at hb;split at hb<;>simp_all
 ·split at hb
  ·unfold eqFn at hb;split at hb<;>simp_all
  ·split at hb
   ·unfold MX at hb;split at hb<;>simp_all
   ·split at hb
    ·unfold Nv at hb;split at hb<;>simp_all
    ·split at hb
     ·unfold MG at hb;split at hb<;>simp_all
     ·unfold Ed at hb;split at hb<;>simp_all
theorem Em(cx:Cx P φ ψ N w0 w S m A h e a){op:BinOp}{t t':TypeId}{X Y:Operand}(ho:o.op=.binOp op t X Y t'){x y:Opd}(hx:fJ φ X=some x){kd:Nat}{ks:List Nat}{cop:COp}(hc:cEq kd ks op x y=some cop)
 {v:AV}{u:Upd}{nid:Nat}(hs:aP cop e h nid=some (v,u))
 (hr:∀b,iJ kd ks (x.ev e) (y.ev e)=some b->(Op.equalIn 10000 t (a.eval X) (a.eval Y)).run P w=.ok b w/\(eqGuard op t X Y (a.eval X) (a.eval Y)).run P w=.ok () w):Snd P ψ N w0 w S m A (execOp a.eval o) (aS h u) v nid:=by
 have hsome:∃b,iJ kd ks (x.ev e) (y.ev e)=some b:=by
  unfold cEq at hc;split at hc
  ·cases hc;simp only[aP,Kq]at hs;obtain⟨b,h1,_⟩:=aH hs;exact⟨b,h1⟩
  ·cases hc;simp only[aP,Kq]at hs;obtain⟨b,h1,_⟩:=aH hs;exact⟨b,h1⟩
  ·cases hc
 obtain⟨b,hb⟩:=hsome;exact ahj cx ho hc hs hr (VI t ((cx.opd hx).form (TY hb)))
theorem akL(cx:Cx P φ ψ N w0 w S m A h e a){op:BinOp}{t t':TypeId}{X Y:Operand}(ho:o.op=.binOp op t X Y t'):Ok P φ ψ N w0 w S m A h e a o:=by
 intro cop v u nid hc hs hn;rw[ho]at hc;simp only[cOp,qvz,qzz]at hc;obtain⟨x,hx,y,hy,d,hd,hc⟩:=hc;have hX:=cx.opd hx;have hY:=cx.opd hy;have plain:cop=.bin op x y->Snd P ψ N w0 w S m A (execOp a.eval o) (aS h u) v nid:=by intro hcop;subst hcop;simp only[aP,adv]at hs;obtain⟨h1,rfl⟩:=dZ hs;obtain⟨cv,h2,h3⟩:=abx (P:=P) (t:=t) h1 hX hY X Y;refine Snd.val cx.inv ?_ h2 h3 nid;simp[execOp,ho]
 split at hc
 ·cases hc;exact plain rfl
 ·cases hc;exact plain rfl
 ·refine Em cx ho hx hc hs λb hb=>?_;obtain⟨h1,h2⟩:=acP (P:=P) (by simpa [iJ]using hb) hX hY hd 9999;exact⟨h1,by rw[h2];rfl⟩
 ·refine Em cx ho hx hc hs λb hb=>?_;obtain⟨h1,h2⟩:=acH (P:=P) (by simpa [iJ]using hb) hX hY hd 9999;exact⟨h1,by rw[h2];rfl⟩
 ·refine Em cx ho hx hc hs λb hb=>?_;obtain⟨h1,h2⟩:=abq (P:=P) (by simpa [iJ]using hb) hX hY hd 9999;exact⟨h1,by rw[h2];rfl⟩
 ·refine Em cx ho hx hc hs λb hb=>?_;obtain⟨h1,h2⟩:=ZH (P:=P) (by simpa [iJ]using hb) hX hY hd 9999;exact⟨h1,by rw[h2];rfl⟩
 ·refine Em cx ho hx hc hs λb hb=>?_;obtain⟨h1,h2⟩:=VL (P:=P) (by simpa [iJ]using hb) hX hY hd 9999;exact⟨h1,by rw[h2];rfl⟩
 ·rename_i fs;simp only[qzz]at hc;obtain⟨ks,hks,hc⟩:=hc;split at hc
  ·rename_i hg;obtain⟨g1,g2⟩:=hg;refine Em cx ho hx hc hs λb hb=>?_;have hb':MG ks (x.ev e) (y.ev e)=some b:=by simpa [iJ]using hb
   unfold MG at hb';split at hb'
   ·rename_i xs ys ex ey;rw[ex]at hX;rw[ey]at hY;obtain⟨vx,e1,n1,c1,r1⟩:=hX.Hu;obtain⟨vy,e2,n2,c2,r2⟩:=hY.Hu;rw[e1,e2];have hf:P.fieldsOf t=fs:=by unfold Program.fieldsOf;rw[hd]
    constructor
    ·have hst:=run_equalIn_struct (P:=P) w 9999 t vx vy (by rw[hf];exact hd) g2;show(Op.equalIn (9999+1) t (.agg vx) (.agg vy)).run P w=.ok b w;rw[hst,hf];refine F6 (ψ:=ψ) (S:=S) (m:=m) (A:=A) vx vy 9998 fs.toList 0 ks xs ys b hks hb' (λj v hj=>?_) (λj v hj=>?_)
     ·rw[qXj];exact⟨c1 j v hj,by rw[n1];exact(qzj.1 hj).1,r1 j v hj⟩
     ·rw[qXj];exact⟨c2 j v hj,by rw[n2];exact(qzj.1 hj).1,r2 j v hj⟩
    ·exact run_eqGuard_agg w op t X Y vx vy g1
   ·cases hb'
  ·cases hc
 ·cases hc
theorem apf(cx:Cx P φ ψ N w0 w S m A h e a){op:UnOp}{t:TypeId}{X:Operand}(ho:o.op=.unOp op t X):Ok P φ ψ N w0 w S m A h e a o:=by
 intro cop v u nid hc hs hn;rw[ho]at hc;simp only[cOp,qyz]at hc;obtain⟨x,hx,rfl⟩:=hc;have hX:=cx.opd hx;simp only[aP,sUn]at hs;obtain⟨h1,rfl⟩:=dZ hs;unfold Tn at h1;split at h1
 ·rename_i k n he;rw[he]at hX;have hc:=hX.eF;split at h1<;>cases h1
  ·exact Snd.val cx.inv (s:=Op.unary .neg (a.eval X)) (by simp[execOp,ho]) (by rw[hc];simp[Op.unary,Op.intArith]) (.int _ _) nid
  ·exact Snd.val cx.inv (s:=Op.unary .xor (a.eval X)) (by simp[execOp,ho]) (by rw[hc];simp[Op.unary,Op.intBits]) (.int _ _) nid
 ·rename_i b he;rw[he]at hX;have hc:=hX.iG;split at h1<;>cases h1;exact Snd.val cx.inv (s:=Op.unary .not (a.eval X)) (by simp[execOp,ho]) (by rw[hc];simp[Op.unary]) (.bool _) nid
 ·cases h1
theorem CQ:∀{es:List (List AV)}{s:List UInt8},bytesOf es=some s->∃ns:List Int,ns.length=es.length/\s=ns.map (λn=>UInt8.ofNat n.toNat)/\∀(i:Nat) (n:Int),ns[i]?=some n->es[i]?=some [.int .u8 n]
 |[],s,h=>by simp only[bytesOf,qwq]at h;subst h;exact⟨[],rfl,rfl,by simp⟩
 |e::r,s,h=>by
  simp only[bytesOf]at h;split at h
  ·rename_i n;obtain⟨t,ht,rfl⟩:=aH h;obtain⟨ns,h1,h2,h3⟩:=CQ ht;refine⟨n::ns,by simp[h1],by simp[h2],λi k hk=>?_⟩;cases i with
   |zero=>simp at hk;subst hk;rfl
   |succ i=>simpa using h3 i k (by simpa using hk)
  ·cases h
theorem Jg:∀(ns:List Int) (s:ByteArray),ns.foldl (λr n=>r.push (UInt8.ofNat n.toNat)) s=⟨⟨s.data.toList++ns.map λn=>UInt8.ofNat n.toNat⟩⟩
 |[],s=>by cases s;simp
 |n::ns,s=>by rw[q0q,Jg ns];simp[ByteArray.push]
theorem ami(cx:Cx P φ ψ N w0 w S m A h e a){t t':TypeId}{X:Operand}(ho:o.op=.convert t t' X):Ok P φ ψ N w0 w S m A h e a o:=by
 intro cop v u nid hc hs hn;rw[ho]at hc;simp only[cOp,qvz,qzz]at hc;obtain⟨x,hx,d1,hd1,d2,hd2,hc⟩:=hc;have hX:=cx.opd hx;split at hc
 ·cases hc;simp only[aP,Uz]at hs;split at hs
  ·rename_i k' n he;cases hs;rw[he]at hX;have hc:=hX.eF;refine Snd.val cx.inv (s:=convert t t' (a.eval X)) (by simp[execOp,ho]) ?_ (.int _ _) nid;rw[hc];simp[convert,run_underlying hd1,run_underlying hd2,Conv.intToInt]
  ·cases hs
 ·cases hc;simp only[aP,TD]at hs;split at hs
  ·rename_i s he;cases hs;rw[he]at hX;have hc:=hX.jl;refine Snd.val cx.inv (s:=convert t t' (a.eval X)) (by simp[execOp,ho]) ?_ (.str _) nid;rw[hc];simp[convert,run_underlying hd1,run_underlying hd2]
  ·cases hs
 ·rename_i el;simp only[qzz]at hc;obtain⟨d3,hd3,hc⟩:=hc;split at hc
  ·cases hc;simp only[aP,UM]at hs;obtain⟨h1,rfl⟩:=dZ hs;have fin:∀(s:List UInt8),(convert t t' (a.eval X)).run P w=.ok (.string ⟨⟨s⟩⟩) w->v=.str s->Snd P ψ N w0 w S m A (execOp a.eval o) (aS h []) v nid:=λs q1 q2=>by rw[q2];exact Snd.val cx.inv (s:=convert t t' (a.eval X)) (by simp[execOp,ho]) q1 (.str _) nid
   cases hxv:x.ev e<;>rw[hxv]at h1 hX<;>simp only[Vb]at h1<;>try (cases h1;done)
   ·cases h1;refine fin [] ?_ rfl;rw[hX.gQ,run_convert_bytes_string w t t' el none 0 0 hd1 hd3 hd2];simp[Conv.bytesToString];rfl
   ·rename_i z es ex;split at h1
    ·rename_i hz;subst hz;obtain⟨s,hb,rfl⟩:=aH h1;obtain⟨ns,n1,n2,n3⟩:=CQ hb;have load:∀(b off:Nat),(∀(i:Nat) (n:Int),ns[i]?=some n->w.cell? ⟨b,off+i,none⟩=some (.int .u8 n))->∀cap,(convert t t' (.slice (some ⟨b,off,none⟩) es.length cap)).run P w=.ok (.string ⟨⟨s⟩⟩) w:=by
      intro b off hcell cap;rw[run_convert_bytes_string w t t' el (some ⟨b,off,none⟩) es.length cap hd1 hd3 hd2];have hl:(loadCells ⟨b,off,none⟩ es.length).run P w=.ok (ns.map (Value.int .u8)).toArray w:=by
       rw[run_loadCells w ⟨b,off,none⟩ es.length (λj=>Value.int .u8 (ns.getD j 0)) (λj hj=>by
        have hj':j<ns.length:=by omega
        rw[kV,hcell j ns[j] (qqj hj')];simp[hj'])]
       congr 2;refine zqj λj=>?_;by_cases hj:j<es.length
       ·have hj':j<ns.length:=by omega
        simp[hj,hj']
       ·have hj':¬j<ns.length:=by omega
        simp[hj,hj']
      rw[run_bytesToString w ⟨b,off,none⟩ es.length cap ns hl,Jg,n2];rfl
     rcases hX.pW with⟨b,off,cap,cs,e1,hS,hw,hcap,hex,hcell,hrep⟩|⟨rfl,ad,k,e1,_⟩
     ·refine fin s ?_ rfl;rw[e1];refine load b off (λi n hi=>?_) cap;have he:=n3 i n hi;obtain⟨_,q⟩:=hcell i _ 0 _ he rfl;have r:=(hrep i _ 0 _ he rfl).eF;rw[r]at q;simpa using q
     ·refine fin s ?_ rfl;simp only[bytesOf,qwq]at hb;subst hb;rw[e1,run_convert_bytes_string w t t' el (some ad) 0 k hd1 hd3 hd2];rw[run_bytesToString w ad 0 k [] (by simp[loadCells,loadCellsFrom])];rfl
    ·cases h1
  ·cases hc
 ·cases hc
theorem agM(cx:Cx P φ ψ N w0 w S m A h e a){fn:Go.Fn}{first caps:Array Operand}(ho:o.op=.makeFunc fn first caps):Ok P φ ψ N w0 w S m A h e a o:=by
 intro cop v u nid hc hs hn;rw[ho]at hc;cases fn<;>simp only[cOp]at hc<;>try (cases hc;done)
 rename_i f;simp only[qvz,qzz]at hc;obtain⟨g,hg,hc⟩:=hc;split at hc
 ·rename_i hf;simp only[qzz]at hc;obtain⟨ys,hys,hc⟩:=hc;cases hc;simp only[aP,Ec]at hs;split at hs
  ·cases hs;obtain⟨hl,hi⟩:=cx.apm hys;have hfe:first=#[]:=Array.eq_empty_of_size_eq_zero hf
   refine Snd.val cx.inv (s:=Instr.makeFunc (.func f) (first.map a.eval) (caps.map a.eval)) (cv:=.func (.func (ψ g)) #[] (caps.map a.eval)) (by simp[execOp,ho]) ?_ (.fn g _ _ (by simp[hl]) λj x hj=>?_) nid
   ·rw[cx.ids f g hg,hfe];simp[Instr.makeFunc]
   ·simp only[qQq,qyz]at hj;obtain⟨y,hj,rfl⟩:=hj;obtain⟨x,h1,h2⟩:=hi j y hj;rw[qjq];simp only[q7j,h1,qhq,qKq];exact h2
  ·cases hs
 ·cases hc
theorem acS(cx:Cx P φ ψ N w0 w S m A h e a){t:TypeId}{r:Option Operand}(ho:o.op=.makeMap t r):Ok P φ ψ N w0 w S m A h e a o:=by
 intro cop v u nid hc hs hn;rw[ho]at hc;cases r with
 |some x=>simp only[cOp]at hc;cases hc
 |none=>
  simp only[cOp]at hc;cases hc;simp only[aP,ad5]at hs;cases hs;have le:=Le.push (w:=w) (w':=w.alloc (.map #[] 0)) (m:=m) (A:=A) (obj:=.map #[] 0) rfl cx.inv.sb hn (w.heap.size,0);have hnew:(w.alloc (.map #[] 0)).heap[w.heap.size]?=some (.map #[] 0):=by show(w.heap.push _)[_]?=_;simp
  refine⟨.map (some w.heap.size),w.alloc (.map #[] 0),S,gI m nid (w.heap.size,0),sG A nid,.inl ?_,?_,cx.inv.push (w':=w.alloc (.map #[] 0)) (obj:=.map #[] 0) rfl rfl rfl hn 0 (.map []) ?_ rfl,le,λ_ _ hs=>hs,λb hb=>hb⟩
  ·simp[execOp,ho,Instr.makeMap]
  ·have:=VR.map (ψ:=ψ) (w:=w.alloc (.map #[] 0)) (S:=S) (m:=gI m nid (w.heap.size,0)) (A:=sG A nid) nid (.inr rfl);simpa [gI]using this
  ·exact⟨#[],0,hnew,rfl,λi k v hi=>by simp at hi⟩
theorem afb(cx:Cx P φ ψ N w0 w S m A h e a){t:TypeId}{X:Operand}(ho:o.op=.range t X):Ok P φ ψ N w0 w S m A h e a o:=by
 intro cop v u nid hc hs hn;rw[ho]at hc;simp only[cOp,qvz,qzz]at hc;obtain⟨x,hx,d,hd,hc⟩:=hc;have hX:=cx.opd hx;split at hc
 ·cases hc;simp only[aP,QG]at hs;split at hs
  ·rename_i s he;cases hs;rw[he]at hX;have hc:=hX.jl;have le:=Le.push (w:=w) (w':=w.alloc (.stringIter ⟨⟨s⟩⟩ 0)) (m:=m) (A:=A) (obj:=.stringIter ⟨⟨s⟩⟩ 0) rfl cx.inv.sb hn (w.heap.size,0);have hnew:(w.alloc (.stringIter ⟨⟨s⟩⟩ 0)).heap[w.heap.size]?=some (.stringIter ⟨⟨s⟩⟩ 0):=by show(w.heap.push _)[_]?=_;simp
   refine⟨.pointer (some ⟨w.heap.size,0,none⟩),w.alloc (.stringIter ⟨⟨s⟩⟩ 0),S,gI m nid (w.heap.size,0),sG A nid,.inl ?_,?_,cx.inv.push (w':=w.alloc (.stringIter ⟨⟨s⟩⟩ 0)) (obj:=.stringIter ⟨⟨s⟩⟩ 0) rfl rfl rfl hn 0 (.iter s 0) hnew rfl,le,λ_ _ hs=>hs,λb hb=>hb⟩
   ·simp[execOp,ho,Instr.range,run_underlying hd,hc]
   ·have:=VR.ptr (ψ:=ψ) (w:=w.alloc (.stringIter ⟨⟨s⟩⟩ 0)) (S:=S) (m:=gI m nid (w.heap.size,0)) (A:=sG A nid) nid 0 0 (.inr rfl);simpa [gI]using this
  ·cases hs
 ·cases hc
theorem amU(cx:Cx P φ ψ N w0 w S m A h e a){X:Operand}{k:Nat}(ho:o.op=.extract X k):Ok P φ ψ N w0 w S m A h e a o:=by
 intro cop v u nid hc hs hn;rw[ho]at hc;simp only[cOp,qyz]at hc;obtain⟨x,hx,rfl⟩:=hc;have hX:=cx.opd hx;simp only[aP,TJ]at hs;split at hs
 ·rename_i vs he;obtain⟨h1,rfl⟩:=dZ hs;rw[he]at hX;obtain⟨cs,e1,n1,r1⟩:=hX.Y3;have hk:k<cs.size:=by rw[n1];exact(qzj.1 h1).1
  refine Snd.val cx.inv (s:=Instr.extract (a.eval X) k) (by simp[execOp,ho]) ?_ (r1 k v h1) nid;rw[e1];simp only[Instr.extract,getElem?_of_getD hk];rfl
 ·cases hs
end
section
variable {P:Program}{φ:FuncId->Option Nat}{ψ:Nat->FuncId}{N:Nat}{w0 w:World}{S:Nat->Prop}{m:Nat->Nat×Nat}{A:Nat->Prop}{h:Heap}{e:Env}{a:Act}{o:Oper}
theorem VR.Ul{cs:List AV}{b off:Nat}(hv:VR ψ w S m A (.rop cs) (.pointer (some ⟨b,off,none⟩)))(k:Nat):VR ψ w S m A (.rop (cs.drop k)) (.pointer (some ⟨b,off+k,none⟩)):=by
 obtain⟨b',off',vs,e1,hS,hcell,hrep⟩:=hv.rJ;cases e1;refine .rop (cs.drop k) b (off+k) (λj=>vs (k+j)) hS (λj x hx=>?_) (λj x hx=>?_)
 ·rw[qVz]at hx;obtain⟨h1,h2⟩:=hcell _ x hx;exact⟨h1,by rw[qdj];exact h2⟩
 ·rw[qVz]at hx;exact hrep _ x hx
theorem VR.Yk{b i o:Nat}{c:Value}(hv:VR ψ w S m A (.ptr b i o) c)(k:Nat):VR ψ w S m A (.ptr b i (o+k)) (.pointer (some ⟨(m b).1,i*(m b).2+o+k,none⟩)):=by obtain⟨hA,_⟩:=hv.lH;have:=VR.ptr (ψ:=ψ) (w:=w) (S:=S) (m:=m) (A:=A) b i (o+k) hA;rwa [<- qdj]at this
theorem akX(cx:Cx P φ ψ N w0 w S m A h e a){t:TypeId}{X:Operand}{f:Nat}(ho:o.op=.fieldAddr t X f):Ok P φ ψ N w0 w S m A h e a o:=by
 intro cop v u nid hc hs hn;rw[ho]at hc;simp only[cOp,qvz,qzz]at hc;obtain⟨x,hx,d,hd,hc⟩:=hc;have hX:=cx.opd hx;split at hc
 ·rename_i fs;simp only[qzz]at hc;obtain⟨fd,hf,n,hn',hc⟩:=hc;split at hc
  ·cases hc
  ·rename_i hne;cases hc;have run:∀b off,a.eval X=.pointer (some ⟨b,off,none⟩)->(Instr.fieldAt t (a.eval X) f).run P w=.ok (.pointer (some ⟨b,off+fd.offset,none⟩)) w:=by intro b off he;rw[he];simp only[Instr.fieldAt,Sem.run_bind,run_underlying hd,Result.andThen_ok,hf,Instr.sureAddr,Sem.run_pure,fieldPlace,fH hn'];rw[qwx hne];simp[kV]
   simp only[aP,NS]at hs;split at hs
   ·rename_i cs he;cases hs;rw[he]at hX;obtain⟨b,off,vs,e1,_⟩:=hX.rJ;refine Snd.val cx.inv (s:=Instr.fieldAt t (a.eval X) f) (by simp[execOp,ho]) (run b off e1) ?_ nid;rw[e1]at hX;exact hX.Ul _
   ·rename_i b i o' he;cases hs;rw[he]at hX;obtain⟨_,e1⟩:=hX.lH;exact Snd.val cx.inv (s:=Instr.fieldAt t (a.eval X) f) (by simp[execOp,ho]) (run _ _ e1) (hX.Yk _) nid
   ·cases hs
 ·cases hc
theorem SS{t:TypeId}{n:Nat}{ag:Bool}(hs:sizeT P t=some n)(hag:uq P t=some ag){cs:List AV}{vs:Array Value}(hn:vs.size=cs.length)
 (hcell:∀(j:Nat) (x:AV),cs[j]?=some x->x.cell=true) (hr:∀(j:Nat) (x:AV),cs[j]?=some x->VR ψ w S m A x (vs.getD j Go.undef)) {off:Nat}{v:AV}
 (hl:qQ n ag (cs.drop off)=some v):∃cv,(part t vs off).run P w=.ok cv w/\VR ψ w S m A v cv:=by
 unfold qQ at hl;cases ag with
 |true=>
  simp only[qyx]at hl;by_cases hle:n<=(cs.drop off).length
  ·rw[qzq hle]at hl;cases hl;rw[qbj]at hle;have get:∀(j:Nat) (x:AV),((cs.drop off).take n)[j]?=some x->j<n/\cs[off+j]?=some x:=by
    intro j x hx;rw[qJz]at hx;split at hx
    ·rename_i hj;rw[qVz]at hx;exact⟨hj,hx⟩
    ·cases hx
   refine⟨.agg (vs.extract off (off+n)),?_,.agg _ _ ?_ (λj x hx=>hcell _ x (get j x hx).2) (λj x hx=>?_)⟩
   ·unfold part;rw[Sem.run_bind,xX hag];simp[fH hs]
   ·by_cases h0:n=0
    ·subst h0;simp;omega
    ·simp;omega
   ·obtain⟨hj,h2⟩:=get j x hx;have h3:=hr _ x h2;have hlt:off+j<vs.size:=by rw[hn];exact(qzj.1 h2).1
    rw[qjq]at h3 |-;rw[Array.getElem?_extract];rw[qzq qqq];exact h3
  ·rw[qwx hle]at hl;cases hl
 |false=>
  simp only[qxj,qWq]at hl;rw[List.head?_drop]at hl;have hlt:off<vs.size:=by rw[hn];exact(qzj.1 hl).1
  refine⟨vs.getD off Go.undef,?_,hr off v hl⟩;unfold part;rw[Sem.run_bind,xX hag];simp only[Result.andThen_ok,qxj,qWq];rw[getElem?_of_getD hlt];rfl
theorem agB(cx:Cx P φ ψ N w0 w S m A h e a){t:TypeId}{X:Operand}{f:Nat}(ho:o.op=.field t X f):Ok P φ ψ N w0 w S m A h e a o:=by
 intro cop v u nid hc hs hn;rw[ho]at hc;simp only[cOp,qvz,qzz]at hc;obtain⟨x,hx,d,hd,hc⟩:=hc;have hX:=cx.opd hx;split at hc
 ·rename_i fs;simp only[qzz]at hc;obtain⟨fd,hf,n,hn',ag,hag,hc⟩:=hc;cases hc;simp only[aP,FW]at hs;split at hs
  ·rename_i cs he;obtain⟨h1,rfl⟩:=dZ hs;rw[he]at hX;obtain⟨vs,e1,n1,c1,r1⟩:=hX.Hu;obtain⟨cv,h2,h3⟩:=SS (P:=P) hn' hag n1 c1 r1 h1;refine Snd.val cx.inv (s:=Instr.field t (a.eval X) f) (by simp[execOp,ho]) ?_ h3 nid;rw[e1];simp only[Instr.field,Sem.run_bind,run_underlying hd,Result.andThen_ok,hf,asAgg,Sem.run_pure,h2]
  ·cases hs
 ·cases hc
theorem Za{k:IntKind}{n:Nat}{g off:Nat}{t el:TypeId}{len cap z:Nat}(hd:P.underlying t=some (.slice el))(hz:sizeT P el=some z)(hl:n<len) :
 (Instr.indexAt t (.slice (some ⟨g,off,none⟩) len cap) (.int k n)).run P w=.ok (.pointer (some ⟨g,off+n*z,none⟩)) w:=by
 have h1:(0:Int)<=n/\(n:Int)<len:=by omega
 simp only[Instr.indexAt,asIntOf,Sem.run_bind,Sem.run_pure,run_underlying hd,Result.andThen_ok];rw[qzq h1];simp[fH hz,kV]
theorem ahD(cx:Cx P φ ψ N w0 w S m A h e a){t:TypeId}{X I:Operand}(ho:o.op=.indexAddr t X I):Ok P φ ψ N w0 w S m A h e a o:=by
 intro cop v u nid hc hs hn;rw[ho]at hc;simp only[cOp,qvz,qzz]at hc;obtain⟨x,hx,ix,hix,d,hd,hc⟩:=hc;have hX:=cx.opd hx;have hI:=cx.opd hix;split at hc
 ·rename_i el;simp only[qzz]at hc;obtain⟨z,hz,hc⟩:=hc;split at hc
  ·cases hc
  ·cases hc;simp only[aP,Gg]at hs;split at hs
   ·rename_i k n he;obtain⟨n',hn',hs1⟩:=aA hs;replace hs:=hs1;clear hs1;cases nat?_some hn';rw[he]at hI;have eI:=hI.eF;cases hxv:x.ev e<;>rw[hxv]at hs hX<;>simp only[uI]at hs<;>try (cases hs;done)
    ·rename_i z' es ex;split at hs
     ·rename_i hzz;subst hzz;obtain⟨cs,hcs,hs⟩:=aA hs;cases hs;have hlt:n'<es.length:=(qzj.1 hcs).1;rcases hX.pW with⟨b,off,cap,vs,e1,hS,hw,hcap,hex,hcell,hrep⟩|⟨rfl,_⟩;case inr=>simp at hlt
      refine Snd.val cx.inv (s:=Instr.indexAt t (a.eval X) (a.eval I)) (by simp[execOp,ho]) (by rw[e1,eI];exact Za hd hz hlt) ?_ nid;exact .rop cs b (off+n' * z') (vs n') hS (λj y hy=>hcell n' cs j y hcs hy) (λj y hy=>hrep n' cs j y hcs hy)
     ·cases hs
    ·rename_i b z' j len cap ex;split at hs
     ·rename_i hzz;obtain⟨hzz,hlt⟩:=hzz;subst hzz;cases hs;obtain⟨cc,e1,hA,hmz,_⟩:=hX.lZ;refine Snd.val cx.inv (s:=Instr.indexAt t (a.eval X) (a.eval I)) (by simp[execOp,ho]) (by rw[e1,eI];exact Za hd hz hlt) ?_ nid;have:=VR.ptr (ψ:=ψ) (w:=w) (S:=S) (m:=m) (A:=A) b (j+n') 0 hA;rw[hmz,qcj,qYq]at this;exact this
     ·cases hs
   ·cases hs
 ·rename_i len el;simp only[qzz]at hc;obtain⟨z,hz,hc⟩:=hc;split at hc
  ·cases hc
  ·cases hc;simp only[aP,FI]at hs;split at hs
   ·rename_i k n he;obtain⟨n',hn',hs1⟩:=aA hs;replace hs:=hs1;clear hs1;cases nat?_some hn';rw[he]at hI;have eI:=hI.eF;split at hs
    ·rename_i hlt;have run:∀b off,a.eval X=.pointer (some ⟨b,off,none⟩)->(Instr.indexAt t (a.eval X) (a.eval I)).run P w=.ok (.pointer (some ⟨b,off+n' * z,none⟩)) w:=by
      intro b off e1;rw[e1,eI];have h1:(0:Int)<=n'/\(n':Int)<len:=by omega
      simp only[Instr.indexAt,asIntOf,Sem.run_bind,Sem.run_pure,run_underlying hd,Result.andThen_ok,Instr.sureAddr];rw[qzq h1];simp[fH hz,kV]
     cases hxv:x.ev e<;>rw[hxv]at hs hX<;>simp only[uz]at hs<;>try (cases hs;done)
     ·rename_i cs;cases hs;obtain⟨b,off,vs,e1,_⟩:=hX.rJ;refine Snd.val cx.inv (s:=Instr.indexAt t (a.eval X) (a.eval I)) (by simp[execOp,ho]) (run b off e1) ?_ nid;rw[e1]at hX;exact hX.Ul _
     ·rename_i b i o';cases hs;obtain⟨_,e1⟩:=hX.lH;exact Snd.val cx.inv (s:=Instr.indexAt t (a.eval X) (a.eval I)) (by simp[execOp,ho]) (run _ _ e1) (hX.Yk _) nid
    ·cases hs
   ·cases hs
 ·cases hc
theorem Bc(cx:Cx P φ ψ N w0 w S m A h e a){t:TypeId}{X I:Operand}(ho:o.op=.index t X I):Ok P φ ψ N w0 w S m A h e a o:=by
 intro cop v u nid hc hs hn;rw[ho]at hc;simp only[cOp,qvz,qzz]at hc;obtain⟨x,hx,ix,hix,d,hd,hc⟩:=hc;have hX:=cx.opd hx;have hI:=cx.opd hix;split at hc
 ·cases hc;simp only[aP,qN]at hs;split at hs
  ·rename_i s k n ex ei;obtain⟨n',hn',hs1⟩:=aA hs;replace hs:=hs1;clear hs1;cases nat?_some hn';obtain⟨c,hc',hs⟩:=aA hs;cases hs;rw[ex]at hX;rw[ei]at hI;have eX:=hX.jl;have eI:=hI.eF;refine Snd.val cx.inv (s:=Instr.index t (a.eval X) (a.eval I)) (cv:=.int .u8 c.toNat) (by simp[execOp,ho]) ?_ (.int _ _) nid;rw[eX,eI];have h0:(0:Int)<=n':=by omega
   have hlt:n'<s.length:=(qzj.1 hc').1;have hb:(⟨⟨s⟩⟩:ByteArray)[n']?=some c:=by have hsz:(⟨⟨s⟩⟩:ByteArray).size=s.length:=rfl;rw[getElem?_pos (⟨⟨s⟩⟩:ByteArray) n' (by rw[hsz];exact hlt)];congr 1;have:=(qzj.1 hc').2;rw[<- this];rfl
   simp only[Instr.index,asIntOf,Sem.run_bind,Sem.run_pure,run_underlying hd,Result.andThen_ok];rw[qzq h0];simp[hb]
  ·cases hs
 ·rename_i len el;simp only[qzz]at hc;obtain⟨z,hz,ag,hag,hc⟩:=hc;cases hc;simp only[aP,FB]at hs;split at hs
  ·rename_i cs k n ex ei;obtain⟨n',hn',hs1⟩:=aA hs;replace hs:=hs1;clear hs1;cases nat?_some hn';split at hs
   ·rename_i hlt;obtain⟨h1,rfl⟩:=dZ hs;rw[ex]at hX;rw[ei]at hI;obtain⟨vs,e1,n1,c1,r1⟩:=hX.Hu;have eI:=hI.eF;obtain⟨cv,h2,h3⟩:=SS (P:=P) hz hag n1 c1 r1 h1;refine Snd.val cx.inv (s:=Instr.index t (a.eval X) (a.eval I)) (by simp[execOp,ho]) ?_ h3 nid;rw[e1,eI];have h0:(0:Int)<=n'/\(n':Int)<len:=by omega
    simp only[Instr.index,asIntOf,Sem.run_bind,Sem.run_pure,run_underlying hd,Result.andThen_ok];rw[qzq h0];simp[fH hz,h2]
   ·cases hs
  ·cases hs
 ·cases hc
end
section
variable {h:Heap}
theorem Ez(k:Nat):∀(bs:List Nat) (h1:Heap),
 (∃z es mu,get h k=some (.cells z es mu)/\k∈bs/\get (aS h1 (aY h bs)) k=some (.cells z es false)) \/
 (get (aS h1 (aY h bs)) k=get h1 k/\(k∈bs->∀z es mu,get h k≠some (.cells z es mu))):=by
 intro bs;induction bs with
 |nil=>intro h1;exact .inr ⟨rfl,λhk=>by cases hk⟩
 |cons b r ih=>
  intro h1;have other:(∀z es mu,get h b≠some (.cells z es mu))->aY h (b::r)=aY h r:=by intro hno;simp only[aY]
  by_cases hb:∃z es mu,get h b=some (.cells z es mu)
  ·obtain⟨z,es,mu,hg⟩:=hb;have e1:aS h1 (aY h (b::r))=aS (put h1 b (.cells z es false)) (aY h r):=by simp only[aY,hg,aS,uZ]
   rw[e1];rcases ih (put h1 b (.cells z es false))with⟨z',es',mu',q1,q2,q3⟩|⟨q1,q2⟩
   ·exact .inl ⟨z',es',mu',q1,qyj _ q2,q3⟩
   ·rw[get_put]at q1;by_cases e:b=k
    ·subst e;rw[qzq rfl]at q1;exact .inl ⟨z,es,mu,hg,qVx,q1⟩
    ·rw[qwx e]at q1;exact .inr ⟨q1,λhk=>q2 (by rcases qjj.1 hk with rfl | hk;exact absurd rfl e;exact hk)⟩
  ·have hb':∀z es mu,get h b≠some (.cells z es mu):=λz es mu hg=>hb ⟨z,es,mu,hg⟩;rw[other hb'];rcases ih h1 with⟨z',es',mu',q1,q2,q3⟩|⟨q1,q2⟩
   ·exact .inl ⟨z',es',mu',q1,qyj _ q2,q3⟩
   ·refine .inr ⟨q1,λhk=>?_⟩;rcases qjj.1 hk with rfl | hk
    ·exact hb'
    ·exact q2 hk
end
theorem Inv.data{ψ:Nat->FuncId}{N:Nat}{w0 w:World}{S:Nat->Prop}{m:Nat->Nat×Nat}{A:Nat->Prop}{h:Heap}(i:Inv ψ N w0 w S m A h){w':World}
 (hold:∀c,c<w.heap.size->w'.heap[c]?=w.heap[c]?) (hsz:w.heap.size<=w'.heap.size) (hos:w'.os=w.os) (hout:w'.output=w.output) {Sn:Nat->Prop}
 (hsub:∀c,S c->Sn c) (hsn:∀c,Sn c->c<w'.heap.size) (bs:List Nat) (hbs:∀b∈bs,∃z es mu,get h b=some (.cells z es mu)/\Sn (m b).1)
 (hnew:∀c,Sn c->S c\/(∃b∈bs,c=(m b).1)\/w.heap.size<=c):Inv ψ N w0 w' Sn m A (aS h (aY h bs))/\Le w S m A w' Sn m A:=by
 have le:Le w S m A w' Sn m A:=by refine⟨λb hb=>hold b (i.sb b hb),λb c t fr hc=>⟨c,?_,rfl⟩,hsz,hsub,λ_ h=>h,λ_ _=>rfl⟩;rw[hold b (qWz.1 hc).1];exact hc
 refine⟨?_,le⟩;have look:∀b o,get (aS h (aY h bs)) b=some o->(∃z es mu,get h b=some (.cells z es mu)/\b∈bs/\o=.cells z es false)\/(get h b=some o/\b∉bs):=by
  intro b o hb;rcases Ez (h:=h) b bs h with⟨z,es,mu,q1,q2,q3⟩|⟨q1,q2⟩
  ·rw[q3]at hb;cases hb;exact .inl ⟨z,es,mu,q1,q2,rfl⟩
  ·rw[q1]at hb;refine .inr ⟨hb,λhm=>?_⟩;obtain⟨z,es,mu,r1,_⟩:=hbs b hm;exact q2 hm z es mu r1
 have mutless:∀b o,get (aS h (aY h bs)) b=some o->oh o=true->get h b=some o/\b∉bs:=by
  intro b o hb hm;rcases look b o hb with⟨z,es,mu,q1,q2,rfl⟩ | q
  ·cases hm
  ·exact q
 constructor
 ·intro b o hb;rcases look b o hb with⟨z,es,mu,q1,q2,rfl⟩|⟨q,_⟩
  ·exact i.dom b _ q1
  ·exact i.dom b o q
 ·intro b o hb;rcases look b o hb with⟨z,es,mu,q1,q2,rfl⟩|⟨q,_⟩
  ·have:=(i.obj b _ q1).mono le (hold _ (i.obj b _ q1).lt);exact this
  ·exact(i.obj b o q).mono le (hold _ (i.obj b o q).lt)
 ·intro b o hb hm;rcases look b o hb with⟨z,es,mu,q1,q2,rfl⟩|⟨q,_⟩
  ·obtain⟨_,_,_,_,r⟩:=hbs b q2;exact r
  ·exact hsub _ (i.fro b o q hm)
 ·intro b o hb hm;obtain⟨q,qn⟩:=mutless b o hb hm;obtain⟨l1,l2⟩:=i.live b o q hm;refine⟨λhs=>?_,l2⟩;rcases hnew _ hs with r|⟨b',r1,r2⟩ | r
  ·exact l1 r
  ·obtain⟨z,es,mu,r3,r4⟩:=hbs b' r1;have hne:b≠b':=λe=>qn (e ▸ r1);cases mu with
   |true=>exact i.inj b o b' _ q r3 hm rfl hne r2
   |false=>exact l1 (r2 ▸ i.fro b' _ r3 rfl)
  ·have:=(i.obj b o q).lt;omega
 ·intro b o b' o' h1 h2 m1 m2 hne;exact i.inj b o b' o' (mutless b o h1 m1).1 (mutless b' o' h2 m2).1 m1 m2 hne
 ·exact hsn
 ·exact qeq i.size hsz
 ·intro c hc;rw[hold c (qZx hc i.size)];exact i.old c hc
 ·exact hos.trans i.os
 ·exact hout.trans i.out
section
variable {P:Program}{ψ:Nat->FuncId}{N:Nat}{w0 w:World}{S S':Nat->Prop}{m:Nat->Nat×Nat}{A A':Nat->Prop}{h:Heap}
theorem ajl{x:AV}{u:Value}(hl:rV x=true)(hv:VR ψ w S m A x u):VR ψ w S' m A' x u:=by cases hv<;>first | (constructor;done) | (simp[rV]at hl)
theorem aft(i:Inv ψ N w0 w S m A h){b z:Nat}{es:List (List AV)}{mu:Bool}(hg:get h b=some (.cells z es mu)) :
 Inv ψ N w0 w (λc=>S c\/c=(m b).1) m A (aS h [(b,some (.cells z es false))])/\Le w S m A w (λc=>S c\/c=(m b).1) m A/\∀c,c<N->(S c\/c=(m b).1)->S c:=by
 obtain⟨j1,j2⟩:=i.data (w':=w) (Sn:=λc=>S c\/c=(m b).1) (λ_ _=>rfl) (qxx _) rfl rfl (λc hc=>.inl hc) (λc hc=>by
  rcases hc with hc | rfl
  ·exact i.sb c hc
  ·exact(i.obj b _ hg).lt) [b] (λb' hb=>by
  simp only[qjj,qfz,q5x]at hb;subst hb;exact⟨z,es,mu,hg,.inr rfl⟩) (λc hc=>by
  rcases hc with hc | rfl
  ·exact .inl hc
  ·exact .inr (.inl ⟨b,by simp,rfl⟩))
 refine⟨?_,j2,λc hc hs=>?_⟩
 ·simpa [aY,hg]using j1
 ·rcases hs with q | rfl
  ·exact q
  ·cases mu with
   |true=>have:=(i.live b _ hg rfl).2;omega
   |false=>exact i.fro b _ hg rfl
end
end Go.Pav
end
