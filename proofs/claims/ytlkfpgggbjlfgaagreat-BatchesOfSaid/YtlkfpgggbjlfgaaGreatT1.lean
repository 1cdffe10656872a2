/- Part of the theory that the claims of this work use: PavDefs, PavMono, PavDen, PwDefs, PavComp, PavRel, PavInv, PavSnd1, PavSnd2, PavSnd3, PavSnd4, PavSnd5, PavSnd6, PavSnd7, PavMark. No conditions of its own. -/
import GoSem.Dispatch
import GoSem.Core.Program
import GoSem.Core.Region
import GoSem.Machine.Frame
import Derived.Laws.AppendOwn
import Derived.Laws.Strings
import Derived.Laws.Concat
import Derived.Laws.Cover1
import Derived.Great.BuildSlice
import Derived.Laws.StructEq
import Derived.Laws.Unary
import Derived.Laws.BytesString
theorem qqq {P:Prop} (h:P:=by omega):P:=h
theorem qqz {P:Prop} (h:P:=by simp):P:=h
theorem qqx {P:Prop} (h:P:=by simp;omega):P:=h
abbrev qqj:=@List.getElem?_eq_getElem
abbrev qwq:=@if_neg
abbrev qwz:=@if_pos
abbrev qwx:=@Option.some.injEq
abbrev qwj:=@List.drop_eq_nil_of_le
abbrev qzq:=@Bool.and_eq_true
abbrev qzz:=@List.take_of_length_le
abbrev qzx:=@List.mem_of_getElem?
abbrev qzj:=@Option.bind_eq_some_iff
abbrev qxq:=@Nat.le_refl
abbrev qxz:=@List.getElem?_eq_some_iff
abbrev qxx:=@List.getElem_mem
abbrev qxj:=@Array.getD_eq_getD_getElem?
abbrev qjq:=@List.drop_zero
abbrev qjz:=@Bool.false_eq_true
abbrev qjx:=@List.all_eq_true
abbrev qjj:=@List.mem_append
abbrev qkq:=@List.mem_cons
abbrev qkz:=@Int.tmod_eq_emod_of_nonneg
abbrev qkx:=@List.mem_flatMap
abbrev qkj:=@Prod.mk.injEq
abbrev qvq:=@Option.bind_eq_bind
abbrev qvz:=@List.map_cons
abbrev qvx:=@List.getElem_of_mem
abbrev qvj:=@decide_eq_true_eq
abbrev qyq:=@List.mem_map
abbrev qyz:=@List.mem_cons_of_mem
abbrev qyx:=@Option.map_eq_some_iff
abbrev qyj:=@Option.some.inj
abbrev qQq:=@List.length_map
abbrev qQz:=@List.mem_of_mem_drop
abbrev qQx:=@if_true
abbrev qQj:=@List.append_assoc
abbrev qWq:=@Array.getElem?_eq_some_iff
abbrev qWz:=@if_false
abbrev qWx:=@List.getElem?_map
abbrev qWj:=@Int.toNat_natCast
abbrev qZq:=@Bool.or_eq_false_iff
abbrev qZz:=@List.mem_of_mem_take
abbrev qZx:=@eq_true
abbrev qZj:=@List.getElem?_take
abbrev qXq:=@List.mem_cons_self
abbrev qXz:=@List.append_nil
abbrev qXx:=@Nat.lt_of_lt_of_le
abbrev qXj:=@List.length_eq_zero_iff
abbrev qJq:=@List.take_succ_eq_append_getElem
abbrev qJz:=@decide_eq_false
abbrev qJx:=@List.replicate_succ
abbrev qJj:=@List.nil_append
abbrev qKq:=@List.getElem?_drop
abbrev qKz:=@List.length_take
abbrev qKx:=@Int.tdiv_eq_ediv_of_nonneg
abbrev qKj:=@Nat.mul_le_mul_right
abbrev qVq:=@Nat.zero_add
abbrev qVz:=@List.map_map
abbrev qVx:=@List.mem_singleton
abbrev qVj:=@decide_eq_true
abbrev qYq:=@Nat.add_mul
abbrev qYz:=@List.getElem?_append_left
abbrev qYx:=@Option.getD_some
abbrev qYj:=@Bool.true_and
abbrev qaq:=@List.length_drop
abbrev qaz:=@List.length_cons
abbrev qax:=@List.map_nil
abbrev qaj:=@List.length_nil
abbrev qbq:=@List.drop_eq_getElem_cons
abbrev qbz:=@Nat.add_zero
abbrev qbx:=@List.map_drop
abbrev qbj:=@List.getElem?_append
abbrev qcq:=@Array.getElem?_setIfInBounds_ne
abbrev qcz:=@List.map_append
abbrev qcx:=@Bool.not_eq_true'
abbrev qcj:=@Ne.symm
abbrev qdq:=@List.not_mem_nil
abbrev qdz:=@List.all_cons
abbrev qdx:=@Bool.false_or
abbrev qdj:=@List.map_take
abbrev qeq:=@Array.getElem?_toList
abbrev qez:=@List.getElem?_toArray
abbrev qex:=@List.take_append_drop
abbrev qej:=@Nat.le_trans
abbrev qfq:=@List.ext_getElem?
abbrev qfz:=@List.cons_append
abbrev qfx:=@Bool.true_or
abbrev qfj:=@List.contains_iff_mem
abbrev qgq:=@Nat.add_assoc
abbrev qgz:=@List.eq_of_mem_replicate
abbrev qgx:=@List.mem_filter
abbrev qgj:=@List.pairwise_cons
abbrev qhq:=@Int.emod_lt_of_pos
abbrev qhz:=@List.getElem?_cons_succ
abbrev qhx:=@List.any_eq_true
abbrev qhj:=@List.isEmpty_iff
abbrev qiq:=@Option.map_some
abbrev qiz:=@Array.getElem?_eq_getElem
abbrev qix:=@List.mem_or_eq_of_mem_set
abbrev qij:=@List.getElem?_eq_none
abbrev qlq:=@List.length_append
abbrev qlz:=@Bool.and_self
abbrev qlx:=@List.mem_append_left
abbrev qlj:=@List.contains_eq_mem
abbrev qmq:=@List.getElem?_replicate
abbrev qmz:=@Nat.lt_succ_of_lt
abbrev qmx:=@decide_eq_false_iff_not
abbrev qmj:=@not_true_eq_false
abbrev qnq:=@Int.emod_nonneg
abbrev qnz:=@Int.toNat_of_nonneg
abbrev qnx:=@Nat.le_max_right
abbrev qnj:=@List.mem_reverse
abbrev qoq:=@List.getD_eq_getElem?_getD
abbrev qoz:=@List.getElem?_append_right
abbrev qox:=@Classical.choose_spec
abbrev qoj:=@List.sizeOf_lt_of_mem
abbrev qpq:=@Classical.byContradiction
abbrev qpz:=@List.all_append
abbrev qpx:=@List.getElem?_set
abbrev qpj:=@List.flatMap_cons
abbrev qrq:=@Nat.lt_irrefl
abbrev qrz:=@Array.getElem?_push
abbrev qrx:=@List.getElem?_range
abbrev qrj:=@List.map_congr_left
abbrev qsq:=@List.map_reverse
abbrev qsz:=@Bool.false_and
abbrev qsx:=@Nat.le_add_right
abbrev qsj:=@Nat.lt_or_ge
abbrev qtq:=@List.getElem?_set_self
abbrev qtz:=@Bool.or_eq_true
abbrev qtx:=@List.nodup_cons
abbrev qtj:=@Bool.and_true
abbrev quq:=@List.mem_append_right
abbrev quz:=@List.length_replicate
abbrev quj:=@List.nodup_append
abbrev q0q:=@List.take_add_one
abbrev q0x:=@or_false
abbrev q0j:=@List.getElem?_of_mem
abbrev q1q:=@Nat.zero_mul
abbrev q1x:=@Nat.mul_comm
abbrev q1j:=@Nat.lt_succ_self
abbrev q2q:=@List.filter_cons
abbrev q2x:=@List.getElem?_eq_none_iff
abbrev q2j:=@Nat.le_max_left
abbrev q3q:=@List.foldl_cons
abbrev q3x:=@List.cons.injEq
abbrev q3j:=@Option.isSome_none
abbrev q4q:=@Array.empty_append
abbrev q4x:=@Nat.add_sub_cancel
abbrev q4j:=@List.not_lt
abbrev q5q:=@true_and
abbrev q5x:=@List.any_eq_false
abbrev q5j:=@List.cons_lt_cons_iff
abbrev q6q:=@List.ext_getElem
abbrev q6x:=@Int.natCast_zero
abbrev q6j:=@Nat.one_mul
abbrev q7q:=@Nat.div_lt_of_lt_mul
abbrev q7z:=@decide_true
abbrev q7x:=@Nat.min_eq_left
abbrev q7j:=@Array.length_toList
abbrev q8q:=@Nat.ne_of_lt
abbrev q8z:=@List.all_nil
abbrev q8x:=@Int.zero_add
abbrev q8j:=@false_and
abbrev q9q:=@Array.getElem?_map
abbrev q9z:=@Array.ext'
abbrev q9x:=@Nat.pos_of_ne_zero
abbrev q9j:=@Bool.not_false
abbrev zqq:=@Array.getElem?_append_left
abbrev zqz:=@Bool.and_false
abbrev zqx:=@List.extract_eq_take_drop
abbrev zqj:=@List.mem_take_iff_getElem
abbrev zwq:=@Bool.not_eq_false
abbrev zwz:=@of_decide_eq_true
abbrev zwx:=@List.take_nil
abbrev zwj:=@List.drop_nil
abbrev zzq:=@Nat.le_mul_of_pos_right
abbrev zzx:=@Option.bind_some
abbrev zzj:=@Classical.axiomOfChoice
abbrev zxq:=@ByteArray.data_extract
abbrev zxz:=@Nat.blt_eq
abbrev zxx:=@Option.pure_def
abbrev zxj:=@Nat.min_le_left
abbrev zjq:=@List.map_const'
abbrev zjz:=@Array.getElem?_append
abbrev zjx:=@List.perm_append_comm
abbrev zjj:=@List.filter_replicate
abbrev zkq:=@List.length_filter_le
abbrev zkz:=@List.mapM_cons
abbrev zkx:=@Nat.le_succ
abbrev zkj:=@false_or
abbrev zvq:=@List.mem_range
abbrev zvz:=@List.take_zero
abbrev zvx:=@List.drop_drop
abbrev zvj:=@Bool.not_true
abbrev zyq:=@Nat.mod_lt
abbrev zyz:=@beq_iff_eq
abbrev zyx:=@decide_false
abbrev zyj:=@dif_pos
abbrev zQq:=@Iff.rfl
section
set_option linter.unusedSimpArgs false
set_option linter.unusedVariables false
namespace Go.Pav
open Go
inductive AV where
 | undef
 | bool (b:Bool)
 | int (k:IntKind) (n:Int)
 | str (s:List UInt8)
 | eH
 | bF
 | dU
 | bQ
 | ro (z:Nat) (es:List (List AV)) (ex:Bool)
 | rop (cs:List AV)
 | ptr (b i o:Nat)
 | sl (b z i len cap:Nat) (ex:Bool)
 | map (b:Nat)
 | fn (f:Nat) (caps:List AV)
 | agg (cs:List AV)
 | tup (vs:List AV)
 deriving Inhabited
inductive jr where
 | cells (z:Nat) (es:List (List AV)) (mu:Bool)
 | map (es:List (AV × AV))
 | iter (s:List UInt8) (pos:Nat)
 deriving Inhabited
abbrev Env:=List (Nat × AV)
abbrev Heap:=List (Nat × jr)
def get {α:Type}:List (Nat × α)->Nat->Option α
 | [],_=>none
 | (k,v)::r,n=>if k=n then some v else get r n
def put {α:Type}:List (Nat × α)->Nat->α->List (Nat × α)
 | [],n,x=>[(n,x)]
 | (k,v)::r,n,x=>if k=n then (n,x)::r else if n<=k then (n,x)::(k,v)::r else (k,v)::put r n x
def del {α:Type}:List (Nat × α)->Nat->List (Nat × α)
 | [],_=>[]
 | (k,v)::r,n=>if k=n then del r n else (k,v)::del r n
def keep {α:Type} (m:Nat):List (Nat × α)->List (Nat × α)
 | []=>[]
 | (k,v)::r=>if m.testBit k then (k,v)::keep m r else keep m r
def below {α:Type} (n:Nat):List (Nat × α)->List (Nat × α)
 | []=>[]
 | (k,v)::r=>if k < n then (k,v)::below n r else below n r
def ob {α β:Type} (x:Option α) (f:α->Option β):Option β :=
 match x with
 | some a=>f a
 | none=>none
def om {α β:Type} (x:Option α) (f:α->β):Option β :=
 match x with
 | some a=>some (f a)
 | none=>none
def og {β:Type} (c:Bool) (x:Option β):Option β :=
 match c with
 | true=>x
 | false=>none
def aZ {α β:Type} (f:α->Option β):List α->Option (List β)
 | []=>some []
 | a::r=>ob (f a) λb=>om (aZ f r) λbs=>b::bs
def nat?:Int->Option Nat
 | .ofNat n=>some n
 | .negSucc _=>none
def bytesLess:List UInt8->List UInt8->Bool
 | _,[]=>false
 | [],_::_=>true
 | a::x,b::y=>decide (a < b)||(decide (a=b)&&bytesLess x y)
inductive Opd where
 | t (s:Nat)
 | c (v:AV)
 deriving Inhabited
inductive COp where
 | mv (x:Opd)
 | pick (c a b:Opd)
 | alloc (z:List AV)
 | box (x:Opd)
 | build (z:List AV) (ps:List (Nat × Nat × Opd))
 | aP (z:List AV) (len:Nat) (ps:List (Nat × Opd))
 | load (n:Nat) (ag:Bool) (a:Opd)
 | store (n:Nat) (a x:Opd)
 | jQ (x:Opd)
 | bin (op:BinOp) (x y:Opd)
 | eqv (kd:Nat) (ks:List Nat) (ne:Bool) (x y:Opd)
 | un (op:UnOp) (x:Opd)
 | cvt (k:IntKind) (x:Opd)
 | cvs (x:Opd)
 | cvb (x:Opd)
 | iW (f:Nat) (caps:List Opd)
 | lY
 | kE (z:List AV) (bytes:Nat) (l c:Opd)
 | slice (z:Nat) (x:Opd) (lo hi mx:Option Opd)
 | gX (n:Nat) (x:Opd) (lo hi:Option Opd)
 | fld (off:Nat) (x:Opd)
 | yU (off n:Nat) (ag:Bool) (x:Opd)
 | idxs (z:Nat) (x i:Opd)
 | gq (len z:Nat) (x i:Opd)
 | fB (x i:Opd)
 | vI (len z:Nat) (ag:Bool) (x i:Opd)
 | look (kd:Nat) (z:AV) (ok:Bool) (m k:Opd)
 | upd (kd:Nat) (m k v:Opd)
 | range (x:Opd)
 | next (x:Opd)
 | ext (i:Nat) (x:Opd)
 | call (f:Nat) (args:List Opd)
 | dN (g:Opd) (args:List Opd)
 | len (kd:Nat) (x:Opd)
 | cap (x:Opd)
 | app (z:List AV) (bytes:Nat) (zeros:Bool) (s x:Opd)
 | cpy (z:Nat) (d s:Opd)
 | clr (z:List AV) (d:Opd)
 | mx (x y:Opd)
 | mn (x y:Opd)
 | fail
 deriving Inhabited
structure bg where
 dst:Option Nat
 guard:Option (Nat × Bool)
 op:COp
 deriving Inhabited
inductive bn where
 | skip
 | ops (l:List bg) (live:Nat × List Nat)
 | draw (l:List bg) (un:List (Nat × Nat)) (live:Nat × List Nat)
 | seq (a b:bn)
 | cond (c:Opd) (a b:bn)
 | block (id:Nat) (b:bn)
 | loop (live:Nat) (b:bn)
 | exit (id:Nat)
 | ret
 | fail
 deriving Inhabited
inductive vK where
 | tmp (t:Nat)
 | cell (t n:Nat) (ag:Bool)
 deriving Inhabited
structure CFn where
 np:Nat
 res:List vK
 body:bn
 deriving Inhabited
def mz:bn->bn
 | .ops l _=>.ops l (0,[])
 | .draw l un _=>.draw l un (0,[])
 | .seq a b=>.seq (mz a) (mz b)
 | .cond c a b=>.cond c (mz a) (mz b)
 | .block id b=>.block id (mz b)
 | .loop _ b=>.loop 0 (mz b)
 | c=>c
def IU (f:CFn):CFn:=⟨f.np,f.res,mz f.body⟩
inductive Tree where
 | leaf
 | node (l:Tree) (k:Nat) (f:CFn) (r:Tree)
 deriving Inhabited
def Tree.get:Tree->Nat->Option CFn
 | .leaf,_=>none
 | .node l k f r,n=>if n=k then some f else if n<=k then l.get n else r.get n
structure Prog where
 fns:Tree
 inl:Nat->Bool
 /-- which of them may be given pointers that they only read -/
 pp:Nat->Bool
def Opd.ev (x:Opd) (e:Env):AV :=
 match x with
 | .t s=>(get e s).getD .undef
 | .c v=>v
def AV.cells:AV->List AV
 | .agg cs=>cs
 | v=>[v]
def AV.cell:AV->Bool
 | .agg _=>false
 | .tup _=>false
 | .undef=>false
 | _=>true
def frz (h:Heap):Nat->AV->Option AV
 | 0,_=>none
 | n+1,v=>match v with
  | .undef=>none
  | .ptr b i o=>match get h b with
   | some (.cells _ es _)=>ob es[i]? λcs=>om (aZ (frz h n) (cs.drop o)) λcs'=>.rop cs'
   | _=>none
  | .map _=>none
  | .sl b z i len cap ex=>match get h b with
   | some (.cells _ es _)=>ob (aZ (aZ (frz h n)) ((es.drop i).take len)) λes' =>og (decide (es'.length=len)) (some (.ro z es' (ex&&decide (cap=len))))
   | _=>none
  | .fn f caps=>om (aZ (frz h n) caps) λcs=>.fn f cs
  | .agg cs=>om (aZ (frz h n) cs) λcs=>.agg cs
  | .tup vs=>om (aZ (frz h n) vs) λvs=>.tup vs
  | .bool b=>some (.bool b)
  | .int k x=>some (.int k x)
  | .str s=>some (.str s)
  | .eH=>some .eH
  | .bF=>some .bF
  | .dU=>some .dU
  | .bQ=>some .bQ
  | .ro z es ex=>some (.ro z es ex)
  | .rop cs=>some (.rop cs)
def ay:Nat:=16
def reach (h:Heap):Nat->AV->List Nat
 | 0,_=>[]
 | n+1,v=>match v with
  | .ptr b i o=>b::(match get h b with
   | some (.cells _ es _)=>((es[i]?.getD []).drop o).flatMap (reach h n)
   | _=>[])
  | .sl b _ i len _ _=>b::(match get h b with
   | some (.cells _ es _)=>((es.drop i).take len).flatMap λe=>e.flatMap (reach h n)
   | _=>[])
  | .fn _ caps=>caps.flatMap (reach h n)
  | .agg cs=>cs.flatMap (reach h n)
  | .tup vs=>vs.flatMap (reach h n)
  | _=>[]
def fP:Nat->AV->Bool
 | 0,_=>true
 | n+1,v=>match v with
  | .ro _ _ _=>true
  | .rop _=>true
  | .fn _ caps=>caps.any (fP n)
  | .agg cs=>cs.any (fP n)
  | .tup vs=>vs.any (fP n)
  | _=>false
def under (b0:Nat):Nat->AV->Bool
 | 0,_=>false
 | n+1,v=>match v with
  | .ptr b _ _=>decide (b < b0)
  | .sl b _ _ _ _ _=>decide (b < b0)
  | .map b=>decide (b < b0)
  | .fn _ caps=>caps.all (under b0 n)
  | .agg cs=>cs.all (under b0 n)
  | .tup vs=>vs.all (under b0 n)
  | _=>true
def jr.under (b0:Nat):jr->Bool
 | .cells _ es _=>es.all λe=>e.all (Pav.under b0 ay)
 | .map es=>es.all λx=>Pav.under b0 ay x.1&&Pav.under b0 ay x.2
 | .iter _ _=>true
abbrev Upd:=List (Nat × Option jr)
def uX (h:Heap) (b:Nat):Option jr->Heap
 | some o=>put h b o
 | none=>del h b
def aQ:Heap->Upd->Heap
 | h,[]=>h
 | h,(b,o)::r=>aQ (uX h b o) r
def aW (h:Heap):List Nat->Upd
 | []=>[]
 | b::r=>match get h b with
  | some (.cells z es _)=>(b,some (.cells z es false))::aW h r
  | _=>aW h r
def D7 (op:BinOp) (k:IntKind) (x y:Int):Option AV :=
 match op with
 | .add=>some (.int k (k.wrap (x+y)))
 | .sub=>some (.int k (k.wrap (x - y)))
 | .mul=>some (.int k (k.wrap (x * y)))
 | .quo=>if y=0 then none else some (.int k (k.wrap (x.tdiv y)))
 | .rem=>if y=0 then none else some (.int k (x.tmod y))
 | .and=>some (.int k (k.wrap (BitVec.ofInt k.bits x &&& BitVec.ofInt k.bits y).toNat))
 | .or=>some (.int k (k.wrap (BitVec.ofInt k.bits x ||| BitVec.ofInt k.bits y).toNat))
 | .xor=>some (.int k (k.wrap (BitVec.ofInt k.bits x ^^^ BitVec.ofInt k.bits y).toNat))
 | .andNot=>some (.int k (k.wrap (BitVec.ofInt k.bits x &&& ~~~ BitVec.ofInt k.bits y).toNat))
 | .eql=>some (.bool (x == y))
 | .neq=>some (.bool (x != y))
 | .lss=>some (.bool (x < y))
 | .leq=>some (.bool (x<=y))
 | .gtr=>some (.bool (x > y))
 | .geq=>some (.bool (x ≥ y))
 | .shl=>none
 | .shr=>none
def su (op:BinOp) (k:IntKind) (x:Int) (n:Nat):Option AV :=
 match op with
 | .shl=>some (.int k (k.wrap (x * 2 ^ (min n k.bits))))
 | .shr=>some (.int k (x.fdiv (2 ^ (min n k.bits))))
 | _=>none
def maxStr:Nat:=1099511627776
def D6 (op:BinOp) (x y:List UInt8):Option AV :=
 match op with
 | .add=>if x.length+y.length<=maxStr then some (.str (x++y)) else none
 | .eql=>some (.bool (x == y))
 | .neq=>some (.bool (!(x == y)))
 | .lss=>some (.bool (bytesLess x y))
 | .leq=>some (.bool (bytesLess x y||x == y))
 | .gtr=>some (.bool (!(bytesLess x y||x == y)))
 | .geq=>some (.bool (!bytesLess x y))
 | _=>none
def Am:BinOp->Bool
 | .shl=>true
 | .shr=>true
 | _=>false
def yY (op:BinOp) (x y:AV):Option AV :=
 match x,y with
 | .int k a,.int k' b=>if Am op then ob (nat? b) (su op k a) else if k=k' then D7 op k a b else none
 | .str a,.str b=>D6 op a b
 | _,_=>none
def iO:AV->AV->Option Bool
 | .int k a,.int k' b=>if k=k' then some (a == b) else none
 | .str a,.str b=>some (a == b)
 | .bool a,.bool b=>some (a == b)
 | _,_=>none
def kT (kd:Nat):AV->Bool
 | .int _ _=>decide (kd=0)
 | .str _=>decide (kd=1)
 | .bool _=>decide (kd=2)
 | _=>false
def iH:List Nat->List AV->List AV->Option Bool
 | [],[],[]=>some true
 | k::ks,a::x,b::y=>if kT k a=true then ob (iO a b) λr=>om (iH ks x y) λs=>r&&s else none
 | _,_,_=>none
def Vr:AV->AV->Option Bool
 | .bF,.bF=>some true
 | .bF,.ro _ _ _=>some false
 | .bF,.sl _ _ _ _ _ _=>some false
 | .ro _ _ _,.bF=>some false
 | .sl _ _ _ _ _ _,.bF=>some false
 | _,_=>none
def eqFn:AV->AV->Option Bool
 | .bQ,.bQ=>some true
 | .bQ,.fn _ _=>some false
 | .fn _ _,.bQ=>some false
 | _,_=>none
def KI:AV->AV->Option Bool
 | .eH,.eH=>some true
 | .eH,.ptr _ _ _=>some false
 | .ptr _ _ _,.eH=>some false
 | .eH,.rop _=>some false
 | .rop _,.eH=>some false
 | _,_=>none
def KT:AV->AV->Option Bool
 | .dU,.dU=>some true
 | .dU,.map _=>some false
 | .map _,.dU=>some false
 | _,_=>none
def KU (ks:List Nat):AV->AV->Option Bool
 | .agg x,.agg y=>iH ks x y
 | _,_=>none
def Dv:AV->AV->Option Bool
 | .bool a,.bool b=>some (a == b)
 | _,_=>none
def iK (kd:Nat) (ks:List Nat) (x y:AV):Option Bool :=if kd=0 then Vr x y else if kd=1 then eqFn x y else if kd=2 then KI x y else if kd=3 then KT x y else if kd=4 then KU ks x y else Dv x y
def Tm (op:UnOp):AV->Option AV
 | .int k n=>match op with
  | .neg=>some (.int k (k.wrap (0 - n)))
  | .xor=>some (.int k (k.wrap (BitVec.ofInt k.bits (if k.signed then -1 else k.max) ^^^ BitVec.ofInt k.bits n).toNat))
  | _=>none
 | .bool b=>match op with
  | .not=>some (.bool (!b))
  | _=>none
 | _=>none
def splice (cs:List AV) (off:Nat) (v:List AV):List AV:=cs.take off++(v++cs.drop (off+v.length))
def qB (e:Env):List AV->List (Nat × Nat × Opd)->Option (List AV)
 | cs,[]=>some cs
 | cs,(off,n,x)::r =>if (x.ev e).cells.length=n/\off+n<=cs.length/\(x.ev e).cells.all AV.cell=true then qB e (splice cs off (x.ev e).cells) r else none
def kZ (e:Env) (z:Nat):List (List AV)->List (Nat × Opd)->Option (List (List AV))
 | es,[]=>some es
 | es,(i,x)::r =>if (x.ev e).cells.length=z/\i < es.length/\(x.ev e).cells.all AV.cell=true then kZ e z (es.set i (x.ev e).cells) r else none
def elems (h:Heap) (z:Nat):AV->Option (List (List AV))
 | .bF=>some []
 | .ro z' es _=>if z'=z then some es else none
 | .sl b z' i len _ _=>if z'=z then (match get h b with
  | some (.cells _ es _)=>if i+len<=es.length then some ((es.drop i).take len) else none
  | _=>none) else none
 | .str s=>if z=1 then some (s.map λc=>[.int .u8 c.toNat]) else none
 | _=>none
def dD:Nat:=35184372088832
def newRow (nid zl n bytes:Nat) (xs:List (List AV)):Option (AV × Upd) :=if n * (bytes+1)<=dD then some (.sl nid zl 0 n n false,[(nid,some (.cells zl xs true))]) else none
def ad6 (o:Option jr) (nid zl bytes:Nat) (b i len cap:Nat) (ex:Bool) (xs:List (List AV)) (n:Nat):Option (AV × Upd) :=
 match o with
 | some (.cells zb es mu) =>
  if zb=zl then
   if n<=cap then
    if mu=true/\i+n<=es.length then some (.sl b zl i n cap ex,[(b,some (.cells zl (es.take (i+len)++(xs++es.drop (i+n))) true))]) else none
   else if ex then
    if i+len<=es.length then newRow nid zl n bytes ((es.drop i).take len++xs) else none
   else if mu=true/\i=0/\es.length=len/\n * (bytes+1)<=dD then
    some (.sl nid zl 0 n n false,[(b,none),(nid,some (.cells zl (es++xs) true))])
   else none
  else none
 | _=>none
def kW (h:Heap) (nid zl bytes:Nat) (s:AV) (xs:List (List AV)):Option (AV × Upd) :=
 match s with
 | .bF=>match xs with
  | []=>some (.bF,[])
  | _=>newRow nid zl xs.length bytes xs
 | .ro z' es ex=>if z'=zl then (match xs with
  | []=>some (s,[])
  | _=>if ex then newRow nid zl (es.length+xs.length) bytes (es++xs) else none) else none
 | .sl b z' i len cap ex=>if z'=zl then (match xs with
  | []=>some (s,[])
  | _=>ad6 (get h b) nid zl bytes b i len cap ex xs (len+xs.length)) else none
 | _=>none
def bound (v:Option AV) (d:Nat):Option Nat :=
 match v with
 | none=>some d
 | some (.int _ n)=>nat? n
 | some _=>none
def wz (s:List UInt8) (lo hi mx:Option AV):Option AV :=
 match mx with
 | none=>ob (bound hi s.length) λh=>ob (bound lo 0) λl =>if l<=h/\h<=s.length then some (.str ((s.take h).drop l)) else none
 | some _=>none
def kC (lo hi mx:Option AV):Option AV :=ob (bound mx 0) λm=>ob (bound hi 0) λh=>ob (bound lo 0) λl =>if l=0/\h=0/\m=0/\¬(mx.isSome=true/\hi.isNone=true) then some .bF else none
def ig (z:Nat) (es:List (List AV)) (ex:Bool) (lo hi mx:Option AV):Option AV :=
 match mx with
 | none=>ob (bound hi es.length) λh=>ob (bound lo 0) λl =>if l<=h/\h<=es.length then some (.ro z ((es.take h).drop l) (ex&&decide (h=es.length))) else none
 | some m=>ob (bound (some m) 0) λm=>ob hi λh=>ob (bound (some h) 0) λh=>ob (bound lo 0) λl =>if l<=h/\h<=m/\m<=es.length then some (.ro z ((es.take h).drop l) (decide (m=h))) else none
def mZ (b z i len cap:Nat) (ex:Bool) (lo hi mx:Option AV):Option AV :=
 match mx with
 | none=>ob (bound hi len) λh=>ob (bound lo 0) λl =>
  if l<=h/\h<=cap/\len<=cap then
   if l < cap then some (.sl b z (i+l) (h - l) (cap - l) ex)
   else if l=0 then some (.sl b z i h cap ex) else some (.ro z [] ex)
  else none
 | some m=>ob (bound (some m) 0) λm=>ob hi λh=>ob (bound (some h) 0) λh=>ob (bound lo 0) λl =>
  if l<=h/\h<=m/\m<=cap then
   if l < m then some (.sl b z (i+l) (h - l) (m - l) true) else some (.sl b z i 0 0 true)
  else none
def iq (k:Nat) (x:AV) (lo hi mx:Option AV):Option AV :=
 match x with
 | .str s=>if k=0 then wz s lo hi mx else none
 | .bF=>if k=0 then none else kC lo hi mx
 | .ro z es ex=>if k≠0/\z=k then ig z es ex lo hi mx else none
 | .sl b z i len cap ex=>if k≠0/\z=k then mZ b z i len cap ex lo hi mx else none
 | _=>none
def rF:AV->Bool
 | .bool _=>true
 | .int _ _=>true
 | .str _=>true
 | _=>false
def jZ (n:Nat) (cs:List AV) (lo hi:Option AV):Option AV :=if n<=cs.length/\(cs.take n).all rF=true then ig 1 ((cs.take n).map λx=>[x]) true lo hi none else none
def sliceAt (n b i o:Nat) (lo hi:Option AV):Option jr->Option (AV × Upd)
 | some (.cells z es _)=>ob es[i]? λcs=>om (jZ n (cs.drop o) lo hi) λr=>(r,[(b,some (.cells z es false))])
 | _=>none
def wK (h:Heap) (n:Nat) (v:AV) (lo hi:Option AV):Option (AV × Upd) :=
 match v with
 | .rop cs=>om (jZ n cs lo hi) λr=>(r,[])
 | .ptr b i o=>sliceAt n b i o lo hi (get h b)
 | _=>none
def mQ:List (AV × AV)->AV->Option (Option AV)
 | [],_=>some none
 | (k,v)::r,x=>ob (iO x k) λc=>if c then some (some v) else mQ r x
def kN:List (AV × AV)->AV->AV->Option (List (AV × AV))
 | [],x,w=>some [(x,w)]
 | (k,v)::r,x,w=>ob (iO x k) λc=>if c then some ((x,w)::r) else om (kN r x w) λl=>(k,v)::l
def qO (n:Nat) (ag:Bool) (cs:List AV):Option AV :=if ag then (if n<=cs.length then some (.agg (cs.take n)) else none) else cs.head?
def ov (x:Option AV):Option (AV × Upd):=om x λv=>(v,[])
abbrev Step:=Env->Heap->Nat->Option (AV × Upd)
def sMv (x:Opd):Step:=λe _ _=>some (x.ev e,[])
def ES (c a b:Opd):Step:=λe _ _=>match c.ev e with
 | .bool t=>some (if t then a.ev e else b.ev e,[])
 | _=>none
def abd (z:List AV):Step:=λ_ _ nid=>some (.ptr nid 0 0,[(nid,some (.cells z.length [z] true))])
def boxed (cs:List AV) (nid:Nat):Option (AV × Upd):=if cs.all AV.cell=true then some (.ptr nid 0 0,[(nid,some (.cells cs.length [cs] true))]) else none
def ai9 (x:Opd):Step:=λe _ nid=>boxed (x.ev e).cells nid
def Eo (z:List AV) (ps:List (Nat × Nat × Opd)):Step:=λe _ _=>om (qB e z ps) λcs=>(.agg cs,[])
def Ci (z:List AV) (len:Nat) (ps:List (Nat × Opd)):Step:=λe _ nid =>om (kZ e z.length (List.replicate len z) ps) λes=>(.sl nid z.length 0 len len true,[(nid,some (.cells z.length es true))])
def loadAt (n:Nat) (ag:Bool) (o i:Nat):Option jr->Option AV
 | some (.cells _ es _)=>ob es[i]? λcs=>qO n ag (cs.drop o)
 | _=>none
def Ea (n:Nat) (ag:Bool) (h:Heap):AV->Option AV
 | .rop cs=>qO n ag cs
 | .ptr b i o=>loadAt n ag o i (get h b)
 | _=>none
def adg (n:Nat) (ag:Bool) (a:Opd):Step:=λe h _=>ov (Ea n ag h (a.ev e))
def storeAt (n b i o:Nat) (v:List AV):Option jr->Option (AV × Upd)
 | some (.cells z es mu)=>if mu then ob es[i]? λcs=>if o+n<=cs.length then some (.tup [],[(b,some (.cells z (es.set i (splice cs o v)) true))]) else none else none
 | _=>none
def Dq (n:Nat) (h:Heap) (v:List AV):AV->Option (AV × Upd)
 | .ptr b i o=>storeAt n b i o v (get h b)
 | _=>none
def Oi (n:Nat) (a x:Opd):Step:=λe h _ =>if (x.ev e).cells.length=n/\(x.ev e).cells.all AV.cell=true then Dq n h (x.ev e).cells (a.ev e) else none
def mW (x:Opd):Step:=λe _ _=>match x.ev e with
 | .ptr b i o=>some (.ptr b i o,[])
 | .rop cs=>some (.rop cs,[])
 | .fn f cs=>some (.fn f cs,[])
 | _=>none
def adD (op:BinOp) (x y:Opd):Step:=λe _ _=>ov (yY op (x.ev e) (y.ev e))
def JD (kd:Nat) (ks:List Nat) (ne:Bool) (x y:Opd):Step:=λe _ _=>om (iK kd ks (x.ev e) (y.ev e)) λb=>(.bool (b != ne),[])
def sUn (op:UnOp) (x:Opd):Step:=λe _ _=>ov (Tm op (x.ev e))
def Tn (k:IntKind) (x:Opd):Step:=λe _ _=>match x.ev e with
 | .int _ n=>some (.int k (k.wrap n),[])
 | _=>none
def bytesOf:List (List AV)->Option (List UInt8)
 | []=>some []
 | e::r=>match e with
  | [.int .u8 n]=>om (bytesOf r) λs=>UInt8.ofNat n.toNat::s
  | _=>none
def TI:AV->Option AV
 | .bF=>some (.str [])
 | .ro z es _=>if z=1 then om (bytesOf es) λs=>.str s else none
 | _=>none
def RX (x:Opd):Step:=λe _ _=>ov (TI (x.ev e))
def S9 (x:Opd):Step:=λe _ _=>match x.ev e with
 | .str s=>some (.str s,[])
 | _=>none
def Bj (f:Nat) (caps:List Opd):Step:=λe _ _ =>if (caps.all λx=>(x.ev e).cell)=true then some (.fn f (caps.map λx=>x.ev e),[]) else none
def ab3:Step:=λ_ _ nid=>some (.map nid,[(nid,some (.map []))])
def Xq (z:List AV) (bytes:Nat) (l c:Opd):Step:=λe _ nid=>match l.ev e,c.ev e with
 | .int _ l,.int _ c=>ob (nat? l) λl=>ob (nat? c) λc =>if l<=c/\c * (bytes+1)<=dD then some (.sl nid z.length 0 l c true,[(nid,some (.cells z.length (List.replicate c z) true))]) else none
 | _,_=>none
def oev (e:Env):Option Opd->Option AV
 | some x=>some (x.ev e)
 | none=>none
def Dl (n:Nat) (x:Opd) (lo hi:Option Opd):Step:=λe h _=>wK h n (x.ev e) (oev e lo) (oev e hi)
def Ef (z:Nat) (x:Opd) (lo hi mx:Option Opd):Step:=λe _ _=>ov (iq z (x.ev e) (oev e lo) (oev e hi) (oev e mx))
def O1 (off:Nat) (x:Opd):Step:=λe _ _=>match x.ev e with
 | .rop cs=>some (.rop (cs.drop off),[])
 | .ptr b i o=>some (.ptr b i (o+off),[])
 | _=>none
def EP (off n:Nat) (ag:Bool) (x:Opd):Step:=λe _ _=>match x.ev e with
 | .agg cs=>ov (qO n ag (cs.drop off))
 | _=>none
def uo (z n:Nat):AV->Option (AV × Upd)
 | .ro z' es _=>if z'=z then ob es[n]? λcs=>some (.rop cs,[]) else none
 | .sl b z' j len _ _=>if z'=z/\n < len then some (.ptr b (j+n) 0,[]) else none
 | _=>none
def ED (z:Nat) (x i:Opd):Step:=λe _ _=>match i.ev e with
 | .int _ n=>ob (nat? n) λn=>uo z n (x.ev e)
 | _=>none
def tu (z n:Nat):AV->Option (AV × Upd)
 | .rop cs=>some (.rop (cs.drop (n * z)),[])
 | .ptr b j o=>some (.ptr b j (o+n * z),[])
 | _=>none
def EH (len z:Nat) (x i:Opd):Step:=λe _ _=>match i.ev e with
 | .int _ n=>ob (nat? n) λn=>if n < len then tu z n (x.ev e) else none
 | _=>none
def qF (x i:Opd):Step:=λe _ _=>match x.ev e,i.ev e with
 | .str s,.int _ n=>ob (nat? n) λn=>ob s[n]? λc=>some (.int .u8 c.toNat,[])
 | _,_=>none
def Ey (len z:Nat) (ag:Bool) (x i:Opd):Step:=λe _ _=>match x.ev e,i.ev e with
 | .agg cs,.int _ n=>ob (nat? n) λn=>if n < len then ov (qO z ag (cs.drop (n * z))) else none
 | _,_=>none
def found (z:AV) (ok:Bool) (r:Option AV):AV :=if ok then .tup [r.getD z,.bool r.isSome] else r.getD z
def lookIn (z:AV) (ok:Bool) (k:AV):Option jr->Option AV
 | some (.map es)=>om (mQ es k) (found z ok)
 | _=>none
def KR (kd:Nat) (z:AV) (ok:Bool) (m k:Opd):Step:=λe h _=>if kT kd (k.ev e)=true then (match m.ev e with
 | .dU=>some (found z ok none,[])
 | .map b=>ov (lookIn z ok (k.ev e) (get h b))
 | _=>none) else none
def ac4 (b:Nat) (k v:AV):Option jr->Option (AV × Upd)
 | some (.map es)=>om (kN es k v) λes'=>(.tup [],[(b,some (.map es'))])
 | _=>none
def agd (kd:Nat) (m k v:Opd):Step:=λe h _=>if kT kd (k.ev e)=true then (match m.ev e with
 | .map b=>ac4 b (k.ev e) (v.ev e) (get h b)
 | _=>none) else none
def QG (x:Opd):Step:=λe _ nid=>match x.ev e with
 | .str s=>some (.ptr nid 0 0,[(nid,some (.iter s 0))])
 | _=>none
def nextIter (b:Nat):Option jr->Option (AV × Upd)
 | some (.iter s pos)=>if pos < s.length then
  some (.tup [.bool true,.int .i64 pos,.int .i32 (Utf8.decode ⟨⟨s⟩⟩ pos).1],[(b,some (.iter s (pos+(Utf8.decode ⟨⟨s⟩⟩ pos).2)))])
  else some (.tup [.bool false],[])
 | _=>none
def TW (x:Opd):Step:=λe h _=>match x.ev e with
 | .ptr b 0 0=>nextIter b (get h b)
 | _=>none
def Rz (i:Nat) (x:Opd):Step:=λe _ _=>match x.ev e with
 | .tup vs=>ov vs[i]?
 | _=>none
def Wy:Option jr->Option AV
 | some (.map es)=>some (.int .i64 es.length)
 | _=>none
def oz (kd:Nat) (h:Heap):AV->Option AV
 | .str s=>if kd=0 then some (.int .i64 s.length) else none
 | .bF=>if kd=1 then some (.int .i64 0) else none
 | .ro _ es _=>if kd=1 then some (.int .i64 es.length) else none
 | .sl _ _ _ len _ _=>if kd=1 then some (.int .i64 len) else none
 | .dU=>if kd=2 then some (.int .i64 0) else none
 | .map b=>if kd=2 then Wy (get h b) else none
 | _=>none
def sLen (kd:Nat) (x:Opd):Step:=λe h _=>ov (oz kd h (x.ev e))
def y7:AV->Option AV
 | .bF=>some (.int .i64 0)
 | .ro _ es ex=>if ex then some (.int .i64 es.length) else none
 | .sl _ _ _ _ c ex=>if ex then some (.int .i64 c) else none
 | _=>none
def sCap (x:Opd):Step:=λe _ _=>ov (y7 (x.ev e))
def U7 (z:List AV) (bytes:Nat) (zeros:Bool) (s x:Opd):Step:=λe h nid =>
 if zeros then (match x.ev e with
  | .int _ n=>ob (nat? n) λn=>if n * (bytes+1)<=dD then kW h nid z.length bytes (s.ev e) (List.replicate n z) else none
  | _=>none)
 else ob (elems h z.length (x.ev e)) λxs=>kW h nid z.length bytes (s.ev e) xs
def WT (z b i len:Nat) (xs:List (List AV)) (n:Nat):Option jr->Option (AV × Upd)
 | some (.cells zb es mu)=>if mu=true/\zb=z/\i+len<=es.length then
  some (.int .i64 n,[(b,some (.cells z (es.take i++(xs.take n++es.drop (i+n))) true))]) else none
 | _=>none
def uD (h:Heap) (z:Nat) (xs:List (List AV)):AV->Option (AV × Upd)
 | .bF=>some (.int .i64 0,[])
 | .ro _ [] _=>some (.int .i64 0,[])
 | .sl b z' i len _ _=>if z'=z then
  if min xs.length len=0 then some (.int .i64 0,[]) else WT z b i len xs (min xs.length len) (get h b)
  else none
 | _=>none
def afL (z:Nat) (d s:Opd):Step:=λe h _=>ob (elems h z (s.ev e)) λxs=>uD h z xs (d.ev e)
def ae9 (z:List AV) (b i len:Nat):Option jr->Option (AV × Upd)
 | some (.cells zb es mu)=>if mu=true/\zb=z.length/\i+len<=es.length then
  some (.tup [],[(b,some (.cells z.length (es.take i++(List.replicate len z++es.drop (i+len))) true))]) else none
 | _=>none
def Ig (h:Heap) (z:List AV):AV->Option (AV × Upd)
 | .bF=>some (.tup [],[])
 | .ro _ [] _=>some (.tup [],[])
 | .sl b z' i len _ _=>if z'=z.length then
  if len=0 then some (.tup [],[]) else ae9 z b i len (get h b)
  else none
 | _=>none
def agH (z:List AV) (d:Opd):Step:=λe h _=>Ig h z (d.ev e)
def sMx (x y:Opd):Step:=λe _ _=>match x.ev e,y.ev e with
 | .int k a,.int k' b=>if k=k' then some (.int k (if b > a then b else a),[]) else none
 | _,_=>none
def sMn (x y:Opd):Step:=λe _ _=>match x.ev e,y.ev e with
 | .int k a,.int k' b=>if k=k' then some (.int k (if b < a then b else a),[]) else none
 | _,_=>none
def Aq:Step:=λ_ _ _=>none
def aJ (op:COp):Step :=
 match op with
 | .mv x=>sMv x
 | .pick c a b=>ES c a b
 | .alloc z=>abd z
 | .box x=>ai9 x
 | .build z ps=>Eo z ps
 | .aP z len ps=>Ci z len ps
 | .load n ag a=>adg n ag a
 | .store n a x=>Oi n a x
 | .jQ x=>mW x
 | .bin op x y=>adD op x y
 | .eqv kd ks ne x y=>JD kd ks ne x y
 | .un op x=>sUn op x
 | .cvt k x=>Tn k x
 | .cvs x=>S9 x
 | .cvb x=>RX x
 | .iW f caps=>Bj f caps
 | .lY=>ab3
 | .kE z bytes l c=>Xq z bytes l c
 | .slice z x lo hi mx=>Ef z x lo hi mx
 | .gX n x lo hi=>Dl n x lo hi
 | .fld off x=>O1 off x
 | .yU off n ag x=>EP off n ag x
 | .idxs z x i=>ED z x i
 | .gq len z x i=>EH len z x i
 | .fB x i=>qF x i
 | .vI len z ag x i=>Ey len z ag x i
 | .look kd z ok m k=>KR kd z ok m k
 | .upd kd m k v=>agd kd m k v
 | .range x=>QG x
 | .next x=>TW x
 | .ext i x=>Rz i x
 | .len kd x=>sLen kd x
 | .cap x=>sCap x
 | .app z bytes zeros s x=>U7 z bytes zeros s x
 | .cpy z d s=>afL z d s
 | .clr z d=>agH z d
 | .mx x y=>sMx x y
 | .mn x y=>sMn x y
 | .call _ _=>Aq
 | .dN _ _=>Aq
 | .fail=>Aq
def COp.makes:COp->Bool
 | .alloc _=>true
 | .box _=>true
 | .aP _ _ _=>true
 | .lY=>true
 | .kE _ _ _ _=>true
 | .range _=>true
 | .app _ _ _ _ _=>true
 | _=>false
inductive Ex where
 | norm
 | exit (id:Nat)
 | ret
 deriving Inhabited
structure St where
 env:Env
 heap:Heap
 next:Nat
 deriving Inhabited
abbrev Run:=Nat->List AV->Heap->Nat->Option (AV × Heap × Nat)
def rW (run:Run) (f:Nat) (args:List AV):Option AV :=ob (run f args [] 0) λr=>frz r.2.1 ay r.1
def tidy (_:Nat) (r:AV × Heap × Nat):AV × Heap × Nat:=r
def uO (run:Run) (f:Nat) (args:List AV) (h:Heap) (n:Nat):Option (AV × Heap × Nat) :=om (run f args h n) (tidy n)
def marks (h:Heap) (args:List AV) (v:AV):Upd :=if fP ay v then aW h (args.flatMap (reach h ay)) else []
inductive Called where
 | data (v:AV) (u:Upd)
 | whole (v:AV) (h:Heap) (n:Nat)
 | deep (v:AV) (u:Upd) (n:Nat)
mutual
/-- Does it hold a pointer or a map? -/
def bY:AV->Bool
 | .ptr _ _ _=>true
 | .map _=>true
 | .fn _ cs=>bV cs
 | .agg cs=>bV cs
 | .tup cs=>bV cs
 | _=>false
def bV:List AV->Bool
 | []=>false
 | v::r=>bY v||bV r
end
def Ob (f:Nat):Bool:=decide (3000<=f)
def tV (f:Nat):Bool:=decide (5000<=f)
def ups (n n1:Nat) (h:Heap):Upd:=((h.filter λx=>decide (n<=x.1/\x.1 < n1)).map λx=>(x.1,some x.2)).reverse
def mD:AV->Bool
 | .bool _=>true
 | .int _ _=>true
 | .str _=>true
 | .eH=>true
 | .bF=>true
 | .dU=>true
 | .bQ=>true
 | .ro _ _ _=>true
 | .rop _=>true
 | .fn _ []=>true
 | _=>false
mutual
/-- The first block that a value names. -/
def qG:AV->Option Nat
 | .ptr b _ _=>some b
 | .sl b _ _ _ _ _=>some b
 | .map b=>some b
 | .fn _ cs=>jX cs
 | .agg cs=>jX cs
 | .tup cs=>jX cs
 | _=>none
def jX:List AV->Option Nat
 | []=>none
 | v::r=>match qG v with
  | some b=>some b
  | none=>jX r
end
mutual
/-- A value that names one block alone, under another number. -/
def hand (b nid:Nat):AV->Option AV
 | .undef=>none
 | .ptr c i o=>if c=b then some (.ptr nid i o) else none
 | .sl c z i l k ex=>if c=b then some (.sl nid z i l k ex) else none
 | .map _=>none
 | .fn f cs=>om (ou b nid cs) λcs=>.fn f cs
 | .agg cs=>om (ou b nid cs) λcs=>.agg cs
 | .tup cs=>om (ou b nid cs) λcs=>.tup cs
 | v=>some v
def ou (b nid:Nat):List AV->Option (List AV)
 | []=>some []
 | v::r=>ob (hand b nid v) λv=>om (ou b nid r) λr=>v::r
end
def Gg (nid:Nat) (v:AV) (b:Nat):Option jr->Option (AV × Upd)
 | some (.cells z es mu)=>if (mu&&es.all λe=>e.all mD)=true then om (hand b nid v) λv=>(v,[(nid,some (.cells z es true))]) else none
 | _=>none
def jc (run:Run) (f:Nat) (args:List AV) (nid:Nat):Option (AV × Upd) :=
 ob (run f args [] 0) λr=>match qG r.1 with
  | none=>om (hand r.2.2 0 r.1) λv=>(v,[])
  | some b=>Gg nid r.1 b (get r.2.1 b)
mutual
/-- A value that names no read-only memory. -/
def iG:AV->Bool
 | .undef=>false
 | .ro _ es ex=>es.isEmpty&&ex
 | .rop _=>false
 | .fn _ cs=>nZ cs
 | .agg cs=>nZ cs
 | .tup cs=>nZ cs
 | _=>true
def nZ:List AV->Bool
 | []=>true
 | v::r=>iG v&&nZ r
end
def adp:Option jr->Bool
 | some (.cells _ es _)=>es.all nZ
 | _=>false
def vF (x:AV × Upd):Bool:=iG x.1&&x.2.all λy=>adp y.2
def sZ (f:Nat):Bool:=decide (4000<=f)
def Dx (f:Nat) (u:Upd):Upd:=if sZ f=true then [] else u
def Cc (f:Nat) (u:Upd) (x:AV × Upd):Option Called :=if (sZ f&&!vF x)=true then none else some (.data x.1 (Dx f u++x.2))
mutual
/-- A value that names no read-only memory, and of blocks only those of a list. -/
def cO (L:List Nat):AV->Bool
 | .undef=>false
 | .ro _ es ex=>es.isEmpty&&ex
 | .rop _=>false
 | .ptr b _ _=>L.contains b
 | .sl b _ _ _ _ _=>L.contains b
 | .map _=>false
 | .fn _ cs=>nO L cs
 | .agg cs=>nO L cs
 | .tup cs=>nO L cs
 | _=>true
def nO (L:List Nat):List AV->Bool
 | []=>true
 | v::r=>cO L v&&nO L r
end
def EC (L:List Nat):Option jr->Bool
 | some (.cells _ es mu)=>mu&&es.all (nO L)
 | _=>false
def YO (h:Heap) (v:AV) (L:List Nat):Bool:=cO L v&&L.all λb=>EC L (get h b)
def zJ (f:Nat):Bool:=decide (6000<=f)
def Ue (f:Nat) (u:Upd):Upd:=if zJ f=true then [] else u
def vV (f:Nat) (h:Heap) (v:AV):Option Heap :=if zJ f=true then (if YO h v (reach h ay v)=true then some (h.filter λx=>(reach h ay v).contains x.1) else none) else some h
def sH (run:Run) (f:Nat) (args:List AV) (n:Nat):Option (AV × Upd × Nat):=ob (run f args [] n) λr=>om (vV f r.2.1 r.1) λhk=>(r.1,ups n r.2.2 hk,r.2.2)
def jD (C:Prog) (run:Run) (f:Nat) (args:List AV) (h:Heap) (nid n:Nat):Option Called :=
 match (if (C.inl f||(!C.pp f&&bV args))=true then none else aZ (frz h ay) args) with
 | some az=>om (rW run f az) λv=>.data v (marks h args v)
 | none=>if (C.inl f&&tV f)=true then ob (aZ (frz h ay) args) λaz=>om (sH run f az n) λx=>.deep x.1 (Ue f (aW h (args.flatMap (reach h ay)))++x.2.1) x.2.2
  else if (C.inl f&&Ob f)=true then ob (aZ (frz h ay) args) λaz=>ob (jc run f az nid) (Cc f (aW h (args.flatMap (reach h ay))))
  else om (uO run f args h n) λr=>.whole r.1 r.2.1 r.2.2
def dR (e:Env) (d:Option Nat) (v:AV):Env :=
 match d with
 | some d=>put e d v
 | none=>e
def wants (e:Env):Option (Nat × Bool)->Option Bool
 | none=>some true
 | some (s,want)=>match get e s with
  | some (.bool b)=>some (b == want)
  | some (.tup [])=>some false
  | _=>none
def callOf (e:Env):COp->Option (Option (Nat × List AV))
 | .call f args=>some (some (f,args.map λx=>x.ev e))
 | .dN g args=>match g.ev e with
  | .fn f caps=>some (some (f,args.map (λx=>x.ev e)++caps))
  | _=>none
 | _=>some none
structure Did where
 v:AV
 h:Heap
 n:Nat
 bar:Bool
 rd:List Nat
 wr:List Nat
def eP:AV->List Nat
 | .ptr b _ _=>[b]
 | .sl b _ _ _ _ _=>[b]
 | .map b=>[b]
 | _=>[]
def readsOf (e:Env):COp->List Nat
 | .load _ _ a=>eP (a.ev e)
 | .gX _ x _ _=>eP (x.ev e)
 | .store _ a _=>eP (a.ev e)
 | .app _ _ _ s x=>eP (s.ev e)++eP (x.ev e)
 | .cpy _ d x=>eP (d.ev e)++eP (x.ev e)
 | .clr _ d=>eP (d.ev e)
 | .look _ _ _ m _=>eP (m.ev e)
 | .upd _ m _ _=>eP (m.ev e)
 | .len _ m=>eP (m.ev e)
 | .next x=>eP (x.ev e)
 | _=>[]
def bZ (h:Heap) (n:Nat) (args:List AV):Called->Did
 | .data v u=>⟨v,aQ h u,n,false,args.flatMap (reach h ay),u.map (·.1)⟩
 | .whole v h' n'=>⟨v,h',n',true,[],[]⟩
 | .deep v u n'=>⟨v,aQ h u,n',false,args.flatMap (reach h ay),u.map (·.1)⟩
def jG (C:Prog) (run:Run) (op:COp) (nid:Nat) (e:Env) (h:Heap) (n:Nat):Option Did :=
 match callOf e op with
 | none=>none
 | some (some (f,args))=>om (jD C run f args h nid n) (bZ h n args)
 | some none=>om (aJ op e h nid) λx=>⟨x.1,aQ h x.2,n,false,readsOf e op,x.2.map (·.1)⟩
def jO (C:Prog) (run:Run) (o:bg) (nid:Nat) (e:Env) (h:Heap) (n:Nat):Option Did :=
 match wants e o.guard with
 | none=>none
 | some false=>some ⟨.tup [],h,n,false,[],[]⟩
 | some true=>jG C run o.op nid e h n
def lX (C:Prog) (run:Run):List bg->St->Option St
 | [],s=>some s
 | o::r,s=>ob (jO C run o s.next s.env s.heap (s.next+1)) λd=>lX C run r ⟨dR s.env o.dst d.v,d.h,d.n⟩
def meets (a b:List Nat):Bool:=a.any λx=>b.any λy=>decide (x=y)
def quiet (d:Did):Bool:=!d.bar&&(d.wr.isEmpty&&d.rd.isEmpty)
def clash (a b:Did):Bool:=!(quiet a||quiet b)&&(a.bar||(b.bar||(meets a.wr b.wr||(meets a.wr b.rd||meets a.rd b.wr))))
def o9 (C:Prog) (run:Run):List bg->Nat->St->List Did->Option (St × List Did)
 | [],_,s,ds=>some (s,ds)
 | o::r,nid,s,ds=>ob (jO C run o nid s.env s.heap s.next) λd=>o9 C run r (nid+1) ⟨dR s.env o.dst d.v,d.h,d.n⟩ (ds++[d])
def apart (ds:List Did) (p:Nat × Nat):Bool :=
 match ds[p.1]?,ds[p.2]? with
 | some a,some b=>!clash a b
 | _,_=>false
def fO:Nat->List AV->Env
 | _,[]=>[]
 | k,v::r=>(k,v)::fO (k+1) r
def H6 (e:Env) (h:Heap):vK->Option AV
 | .tmp t=>get e t
 | .cell t n ag=>match get e t with
  | some (.ptr b i o)=>loadAt n ag o i (get h b)
  | _=>none
def IG:List AV->AV
 | [v]=>v
 | vs=>.tup vs
def results (e:Env) (h:Heap) (rs:List vK):Option AV:=om (aZ (H6 e h) rs) IG
def XF (fn:CFn) (r:Ex × St):Option (AV × Heap × Nat) :=
 match r.1 with
 | .exit _=>none
 | _=>om (results r.2.env r.2.heap fn.res) λv=>(v,r.2.heap,r.2.next)
def runWith (C:Prog) (ev:bn->St->Option (Ex × St)):Run:=λf args h n =>ob (C.fns.get f) λfn=>if args.length=fn.np then ob (ev fn.body ⟨fO 0 args,h,n⟩) (XF fn) else none
def iJ (live:Nat) (s:St):St:=⟨if live=0 then s.env else Pav.keep live s.env,s.heap,s.next⟩
def cZ (b:St->Option (Ex × St)) (r:Ex × St):Option (Ex × St) :=
 match r.1 with
 | .norm=>b r.2
 | _=>some r
def dF (id:Nat) (r:Ex × St):Ex × St :=
 match r.1 with
 | .exit i=>if i=id then (.norm,r.2) else r
 | _=>r
def tq (a b:St->Option (Ex × St)) (v:AV) (s:St):Option (Ex × St) :=
 match v with
 | .bool t=>if t then a s else b s
 | _=>none
def Gj (k:Nat) (s:St):Option St :=ob (get s.env k) λv=>om (frz s.heap ay v) λv'=>⟨dR s.env (some k) v',aQ s.heap (aW s.heap (reach s.heap ay v)),s.next⟩
def lD:List Nat->St->Option St
 | [],s=>some s
 | k::r,s=>ob (Gj k s) (lD r)
def kM (live:Nat × List Nat) (s:St):Option St:=om (lD live.2 s) (iJ live.1)
def Bf (un:List (Nat × Nat)) (live:Nat × List Nat) (r:St × List Did):Option (Ex × St) :=if un.all (apart r.2)=true then om (kM live r.1) λs=>(.norm,s) else none
def evC (C:Prog):Nat->bn->St->Option (Ex × St)
 | 0,_,_=>none
 | n+1,c,s =>
  match c with
  | .skip=>some (.norm,s)
  | .ops l live=>ob (lX C (runWith C (evC C n)) l s) λs=>om (kM live s) λs=>(.norm,s)
  | .draw l un live=>ob (o9 C (runWith C (evC C n)) l s.next ⟨s.env,s.heap,s.next+l.length⟩ []) (Bf un live)
  | .seq a b=>ob (evC C n a s) (cZ (evC C n b))
  | .cond c a b=>tq (evC C n a) (evC C n b) (c.ev s.env) s
  | .block id b=>om (evC C n b s) (dF id)
  | .loop live b=>ob (evC C n b (iJ live s)) (cZ (evC C n (.loop live b)))
  | .exit id=>some (.exit id,s)
  | .ret=>some (.ret,s)
  | .fail=>none
def run (C:Prog) (n:Nat):Run:=runWith C (evC C n)
def ajm (C:Prog) (n:Nat) (f:Nat) (args:List AV):Option AV:=rW (run C n) f args
end Go.Pav
end
section
set_option linter.unusedSimpArgs false
set_option linter.unusedVariables false
namespace Go.Pav
open Go
def Il (r r':Run):Prop:=∀ f args h n x,r f args h n=some x->r' f args h n=some x
theorem dA {α β:Type} {x x':Option α} {f f':α->Option β} {b:β} (h:ob x f=some b) (hx:∀ a,x=some a->x'=some a) (hf:∀ a,f a=some b->f' a=some b):ob x' f'=some b:=by
 cases x with
 | none=>simp [ob] at h
 | some a=>rw [hx a rfl];exact hf a h
theorem mX {α β:Type} {x x':Option α} {f:α->β} {b:β} (h:om x f=some b) (hx:∀ a,x=some a->x'=some a):om x' f=some b:=by
 cases x with
 | none=>simp [om] at h
 | some a=>rw [hx a rfl];exact h
section
variable {C:Prog} {r r':Run}
theorem SY (hr:Il r r') {f:Nat} {args:List AV} {h:Heap} {nid n:Nat} {c:Called} (hc:jD C r f args h nid n=some c):jD C r' f args h nid n=some c:=by
 unfold jD at hc |-;split
 ·rename_i az ha;rw [ha] at hc;exact mX hc λv hv=>dA hv (λx hx=>hr _ _ _ _ _ hx) λx hx=>hx
 ·rename_i ha;rw [ha] at hc;simp only at hc;by_cases hd:(C.inl f&&tV f)=true
  ·rw [qwz hd] at hc |-;exact dA hc (λx hx=>hx) λaz has=>mX has λv hv=>dA hv (λx hx=>hr _ _ _ _ _ hx) λx hx=>hx
  rw [qwq hd] at hc |-;split
  ·rename_i hf;rw [qwz hf] at hc;exact dA hc (λx hx=>hx) λaz has=>dA has (λv hv=>dA hv (λx hx=>hr _ _ _ _ _ hx) λx hx=>hx) λx hx=>hx
  ·rename_i hf;rw [qwq hf] at hc;exact mX hc λv hv=>mX hv λx hx=>hr _ _ _ _ _ hx
theorem Vg (hr:Il r r') {op:COp} {nid:Nat} {e:Env} {h:Heap} {n:Nat} {d:Did} (hd:jG C r op nid e h n=some d):jG C r' op nid e h n=some d:=by
 unfold jG at hd |-;split
 ·rename_i hc;rw [hc] at hd;cases hd
 ·rename_i hc;rw [hc] at hd;exact mX hd λc hc=>SY hr hc
 ·rename_i hc;rw [hc] at hd;exact hd
theorem KP (hr:Il r r') {o:bg} {nid:Nat} {e:Env} {h:Heap} {n:Nat} {d:Did} (hd:jO C r o nid e h n=some d):jO C r' o nid e h n=some d:=by
 unfold jO at hd |-;split
 ·rename_i hc;rw [hc] at hd;cases hd
 ·rename_i hc;rw [hc] at hd;exact hd
 ·rename_i hc;rw [hc] at hd;exact Vg hr hd
theorem UG (hr:Il r r'):∀ (l:List bg) (s s':St),lX C r l s=some s'->lX C r' l s=some s':=by
 intro l;induction l with
 | nil=>intro s s' h;exact h
 | cons o l ih=>intro s s' h;exact dA h (λd hd=>KP hr hd) λd hd=>ih _ _ hd
theorem TN (hr:Il r r'):∀ (l:List bg) (nid:Nat) (s:St) (ds:List Did) (x:St × List Did),o9 C r l nid s ds=some x->o9 C r' l nid s ds=some x:=by
 intro l;induction l with
 | nil=>intro nid s ds x h;exact h
 | cons o l ih=>intro nid s ds x h;exact dA h (λd hd=>KP hr hd) λd hd=>ih _ _ _ _ hd
theorem NG {ev ev':bn->St->Option (Ex × St)} (he:∀ c s x,ev c s=some x->ev' c s=some x):Il (runWith C ev) (runWith C ev'):=by
 intro f args h n x hx;refine dA hx (λa ha=>ha) λfn hfn=>?_;split
 ·rename_i hl;rw [qwz hl] at hfn;exact dA hfn (λa ha=>he _ _ _ ha) λa ha=>ha
 ·rename_i hl;rw [qwq hl] at hfn;cases hfn
theorem IJ {b b':St->Option (Ex × St)} (h:∀ s x,b s=some x->b' s=some x) {r:Ex × St} {x:Ex × St} (hx:cZ b r=some x):cZ b' r=some x:=by
 unfold cZ at hx |-;split
 ·rename_i hr;rw [hr] at hx;exact h _ _ hx
 ·split at hx
  ·rename_i h1 _ h2;exact absurd h2 h1
  ·exact hx
theorem pW:∀ (n m:Nat),n<=m->∀ (c:bn) (s:St) (x:Ex × St),evC C n c s=some x->evC C m c s=some x:=by
 intro n;induction n with
 | zero=>intro m _ c s x h;simp only [evC] at h;cases h
 | succ n ih =>
  intro m hm c s x h;obtain ⟨m,rfl⟩:∃ k,m=k+1:=⟨m - 1,by omega⟩;have ih':=ih m qqq;have hr:Il (runWith C (evC C n)) (runWith C (evC C m)):=NG ih';cases c with
  | skip=>exact h
  | exit id=>exact h
  | ret=>exact h
  | fail=>exact h
  | ops l live=>simp only [evC] at h |-;exact dA h (λs' hs=>UG hr l s s' hs) λx hx=>hx
  | draw l un live=>simp only [evC] at h |-;exact dA h (λx hx=>TN hr l _ _ _ x hx) λx hx=>hx
  | seq a b=>simp only [evC] at h |-;exact dA h (λx hx=>ih' _ _ _ hx) λx hx=>IJ (λs x hx=>ih' _ _ _ hx) hx
  | cond c a b =>
   simp only [evC] at h |-;unfold tq at h |-;split
   ·rename_i t hv;rw [hv] at h;cases t with
    | true=>exact ih' _ _ _ h
    | false=>exact ih' _ _ _ h
   ·split at h
    ·rename_i h1 _ t hv;exact absurd hv (h1 t)
    ·cases h
  | block id b=>simp only [evC] at h |-;exact mX h λx hx=>ih' _ _ _ hx
  | loop live b=>simp only [evC] at h |-;exact dA h (λx hx=>ih' _ _ _ hx) λx hx=>IJ (λs x hx=>ih' _ _ _ hx) hx
end
end Go.Pav
end
section
set_option linter.unusedSimpArgs false
set_option linter.unusedVariables false
namespace Go.Pav
open Go
section
open Classical
noncomputable def lim {α:Type} (g:Nat->Option α):Option α:=if h:∃ n a,g n=some a then some (Classical.choose (qox h)) else none
def ag9 {α:Type} (g:Nat->Option α):Prop:=∀ n m,n<=m->∀ a,g n=some a->g m=some a
theorem akN {α:Type} {g:Nat->Option α} (hm:ag9 g) {n:Nat} {a:α} (h:g n=some a):lim g=some a:=by have hx:∃ n a,g n=some a:=⟨n,a,h⟩;unfold lim;rw [zyj hx];have h1:=qox (qox hx);have h2:=hm _ _ (q2j n (Classical.choose hx)) _ h;have h3:=hm _ _ (qnx n (Classical.choose hx)) _ h1;rw [h2] at h3;exact h3.symm
theorem aci {α:Type} {g:Nat->Option α} (_hm:ag9 g) {a:α} (h:lim g=some a):∃ n,g n=some a:=by
 unfold lim at h;split at h
 ·rename_i hx;cases h;exact ⟨_,qox (qox hx)⟩
 ·cases h
theorem afS {α:Type} {g:Nat->Option α} (hm:ag9 g) {a:α}:lim g=some a↔∃ n,g n=some a :=⟨aci hm,λ⟨_,h⟩=>akN hm h⟩
theorem wR {α:Type} {x y:Option α} (h:∀ a,x=some a↔y=some a):x=y:=by
 cases x with
 | none=>cases y with
  | none=>rfl
  | some b=>exact absurd ((h b).2 rfl) qqz
 | some a=>exact ((h a).1 rfl).symm
end
section
variable (C:Prog)
noncomputable def Cd (c:bn) (s:St):Option (Ex × St):=lim λn=>evC C n c s
noncomputable def Rn:Run:=runWith C (Cd C)
noncomputable def Fn (f:Nat) (args:List AV):Option AV:=rW (Rn C) f args
end
section
variable {C:Prog}
theorem pK {α β:Type} {x:Option α} {f:α->Option β} {b:β}:ob x f=some b↔∃ a,x=some a/\f a=some b:=by cases x <;> simp [ob]
end
end Go.Pav
end
section
set_option linter.unusedSimpArgs false
set_option linter.unusedVariables false
namespace Go.Pw
open Go Go.Pav
inductive fC where
 | cells (z:Nat) (es:List (List AV)) (mu dt:Bool)
 | map (es:List (AV × AV))
 | iter (s:List UInt8) (pos:Nat)
 deriving Inhabited
abbrev aG:=List (Nat × fC)
abbrev dW:=List (Nat × Option fC)
def isC:AV->Bool
 | .bool _=>true
 | .int _ _=>true
 | .str _=>true
 | .eH=>true
 | .bF=>true
 | .dU=>true
 | .bQ=>true
 | .ro _ _ _=>true
 | .rop _=>true
 | .fn _ []=>true
 | _=>false
def isD:AV->Bool
 | .agg cs=>cs.all isC
 | v=>isC v
mutual
def refs:AV->List Nat
 | .ptr b _ _=>[b]
 | .sl b _ _ _ _ _=>[b]
 | .map b=>[b]
 | .fn _ cs=>CJ cs
 | .agg cs=>CJ cs
 | .tup cs=>CJ cs
 | _=>[]
def CJ:List AV->List Nat
 | []=>[]
 | v::r=>refs v++CJ r
end
mutual
def ren (π:Nat->Option Nat):AV->Option AV
 | .ptr b i o=>om (π b) λb=>.ptr b i o
 | .sl b z i l c ex=>om (π b) λb=>.sl b z i l c ex
 | .map b=>om (π b) λb=>.map b
 | .fn f cs=>om (lV π cs) λcs=>.fn f cs
 | .agg cs=>om (lV π cs) λcs=>.agg cs
 | .tup cs=>om (lV π cs) λcs=>.tup cs
 | v=>some v
def lV (π:Nat->Option Nat):List AV->Option (List AV)
 | []=>some []
 | v::r=>ob (ren π v) λv=>om (lV π r) λr=>v::r
end
def ND:Option fC->List Nat
 | some (.cells _ es _ dt)=>if dt then [] else es.flatMap CJ
 | _=>[]
def iF (π:Nat->Option Nat):fC->Option fC
 | .cells z es mu dt=>if dt then some (.cells z es mu dt) else om (aZ (lV π) es) λes=>.cells z es mu dt
 | .map es=>some (.map es)
 | .iter s p=>some (.iter s p)
def GH:Env->List Nat
 | []=>[]
 | (_,v)::r=>refs v++GH r
def sO (base:Nat):aG->List Nat
 | []=>[]
 | (b,o)::r=>if b < base then ND (some o)++sO base r else sO base r
def close (base:Nat) (h:aG):Nat->List Nat->List Nat->List Nat
 | 0,_,acc=>acc
 | _+1,[],acc=>acc
 | n+1,b::w,acc=>if b < base then close base h n w acc else if acc.contains b then close base h n w acc else close base h n (ND (Pav.get h b)++w) (acc++[b])
def place (n:Nat):List Nat->Nat->Option Nat
 | [],_=>none
 | a::r,b=>if a=b then some n else place (n+1) r b
def iy (base:Nat) (L:List Nat) (b:Nat):Option Nat:=if b < base then some b else place base L b
def kP (π:Nat->Option Nat):Env->Option Env
 | []=>some []
 | (k,v)::r=>ob (ren π v) λv=>om (kP π r) λr=>(k,v)::r
def jS (base:Nat) (π:Nat->Option Nat):aG->Option aG
 | []=>some []
 | (b,o)::r=>if b < base then ob (iF π o) λo=>om (jS base π r) λr=>(b,o)::r else jS base π r
def mg (π:Nat->Option Nat) (h:aG) (n:Nat):List Nat->Option aG
 | []=>some []
 | b::r=>match Pav.get h b with
  | some o=>ob (iF π o) λo=>om (mg π h (n+1) r) λr=>(n,o)::r
  | none=>mg π h (n+1) r
structure WSt where
 env:Env
 heap:aG
 next:Nat
 deriving Inhabited
structure Ann where
 cn:Bool
 live:List Nat
 grow:List (Nat × Nat)
 deriving Inhabited
def Ed:Env->Nat->AV->Env
 | [],n,x=>[(n,x)]
 | (k,v)::r,n,x=>if k < n then (n,x)::(k,v)::r else if k=n then (n,x)::r else (k,v)::Ed r n x
def eG (e:Env) (d:Option Nat) (v:AV):Env :=
 match d with
 | some d=>Ed e d v
 | none=>e
def Ia:Nat->List AV->Env->Env
 | _,[],acc=>acc
 | k,v::r,acc=>Ia (k+1) r ((k,v)::acc)
def sU (k:Nat):List Nat->List Nat
 | []=>[]
 | a::l=>if k < a then sU k l else a::l
def YN:Env->List Nat->Env
 | [],_=>[]
 | (k,v)::r,live=>match sU k live with
  | []=>[]
  | a::l=>if a=k then (k,v)::YN r l else YN r (a::l)
def pI (live:List Nat) (e:Env):Env:=YN e live
def Yi (k:Nat) (v:AV) (r:Env):List Nat->Env
 | []=>[]
 | a::l=>if a=k then (k,v)::pI l r else pI (a::l) r
theorem KJ (live:List Nat):pI live []=[]:=rfl
theorem Jf (live:List Nat) (k:Nat) (v:AV) (r:Env):pI live ((k,v)::r)=Yi k v r (sU k live):=by simp only [pI,YN];cases sU k live <;> rfl
def BP (s:WSt) (k z:Nat):AV->WSt
 | .ro z' [] true=>if z'=z then ⟨Ed s.env k (.sl s.next z 0 0 0 false),put s.heap s.next (.cells z [] true true),s.next+1⟩ else s
 | _=>s
def lN:List (Nat × Nat)->WSt->WSt
 | [],s=>s
 | (k,z)::r,s=>match Pav.get s.env k with
  | some v=>lN r (BP s k z v)
  | none=>lN r s
def renumber (base:Nat) (s:WSt) (L:List Nat):Option WSt :=ob (kP (iy base L) s.env) λe=>ob (jS base (iy base L) s.heap) λh1=>om (mg (iy base L) s.heap base L) λh2=>⟨e,h1++h2,base+L.length⟩
def UY (base:Nat) (s:WSt):Option WSt:=renumber base s (close base s.heap 1000 (GH s.env++sO base s.heap) [])
def bitsOf:List Nat->Nat
 | []=>0
 | k::r=>2 ^ k ||| bitsOf r
def XL:List (Nat × Nat)->Bool
 | []=>false
 | (_,z)::r=>if z=65537 then true else XL r
def canon (base:Nat) (a:Ann) (s:WSt):Option WSt :=
 match a.cn with
 | true=>match XL a.grow with
  | true=>some (lN a.grow ⟨pI a.live s.env,s.heap,s.next⟩)
  | false=>UY base (lN a.grow ⟨pI a.live s.env,s.heap,s.next⟩)
 | false=>some s
def uQ (a:Ann):Nat:=match a.cn with
 | true=>bitsOf a.live
 | false=>0
def Jd:List (Nat × Nat)->List Nat
 | []=>[]
 | (k,z)::r=>if z=65536 then k::Jd r else Jd r
def FU (h:aG) (b:Nat):Option fC->aG
 | some o=>put h b o
 | none=>del h b
def bU:aG->dW->aG
 | h,[]=>h
 | h,(b,o)::r=>bU (FU h b o) r
abbrev nK:=Env->aG->Nat->Option (AV × dW)
def ovW (x:Option AV):Option (AV × dW):=om x λv=>(v,[])
def VY (z:List AV):nK:=λ_ _ nid=>some (.ptr nid 0 0,[(nid,some (.cells z.length [z] true (z.all isC)))])
def VP (cs:List AV) (nid:Nat):Option (AV × dW):=if cs.all AV.cell=true then some (.ptr nid 0 0,[(nid,some (.cells cs.length [cs] true (cs.all isC)))]) else none
def akA (x:Opd):nK:=λe _ nid=>VP (x.ev e).cells nid
def NH (z:List AV) (len:Nat) (ps:List (Nat × Opd)):nK:=λe _ nid =>om (kZ e z.length (List.replicate len z) ps) λes=>(.sl nid z.length 0 len len true,[(nid,some (.cells z.length es true (es.all λc=>c.all isC)))])
def yL (n:Nat) (ag:Bool) (o i:Nat):Option fC->Option AV
 | some (.cells _ es _ _)=>ob es[i]? λcs=>qO n ag (cs.drop o)
 | _=>none
def BJ (n:Nat) (ag:Bool) (h:aG):AV->Option AV
 | .rop cs=>qO n ag cs
 | .ptr b i o=>yL n ag o i (Pav.get h b)
 | _=>none
def adT (n:Nat) (ag:Bool) (a:Opd):nK:=λe h _=>ovW (BJ n ag h (a.ev e))
def IL (n b i o:Nat) (v:List AV):Option fC->Option (AV × dW)
 | some (.cells z es mu dt)=>if mu then ob es[i]? λcs=>if o+n<=cs.length then some (.tup [],[(b,some (.cells z (es.set i (splice cs o v)) true (dt&&v.all isC)))]) else none else none
 | _=>none
def vU (n:Nat) (h:aG) (v:List AV):AV->Option (AV × dW)
 | .ptr b i o=>IL n b i o v (Pav.get h b)
 | _=>none
def Qk (n:Nat) (a x:Opd):nK:=λe h _ =>if (x.ev e).cells.length=n/\(x.ev e).cells.all AV.cell=true then vU n h (x.ev e).cells (a.ev e) else none
def WB:nK:=λ_ _ nid=>some (.map nid,[(nid,some (.map []))])
def aff (z:List AV) (bytes:Nat) (l c:Opd):nK:=λe _ nid=>match l.ev e,c.ev e with
 | .int _ l,.int _ c=>ob (nat? l) λl=>ob (nat? c) λc =>if l<=c/\c * (bytes+1)<=dD then some (.sl nid z.length 0 l c true,[(nid,some (.cells z.length (List.replicate c z) true (z.all isC)))]) else none
 | _,_=>none
def Nc (z:AV) (ok:Bool) (k:AV):Option fC->Option AV
 | some (.map es)=>om (mQ es k) (found z ok)
 | _=>none
def Xw (kd:Nat) (z:AV) (ok:Bool) (m k:Opd):nK:=λe h _=>if kT kd (k.ev e)=true then (match m.ev e with
 | .dU=>some (found z ok none,[])
 | .map b=>ovW (Nc z ok (k.ev e) (Pav.get h b))
 | _=>none) else none
def VO (b:Nat) (k v:AV):Option fC->Option (AV × dW)
 | some (.map es)=>om (kN es k v) λes'=>(.tup [],[(b,some (.map es'))])
 | _=>none
def ahy (kd:Nat) (m k v:Opd):nK:=λe h _=>if kT kd (k.ev e)=true/\isD (v.ev e)=true then (match m.ev e with
 | .map b=>VO b (k.ev e) (v.ev e) (Pav.get h b)
 | _=>none) else none
def Vt (x:Opd):nK:=λe _ nid=>match x.ev e with
 | .str s=>some (.ptr nid 0 0,[(nid,some (.iter s 0))])
 | _=>none
def DY (b:Nat):Option fC->Option (AV × dW)
 | some (.iter s pos)=>if pos < s.length then
  some (.tup [.bool true,.int .i64 pos,.int .i32 (Utf8.decode ⟨⟨s⟩⟩ pos).1],[(b,some (.iter s (pos+(Utf8.decode ⟨⟨s⟩⟩ pos).2)))])
  else some (.tup [.bool false],[])
 | _=>none
def X3 (x:Opd):nK:=λe h _=>match x.ev e with
 | .ptr b 0 0=>DY b (Pav.get h b)
 | _=>none
def MP:Option fC->Option AV
 | some (.map es)=>some (.int .i64 es.length)
 | _=>none
def rC (kd:Nat) (h:aG):AV->Option AV
 | .str s=>if kd=0 then some (.int .i64 s.length) else none
 | .bF=>if kd=1 then some (.int .i64 0) else none
 | .ro _ es _=>if kd=1 then some (.int .i64 es.length) else none
 | .sl _ _ _ len _ _=>if kd=1 then some (.int .i64 len) else none
 | .dU=>if kd=2 then some (.int .i64 0) else none
 | .map b=>if kd=2 then MP (Pav.get h b) else none
 | _=>none
def alq (kd:Nat) (x:Opd):nK:=λe h _=>ovW (rC kd h (x.ev e))
def kL (h:aG) (z:Nat):AV->Option (List (List AV) × Bool)
 | .bF=>some ([],true)
 | .ro z' es _=>if z'=z then some (es,true) else none
 | .sl b z' i len _ _=>if z'=z then (match Pav.get h b with
  | some (.cells _ es _ dt)=>if i+len<=es.length then some ((es.drop i).take len,dt) else none
  | _=>none) else none
 | .str s=>if z=1 then some (s.map λc=>[.int .u8 c.toNat],true) else none
 | _=>none
def ng (nid zl n bytes:Nat) (xs:List (List AV)) (dt:Bool):Option (AV × dW) :=if n * (bytes+1)<=dD then some (.sl nid zl 0 n n false,[(nid,some (.cells zl xs true dt))]) else none
def Oz (o:Option fC) (nid zl bytes:Nat) (b i len cap:Nat) (ex:Bool) (xs:List (List AV)) (d:Bool) (n:Nat):Option (AV × dW) :=
 match o with
 | some (.cells zb es mu dt) =>
  if zb=zl then
   if n<=cap then
    if mu=true/\i+n<=es.length then some (.sl b zl i n cap ex,[(b,some (.cells zl (es.take (i+len)++(xs++es.drop (i+n))) true (dt&&d)))]) else none
   else if ex then
    if i+len<=es.length then ng nid zl n bytes ((es.drop i).take len++xs) (dt&&d) else none
   else if mu=true/\i=0/\es.length=len/\n * (bytes+1)<=dD then
    some (.sl nid zl 0 n n false,[(b,none),(nid,some (.cells zl (es++xs) true (dt&&d)))])
   else none
  else none
 | _=>none
def jg (h:aG) (nid zl bytes:Nat) (s:AV) (xs:List (List AV)) (d:Bool):Option (AV × dW) :=
 match s with
 | .bF=>match xs with
  | []=>some (.bF,[])
  | _=>ng nid zl xs.length bytes xs d
 | .ro z' es ex=>if z'=zl then (match xs with
  | []=>some (s,[])
  | _=>if ex then ng nid zl (es.length+xs.length) bytes (es++xs) d else none) else none
 | .sl b z' i len cap ex=>if z'=zl then (match xs with
  | []=>some (s,[])
  | _=>Oz (Pav.get h b) nid zl bytes b i len cap ex xs d (len+xs.length)) else none
 | _=>none
def Ur (z:List AV) (bytes:Nat) (zeros:Bool) (s x:Opd):nK:=λe h nid =>
 if zeros then (match x.ev e with
  | .int _ n=>ob (nat? n) λn=>if n * (bytes+1)<=dD then jg h nid z.length bytes (s.ev e) (List.replicate n z) (z.all isC) else none
  | _=>none)
 else ob (kL h z.length (x.ev e)) λxs=>jg h nid z.length bytes (s.ev e) xs.1 xs.2
def Oy (z b i len:Nat) (xs:List (List AV)) (d:Bool) (n:Nat):Option fC->Option (AV × dW)
 | some (.cells zb es mu dt)=>if mu=true/\zb=z/\i+len<=es.length then
  some (.int .i64 n,[(b,some (.cells z (es.take i++(xs.take n++es.drop (i+n))) true (dt&&d)))]) else none
 | _=>none
def qR (h:aG) (z:Nat) (xs:List (List AV)) (d:Bool):AV->Option (AV × dW)
 | .bF=>some (.int .i64 0,[])
 | .sl b z' i len _ _=>if z'=z then
  if min xs.length len=0 then some (.int .i64 0,[]) else Oy z b i len xs d (min xs.length len) (Pav.get h b)
  else none
 | _=>none
def aaX (z:Nat) (d s:Opd):nK:=λe h _=>ob (kL h z (s.ev e)) λxs=>qR h z xs.1 xs.2 (d.ev e)
def VZ (z:List AV) (b i len:Nat):Option fC->Option (AV × dW)
 | some (.cells zb es mu dt)=>if mu=true/\zb=z.length/\i+len<=es.length then
  some (.tup [],[(b,some (.cells z.length (es.take i++(List.replicate len z++es.drop (i+len))) true (dt&&z.all isC)))]) else none
 | _=>none
def DR (h:aG) (z:List AV):AV->Option (AV × dW)
 | .bF=>some (.tup [],[])
 | .sl b z' i len _ _=>if z'=z.length then
  if len=0 then some (.tup [],[]) else VZ z b i len (Pav.get h b)
  else none
 | _=>none
def agQ (z:List AV) (d:Opd):nK:=λe h _=>DR h z (d.ev e)
def Je (n b i o:Nat) (lo hi:Option AV):Option fC->Option (AV × dW)
 | some (.cells z es _ dt)=>ob es[i]? λcs=>om (jZ n (cs.drop o) lo hi) λr=>(r,[(b,some (.cells z es false dt))])
 | _=>none
def Ak (h:aG) (n:Nat) (lo hi:Option AV):AV->Option (AV × dW)
 | .rop cs=>om (jZ n cs lo hi) λr=>(r,[])
 | .ptr b i o=>Je n b i o lo hi (Pav.get h b)
 | _=>none
def Gl (n:Nat) (x:Opd) (lo hi:Option Opd):nK:=λe h _=>Ak h n (oev e lo) (oev e hi) (x.ev e)
def XU:AV->AV->Option Bool
 | .bF,.bF=>some true
 | .bF,.ro _ (_::_) _=>some false
 | .ro _ (_::_) _,.bF=>some false
 | _,_=>none
def plainW (x:Option (AV × Upd)):Option (AV × dW):=om x λx=>(x.1,[])
def stepW (op:COp):nK :=
 match op with
 | .mv x=>λe _ _=>plainW (sMv x e [] 0)
 | .pick c a b=>λe _ _=>plainW (ES c a b e [] 0)
 | .alloc z=>VY z
 | .box x=>akA x
 | .build z ps=>λe _ _=>plainW (Eo z ps e [] 0)
 | .aP z len ps=>NH z len ps
 | .load n ag a=>adT n ag a
 | .store n a x=>Qk n a x
 | .jQ x=>λe _ _=>plainW (mW x e [] 0)
 | .bin op x y=>λe _ _=>plainW (adD op x y e [] 0)
 | .eqv kd ks ne x y=>λe _ _=>if kd=0 then om (XU (x.ev e) (y.ev e)) (λb=>(.bool (b != ne),[])) else plainW (JD kd ks ne x y e [] 0)
 | .un op x=>λe _ _=>plainW (sUn op x e [] 0)
 | .cvt k x=>λe _ _=>plainW (Tn k x e [] 0)
 | .cvs x=>λe _ _=>plainW (S9 x e [] 0)
 | .cvb x=>λe _ _=>plainW (RX x e [] 0)
 | .iW f caps=>λe _ _=>plainW (Bj f caps e [] 0)
 | .lY=>WB
 | .kE z bytes l c=>aff z bytes l c
 | .slice z x lo hi mx=>λe _ _=>plainW (Ef z x lo hi mx e [] 0)
 | .gX n x lo hi=>Gl n x lo hi
 | .fld off x=>λe _ _=>plainW (O1 off x e [] 0)
 | .yU off n ag x=>λe _ _=>plainW (EP off n ag x e [] 0)
 | .idxs z x i=>λe _ _=>plainW (ED z x i e [] 0)
 | .gq len z x i=>λe _ _=>plainW (EH len z x i e [] 0)
 | .fB x i=>λe _ _=>plainW (qF x i e [] 0)
 | .vI len z ag x i=>λe _ _=>plainW (Ey len z ag x i e [] 0)
 | .look kd z ok m k=>Xw kd z ok m k
 | .upd kd m k v=>ahy kd m k v
 | .range x=>Vt x
 | .next x=>X3 x
 | .ext i x=>λe _ _=>plainW (Rz i x e [] 0)
 | .len kd x=>alq kd x
 | .cap x=>λe _ _=>plainW (sCap x e [] 0)
 | .app z bytes zeros s x=>Ur z bytes zeros s x
 | .cpy z d s=>aaX z d s
 | .clr z d=>agQ z d
 | .mx x y=>λe _ _=>plainW (sMx x y e [] 0)
 | .mn x y=>λe _ _=>plainW (sMn x y e [] 0)
 | .call _ _=>λ_ _ _=>none
 | .dN _ _=>λ_ _ _=>none
 | .fail=>λ_ _ _=>none
def bK (h:aG):Nat->AV->Option AV
 | 0,_=>none
 | n+1,v=>match v with
  | .undef=>none
  | .ptr b i o=>match Pav.get h b with
   | some (.cells _ es _ dt)=>ob es[i]? λcs=>if dt then (if n=0 then none else some (.rop (cs.drop o))) else om (aZ (bK h n) (cs.drop o)) λcs'=>.rop cs'
   | _=>none
  | .map _=>none
  | .sl b z i len cap ex=>match Pav.get h b with
   | some (.cells _ es _ dt) =>
    if dt then (if n=0 then none else og (decide (((es.drop i).take len).length=len)) (some (.ro z ((es.drop i).take len) (ex&&decide (cap=len)))))
    else ob (aZ (aZ (bK h n)) ((es.drop i).take len)) λes' =>og (decide (es'.length=len)&&es'.all λe=>e.all isC) (some (.ro z es' (ex&&decide (cap=len))))
   | _=>none
  | .fn f caps=>om (aZ (bK h n) caps) λcs=>.fn f cs
  | .agg cs=>om (aZ (bK h n) cs) λcs=>.agg cs
  | .tup vs=>om (aZ (bK h n) vs) λvs=>.tup vs
  | .bool b=>some (.bool b)
  | .int k x=>some (.int k x)
  | .str s=>some (.str s)
  | .eH=>some .eH
  | .bF=>some .bF
  | .dU=>some .dU
  | .bQ=>some .bQ
  | .ro z es ex=>some (.ro z es ex)
  | .rop cs=>some (.rop cs)
def aK (h:aG):Nat->AV->List Nat
 | 0,_=>[]
 | n+1,v=>match v with
  | .ptr b i o=>b::(match Pav.get h b with
   | some (.cells _ es _ dt)=>if dt then [] else ((es[i]?.getD []).drop o).flatMap (aK h n)
   | _=>[])
  | .sl b _ i len _ _=>b::(match Pav.get h b with
   | some (.cells _ es _ dt)=>if dt then [] else ((es.drop i).take len).flatMap λe=>e.flatMap (aK h n)
   | _=>[])
  | .fn _ caps=>caps.flatMap (aK h n)
  | .agg cs=>cs.flatMap (aK h n)
  | .tup vs=>vs.flatMap (aK h n)
  | _=>[]
def aY (h:aG):List Nat->dW
 | []=>[]
 | b::r=>match Pav.get h b with
  | some (.cells z es _ dt)=>(b,some (.cells z es false dt))::aY h r
  | _=>aY h r
def IE (k:Nat) (s:WSt):Option WSt :=ob (Pav.get s.env k) λv=>om (bK s.heap ay v) λv'=>⟨eG s.env (some k) v',bU s.heap (aY s.heap (aK s.heap ay v)),s.next⟩
def mP:List Nat->WSt->Option WSt
 | [],s=>some s
 | k::r,s=>ob (IE k s) (mP r)
def rE (base:Nat) (a:Ann) (s:WSt):Option WSt:=ob (mP (Jd a.grow) s) (canon base a)
abbrev yQ:=Nat->List AV->aG->Nat->Option (AV × aG × Nat)
def jK (run:yQ) (f:Nat) (args:List AV):Option AV :=ob (run f args [] 0) λr=>bK r.2.1 ay r.1
def dG:Nat->AV->Bool
 | 0,_=>true
 | n+1,v=>match v with
  | .undef=>true
  | .ro _ _ _=>true
  | .rop _=>true
  | .fn _ caps=>caps.any (dG n)
  | .agg cs=>cs.any (dG n)
  | .tup vs=>vs.any (dG n)
  | _=>false
def pF (h:aG) (args:List AV) (v:AV):dW :=if dG ay v then aY h (args.flatMap (aK h ay)) else []
inductive wP where
 | data (v:AV) (u:dW)
 | whole (v:AV) (h:aG) (n:Nat)
 | deep (v:AV) (mk u:dW) (n:Nat)
inductive aA where
 | skip
 | ops (l:List bg) (a:Ann)
 | draw (l:List bg) (un:List (Nat × Nat)) (a:Ann)
 | seq (a b:aA)
 | cond (c:Opd) (a b:aA)
 | block (id:Nat) (b:aA) (a:Ann)
 | loop (a:Ann) (b:aA)
 | exit (id:Nat)
 | ret
 | fail
 /-- slices.Clone: whether an empty slice is nil is not known, and its copy is empty in either case -/
 | cln (zz:List AV) (z b:Nat)
 deriving Inhabited
def amg (zz:List AV) (z b:Nat):aA :=
 .seq (.ops [⟨some 2,none,.mv (.c (.ro z [] true))⟩] ⟨false,[],[]⟩)
  (.seq (.seq (.ops [⟨some 3,none,.mv (.t 0)⟩,⟨some 4,none,.eqv 0 [] false (.t 3) (.c .bF)⟩] ⟨false,[],[]⟩)
   (.cond (.t 4) (.seq (.ops [⟨some 2,none,.mv (.c (.ro z [] true))⟩] ⟨false,[],[]⟩) .ret) .skip))
  (.seq (.ops [⟨some 5,none,.aP zz 0 []⟩,⟨some 6,none,.mv (.t 0)⟩,⟨some 7,none,.app zz b false (.t 5) (.t 6)⟩,⟨some 2,none,.mv (.t 7)⟩] ⟨false,[],[]⟩) .ret))
def afI (zz:List AV) (b:Nat):bn :=
 .seq (.ops [⟨some 2,none,.mv (.c .bF)⟩] (0,[]))
  (.seq (.seq (.ops [⟨some 3,none,.mv (.t 0)⟩,⟨some 4,none,.eqv 0 [] false (.t 3) (.c .bF)⟩] (0,[]))
   (.cond (.t 4) (.seq (.ops [⟨some 2,none,.mv (.c .bF)⟩] (0,[])) .ret) .skip))
  (.seq (.ops [⟨some 5,none,.aP zz 0 []⟩,⟨some 6,none,.mv (.t 0)⟩,⟨some 7,none,.app zz b false (.t 5) (.t 6)⟩,⟨some 2,none,.mv (.t 7)⟩] (0,[])) .ret))
def KO:AV->Option Nat
 | .ro z [] _=>some z
 | _=>none
structure WFn where
 np:Nat
 res:List vK
 body:aA
 deriving Inhabited
inductive rX where
 | leaf
 | node (l:rX) (k:Nat) (f:WFn) (r:rX)
 deriving Inhabited
def rX.get:rX->Nat->Option WFn
 | .leaf,_=>none
 | .node l k f r,n=>if n=k then some f else if n<=k then l.get n else r.get n
structure aH where
 fns:rX
 inl:Nat->Bool
 pp:Nat->Bool
def Uu (nid:Nat) (v:AV) (b:Nat):Option fC->Option (AV × dW)
 | some (.cells z es mu dt)=>if (mu&&dt)=true then om (hand b nid v) λv=>(v,[(nid,some (.cells z es true true))]) else none
 | _=>none
def jA (run:yQ) (f:Nat) (args:List AV) (nid:Nat):Option (AV × dW) :=
 ob (run f args [] 0) λr=>match qG r.1 with
  | none=>om (hand r.2.2 0 r.1) λv=>(v,[])
  | some b=>Uu nid r.1 b (Pav.get r.2.1 b)
def UU:Option fC->Bool
 | some (.cells _ es _ _)=>es.all nZ
 | _=>false
def nX (x:AV × dW):Bool:=iG x.1&&x.2.all λy=>UU y.2
def xA (f:Nat) (u:dW):dW:=if sZ f=true then [] else u
def wV (f:Nat) (u:dW) (x:AV × dW):Option wP :=if (sZ f&&!nX x)=true then none else some (.data x.1 (xA f u++x.2))
def Fe (n:Nat) (h:aG):dW:=((h.filter λx=>decide (n<=x.1)).map λx=>(x.1,some x.2)).reverse
def jd (L:List Nat):Option fC->Bool
 | some (.cells _ es mu _)=>mu&&es.all (nO L)
 | _=>false
def kQ (h:aG) (v:AV) (L:List Nat):Bool:=cO L v&&L.all λb=>jd L (Pav.get h b)
def Nw (f:Nat) (u:dW):dW:=if zJ f=true then [] else u
def xE (f:Nat) (h:aG) (v:AV):Option aG :=if zJ f=true then (if kQ h v (aK h ay v)=true then some (h.filter λx=>(aK h ay v).contains x.1) else none) else some h
def jM (C:aH) (run:yQ) (f:Nat) (args:List AV) (h:aG) (nid n:Nat):Option wP :=
 if C.inl f then (if Ob f then ob (aZ (bK h ay) args) λaz=>if tV f then ob (run f az [] n) λr=>om (xE f r.2.1 r.1) λhk=>.deep r.1 (Nw f (aY h (args.flatMap (aK h ay)))) (Fe n hk) r.2.2 else ob (jA run f az nid) (wV f (aY h (args.flatMap (aK h ay))))
  else om (run f args h n) λr=>.whole r.1 r.2.1 r.2.2)
 else if (!C.pp f&&bV args)=true then om (run f args h n) λr=>.whole r.1 r.2.1 r.2.2
 else ob (aZ (bK h ay) args) λaz=>om (jK run f az) λv=>.data v (pF h args v)
structure kY where
 v:AV
 h:aG
 n:Nat
 bar:Bool
 rd:List Nat
 wr:List Nat
def iZ (h:aG) (n:Nat) (args:List AV):wP->kY
 | .data v u=>⟨v,bU h u,n,false,args.flatMap (aK h ay),u.map (·.1)⟩
 | .whole v h' n'=>⟨v,h',n',true,[],[]⟩
 | .deep v mk u n'=>⟨v,bU (bU h mk) u,n',true,args.flatMap (aK h ay),n::mk.map (·.1)⟩
def jV (C:aH) (run:yQ) (op:COp) (nid:Nat) (e:Env) (h:aG) (n:Nat):Option kY :=
 match callOf e op with
 | none=>none
 | some (some (f,args))=>om (jM C run f args h nid n) (iZ h n args)
 | some none=>om (stepW op e h nid) λx=>⟨x.1,bU h x.2,n,false,readsOf e op,x.2.map (·.1)⟩
def gY (C:aH) (run:yQ) (o:bg) (nid:Nat) (e:Env) (h:aG) (n:Nat):Option kY :=
 match wants e o.guard with
 | none=>none
 | some false=>some ⟨.tup [],h,n,false,[],[]⟩
 | some true=>jV C run o.op nid e h n
def jf (C:aH) (run:yQ):List bg->WSt->Option WSt
 | [],s=>some s
 | o::r,s=>ob (gY C run o s.next s.env s.heap (s.next+1)) λd=>jf C run r ⟨eG s.env o.dst d.v,d.h,d.n⟩
def DL (d:kY):Bool:=!d.bar&&(d.wr.isEmpty&&d.rd.isEmpty)
def Vy (rd wr rd' wr':List Nat):Bool :=
 match wr with
 | []=>true
 | k::w=>(rd'++wr').any (λc=>decide (k<=c))||(meets w wr'||(meets w rd'||meets rd wr'))
def Wp (a b:kY):Bool:=!(DL a||DL b)&&(if a.bar=true then b.bar||Vy a.rd a.wr b.rd b.wr else if b.bar=true then Vy b.rd b.wr a.rd a.wr else (meets a.wr b.wr||(meets a.wr b.rd||meets a.rd b.wr)))
def fJ (C:aH) (run:yQ):List bg->Nat->WSt->List kY->Option (WSt × List kY)
 | [],_,s,ds=>some (s,ds)
 | o::r,nid,s,ds=>ob (gY C run o nid s.env s.heap s.next) λd=>fJ C run r (nid+1) ⟨eG s.env o.dst d.v,d.h,d.n⟩ (ds++[d])
def IZ (ds:List kY) (p:Nat × Nat):Bool :=
 match ds[p.1]?,ds[p.2]? with
 | some a,some b=>!Wp a b
 | _,_=>false
def Dw (e:Env) (h:aG):vK->Option AV
 | .tmp t=>Pav.get e t
 | .cell t n ag=>match Pav.get e t with
  | some (.ptr b i o)=>yL n ag o i (Pav.get h b)
  | _=>none
def IW (e:Env) (h:aG) (rs:List vK):Option AV:=om (aZ (Dw e h) rs) IG
def fQ (res:List vK) (r:Ex × WSt):Option (AV × aG × Nat) :=
 match r.1 with
 | .exit _=>none
 | _=>om (IW r.2.env r.2.heap res) λv=>(v,r.2.heap,r.2.next)
abbrev WEv:=Nat->aA->WSt->Option (Ex × WSt)
def fV (C:aH) (ev:WEv):yQ:=λf args h n =>ob (C.fns.get f) λfn=>if args.length=fn.np then ob (ev n fn.body ⟨Ia 0 args [],h,n⟩) (fQ fn.res) else none
def fF (b:WSt->Option (Ex × WSt)) (r:Ex × WSt):Option (Ex × WSt) :=
 match r.1 with
 | .norm=>b r.2
 | _=>some r
def lJ (base id:Nat) (a:Ann) (r:Ex × WSt):Option (Ex × WSt) :=
 match r.1 with
 | .norm=>om (canon base a r.2) λs=>(.norm,s)
 | .exit i=>if i=id then om (canon base a r.2) λs=>(.norm,s) else some r
 | .ret=>some r
def yN (a b:WSt->Option (Ex × WSt)) (v:AV) (s:WSt):Option (Ex × WSt) :=
 match v with
 | .bool t=>if t then a s else b s
 | _=>none
def vM (base:Nat) (un:List (Nat × Nat)) (a:Ann) (r:WSt × List kY):Option (Ex × WSt) :=if un.all (IZ r.2)=true then om (rE base a r.1) λs=>(.norm,s) else none
def evW (C:aH):Nat->WEv
 | 0,_,_,_=>none
 | n+1,base,c,s =>
  match c with
  | .skip=>some (.norm,s)
  | .ops l a=>ob (jf C (fV C (evW C n)) l s) λs=>om (rE base a s) λs=>(.norm,s)
  | .draw l un a=>ob (fJ C (fV C (evW C n)) l s.next ⟨s.env,s.heap,s.next+l.length⟩ []) (vM base un a)
  | .seq a b=>ob (evW C n base a s) (fF (evW C n base b))
  | .cond c a b=>yN (evW C n base a) (evW C n base b) (c.ev s.env) s
  | .block id b a=>ob (evW C n base b s) (lJ base id a)
  | .loop a b=>ob (canon base a s) λs=>ob (evW C n base b s) (fF (evW C n base (.loop a b)))
  | .exit id=>some (.exit id,s)
  | .ret=>some (.ret,s)
  | .fail=>none
  | .cln zz z b=>match (Pav.get s.env 0).bind KO with
   | some z'=>if z'=z/\zz.length=z/\8<=n then some (.ret,⟨[(2,.sl s.next z 0 0 0 true)],Pav.put s.heap s.next (.cells z [] true true),s.next+1⟩) else none
   | none=>evW C n base (amg zz z b) s
def J3 (C:aH) (n:Nat):yQ:=fV C (evW C n)
def aew (C:aH) (n:Nat) (f:Nat) (args:List AV):Option AV:=jK (J3 C n) f args
mutual
def er:AV->AV
 | .ro z es ex=>(match es,ex with
  | [],true=>.bF
  | es,ex=>.ro z es ex)
 | .agg cs=>.agg (erL cs)
 | .fn f cs=>.fn f (erL cs)
 | .tup cs=>.tup (erL cs)
 | v=>v
def erL:List AV->List AV
 | []=>[]
 | v::r=>er v::erL r
end
def erO:Opd->Opd
 | .t s=>.t s
 | .c v=>.c (er v)
def gu:COp->COp
 | .mv x=>.mv (erO x)
 | .pick c a b=>.pick (erO c) (erO a) (erO b)
 | .alloc z=>.alloc (erL z)
 | .box x=>.box (erO x)
 | .build z ps=>.build (erL z) (ps.map λp=>(p.1,p.2.1,erO p.2.2))
 | .aP z len ps=>.aP (erL z) len (ps.map λp=>(p.1,erO p.2))
 | .load n ag a=>.load n ag (erO a)
 | .store n a x=>.store n (erO a) (erO x)
 | .jQ x=>.jQ (erO x)
 | .bin op x y=>.bin op (erO x) (erO y)
 | .eqv kd ks ne x y=>.eqv kd ks ne (erO x) (erO y)
 | .un op x=>.un op (erO x)
 | .cvt k x=>.cvt k (erO x)
 | .cvs x=>.cvs (erO x)
 | .cvb x=>.cvb (erO x)
 | .iW f caps=>.iW f (caps.map erO)
 | .lY=>.lY
 | .kE z bytes l c=>.kE (erL z) bytes (erO l) (erO c)
 | .slice z x lo hi mx=>.slice z (erO x) (lo.map erO) (hi.map erO) (mx.map erO)
 | .gX n x lo hi=>.gX n (erO x) (lo.map erO) (hi.map erO)
 | .fld off x=>.fld off (erO x)
 | .yU off n ag x=>.yU off n ag (erO x)
 | .idxs z x i=>.idxs z (erO x) (erO i)
 | .gq len z x i=>.gq len z (erO x) (erO i)
 | .fB x i=>.fB (erO x) (erO i)
 | .vI len z ag x i=>.vI len z ag (erO x) (erO i)
 | .look kd z ok m k=>.look kd (er z) ok (erO m) (erO k)
 | .upd kd m k v=>.upd kd (erO m) (erO k) (erO v)
 | .range x=>.range (erO x)
 | .next x=>.next (erO x)
 | .ext i x=>.ext i (erO x)
 | .call f args=>.call f (args.map erO)
 | .dN g args=>.dN (erO g) (args.map erO)
 | .len kd x=>.len kd (erO x)
 | .cap x=>.cap (erO x)
 | .app z bytes zeros s x=>.app (erL z) bytes zeros (erO s) (erO x)
 | .cpy z d s=>.cpy z (erO d) (erO s)
 | .clr z d=>.clr (erL z) (erO d)
 | .mx x y=>.mx (erO x) (erO y)
 | .mn x y=>.mn (erO x) (erO y)
 | .fail=>.fail
def vg (o:bg):bg:=⟨o.dst,o.guard,gu o.op⟩
def erC:aA->bn
 | .skip=>.skip
 | .ops l a=>.ops (l.map vg) (uQ a,Jd a.grow)
 | .draw l un a=>.draw (l.map vg) un (uQ a,Jd a.grow)
 | .seq a b=>.seq (erC a) (erC b)
 | .cond c a b=>.cond (erO c) (erC a) (erC b)
 | .block id b _=>.block id (erC b)
 | .loop a b=>.loop (uQ a) (erC b)
 | .exit id=>.exit id
 | .ret=>.ret
 | .fail=>.fail
 | .cln zz _ b=>afI (erL zz) b
def aS (f:WFn):CFn:=⟨f.np,f.res,erC f.body⟩
def Ei:rX->Tree
 | .leaf=>.leaf
 | .node l k f r=>.node (Ei l) k (aS f) (Ei r)
def fK (C:aH):Prog:=⟨Ei C.fns,C.inl,C.pp⟩
mutual
/-- A constant that has its like. -/
def okV:AV->Bool
 | .ptr _ _ _=>false
 | .sl _ _ _ _ _ _=>false
 | .map _=>false
 | .rop _=>false
 | .undef=>false
 | .ro _ es _=>es.isEmpty
 | .fn _ cs=>okL cs
 | .agg cs=>okL cs
 | .tup cs=>okL cs
 | _=>true
def okL:List AV->Bool
 | []=>true
 | v::r=>okV v&&okL r
end
def okO:Opd->Bool
 | .t _=>true
 | .c v=>okV v
def jh:COp->Bool
 | .mv x | .box x | .load _ _ x | .jQ x | .un _ x | .cvt _ x | .cvs x | .cvb x | .fld _ x | .yU _ _ _ x | .range x | .next x | .ext _ x | .len _ x | .cap x=>okO x
 | .pick c a b | .upd _ c a b=>okO c&&(okO a&&okO b)
 | .alloc z=>okL z
 | .build z ps=>okL z&&ps.all λp=>okO p.2.2
 | .aP z _ ps=>okL z&&ps.all λp=>okO p.2
 | .store _ a x | .bin _ a x | .eqv _ _ _ a x | .idxs _ a x | .gq _ _ a x | .fB a x | .vI _ _ _ a x | .cpy _ a x | .mx a x | .mn a x=>okO a&&okO x
 | .iW _ caps=>caps.all okO
 | .kE z _ l c=>okL z&&(okO l&&okO c)
 | .gX _ x lo hi=>okO x&&((lo.map okO).getD true&&(hi.map okO).getD true)
 | .slice _ x lo hi mx=>okO x&&((lo.map okO).getD true&&((hi.map okO).getD true&&(mx.map okO).getD true))
 | .look _ z _ m k=>okV z&&(okO m&&okO k)
 | .call _ args=>args.all okO
 | .dN g args=>okO g&&args.all okO
 | .app z _ _ s x=>okL z&&(okO s&&okO x)
 | .clr z d=>okL z&&okO d
 | .lY | .fail=>true
def okC:aA->Bool
 | .ops l _=>l.all λo=>jh o.op
 | .draw l _ _=>l.all λo=>jh o.op
 | .seq a b=>okC a&&okC b
 | .cond c a b=>okO c&&(okC a&&okC b)
 | .block _ b _=>okC b
 | .loop _ b=>okC b
 | .cln zz _ _=>okL zz
 | _=>true
def uK:rX->Bool
 | .leaf=>true
 | .node l _ f r=>uK l&&(okC f.body&&uK r)
end Go.Pw
end
section
set_option linter.unusedSimpArgs false
set_option linter.unusedVariables false
namespace Go.Pav
open Go
def DF:Value->Option AV
 | .bool b=>some (.bool b)
 | .int k n=>some (.int k n)
 | .string s=>some (.str s.data.toList)
 | .pointer none=>some .eH
 | .slice none 0 0=>some .bF
 | .map none=>some .dU
 | .nilFunc=>some .bQ
 | _=>none
def ahK:Value->Option AV
 | .agg cs=>(cs.toList.mapM DF).map .agg
 | v=>DF v
def zeroCells (P:Program) (t:TypeId):Option (List AV):=do
 let i <- P.info? t;let z <- i.zero;let cs <- z.cells.toList.mapM DF
 if cs.length=i.size then some cs else none
def sizeT (P:Program) (t:TypeId):Option Nat:=(P.info? t).map (·.size)
def uz (P:Program) (t:TypeId):Option Bool :=
 (P.underlying t).map fun
  | .struct _ | .array _ _=>true
  | _=>false
def mY (P:Program) (t:TypeId):Option Nat :=
 match P.underlying t with
 | some (.int _)=>some 0
 | some .string=>some 1
 | some .bool=>some 2
 | _=>none
def nM (P:Program):Nat->List Field->Option (List Nat)
 | _,[]=>some []
 | k, f :: r => if f.offset = k /\ f.name ≠ "_" /\ sizeT P f.type = some 1 then do
  let kd <- mY P f.type;let ks <- nM P (k+1) r
  some (kd::ks)
  else none
section
variable (P:Program) (φ:FuncId->Option Nat)
def fD:Operand->Option Opd
 | .tmp t=>some (.t t)
 | .const v=>(ahK v).map .c
 | .func f=>(φ f).map λg=>.c (.fn g [])
 | .global _=>none
def Ld (xs:List Operand):Option (List Opd):=xs.mapM (fD φ)
def cOpt:Option Operand->Option (Option Opd)
 | none=>some none
 | some x=>(fD φ x).map some
def zG (fs:Nat->Option (Nat × Nat)):List (Nat × Operand)->Option (List (Nat × Nat × Opd))
 | []=>some []
 | (i,x)::r=>do
  let (off,n) <- fs i;let y <- fD φ x;let ys <- zG fs r
  some ((off,n,y)::ys)
def I8:List (Nat × Operand)->Option (List (Nat × Opd))
 | []=>some []
 | (i,x)::r=>do
  let y <- fD φ x;let ys <- I8 r
  some ((i,y)::ys)
def cLen:List Operand->List TypeId->Option COp
 | [x],[t]=>do
  let x <- fD φ x;match <- P.underlying t with
  | .string=>some (.len 0 x)
  | .slice _=>some (.len 1 x)
  | .map _ _=>some (.len 2 x)
  | _=>none
 | _,_=>none
def ak6:List Operand->List TypeId->Option COp
 | [x],[t]=>do
  let x <- fD φ x;match <- P.underlying t with
  | .slice _=>some (.cap x)
  | _=>none
 | _,_=>none
def Ot:List Operand->List TypeId->Option COp
 | [s,x],[t,u]=>do
  let s <- fD φ s;let x <- fD φ x;match <- P.underlying t with
  | .slice e=>do
   let z <- zeroCells P e;let i <- P.info? e
   if z.length=0\/i.bytes=0 then none else
   match <- P.underlying u with
   | .int _=>some (.app z i.bytes true s x)
   | .slice _=>some (.app z i.bytes false s x)
   | .string=>some (.app z i.bytes false s x)
   | _=>none
  | _=>none
 | _,_=>none
def acz:List Operand->List TypeId->Option COp
 | [d,s],t::_::[]=>do
  let d <- fD φ d;let s <- fD φ s;match <- P.underlying t with
  | .slice e=>do
   let z <- sizeT P e
   if z=0 then none else some (.cpy z d s)
  | _=>none
 | _,_=>none
def Xi:List Operand->List TypeId->Option COp
 | [d],t::[]=>do
  let d <- fD φ d;match <- P.underlying t with
  | .slice e=>do
   let z <- zeroCells P e
   if z.length=0 then none else some (.clr z d)
  | _=>none
 | _,_=>none
def adk (mx:Bool):List Operand->Option COp
 | [x,y]=>do
  let x <- fD φ x;let y <- fD φ y
  some (if mx then .mx x y else .mn x y)
 | _=>none
def ku (b:Builtin) (args:List Operand) (ts:List TypeId):Option COp :=
 match b with
 | .len=>cLen P φ args ts
 | .cap=>ak6 P φ args ts
 | .append=>Ot P φ args ts
 | .copy=>acz P φ args ts
 | .clear=>Xi P φ args ts
 | .max=>adk φ true args
 | .min=>adk φ false args
 | _=>none
def cEq (kd:Nat) (ks:List Nat) (op:BinOp) (x y:Opd):Option COp :=
 match op with
 | .eql=>some (.eqv kd ks false x y)
 | .neq=>some (.eqv kd ks true x y)
 | _=>none
def cOp (op:Op):Option COp :=
 match op with
 | .move x | .assign x=>(fD φ x).map .mv
 | .pick c a b=>do some (.pick (<- fD φ c) (<- fD φ a) (<- fD φ b))
 | .alloc t=>(zeroCells P t).map .alloc
 | .box _ x=>(fD φ x).map .box
 | .build t ps=>do
  let z <- zeroCells P t;match <- P.underlying t with
  | .struct fs=>do
   let pl <- fs.toList.mapM λf=>(P.info? f.type).map λi=>(f.offset,i.size)
   some (.build z (<- zG φ (λi=>pl[i]?) ps.toList))
  | .array _ e=>do
   let n <- sizeT P e
   some (.build z (<- zG φ (λi=>some (i * n,n)) ps.toList))
  | _=>none
 | .buildSlice t len ps=>do
  match <- P.underlying t with
  | .slice e=>do
   let z <- zeroCells P e
   if z.length=0\/len * z.length > 2 ^ 24 then none else
   some (.aP z len (<- I8 φ ps.toList))
  | _=>none
 | .load t a=>do some (.load (<- sizeT P t) (<- uz P t) (<- fD φ a))
 | .store t a x=>do some (.store (<- sizeT P t) (<- fD φ a) (<- fD φ x))
 | .nilCheck x=>(fD φ x).map .jQ
 | .binOp op t x y _=>do
  let x <- fD φ x;let y <- fD φ y;match <- P.underlying t with
  | .int _ | .string=>some (.bin op x y)
  | .slice _=>cEq 0 [] op x y
  | .func _ _ _=>cEq 1 [] op x y
  | .pointer _=>cEq 2 [] op x y
  | .map _ _=>cEq 3 [] op x y
  | .bool=>cEq 5 [] op x y
  | .struct fs=>do
   let ks <- nM P 0 fs.toList
   if P.eqGuardType P.depth t=false/\P.stoodInHeld t=false then cEq 4 ks op x y else none
  | _=>none
 | .unOp op _ x=>(fD φ x).map (.un op)
 | .convert s t x=>do
  let x <- fD φ x;match <- P.underlying s,<- P.underlying t with
  | .int _,.int k=>some (.cvt k x)
  | .string,.string=>some (.cvs x)
  | .slice e,.string=>do
   match <- P.underlying e with
   | .int .u8=>some (.cvb x)
   | _=>none
  | _,_=>none
 | .makeFunc (.func f) first caps=>do
  let g <- φ f
  if first.size=0 then some (.iW g (<- Ld φ caps.toList)) else none
 | .makeMap _ none=>some .lY
 | .makeSlice t l c=>do
  let l <- fD φ l;let c <- fD φ c;match <- P.underlying t with
  | .slice e=>do
   let z <- zeroCells P e;let i <- P.info? e
   if z.length=0 then none else
   some (.kE z i.bytes l c)
  | _=>none
 | .slice t x lo hi mx=>do
  let x <- fD φ x;match <- P.underlying t with
  | .slice el=>do
   let z <- sizeT P el
   if z=0 then none else some (.slice z x (<- cOpt φ lo) (<- cOpt φ hi) (<- cOpt φ mx))
  | .string=>do some (.slice 0 x (<- cOpt φ lo) (<- cOpt φ hi) (<- cOpt φ mx))
  | .array n el=>do
   let z <- sizeT P el
   if z=1/\mx=none then some (.gX n x (<- cOpt φ lo) (<- cOpt φ hi)) else none
  | _=>none
 | .fieldAddr t x f=>do
  let x <- fD φ x;match <- P.underlying t with
  | .struct fs=>do
   let f <- fs[f]?
   if (<- sizeT P f.type)=0 then none else some (.fld f.offset x)
  | _=>none
 | .field t x f=>do
  let x <- fD φ x;match <- P.underlying t with
  | .struct fs=>do
   let f <- fs[f]?
   some (.yU f.offset (<- sizeT P f.type) (<- uz P f.type) x)
  | _=>none
 | .indexAddr t x i=>do
  let x <- fD φ x;let i <- fD φ i;match <- P.underlying t with
  | .slice e=>do
   let n <- sizeT P e
   if n=0 then none else some (.idxs n x i)
  | .array len e=>do
   let n <- sizeT P e
   if n=0 then none else some (.gq len n x i)
  | _=>none
 | .index t x i=>do
  let x <- fD φ x;let i <- fD φ i;match <- P.underlying t with
  | .string=>some (.fB x i)
  | .array len e=>do some (.vI len (<- sizeT P e) (<- uz P e) x i)
  | _=>none
 | .lookup t m k ok=>do
  let m <- fD φ m;let k <- fD φ k;match <- P.underlying t with
  | .map kt et=>do
   let i <- P.info? et;let z <- i.zero;let z <- ahK z;let kd <- mY P kt
   some (.look kd z ok m k)
  | _=>none
 | .mapUpdate t m k v | .insert t m k v=>do
  let m <- fD φ m;let k <- fD φ k;let v <- fD φ v;match <- P.underlying t with
  | .map kt _=>do some (.upd (<- mY P kt) m k v)
  | _=>none
 | .range t x=>do
  let x <- fD φ x;match <- P.underlying t with
  | .string=>some (.range x)
  | _=>none
 | .next x true=>(fD φ x).map .next
 | .extract x i=>(fD φ x).map (.ext i)
 | .call c=>match c.callee with
  | .value (.func f)=>do
   let g <- φ f
   some (.call g (<- Ld φ c.args.toList))
  | .value g=>do some (.dN (<- fD φ g) (<- Ld φ c.args.toList))
  | .builtin b=>ku P φ b c.args.toList c.argTypes.toList
  | .invoke _ _=>none
 | _=>none
def cu (ops:Array Oper) (o:Oper):bg :=
 let g:Option (Option (Nat × Bool)):=match o.guard with
  | none=>some none
  | some (j,w)=>((ops[j]?).bind (·.dst)).map λd=>some (d,w)
 match g,cOp P φ o.op with
 | some g,some op=>⟨o.dst,g,op⟩
 | _,_=>⟨o.dst,none,.fail⟩
def Opd.slot:Opd->List Nat
 | .t s=>[s]
 | .c _=>[]
def xM:Option Opd->List Nat
 | none=>[]
 | some x=>x.slot
def COp.slots:COp->List Nat
 | .mv x | .box x | .jQ x | .un _ x | .cvt _ x | .cvs x | .cvb x | .fld _ x | .yU _ _ _ x | .range x | .next x | .ext _ x | .len _ x | .cap x | .load _ _ x | .clr _ x=>x.slot
 | .pick a b c | .upd _ a b c=>a.slot++b.slot++c.slot
 | .alloc _ | .lY | .fail=>[]
 | .build _ ps=>ps.flatMap λp=>p.2.2.slot
 | .aP _ _ ps=>ps.flatMap λp=>p.2.slot
 | .store _ a x | .bin _ a x | .eqv _ _ _ a x | .kE _ _ a x | .idxs _ a x | .gq _ _ a x | .fB a x | .vI _ _ _ a x | .look _ _ _ a x | .app _ _ _ a x | .cpy _ a x | .mx a x | .mn a x=>a.slot++x.slot
 | .iW _ xs | .call _ xs=>xs.flatMap Opd.slot
 | .dN g xs=>g.slot++xs.flatMap Opd.slot
 | .slice _ x a b c=>x.slot++xM a++xM b++xM c
 | .gX _ x a b=>x.slot++xM a++xM b
def bg.slots (o:bg):List Nat:=o.op.slots++(match o.guard with | some (s,_)=>[s] | none=>[])
def Qg (m:Nat):List Nat->Nat
 | []=>m
 | s::r=>Qg (m ||| 2 ^ s) r
def akC (m s:Nat):Nat:=if m.testBit s then m - 2 ^ s else m
def OB:List bg->Nat->Nat
 | [],out=>out
 | o::r,out =>
  let m:=OB r out;let m:=match o.dst with
   | some d=>akC m d
   | none=>m
  Qg m o.slots
def oh (rm:Nat):bn->Nat->List (Nat × Nat)->bn × Nat
 | .skip,out,_=>(.skip,out)
 | .ops l _,out,_=>(.ops l (out,[]),OB l out)
 | .draw l un _,out,_=>(.draw l un (out,[]),OB l out)
 | .seq a b,out,ex =>
  let (b,m):=oh rm b out ex;let (a,m):=oh rm a m ex
  (.seq a b,m)
 | .cond c a b,out,ex =>
  let (a,m):=oh rm a out ex;let (b,k):=oh rm b out ex
  (.cond c a b,Qg (m ||| k) c.slot)
 | .block id b,out,ex =>
  let (b,m):=oh rm b out ((id,out)::ex)
  (.block id b,m)
 | .loop _ b,_,ex =>
  let m:=(oh rm b 0 ex).2;let m:=(oh rm b m ex).2;let m:=m ||| (oh rm b m ex).2
  (.loop m (oh rm b m ex).1,m)
 | .exit id,_,ex=>(.exit id,(get ex id).getD 0)
 | .ret,_,_=>(.ret,rm)
 | .fail,_,_=>(.fail,0)
def ancestors (ops:List Oper):List Nat :=(ops.foldl (λacc o=>acc.push (o.after.toList.foldl (λs e=>if Region.binds .any e then s ||| 2 ^ e.on ||| acc.getD e.on 0 else s) 0)) (#[]:Array Nat)).toList
def qI:Nat->List Oper->Bool
 | _,[]=>true
 | k,o::r=>o.after.toList.all (λe=>!Region.binds .any e||Nat.blt e.on k)&&qI (k+1) r
def touches:COp->Bool
 | .gX _ _ _ _=>true
 | .load _ _ _ | .store _ _ _ | .alloc _ | .box _ | .aP _ _ _ | .lY | .kE _ _ _ _ | .look _ _ _ _ _ | .upd _ _ _ _ | .range _ | .next _ | .call _ _ | .dN _ _ | .len _ _ | .app _ _ _ _ _ | .cpy _ _ _ | .clr _ _=>true
 | _=>false
def writes:COp->Bool
 | .store _ _ _ | .gX _ _ _ _ | .upd _ _ _ _ | .next _ | .call _ _ | .dN _ _ | .app _ _ _ _ _ | .cpy _ _ _ | .clr _ _=>true
 | _=>false
def vP (a b:COp):Bool:=touches a&&touches b&&(writes a||writes b||a.makes||b.makes)
def dJ:COp->Bool
 | .call f _=>tV f
 | .dN _ _=>true
 | _=>false
def uN:COp->Bool
 | .call _ _=>true
 | .dN _ _=>true
 | _=>false
def mF (a b:bg):Bool :=
 !((dJ a.op&&uN b.op)||(uN a.op&&dJ b.op)) &&
 ((match a.dst with | some d=>!(b.slots.contains d)&&!(b.dst == some d) | none=>true) &&
 (match b.dst with | some d=>!(a.slots.contains d) | none=>true))
def unordered (anc:List Nat):List (Nat × Nat) :=(List.range anc.length).flatMap λj=>(List.range j).filterMap λi=>if ((anc.getD j 0).testBit i) then none else some (i,j)
def Og (ops:Array Oper) (draw:Bool):bn :=
 let l:=ops.toList.map (cu P φ ops);match draw with
 | false=>.ops l (0,[])
 | true =>
  let anc:=ancestors ops.toList;let un:=unordered anc
  if qI 0 ops.toList&&un.all (λp=>mF (l.getD p.1 default) (l.getD p.2 default)) then
   .draw l (un.filter λp=>vP (l.getD p.1 default).op (l.getD p.2 default).op) (0,[])
  else .fail
def iT:Nat:=999999
def gV (l:Nat):Nat:=1000000+2 * l
def l9 (l:Nat):Nat:=1000001+2 * l
def dM (p:Nat->Bool):Code->Bool
 | .goto l=>p l
 | .seq a b=>dM p a&&dM p b
 | .cond _ a b=>dM p a&&dM p b
 | .block _ b=>dM p b
 | .loop b=>dM p b
 | .scope b=>dM p b
 | .rangeFunc _ _ a b=>dM p a&&dM p b
 | _=>true
def JO:Code->Bool:=dM λ_=>false
def Bl:Code->Option Nat
 | .label l=>some l
 | _=>none
def Q7:Code->Option Nat
 | .seq a b=>match Bl a with
  | some l=>some l
  | none=>Q7 b
 | _=>none
def gZ (l:Nat):Code->Bool
 | .seq a b=>match Bl a with
  | some l'=>decide (l'=l)&&dM (λk=>decide (k=l)) b
  | none=>JO a&&(findLabel a l).isNone&&gZ l b
 | _=>false
mutual
def lZ:Code->bn
 | .skip=>.skip
 | .region _ ops draw=>Og P φ ops draw
 | .seq a b=>.seq (lZ a) (lZ b)
 | .cond c a b=>match fD φ c with
  | some c=>.cond c (lZ a) (lZ b)
  | none=>.fail
 | .block id b=>.block id (lZ b)
 | .loop b=>.loop 0 (lZ b)
 | .scope b=>match JO b with
  | true=>.seq (lZ b) .skip
  | false=>O5 b
 | .label _=>.skip
 | .goto l=>.exit (gV l)
 | .exit id=>.exit id
 | .ret=>.ret
 | _=>.fail
/-- Statements of which one is jumped back to. -/
def O5:Code->bn
 | .seq a b=>match Bl a with
  | some l=>.block (l9 l) (.loop 0 (.block (gV l) (.seq (lZ b) (.exit (l9 l)))))
  | none=>.seq (lZ a) (O5 b)
 | _=>.fail
end
def NJ:ResultVar->Option vK
 | .tmp t=>some (.tmp t)
 | .cell t ty=>do some (.cell t (<- sizeT P ty) (<- uz P ty))
def vK.slot:vK->Nat
 | .tmp t=>t
 | .cell t _ _=>t
def dX (nt:Nat):Code->Bool
 | .region _ ops _=>ops.toList.all λo=>match o.dst with | some d=>Nat.blt d nt | none=>true
 | .seq a b=>dX nt a&&dX nt b
 | .cond _ a b=>dX nt a&&dX nt b
 | .block id b=>Nat.blt id iT&&dX nt b
 | .loop b=>dX nt b
 | .scope b=>dX nt b&&(JO b||match Q7 b with | some l=>gZ l b | none=>false)
 | .exit id=>Nat.blt id iT
 | _=>true
def afU:Op->Bool
 | .defer _=>true
 | _=>false
def gB:Code->Bool
 | .region _ ops _=>ops.toList.any λo=>afU o.op
 | .seq a b=>gB a||gB b
 | .cond _ a b=>gB a||gB b
 | .block _ b=>gB b
 | .loop b=>gB b
 | .scope b=>gB b
 | .rangeFunc _ _ _ _=>true
 | _=>false
def gG (t:Nat):Code->Bool
 | .region _ ops _=>ops.toList.any λo=>match o.dst with | some d=>Nat.beq d t | none=>false
 | .seq a b=>gG t a||gG t b
 | .cond _ a b=>gG t a||gG t b
 | .block _ b=>gG t b
 | .loop b=>gG t b
 | .scope b=>gG t b
 | .rangeFunc _ _ _ _=>true
 | _=>false
def Es:bn->bn
 | .ret=>.exit iT
 | .seq a b=>.seq (Es a) (Es b)
 | .cond c a b=>.cond c (Es a) (Es b)
 | .block id b=>.block id (Es b)
 | .loop m b=>.loop m (Es b)
 | c=>c
def deferred (ops:List Oper):Option (List Oper × Nat × FuncId) :=
 match ops.reverse with
 | d::mk::r=>match d.op,d.dst,d.guard,mk.op,mk.dst,mk.guard with
  | .defer ⟨.value (.tmp t),args,_⟩,none,none,.makeFunc (.func f) _ _,some t',none=>if t=t'/\args.size=0 then some ((mk::r).reverse,t,f) else none
  | _,_,_,_,_,_=>none
 | _=>none
def Dy:Code->bn
 | .seq a b=>match a with
  | .region _ ops false=>match deferred ops.toList with
   | some (l,t,f) =>
    if gG t b=false/\(((P.funcs[f]?).bind (·.body)).map gB)=some false/\gB b=false then
     .seq (.ops (l.map (cu P φ ops)) (0,[])) (.seq (.block iT (Es (lZ P φ b))) (.ops [⟨none,none,.dN (.t t) []⟩] (0,[])))
    else .fail
   | none=>.seq (lZ P φ a) (Dy b)
  | _=>.seq (lZ P φ a) (Dy b)
 | _=>.fail
def ajw (c:Code):bn:=match gB c with
 | true=>Dy P φ c
 | false=>lZ P φ c
def cFn (fn:Func):Option CFn:=do
 let c <- fn.body
 if dX fn.ntmps c=false then none else
 let res <- fn.results.toList.mapM (NJ P);let rm:=Qg 0 (res.map vK.slot)
 if fn.name = "runtime.NumGoroutine" then none else
 some ⟨fn.params.size+fn.nfree,res,(oh rm (ajw P φ c) rm []).1⟩
end
end Go.Pav
end
section
set_option linter.unusedSimpArgs false
set_option linter.unusedVariables false
namespace Go.Pav
open Go
section lists
variable {α:Type}
theorem get_put (l:List (Nat × α)) (n:Nat) (x:α) (k:Nat):get (put l n x) k=if n=k then some x else get l k:=by
 induction l with
 | nil=>simp [put,get]
 | cons a r ih =>
  obtain ⟨j,v⟩:=a;simp only [put];by_cases h1:j=n
  ·subst h1;simp only [qQx,get];by_cases h2:j=k <;> simp [h2]
  ·simp only [h1,qWz];by_cases h2:n<=j
   ·simp only [h2,qQx,get]
   ·simp only [h2,qWz,get,ih];by_cases h3:j=k
    ·subst h3;simp [qcj h1]
    ·simp [h3]
theorem oD (l:List (Nat × α)) (n k:Nat):get (del l n) k=if n=k then none else get l k:=by
 induction l with
 | nil=>simp [del,get]
 | cons a r ih =>
  obtain ⟨j,v⟩:=a;simp only [del];by_cases h1:j=n
  ·subst h1;simp only [qQx,ih,get];by_cases h2:j=k <;> simp [h2]
  ·simp only [h1,qWz,get,ih];by_cases h3:j=k
   ·subst h3;simp [qcj h1]
   ·simp [h3]
theorem RP (m:Nat) (l:List (Nat × α)) (k:Nat):get (Pav.keep m l) k=if m.testBit k then get l k else none:=by
 induction l with
 | nil=>simp [Pav.keep,get]
 | cons a r ih =>
  obtain ⟨j,v⟩:=a;simp only [Pav.keep];by_cases h1:m.testBit j=true
  ·simp only [h1,qQx,get,ih];by_cases h3:j=k
   ·subst h3;simp [h1]
   ·simp [h3]
  ·rw [qwq h1,ih];simp only [get];by_cases h3:j=k
   ·subst h3;simp [h1]
   ·simp [h3]
theorem get_mem {l:List (Nat × α)} {k:Nat} {x:α} (h:get l k=some x):(k,x) ∈ l:=by
 induction l with
 | nil=>simp [get] at h
 | cons a r ih =>
  obtain ⟨j,v⟩:=a;simp only [get] at h;by_cases h1:j=k
  ·simp [h1] at h;subst h;subst h1;simp
  ·simp [h1] at h;exact qyz _ (ih h)
end lists
theorem au {α β:Type} {x:Option α} {f:α->Option β} {b:β} (h:ob x f=some b):∃ a,x=some a/\f a=some b:=by
 cases x with
 | none=>simp [ob] at h
 | some a=>exact ⟨a,rfl,h⟩
theorem aB {α β:Type} {x:Option α} {f:α->β} {b:β} (h:om x f=some b):∃ a,x=some a/\f a=b:=by
 cases x with
 | none=>simp [om] at h
 | some a=>exact ⟨a,rfl,by simpa [om] using h⟩
theorem yP {β:Type} {c:Bool} {x:Option β} {b:β} (h:og c x=some b):c=true/\x=some b:=by
 cases c with
 | false=>simp [og] at h
 | true=>exact ⟨rfl,h⟩
theorem dB {α β:Type} {f:α->Option β}:∀ {l:List α} {r:List β},aZ f l=some r->r.length=l.length/\∀ (i:Nat) (a:α),l[i]?=some a->∃ b,r[i]?=some b/\f a=some b:=by
 intro l;induction l with
 | nil=>intro r h;simp [aZ] at h;subst h;simp
 | cons a l ih =>
  intro r h;simp only [aZ] at h;obtain ⟨b,hb,h⟩:=au h;obtain ⟨bs,hbs,rfl⟩:=aB h;obtain ⟨hl,hi⟩:=ih hbs;refine ⟨by simp [hl],?_⟩;intro i x hx;cases i with
  | zero=>simp at hx;subst hx;exact ⟨b,by simp,hb⟩
  | succ i=>simpa using hi i x (by simpa using hx)
inductive VR (ψ:Nat->FuncId) (w:World) (S:Nat->Prop) (m:Nat->Nat × Nat):(Nat->Prop)->AV->Value->Prop
 | undef {A:Nat->Prop} (v:Value):VR ψ w S m A .undef v
 | bool {A:Nat->Prop} (b:Bool):VR ψ w S m A (.bool b) (.bool b)
 | int {A:Nat->Prop} (k:IntKind) (n:Int):VR ψ w S m A (.int k n) (.int k n)
 | str {A:Nat->Prop} (s:List UInt8):VR ψ w S m A (.str s) (.string ⟨⟨s⟩⟩)
 | eH {A:Nat->Prop}:VR ψ w S m A .eH (.pointer none)
 | bF {A:Nat->Prop}:VR ψ w S m A .bF (.slice none 0 0)
 | dU {A:Nat->Prop}:VR ψ w S m A .dU (.map none)
 | bQ {A:Nat->Prop}:VR ψ w S m A .bQ .nilFunc
 | ro {A:Nat->Prop} (z:Nat) (es:List (List AV)) (ex:Bool) (b off cap:Nat) (cs:Nat->Nat->Value) (hS:S b)
  (hz:∀ (i:Nat) (e:List AV),es[i]?=some e->e.length=z) (hc:es.length<=cap) (hx:ex=true->cap=es.length)
  (hcell:∀ (i:Nat) (e:List AV) (j:Nat) (x:AV),es[i]?=some e->e[j]?=some x->x.cell=true/\w.cell? ⟨b,off+i * z+j,none⟩=some (cs i j))
  (hrep:∀ (i:Nat) (e:List AV) (j:Nat) (x:AV),es[i]?=some e->e[j]?=some x->VR ψ w S m (λ_=>False) x (cs i j)) :
  VR ψ w S m A (.ro z es ex) (.slice (some ⟨b,off,none⟩) es.length cap)
 | roe {A:Nat->Prop} (z:Nat) (ex:Bool) (a:Addr) (k:Nat) (hk:ex=true->k=0):VR ψ w S m A (.ro z [] ex) (.slice (some a) 0 k)
 | rop {A:Nat->Prop} (cs:List AV) (b off:Nat) (vs:Nat->Value) (hS:S b)
  (hcell:∀ (j:Nat) (x:AV),cs[j]?=some x->x.cell=true/\w.cell? ⟨b,off+j,none⟩=some (vs j))
  (hrep:∀ (j:Nat) (x:AV),cs[j]?=some x->VR ψ w S m (λ_=>False) x (vs j)) :
  VR ψ w S m A (.rop cs) (.pointer (some ⟨b,off,none⟩))
 | ptr {A:Nat->Prop} (b i o:Nat) (hA:A b):VR ψ w S m A (.ptr b i o) (.pointer (some ⟨(m b).1,i * (m b).2+o,none⟩))
 | sl {A:Nat->Prop} (b z i len cap:Nat) (ex:Bool) (c:Nat) (hA:A b) (hz:(m b).2=z) (hl:len<=c) (hc:cap<=c) (hx:ex=true->c=cap)
  (hrow:∃ cur t fr,w.heap[(m b).1]?=some (.cells cur t fr)/\(i+c) * z<=cur.size) :
  VR ψ w S m A (.sl b z i len cap ex) (.slice (some ⟨(m b).1,i * z,none⟩) len c)
 | map {A:Nat->Prop} (b:Nat) (hA:A b):VR ψ w S m A (.map b) (.map (some (m b).1))
 | fn {A:Nat->Prop} (f:Nat) (caps:List AV) (vs:Array Value) (hn:vs.size=caps.length)
  (hc:∀ (j:Nat) (x:AV),caps[j]?=some x->VR ψ w S m A x (vs.getD j undef)):VR ψ w S m A (.fn f caps) (.func (.func (ψ f)) #[] vs)
 | agg {A:Nat->Prop} (cs:List AV) (vs:Array Value) (hn:vs.size=cs.length)
  (hcell:∀ (j:Nat) (x:AV),cs[j]?=some x->x.cell=true) (hc:∀ (j:Nat) (x:AV),cs[j]?=some x->VR ψ w S m A x (vs.getD j undef)):VR ψ w S m A (.agg cs) (.agg vs)
 | tup {A:Nat->Prop} (cs:List AV) (vs:Array Value) (hn:vs.size=cs.length)
  (hc:∀ (j:Nat) (x:AV),cs[j]?=some x->VR ψ w S m A x (vs.getD j undef)):VR ψ w S m A (.tup cs) (.tuple vs)
structure Le (w:World) (S:Nat->Prop) (m:Nat->Nat × Nat) (A:Nat->Prop) (w':World) (S':Nat->Prop) (m':Nat->Nat × Nat) (A':Nat->Prop):Prop where
 kept:∀ b,S b->w'.heap[b]?=w.heap[b]?
 rows:∀ (b:Nat) c t fr,w.heap[b]?=some (.cells c t fr)->∃ c',w'.heap[b]?=some (.cells c' t fr)/\c'.size=c.size
 size:w.heap.size<=w'.heap.size
 sub:∀ b,S b->S' b
 made:∀ b,A b->A' b
 same:∀ b,A b->m' b=m b
theorem Le.refl (w:World) (S:Nat->Prop) (m:Nat->Nat × Nat) (A:Nat->Prop):Le w S m A w S m A :=⟨λ_ _=>rfl,λ_ c _ _ h=>⟨c,h,rfl⟩,qxq _,λ_ h=>h,λ_ h=>h,λ_ _=>rfl⟩
theorem Le.trans {w w1 w2:World} {S S1 S2:Nat->Prop} {m m1 m2:Nat->Nat × Nat} {A A1 A2:Nat->Prop} (h:Le w S m A w1 S1 m1 A1) (h':Le w1 S1 m1 A1 w2 S2 m2 A2):Le w S m A w2 S2 m2 A2 where
 kept b hb:=(h'.kept b (h.sub b hb)).trans (h.kept b hb)
 rows b c t fr hc:=by obtain ⟨c1,h1,e1⟩:=h.rows b c t fr hc;obtain ⟨c2,h2,e2⟩:=h'.rows b c1 t fr h1;exact ⟨c2,h2,e2.trans e1⟩
 size:=qej h.size h'.size
 sub b hb:=h'.sub b (h.sub b hb)
 made b hb:=h'.made b (h.made b hb)
 same b hb:=(h'.same b (h.made b hb)).trans (h.same b hb)
section
variable {ψ:Nat->FuncId} {w w':World} {S S':Nat->Prop} {m m':Nat->Nat × Nat} {A A':Nat->Prop}
theorem VR.mono' {v:AV} {c:Value} (h:VR ψ w S m A v c) (hk:∀ b,S b->w'.heap[b]?=w.heap[b]?)
 (hr:∀ (b:Nat) c t fr,w.heap[b]?=some (.cells c t fr)->∃ c',w'.heap[b]?=some (.cells c' t fr)/\c'.size=c.size) (hs:∀ b,S b->S' b) :
 ∀ {A':Nat->Prop},(∀ b,A b->A' b)->(∀ b,A b->m' b=m b)->VR ψ w' S' m' A' v c:=by
 induction h with
 | undef v=>intro A' _ _;exact .undef v
 | bool b=>intro A' _ _;exact .bool b
 | int k n=>intro A' _ _;exact .int k n
 | str s=>intro A' _ _;exact .str s
 | eH=>intro A' _ _;exact .eH
 | bF=>intro A' _ _;exact .bF
 | dU=>intro A' _ _;exact .dU
 | bQ=>intro A' _ _;exact .bQ
 | roe z ex a k hk=>intro A' _ _;exact .roe z ex a k hk
 | ro z es ex b off cap cs hS hz hc hx hcell _ ih =>intro A' _ _;refine .ro z es ex b off cap cs (hs b hS) hz hc hx (λi e j x h1 h2=>⟨(hcell i e j x h1 h2).1,?_⟩) (λi e j x h1 h2=>ih i e j x h1 h2 (λ_ h=>h) (λ_ h=>h.elim));rw [<- (hcell i e j x h1 h2).2];exact World.cell?_of_block (hk b hS)
 | rop cs b off vs hS hcell _ ih =>intro A' _ _;refine .rop cs b off vs (hs b hS) (λj x h1=>⟨(hcell j x h1).1,?_⟩) (λj x h1=>ih j x h1 (λ_ h=>h) (λ_ h=>h.elim));rw [<- (hcell j x h1).2];exact World.cell?_of_block (hk b hS)
 | ptr b i o hA=>intro A' ha hm;rw [<- hm b hA];exact .ptr b i o (ha b hA)
 | sl b z i len cap ex c hA hz hl hc hx hrow =>intro A' ha hm;obtain ⟨cur,t,fr,h1,h2⟩:=hrow;obtain ⟨c',h3,h4⟩:=hr _ _ _ _ h1;have e:=hm b hA;rw [<- e] at hz h3 |-;exact .sl b z i len cap ex c (ha b hA) hz hl hc hx ⟨c',t,fr,h3,by omega⟩
 | map b hA=>intro A' ha hm;rw [<- hm b hA];exact .map b (ha b hA)
 | fn f caps vs hn _ ih=>intro A' ha hm;exact .fn f caps vs hn λj x h1=>ih j x h1 ha hm
 | agg cs vs hn hcell _ ih=>intro A' ha hm;exact .agg cs vs hn hcell λj x h1=>ih j x h1 ha hm
 | tup cs vs hn _ ih=>intro A' ha hm;exact .tup cs vs hn λj x h1=>ih j x h1 ha hm
theorem VR.mono {v:AV} {c:Value} (h:VR ψ w S m A v c) (le:Le w S m A w' S' m' A'):VR ψ w' S' m' A' v c :=h.mono' le.kept le.rows le.sub le.made le.same
theorem VR.one {v:AV} {c:Value} (h:VR ψ w S m A v c) (hv:v.cell=true):c.oneCell'=true:=by cases h <;> simp_all [AV.cell,Value.oneCell']
theorem VR.single {v:AV} {c:Value} (h:VR ψ w S m A v c) (hv:v.cells=[v]) (hc:c.cells=#[c]) (h1:v.cell=true) :
 c.cells.size=v.cells.length/\(∀ (j:Nat) (x:AV),v.cells[j]?=some x->VR ψ w S m A x (c.cells.getD j Go.undef))/\∀ u ∈ c.cells.toList,u.oneCell'=true:=by
 rw [hv,hc];refine ⟨rfl,?_,?_⟩
 ·intro j x hj;cases j with
  | zero=>simp at hj;subst hj;simpa using h
  | succ j=>simp at hj
 ·intro u hu;simp at hu;subst hu;exact h.one h1
theorem VR.cells {v:AV} {c:Value} (h:VR ψ w S m A v c) (hv:v.cells.all AV.cell=true) :
 c.cells.size=v.cells.length/\(∀ (j:Nat) (x:AV),v.cells[j]?=some x->VR ψ w S m A x (c.cells.getD j Go.undef))/\∀ u ∈ c.cells.toList,u.oneCell'=true:=by
 cases h with
 | agg cs vs hn hcell hc =>
  refine ⟨hn,hc,?_⟩;intro u hu;obtain ⟨j,hj,e⟩:=qvx hu;have hjs:j < vs.size:=by simpa [Value.cells] using hj
  have hx:cs[j]?=some cs[j]:=qqj qqq;have h1:=(hc j _ hx).one (hcell j _ hx);have e2:vs.getD j Go.undef=u:=by simp only [Array.getD,hjs,zyj];simpa [Value.cells] using e
  rwa [e2] at h1
 | undef v=>simp [AV.cells,AV.cell] at hv
 | tup cs vs hn hc=>simp [AV.cells,AV.cell] at hv
 | bool b=>exact VR.single (.bool b) rfl rfl rfl
 | int k n=>exact VR.single (.int k n) rfl rfl rfl
 | str s=>exact VR.single (.str s) rfl rfl rfl
 | eH=>exact VR.single .eH rfl rfl rfl
 | bF=>exact VR.single .bF rfl rfl rfl
 | dU=>exact VR.single .dU rfl rfl rfl
 | bQ=>exact VR.single .bQ rfl rfl rfl
 | roe z ex a k hk=>exact VR.single (.roe z ex a k hk) rfl rfl rfl
 | ro z es ex b off cap cs hS hz hc hx hcell hrep=>exact VR.single (.ro z es ex b off cap cs hS hz hc hx hcell hrep) rfl rfl rfl
 | rop cs b off vs hS hcell hrep=>exact VR.single (.rop cs b off vs hS hcell hrep) rfl rfl rfl
 | ptr b i o hA=>exact VR.single (.ptr b i o hA) rfl rfl rfl
 | sl b z i len cap ex c hA hz hl hc hx hrow=>exact VR.single (.sl b z i len cap ex c hA hz hl hc hx hrow) rfl rfl rfl
 | map b hA=>exact VR.single (.map b hA) rfl rfl rfl
 | fn f caps vs hn hc=>exact VR.single (.fn f caps vs hn hc) rfl rfl rfl
end
def OR (ψ:Nat->FuncId) (w:World) (S:Nat->Prop) (m:Nat->Nat × Nat) (A:Nat->Prop) (bm:Nat × Nat):jr->Prop
 | .cells z es _=>bm.2=z/\(∀ (i:Nat) (e:List AV),es[i]?=some e->e.length=z)/\∃ c t,w.heap[bm.1]?=some (.cells c t (0,0))/\es.length * z<=c.size /\
  ∀ (i:Nat) (e:List AV) (j:Nat) (x:AV),es[i]?=some e->e[j]?=some x->x.cell=true/\∃ v,c[i * z+j]?=some v/\VR ψ w S m A x v
 | .map es=>∃ es' clock,w.heap[bm.1]?=some (.map es' clock)/\es'.size=es.length /\
  ∀ (i:Nat) (k v:AV),es[i]?=some (k,v)->k.cell=true/\∃ x,es'[i]?=some x/\VR ψ w S m A k x.key/\VR ψ w S m A v x.val
 | .iter s pos=>w.heap[bm.1]?=some (.stringIter ⟨⟨s⟩⟩ pos)
def oq:jr->Bool
 | .cells _ _ mu=>mu
 | _=>true
structure Inv (ψ:Nat->FuncId) (N:Nat) (w0:World) (w:World) (S:Nat->Prop) (m:Nat->Nat × Nat) (A:Nat->Prop) (h:Heap):Prop where
 dom:∀ b o,get h b=some o->A b
 obj:∀ b o,get h b=some o->OR ψ w S m A (m b) o
 fro:∀ b o,get h b=some o->oq o=false->S (m b).1
 live:∀ b o,get h b=some o->oq o=true->¬ S (m b).1/\N<=(m b).1
 inj:∀ b o b' o',get h b=some o->get h b'=some o'->oq o=true->oq o'=true->b≠b'->(m b).1≠(m b').1
 sb:∀ c,S c->c < w.heap.size
 size:N<=w.heap.size
 old:∀ c,c < N->w.heap[c]?=w0.heap[c]?
 os:w.os=w0.os
 out:w.output=w0.output
theorem OR.lt {ψ:Nat->FuncId} {w:World} {S:Nat->Prop} {m:Nat->Nat × Nat} {A:Nat->Prop} {bm:Nat × Nat} {o:jr} (h:OR ψ w S m A bm o):bm.1 < w.heap.size:=by
 cases o with
 | cells z es mu=>obtain ⟨_,_,c,t,h,_⟩:=h;exact (qWq.1 h).1
 | map es=>obtain ⟨es',clock,h,_⟩:=h;exact (qWq.1 h).1
 | iter s pos=>exact (qWq.1 h).1
theorem OR.mono {ψ:Nat->FuncId} {w w':World} {S S':Nat->Prop} {m m':Nat->Nat × Nat} {A A':Nat->Prop} {bm:Nat × Nat} {o:jr} (h:OR ψ w S m A bm o)
 (le:Le w S m A w' S' m' A') (hb:w'.heap[bm.1]?=w.heap[bm.1]?):OR ψ w' S' m' A' bm o:=by
 cases o with
 | cells z es mu =>obtain ⟨h0,h1,c,t,h2,h3,h4⟩:=h;refine ⟨h0,h1,c,t,hb.trans h2,h3,λi e j x he hx=>?_⟩;obtain ⟨h5,v,h6,h7⟩:=h4 i e j x he hx;exact ⟨h5,v,h6,h7.mono le⟩
 | map es =>obtain ⟨es',clock,h1,h2,h3⟩:=h;refine ⟨es',clock,hb.trans h1,h2,λi k v he=>?_⟩;obtain ⟨h4,x,h5,h6,h7⟩:=h3 i k v he;exact ⟨h4,x,h5,h6.mono le,h7.mono le⟩
 | iter s pos=>exact hb.trans h
end Go.Pav
end
section
set_option linter.unusedSimpArgs false
set_option linter.unusedVariables false
namespace Go.Pav
open Go
def gK (m:Nat->Nat × Nat) (nid:Nat) (x:Nat × Nat):Nat->Nat × Nat:=λb=>if b=nid then x else m b
def sN (A:Nat->Prop) (nid:Nat):Nat->Prop:=λb=>A b\/b=nid
section
variable {ψ:Nat->FuncId} {N:Nat} {w0 w w':World} {S:Nat->Prop} {m:Nat->Nat × Nat} {A:Nat->Prop} {h:Heap}
theorem Le.xu (hh:w'.heap=w.heap):Le w S m A w' S m A :=⟨λ_ _=>by rw [hh],λ_ c _ _ hc=>⟨c,by rw [hh];exact hc,rfl⟩,by rw [hh];exact qxq _,λ_ x=>x,λ_ x=>x,λ_ _=>rfl⟩
theorem Inv.xu (i:Inv ψ N w0 w S m A h) (hh:w'.heap=w.heap) (ho:w'.os=w.os) (ht:w'.output=w.output):Inv ψ N w0 w' S m A h where
 dom:=i.dom
 obj b o hb:=(i.obj b o hb).mono (Le.xu hh) (by rw [hh])
 fro:=i.fro
 live:=i.live
 inj:=i.inj
 sb c hc:=by rw [hh];exact i.sb c hc
 size:=by rw [hh];exact i.size
 old c hc:=by rw [hh];exact i.old c hc
 os:=ho.trans i.os
 out:=ht.trans i.out
theorem Le.push {obj:Obj} (hh:w'.heap=w.heap.push obj) (sb:∀ c,S c->c < w.heap.size) {nid:Nat} (hn:¬ A nid) (x:Nat × Nat) :
 Le w S m A w' S (gK m nid x) (sN A nid) where
 kept b hb:=by rw [hh,qrz,qwq (q8q (sb b hb))]
 rows b c t fr hc:=⟨c,by have:=(qWq.1 hc).1;rw [hh,qrz,qwq (q8q this)];exact hc,rfl⟩
 size:=by rw [hh];simp
 sub _ hb:=hb
 made _ hb:=.inl hb
 same b hb:=by have:b≠nid:=λe=>hn (e ▸ hb);simp [gK,this]
theorem Inv.push {obj:Obj} (i:Inv ψ N w0 w S m A h) (hh:w'.heap=w.heap.push obj) (ho:w'.os=w.os) (ht:w'.output=w.output) {nid:Nat} (hn:¬ A nid) (z:Nat) (o:jr)
 (hor:OR ψ w' S (gK m nid (w.heap.size,z)) (sN A nid) (w.heap.size,z) o) (hm:oq o=true) :
 Inv ψ N w0 w' S (gK m nid (w.heap.size,z)) (sN A nid) (put h nid o):=by
 have le:=Le.push (m:=m) hh i.sb hn (w.heap.size,z);have ne:∀ b o',get h b=some o'->b≠nid:=λb o' hb e=>hn (e ▸ i.dom b o' hb);have nsz:¬ S w.heap.size:=λhs=>qrq _ (i.sb _ hs);have mof:∀ b,b≠nid->gK m nid (w.heap.size,z) b=m b:=λb hb=>by simp [gK,hb]
 have mn:gK m nid (w.heap.size,z) nid=(w.heap.size,z):=by simp [gK]
 have blk:∀ c,c < w.heap.size->w'.heap[c]?=w.heap[c]?:=λc hc=>by rw [hh,qrz,qwq (q8q hc)]
 constructor
 ·intro b o' hb;rw [get_put] at hb;by_cases e:nid=b
  ·exact .inr e.symm
  ·rw [qwq e] at hb;exact .inl (i.dom b o' hb)
 ·intro b o' hb;rw [get_put] at hb;by_cases e:nid=b
  ·rw [qwz e] at hb;cases hb;subst e;rw [mn];exact hor
  ·rw [qwq e] at hb;rw [mof b (qcj e)];exact (i.obj b o' hb).mono le (blk _ (i.obj b o' hb).lt)
 ·intro b o' hb hf;rw [get_put] at hb;by_cases e:nid=b
  ·rw [qwz e] at hb;cases hb;rw [hm] at hf;cases hf
  ·rw [qwq e] at hb;rw [mof b (qcj e)];exact i.fro b o' hb hf
 ·intro b o' hb hf;rw [get_put] at hb;by_cases e:nid=b
  ·subst e;rw [mn];exact ⟨nsz,i.size⟩
  ·rw [qwq e] at hb;rw [mof b (qcj e)];exact i.live b o' hb hf
 ·intro b o1 b' o2 h1 h2 f1 f2 hne;rw [get_put] at h1 h2;by_cases e1:nid=b
  ·by_cases e2:nid=b'
   ·exact absurd (e1.symm.trans e2) hne
   ·rw [qwq e2] at h2;subst e1;rw [mn,mof b' (qcj e2)];exact Nat.ne_of_gt (i.obj b' o2 h2).lt
  ·rw [qwq e1] at h1;by_cases e2:nid=b'
   ·subst e2;rw [mn,mof b (qcj e1)];exact q8q (i.obj b o1 h1).lt
   ·rw [qwq e2] at h2;rw [mof b (qcj e1),mof b' (qcj e2)];exact i.inj b o1 b' o2 h1 h2 f1 f2 hne
 ·intro c hc;exact qXx (i.sb c hc) le.size
 ·exact qej i.size le.size
 ·intro c hc;rw [blk c (qXx hc i.size)];exact i.old c hc
 ·exact ho.trans i.os
 ·exact ht.trans i.out
theorem Le.write {g:Nat} (hg:¬ S g) (hb:∀ b,b≠g->w'.heap[b]?=w.heap[b]?) (hs:w'.heap.size=w.heap.size)
 (hrow:∀ c t fr,w.heap[g]?=some (.cells c t fr)->∃ c',w'.heap[g]?=some (.cells c' t fr)/\c'.size=c.size):Le w S m A w' S m A where
 kept b hS:=hb b (λe=>hg (e ▸ hS))
 rows b c t fr hc:=by
  by_cases e:b=g
  ·subst e;exact hrow c t fr hc
  ·exact ⟨c,by rw [hb b e];exact hc,rfl⟩
 size:=by omega
 sub _ x:=x
 made _ x:=x
 same _ _:=rfl
theorem Inv.write (i:Inv ψ N w0 w S m A h) {b:Nat} {o o':jr} (hget:get h b=some o) (hm:oq o=true) (hm':oq o'=true)
 (hb:∀ c,c≠(m b).1->w'.heap[c]?=w.heap[c]?) (hs:w'.heap.size=w.heap.size) (ho:w'.os=w.os) (ht:w'.output=w.output)
 (hrow:∀ c t fr,w.heap[(m b).1]?=some (.cells c t fr)->∃ c',w'.heap[(m b).1]?=some (.cells c' t fr)/\c'.size=c.size)
 (hor:OR ψ w' S m A (m b) o'):Inv ψ N w0 w' S m A (put h b o'):=by
 have le:Le w S m A w' S m A:=Le.write (i.live b o hget hm).1 hb hs hrow;constructor
 ·intro c x hc;rw [get_put] at hc;by_cases e:b=c
  ·subst e;exact i.dom b o hget
  ·rw [qwq e] at hc;exact i.dom c x hc
 ·intro c x hc;rw [get_put] at hc;by_cases e:b=c
  ·subst e;rw [qwz rfl] at hc;cases hc;exact hor
  ·rw [qwq e] at hc;refine (i.obj c x hc).mono le (hb _ ?_);cases hx:oq x with
   | true=>exact i.inj c x b o hc hget hx hm (qcj e)
   | false=>exact λe2=>(i.live b o hget hm).1 (e2 ▸ i.fro c x hc hx)
 ·intro c x hc hf;rw [get_put] at hc;by_cases e:b=c
  ·rw [qwz e] at hc;cases hc;rw [hm'] at hf;cases hf
  ·rw [qwq e] at hc;exact i.fro c x hc hf
 ·intro c x hc hf;rw [get_put] at hc;by_cases e:b=c
  ·subst e;exact i.live b o hget hm
  ·rw [qwq e] at hc;exact i.live c x hc hf
 ·intro c o1 c' o2 h1 h2 f1 f2 hne;rw [get_put] at h1 h2;by_cases e1:b=c
  ·by_cases e2:b=c'
   ·exact absurd (e1.symm.trans e2) hne
   ·rw [qwq e2] at h2;subst e1;exact i.inj b o c' o2 hget h2 hm f2 hne
  ·rw [qwq e1] at h1;by_cases e2:b=c'
   ·subst e2;exact i.inj c o1 b o h1 hget f1 hm hne
   ·rw [qwq e2] at h2;exact i.inj c o1 c' o2 h1 h2 f1 f2 hne
 ·intro c hc;rw [hs];exact i.sb c hc
 ·rw [hs];exact i.size
 ·intro c hc;rw [hb c]
  ·exact i.old c hc
  ·have:=(i.live b o hget hm).2;omega
 ·exact ho.trans i.os
 ·exact ht.trans i.out
theorem Inv.del (i:Inv ψ N w0 w S m A h) (b:Nat):Inv ψ N w0 w S m A (del h b):=by
 have sub:∀ c o,get (Pav.del h b) c=some o->get h c=some o:=by
  intro c o hc;rw [oD] at hc;by_cases e:b=c
  ·simp [e] at hc
  ·rwa [qwq e] at hc
 exact ⟨λc o hc=>i.dom c o (sub c o hc),λc o hc=>i.obj c o (sub c o hc),λc o hc=>i.fro c o (sub c o hc),λc o hc=>i.live c o (sub c o hc), λc o c' o' h1 h2=>i.inj c o c' o' (sub c o h1) (sub c' o' h2),i.sb,i.size,i.old,i.os,i.out⟩
theorem Le.adopt {g:Nat} (hg:¬ S g) (hb:∀ b,b≠g->w'.heap[b]?=w.heap[b]?) (hs:w'.heap.size=w.heap.size)
 (hrow:∀ c t fr,w.heap[g]?=some (.cells c t fr)->∃ c',w'.heap[g]?=some (.cells c' t fr)/\c'.size=c.size) {nid:Nat} (hn:¬ A nid) (x:Nat × Nat):Le w S m A w' S (gK m nid x) (sN A nid) where
 kept b hS:=hb b (λe=>hg (e ▸ hS))
 rows b c t fr hc:=by
  by_cases e:b=g
  ·subst e;exact hrow c t fr hc
  ·exact ⟨c,by rw [hb b e];exact hc,rfl⟩
 size:=by omega
 sub _ x:=x
 made _ x:=.inl x
 same b hb:=by have:b≠nid:=λe=>hn (e ▸ hb);simp [gK,this]
theorem Inv.adopt (i:Inv ψ N w0 w S m A h) {b nid:Nat} {o o':jr} (hget:get h b=some o) (hm:oq o=true) (hm':oq o'=true) (hn:¬ A nid) (z:Nat)
 (hb:∀ c,c≠(m b).1->w'.heap[c]?=w.heap[c]?) (hs:w'.heap.size=w.heap.size) (ho:w'.os=w.os) (ht:w'.output=w.output)
 (hrow:∀ c t fr,w.heap[(m b).1]?=some (.cells c t fr)->∃ c',w'.heap[(m b).1]?=some (.cells c' t fr)/\c'.size=c.size)
 (hor:OR ψ w' S (gK m nid ((m b).1,z)) (sN A nid) ((m b).1,z) o'):Inv ψ N w0 w' S (gK m nid ((m b).1,z)) (sN A nid) (put (Pav.del h b) nid o'):=by
 have hlive:=i.live b o hget hm;have le:Le w S m A w' S (gK m nid ((m b).1,z)) (sN A nid):=Le.adopt hlive.1 hb hs hrow hn _;have sub:∀ c x,get (Pav.del h b) c=some x->get h c=some x/\c≠b/\c≠nid:=by
  intro c x hc;rw [oD] at hc;by_cases e:b=c
  ·simp [e] at hc
  ·rw [qwq e] at hc;exact ⟨hc,qcj e,λe2=>hn (e2 ▸ i.dom c x hc)⟩
 have mof:∀ c,c≠nid->gK m nid ((m b).1,z) c=m c:=λc hc=>by simp [gK,hc]
 have mn:gK m nid ((m b).1,z) nid=((m b).1,z):=by simp [gK]
 have part:∀ c x,get h c=some x->c≠b->(m c).1≠(m b).1:=by
  intro c x hc hcb;cases hx:oq x with
  | true=>exact i.inj c x b o hc hget hx hm hcb
  | false=>exact λe2=>hlive.1 (e2 ▸ i.fro c x hc hx)
 constructor
 ·intro c x hc;rw [get_put] at hc;by_cases e:nid=c
  ·exact .inr e.symm
  ·rw [qwq e] at hc;exact .inl (i.dom c x (sub c x hc).1)
 ·intro c x hc;rw [get_put] at hc;by_cases e:nid=c
  ·rw [qwz e] at hc;cases hc;subst e;rw [mn];exact hor
  ·rw [qwq e] at hc;obtain ⟨q1,q2,q3⟩:=sub c x hc;rw [mof c q3];exact (i.obj c x q1).mono le (hb _ (part c x q1 q2))
 ·intro c x hc hf;rw [get_put] at hc;by_cases e:nid=c
  ·rw [qwz e] at hc;cases hc;rw [hm'] at hf;cases hf
  ·rw [qwq e] at hc;obtain ⟨q1,q2,q3⟩:=sub c x hc;rw [mof c q3];exact i.fro c x q1 hf
 ·intro c x hc hf;rw [get_put] at hc;by_cases e:nid=c
  ·subst e;rw [mn];exact hlive
  ·rw [qwq e] at hc;obtain ⟨q1,q2,q3⟩:=sub c x hc;rw [mof c q3];exact i.live c x q1 hf
 ·intro c o1 c' o2 h1 h2 f1 f2 hne;rw [get_put] at h1 h2;by_cases e1:nid=c
  ·by_cases e2:nid=c'
   ·exact absurd (e1.symm.trans e2) hne
   ·rw [qwq e2] at h2;obtain ⟨q1,q2,q3⟩:=sub c' o2 h2;subst e1;rw [mn,mof c' q3];exact qcj (part c' o2 q1 q2)
  ·rw [qwq e1] at h1;obtain ⟨q1,q2,q3⟩:=sub c o1 h1;by_cases e2:nid=c'
   ·subst e2;rw [mn,mof c q3];exact part c o1 q1 q2
   ·rw [qwq e2] at h2;obtain ⟨r1,r2,r3⟩:=sub c' o2 h2;rw [mof c q3,mof c' r3];exact i.inj c o1 c' o2 q1 r1 f1 f2 hne
 ·intro c hc;rw [hs];exact i.sb c hc
 ·rw [hs];exact i.size
 ·intro c hc;rw [hb c]
  ·exact i.old c hc
  ·have:=hlive.2;omega
 ·exact ho.trans i.os
 ·exact ht.trans i.out
theorem Inv.sub (i:Inv ψ N w0 w S m A h) {h':Heap} (sub:∀ c o,get h' c=some o->get h c=some o):Inv ψ N w0 w S m A h' :=
 ⟨λc o hc=>i.dom c o (sub c o hc),λc o hc=>i.obj c o (sub c o hc),λc o hc=>i.fro c o (sub c o hc),λc o hc=>i.live c o (sub c o hc),
  λc o c' o' h1 h2=>i.inj c o c' o' (sub c o h1) (sub c' o' h2),i.sb,i.size,i.old,i.os,i.out⟩
end
def jW (ψ:Nat->FuncId) (w:World) (S:Nat->Prop) (m:Nat->Nat × Nat) (A:Nat->Prop) (e:Env) (tmps:Array Value):Prop :=∀ s v,get e s=some v->VR ψ w S m A v (tmps.getD s Go.undef)
theorem jW.mono {ψ:Nat->FuncId} {w w':World} {S S':Nat->Prop} {m m':Nat->Nat × Nat} {A A':Nat->Prop} {e:Env} {tmps:Array Value}
 (h:jW ψ w S m A e tmps) (le:Le w S m A w' S' m' A'):jW ψ w' S' m' A' e tmps:=λs v hs=>(h s v hs).mono le
theorem jW.put {ψ:Nat->FuncId} {w:World} {S:Nat->Prop} {m:Nat->Nat × Nat} {A:Nat->Prop} {e:Env} {tmps:Array Value} (h:jW ψ w S m A e tmps)
 {d:Nat} (hd:d < tmps.size) {v:AV} {c:Value} (hv:VR ψ w S m A v c):jW ψ w S m A (put e d v) (tmps.setIfInBounds d c):=by
 intro s x hs;rw [get_put] at hs;by_cases e1:d=s
 ·subst e1;rw [qwz rfl] at hs;cases hs;have:(tmps.setIfInBounds d c).getD d Go.undef=c:=by simp [Array.getD,hd]
  rw [this];exact hv
 ·rw [qwq e1] at hs;have:(tmps.setIfInBounds d c).getD s Go.undef=tmps.getD s Go.undef:=by simp only [qxj];rw [qcq e1]
  rw [this];exact h s x hs
theorem jW.keep {ψ:Nat->FuncId} {w:World} {S:Nat->Prop} {m:Nat->Nat × Nat} {A:Nat->Prop} {e:Env} {tmps:Array Value} (h:jW ψ w S m A e tmps) (k:Nat) :
 jW ψ w S m A (Pav.keep k e) tmps:=by
 intro s v hs;rw [RP] at hs;by_cases hk:k.testBit s=true
 ·rw [qwz hk] at hs;exact h s v hs
 ·rw [qwq hk] at hs;cases hs
end Go.Pav
end
section
set_option linter.unusedSimpArgs false
set_option linter.unusedVariables false
namespace Go.Pav
open Go
structure Cx (P:Program) (φ:FuncId->Option Nat) (ψ:Nat->FuncId) (N:Nat) (w0 w:World) (S:Nat->Prop) (m:Nat->Nat × Nat) (A:Nat->Prop) (h:Heap) (e:Env) (a:Act):Prop where
 inv:Inv ψ N w0 w S m A h
 env:jW ψ w S m A e a.tmps
 ids:∀ f g,φ f=some g->ψ g=f
def Snd (P:Program) (ψ:Nat->FuncId) (N:Nat) (w0 w:World) (S:Nat->Prop) (m:Nat->Nat × Nat) (A:Nat->Prop) (x:Sem Next) (h':Heap) (v:AV) (nid:Nat):Prop :=
 ∃ cv w' S' m' A',(x.run P w=.ok (.value cv) w'\/(x.run P w=.ok .skip w'/\cv=Go.undef))/\VR ψ w' S' m' A' v cv/\Inv ψ N w0 w' S' m' A' h'/\Le w S m A w' S' m' A' /\
  (∀ c,c < N->S' c->S c)/\∀ b,A' b->A b\/b=nid
section
variable {P:Program} {φ:FuncId->Option Nat} {ψ:Nat->FuncId} {N:Nat} {w0 w:World} {S:Nat->Prop} {m:Nat->Nat × Nat} {A:Nat->Prop} {h:Heap} {e:Env} {a:Act}
theorem Snd.quiet {x:Sem Next} {cv:Value} {v:AV} (i:Inv ψ N w0 w S m A h) (hr:x.run P w=.ok (.value cv) w) (hv:VR ψ w S m A v cv) (nid:Nat) :
 Snd P ψ N w0 w S m A x h v nid :=
 ⟨cv,w,S,m,A,.inl hr,hv,i,Le.refl ..,λ_ _ hs=>hs,λ_ hb=>.inl hb⟩
theorem bytes_eta (s:ByteArray):s=⟨⟨s.data.toList⟩⟩:=by cases s;rfl
theorem DN {v:Value} {x:AV} (hx:DF v=some x):VR ψ w S m A x v/\x.cell=true/\x.cells=[x]/\v.cells=#[v]:=by
 unfold DF at hx;split at hx <;> first
  | (cases hx;exact ⟨by constructor,rfl,rfl,rfl⟩)
  | (cases hx;refine ⟨?_,rfl,rfl,rfl⟩;rename_i s;have:=VR.str (ψ:=ψ) (w:=w) (S:=S) (m:=m) (A:=A) s.data.toList;rwa [<- bytes_eta s] at this)
  | cases hx
theorem mapM_some {α β:Type} {f:α->Option β}:∀ {l:List α} {r:List β},l.mapM f=some r->r.length=l.length/\∀ (i:Nat) (b:β),r[i]?=some b->∃ a,l[i]?=some a/\f a=some b:=by
 intro l;induction l with
 | nil=>intro r h;simp at h;subst h;simp
 | cons a l ih =>
  intro r h;simp only [zkz,qvq,qzj,zxx,qwx] at h;obtain ⟨b,hb,bs,hbs,rfl⟩:=h;obtain ⟨hl,hi⟩:=ih hbs;refine ⟨by simp [hl],?_⟩;intro i x hx;cases i with
  | zero=>simp at hx;subst hx;exact ⟨a,by simp,hb⟩
  | succ i=>simpa using hi i x (by simpa using hx)
theorem EL {cs:Array Value} {r:List AV} (hr:cs.toList.mapM DF=some r) :
 cs.size=r.length/\(∀ (j:Nat) (x:AV),r[j]?=some x->x.cell=true)/\∀ (j:Nat) (x:AV),r[j]?=some x->VR ψ w S m A x (cs.getD j Go.undef):=by
 obtain ⟨hl,hi⟩:=mapM_some hr;refine ⟨by simpa using hl.symm,λj x hx=>?_,λj x hx=>?_⟩
 ·obtain ⟨v,_,h2⟩:=hi j x hx;exact (DN (ψ:=ψ) (w:=w) (S:=S) (m:=m) (A:=A) h2).2.1
 ·obtain ⟨v,h1,h2⟩:=hi j x hx;have h3:=(DN (ψ:=ψ) (w:=w) (S:=S) (m:=m) (A:=A) h2).1;have:cs.getD j Go.undef=v:=by rw [qxj];simp only [qeq] at h1;simp [h1]
  rwa [this]
theorem XZ {v:Value} {x:AV} (hx:ahK v=some x):VR ψ w S m A x v:=by
 unfold ahK at hx;split at hx
 ·rename_i cs;simp only [qyx] at hx;obtain ⟨r,hr,rfl⟩:=hx;obtain ⟨h1,h2,h3⟩:=EL (ψ:=ψ) (w:=w) (S:=S) (m:=m) (A:=A) hr;exact .agg r cs h1 h2 h3
 ·exact (DN hx).1
theorem Cx.opd (cx:Cx P φ ψ N w0 w S m A h e a) {x:Operand} {y:Opd} (hy:fD φ x=some y):VR ψ w S m A (y.ev e) (a.eval x):=by
 unfold fD at hy;split at hy
 ·cases hy;rename_i t;simp only [Opd.ev];cases hg:get e t with
  | none=>exact .undef _
  | some v=>exact cx.env t v hg
 ·simp only [qyx] at hy;obtain ⟨v,hv,rfl⟩:=hy;exact XZ hv
 ·simp only [qyx] at hy;obtain ⟨g,hg,rfl⟩:=hy;rename_i f;have:=VR.fn (ψ:=ψ) (w:=w) (S:=S) (m:=m) (A:=A) g [] #[] rfl qqz;rw [cx.ids f g hg] at this;exact this
 ·cases hy
theorem Cx.aoS (cx:Cx P φ ψ N w0 w S m A h e a) {xs:Array Operand} {ys:List Opd} (hy:Ld φ xs.toList=some ys) :
 xs.size=ys.length/\∀ (j:Nat) (y:Opd),ys[j]?=some y->∃ x,xs[j]?=some x/\VR ψ w S m A (y.ev e) (a.eval x):=by
 obtain ⟨hl,hi⟩:=mapM_some hy;refine ⟨by simpa using hl.symm,λj y hj=>?_⟩;obtain ⟨x,h1,h2⟩:=hi j y hj;exact ⟨x,by simpa using h1,cx.opd h2⟩
section inversions
variable {c:Value}
theorem VR.eu {k:IntKind} {n:Int} (hv:VR ψ w S m A (.int k n) c):c=.int k n:=by cases hv;rfl
theorem VR.iD {b:Bool} (hv:VR ψ w S m A (.bool b) c):c=.bool b:=by cases hv;rfl
theorem VR.jq {s:List UInt8} (hv:VR ψ w S m A (.str s) c):c=.string ⟨⟨s⟩⟩:=by cases hv;rfl
theorem VR.gQ (hv:VR ψ w S m A .bF c):c=.slice none 0 0:=by cases hv;rfl
theorem VR.sJ (hv:VR ψ w S m A .eH c):c=.pointer none:=by cases hv;rfl
theorem VR.sF (hv:VR ψ w S m A .dU c):c=.map none:=by cases hv;rfl
theorem VR.Cm (hv:VR ψ w S m A .bQ c):c=.nilFunc:=by cases hv;rfl
theorem VR.lg {b i o:Nat} (hv:VR ψ w S m A (.ptr b i o) c):A b/\c=.pointer (some ⟨(m b).1,i * (m b).2+o,none⟩):=by cases hv;rename_i h;exact ⟨h,rfl⟩
theorem VR.CO {b:Nat} (hv:VR ψ w S m A (.map b) c):A b/\c=.map (some (m b).1):=by cases hv;rename_i h;exact ⟨h,rfl⟩
theorem VR.mJ {b z i len cap:Nat} {ex:Bool} (hv:VR ψ w S m A (.sl b z i len cap ex) c):∃ cc,c=.slice (some ⟨(m b).1,i * z,none⟩) len cc/\A b/\(m b).2=z/\len<=cc/\cap<=cc /\
 (ex=true->cc=cap)/\∃ cur t fr,w.heap[(m b).1]?=some (.cells cur t fr)/\(i+cc) * z<=cur.size:=by
 cases hv with
 | sl b z i len cap ex cc hA hz hl hc hx hrow=>exact ⟨cc,rfl,hA,hz,hl,hc,hx,hrow⟩
theorem VR.pG {z:Nat} {es:List (List AV)} {ex:Bool} (hv:VR ψ w S m A (.ro z es ex) c):(∃ (b off cap:Nat) (cs:Nat->Nat->Value),c=.slice (some ⟨b,off,none⟩) es.length cap/\S b /\
 (∀ (i:Nat) (e:List AV),es[i]?=some e->e.length=z)/\es.length<=cap/\(ex=true->cap=es.length) /\
 (∀ (i:Nat) (e:List AV) (j:Nat) (x:AV),es[i]?=some e->e[j]?=some x->x.cell=true/\w.cell? ⟨b,off+i * z+j,none⟩=some (cs i j)) /\
 ∀ (i:Nat) (e:List AV) (j:Nat) (x:AV),es[i]?=some e->e[j]?=some x->VR ψ w S m (λ_=>False) x (cs i j)) \/
 (es=[]/\∃ (a:Addr) (k:Nat),c=.slice (some a) 0 k/\(ex=true->k=0)):=by
 cases hv with
 | ro z es ex b off cap cs hS hz hc hx hcell hrep=>exact .inl ⟨b,off,cap,cs,rfl,hS,hz,hc,hx,hcell,hrep⟩
 | roe z ex a k hk=>exact .inr ⟨rfl,a,k,rfl,hk⟩
theorem VR.qQ {cs:List AV} (hv:VR ψ w S m A (.rop cs) c):∃ (b off:Nat) (vs:Nat->Value),c=.pointer (some ⟨b,off,none⟩)/\S b /\
 (∀ (j:Nat) (x:AV),cs[j]?=some x->x.cell=true/\w.cell? ⟨b,off+j,none⟩=some (vs j)) /\
 ∀ (j:Nat) (x:AV),cs[j]?=some x->VR ψ w S m (λ_=>False) x (vs j):=by
 cases hv with
 | rop cs b off vs hS hcell hrep=>exact ⟨b,off,vs,rfl,hS,hcell,hrep⟩
theorem VR.DU {f:Nat} {caps:List AV} (hv:VR ψ w S m A (.fn f caps) c):∃ vs,c=.func (.func (ψ f)) #[] vs/\vs.size=caps.length /\
 ∀ (j:Nat) (x:AV),caps[j]?=some x->VR ψ w S m A x (vs.getD j Go.undef):=by cases hv;rename_i vs h1 h2;exact ⟨vs,rfl,h1,h2⟩
theorem VR.Gn {cs:List AV} (hv:VR ψ w S m A (.agg cs) c):∃ vs,c=.agg vs/\vs.size=cs.length/\(∀ (j:Nat) (x:AV),cs[j]?=some x->x.cell=true) /\
 ∀ (j:Nat) (x:AV),cs[j]?=some x->VR ψ w S m A x (vs.getD j Go.undef):=by cases hv;rename_i vs h1 h2 h3;exact ⟨vs,rfl,h1,h2,h3⟩
theorem VR.YZ {cs:List AV} (hv:VR ψ w S m A (.tup cs) c):∃ vs,c=.tuple vs/\vs.size=cs.length /\
 ∀ (j:Nat) (x:AV),cs[j]?=some x->VR ψ w S m A x (vs.getD j Go.undef):=by cases hv;rename_i vs h1 h2;exact ⟨vs,rfl,h1,h2⟩
theorem VR.open_ {v:AV} {A':Nat->Prop} (hv:VR ψ w S m (λ_=>False) v c):VR ψ w S m A' v c :=hv.mono' (λ_ _=>rfl) (λ_ c _ _ h=>⟨c,h,rfl⟩) (λ_ h=>h) (λ_ h=>h.elim) (λ_ h=>h.elim)
end inversions
theorem nat?_some {n:Int} {k:Nat} (hn:nat? n=some k):n=(k:Int):=by
 cases n with
 | ofNat a=>simp [nat?] at hn;subst hn;rfl
 | negSucc a=>simp [nat?] at hn
theorem dZ {x:Option AV} {v:AV} {u:Upd} (hx:ov x=some (v,u)):x=some v/\u=[]:=by obtain ⟨y,h1,h2⟩:=aB hx;cases h2;exact ⟨h1,rfl⟩
theorem Snd.val {o:Oper} {s:Sem Value} (i:Inv ψ N w0 w S m A h) (hx:execOp a.eval o=(do pure (.value (<- s)))) {cv:Value} {v:AV} (hr:s.run P w=.ok cv w) (hv:VR ψ w S m A v cv) (nid:Nat) :
 Snd P ψ N w0 w S m A (execOp a.eval o) h v nid :=
 Snd.quiet i (by rw [hx];simp [hr]) hv nid
theorem bytesLess_eq:∀ (x y:List UInt8),bytesLess x y=Op.bytesLess x y
 | _,[]=>by simp [bytesLess,Op.bytesLess]
 | [],_::_=>rfl
 | a::x,b::y=>by simp only [bytesLess,Op.bytesLess,bytesLess_eq x y];congr 1
theorem lK (s:List UInt8):(⟨⟨s⟩⟩:ByteArray).toList=s:=ByteArray.toList_eq _
theorem Qa (x y:List UInt8):(⟨⟨x⟩⟩++⟨⟨y⟩⟩:ByteArray)=⟨⟨x++y⟩⟩:=by
 have:(⟨⟨x⟩⟩++⟨⟨y⟩⟩:ByteArray).data=⟨x++y⟩:=by rw [ByteArray.data_append];simp
 calc (⟨⟨x⟩⟩++⟨⟨y⟩⟩:ByteArray)=⟨(⟨⟨x⟩⟩++⟨⟨y⟩⟩:ByteArray).data⟩:=rfl
  _=_:=by rw [this]
theorem Vo {op:BinOp} {t:TypeId} {k:IntKind} {x y:Int} {v:AV} (hv:D7 op k x y=some v) (hs:Am op=false) (X Y:Operand) :
 ∃ cv,(do eqGuard op t X Y (.int k x) (.int k y);binOp op t (.int k x) (.int k y):Sem Value).run P w=.ok cv w/\VR ψ w S m A v cv:=by
 cases op <;> simp [Am] at hs <;> simp only [D7] at hv;case quo=>split at hv <;> cases hv;refine ⟨_,?_,.int _ _⟩;simp_all [binOp,Op.intDiv,eqGuard_at_int]
 case rem=>split at hv <;> cases hv;refine ⟨_,?_,.int _ _⟩;simp_all [binOp,Op.intDiv,eqGuard_at_int]
 all_goals (cases hv;first | refine ⟨_,?_,.int _ _⟩ | refine ⟨_,?_,.bool _⟩)
 all_goals simp [binOp,Op.intArith,Op.intBits,Op.intCmp,eqGuard_at_int]
theorem Zy {op:BinOp} {t:TypeId} {k k':IntKind} {x:Int} {n:Nat} {v:AV} (hv:su op k x n=some v) (X Y:Operand) :
 ∃ cv,(do eqGuard op t X Y (.int k x) (.int k' n);binOp op t (.int k x) (.int k' n):Sem Value).run P w=.ok cv w/\VR ψ w S m A v cv:=by
 have h0:¬ ((n:Int) < 0):=by omega
 cases op <;> simp only [su] at hv <;> cases hv <;> refine ⟨_,?_,.int _ _⟩ <;> simp [binOp,Op.shift,eqGuard_at_int,h0]
theorem Vd {op:BinOp} {t:TypeId} {x y:List UInt8} {v:AV} (hv:D6 op x y=some v) (X Y:Operand) :
 ∃ cv,(do eqGuard op t X Y (.string ⟨⟨x⟩⟩) (.string ⟨⟨y⟩⟩);binOp op t (.string ⟨⟨x⟩⟩) (.string ⟨⟨y⟩⟩):Sem Value).run P w=.ok cv w/\VR ψ w S m A v cv:=by
 have sz:∀ s:List UInt8,(⟨⟨s⟩⟩:ByteArray).size=s.length:=λs=>rfl;cases op <;> simp only [D6] at hv;case add =>
  split at hv
  ·rename_i hl;cases hv;refine ⟨_,?_,.str _⟩;rw [eqGuard_at_string];simp only [pure_bind,binOp_string_add];have hl':(⟨⟨x⟩⟩:ByteArray).size+(⟨⟨y⟩⟩:ByteArray).size<=9223372036854775807:=by rw [sz,sz];simp only [maxStr] at hl;omega
   rw [run_string_add_sum w ⟨⟨x⟩⟩ ⟨⟨y⟩⟩ hl',Qa]
  ·cases hv
 all_goals (cases hv)
 all_goals (refine ⟨_,?_,.bool _⟩;rw [eqGuard_at_string];simp only [pure_bind,binOp_string_eql,binOp_string_neq,binOp_string_lss,binOp_string_leq,binOp_string_gtr,binOp_string_geq,Sem.run_pure,lK,bytesLess_eq])
theorem ZR {op:BinOp} {t:TypeId} {x y:AV} {v:AV} (hv:yY op x y=some v) {cx cy:Value}
 (hx:VR ψ w S m A x cx) (hy:VR ψ w S m A y cy) (X Y:Operand) :
 ∃ cv,(do eqGuard op t X Y cx cy;binOp op t cx cy:Sem Value).run P w=.ok cv w/\VR ψ w S m A v cv:=by
 unfold yY at hv;split at hv
 ·cases hx.eu;cases hy.eu;by_cases hs:Am op=true
  ·rw [qwz hs] at hv;obtain ⟨n,hn,hv⟩:=au hv;cases nat?_some hn;exact Zy hv X Y
  ·rw [qwq hs] at hv;split at hv
   ·rename_i hk;subst hk;exact Vo hv (by simpa using hs) X Y
   ·cases hv
 ·cases hx.jq;cases hy.jq;exact Vd hv X Y
 ·cases hv
end
end Go.Pav
end
section
set_option linter.unusedSimpArgs false
set_option linter.unusedVariables false
namespace Go.Pav
open Go
def uP (ψ:Nat->FuncId) (w:World) (S:Nat->Prop) (m:Nat->Nat × Nat) (A:Nat->Prop) (cs:List AV) (g off:Nat):Prop :=∀ (j:Nat) (x:AV),cs[j]?=some x->x.cell=true/\∃ u,w.cell? ⟨g,off+j,none⟩=some u/\VR ψ w S m A x u
section
variable {P:Program} {φ:FuncId->Option Nat} {ψ:Nat->FuncId} {N:Nat} {w0 w:World} {S:Nat->Prop} {m:Nat->Nat × Nat} {A:Nat->Prop} {h:Heap} {e:Env} {a:Act}
theorem uP.drop {cs:List AV} {g off:Nat} (hc:uP ψ w S m A cs g off) (k:Nat):uP ψ w S m A (cs.drop k) g (off+k):=by intro j x hx;rw [qKq] at hx;obtain ⟨h1,u,h2,h3⟩:=hc _ _ hx;exact ⟨h1,u,by rw [qgq];exact h2,h3⟩
theorem x9 {t:TypeId} {ag:Bool} (ht:uz P t=some ag):(isAgg t).run P w=.ok ag w:=by unfold uz at ht;simp only [qyx] at ht;obtain ⟨d,hd,rfl⟩:=ht;unfold isAgg;rw [Sem.run_bind,run_underlying hd];cases d <;> rfl
theorem fE {t:TypeId} {n:Nat} (ht:sizeT P t=some n):(sizeOf t).run P w=.ok n w:=by unfold sizeT at ht;simp only [qyx] at ht;obtain ⟨i,hi,rfl⟩:=ht;simp [sizeOf,typeInfo,hi]
theorem lT (g off j:Nat):(⟨g,off,none⟩:Addr).add j=⟨g,off+j,none⟩:=Addr.add_lit g off j
theorem Kq {cs:List AV} {g off n:Nat} (hc:uP ψ w S m A cs g off) (hn:n<=cs.length) :
 ∃ vs:Array Value,(loadCells ⟨g,off,none⟩ n).run P w=.ok vs w/\vs.size=n/\(∀ (j:Nat) (x:AV),(cs.take n)[j]?=some x->VR ψ w S m A x (vs.getD j Go.undef)) /\
  ∀ j,j < n->w.cell? ⟨g,off+j,none⟩=some (vs.getD j Go.undef):=by
 have hf:∀ j,j < n->w.cell? ((⟨g,off,none⟩:Addr).add j)=some ((w.cell? ⟨g,off+j,none⟩).getD Go.undef):=by intro j hj;obtain ⟨_,u,h2,_⟩:=hc j _ (qqj qqq);rw [lT,h2];rfl
 have hg:∀ j,j < n->(((List.range n).map λj=>(w.cell? ⟨g,off+j,none⟩).getD Go.undef).toArray).getD j Go.undef=(w.cell? ⟨g,off+j,none⟩).getD Go.undef:=by intro j hj;rw [qxj];simp [hj]
 refine ⟨_,run_loadCells w ⟨g,off,none⟩ n _ hf,by simp,?_,?_⟩
 ·intro j x hx;rw [qZj] at hx;by_cases hj:j < n
  ·rw [qwz hj] at hx;obtain ⟨_,u,h2,h3⟩:=hc j x hx;rw [hg j hj,h2];exact h3
  ·rw [qwq hj] at hx;cases hx
 ·intro j hj;rw [hg j hj];have:=hf j hj;rwa [lT] at this
theorem vX {t:TypeId} {n:Nat} {ag:Bool} {cs:List AV} {g off:Nat} {v:AV} (hc:uP ψ w S m A cs g off) (hs:sizeT P t=some n) (hag:uz P t=some ag)
 (hl:qO n ag cs=some v):∃ cv,(loadVar t ⟨g,off,none⟩).run P w=.ok cv w/\VR ψ w S m A v cv:=by
 unfold qO at hl;cases ag with
 | true =>
  simp only [qQx] at hl;by_cases hn:n<=cs.length
  ·rw [qwz hn] at hl;cases hl;obtain ⟨vs,h1,h2,h3,_⟩:=Kq (P:=P) hc hn;refine ⟨.agg vs,?_,.agg _ vs (by simp [h2];omega) (λj x hx=>?_) h3⟩
   ·unfold loadVar;rw [Sem.run_bind,x9 hag];simp only [Result.andThen_ok,qQx,Sem.run_bind,fE hs,h1,Sem.run_pure]
   ·rw [qZj] at hx;by_cases hj:j < n
    ·rw [qwz hj] at hx;exact (hc j x hx).1
    ·rw [qwq hj] at hx;cases hx
  ·rw [qwq hn] at hl;cases hl
 | false =>
  simp only [qjz,qWz] at hl;cases cs with
  | nil=>cases hl
  | cons c r =>simp only [List.head?_cons,qwx] at hl;subst hl;obtain ⟨_,u,h2,h3⟩:=hc 0 c qqz;refine ⟨u,?_,h3⟩;unfold loadVar;rw [Sem.run_bind,x9 hag];simp only [qbz] at h2;simp [h2]
theorem Inv.Yq (i:Inv ψ N w0 w S m A h) {b z k:Nat} {es:List (List AV)} {mu:Bool} {cs:List AV} (hb:get h b=some (.cells z es mu)) (hk:es[k]?=some cs) :
 uP ψ w S m A cs (m b).1 (k * (m b).2):=by
 obtain ⟨h0,h1,c,t,h2,h3,h4⟩:=i.obj b _ hb;intro j x hx;obtain ⟨h5,v,h6,h7⟩:=h4 k cs j x hk hx;refine ⟨h5,v,?_,h7⟩;rw [h0];rw [cell_of_row w _ _ c t _ h2];exact h6
theorem Zx {n:Nat} {ag:Bool} {p:AV} {c:Value} {t:TypeId} {v:AV} (i:Inv ψ N w0 w S m A h) (hp:VR ψ w S m A p c) (hs:sizeT P t=some n) (hag:uz P t=some ag)
 (hl:Ea n ag h p=some v) :
 ∃ cv,(Instr.loadAt t c).run P w=.ok cv w/\VR ψ w S m A v cv:=by
 cases p with
 | rop cs =>obtain ⟨b,off,vs,rfl,hS,hcell,hrep⟩:=hp.qQ;have hc:uP ψ w S m A _ b off:=λj x hx=>⟨(hcell j x hx).1,vs j,(hcell j x hx).2,(hrep j x hx).open_⟩;obtain ⟨cv,h1,h2⟩:=vX (P:=P) hc hs hag hl;exact ⟨cv,by simp [Instr.loadAt,Instr.sureAddr,h1],h2⟩
 | ptr b k o =>
  obtain ⟨hA,rfl⟩:=hp.lg;simp only [Ea,loadAt] at hl;split at hl
  ·rename_i z es mu hb;obtain ⟨cs,hk,hl⟩:=au hl;obtain ⟨cv,h1,h2⟩:=vX (P:=P) ((i.Yq hb hk).drop o) hs hag hl;exact ⟨cv,by simp [Instr.loadAt,Instr.sureAddr,h1],h2⟩
  ·cases hl
 | _=>cases hl
theorem Snd.TF {x:Sem Next} {cv:Value} {v:AV} {w':World} (i:Inv ψ N w0 w S m A h) {nid:Nat} (hn:¬ A nid) (hr:x.run P w=.ok (.value cv) w')
 {c:Array Value} {t:TypeId} (hh:w'.heap=w.heap.push (.cells c t (0,0))) (ho:w'.os=w.os) (ht:w'.output=w.output) (z:Nat) (es:List (List AV))
 (hz:∀ (k:Nat) (e:List AV),es[k]?=some e->e.length=z) (hsz:es.length * z<=c.size)
 (hvr:∀ (k:Nat) (e:List AV) (j:Nat) (x:AV),es[k]?=some e->e[j]?=some x->x.cell=true/\∃ u,c[k * z+j]?=some u/\VR ψ w S m A x u)
 (hcv:∀ {w':World} {m':Nat->Nat × Nat} {A':Nat->Prop},m' nid=(w.heap.size,z)->A' nid->w'.heap[w.heap.size]?=some (.cells c t (0,0))->VR ψ w' S m' A' v cv) :
 Snd P ψ N w0 w S m A x (put h nid (.cells z es true)) v nid:=by
 have le:=Le.push (m:=m) hh i.sb hn (w.heap.size,z);have hnew:w'.heap[w.heap.size]?=some (.cells c t (0,0)):=by rw [hh];simp
 refine ⟨cv,w',S,gK m nid (w.heap.size,z),sN A nid,.inl hr,hcv (by simp [gK]) (.inr rfl) hnew,i.push hh ho ht hn z _ ?_ rfl,le,λ_ _ hs=>hs,λb hb=>hb⟩;refine ⟨rfl,hz,c,t,hnew,hsz,λk e j x hk hx=>?_⟩;obtain ⟨h1,u,h2,h3⟩:=hvr k e j x hk hx;exact ⟨h1,u,h2,h3.mono le⟩
theorem iC {t:TypeId} {z:List AV} (hz:zeroCells P t=some z):∃ i zv,P.info? t=some i/\i.zero=some zv/\zv.cells.size=z.length/\i.size=z.length /\
 (∀ (j:Nat) (x:AV),z[j]?=some x->x.cell=true)/\∀ (j:Nat) (x:AV),z[j]?=some x->VR ψ w S m A x (zv.cells.getD j Go.undef):=by
 unfold zeroCells at hz;simp only [qvq,qzj] at hz;obtain ⟨i,hi,zv,hzv,cs,hcs,hz⟩:=hz;split at hz
 ·rename_i hl;cases hz;obtain ⟨h1,h2,h3⟩:=EL (ψ:=ψ) (w:=w) (S:=S) (m:=m) (A:=A) hcs;exact ⟨i,zv,hi,hzv,h1,hl.symm,h2,h3⟩
 ·cases hz
theorem getElem?_of_getD {vs:Array Value} {j:Nat} (hj:j < vs.size):vs[j]?=some (vs.getD j Go.undef):=by rw [qxj,qiz hj];rfl
theorem Snd.one {x:Sem Next} {w':World} (i:Inv ψ N w0 w S m A h) {nid:Nat} (hn:¬ A nid) (hr:x.run P w=.ok (.value (.pointer (some ⟨w.heap.size,0,none⟩))) w')
 {c:Array Value} {t:TypeId} (hh:w'.heap=w.heap.push (.cells c t (0,0))) (ho:w'.os=w.os) (ht:w'.output=w.output) (cs:List AV) (hsz:c.size=cs.length)
 (hcell:∀ (j:Nat) (x:AV),cs[j]?=some x->x.cell=true) (hvr:∀ (j:Nat) (x:AV),cs[j]?=some x->VR ψ w S m A x (c.getD j Go.undef)) :
 Snd P ψ N w0 w S m A x (put h nid (.cells cs.length [cs] true)) (.ptr nid 0 0) nid:=by
 refine Snd.TF i hn hr hh ho ht cs.length [cs] (λk e hk=>?_) (by simp [hsz]) (λk e j x hk hx=>?_) (λ{w' m' A'} hm hA _=>?_)
 ·cases k with
  | zero=>simp at hk;rw [<- hk]
  | succ k=>simp at hk
 ·cases k with
  | zero =>
   simp at hk;subst hk;have hj:j < c.size:=by rw [hsz];exact (qxz.1 hx).1
   exact ⟨hcell j x hx,_,by rw [q1q,qVq];exact getElem?_of_getD hj,hvr j x hx⟩
  | succ k=>simp at hk
 ·have:=VR.ptr (ψ:=ψ) (w:=w') (S:=S) (m:=m') (A:=A') nid 0 0 hA;rw [hm] at this;simpa using this
end
end Go.Pav
end
section
set_option linter.unusedSimpArgs false
set_option linter.unusedVariables false
namespace Go.Pav
open Go
theorem vS {i k j z:Nat} (h:i < k) (hj:j < z):i * z+j < k * z:=by have:=qKj z (show i+1<=k from h);rw [qYq,q6j] at this;omega
section
variable {P:Program} {φ:FuncId->Option Nat} {ψ:Nat->FuncId} {N:Nat} {w0 w:World} {S:Nat->Prop} {m:Nat->Nat × Nat} {A:Nat->Prop} {h:Heap} {e:Env} {a:Act}
theorem FY {c:Array Value} {p:Nat} {vs:List Value} (hp:p+vs.length<=c.size) (q:Nat) :
 (c.toList.take p++vs++c.toList.drop (p+vs.length)).toArray[q]?=if p<=q/\q < p+vs.length then vs[q - p]? else c[q]?:=by
 have hl:c.toList.length=c.size:=by simp
 simp only [qez,qbj,qlq,qKz,qZj,qKq,hl];have hm:min p c.size=p:=by omega
 rw [hm];by_cases h1:q < p
 ·have:¬ (p<=q/\q < p+vs.length):=by omega
  rw [qwq this,qwz qqq,qwz h1,qwz h1];simp
 ·by_cases h2:q < p+vs.length
  ·have h3:p<=q/\q < p+vs.length:=⟨by omega,h2⟩;rw [qwz h2,qwq h1,qwz h3]
  ·have:¬ (p<=q/\q < p+vs.length):=by omega
   rw [qwq this,qwq h2];rw [show p+vs.length+(q - (p+vs.length))=q by omega];simp
theorem vY {c:Array Value} {p:Nat} {vs:List Value} (hp:p+vs.length<=c.size):(c.toList.take p++vs++c.toList.drop (p+vs.length)).toArray.size=c.size:=by
 have hl:c.toList.length=c.size:=by simp
 simp only [List.size_toArray,qlq,qKz,qaq,hl];omega
theorem Snd.write {x:Sem Next} (i:Inv ψ N w0 w S m A h) {b z:Nat} {es es':List (List AV)} (hb:get h b=some (.cells z es true)) {p:Nat} {vs:List Value}
 (hp:p+vs.length<=es.length * z) {cv:Value} {v:AV}
 (hr:∀ (c:Array Value) (t:TypeId),w.heap[(m b).1]?=some (.cells c t (0,0))->es.length * z<=c.size ->
  (x.run P w=.ok (.value cv) (w.setRow (m b).1 (c.toList.take p++vs++c.toList.drop (p+vs.length)).toArray) \/
   (x.run P w=.ok .skip (w.setRow (m b).1 (c.toList.take p++vs++c.toList.drop (p+vs.length)).toArray)/\cv=Go.undef)))
 (hl:es'.length=es.length) (hz:∀ (k:Nat) (e:List AV),es'[k]?=some e->e.length=z)
 (hc:∀ (k:Nat) (e:List AV) (j:Nat) (x:AV),es'[k]?=some e->e[j]?=some x ->
  (p<=k * z+j/\k * z+j < p+vs.length/\x.cell=true/\∃ u,vs[k * z+j - p]?=some u/\VR ψ w S m A x u) \/
  (¬ (p<=k * z+j/\k * z+j < p+vs.length)/\∃ e',es[k]?=some e'/\e'[j]?=some x))
 (hv:∀ {w':World},Le w S m A w' S m A->VR ψ w' S m A v cv) (nid:Nat) :
 Snd P ψ N w0 w S m A x (put h b (.cells z es' true)) v nid:=by
 obtain ⟨h0,h1,c,t,h2,h3,h4⟩:=i.obj b _ hb;have hp':p+vs.length<=c.size:=qej hp h3;have hg:=i.live b _ hb rfl;have hrow:∀ c' t' fr,w.heap[(m b).1]?=some (.cells c' t' fr)->∃ c'',(w.setRow (m b).1 (c.toList.take p++vs++c.toList.drop (p+vs.length)).toArray).heap[(m b).1]?=some (.cells c'' t' fr)/\c''.size=c'.size:=by intro c' t' fr hc';rw [h2] at hc';cases hc';exact ⟨_,setRow_heap w _ c _ t (0,0) h2,vY hp'⟩
 have le:Le w S m A (w.setRow (m b).1 (c.toList.take p++vs++c.toList.drop (p+vs.length)).toArray) S m A :=Le.write hg.1 (λk hk=>setRow_other w _ k _ hk) qqz hrow;refine ⟨cv,_,S,m,A,hr c t h2 h3,hv le,?_,le,λ_ _ hs=>hs,λ_ hb=>.inl hb⟩;refine i.write hb rfl rfl (λk hk=>setRow_other w _ k _ hk) qqz rfl rfl hrow ?_;refine ⟨h0,hz,_,t,setRow_heap w _ c _ t (0,0) h2,by rw [vY hp',hl];exact h3,λk e j x hk hx=>?_⟩;rcases hc k e j x hk hx with ⟨q1,q2,q3,u,q4,q5⟩ | ⟨q1,e',q2,q3⟩
 ·refine ⟨q3,u,?_,q5.mono le⟩;rw [FY hp',qwz ⟨q1,q2⟩];exact q4
 ·obtain ⟨h5,u,h6,h7⟩:=h4 k e' j x q2 q3;refine ⟨h5,u,?_,h7.mono le⟩;rw [FY hp',qwq q1];exact h6
theorem length_splice {cs v:List AV} {o:Nat} (hl:o+v.length<=cs.length):(splice cs o v).length=cs.length:=by unfold splice;simp only [qlq,qKz,qaq];omega
theorem Jz {cs v:List AV} {o:Nat} (hl:o+v.length<=cs.length) (j:Nat) :
 (splice cs o v)[j]?=if o<=j/\j < o+v.length then v[j - o]? else cs[j]?:=by
 unfold splice;simp only [qbj,qKz,qZj,qKq];have hm:min o cs.length=o:=by omega
 rw [hm];by_cases h1:j < o
 ·have:¬ (o<=j/\j < o+v.length):=by omega
  rw [qwq this,qwz h1,qwz h1]
 ·by_cases h2:j < o+v.length
  ·rw [qwq h1,qwz qqq,qwz ⟨by omega,h2⟩]
  ·have:¬ (o<=j/\j < o+v.length):=by omega
   rw [qwq h1,qwq qqq,qwq this];congr 1;omega
theorem V5 {n:Nat} {p xv:AV} {cp cx:Value} {t:TypeId} {v:AV} {u:Upd} {o:Oper} {pa pv:Operand} (i:Inv ψ N w0 w S m A h) (ho:o.op=.store t pa pv)
 (hpa:a.eval pa=cp) (hpv:a.eval pv=cx) (hp:VR ψ w S m A p cp) (hx:VR ψ w S m A xv cx)
 (hs:sizeT P t=some n) (hl:(if xv.cells.length=n/\xv.cells.all AV.cell=true then Dq n h xv.cells p else none)=some (v,u)) (nid:Nat):Snd P ψ N w0 w S m A (execOp a.eval o) (aQ h u) v nid:=by
 split at hl
 ·rename_i hc;obtain ⟨hn,hall⟩:=hc;obtain ⟨q1,q2,q3⟩:=hx.cells hall;cases p with
  | ptr b k off =>
   obtain ⟨hA,rfl⟩:=hp.lg;simp only [Dq,storeAt] at hl;split at hl
   ·rename_i z es mu hb;split at hl
    ·rename_i hmu;subst hmu;obtain ⟨cs,hk,hl⟩:=au hl;split at hl
     ·rename_i hfit;cases hl;obtain ⟨h0,h1,_⟩:=i.obj b _ hb;have hcz:=h1 k cs hk;have hkl:k < es.length:=(qxz.1 hk).1;have hle:(k+1) * z<=es.length * z:=qKj z hkl;rw [qYq,q6j] at hle;have hvl:cx.cells.toList.length=n:=by simp [q1,hn]
      have hfit':off+xv.cells.length<=cs.length:=by omega
      refine Snd.write (z:=z) (p:=k * z+off) (vs:=cx.cells.toList) (cv:=Go.undef) i hb qqq (λc t' hc hsz=>.inr ⟨?_,rfl⟩) qqz (λk' e' he=>?_) (λk' e' j y he hy=>?_) (λ_=>.tup [] #[] rfl qqz) nid
      ·have hst:=run_storeCells_at P (m b).1 (k * z+off) t' cx.cells.toList 0 c w hc (by simp only [hvl];omega) q3;have h0':(m b).2=z:=h0;simp only [execOp,ho,hpa,hpv,Instr.storeAt,Instr.sureAddr,storeVar,h0',Sem.run_bind,Sem.run_pure,Result.andThen_ok,fE hs,Sem.run_ite,run_stuck];rw [qwq (by simp [q1,hn])];simp only [qbz] at hst;simp [hst]
      ·rw [qpx] at he;by_cases hkk:k=k'
       ·subst hkk;rw [qwz rfl,qwz hkl] at he;cases he;rw [length_splice hfit'];exact hcz
       ·rw [qwq hkk] at he;exact h1 k' e' he
      ·rw [qpx] at he;by_cases hkk:k=k'
       ·subst hkk;rw [qwz rfl,qwz hkl] at he;cases he;rw [Jz hfit'] at hy;by_cases hr:off<=j/\j < off+xv.cells.length
        ·rw [qwz hr] at hy;left;refine ⟨by omega,by omega,?_,cx.cells.getD (j - off) Go.undef,?_,q2 _ _ hy⟩
         ·exact qjx.1 hall _ (qzx hy)
         ·rw [show k * z+j - (k * z+off)=j - off by omega];have hjs:j - off < cx.cells.size:=by omega
          rw [qeq];exact getElem?_of_getD hjs
        ·rw [qwq hr] at hy;right;refine ⟨by omega,cs,hk,hy⟩
       ·rw [qwq hkk] at he;right;have hj:j < z:=by rw [<- h1 k' e' he];exact (qxz.1 hy).1
        refine ⟨?_,e',he,hy⟩;rcases Nat.lt_or_gt_of_ne hkk with hlt | hgt
        ·have:=qKj z (show k+1<=k' from hlt);rw [qYq,q6j] at this;omega
        ·have:=vS hgt hj;omega
     ·cases hl
    ·cases hl
   ·cases hl
  | _=>cases hl
 ·cases hl
end
end Go.Pav
end
section
set_option linter.unusedSimpArgs false
set_option linter.unusedVariables false
namespace Go.Pav
open Go
section
variable {P:Program} {φ:FuncId->Option Nat} {ψ:Nat->FuncId} {N:Nat} {w0 w:World} {S:Nat->Prop} {m:Nat->Nat × Nat} {A:Nat->Prop} {h:Heap} {e:Env} {a:Act}
def CsR (ψ:Nat->FuncId) (w:World) (S:Nat->Prop) (m:Nat->Nat × Nat) (A:Nat->Prop) (cs:List AV) (vs:Array Value):Prop :=vs.size=cs.length/\∀ (j:Nat) (x:AV),cs[j]?=some x->x.cell=true/\VR ψ w S m A x (vs.getD j Go.undef)
theorem JC (off:Nat):∀ (l:List Value) (k:Nat) (cells:Array Value),off+k+l.length<=cells.size ->
 ((l.zipIdx k).foldl (λcs (x:Value × Nat)=>cs.setIfInBounds (off+x.2) x.1) cells).size=cells.size /\
 ∀ q,((l.zipIdx k).foldl (λcs (x:Value × Nat)=>cs.setIfInBounds (off+x.2) x.1) cells)[q]?=if off+k<=q/\q < off+k+l.length then l[q - (off+k)]? else cells[q]?
 | [],k,cells,_=>by refine ⟨rfl,λq=>?_⟩;rw [qwq (by simp only [qaj];omega)];rfl
 | v::l,k,cells,hl=>by
  simp only [qaz] at hl;obtain ⟨h1,h2⟩:=JC off l (k+1) (cells.setIfInBounds (off+k) v) qqx;simp only [List.zipIdx_cons,q3q];refine ⟨by rw [h1];simp,λq=>?_⟩;rw [h2 q];by_cases hq:q=off+k
  ·subst hq;have hlt:off+k < cells.size:=by omega
   rw [qwq qqq,qwz qqz];simp [hlt]
  ·by_cases hr:off+(k+1)<=q/\q < off+(k+1)+l.length
   ·rw [qwz hr,qwz qqx];rw [show q - (off+k)=(q - (off+(k+1)))+1 by omega];simp
   ·rw [qwq hr,qwq qqx];rw [qcq qqq]
theorem EJ (vs:Array Value) (off:Nat) (cells:Array Value) :
 vs.zipIdx.foldl (λcs (x:Value × Nat)=>cs.setIfInBounds (off+x.2) x.1) cells=(vs.toList.zipIdx 0).foldl (λcs (x:Value × Nat)=>cs.setIfInBounds (off+x.2) x.1) cells:=by
 rw [<- Array.foldl_toList];simp
theorem CsR.fill {cs:List AV} {vs:Array Value} (hc:CsR ψ w S m A cs vs) {x:AV} {c:Value} (hx:VR ψ w S m A x c) (hall:x.cells.all AV.cell=true) {off:Nat} (hl:off+x.cells.length<=cs.length) :
 CsR ψ w S m A (splice cs off x.cells) (c.cells.zipIdx.foldl (λcs (x:Value × Nat)=>cs.setIfInBounds (off+x.2) x.1) vs):=by
 obtain ⟨q1,q2,q3⟩:=hx.cells hall;have hsz:c.cells.toList.length=x.cells.length:=by simp [q1]
 rw [EJ];obtain ⟨h1,h2⟩:=JC off c.cells.toList 0 vs (by rw [hc.1];omega);refine ⟨by rw [h1,length_splice hl,hc.1],λj y hy=>?_⟩;rw [Jz hl] at hy;rw [qxj,h2 j];simp only [qbz,hsz];by_cases hr:off<=j/\j < off+x.cells.length
 ·rw [qwz hr] at hy |-;refine ⟨qjx.1 hall _ (qzx hy),?_⟩;have:=q2 _ _ hy;rw [qxj] at this;simpa using this
 ·rw [qwq hr] at hy |-;have:=hc.2 j y hy;rw [qxj] at this;exact this
theorem LU (cx:Cx P φ ψ N w0 w S m A h e a) (fs:Nat->Option (Nat × Nat)):∀ (ps:List (Nat × Operand)) (ps':List (Nat × Nat × Opd)) (cs cs':List AV) (vs:Array Value),
 zG φ fs ps=some ps'->qB e cs ps'=some cs'->CsR ψ w S m A cs vs ->
 ∃ vs',Instr.fill fs vs (ps.map λx=>(x.1,a.eval x.2))=some vs'/\CsR ψ w S m A cs' vs'
 | [],ps',cs,cs',vs,h1,h2,h3=>by simp only [zG] at h1;cases h1;simp only [qB] at h2;cases h2;exact ⟨vs,rfl,h3⟩
 | (i,x)::r,ps',cs,cs',vs,h1,h2,h3=>by
  simp only [zG,qvq,qzj] at h1;obtain ⟨⟨off,n⟩,hf,y,hy,ys,hys,h1⟩:=h1;cases h1;simp only [qB] at h2;split at h2
  ·rename_i hc;obtain ⟨c1,c2,c3⟩:=hc;have hx:=cx.opd hy;obtain ⟨q1,_,_⟩:=hx.cells c3;obtain ⟨vs',h4,h5⟩:=LU cx fs r ys _ cs' _ hys h2 (h3.fill hx c3 qqq);refine ⟨vs',?_,h5⟩;simp only [qvz,Instr.fill,hf];rw [qwq (by rw [h3.1];simp;omega)];exact h4
  ·cases h2
theorem aaB (cx:Cx P φ ψ N w0 w S m A h e a) {o:Oper} {t:TypeId} {ps:Array (Nat × Operand)} (ho:o.op=.build t ps) {cop:COp} (hc:cOp P φ (.build t ps)=some cop)
 {v:AV} {u:Upd} {nid:Nat} (hs:aJ cop e h nid=some (v,u)):Snd P ψ N w0 w S m A (execOp a.eval o) (aQ h u) v nid:=by
 simp only [cOp,qvq,qzj] at hc;obtain ⟨z,hz,d,hd,hc⟩:=hc;obtain ⟨it,zv,hit,hzv,z1,z2,z3,z4⟩:=iC (ψ:=ψ) (w:=w) (S:=S) (m:=m) (A:=A) hz;have hzr:CsR ψ w S m A z zv.cells:=⟨z1,λj x hx=>⟨z3 j x hx,z4 j x hx⟩⟩;have fin:∀ (fs:Nat->Option (Nat × Nat)) (ps':List (Nat × Nat × Opd)),zG φ fs ps.toList=some ps'->cop=.build z ps' ->
  (∀ parts,Instr.fill fs zv.cells parts=P.built t parts)->Snd P ψ N w0 w S m A (execOp a.eval o) (aQ h u) v nid:=by
  intro fs ps' hp hcop hb;subst hcop;simp only [aJ,Eo] at hs;obtain ⟨cs',h1,h2⟩:=aB hs;cases h2;obtain ⟨vs',h3,h4⟩:=LU cx fs ps.toList ps' z cs' zv.cells hp h1 hzr;rw [hb] at h3;refine Snd.quiet (cv:=.agg vs') cx.inv ?_ (.agg cs' vs' h4.1 (λj x hx=>(h4.2 j x hx).1) λj x hx=>(h4.2 j x hx).2) nid;have hr:=run_build w t (ps.map λx=>(x.1,a.eval x.2)) vs' (by simpa using h3);simp only [execOp,ho,Sem.run_bind];rw [hr];rfl
 split at hc
 ·rename_i fields;simp only [qzj] at hc;obtain ⟨pl,hpl,ps',hp,hc⟩:=hc;cases hc;refine fin (λi=>pl[i]?) ps' hp rfl λparts=>?_;unfold Program.built;simp only [hit,hd,hzv,hpl];simp
 ·rename_i len el;simp only [qzj] at hc;obtain ⟨n,hn,ps',hp,hc⟩:=hc;cases hc;refine fin (λi=>some (i * n,n)) ps' hp rfl λparts=>?_;unfold sizeT at hn;simp only [qyx] at hn;obtain ⟨ie,hie,rfl⟩:=hn;unfold Program.built;simp only [hit,hd,hzv,hie]
 ·cases hc
structure EsR (ψ:Nat->FuncId) (w:World) (S:Nat->Prop) (m:Nat->Nat × Nat) (A:Nat->Prop) (z:Nat) (es:List (List AV)) (vs:Array Value):Prop where
 size:vs.size=es.length * z
 wide:∀ (k:Nat) (e:List AV),es[k]?=some e->e.length=z
 cell:∀ (k:Nat) (e:List AV) (j:Nat) (x:AV),es[k]?=some e->e[j]?=some x->x.cell=true/\VR ψ w S m A x (vs.getD (k * z+j) Go.undef)
theorem EsR.at_ {z:Nat} {es:List (List AV)} {vs:Array Value} (hr:EsR ψ w S m A z es vs) {k:Nat} {e:List AV} {j:Nat} {x:AV} (he:es[k]?=some e) (hx:e[j]?=some x) :
 x.cell=true/\∃ u,vs[k * z+j]?=some u/\VR ψ w S m A x u:=by
 obtain ⟨h1,h2⟩:=hr.cell k e j x he hx;have hk:k < es.length:=(qxz.1 he).1;have hj:j < z:=by rw [<- hr.wide k e he];exact (qxz.1 hx).1
 have:=vS hk hj;exact ⟨h1,_,getElem?_of_getD (by rw [hr.size];exact this),h2⟩
theorem EsR.fill {z:Nat} {es:List (List AV)} {vs:Array Value} (hr:EsR ψ w S m A z es vs) {x:AV} {c:Value} (hx:VR ψ w S m A x c) (hall:x.cells.all AV.cell=true) {i:Nat} (hi:i < es.length) (hz:x.cells.length=z) :
 EsR ψ w S m A z (es.set i x.cells) (c.cells.zipIdx.foldl (λcs (x:Value × Nat)=>cs.setIfInBounds (i * z+x.2) x.1) vs):=by
 obtain ⟨q1,q2,q3⟩:=hx.cells hall;have hsz:c.cells.toList.length=z:=by simp [q1,hz]
 have hfit:i * z+z<=vs.size:=by rw [hr.size];have:=qKj z (show i+1<=es.length from hi);rw [qYq,q6j] at this;exact this
 rw [EJ];obtain ⟨h1,h2⟩:=JC (i * z) c.cells.toList 0 vs qqq;refine ⟨by rw [h1,hr.size];simp,λk e he=>?_,λk e j y he hy=>?_⟩
 ·rw [qpx] at he;by_cases hk:i=k
  ·subst hk;rw [qwz rfl,qwz hi] at he;cases he;exact hz
  ·rw [qwq hk] at he;exact hr.wide k e he
 ·rw [qxj,h2];simp only [qbz,hsz];rw [qpx] at he;by_cases hk:i=k
  ·subst hk;rw [qwz rfl,qwz hi] at he;cases he;have hj:j < z:=by rw [<- hz];exact (qxz.1 hy).1
   rw [qwz qqq,show i * z+j - i * z=j by omega];refine ⟨qjx.1 hall _ (qzx hy),?_⟩;have:=q2 _ _ hy;rw [qxj] at this;simpa using this
  ·rw [qwq hk] at he;have hj:j < z:=by rw [<- hr.wide k e he];exact (qxz.1 hy).1
   have hne:¬ (i * z<=k * z+j/\k * z+j < i * z+z):=by
    rcases Nat.lt_or_gt_of_ne hk with hlt | hgt
    ·have:=qKj z (show i+1<=k from hlt);rw [qYq,q6j] at this;omega
    ·have:=vS hgt hj;omega
   rw [qwq hne];have:=hr.cell k e j y he hy;rw [qxj] at this;exact this
theorem KF (cx:Cx P φ ψ N w0 w S m A h e a) (z:Nat):∀ (ps:List (Nat × Operand)) (ps':List (Nat × Opd)) (es es':List (List AV)) (vs:Array Value),
 I8 φ ps=some ps'->kZ e z es ps'=some es'->EsR ψ w S m A z es vs ->
 ∃ vs',Instr.fill (λi=>some (i * z,z)) vs (ps.map λx=>(x.1,a.eval x.2))=some vs'/\EsR ψ w S m A z es' vs'
 | [],ps',es,es',vs,h1,h2,h3=>by simp only [I8] at h1;cases h1;simp only [kZ] at h2;cases h2;exact ⟨vs,rfl,h3⟩
 | (i,x)::r,ps',es,es',vs,h1,h2,h3=>by
  simp only [I8,qvq,qzj] at h1;obtain ⟨y,hy,ys,hys,h1⟩:=h1;cases h1;simp only [kZ] at h2;split at h2
  ·rename_i hc;obtain ⟨c1,c2,c3⟩:=hc;have hx:=cx.opd hy;obtain ⟨q1,_,_⟩:=hx.cells c3;obtain ⟨vs',h4,h5⟩:=KF cx z r ys _ es' _ hys h2 (h3.fill hx c3 c2 c1);refine ⟨vs',?_,h5⟩;simp only [qvz,Instr.fill];have hb:=qKj z (show i+1<=es.length from c2);rw [qYq,q6j] at hb;rw [qwq (by rw [h3.size];simp;omega)];exact h4
  ·cases h2
theorem Dz {z:List AV} {zc:Array Value} (h1:zc.size=z.length) (h3:∀ (j:Nat) (x:AV),z[j]?=some x->x.cell=true)
 (h4:∀ (j:Nat) (x:AV),z[j]?=some x->VR ψ w S m A x (zc.getD j Go.undef)) (len:Nat) :
 EsR ψ w S m A z.length (List.replicate len z) ((Array.range (len * z.length)).map (zc[· % zc.size]!)):=by
 refine ⟨by simp,λk e he=>?_,λk e j x he hx=>?_⟩
 ·rw [qmq] at he;split at he
  ·cases he;rfl
  ·cases he
 ·rw [qmq] at he;split at he
  ·rename_i hk;cases he;have hj:j < z.length:=(qxz.1 hx).1;have hlt:=vS hk hj;refine ⟨h3 j x hx,?_⟩;have:((Array.range (len * z.length)).map (zc[· % zc.size]!)).getD (k * z.length+j) Go.undef=zc.getD j Go.undef:=by
    rw [qxj];simp only [q9q,Array.getElem?_range,hlt,qQx,qiq,qYx];rw [h1,q1x,Nat.mul_add_mod,Nat.mod_eq_of_lt hj];rw [qxj];have hj':j < zc.size:=by omega
    simp [hj']
   rw [this];exact h4 j x hx
  ·cases he
theorem Snd.XD {x:Sem Next} {w':World} (i:Inv ψ N w0 w S m A h) {nid:Nat} (hn:¬ A nid) {len cap:Nat} (hr:x.run P w=.ok (.value (.slice (some ⟨w.heap.size,0,none⟩) len cap)) w')
 {c:Array Value} {t:TypeId} (hh:w'.heap=w.heap.push (.cells c t (0,0))) (ho:w'.os=w.os) (ht:w'.output=w.output) {z:Nat} {es:List (List AV)} {cs:Array Value} (he:EsR ψ w S m A z es cs)
 (hc:∀ q,q < cs.size->c[q]?=cs[q]?) (hcs:cs.size<=c.size) {len' cap':Nat} {ex:Bool} (hl:len'=len) (hlc:len<=cap) (hcap:cap'<=cap) (hex:ex=true->cap=cap') (hsz:cap * z<=c.size) :
 Snd P ψ N w0 w S m A x (put h nid (.cells z es true)) (.sl nid z 0 len' cap' ex) nid:=by
 subst hl;refine Snd.TF i hn hr hh ho ht z es he.wide (by rw [<- he.size];exact hcs) (λk e j x hk hx=>?_) (λ{w' m' A'} hm hA hb=>?_)
 ·obtain ⟨h1,u,h2,h3⟩:=he.at_ hk hx;exact ⟨h1,u,by rw [hc _ ((qWq.1 h2).1)];exact h2,h3⟩
 ·have:=VR.sl (ψ:=ψ) (w:=w') (S:=S) (m:=m') (A:=A') nid z 0 len' cap' ex cap hA (by rw [hm]) hlc hcap hex ⟨c,t,(0,0),by rw [hm];exact hb,by rw [qVq];exact hsz⟩;rw [hm] at this;simpa using this
theorem U8 (cx:Cx P φ ψ N w0 w S m A h e a) {o:Oper} {t:TypeId} {len:Nat} {ps:Array (Nat × Operand)} (ho:o.op=.buildSlice t len ps) {cop:COp} (hc:cOp P φ (.buildSlice t len ps)=some cop)
 {v:AV} {u:Upd} {nid:Nat} (hn:¬ A nid) (hs:aJ cop e h nid=some (v,u)):Snd P ψ N w0 w S m A (execOp a.eval o) (aQ h u) v nid:=by
 simp only [cOp,qvq,qzj] at hc;obtain ⟨d,hd,hc⟩:=hc;split at hc
 ·rename_i el;simp only [qzj] at hc;obtain ⟨z,hz,hc⟩:=hc;split at hc
  ·cases hc
  ·rename_i hsm;simp only [qzj] at hc;obtain ⟨ps',hp,hc⟩:=hc;cases hc;obtain ⟨it,zv,hit,hzv,z1,z2,z3,z4⟩:=iC (ψ:=ψ) (w:=w) (S:=S) (m:=m) (A:=A) hz;simp only [aJ,Ci] at hs;obtain ⟨es',h1,h2⟩:=aB hs;cases h2;obtain ⟨vs',h3,h4⟩:=KF cx z.length ps.toList ps' _ es' _ hp h1 (Dz z1 z3 z4 len);have hlen:es'.length=len:=by
    have:∀ (ps:List (Nat × Opd)) (es es':List (List AV)),kZ e z.length es ps=some es'->es'.length=es.length:=by
     intro ps;induction ps with
     | nil=>intro es es' hf;simp only [kZ] at hf;cases hf;rfl
     | cons p r ih =>
      intro es es' hf;obtain ⟨i,x⟩:=p;simp only [kZ] at hf;split at hf
      ·rw [ih _ _ hf];simp
      ·cases hf
    rw [this _ _ _ h1];simp
   by_cases hl0:len=0
   ·subst hl0;have hes:es'=[]:=List.eq_nil_of_length_eq_zero hlen;subst hes;have hv0:vs'=#[]:=by have:=h4.size;simp at this;exact this
    subst hv0;have hpe:ps.toList.map (λx=>(x.1,a.eval x.2))=(ps.map λx=>(x.1,a.eval x.2)).toList:=by simp
    refine Snd.XD (w':=w.alloc (.cells #[] el)) (c:=#[]) (t:=el) (cs:=#[]) cx.inv hn (len:=0) (cap:=0) ?_ rfl rfl rfl h4 qqz qqz rfl qqz qqz qqz qqz;simp only [execOp,ho,Sem.run_bind];have h3':Instr.fill (λi=>some (i * it.size,it.size)) #[] (ps.toList.map λx=>(x.1,a.eval x.2))=some #[]:=by have hr0:Array.range 0=#[]:=rfl;rw [z2];rw [q1q,hr0,Array.map_empty] at h3;exact h3
    have hr0:Array.range 0=#[]:=rfl;simp only [Instr.buildSlice,run_underlying hd,Sem.run_bind,Result.andThen_ok,sizeOf,typeInfo,hit,run_program,Sem.run_pure,q1q];simp [hr0,h3',Go.newRow]
   ·have hpe:ps.toList.map (λx=>(x.1,a.eval x.2))=(ps.map λx=>(x.1,a.eval x.2)).toList:=by simp
    have hzz:z.length≠0:=λhz0=>hsm (.inl hz0);have hne:len * z.length≠0:=Nat.mul_ne_zero hl0 hzz;have hr:=run_buildSlice (P:=P) w t el len (ps.map λx=>(x.1,a.eval x.2)) vs' it zv hd hit hzv (by rw [z2];exact λhg=>hsm (.inr hg)) (by rw [z2];exact hne) (by rw [z2,<- hpe];exact h3);refine Snd.XD (w':=w.alloc (.cells vs' el)) (c:=vs') (t:=el) (cs:=vs') cx.inv hn (len:=len) (cap:=len) ?_ rfl rfl rfl h4 (λ_ _=>rfl) (qxq _) rfl (qxq _) (qxq _) (λ_=>rfl) (by rw [h4.size,hlen];exact qxq _);simp only [execOp,ho,Sem.run_bind];rw [hr];rfl
 ·cases hc
end
end Go.Pav
end
section
set_option linter.unusedSimpArgs false
set_option linter.unusedVariables false
namespace Go.Pav
open Go
section
variable {P:Program} {φ:FuncId->Option Nat} {ψ:Nat->FuncId} {N:Nat} {w0 w:World} {S:Nat->Prop} {m:Nat->Nat × Nat} {A:Nat->Prop} {h:Heap} {e:Env} {a:Act} {o:Oper}
 {v:AV} {u:Upd} {nid:Nat}
abbrev Ok (P:Program) (φ:FuncId->Option Nat) (ψ:Nat->FuncId) (N:Nat) (w0 w:World) (S:Nat->Prop) (m:Nat->Nat × Nat) (A:Nat->Prop) (h:Heap) (e:Env) (a:Act) (o:Oper):Prop :=∀ cop v u nid,cOp P φ o.op=some cop->aJ cop e h nid=some (v,u)->¬ A nid->Snd P ψ N w0 w S m A (execOp a.eval o) (aQ h u) v nid
theorem akb (cx:Cx P φ ψ N w0 w S m A h e a) {x:Operand} (ho:o.op=.move x\/o.op=.assign x):Ok P φ ψ N w0 w S m A h e a o:=by
 intro cop v u nid hc hs hn;have hc':(fD φ x).map COp.mv=some cop:=by rcases ho with ho | ho <;> rw [ho] at hc <;> exact hc
 simp only [qyx] at hc';obtain ⟨y,hy,rfl⟩:=hc';simp only [aJ,sMv] at hs;cases hs;refine Snd.quiet cx.inv ?_ (cx.opd hy) nid;rcases ho with ho | ho <;> simp [execOp,ho]
theorem agG (cx:Cx P φ ψ N w0 w S m A h e a) {c x y:Operand} (ho:o.op=.pick c x y):Ok P φ ψ N w0 w S m A h e a o:=by
 intro cop v u nid hc hs hn;rw [ho] at hc;simp only [cOp,qvq,qzj,qwx] at hc;obtain ⟨c',hc',x',hx',y',hy',rfl⟩:=hc;simp only [aJ,ES] at hs;split at hs
 ·rename_i t ht;cases hs;have h1:=cx.opd hc';rw [ht] at h1;have h2:=h1.iD;refine Snd.quiet (cv:=if t then a.eval x else a.eval y) cx.inv ?_ ?_ nid
  ·simp only [execOp,ho,h2,asBool,Sem.run_bind,Sem.run_pure,Result.andThen_ok]
  ·cases t
   ·exact cx.opd hy'
   ·exact cx.opd hx'
 ·cases hs
theorem afb (cx:Cx P φ ψ N w0 w S m A h e a) {t:TypeId} (ho:o.op=.alloc t):Ok P φ ψ N w0 w S m A h e a o:=by intro cop v u nid hc hs hn;rw [ho] at hc;simp only [cOp,qyx] at hc;obtain ⟨z,hz,rfl⟩:=hc;simp only [aJ,abd] at hs;cases hs;obtain ⟨it,zv,hit,hzv,z1,z2,z3,z4⟩:=iC (ψ:=ψ) (w:=w) (S:=S) (m:=m) (A:=A) hz;refine Snd.one (w':=w.alloc (.cells zv.cells t)) (c:=zv.cells) (t:=t) cx.inv hn ?_ rfl rfl rfl z z1 z3 z4;simp [execOp,ho,Instr.alloc,zeroValue,typeInfo,hit,hzv,Go.newVar,Go.newRow]
theorem ake (cx:Cx P φ ψ N w0 w S m A h e a) {t:TypeId} {x:Operand} (ho:o.op=.box t x):Ok P φ ψ N w0 w S m A h e a o:=by
 intro cop v u nid hc hs hn;rw [ho] at hc;simp only [cOp,qyx] at hc;obtain ⟨y,hy,rfl⟩:=hc;simp only [aJ,ai9,boxed] at hs;split at hs
 ·rename_i hall;cases hs;obtain ⟨q1,q2,q3⟩:=(cx.opd hy).cells hall;refine Snd.one (w':=w.alloc (.cells (a.eval x).cells t)) (c:=(a.eval x).cells) (t:=t) cx.inv hn ?_ rfl rfl rfl _ q1 (λj y hj=>qjx.1 hall _ (qzx hj)) q2;simp [execOp,ho,Instr.box,Go.newVar,Go.newRow]
 ·cases hs
theorem aiU (cx:Cx P φ ψ N w0 w S m A h e a) {t:TypeId} {x:Operand} (ho:o.op=.load t x):Ok P φ ψ N w0 w S m A h e a o:=by intro cop v u nid hc hs hn;rw [ho] at hc;simp only [cOp,qvq,qzj,qwx] at hc;obtain ⟨n,hn',ag,hag,y,hy,rfl⟩:=hc;simp only [aJ,adg] at hs;obtain ⟨key,rfl⟩:=dZ hs;obtain ⟨cv,h1,h2⟩:=Zx (P:=P) cx.inv (cx.opd hy) hn' hag key;exact Snd.val cx.inv (by simp [execOp,ho]) h1 h2 nid
theorem abQ (cx:Cx P φ ψ N w0 w S m A h e a) {t:TypeId} {p x:Operand} (ho:o.op=.store t p x):Ok P φ ψ N w0 w S m A h e a o:=by intro cop v u nid hc hs hn;rw [ho] at hc;simp only [cOp,qvq,qzj,qwx] at hc;obtain ⟨n,hn',y,hy,z,hz,rfl⟩:=hc;simp only [aJ,Oi] at hs;exact V5 cx.inv ho rfl rfl (cx.opd hy) (cx.opd hz) hn' hs nid
theorem aa4 (cx:Cx P φ ψ N w0 w S m A h e a) {x:Operand} (ho:o.op=.nilCheck x):Ok P φ ψ N w0 w S m A h e a o:=by
 intro cop v u nid hc hs hn;rw [ho] at hc;simp only [cOp,qyx] at hc;obtain ⟨y,hy,rfl⟩:=hc;have hx:=cx.opd hy;simp only [aJ,mW] at hs;split at hs
 ·rename_i b k off he;cases hs;rw [he] at hx;obtain ⟨_,h2⟩:=hx.lg;exact Snd.quiet cx.inv (by simp [execOp,ho,h2]) (h2 ▸ hx) nid
 ·rename_i cs he;cases hs;rw [he] at hx;obtain ⟨b,off,vs,h2,_⟩:=hx.qQ;exact Snd.quiet cx.inv (by simp [execOp,ho,h2]) (h2 ▸ hx) nid
 ·rename_i f cs he;cases hs;rw [he] at hx;obtain ⟨vs,h2,_⟩:=hx.DU;exact Snd.quiet cx.inv (by simp [execOp,ho,h2]) (h2 ▸ hx) nid
 ·cases hs
theorem aeY {x y:AV} {b:Bool} (hb:Vr x y=some b) {cx cy:Value} (hx:VR ψ w S m A x cx) (hy:VR ψ w S m A y cy) {t el:TypeId} (ht:P.underlying t=some (.slice el)) (d:Nat) :
 (Op.equalIn (d+1) t cx cy).run P w=.ok b w/\∀ op X Y,eqGuard op t X Y cx cy=pure ():=by
 unfold Vr at hb;split at hb <;> cases hb
 ·cases hx.gQ;cases hy.gQ;exact ⟨by simp [Op.equalIn,run_underlying ht],λop X Y=>eqGuard_at_slice ..⟩
 ·cases hx.gQ;rcases hy.pG with ⟨b',off,cap,cs,rfl,_⟩ | ⟨_,ad,_,rfl,_⟩ <;>
  exact ⟨by simp [Op.equalIn,run_underlying ht],λop X Y=>eqGuard_at_slice ..⟩
 ·cases hx.gQ;obtain ⟨cc,rfl,_⟩:=hy.mJ;exact ⟨by simp [Op.equalIn,run_underlying ht],λop X Y=>eqGuard_at_slice ..⟩
 ·cases hy.gQ;rcases hx.pG with ⟨b',off,cap,cs,rfl,_⟩ | ⟨_,ad,_,rfl,_⟩ <;>
  exact ⟨by simp [Op.equalIn,run_underlying ht],λop X Y=>eqGuard_at_slice ..⟩
 ·cases hy.gQ;obtain ⟨cc,rfl,_⟩:=hx.mJ;exact ⟨by simp [Op.equalIn,run_underlying ht],λop X Y=>eqGuard_at_slice ..⟩
theorem acy {x y:AV} {b:Bool} (hb:eqFn x y=some b) {cx cy:Value} (hx:VR ψ w S m A x cx) (hy:VR ψ w S m A y cy) {t:TypeId} {ps rs:Array TypeId} {vd:Bool} (ht:P.underlying t=some (.func ps rs vd)) (d:Nat) :
 (Op.equalIn (d+1) t cx cy).run P w=.ok b w/\∀ op X Y,eqGuard op t X Y cx cy=pure ():=by
 unfold eqFn at hb;split at hb <;> cases hb
 ·cases hx.Cm;cases hy.Cm;exact ⟨by simp [Op.equalIn,run_underlying ht],λop X Y=>eqGuard_at_nilFunc ..⟩
 ·cases hx.Cm;obtain ⟨vs,rfl,_⟩:=hy.DU;exact ⟨by simp [Op.equalIn,run_underlying ht],λop X Y=>eqGuard_at_nilFunc ..⟩
 ·cases hy.Cm;obtain ⟨vs,rfl,_⟩:=hx.DU;exact ⟨by simp [Op.equalIn,run_underlying ht],λop X Y=>eqGuard_at_func ..⟩
theorem aaU {x y:AV} {b:Bool} (hb:KI x y=some b) {cx cy:Value} (hx:VR ψ w S m A x cx) (hy:VR ψ w S m A y cy) {t el:TypeId} (ht:P.underlying t=some (.pointer el)) (d:Nat) :
 (Op.equalIn (d+1) t cx cy).run P w=.ok b w/\∀ op X Y,eqGuard op t X Y cx cy=pure ():=by
 unfold KI at hb;split at hb <;> cases hb
 ·cases hx.sJ;cases hy.sJ;exact ⟨by simp [Op.equalIn,run_underlying ht],λop X Y=>eqGuard_at_pointer ..⟩
 ·cases hx.sJ;obtain ⟨_,rfl⟩:=hy.lg;exact ⟨by simp [Op.equalIn,run_underlying ht],λop X Y=>eqGuard_at_pointer ..⟩
 ·cases hy.sJ;obtain ⟨_,rfl⟩:=hx.lg;exact ⟨by simp [Op.equalIn,run_underlying ht],λop X Y=>eqGuard_at_pointer ..⟩
 ·cases hx.sJ;obtain ⟨b',off,vs,rfl,_⟩:=hy.qQ;exact ⟨by simp [Op.equalIn,run_underlying ht],λop X Y=>eqGuard_at_pointer ..⟩
 ·cases hy.sJ;obtain ⟨b',off,vs,rfl,_⟩:=hx.qQ;exact ⟨by simp [Op.equalIn,run_underlying ht],λop X Y=>eqGuard_at_pointer ..⟩
theorem aa2 {x y:AV} {b:Bool} (hb:KT x y=some b) {cx cy:Value} (hx:VR ψ w S m A x cx) (hy:VR ψ w S m A y cy) {t kt el:TypeId} (ht:P.underlying t=some (.map kt el)) (d:Nat) :
 (Op.equalIn (d+1) t cx cy).run P w=.ok b w/\∀ op X Y,eqGuard op t X Y cx cy=pure ():=by
 unfold KT at hb;split at hb <;> cases hb
 ·cases hx.sF;cases hy.sF;exact ⟨by simp [Op.equalIn,run_underlying ht],λop X Y=>eqGuard_at_map ..⟩
 ·cases hx.sF;obtain ⟨_,rfl⟩:=hy.CO;exact ⟨by simp [Op.equalIn,run_underlying ht],λop X Y=>eqGuard_at_map ..⟩
 ·cases hy.sF;obtain ⟨_,rfl⟩:=hx.CO;exact ⟨by simp [Op.equalIn,run_underlying ht],λop X Y=>eqGuard_at_map ..⟩
theorem Wx {x y:AV} {b:Bool} (hb:Dv x y=some b) {cx cy:Value} (hx:VR ψ w S m A x cx) (hy:VR ψ w S m A y cy) {t:TypeId} (ht:P.underlying t=some .bool) (d:Nat) :
 (Op.equalIn (d+1) t cx cy).run P w=.ok b w/\∀ op X Y,eqGuard op t X Y cx cy=pure ():=by
 unfold Dv at hb;split at hb
 ·cases hb;cases hx.iD;cases hy.iD;exact ⟨by simp [Op.equalIn,run_underlying ht],λop X Y=>eqGuard_at_bool ..⟩
 ·cases hb
theorem jI {t:TypeId} {kd:Nat} (ht:mY P t=some kd):(∃ k,P.underlying t=some (.int k)/\kd=0)\/(P.underlying t=some .string/\kd=1)\/(P.underlying t=some .bool/\kd=2):=by
 unfold mY at ht;split at ht
 ·rename_i k hk;cases ht;exact .inl ⟨k,hk,rfl⟩
 ·rename_i hk;cases ht;exact .inr (.inl ⟨hk,rfl⟩)
 ·rename_i hk;cases ht;exact .inr (.inr ⟨hk,rfl⟩)
 ·cases ht
theorem Uz {x y:AV} {b:Bool} (hb:iO x y=some b) {cx cy:Value} (hx:VR ψ w S m A x cx) (hy:VR ψ w S m A y cy) {t:TypeId} {kd:Nat} (ht:mY P t=some kd) (hk:kT kd x=true) (d:Nat) :
 (Op.equalIn (d+1) t cx cy).run P w=.ok b w:=by
 have hkk:=jI ht;unfold iO at hb;split at hb
 ·split at hb
  ·rename_i hk';subst hk';cases hb;have h0:kd=0:=by simpa [kT] using hk
   subst h0;rcases hkk with ⟨k',hk',_⟩ | ⟨_,h⟩ | ⟨_,h⟩
   ·cases hx.eu;cases hy.eu;exact run_equalIn_int w d t _ k' _ _ hk'
   ·cases h
   ·cases h
  ·cases hb
 ·cases hb;have h0:kd=1:=by simpa [kT] using hk
  subst h0;rcases hkk with ⟨k',_,h⟩ | ⟨hk',_⟩ | ⟨_,h⟩
  ·cases h
  ·cases hx.jq;cases hy.jq;rw [run_equalIn_string w d t _ _ hk',lK,lK]
  ·cases h
 ·cases hb;have h0:kd=2:=by simpa [kT] using hk
  subst h0;rcases hkk with ⟨k',_,h⟩ | ⟨_,h⟩ | ⟨hk',_⟩
  ·cases h
  ·cases h
  ·cases hx.iD;cases hy.iD;exact run_equalIn_bool' w d t _ _ hk'
 ·cases hb
theorem EO (xs ys:Array Value) (d:Nat):∀ (fs:List Field) (k:Nat) (ks:List Nat) (x y:List AV) (b:Bool),nM P k fs=some ks->iH ks x y=some b ->
 (∀ (j:Nat) (v:AV),x[j]?=some v->v.cell=true/\k+j < xs.size/\VR ψ w S m A v (xs.getD (k+j) Go.undef))->(∀ (j:Nat) (v:AV),y[j]?=some v->v.cell=true/\k+j < ys.size/\VR ψ w S m A v (ys.getD (k+j) Go.undef)) ->
 (Op.eqFields (d+1) xs ys fs).run P w=.ok b w
 | [],k,ks,x,y,b,h1,h2,_,_=>by simp only [nM] at h1;cases h1;cases x <;> cases y <;> simp only [iH] at h2 <;> cases h2;simp [Op.eqFields]
 | f::fs,k,ks,x,y,b,h1,h2,h3,h4=>by
  simp only [nM] at h1;split at h1
  ·rename_i hc;obtain ⟨c1,c2,c3⟩:=hc;simp only [qvq,qzj,qwx] at h1;obtain ⟨kd,hkd,ks',hks,rfl⟩:=h1;cases x with
   | nil=>simp only [iH] at h2;cases h2
   | cons vx x =>
    cases y with
    | nil=>simp only [iH] at h2;cases h2
    | cons vy y =>
     simp only [iH] at h2;split at h2
     ·rename_i hko;obtain ⟨r,hr,h2⟩:=au h2;obtain ⟨s,hs,h2⟩:=aB h2;obtain ⟨x1,x2,x3⟩:=h3 0 vx qqz;obtain ⟨y1,y2,y3⟩:=h4 0 vy qqz;simp only [qbz] at x2 x3 y2 y3;have hq:=Uz (P:=P) (d:=d) hr x3 y3 hkd hko;have ih:=EO xs ys d fs (k+1) ks' x y s hks hs (λj v hj=>by have:=h3 (j+1) v (by simpa using hj);rwa [show k+(j+1)=k+1+j by omega] at this) (λj v hj=>by have:=h4 (j+1) v (by simpa using hj);rwa [show k+(j+1)=k+1+j by omega] at this);have hag:(isAgg f.type).run P w=.ok false w:=by unfold isAgg;rcases jI hkd with ⟨k',hk',_⟩ | ⟨hk',_⟩ | ⟨hk',_⟩ <;> rw [Sem.run_bind,run_underlying hk'] <;> rfl
      have hpart:∀ (zs:Array Value),k < zs.size->(part f.type zs f.offset).run P w=.ok (zs.getD k Go.undef) w:=by intro zs hz;unfold part;rw [Sem.run_bind,hag];simp only [Result.andThen_ok,qjz,qWz,c1];rw [getElem?_of_getD hz];rfl
      simp only [Op.eqFields];rw [qwz c2];simp only [Sem.run_bind,hpart xs x2,hpart ys y2,Result.andThen_ok,hq];cases r
      ·simp at h2;subst h2;simp
      ·simp at h2;subst h2;simp [ih]
     ·cases h2
  ·cases h1
end
end Go.Pav
end
section
set_option linter.unusedSimpArgs false
set_option linter.unusedVariables false
namespace Go.Pav
open Go
section
variable {P:Program} {φ:FuncId->Option Nat} {ψ:Nat->FuncId} {N:Nat} {w0 w:World} {S:Nat->Prop} {m:Nat->Nat × Nat} {A:Nat->Prop} {h:Heap} {e:Env} {a:Act} {o:Oper}
theorem af6 (cx:Cx P φ ψ N w0 w S m A h e a) {op:BinOp} {t t':TypeId} {X Y:Operand} (ho:o.op=.binOp op t X Y t') {x y:Opd} {kd:Nat} {ks:List Nat} {cop:COp} (hc:cEq kd ks op x y=some cop)
 {v:AV} {u:Upd} {nid:Nat} (hs:aJ cop e h nid=some (v,u))
 (hr:∀ b,iK kd ks (x.ev e) (y.ev e)=some b->(Op.equalIn 10000 t (a.eval X) (a.eval Y)).run P w=.ok b w/\(eqGuard op t X Y (a.eval X) (a.eval Y)).run P w=.ok () w)
 (hform:binOp .eql t (a.eval X) (a.eval Y)=(do pure (.bool (<- Op.equal t (a.eval X) (a.eval Y)))) /\
  binOp .neq t (a.eval X) (a.eval Y)=(do pure (.bool (!(<- Op.equal t (a.eval X) (a.eval Y)))))):Snd P ψ N w0 w S m A (execOp a.eval o) (aQ h u) v nid:=by
 have fin:∀ ne,cop=.eqv kd ks ne x y->(op=if ne then .neq else .eql)->Snd P ψ N w0 w S m A (execOp a.eval o) (aQ h u) v nid:=by
  intro ne hcop hop;subst hcop;simp only [aJ,JD] at hs;obtain ⟨b,h1,h2⟩:=aB hs;cases h2;obtain ⟨h3,h4⟩:=hr b h1;refine Snd.quiet (cv:=.bool (b != ne)) cx.inv ?_ (.bool _) nid;have he:(Op.equal t (a.eval X) (a.eval Y)).run P w=.ok b w:=h3;simp only [execOp,ho,Sem.run_bind,h4,Result.andThen_ok];cases ne
  ·simp only [qjz,qWz] at hop;subst hop;rw [hform.1];simp [he]
  ·simp only [qQx] at hop;subst hop;rw [hform.2];simp [he]
 unfold cEq at hc;split at hc
 ·cases hc;exact fin false rfl rfl
 ·cases hc;exact fin true rfl rfl
 ·cases hc
theorem Vw {x y:Value} (t:TypeId) (hx:(∀ k n,x≠.int k n)/\(∀ k n,x≠.float k n)/\(∀ k n l,x≠.complex k n l)/\∀ s,x≠.string s) :
 binOp .eql t x y=(do pure (.bool (<- Op.equal t x y)))/\binOp .neq t x y=(do pure (.bool (!(<- Op.equal t x y)))):=by
 obtain ⟨h1,h2,h3,h4⟩:=hx;cases x <;> first
  | exact absurd rfl (h1 _ _)
  | exact absurd rfl (h2 _ _)
  | exact absurd rfl (h3 _ _ _)
  | exact absurd rfl (h4 _)
  | (constructor <;> cases y <;> rfl)
theorem VR.form {x:AV} {c:Value} (hx:VR ψ w S m A x c) (hn:(∀ k n,x≠.int k n)/\(∀ s,x≠.str s)/\x≠.undef) :
 (∀ k n,c≠.int k n)/\(∀ k n,c≠.float k n)/\(∀ k n l,c≠.complex k n l)/\∀ s,c≠.string s:=by
 cases hx <;> simp_all
theorem Rh {kd:Nat} {ks:List Nat} {x y:AV} {b:Bool} (hb:iK kd ks x y=some b):(∀ k n,x≠.int k n)/\(∀ s,x≠.str s)/\x≠.undef:=by
 unfold iK at hb;split at hb
 ·unfold Vr at hb;split at hb <;> simp_all
 ·split at hb
  ·unfold eqFn at hb;split at hb <;> simp_all
  ·split at hb
   ·unfold KI at hb;split at hb <;> simp_all
   ·split at hb
    ·unfold KT at hb;split at hb <;> simp_all
    ·split at hb
     ·unfold KU at hb;split at hb <;> simp_all
     ·unfold Dv at hb;split at hb <;> simp_all
theorem D5 (cx:Cx P φ ψ N w0 w S m A h e a) {op:BinOp} {t t':TypeId} {X Y:Operand} (ho:o.op=.binOp op t X Y t') {x y:Opd} (hx:fD φ X=some x) {kd:Nat} {ks:List Nat} {cop:COp} (hc:cEq kd ks op x y=some cop)
 {v:AV} {u:Upd} {nid:Nat} (hs:aJ cop e h nid=some (v,u))
 (hr:∀ b,iK kd ks (x.ev e) (y.ev e)=some b->(Op.equalIn 10000 t (a.eval X) (a.eval Y)).run P w=.ok b w/\(eqGuard op t X Y (a.eval X) (a.eval Y)).run P w=.ok () w):Snd P ψ N w0 w S m A (execOp a.eval o) (aQ h u) v nid:=by
 have hsome:∃ b,iK kd ks (x.ev e) (y.ev e)=some b:=by
  unfold cEq at hc;split at hc
  ·cases hc;simp only [aJ,JD] at hs;obtain ⟨b,h1,_⟩:=aB hs;exact ⟨b,h1⟩
  ·cases hc;simp only [aJ,JD] at hs;obtain ⟨b,h1,_⟩:=aB hs;exact ⟨b,h1⟩
  ·cases hc
 obtain ⟨b,hb⟩:=hsome;exact af6 cx ho hc hs hr (Vw t ((cx.opd hx).form (Rh hb)))
theorem amI (cx:Cx P φ ψ N w0 w S m A h e a) {op:BinOp} {t t':TypeId} {X Y:Operand} (ho:o.op=.binOp op t X Y t'):Ok P φ ψ N w0 w S m A h e a o:=by
 intro cop v u nid hc hs hn;rw [ho] at hc;simp only [cOp,qvq,qzj] at hc;obtain ⟨x,hx,y,hy,d,hd,hc⟩:=hc;have hX:=cx.opd hx;have hY:=cx.opd hy;have plain:cop=.bin op x y->Snd P ψ N w0 w S m A (execOp a.eval o) (aQ h u) v nid:=by intro hcop;subst hcop;simp only [aJ,adD] at hs;obtain ⟨h1,rfl⟩:=dZ hs;obtain ⟨cv,h2,h3⟩:=ZR (P:=P) (t:=t) h1 hX hY X Y;refine Snd.val cx.inv ?_ h2 h3 nid;simp [execOp,ho]
 split at hc
 ·cases hc;exact plain rfl
 ·cases hc;exact plain rfl
 ·refine D5 cx ho hx hc hs λb hb=>?_;obtain ⟨h1,h2⟩:=aeY (P:=P) (by simpa [iK] using hb) hX hY hd 9999;exact ⟨h1,by rw [h2];rfl⟩
 ·refine D5 cx ho hx hc hs λb hb=>?_;obtain ⟨h1,h2⟩:=acy (P:=P) (by simpa [iK] using hb) hX hY hd 9999;exact ⟨h1,by rw [h2];rfl⟩
 ·refine D5 cx ho hx hc hs λb hb=>?_;obtain ⟨h1,h2⟩:=aaU (P:=P) (by simpa [iK] using hb) hX hY hd 9999;exact ⟨h1,by rw [h2];rfl⟩
 ·refine D5 cx ho hx hc hs λb hb=>?_;obtain ⟨h1,h2⟩:=aa2 (P:=P) (by simpa [iK] using hb) hX hY hd 9999;exact ⟨h1,by rw [h2];rfl⟩
 ·refine D5 cx ho hx hc hs λb hb=>?_;obtain ⟨h1,h2⟩:=Wx (P:=P) (by simpa [iK] using hb) hX hY hd 9999;exact ⟨h1,by rw [h2];rfl⟩
 ·rename_i fs;simp only [qzj] at hc;obtain ⟨ks,hks,hc⟩:=hc;split at hc
  ·rename_i hg;obtain ⟨g1,g2⟩:=hg;refine D5 cx ho hx hc hs λb hb=>?_;have hb':KU ks (x.ev e) (y.ev e)=some b:=by simpa [iK] using hb
   unfold KU at hb';split at hb'
   ·rename_i xs ys ex ey;rw [ex] at hX;rw [ey] at hY;obtain ⟨vx,e1,n1,c1,r1⟩:=hX.Gn;obtain ⟨vy,e2,n2,c2,r2⟩:=hY.Gn;rw [e1,e2];have hf:P.fieldsOf t=fs:=by unfold Program.fieldsOf;rw [hd]
    constructor
    ·have hst:=run_equalIn_struct (P:=P) w 9999 t vx vy (by rw [hf];exact hd) g2;show (Op.equalIn (9999+1) t (.agg vx) (.agg vy)).run P w=.ok b w;rw [hst,hf];refine EO (ψ:=ψ) (S:=S) (m:=m) (A:=A) vx vy 9998 fs.toList 0 ks xs ys b hks hb' (λj v hj=>?_) (λj v hj=>?_)
     ·rw [qVq];exact ⟨c1 j v hj,by rw [n1];exact (qxz.1 hj).1,r1 j v hj⟩
     ·rw [qVq];exact ⟨c2 j v hj,by rw [n2];exact (qxz.1 hj).1,r2 j v hj⟩
    ·exact run_eqGuard_agg w op t X Y vx vy g1
   ·cases hb'
  ·cases hc
 ·cases hc
theorem ao2 (cx:Cx P φ ψ N w0 w S m A h e a) {op:UnOp} {t:TypeId} {X:Operand} (ho:o.op=.unOp op t X):Ok P φ ψ N w0 w S m A h e a o:=by
 intro cop v u nid hc hs hn;rw [ho] at hc;simp only [cOp,qyx] at hc;obtain ⟨x,hx,rfl⟩:=hc;have hX:=cx.opd hx;simp only [aJ,sUn] at hs;obtain ⟨h1,rfl⟩:=dZ hs;unfold Tm at h1;split at h1
 ·rename_i k n he;rw [he] at hX;have hc:=hX.eu;split at h1 <;> cases h1
  ·exact Snd.val cx.inv (s:=Op.unary .neg (a.eval X)) (by simp [execOp,ho]) (by rw [hc];simp [Op.unary,Op.intArith]) (.int _ _) nid
  ·exact Snd.val cx.inv (s:=Op.unary .xor (a.eval X)) (by simp [execOp,ho]) (by rw [hc];simp [Op.unary,Op.intBits]) (.int _ _) nid
 ·rename_i b he;rw [he] at hX;have hc:=hX.iD;split at h1 <;> cases h1;exact Snd.val cx.inv (s:=Op.unary .not (a.eval X)) (by simp [execOp,ho]) (by rw [hc];simp [Op.unary]) (.bool _) nid
 ·cases h1
theorem CG:∀ {es:List (List AV)} {s:List UInt8},bytesOf es=some s->∃ ns:List Int,ns.length=es.length/\s=ns.map (λn=>UInt8.ofNat n.toNat)/\∀ (i:Nat) (n:Int),ns[i]?=some n->es[i]?=some [.int .u8 n]
 | [],s,h=>by simp only [bytesOf,qwx] at h;subst h;exact ⟨[],rfl,rfl,by simp⟩
 | e::r,s,h=>by
  simp only [bytesOf] at h;split at h
  ·rename_i n;obtain ⟨t,ht,rfl⟩:=aB h;obtain ⟨ns,h1,h2,h3⟩:=CG ht;refine ⟨n::ns,by simp [h1],by simp [h2],λi k hk=>?_⟩;cases i with
   | zero=>simp at hk;subst hk;rfl
   | succ i=>simpa using h3 i k (by simpa using hk)
  ·cases h
theorem Iq:∀ (ns:List Int) (s:ByteArray),ns.foldl (λr n=>r.push (UInt8.ofNat n.toNat)) s=⟨⟨s.data.toList++ns.map λn=>UInt8.ofNat n.toNat⟩⟩
 | [],s=>by cases s;simp
 | n::ns,s=>by rw [q3q,Iq ns];simp [ByteArray.push]
theorem alT (cx:Cx P φ ψ N w0 w S m A h e a) {t t':TypeId} {X:Operand} (ho:o.op=.convert t t' X):Ok P φ ψ N w0 w S m A h e a o:=by
 intro cop v u nid hc hs hn;rw [ho] at hc;simp only [cOp,qvq,qzj] at hc;obtain ⟨x,hx,d1,hd1,d2,hd2,hc⟩:=hc;have hX:=cx.opd hx;split at hc
 ·cases hc;simp only [aJ,Tn] at hs;split at hs
  ·rename_i k' n he;cases hs;rw [he] at hX;have hc:=hX.eu;refine Snd.val cx.inv (s:=convert t t' (a.eval X)) (by simp [execOp,ho]) ?_ (.int _ _) nid;rw [hc];simp [convert,run_underlying hd1,run_underlying hd2,Conv.intToInt]
  ·cases hs
 ·cases hc;simp only [aJ,S9] at hs;split at hs
  ·rename_i s he;cases hs;rw [he] at hX;have hc:=hX.jq;refine Snd.val cx.inv (s:=convert t t' (a.eval X)) (by simp [execOp,ho]) ?_ (.str _) nid;rw [hc];simp [convert,run_underlying hd1,run_underlying hd2]
  ·cases hs
 ·rename_i el;simp only [qzj] at hc;obtain ⟨d3,hd3,hc⟩:=hc;split at hc
  ·cases hc;simp only [aJ,RX] at hs;obtain ⟨h1,rfl⟩:=dZ hs;have fin:∀ (s:List UInt8),(convert t t' (a.eval X)).run P w=.ok (.string ⟨⟨s⟩⟩) w->v=.str s->Snd P ψ N w0 w S m A (execOp a.eval o) (aQ h []) v nid:=λs q1 q2=>by rw [q2];exact Snd.val cx.inv (s:=convert t t' (a.eval X)) (by simp [execOp,ho]) q1 (.str _) nid
   cases hxv:x.ev e <;> rw [hxv] at h1 hX <;> simp only [TI] at h1 <;> try (cases h1;done)
   ·cases h1;refine fin [] ?_ rfl;rw [hX.gQ,run_convert_bytes_string w t t' el none 0 0 hd1 hd3 hd2];simp [Conv.bytesToString];rfl
   ·rename_i z es ex;split at h1
    ·rename_i hz;subst hz;obtain ⟨s,hb,rfl⟩:=aB h1;obtain ⟨ns,n1,n2,n3⟩:=CG hb;have load:∀ (b off:Nat),(∀ (i:Nat) (n:Int),ns[i]?=some n->w.cell? ⟨b,off+i,none⟩=some (.int .u8 n))->∀ cap,(convert t t' (.slice (some ⟨b,off,none⟩) es.length cap)).run P w=.ok (.string ⟨⟨s⟩⟩) w:=by
      intro b off hcell cap;rw [run_convert_bytes_string w t t' el (some ⟨b,off,none⟩) es.length cap hd1 hd3 hd2];have hl:(loadCells ⟨b,off,none⟩ es.length).run P w=.ok (ns.map (Value.int .u8)).toArray w:=by
       rw [run_loadCells w ⟨b,off,none⟩ es.length (λj=>Value.int .u8 (ns.getD j 0)) (λj hj=>by
        have hj':j < ns.length:=by omega
        rw [lT,hcell j ns[j] (qqj hj')];simp [hj'])]
       congr 2;refine qfq λj=>?_;by_cases hj:j < es.length
       ·have hj':j < ns.length:=by omega
        simp [hj,hj']
       ·have hj':¬ j < ns.length:=by omega
        simp [hj,hj']
      rw [run_bytesToString w ⟨b,off,none⟩ es.length cap ns hl,Iq,n2];rfl
     rcases hX.pG with ⟨b,off,cap,cs,e1,hS,hw,hcap,hex,hcell,hrep⟩ | ⟨rfl,ad,k,e1,_⟩
     ·refine fin s ?_ rfl;rw [e1];refine load b off (λi n hi=>?_) cap;have he:=n3 i n hi;obtain ⟨_,q⟩:=hcell i _ 0 _ he rfl;have r:=(hrep i _ 0 _ he rfl).eu;rw [r] at q;simpa using q
     ·refine fin s ?_ rfl;simp only [bytesOf,qwx] at hb;subst hb;rw [e1,run_convert_bytes_string w t t' el (some ad) 0 k hd1 hd3 hd2];rw [run_bytesToString w ad 0 k [] (by simp [loadCells,loadCellsFrom])];rfl
    ·cases h1
  ·cases hc
 ·cases hc
theorem ahV (cx:Cx P φ ψ N w0 w S m A h e a) {fn:Go.Fn} {first caps:Array Operand} (ho:o.op=.makeFunc fn first caps):Ok P φ ψ N w0 w S m A h e a o:=by
 intro cop v u nid hc hs hn;rw [ho] at hc;cases fn <;> simp only [cOp] at hc <;> try (cases hc;done)
 rename_i f;simp only [qvq,qzj] at hc;obtain ⟨g,hg,hc⟩:=hc;split at hc
 ·rename_i hf;simp only [qzj] at hc;obtain ⟨ys,hys,hc⟩:=hc;cases hc;simp only [aJ,Bj] at hs;split at hs
  ·cases hs;obtain ⟨hl,hi⟩:=cx.aoS hys;have hfe:first=#[]:=Array.eq_empty_of_size_eq_zero hf
   refine Snd.val cx.inv (s:=Instr.makeFunc (.func f) (first.map a.eval) (caps.map a.eval)) (cv:=.func (.func (ψ g)) #[] (caps.map a.eval)) (by simp [execOp,ho]) ?_ (.fn g _ _ (by simp [hl]) λj x hj=>?_) nid
   ·rw [cx.ids f g hg,hfe];simp [Instr.makeFunc]
   ·simp only [qWx,qyx] at hj;obtain ⟨y,hj,rfl⟩:=hj;obtain ⟨x,h1,h2⟩:=hi j y hj;rw [qxj];simp only [q9q,h1,qiq,qYx];exact h2
  ·cases hs
 ·cases hc
theorem aey (cx:Cx P φ ψ N w0 w S m A h e a) {t:TypeId} {r:Option Operand} (ho:o.op=.makeMap t r):Ok P φ ψ N w0 w S m A h e a o:=by
 intro cop v u nid hc hs hn;rw [ho] at hc;cases r with
 | some x=>simp only [cOp] at hc;cases hc
 | none =>
  simp only [cOp] at hc;cases hc;simp only [aJ,ab3] at hs;cases hs;have le:=Le.push (w:=w) (w':=w.alloc (.map #[] 0)) (m:=m) (A:=A) (obj:=.map #[] 0) rfl cx.inv.sb hn (w.heap.size,0);have hnew:(w.alloc (.map #[] 0)).heap[w.heap.size]?=some (.map #[] 0):=by show (w.heap.push _)[_]?=_;simp
  refine ⟨.map (some w.heap.size),w.alloc (.map #[] 0),S,gK m nid (w.heap.size,0),sN A nid,.inl ?_,?_,cx.inv.push (w':=w.alloc (.map #[] 0)) (obj:=.map #[] 0) rfl rfl rfl hn 0 (.map []) ?_ rfl,le,λ_ _ hs=>hs,λb hb=>hb⟩
  ·simp [execOp,ho,Instr.makeMap]
  ·have:=VR.map (ψ:=ψ) (w:=w.alloc (.map #[] 0)) (S:=S) (m:=gK m nid (w.heap.size,0)) (A:=sN A nid) nid (.inr rfl);simpa [gK] using this
  ·exact ⟨#[],0,hnew,rfl,λi k v hi=>by simp at hi⟩
theorem adv (cx:Cx P φ ψ N w0 w S m A h e a) {t:TypeId} {X:Operand} (ho:o.op=.range t X):Ok P φ ψ N w0 w S m A h e a o:=by
 intro cop v u nid hc hs hn;rw [ho] at hc;simp only [cOp,qvq,qzj] at hc;obtain ⟨x,hx,d,hd,hc⟩:=hc;have hX:=cx.opd hx;split at hc
 ·cases hc;simp only [aJ,QG] at hs;split at hs
  ·rename_i s he;cases hs;rw [he] at hX;have hc:=hX.jq;have le:=Le.push (w:=w) (w':=w.alloc (.stringIter ⟨⟨s⟩⟩ 0)) (m:=m) (A:=A) (obj:=.stringIter ⟨⟨s⟩⟩ 0) rfl cx.inv.sb hn (w.heap.size,0);have hnew:(w.alloc (.stringIter ⟨⟨s⟩⟩ 0)).heap[w.heap.size]?=some (.stringIter ⟨⟨s⟩⟩ 0):=by show (w.heap.push _)[_]?=_;simp
   refine ⟨.pointer (some ⟨w.heap.size,0,none⟩),w.alloc (.stringIter ⟨⟨s⟩⟩ 0),S,gK m nid (w.heap.size,0),sN A nid,.inl ?_,?_,cx.inv.push (w':=w.alloc (.stringIter ⟨⟨s⟩⟩ 0)) (obj:=.stringIter ⟨⟨s⟩⟩ 0) rfl rfl rfl hn 0 (.iter s 0) hnew rfl,le,λ_ _ hs=>hs,λb hb=>hb⟩
   ·simp [execOp,ho,Instr.range,run_underlying hd,hc]
   ·have:=VR.ptr (ψ:=ψ) (w:=w.alloc (.stringIter ⟨⟨s⟩⟩ 0)) (S:=S) (m:=gK m nid (w.heap.size,0)) (A:=sN A nid) nid 0 0 (.inr rfl);simpa [gK] using this
  ·cases hs
 ·cases hc
theorem akV (cx:Cx P φ ψ N w0 w S m A h e a) {X:Operand} {k:Nat} (ho:o.op=.extract X k):Ok P φ ψ N w0 w S m A h e a o:=by
 intro cop v u nid hc hs hn;rw [ho] at hc;simp only [cOp,qyx] at hc;obtain ⟨x,hx,rfl⟩:=hc;have hX:=cx.opd hx;simp only [aJ,Rz] at hs;split at hs
 ·rename_i vs he;obtain ⟨h1,rfl⟩:=dZ hs;rw [he] at hX;obtain ⟨cs,e1,n1,r1⟩:=hX.YZ;have hk:k < cs.size:=by rw [n1];exact (qxz.1 h1).1
  refine Snd.val cx.inv (s:=Instr.extract (a.eval X) k) (by simp [execOp,ho]) ?_ (r1 k v h1) nid;rw [e1];simp only [Instr.extract,getElem?_of_getD hk];rfl
 ·cases hs
end
end Go.Pav
end
section
set_option linter.unusedSimpArgs false
set_option linter.unusedVariables false
namespace Go.Pav
open Go
section
variable {P:Program} {φ:FuncId->Option Nat} {ψ:Nat->FuncId} {N:Nat} {w0 w:World} {S:Nat->Prop} {m:Nat->Nat × Nat} {A:Nat->Prop} {h:Heap} {e:Env} {a:Act} {o:Oper}
theorem VR.Rq {cs:List AV} {b off:Nat} (hv:VR ψ w S m A (.rop cs) (.pointer (some ⟨b,off,none⟩))) (k:Nat):VR ψ w S m A (.rop (cs.drop k)) (.pointer (some ⟨b,off+k,none⟩)):=by
 obtain ⟨b',off',vs,e1,hS,hcell,hrep⟩:=hv.qQ;cases e1;refine .rop (cs.drop k) b (off+k) (λj=>vs (k+j)) hS (λj x hx=>?_) (λj x hx=>?_)
 ·rw [qKq] at hx;obtain ⟨h1,h2⟩:=hcell _ x hx;exact ⟨h1,by rw [qgq];exact h2⟩
 ·rw [qKq] at hx;exact hrep _ x hx
theorem VR.Yd {b i o:Nat} {c:Value} (hv:VR ψ w S m A (.ptr b i o) c) (k:Nat):VR ψ w S m A (.ptr b i (o+k)) (.pointer (some ⟨(m b).1,i * (m b).2+o+k,none⟩)):=by obtain ⟨hA,_⟩:=hv.lg;have:=VR.ptr (ψ:=ψ) (w:=w) (S:=S) (m:=m) (A:=A) b i (o+k) hA;rwa [<- qgq] at this
theorem amU (cx:Cx P φ ψ N w0 w S m A h e a) {t:TypeId} {X:Operand} {f:Nat} (ho:o.op=.fieldAddr t X f):Ok P φ ψ N w0 w S m A h e a o:=by
 intro cop v u nid hc hs hn;rw [ho] at hc;simp only [cOp,qvq,qzj] at hc;obtain ⟨x,hx,d,hd,hc⟩:=hc;have hX:=cx.opd hx;split at hc
 ·rename_i fs;simp only [qzj] at hc;obtain ⟨fd,hf,n,hn',hc⟩:=hc;split at hc
  ·cases hc
  ·rename_i hne;cases hc;have run:∀ b off,a.eval X=.pointer (some ⟨b,off,none⟩)->(Instr.fieldAt t (a.eval X) f).run P w=.ok (.pointer (some ⟨b,off+fd.offset,none⟩)) w:=by intro b off he;rw [he];simp only [Instr.fieldAt,Sem.run_bind,run_underlying hd,Result.andThen_ok,hf,Instr.sureAddr,Sem.run_pure,fieldPlace,fE hn'];rw [qwq hne];simp [lT]
   simp only [aJ,O1] at hs;split at hs
   ·rename_i cs he;cases hs;rw [he] at hX;obtain ⟨b,off,vs,e1,_⟩:=hX.qQ;refine Snd.val cx.inv (s:=Instr.fieldAt t (a.eval X) f) (by simp [execOp,ho]) (run b off e1) ?_ nid;rw [e1] at hX;exact hX.Rq _
   ·rename_i b i o' he;cases hs;rw [he] at hX;obtain ⟨_,e1⟩:=hX.lg;exact Snd.val cx.inv (s:=Instr.fieldAt t (a.eval X) f) (by simp [execOp,ho]) (run _ _ e1) (hX.Yd _) nid
   ·cases hs
 ·cases hc
theorem TG {t:TypeId} {n:Nat} {ag:Bool} (hs:sizeT P t=some n) (hag:uz P t=some ag) {cs:List AV} {vs:Array Value} (hn:vs.size=cs.length)
 (hcell:∀ (j:Nat) (x:AV),cs[j]?=some x->x.cell=true) (hr:∀ (j:Nat) (x:AV),cs[j]?=some x->VR ψ w S m A x (vs.getD j Go.undef)) {off:Nat} {v:AV}
 (hl:qO n ag (cs.drop off)=some v):∃ cv,(part t vs off).run P w=.ok cv w/\VR ψ w S m A v cv:=by
 unfold qO at hl;cases ag with
 | true =>
  simp only [qQx] at hl;by_cases hle:n<=(cs.drop off).length
  ·rw [qwz hle] at hl;cases hl;rw [qaq] at hle;have get:∀ (j:Nat) (x:AV),((cs.drop off).take n)[j]?=some x->j < n/\cs[off+j]?=some x:=by
    intro j x hx;rw [qZj] at hx;split at hx
    ·rename_i hj;rw [qKq] at hx;exact ⟨hj,hx⟩
    ·cases hx
   refine ⟨.agg (vs.extract off (off+n)),?_,.agg _ _ ?_ (λj x hx=>hcell _ x (get j x hx).2) (λj x hx=>?_)⟩
   ·unfold part;rw [Sem.run_bind,x9 hag];simp [fE hs]
   ·by_cases h0:n=0
    ·subst h0;simp;omega
    ·simp;omega
   ·obtain ⟨hj,h2⟩:=get j x hx;have h3:=hr _ x h2;have hlt:off+j < vs.size:=by rw [hn];exact (qxz.1 h2).1
    rw [qxj] at h3 |-;rw [Array.getElem?_extract];rw [qwz qqq];exact h3
  ·rw [qwq hle] at hl;cases hl
 | false =>
  simp only [qjz,qWz] at hl;rw [List.head?_drop] at hl;have hlt:off < vs.size:=by rw [hn];exact (qxz.1 hl).1
  refine ⟨vs.getD off Go.undef,?_,hr off v hl⟩;unfold part;rw [Sem.run_bind,x9 hag];simp only [Result.andThen_ok,qjz,qWz];rw [getElem?_of_getD hlt];rfl
theorem afF (cx:Cx P φ ψ N w0 w S m A h e a) {t:TypeId} {X:Operand} {f:Nat} (ho:o.op=.field t X f):Ok P φ ψ N w0 w S m A h e a o:=by
 intro cop v u nid hc hs hn;rw [ho] at hc;simp only [cOp,qvq,qzj] at hc;obtain ⟨x,hx,d,hd,hc⟩:=hc;have hX:=cx.opd hx;split at hc
 ·rename_i fs;simp only [qzj] at hc;obtain ⟨fd,hf,n,hn',ag,hag,hc⟩:=hc;cases hc;simp only [aJ,EP] at hs;split at hs
  ·rename_i cs he;obtain ⟨h1,rfl⟩:=dZ hs;rw [he] at hX;obtain ⟨vs,e1,n1,c1,r1⟩:=hX.Gn;obtain ⟨cv,h2,h3⟩:=TG (P:=P) hn' hag n1 c1 r1 h1;refine Snd.val cx.inv (s:=Instr.field t (a.eval X) f) (by simp [execOp,ho]) ?_ h3 nid;rw [e1];simp only [Instr.field,Sem.run_bind,run_underlying hd,Result.andThen_ok,hf,asAgg,Sem.run_pure,h2]
  ·cases hs
 ·cases hc
theorem Y0 {k:IntKind} {n:Nat} {g off:Nat} {t el:TypeId} {len cap z:Nat} (hd:P.underlying t=some (.slice el)) (hz:sizeT P el=some z) (hl:n < len) :
 (Instr.indexAt t (.slice (some ⟨g,off,none⟩) len cap) (.int k n)).run P w=.ok (.pointer (some ⟨g,off+n * z,none⟩)) w:=by
 have h1:(0:Int)<=n/\(n:Int) < len:=by omega
 simp only [Instr.indexAt,asIntOf,Sem.run_bind,Sem.run_pure,run_underlying hd,Result.andThen_ok];rw [qwz h1];simp [fE hz,lT]
theorem ahj (cx:Cx P φ ψ N w0 w S m A h e a) {t:TypeId} {X I:Operand} (ho:o.op=.indexAddr t X I):Ok P φ ψ N w0 w S m A h e a o:=by
 intro cop v u nid hc hs hn;rw [ho] at hc;simp only [cOp,qvq,qzj] at hc;obtain ⟨x,hx,ix,hix,d,hd,hc⟩:=hc;have hX:=cx.opd hx;have hI:=cx.opd hix;split at hc
 ·rename_i el;simp only [qzj] at hc;obtain ⟨z,hz,hc⟩:=hc;split at hc
  ·cases hc
  ·cases hc;simp only [aJ,ED] at hs;split at hs
   ·rename_i k n he;obtain ⟨n',hn',hs1⟩:=au hs;replace hs:=hs1;clear hs1;cases nat?_some hn';rw [he] at hI;have eI:=hI.eu;cases hxv:x.ev e <;> rw [hxv] at hs hX <;> simp only [uo] at hs <;> try (cases hs;done)
    ·rename_i z' es ex;split at hs
     ·rename_i hzz;subst hzz;obtain ⟨cs,hcs,hs⟩:=au hs;cases hs;have hlt:n' < es.length:=(qxz.1 hcs).1;rcases hX.pG with ⟨b,off,cap,vs,e1,hS,hw,hcap,hex,hcell,hrep⟩ | ⟨rfl,_⟩;case inr=>simp at hlt
      refine Snd.val cx.inv (s:=Instr.indexAt t (a.eval X) (a.eval I)) (by simp [execOp,ho]) (by rw [e1,eI];exact Y0 hd hz hlt) ?_ nid;exact .rop cs b (off+n' * z') (vs n') hS (λj y hy=>hcell n' cs j y hcs hy) (λj y hy=>hrep n' cs j y hcs hy)
     ·cases hs
    ·rename_i b z' j len cap ex;split at hs
     ·rename_i hzz;obtain ⟨hzz,hlt⟩:=hzz;subst hzz;cases hs;obtain ⟨cc,e1,hA,hmz,_⟩:=hX.mJ;refine Snd.val cx.inv (s:=Instr.indexAt t (a.eval X) (a.eval I)) (by simp [execOp,ho]) (by rw [e1,eI];exact Y0 hd hz hlt) ?_ nid;have:=VR.ptr (ψ:=ψ) (w:=w) (S:=S) (m:=m) (A:=A) b (j+n') 0 hA;rw [hmz,qbz,qYq] at this;exact this
     ·cases hs
   ·cases hs
 ·rename_i len el;simp only [qzj] at hc;obtain ⟨z,hz,hc⟩:=hc;split at hc
  ·cases hc
  ·cases hc;simp only [aJ,EH] at hs;split at hs
   ·rename_i k n he;obtain ⟨n',hn',hs1⟩:=au hs;replace hs:=hs1;clear hs1;cases nat?_some hn';rw [he] at hI;have eI:=hI.eu;split at hs
    ·rename_i hlt;have run:∀ b off,a.eval X=.pointer (some ⟨b,off,none⟩)->(Instr.indexAt t (a.eval X) (a.eval I)).run P w=.ok (.pointer (some ⟨b,off+n' * z,none⟩)) w:=by
      intro b off e1;rw [e1,eI];have h1:(0:Int)<=n'/\(n':Int) < len:=by omega
      simp only [Instr.indexAt,asIntOf,Sem.run_bind,Sem.run_pure,run_underlying hd,Result.andThen_ok,Instr.sureAddr];rw [qwz h1];simp [fE hz,lT]
     cases hxv:x.ev e <;> rw [hxv] at hs hX <;> simp only [tu] at hs <;> try (cases hs;done)
     ·rename_i cs;cases hs;obtain ⟨b,off,vs,e1,_⟩:=hX.qQ;refine Snd.val cx.inv (s:=Instr.indexAt t (a.eval X) (a.eval I)) (by simp [execOp,ho]) (run b off e1) ?_ nid;rw [e1] at hX;exact hX.Rq _
     ·rename_i b i o';cases hs;obtain ⟨_,e1⟩:=hX.lg;exact Snd.val cx.inv (s:=Instr.indexAt t (a.eval X) (a.eval I)) (by simp [execOp,ho]) (run _ _ e1) (hX.Yd _) nid
    ·cases hs
   ·cases hs
 ·cases hc
theorem Ad (cx:Cx P φ ψ N w0 w S m A h e a) {t:TypeId} {X I:Operand} (ho:o.op=.index t X I):Ok P φ ψ N w0 w S m A h e a o:=by
 intro cop v u nid hc hs hn;rw [ho] at hc;simp only [cOp,qvq,qzj] at hc;obtain ⟨x,hx,ix,hix,d,hd,hc⟩:=hc;have hX:=cx.opd hx;have hI:=cx.opd hix;split at hc
 ·cases hc;simp only [aJ,qF] at hs;split at hs
  ·rename_i s k n ex ei;obtain ⟨n',hn',hs1⟩:=au hs;replace hs:=hs1;clear hs1;cases nat?_some hn';obtain ⟨c,hc',hs⟩:=au hs;cases hs;rw [ex] at hX;rw [ei] at hI;have eX:=hX.jq;have eI:=hI.eu;refine Snd.val cx.inv (s:=Instr.index t (a.eval X) (a.eval I)) (cv:=.int .u8 c.toNat) (by simp [execOp,ho]) ?_ (.int _ _) nid;rw [eX,eI];have h0:(0:Int)<=n':=by omega
   have hlt:n' < s.length:=(qxz.1 hc').1;have hb:(⟨⟨s⟩⟩:ByteArray)[n']?=some c:=by have hsz:(⟨⟨s⟩⟩:ByteArray).size=s.length:=rfl;rw [getElem?_pos (⟨⟨s⟩⟩:ByteArray) n' (by rw [hsz];exact hlt)];congr 1;have:=(qxz.1 hc').2;rw [<- this];rfl
   simp only [Instr.index,asIntOf,Sem.run_bind,Sem.run_pure,run_underlying hd,Result.andThen_ok];rw [qwz h0];simp [hb]
  ·cases hs
 ·rename_i len el;simp only [qzj] at hc;obtain ⟨z,hz,ag,hag,hc⟩:=hc;cases hc;simp only [aJ,Ey] at hs;split at hs
  ·rename_i cs k n ex ei;obtain ⟨n',hn',hs1⟩:=au hs;replace hs:=hs1;clear hs1;cases nat?_some hn';split at hs
   ·rename_i hlt;obtain ⟨h1,rfl⟩:=dZ hs;rw [ex] at hX;rw [ei] at hI;obtain ⟨vs,e1,n1,c1,r1⟩:=hX.Gn;have eI:=hI.eu;obtain ⟨cv,h2,h3⟩:=TG (P:=P) hz hag n1 c1 r1 h1;refine Snd.val cx.inv (s:=Instr.index t (a.eval X) (a.eval I)) (by simp [execOp,ho]) ?_ h3 nid;rw [e1,eI];have h0:(0:Int)<=n'/\(n':Int) < len:=by omega
    simp only [Instr.index,asIntOf,Sem.run_bind,Sem.run_pure,run_underlying hd,Result.andThen_ok];rw [qwz h0];simp [fE hz,h2]
   ·cases hs
  ·cases hs
 ·cases hc
end
end Go.Pav
end
section
set_option linter.unusedSimpArgs false
set_option linter.unusedVariables false
namespace Go.Pav
open Go
section
variable {h:Heap}
theorem DV (k:Nat):∀ (bs:List Nat) (h1:Heap),
 (∃ z es mu,get h k=some (.cells z es mu)/\k ∈ bs/\get (aQ h1 (aW h bs)) k=some (.cells z es false)) \/
 (get (aQ h1 (aW h bs)) k=get h1 k/\(k ∈ bs->∀ z es mu,get h k≠some (.cells z es mu))):=by
 intro bs;induction bs with
 | nil=>intro h1;exact .inr ⟨rfl,λhk=>by cases hk⟩
 | cons b r ih =>
  intro h1;have other:(∀ z es mu,get h b≠some (.cells z es mu))->aW h (b::r)=aW h r:=by intro hno;simp only [aW]
  by_cases hb:∃ z es mu,get h b=some (.cells z es mu)
  ·obtain ⟨z,es,mu,hg⟩:=hb;have e1:aQ h1 (aW h (b::r))=aQ (put h1 b (.cells z es false)) (aW h r):=by simp only [aW,hg,aQ,uX]
   rw [e1];rcases ih (put h1 b (.cells z es false)) with ⟨z',es',mu',q1,q2,q3⟩ | ⟨q1,q2⟩
   ·exact .inl ⟨z',es',mu',q1,qyz _ q2,q3⟩
   ·rw [get_put] at q1;by_cases e:b=k
    ·subst e;rw [qwz rfl] at q1;exact .inl ⟨z,es,mu,hg,qXq,q1⟩
    ·rw [qwq e] at q1;exact .inr ⟨q1,λhk=>q2 (by rcases qkq.1 hk with rfl | hk;exact absurd rfl e;exact hk)⟩
  ·have hb':∀ z es mu,get h b≠some (.cells z es mu):=λz es mu hg=>hb ⟨z,es,mu,hg⟩;rw [other hb'];rcases ih h1 with ⟨z',es',mu',q1,q2,q3⟩ | ⟨q1,q2⟩
   ·exact .inl ⟨z',es',mu',q1,qyz _ q2,q3⟩
   ·refine .inr ⟨q1,λhk=>?_⟩;rcases qkq.1 hk with rfl | hk
    ·exact hb'
    ·exact q2 hk
end
theorem Inv.data {ψ:Nat->FuncId} {N:Nat} {w0 w:World} {S:Nat->Prop} {m:Nat->Nat × Nat} {A:Nat->Prop} {h:Heap} (i:Inv ψ N w0 w S m A h) {w':World}
 (hold:∀ c,c < w.heap.size->w'.heap[c]?=w.heap[c]?) (hsz:w.heap.size<=w'.heap.size) (hos:w'.os=w.os) (hout:w'.output=w.output) {Sn:Nat->Prop}
 (hsub:∀ c,S c->Sn c) (hsn:∀ c,Sn c->c < w'.heap.size) (bs:List Nat) (hbs:∀ b ∈ bs,∃ z es mu,get h b=some (.cells z es mu)/\Sn (m b).1)
 (hnew:∀ c,Sn c->S c\/(∃ b ∈ bs,c=(m b).1)\/w.heap.size<=c):Inv ψ N w0 w' Sn m A (aQ h (aW h bs))/\Le w S m A w' Sn m A:=by
 have le:Le w S m A w' Sn m A:=by refine ⟨λb hb=>hold b (i.sb b hb),λb c t fr hc=>⟨c,?_,rfl⟩,hsz,hsub,λ_ h=>h,λ_ _=>rfl⟩;rw [hold b (qWq.1 hc).1];exact hc
 refine ⟨?_,le⟩;have look:∀ b o,get (aQ h (aW h bs)) b=some o->(∃ z es mu,get h b=some (.cells z es mu)/\b ∈ bs/\o=.cells z es false)\/(get h b=some o/\b ∉ bs):=by
  intro b o hb;rcases DV (h:=h) b bs h with ⟨z,es,mu,q1,q2,q3⟩ | ⟨q1,q2⟩
  ·rw [q3] at hb;cases hb;exact .inl ⟨z,es,mu,q1,q2,rfl⟩
  ·rw [q1] at hb;refine .inr ⟨hb,λhm=>?_⟩;obtain ⟨z,es,mu,r1,_⟩:=hbs b hm;exact q2 hm z es mu r1
 have mutless:∀ b o,get (aQ h (aW h bs)) b=some o->oq o=true->get h b=some o/\b ∉ bs:=by
  intro b o hb hm;rcases look b o hb with ⟨z,es,mu,q1,q2,rfl⟩ | q
  ·cases hm
  ·exact q
 constructor
 ·intro b o hb;rcases look b o hb with ⟨z,es,mu,q1,q2,rfl⟩ | ⟨q,_⟩
  ·exact i.dom b _ q1
  ·exact i.dom b o q
 ·intro b o hb;rcases look b o hb with ⟨z,es,mu,q1,q2,rfl⟩ | ⟨q,_⟩
  ·have:=(i.obj b _ q1).mono le (hold _ (i.obj b _ q1).lt);exact this
  ·exact (i.obj b o q).mono le (hold _ (i.obj b o q).lt)
 ·intro b o hb hm;rcases look b o hb with ⟨z,es,mu,q1,q2,rfl⟩ | ⟨q,_⟩
  ·obtain ⟨_,_,_,_,r⟩:=hbs b q2;exact r
  ·exact hsub _ (i.fro b o q hm)
 ·intro b o hb hm;obtain ⟨q,qn⟩:=mutless b o hb hm;obtain ⟨l1,l2⟩:=i.live b o q hm;refine ⟨λhs=>?_,l2⟩;rcases hnew _ hs with r | ⟨b',r1,r2⟩ | r
  ·exact l1 r
  ·obtain ⟨z,es,mu,r3,r4⟩:=hbs b' r1;have hne:b≠b':=λe=>qn (e ▸ r1);cases mu with
   | true=>exact i.inj b o b' _ q r3 hm rfl hne r2
   | false=>exact l1 (r2 ▸ i.fro b' _ r3 rfl)
  ·have:=(i.obj b o q).lt;omega
 ·intro b o b' o' h1 h2 m1 m2 hne;exact i.inj b o b' o' (mutless b o h1 m1).1 (mutless b' o' h2 m2).1 m1 m2 hne
 ·exact hsn
 ·exact qej i.size hsz
 ·intro c hc;rw [hold c (qXx hc i.size)];exact i.old c hc
 ·exact hos.trans i.os
 ·exact hout.trans i.out
section
variable {P:Program} {ψ:Nat->FuncId} {N:Nat} {w0 w:World} {S S':Nat->Prop} {m:Nat->Nat × Nat} {A A':Nat->Prop} {h:Heap}
theorem ahp {x:AV} {u:Value} (hl:rF x=true) (hv:VR ψ w S m A x u):VR ψ w S' m A' x u:=by cases hv <;> first | (constructor;done) | (simp [rF] at hl)
theorem adM (i:Inv ψ N w0 w S m A h) {b z:Nat} {es:List (List AV)} {mu:Bool} (hg:get h b=some (.cells z es mu)) :
 Inv ψ N w0 w (λc=>S c\/c=(m b).1) m A (aQ h [(b,some (.cells z es false))])/\Le w S m A w (λc=>S c\/c=(m b).1) m A/\∀ c,c < N->(S c\/c=(m b).1)->S c:=by
 obtain ⟨j1,j2⟩:=i.data (w':=w) (Sn:=λc=>S c\/c=(m b).1) (λ_ _=>rfl) (qxq _) rfl rfl (λc hc=>.inl hc) (λc hc=>by
  rcases hc with hc | rfl
  ·exact i.sb c hc
  ·exact (i.obj b _ hg).lt) [b] (λb' hb=>by
  simp only [qkq,qdq,q0x] at hb;subst hb;exact ⟨z,es,mu,hg,.inr rfl⟩) (λc hc=>by
  rcases hc with hc | rfl
  ·exact .inl hc
  ·exact .inr (.inl ⟨b,by simp,rfl⟩))
 refine ⟨?_,j2,λc hc hs=>?_⟩
 ·simpa [aW,hg] using j1
 ·rcases hs with q | rfl
  ·exact q
  ·cases mu with
   | true=>have:=(i.live b _ hg rfl).2;omega
   | false=>exact i.fro b _ hg rfl
end
end Go.Pav
end
