/- Part of the theory that the claims of this work use: PavDefs, PavMono, PavDen, PwDefs, PavComp, PavRel, PavInv, PavSnd1, PavSnd2, PavSnd3, PavSnd4, PavSnd5, PavSnd6, PavSnd7, PavMark. No conditions of its own. -/
import GoSem.Dispatch
import GoSem.Core.Program
import GoSem.Core.Region
import GoSem.Machine.Frame
import Derived.Laws.AppendOwn
import Derived.Laws.Strings
import Derived.Laws.Concat
import Derived.Laws.Cover1
import Derived.Great.BuildSlice
import Derived.Laws.StructEq
import Derived.Laws.Unary
import Derived.Laws.BytesString
section
set_option linter.unusedSimpArgs false
set_option linter.unusedVariables false
namespace Go.Pav
open Go
inductive AV where
 | undef
 | bool (b:Bool)
 | int (k:IntKind) (n:Int)
 | str (s:List UInt8)
 | nilp
 | nils
 | nilm
 | nilf
 | ro (z:Nat) (es:List (List AV)) (ex:Bool)
 | rop (cs:List AV)
 | ptr (b i o:Nat)
 | sl (b z i len cap:Nat) (ex:Bool)
 | map (b:Nat)
 | fn (f:Nat) (caps:List AV)
 | agg (cs:List AV)
 | tup (vs:List AV)
 deriving Inhabited
inductive AObj where
 | cells (z:Nat) (es:List (List AV)) (mu:Bool)
 | map (es:List (AV × AV))
 | iter (s:List UInt8) (pos:Nat)
 deriving Inhabited
abbrev Env:=List (Nat × AV)
abbrev Heap:=List (Nat × AObj)
def get {α:Type}:List (Nat × α)→Nat→Option α
 | [],_=>none
 | (k,v)::r,n=>if k=n then some v else get r n
def put {α:Type}:List (Nat × α)→Nat→α→List (Nat × α)
 | [],n,x=>[(n,x)]
 | (k,v)::r,n,x=>if k=n then (n,x)::r else if n≤k then (n,x)::(k,v)::r else (k,v)::put r n x
def del {α:Type}:List (Nat × α)→Nat→List (Nat × α)
 | [],_=>[]
 | (k,v)::r,n=>if k=n then del r n else (k,v)::del r n
def keep {α:Type} (m:Nat):List (Nat × α)→List (Nat × α)
 | []=>[]
 | (k,v)::r=>if m.testBit k then (k,v)::keep m r else keep m r
def ob {α β:Type} (x:Option α) (f:α→Option β):Option β :=
 match x with
 | some a=>f a
 | none=>none
def om {α β:Type} (x:Option α) (f:α→β):Option β :=
 match x with
 | some a=>some (f a)
 | none=>none
def og {β:Type} (c:Bool) (x:Option β):Option β :=
 match c with
 | true=>x
 | false=>none
def mapO {α β:Type} (f:α→Option β):List α→Option (List β)
 | []=>some []
 | a::r=>ob (f a) fun b=>om (mapO f r) fun bs=>b::bs
def nat?:Int→Option Nat
 | .ofNat n=>some n
 | .negSucc _=>none
def bytesLess:List UInt8→List UInt8→Bool
 | _,[]=>false
 | [],_::_=>true
 | a::x,b::y=>decide (a < b)||(decide (a=b)&&bytesLess x y)
inductive Opd where
 | t (s:Nat)
 | c (v:AV)
 deriving Inhabited
inductive COp where
 | mv (x:Opd)
 | pick (c a b:Opd)
 | alloc (z:List AV)
 | box (x:Opd)
 | build (z:List AV) (ps:List (Nat × Nat × Opd))
 | buildS (z:List AV) (len:Nat) (ps:List (Nat × Opd))
 | load (n:Nat) (ag:Bool) (a:Opd)
 | store (n:Nat) (a x:Opd)
 | nilchk (x:Opd)
 | bin (op:BinOp) (x y:Opd)
 | eqv (kd:Nat) (ks:List Nat) (ne:Bool) (x y:Opd)
 | un (op:UnOp) (x:Opd)
 | cvt (k:IntKind) (x:Opd)
 | cvs (x:Opd)
 | cvb (x:Opd)
 | mkfn (f:Nat) (caps:List Opd)
 | mkmap
 | mksl (z:List AV) (bytes:Nat) (l c:Opd)
 | slice (z:Nat) (x:Opd) (lo hi mx:Option Opd)
 | sliceA (n:Nat) (x:Opd) (lo hi:Option Opd)
 | fld (off:Nat) (x:Opd)
 | fldv (off n:Nat) (ag:Bool) (x:Opd)
 | idxs (z:Nat) (x i:Opd)
 | idxa (len z:Nat) (x i:Opd)
 | idxstr (x i:Opd)
 | idxv (len z:Nat) (ag:Bool) (x i:Opd)
 | look (kd:Nat) (z:AV) (ok:Bool) (m k:Opd)
 | upd (kd:Nat) (m k v:Opd)
 | range (x:Opd)
 | next (x:Opd)
 | ext (i:Nat) (x:Opd)
 | call (f:Nat) (args:List Opd)
 | callv (g:Opd) (args:List Opd)
 | len (kd:Nat) (x:Opd)
 | cap (x:Opd)
 | app (z:List AV) (bytes:Nat) (zeros:Bool) (s x:Opd)
 | cpy (z:Nat) (d s:Opd)
 | clr (z:List AV) (d:Opd)
 | mx (x y:Opd)
 | mn (x y:Opd)
 | fail
 deriving Inhabited
structure COper where
 dst:Option Nat
 guard:Option (Nat × Bool)
 op:COp
 deriving Inhabited
inductive CCode where
 | skip
 | ops (l:List COper) (live:Nat × List Nat)
 | draw (l:List COper) (un:List (Nat × Nat)) (live:Nat × List Nat)
 | seq (a b:CCode)
 | cond (c:Opd) (a b:CCode)
 | block (id:Nat) (b:CCode)
 | loop (live:Nat) (b:CCode)
 | exit (id:Nat)
 | ret
 | fail
 | prim (k:Nat)
 /-- a region with an append whose result is only read behind it -/
 | iso (pre:List COper) (ap:COper) (post:List COper) (live:Nat × List Nat)
 deriving Inhabited
structure Psi where
 f:Nat→FuncId
 laid:Nat→Option Obj
instance:CoeFun Psi fun _=>Nat→FuncId:=⟨Psi.f⟩
def noLaid:Nat→Option Obj:=fun _=>none
inductive CRes where
 | tmp (t:Nat)
 | cell (t n:Nat) (ag:Bool)
 deriving Inhabited
structure CFn where
 np:Nat
 res:List CRes
 body:CCode
 deriving Inhabited
def mz:CCode→CCode
 | .ops l _=>.ops l (0,[])
 | .draw l un _=>.draw l un (0,[])
 | .seq a b=>.seq (mz a) (mz b)
 | .cond c a b=>.cond c (mz a) (mz b)
 | .block id b=>.block id (mz b)
 | .loop _ b=>.loop 0 (mz b)
 | .iso pre ap post _=>.ops (pre++ap::post) (0,[])
 | c=>c
def stripF (f:CFn):CFn:=⟨f.np,f.res,mz f.body⟩
inductive Tree where
 | leaf
 | node (l:Tree) (k:Nat) (f:CFn) (r:Tree)
 deriving Inhabited
def Tree.get:Tree→Nat→Option CFn
 | .leaf,_=>none
 | .node l k f r,n=>if n=k then some f else if n≤k then l.get n else r.get n
structure Prog where
 fns:Tree
 inl:Nat→Bool
 /-- which of them may be given pointers that they only read -/
 pp:Nat→Bool
def Opd.ev (x:Opd) (e:Env):AV :=
 match x with
 | .t s=>(get e s).getD .undef
 | .c v=>v
def AV.cells:AV→List AV
 | .agg cs=>cs
 | v=>[v]
def AV.cell:AV→Bool
 | .agg _=>false
 | .tup _=>false
 | .undef=>false
 | _=>true
def frz (h:Heap):Nat→AV→Option AV
 | 0,_=>none
 | n+1,v=>match v with
  | .undef=>none
  | .ptr b i o=>match get h b with
   | some (.cells _ es _)=>ob es[i]? fun cs=>om (mapO (frz h n) (cs.drop o)) fun cs'=>.rop cs'
   | _=>none
  | .map _=>none
  | .sl b z i len cap ex=>match get h b with
   | some (.cells _ es _)=>ob (mapO (mapO (frz h n)) ((es.drop i).take len)) fun es' =>
    og (decide (es'.length=len)) (some (.ro z es' (ex&&decide (cap=len))))
   | _=>none
  | .fn f caps=>om (mapO (frz h n) caps) fun cs=>.fn f cs
  | .agg cs=>om (mapO (frz h n) cs) fun cs=>.agg cs
  | .tup vs=>om (mapO (frz h n) vs) fun vs=>.tup vs
  | .bool b=>some (.bool b)
  | .int k x=>some (.int k x)
  | .str s=>some (.str s)
  | .nilp=>some .nilp
  | .nils=>some .nils
  | .nilm=>some .nilm
  | .nilf=>some .nilf
  | .ro z es ex=>some (.ro z es ex)
  | .rop cs=>some (.rop cs)
def frzDepth:Nat:=16
def reach (h:Heap):Nat→AV→List Nat
 | 0,_=>[]
 | n+1,v=>match v with
  | .ptr b i o=>b::(match get h b with
   | some (.cells _ es _)=>((es[i]?.getD []).drop o).flatMap (reach h n)
   | _=>[])
  | .sl b _ i len _ _=>b::(match get h b with
   | some (.cells _ es _)=>((es.drop i).take len).flatMap fun e=>e.flatMap (reach h n)
   | _=>[])
  | .fn _ caps=>caps.flatMap (reach h n)
  | .agg cs=>cs.flatMap (reach h n)
  | .tup vs=>vs.flatMap (reach h n)
  | _=>[]
def hasRef:Nat→AV→Bool
 | 0,_=>true
 | n+1,v=>match v with
  | .ro _ _ _=>true
  | .rop _=>true
  | .fn _ caps=>caps.any (hasRef n)
  | .agg cs=>cs.any (hasRef n)
  | .tup vs=>vs.any (hasRef n)
  | _=>false
def under (b0:Nat):Nat→AV→Bool
 | 0,_=>false
 | n+1,v=>match v with
  | .ptr b _ _=>decide (b < b0)
  | .sl b _ _ _ _ _=>decide (b < b0)
  | .map b=>decide (b < b0)
  | .fn _ caps=>caps.all (under b0 n)
  | .agg cs=>cs.all (under b0 n)
  | .tup vs=>vs.all (under b0 n)
  | _=>true
def AObj.under (b0:Nat):AObj→Bool
 | .cells _ es _=>es.all fun e=>e.all (Pav.under b0 frzDepth)
 | .map es=>es.all fun x=>Pav.under b0 frzDepth x.1&&Pav.under b0 frzDepth x.2
 | .iter _ _=>true
abbrev Upd:=List (Nat × Option AObj)
def updOne (h:Heap) (b:Nat):Option AObj→Heap
 | some o=>put h b o
 | none=>del h b
def applyUpd:Heap→Upd→Heap
 | h,[]=>h
 | h,(b,o)::r=>applyUpd (updOne h b o) r
def markFrozen (h:Heap):List Nat→Upd
 | []=>[]
 | b::r=>match get h b with
  | some (.cells z es _)=>(b,some (.cells z es false))::markFrozen h r
  | _=>markFrozen h r
def binInt (op:BinOp) (k:IntKind) (x y:Int):Option AV :=
 match op with
 | .add=>some (.int k (k.wrap (x+y)))
 | .sub=>some (.int k (k.wrap (x - y)))
 | .mul=>some (.int k (k.wrap (x * y)))
 | .quo=>if y=0 then none else some (.int k (k.wrap (x.tdiv y)))
 | .rem=>if y=0 then none else some (.int k (x.tmod y))
 | .and=>some (.int k (k.wrap (BitVec.ofInt k.bits x &&& BitVec.ofInt k.bits y).toNat))
 | .or=>some (.int k (k.wrap (BitVec.ofInt k.bits x ||| BitVec.ofInt k.bits y).toNat))
 | .xor=>some (.int k (k.wrap (BitVec.ofInt k.bits x ^^^ BitVec.ofInt k.bits y).toNat))
 | .andNot=>some (.int k (k.wrap (BitVec.ofInt k.bits x &&& ~~~ BitVec.ofInt k.bits y).toNat))
 | .eql=>some (.bool (x == y))
 | .neq=>some (.bool (x != y))
 | .lss=>some (.bool (x < y))
 | .leq=>some (.bool (x≤y))
 | .gtr=>some (.bool (x > y))
 | .geq=>some (.bool (x ≥ y))
 | .shl=>none
 | .shr=>none
def shiftInt (op:BinOp) (k:IntKind) (x:Int) (n:Nat):Option AV :=
 match op with
 | .shl=>some (.int k (k.wrap (x * 2 ^ (min n k.bits))))
 | .shr=>some (.int k (x.fdiv (2 ^ (min n k.bits))))
 | _=>none
def maxStr:Nat:=1099511627776
def binStr (op:BinOp) (x y:List UInt8):Option AV :=
 match op with
 | .add=>if x.length+y.length≤maxStr then some (.str (x++y)) else none
 | .eql=>some (.bool (x == y))
 | .neq=>some (.bool (!(x == y)))
 | .lss=>some (.bool (bytesLess x y))
 | .leq=>some (.bool (bytesLess x y||x == y))
 | .gtr=>some (.bool (!(bytesLess x y||x == y)))
 | .geq=>some (.bool (!bytesLess x y))
 | _=>none
def isShift:BinOp→Bool
 | .shl=>true
 | .shr=>true
 | _=>false
def evBin (op:BinOp) (x y:AV):Option AV :=
 match x,y with
 | .int k a,.int k' b=>if isShift op then ob (nat? b) (shiftInt op k a) else if k=k' then binInt op k a b else none
 | .str a,.str b=>binStr op a b
 | _,_=>none
def eqCell:AV→AV→Option Bool
 | .int k a,.int k' b=>if k=k' then some (a == b) else none
 | .str a,.str b=>some (a == b)
 | .bool a,.bool b=>some (a == b)
 | _,_=>none
def keyOk (kd:Nat):AV→Bool
 | .int _ _=>decide (kd=0)
 | .str _=>decide (kd=1)
 | .bool _=>decide (kd=2)
 | _=>false
def eqCells:List Nat→List AV→List AV→Option Bool
 | [],[],[]=>some true
 | k::ks,a::x,b::y=>if keyOk k a=true then ob (eqCell a b) fun r=>om (eqCells ks x y) fun s=>r&&s else none
 | _,_,_=>none
def eqSl:AV→AV→Option Bool
 | .nils,.nils=>some true
 | .nils,.ro _ _ _=>some false
 | .nils,.sl _ _ _ _ _ _=>some false
 | .ro _ _ _,.nils=>some false
 | .sl _ _ _ _ _ _,.nils=>some false
 | _,_=>none
def eqFn:AV→AV→Option Bool
 | .nilf,.nilf=>some true
 | .nilf,.fn f _=>if f < 1000000 then some false else none
 | .fn f _,.nilf=>if f < 1000000 then some false else none
 | _,_=>none
def eqIf:AV→AV→Option Bool
 | .fn f _,.fn g []=>if 1000000≤f∧g=1000000 then some (decide (f=1000000)) else none
 | _,_=>none
def eqPtr:AV→AV→Option Bool
 | .nilp,.nilp=>some true
 | .nilp,.ptr _ _ _=>some false
 | .ptr _ _ _,.nilp=>some false
 | .nilp,.rop _=>some false
 | .rop _,.nilp=>some false
 | _,_=>none
def eqMap:AV→AV→Option Bool
 | .nilm,.nilm=>some true
 | .nilm,.map _=>some false
 | .map _,.nilm=>some false
 | _,_=>none
def eqAgg (ks:List Nat):AV→AV→Option Bool
 | .agg x,.agg y=>eqCells ks x y
 | _,_=>none
def eqBool:AV→AV→Option Bool
 | .bool a,.bool b=>some (a == b)
 | _,_=>none
def eqVals (kd:Nat) (ks:List Nat) (x y:AV):Option Bool :=
 if kd=0 then eqSl x y else if kd=1 then eqFn x y else if kd=2 then eqPtr x y else if kd=3 then eqMap x y else if kd=4 then eqAgg ks x y else if kd=6 then eqIf x y else eqBool x y
def evUn (op:UnOp):AV→Option AV
 | .int k n=>match op with
  | .neg=>some (.int k (k.wrap (0 - n)))
  | .xor=>some (.int k (k.wrap (BitVec.ofInt k.bits (if k.signed then -1 else k.max) ^^^ BitVec.ofInt k.bits n).toNat))
  | _=>none
 | .bool b=>match op with
  | .not=>some (.bool (!b))
  | _=>none
 | _=>none
def splice (cs:List AV) (off:Nat) (v:List AV):List AV:=cs.take off++(v++cs.drop (off+v.length))
def fillC (e:Env):List AV→List (Nat × Nat × Opd)→Option (List AV)
 | cs,[]=>some cs
 | cs,(off,n,x)::r =>
  if (x.ev e).cells.length=n∧off+n≤cs.length∧(x.ev e).cells.all AV.cell=true then fillC e (splice cs off (x.ev e).cells) r else none
def fillS (e:Env) (z:Nat):List (List AV)→List (Nat × Opd)→Option (List (List AV))
 | es,[]=>some es
 | es,(i,x)::r =>
  if (x.ev e).cells.length=z∧i < es.length∧(x.ev e).cells.all AV.cell=true then fillS e z (es.set i (x.ev e).cells) r else none
def elems (h:Heap) (z:Nat):AV→Option (List (List AV))
 | .nils=>some []
 | .ro z' es _=>if z'=z then some es else none
 | .sl b z' i len _ _=>if z'=z then (match get h b with
  | some (.cells _ es _)=>if i+len≤es.length then some ((es.drop i).take len) else none
  | _=>none) else none
 | .str s=>if z=1 then some (s.map fun c=>[.int .u8 c.toNat]) else none
 | _=>none
def maxBytes:Nat:=35184372088832
def newRow (nid zl n bytes:Nat) (xs:List (List AV)):Option (AV × Upd) :=
 if n * (bytes+1)≤maxBytes then some (.sl nid zl 0 n n false,[(nid,some (.cells zl xs true))]) else none
def appSl (o:Option AObj) (nid zl bytes:Nat) (b i len cap:Nat) (ex:Bool) (xs:List (List AV)) (n:Nat):Option (AV × Upd) :=
 match o with
 | some (.cells zb es mu) =>
  if zb=zl then
   if n≤cap then
    if mu=true∧i+n≤es.length then some (.sl b zl i n cap ex,[(b,some (.cells zl (es.take (i+len)++(xs++es.drop (i+n))) true))]) else none
   else if ex then
    if i+len≤es.length then newRow nid zl n bytes ((es.drop i).take len++xs) else none
   else if mu=true∧i=0∧es.length=len∧n * (bytes+1)≤maxBytes then
    some (.sl nid zl 0 n n false,[(b,none),(nid,some (.cells zl (es++xs) true))])
   else none
  else none
 | _=>none
def evApp (h:Heap) (nid zl bytes:Nat) (s:AV) (xs:List (List AV)):Option (AV × Upd) :=
 match s with
 | .nils=>match xs with
  | []=>some (.nils,[])
  | _=>newRow nid zl xs.length bytes xs
 | .ro z' es ex=>if z'=zl then (match xs with
  | []=>some (s,[])
  | _=>if ex then newRow nid zl (es.length+xs.length) bytes (es++xs) else none) else none
 | .sl b z' i len cap ex=>if z'=zl then (match xs with
  | []=>some (s,[])
  | _=>appSl (get h b) nid zl bytes b i len cap ex xs (len+xs.length)) else none
 | _=>none
def bound (v:Option AV) (d:Nat):Option Nat :=
 match v with
 | none=>some d
 | some (.int _ n)=>nat? n
 | some _=>none
def sliceStr (s:List UInt8) (lo hi mx:Option AV):Option AV :=
 match mx with
 | none=>ob (bound hi s.length) fun h=>ob (bound lo 0) fun l =>
  if l≤h∧h≤s.length then some (.str ((s.take h).drop l)) else none
 | some _=>none
def sliceNil (lo hi mx:Option AV):Option AV :=
 ob (bound mx 0) fun m=>ob (bound hi 0) fun h=>ob (bound lo 0) fun l =>
  if l=0∧h=0∧m=0∧¬(mx.isSome=true∧hi.isNone=true) then some .nils else none
def sliceRo (z:Nat) (es:List (List AV)) (ex:Bool) (lo hi mx:Option AV):Option AV :=
 match mx with
 | none=>ob (bound hi es.length) fun h=>ob (bound lo 0) fun l =>
  if l≤h∧h≤es.length then some (.ro z ((es.take h).drop l) (ex&&decide (h=es.length))) else none
 | some m=>ob (bound (some m) 0) fun m=>ob hi fun h=>ob (bound (some h) 0) fun h=>ob (bound lo 0) fun l =>
  if l≤h∧h≤m∧m≤es.length then some (.ro z ((es.take h).drop l) (decide (m=h))) else none
def sliceSl (b z i len cap:Nat) (ex:Bool) (lo hi mx:Option AV):Option AV :=
 match mx with
 | none=>ob (bound hi len) fun h=>ob (bound lo 0) fun l =>
  if l≤h∧h≤cap∧len≤cap then
   if l < cap then some (.sl b z (i+l) (h - l) (cap - l) ex)
   else if l=0 then some (.sl b z i h cap ex) else some (.ro z [] ex)
  else none
 | some m=>ob (bound (some m) 0) fun m=>ob hi fun h=>ob (bound (some h) 0) fun h=>ob (bound lo 0) fun l =>
  if l≤h∧h≤m∧m≤cap then
   if l < m then some (.sl b z (i+l) (h - l) (m - l) true) else some (.sl b z i 0 0 true)
  else none
def evSlice (k:Nat) (x:AV) (lo hi mx:Option AV):Option AV :=
 match x with
 | .str s=>if k=0 then sliceStr s lo hi mx else none
 | .nils=>if k=0 then none else sliceNil lo hi mx
 | .ro z es ex=>if k≠0∧z=k then sliceRo z es ex lo hi mx else none
 | .sl b z i len cap ex=>if k≠0∧z=k then sliceSl b z i len cap ex lo hi mx else none
 | _=>none
def isLeaf:AV→Bool
 | .bool _=>true
 | .int _ _=>true
 | .str _=>true
 | _=>false
def sliceArr (n:Nat) (cs:List AV) (lo hi:Option AV):Option AV :=
 if n≤cs.length∧(cs.take n).all isLeaf=true then sliceRo 1 ((cs.take n).map fun x=>[x]) true lo hi none else none
def sliceAt (n b i o:Nat) (lo hi:Option AV):Option AObj→Option (AV × Upd)
 | some (.cells z es _)=>ob es[i]? fun cs=>om (sliceArr n (cs.drop o) lo hi) fun r=>(r,[(b,some (.cells z es false))])
 | _=>none
def evSliceA (h:Heap) (n:Nat) (v:AV) (lo hi:Option AV):Option (AV × Upd) :=
 match v with
 | .rop cs=>om (sliceArr n cs lo hi) fun r=>(r,[])
 | .ptr b i o=>sliceAt n b i o lo hi (get h b)
 | _=>none
def mapGet:List (AV × AV)→AV→Option (Option AV)
 | [],_=>some none
 | (k,v)::r,x=>ob (eqCell x k) fun c=>if c then some (some v) else mapGet r x
def mapPut:List (AV × AV)→AV→AV→Option (List (AV × AV))
 | [],x,w=>some [(x,w)]
 | (k,v)::r,x,w=>ob (eqCell x k) fun c=>if c then some ((x,w)::r) else om (mapPut r x w) fun l=>(k,v)::l
def loadC (n:Nat) (ag:Bool) (cs:List AV):Option AV :=
 if ag then (if n≤cs.length then some (.agg (cs.take n)) else none) else cs.head?
def ov (x:Option AV):Option (AV × Upd):=om x fun v=>(v,[])
abbrev Step:=Env→Heap→Nat→Option (AV × Upd)
def sMv (x:Opd):Step:=fun e _ _=>some (x.ev e,[])
def sPick (c a b:Opd):Step:=fun e _ _=>match c.ev e with
 | .bool t=>some (if t then a.ev e else b.ev e,[])
 | _=>none
def sAlloc (z:List AV):Step:=fun _ _ nid=>some (.ptr nid 0 0,[(nid,some (.cells z.length [z] true))])
def boxed (cs:List AV) (nid:Nat):Option (AV × Upd):=if cs.all AV.cell=true then some (.ptr nid 0 0,[(nid,some (.cells cs.length [cs] true))]) else none
def sBox (x:Opd):Step:=fun e _ nid=>boxed (x.ev e).cells nid
def sBuild (z:List AV) (ps:List (Nat × Nat × Opd)):Step:=fun e _ _=>om (fillC e z ps) fun cs=>(.agg cs,[])
def sBuildS (z:List AV) (len:Nat) (ps:List (Nat × Opd)):Step:=fun e _ nid =>
 om (fillS e z.length (List.replicate len z) ps) fun es=>(.sl nid z.length 0 len len true,[(nid,some (.cells z.length es true))])
def loadAt (n:Nat) (ag:Bool) (o i:Nat):Option AObj→Option AV
 | some (.cells _ es _)=>ob es[i]? fun cs=>loadC n ag (cs.drop o)
 | _=>none
def loadOf (n:Nat) (ag:Bool) (h:Heap):AV→Option AV
 | .rop cs=>loadC n ag cs
 | .ptr b i o=>loadAt n ag o i (get h b)
 | _=>none
def sLoad (n:Nat) (ag:Bool) (a:Opd):Step:=fun e h _=>ov (loadOf n ag h (a.ev e))
def storeAt (n b i o:Nat) (v:List AV):Option AObj→Option (AV × Upd)
 | some (.cells z es mu)=>if mu then ob es[i]? fun cs=>if o+n≤cs.length then some (.tup [],[(b,some (.cells z (es.set i (splice cs o v)) true))]) else none else none
 | _=>none
def storeOf (n:Nat) (h:Heap) (v:List AV):AV→Option (AV × Upd)
 | .ptr b i o=>storeAt n b i o v (get h b)
 | _=>none
def sStore (n:Nat) (a x:Opd):Step:=fun e h _ =>
 if (x.ev e).cells.length=n∧(x.ev e).cells.all AV.cell=true then storeOf n h (x.ev e).cells (a.ev e) else none
def sNilchk (x:Opd):Step:=fun e _ _=>match x.ev e with
 | .ptr b i o=>some (.ptr b i o,[])
 | .rop cs=>some (.rop cs,[])
 | .fn f cs=>if f < 1000000 then some (.fn f cs,[]) else none
 | _=>none
def sBin (op:BinOp) (x y:Opd):Step:=fun e _ _=>ov (evBin op (x.ev e) (y.ev e))
def sEqv (kd:Nat) (ks:List Nat) (ne:Bool) (x y:Opd):Step:=fun e _ _=>om (eqVals kd ks (x.ev e) (y.ev e)) fun b=>(.bool (b != ne),[])
def sUn (op:UnOp) (x:Opd):Step:=fun e _ _=>ov (evUn op (x.ev e))
def sCvt (k:IntKind) (x:Opd):Step:=fun e _ _=>match x.ev e with
 | .int _ n=>some (.int k (k.wrap n),[])
 | _=>none
def bytesOf:List (List AV)→Option (List UInt8)
 | []=>some []
 | e::r=>match e with
  | [.int .u8 n]=>om (bytesOf r) fun s=>UInt8.ofNat n.toNat::s
  | _=>none
def evCvb:AV→Option AV
 | .nils=>some (.str [])
 | .ro z es _=>if z=1 then om (bytesOf es) fun s=>.str s else none
 | _=>none
def sCvb (x:Opd):Step:=fun e _ _=>ov (evCvb (x.ev e))
def sCvs (x:Opd):Step:=fun e _ _=>match x.ev e with
 | .str s=>some (.str s,[])
 | _=>none
def AV.isAg:AV→Bool
 | .agg _=>true
 | _=>false
def sMkfn (f:Nat) (caps:List Opd):Step:=fun e _ _ =>
 if (caps.all fun x=>(x.ev e).cell||(decide (1000000 < f)&&(x.ev e).isAg))=true then some (.fn f (caps.map fun x=>x.ev e),[]) else none
def sMkmap:Step:=fun _ _ nid=>some (.map nid,[(nid,some (.map []))])
def sMksl (z:List AV) (bytes:Nat) (l c:Opd):Step:=fun e _ nid=>match l.ev e,c.ev e with
 | .int _ l,.int _ c=>ob (nat? l) fun l=>ob (nat? c) fun c =>
  if l≤c∧c * (bytes+1)≤maxBytes then some (.sl nid z.length 0 l c true,[(nid,some (.cells z.length (List.replicate c z) true))]) else none
 | _,_=>none
def oev (e:Env):Option Opd→Option AV
 | some x=>some (x.ev e)
 | none=>none
def sSliceA (n:Nat) (x:Opd) (lo hi:Option Opd):Step:=fun e h _=>evSliceA h n (x.ev e) (oev e lo) (oev e hi)
def sSlice (z:Nat) (x:Opd) (lo hi mx:Option Opd):Step:=fun e _ _=>ov (evSlice z (x.ev e) (oev e lo) (oev e hi) (oev e mx))
def sFld (off:Nat) (x:Opd):Step:=fun e _ _=>match x.ev e with
 | .rop cs=>some (.rop (cs.drop off),[])
 | .ptr b i o=>some (.ptr b i (o+off),[])
 | _=>none
def sFldv (off n:Nat) (ag:Bool) (x:Opd):Step:=fun e _ _=>match x.ev e with
 | .agg cs=>ov (loadC n ag (cs.drop off))
 | _=>none
def idxsAt (z n:Nat):AV→Option (AV × Upd)
 | .ro z' es _=>if z'=z then ob es[n]? fun cs=>some (.rop cs,[]) else none
 | .sl b z' j len _ _=>if z'=z∧n < len then some (.ptr b (j+n) 0,[]) else none
 | _=>none
def sIdxs (z:Nat) (x i:Opd):Step:=fun e _ _=>match i.ev e with
 | .int _ n=>ob (nat? n) fun n=>idxsAt z n (x.ev e)
 | _=>none
def idxaAt (z n:Nat):AV→Option (AV × Upd)
 | .rop cs=>some (.rop (cs.drop (n * z)),[])
 | .ptr b j o=>some (.ptr b j (o+n * z),[])
 | _=>none
def sIdxa (len z:Nat) (x i:Opd):Step:=fun e _ _=>match i.ev e with
 | .int _ n=>ob (nat? n) fun n=>if n < len then idxaAt z n (x.ev e) else none
 | _=>none
def sIdxstr (x i:Opd):Step:=fun e _ _=>match x.ev e,i.ev e with
 | .str s,.int _ n=>ob (nat? n) fun n=>ob s[n]? fun c=>some (.int .u8 c.toNat,[])
 | _,_=>none
def sIdxv (len z:Nat) (ag:Bool) (x i:Opd):Step:=fun e _ _=>match x.ev e,i.ev e with
 | .agg cs,.int _ n=>ob (nat? n) fun n=>if n < len then ov (loadC z ag (cs.drop (n * z))) else none
 | _,_=>none
def found (z:AV) (ok:Bool) (r:Option AV):AV :=
 if ok then .tup [r.getD z,.bool r.isSome] else r.getD z
def lookIn (z:AV) (ok:Bool) (k:AV):Option AObj→Option AV
 | some (.map es)=>om (mapGet es k) (found z ok)
 | _=>none
def sLook (kd:Nat) (z:AV) (ok:Bool) (m k:Opd):Step:=fun e h _=>if keyOk kd (k.ev e)=true then (match m.ev e with
 | .nilm=>some (found z ok none,[])
 | .map b=>ov (lookIn z ok (k.ev e) (get h b))
 | _=>none) else none
def updIn (b:Nat) (k v:AV):Option AObj→Option (AV × Upd)
 | some (.map es)=>om (mapPut es k v) fun es'=>(.tup [],[(b,some (.map es'))])
 | _=>none
def sUpd (kd:Nat) (m k v:Opd):Step:=fun e h _=>if keyOk kd (k.ev e)=true then (match m.ev e with
 | .map b=>updIn b (k.ev e) (v.ev e) (get h b)
 | _=>none) else none
def sRange (x:Opd):Step:=fun e _ nid=>match x.ev e with
 | .str s=>some (.ptr nid 0 0,[(nid,some (.iter s 0))])
 | _=>none
def nextIter (b:Nat):Option AObj→Option (AV × Upd)
 | some (.iter s pos)=>if pos < s.length then
  some (.tup [.bool true,.int .i64 pos,.int .i32 (Utf8.decode ⟨⟨s⟩⟩ pos).1],[(b,some (.iter s (pos+(Utf8.decode ⟨⟨s⟩⟩ pos).2)))])
  else some (.tup [.bool false],[])
 | _=>none
def sNext (x:Opd):Step:=fun e h _=>match x.ev e with
 | .ptr b 0 0=>nextIter b (get h b)
 | _=>none
def sExt (i:Nat) (x:Opd):Step:=fun e _ _=>match x.ev e with
 | .tup vs=>ov vs[i]?
 | .fn f vs=>if 1000000 < f∧i=f then ov vs.head? else none
 | _=>none
def lenMap:Option AObj→Option AV
 | some (.map es)=>some (.int .i64 es.length)
 | _=>none
def evLen (kd:Nat) (h:Heap):AV→Option AV
 | .str s=>if kd=0 then some (.int .i64 s.length) else none
 | .nils=>if kd=1 then some (.int .i64 0) else none
 | .ro _ es _=>if kd=1 then some (.int .i64 es.length) else none
 | .sl _ _ _ len _ _=>if kd=1 then some (.int .i64 len) else none
 | .nilm=>if kd=2 then some (.int .i64 0) else none
 | .map b=>if kd=2 then lenMap (get h b) else none
 | _=>none
def sLen (kd:Nat) (x:Opd):Step:=fun e h _=>ov (evLen kd h (x.ev e))
def evCap:AV→Option AV
 | .nils=>some (.int .i64 0)
 | .ro _ es ex=>if ex then some (.int .i64 es.length) else none
 | .sl _ _ _ _ c ex=>if ex then some (.int .i64 c) else none
 | _=>none
def sCap (x:Opd):Step:=fun e _ _=>ov (evCap (x.ev e))
def flat:AV→Bool
 | .bool _=>true
 | .int _ _=>true
 | .str _=>true
 | .nilp=>true
 | .nils=>true
 | .nilm=>true
 | .nilf=>true
 | .ro _ _ _=>true
 | .rop _=>true
 | _=>false
abbrev frzBytes:Nat:=1125899906842624
def frzApp (h:Heap) (zl bytes:Nat) (xs:List (List AV)):AV→Option (AV × Upd)
 | .sl b z' i len _ ex=>match get h b with
  | some (.cells zb es mu)=>if z'=zl∧zb=zl∧i=0∧mu=true∧es.length=len∧(es.length+xs.length) * (bytes+1)≤maxBytes∧(es++xs).all (fun e=>e.all flat)=true then some (.ro zl (es++xs) false,[(b,some (.cells zl es false))]) else none
  | _=>none
 | _=>none
def sApp (z:List AV) (bytes:Nat) (zeros:Bool) (s x:Opd):Step:=fun e h nid =>
 if zeros then (match x.ev e with
  | .int _ n=>ob (nat? n) fun n=>if n * (bytes+1)≤maxBytes then evApp h nid z.length bytes (s.ev e) (List.replicate n z) else none
  | _=>none)
 else if bytes < frzBytes then ob (elems h z.length (x.ev e)) fun xs=>evApp h nid z.length bytes (s.ev e) xs
 else ob (elems h z.length (x.ev e)) fun xs=>frzApp h z.length (bytes - frzBytes) xs (s.ev e)
def copyTo (z b i len:Nat) (xs:List (List AV)) (n:Nat):Option AObj→Option (AV × Upd)
 | some (.cells zb es mu)=>if mu=true∧zb=z∧i+len≤es.length then
  some (.int .i64 n,[(b,some (.cells z (es.take i++(xs.take n++es.drop (i+n))) true))]) else none
 | _=>none
def copyIn (h:Heap) (z:Nat) (xs:List (List AV)):AV→Option (AV × Upd)
 | .nils=>some (.int .i64 0,[])
 | .ro _ [] _=>some (.int .i64 0,[])
 | .sl b z' i len _ _=>if z'=z then
  if min xs.length len=0 then some (.int .i64 0,[]) else copyTo z b i len xs (min xs.length len) (get h b)
  else none
 | _=>none
def sCpy (z:Nat) (d s:Opd):Step:=fun e h _=>ob (elems h z (s.ev e)) fun xs=>copyIn h z xs (d.ev e)
def clrTo (z:List AV) (b i len:Nat):Option AObj→Option (AV × Upd)
 | some (.cells zb es mu)=>if mu=true∧zb=z.length∧i+len≤es.length then
  some (.tup [],[(b,some (.cells z.length (es.take i++(List.replicate len z++es.drop (i+len))) true))]) else none
 | _=>none
def clrIn (h:Heap) (z:List AV):AV→Option (AV × Upd)
 | .nils=>some (.tup [],[])
 | .ro _ [] _=>some (.tup [],[])
 | .sl b z' i len _ _=>if z'=z.length then
  if len=0 then some (.tup [],[]) else clrTo z b i len (get h b)
  else none
 | _=>none
def sClr (z:List AV) (d:Opd):Step:=fun e h _=>clrIn h z (d.ev e)
def sMx (x y:Opd):Step:=fun e _ _=>match x.ev e,y.ev e with
 | .int k a,.int k' b=>if k=k' then some (.int k (if b > a then b else a),[]) else none
 | _,_=>none
def sMn (x y:Opd):Step:=fun e _ _=>match x.ev e,y.ev e with
 | .int k a,.int k' b=>if k=k' then some (.int k (if b < a then b else a),[]) else none
 | _,_=>none
def sNone:Step:=fun _ _ _=>none
def stepOp (op:COp):Step :=
 match op with
 | .mv x=>sMv x
 | .pick c a b=>sPick c a b
 | .alloc z=>sAlloc z
 | .box x=>sBox x
 | .build z ps=>sBuild z ps
 | .buildS z len ps=>sBuildS z len ps
 | .load n ag a=>sLoad n ag a
 | .store n a x=>sStore n a x
 | .nilchk x=>sNilchk x
 | .bin op x y=>sBin op x y
 | .eqv kd ks ne x y=>sEqv kd ks ne x y
 | .un op x=>sUn op x
 | .cvt k x=>sCvt k x
 | .cvs x=>sCvs x
 | .cvb x=>sCvb x
 | .mkfn f caps=>sMkfn f caps
 | .mkmap=>sMkmap
 | .mksl z bytes l c=>sMksl z bytes l c
 | .slice z x lo hi mx=>sSlice z x lo hi mx
 | .sliceA n x lo hi=>sSliceA n x lo hi
 | .fld off x=>sFld off x
 | .fldv off n ag x=>sFldv off n ag x
 | .idxs z x i=>sIdxs z x i
 | .idxa len z x i=>sIdxa len z x i
 | .idxstr x i=>sIdxstr x i
 | .idxv len z ag x i=>sIdxv len z ag x i
 | .look kd z ok m k=>sLook kd z ok m k
 | .upd kd m k v=>sUpd kd m k v
 | .range x=>sRange x
 | .next x=>sNext x
 | .ext i x=>sExt i x
 | .len kd x=>sLen kd x
 | .cap x=>sCap x
 | .app z bytes zeros s x=>sApp z bytes zeros s x
 | .cpy z d s=>sCpy z d s
 | .clr z d=>sClr z d
 | .mx x y=>sMx x y
 | .mn x y=>sMn x y
 | .call _ _=>sNone
 | .callv _ _=>sNone
 | .fail=>sNone
def COp.makes:COp→Bool
 | .alloc _=>true
 | .box _=>true
 | .buildS _ _ _=>true
 | .mkmap=>true
 | .mksl _ _ _ _=>true
 | .range _=>true
 | .app _ _ _ _ _=>true
 | _=>false
inductive Ex where
 | norm
 | exit (id:Nat)
 | ret
 deriving Inhabited
structure St where
 env:Env
 heap:Heap
 next:Nat
 deriving Inhabited
abbrev Run:=Nat→List AV→Heap→Nat→Option (AV × Heap × Nat)
def pureCall (run:Run) (f:Nat) (args:List AV):Option AV :=
 ob (run f args [] 0) fun r=>frz r.2.1 frzDepth r.1
def tidy (_:Nat) (r:AV × Heap × Nat):AV × Heap × Nat:=r
def inlineCall (run:Run) (f:Nat) (args:List AV) (h:Heap) (n:Nat):Option (AV × Heap × Nat) :=
 om (run f args h n) (tidy n)
def marks (h:Heap) (args:List AV) (v:AV):Upd :=
 if hasRef frzDepth v then markFrozen h (args.flatMap (reach h frzDepth)) else []
inductive Called where
 | data (v:AV) (u:Upd)
 | whole (v:AV) (h:Heap) (n:Nat)
 | deep (v:AV) (u:Upd) (n:Nat)
mutual
/-- Does it hold a pointer or a map? -/
def hasPtr:AV→Bool
 | .ptr _ _ _=>true
 | .map _=>true
 | .fn _ cs=>hasPtrL cs
 | .agg cs=>hasPtrL cs
 | .tup cs=>hasPtrL cs
 | _=>false
def hasPtrL:List AV→Bool
 | []=>false
 | v::r=>hasPtr v||hasPtrL r
end
def isFr (f:Nat):Bool:=decide (3000≤f)
def isDp (f:Nat):Bool:=decide (5000≤f)
def ups (n n1:Nat) (h:Heap):Upd:=((h.filter fun x=>decide (n≤x.1∧x.1 < n1)).map fun x=>(x.1,some x.2)).reverse
def plainC:AV→Bool
 | .bool _=>true
 | .int _ _=>true
 | .str _=>true
 | .nilp=>true
 | .nils=>true
 | .nilm=>true
 | .nilf=>true
 | .ro _ _ _=>true
 | .rop _=>true
 | .fn _ []=>true
 | _=>false
mutual
/-- The first block that a value names. -/
def ownOf:AV→Option Nat
 | .ptr b _ _=>some b
 | .sl b _ _ _ _ _=>some b
 | .map b=>some b
 | .fn _ cs=>ownOfL cs
 | .agg cs=>ownOfL cs
 | .tup cs=>ownOfL cs
 | _=>none
def ownOfL:List AV→Option Nat
 | []=>none
 | v::r=>match ownOf v with
  | some b=>some b
  | none=>ownOfL r
end
mutual
/-- A value that names one block alone, under another number. -/
def hand (b nid:Nat):AV→Option AV
 | .undef=>none
 | .ptr c i o=>if c=b then some (.ptr nid i o) else none
 | .sl c z i l k ex=>if c=b then some (.sl nid z i l k ex) else none
 | .map _=>none
 | .fn f cs=>om (handL b nid cs) fun cs=>.fn f cs
 | .agg cs=>om (handL b nid cs) fun cs=>.agg cs
 | .tup cs=>om (handL b nid cs) fun cs=>.tup cs
 | v=>some v
def handL (b nid:Nat):List AV→Option (List AV)
 | []=>some []
 | v::r=>ob (hand b nid v) fun v=>om (handL b nid r) fun r=>v::r
end
def freshOf (nid:Nat) (v:AV) (b:Nat):Option AObj→Option (AV × Upd)
 | some (.cells z es mu)=>if (mu&&es.all fun e=>e.all plainC)=true then om (hand b nid v) fun v=>(v,[(nid,some (.cells z es true))]) else none
 | _=>none
def freshCall (run:Run) (f:Nat) (args:List AV) (nid:Nat):Option (AV × Upd) :=
 ob (run f args [] 0) fun r=>match ownOf r.1 with
  | none=>om (hand r.2.2 0 r.1) fun v=>(v,[])
  | some b=>freshOf nid r.1 b (get r.2.1 b)
mutual
/-- A value that names no read-only memory. -/
def bareV:AV→Bool
 | .undef=>false
 | .ro _ es ex=>es.isEmpty&&ex
 | .rop _=>false
 | .fn _ cs=>bareL cs
 | .agg cs=>bareL cs
 | .tup cs=>bareL cs
 | _=>true
def bareL:List AV→Bool
 | []=>true
 | v::r=>bareV v&&bareL r
end
def bareO:Option AObj→Bool
 | some (.cells _ es _)=>es.all bareL
 | _=>false
def bareX (x:AV × Upd):Bool:=bareV x.1&&x.2.all fun y=>bareO y.2
def isBr (f:Nat):Bool:=decide (4000≤f)
def freshU (f:Nat) (u:Upd):Upd:=if isBr f=true then [] else u
def freshEnd (f:Nat) (u:Upd) (x:AV × Upd):Option Called :=
 if (isBr f&&!bareX x)=true then none else some (.data x.1 (freshU f u++x.2))
mutual
/-- A value that names no read-only memory, and of blocks only those of a list. -/
def keptV (L:List Nat):AV→Bool
 | .undef=>false
 | .ro _ es ex=>es.isEmpty&&ex
 | .rop _=>false
 | .ptr b _ _=>L.contains b
 | .sl b _ _ _ _ _=>L.contains b
 | .map _=>false
 | .fn _ cs=>keptL L cs
 | .agg cs=>keptL L cs
 | .tup cs=>keptL L cs
 | _=>true
def keptL (L:List Nat):List AV→Bool
 | []=>true
 | v::r=>keptV L v&&keptL L r
end
def keptO (L:List Nat):Option AObj→Bool
 | some (.cells _ es mu)=>mu&&es.all (keptL L)
 | _=>false
def keptX (h:Heap) (v:AV) (L:List Nat):Bool:=keptV L v&&L.all fun b=>keptO L (get h b)
def isDb (f:Nat):Bool:=decide (6000≤f)
def deepU (f:Nat) (u:Upd):Upd:=if isDb f=true then [] else u
def deepKeep (f:Nat) (h:Heap) (v:AV):Option Heap :=
 if isDb f=true then (if keptX h v (reach h frzDepth v)=true then some (h.filter fun x=>(reach h frzDepth v).contains x.1) else none) else some h
def deepCall (run:Run) (f:Nat) (args:List AV) (n:Nat):Option (AV × Upd × Nat):=ob (run f args [] n) fun r=>om (deepKeep f r.2.1 r.1) fun hk=>(r.1,ups n r.2.2 hk,r.2.2)
def evCall (C:Prog) (run:Run) (f:Nat) (args:List AV) (h:Heap) (nid n:Nat):Option Called :=
 match (if (C.inl f||(!C.pp f&&hasPtrL args))=true then none else mapO (frz h frzDepth) args) with
 | some az=>om (pureCall run f az) fun v=>.data v (marks h args v)
 | none=>if (C.inl f&&isDp f)=true then ob (mapO (frz h frzDepth) args) fun az=>om (deepCall run f az n) fun x=>.deep x.1 (deepU f (markFrozen h (args.flatMap (reach h frzDepth)))++x.2.1) x.2.2
  else if (C.inl f&&isFr f)=true then ob (mapO (frz h frzDepth) args) fun az=>ob (freshCall run f az nid) (freshEnd f (markFrozen h (args.flatMap (reach h frzDepth))))
  else om (inlineCall run f args h n) fun r=>.whole r.1 r.2.1 r.2.2
def setDst (e:Env) (d:Option Nat) (v:AV):Env :=
 match d with
 | some d=>put e d v
 | none=>e
def wants (e:Env):Option (Nat × Bool)→Option Bool
 | none=>some true
 | some (s,want)=>match get e s with
  | some (.bool b)=>some (b == want)
  | some (.tup [])=>some false
  | _=>none
def callOf (e:Env):COp→Option (Option (Nat × List AV))
 | .call f args=>some (some (f,args.map fun x=>x.ev e))
 | .callv g args=>match g.ev e with
  | .fn f caps=>some (some (f,args.map (fun x=>x.ev e)++caps))
  | _=>none
 | _=>some none
structure Did where
 v:AV
 h:Heap
 n:Nat
 bar:Bool
 rd:List Nat
 wr:List Nat
def ptrId:AV→List Nat
 | .ptr b _ _=>[b]
 | .sl b _ _ _ _ _=>[b]
 | .map b=>[b]
 | _=>[]
def readsOf (e:Env):COp→List Nat
 | .load _ _ a=>ptrId (a.ev e)
 | .sliceA _ x _ _=>ptrId (x.ev e)
 | .store _ a _=>ptrId (a.ev e)
 | .app _ _ _ s x=>ptrId (s.ev e)++ptrId (x.ev e)
 | .cpy _ d x=>ptrId (d.ev e)++ptrId (x.ev e)
 | .clr _ d=>ptrId (d.ev e)
 | .look _ _ _ m _=>ptrId (m.ev e)
 | .upd _ m _ _=>ptrId (m.ev e)
 | .len _ m=>ptrId (m.ev e)
 | .next x=>ptrId (x.ev e)
 | _=>[]
def doneCall (h:Heap) (n:Nat) (args:List AV):Called→Did
 | .data v u=>⟨v,applyUpd h u,n,false,args.flatMap (reach h frzDepth),u.map (·.1)⟩
 | .whole v h' n'=>⟨v,h',n',true,[],[]⟩
 | .deep v u n'=>⟨v,applyUpd h u,n',false,args.flatMap (reach h frzDepth),u.map (·.1)⟩
def evAct (C:Prog) (run:Run) (op:COp) (nid:Nat) (e:Env) (h:Heap) (n:Nat):Option Did :=
 match callOf e op with
 | none=>none
 | some (some (f,args))=>om (evCall C run f args h nid n) (doneCall h n args)
 | some none=>om (stepOp op e h nid) fun x=>⟨x.1,applyUpd h x.2,n,false,readsOf e op,x.2.map (·.1)⟩
def evOp (C:Prog) (run:Run) (o:COper) (nid:Nat) (e:Env) (h:Heap) (n:Nat):Option Did :=
 match wants e o.guard with
 | none=>none
 | some false=>some ⟨.tup [],h,n,false,[],[]⟩
 | some true=>evAct C run o.op nid e h n
def evOps (C:Prog) (run:Run):List COper→St→Option St
 | [],s=>some s
 | o::r,s=>ob (evOp C run o s.next s.env s.heap (s.next+1)) fun d=>evOps C run r ⟨setDst s.env o.dst d.v,d.h,d.n⟩
def meets (a b:List Nat):Bool:=a.any fun x=>b.any fun y=>decide (x=y)
def quiet (d:Did):Bool:=!d.bar&&(d.wr.isEmpty&&d.rd.isEmpty)
def clash (a b:Did):Bool:=!(quiet a||quiet b)&&(a.bar||(b.bar||(meets a.wr b.wr||(meets a.wr b.rd||meets a.rd b.wr))))
def evDraw (C:Prog) (run:Run):List COper→Nat→St→List Did→Option (St × List Did)
 | [],_,s,ds=>some (s,ds)
 | o::r,nid,s,ds=>ob (evOp C run o nid s.env s.heap s.next) fun d=>evDraw C run r (nid+1) ⟨setDst s.env o.dst d.v,d.h,d.n⟩ (ds++[d])
def apart (ds:List Did) (p:Nat × Nat):Bool :=
 match ds[p.1]?,ds[p.2]? with
 | some a,some b=>!clash a b
 | _,_=>false
def argEnv:Nat→List AV→Env
 | _,[]=>[]
 | k,v::r=>(k,v)::argEnv (k+1) r
def resOf (e:Env) (h:Heap):CRes→Option AV
 | .tmp t=>get e t
 | .cell t n ag=>match get e t with
  | some (.ptr b i o)=>loadAt n ag o i (get h b)
  | _=>none
def tupled:List AV→AV
 | [v]=>v
 | vs=>.tup vs
def results (e:Env) (h:Heap) (rs:List CRes):Option AV:=om (mapO (resOf e h) rs) tupled
def fnEnd (fn:CFn) (r:Ex × St):Option (AV × Heap × Nat) :=
 match r.1 with
 | .exit _=>none
 | _=>om (results r.2.env r.2.heap fn.res) fun v=>(v,r.2.heap,r.2.next)
def runWith (C:Prog) (ev:CCode→St→Option (Ex × St)):Run:=fun f args h n =>
 ob (C.fns.get f) fun fn=>if args.length=fn.np then ob (ev fn.body ⟨argEnv 0 args,h,n⟩) (fnEnd fn) else none
def dropEnv (live:Nat) (s:St):St:=⟨if live=0 then s.env else Pav.keep live s.env,s.heap,s.next⟩
def evSeq (b:St→Option (Ex × St)) (r:Ex × St):Option (Ex × St) :=
 match r.1 with
 | .norm=>b r.2
 | _=>some r
def evBlock (id:Nat) (r:Ex × St):Ex × St :=
 match r.1 with
 | .exit i=>if i=id then (.norm,r.2) else r
 | _=>r
def evCond (a b:St→Option (Ex × St)) (v:AV) (s:St):Option (Ex × St) :=
 match v with
 | .bool t=>if t then a s else b s
 | _=>none
def frzSlot (k:Nat) (s:St):Option St :=
 ob (get s.env k) fun v=>om (frz s.heap frzDepth v) fun v'=>⟨setDst s.env (some k) v',applyUpd s.heap (markFrozen s.heap (reach s.heap frzDepth v)),s.next⟩
def frzSlots:List Nat→St→Option St
 | [],s=>some s
 | k::r,s=>ob (frzSlot k s) (frzSlots r)
def endOps (live:Nat × List Nat) (s:St):Option St:=om (frzSlots live.2 s) (dropEnv live.1)
def drawEnd (un:List (Nat × Nat)) (live:Nat × List Nat) (r:St × List Did):Option (Ex × St) :=
 if un.all (apart r.2)=true then om (endOps live r.1) fun s=>(.norm,s) else none
def markRow:List AV→Bool
 | [.str _]=>true
 | _=>false
def marksOk:AV→Bool
 | .nils=>true
 | .ro z es _=>decide (z=1)&&es.all markRow
 | _=>false
def rowKey:List AV→Option Int
 | [.int .u64 k,.int .u8 _,.str _,m,.int .i64 _,.bool _]=>if marksOk m=true then some k else none
 | _=>none
def aftKeys:AV→Option (List Int)
 | .agg [.nils]=>some []
 | .agg [.ro z es _]=>if z=6∧es.length≤1000000 then mapO rowKey es else none
 | _=>none
def idxK (k:Int):Nat→List Int→Option Nat
 | _,[]=>none
 | i,x::r=>if x=k then some i else idxK k (i+1) r
def hasK (l:List Int) (k:Int):Bool:=l.any fun x=>decide (x=k)
def firstK (l:List Int):Int:=match l with
 | []=>0
 | x::_=>x
def aftF (kb kn:List Int) (k d:Int):Int × Int :=
 if k=0 then (firstK kn,0) else if hasK kn k=true then (k,d) else match idxK k 0 kb with
  | none=>(firstK kn,0)
  | some i=>match (kb.drop (i+1)++(kb.take i).reverse).find? (hasK kn) with
   | some x=>(x,0)
   | none=>(firstK kn,0)
def primAfter:List AV→Option AV
 | [b,n,.agg [.int .u64 k,.int .i64 d]]=>ob (aftKeys b) fun kb=>om (aftKeys n) fun kn=>.agg [.int .u64 (aftF kb kn k d).1,.int .i64 (aftF kb kn k d).2]
 | _=>none
mutual
/-- The same value, made of numbers, truth values, frozen memory and functions alone. -/
def same:AV→AV→Bool
 | .nilp,.nilp=>true
 | .bool b,.bool c=>decide (b=c)
 | .int k n,.int k' n'=>decide (k=k')&&decide (n=n')
 | .rop a,.rop b=>sameL a b
 | .agg a,.agg b=>sameL a b
 | .fn f a,.fn g b=>decide (f=g)&&sameL a b
 | .ro z es ex,.ro z' es' ex'=>decide (z=z')&&(ex&&(ex'&&(!es.isEmpty&&sameR es es')))
 | _,_=>false
def sameL:List AV→List AV→Bool
 | [],[]=>true
 | a::l,b::m=>same a b&&sameL l m
 | _,_=>false
def sameR:List (List AV)→List (List AV)→Bool
 | [],[]=>true
 | a::l,b::m=>sameL a b&&sameR l m
 | _,_=>false
end
def pArgs (k:Nat):List AV :=
 if k=1 then [.fn 488 [.rop [.ro 1 [[.int .i64 1],[.int .i64 2]] true]]]
 else if k=2 then [.ro 1 [[.int .i64 7],[.int .i64 8],[.int .i64 9]] true,.ro 1 [[.int .i64 8],[.int .i64 9],[.int .i64 7]] true]
 else [.agg [.rop [.rop [.nilp,.nilp,.int .i64 3,.int .i64 1,.int .i64 3,.int .i64 1],.rop [.nilp,.nilp,.int .i64 4,.int .i64 1,.int .i64 4,.int .i64 1],.int .i64 10,.int .i64 3,.int .i64 17,.int .i64 2],.ro 2 [[.int .i64 0,.int .i64 1],[.int .i64 2,.int .i64 3]] true],.int .i64 0,.int .i64 1,.int .i64 2]
def pRes (k:Nat):AV :=
 if k=1 then .ro 1 [[.int .i64 1],[.int .i64 2]] false
 else if k=2 then .tup [.ro 2 [[.int .i64 7,.int .i64 (-1)]] false,.int .i64 0]
 else .tup [.agg [.rop [.rop [.nilp,.nilp,.int .i64 10,.int .i64 1,.int .i64 10,.int .i64 1],.rop [.nilp,.nilp,.int .i64 3,.int .i64 1,.int .i64 3,.int .i64 1],.int .i64 4,.int .i64 3,.int .i64 17,.int .i64 2],.ro 2 [[.int .i64 1,.int .i64 3]] false],.int .i64 0]
def primF (k:Nat) (args:List AV):Option AV:=if k=0 then primAfter args else if sameL args (pArgs k)=true then some (pRes k) else none
def primN (k:Nat):Nat:=if k=0 then 3 else if k=1 then 1 else if k=2 then 2 else 4
def primArgs:Nat→Nat→Env→List AV
 | 0,_,_=>[]
 | n+1,i,e=>(get e i).getD .undef::primArgs n (i+1) e
def snapOf (h:Heap) (z bytes:Nat) (xs:List (List AV)):AV→Option AV
 | .sl b z' i len _ ex=>match get h b with
  | some (.cells zb es mu)=>if z'=z∧zb=z∧i=0∧mu=true∧es.length=len∧(es.length+xs.length) * (bytes+1)≤maxBytes∧(es++xs).all (fun e=>e.all flat)=true then some (.ro z (es++xs) false) else none
  | _=>none
 | _=>none
def snapOp (e:Env) (h:Heap):COp→Option AV
 | .app z bytes zeros s x=>if zeros=true∨frzBytes≤bytes then none else ob (elems h z.length (x.ev e)) fun xs=>snapOf h z.length bytes xs (s.ev e)
 | _=>none
def evSnap (o:COper) (e:Env) (h:Heap):Option AV :=
 match wants e o.guard with
 | some true=>snapOp e h o.op
 | _=>none
def plainV:AV→Bool
 | .bool _=>true
 | .int _ _=>true
 | .str _=>true
 | .nilp=>true
 | .nils=>true
 | .nilm=>true
 | .nilf=>true
 | _=>false
def isoVal (e2:Env) (k:Nat):AV:=match get e2 k with
 | some v=>if plainV v=true then v else .undef
 | none=>.undef
def isoEnv (e2:Env):List Nat→Env→Env
 | [],e=>e
 | k::r,e=>isoEnv e2 r (put e k (isoVal e2 k))
def COp.isMk:COp→Bool
 | .mkfn _ _=>true
 | .fail=>true
 | _=>false
def lastOk (ap:COper) (post:List COper):Bool:=match post.getLast? with
 | some o=>!o.op.isMk
 | none=>!ap.op.isMk
def evIso (C:Prog) (run:Run) (pre:List COper) (ap:COper) (post:List COper) (s:St):Option St :=
 if lastOk ap post=true then
  ob (evOps C run pre s) fun s1=>ob (evSnap ap s1.env s1.heap) fun v=>om (evOps C run post ⟨setDst s1.env ap.dst v,[],s1.next⟩) fun s2 =>
   ⟨isoEnv s2.env ((ap::post).filterMap (·.dst)) s1.env,s1.heap,s2.next⟩
 else none
def evC (C:Prog):Nat→CCode→St→Option (Ex × St)
 | 0,_,_=>none
 | n+1,c,s =>
  match c with
  | .skip=>some (.norm,s)
  | .ops l live=>ob (evOps C (runWith C (evC C n)) l s) fun s=>om (endOps live s) fun s=>(.norm,s)
  | .draw l un live=>ob (evDraw C (runWith C (evC C n)) l s.next ⟨s.env,s.heap,s.next+l.length⟩ []) (drawEnd un live)
  | .seq a b=>ob (evC C n a s) (evSeq (evC C n b))
  | .cond c a b=>evCond (evC C n a) (evC C n b) (c.ev s.env) s
  | .block id b=>om (evC C n b s) (evBlock id)
  | .loop live b=>ob (evC C n b (dropEnv live s)) (evSeq (evC C n (.loop live b)))
  | .exit id=>some (.exit id,s)
  | .ret=>some (.ret,s)
  | .fail=>none
  | .prim k=>om (primF k (primArgs (primN k) 0 s.env)) fun v=>(.ret,⟨put s.env 9 v,s.heap,s.next⟩)
  | .iso pre ap post live=>ob (evIso C (runWith C (evC C n)) pre ap post s) fun s=>om (endOps live s) fun s=>(.norm,s)
def run (C:Prog) (n:Nat):Run:=runWith C (evC C n)
def callF (C:Prog) (n:Nat) (f:Nat) (args:List AV):Option AV:=pureCall (run C n) f args
end Go.Pav
end
section
set_option linter.unusedSimpArgs false
set_option linter.unusedVariables false
namespace Go.Pav
open Go
def RunLe (r r':Run):Prop:=∀ f args h n x,r f args h n=some x→r' f args h n=some x
theorem ob_mono {α β:Type} {x x':Option α} {f f':α→Option β} {b:β} (h:ob x f=some b) (hx:∀ a,x=some a→x'=some a) (hf:∀ a,f a=some b→f' a=some b):ob x' f'=some b:=by
 cases x with
 | none=>simp [ob] at h
 | some a=>rw [hx a rfl];exact hf a h
theorem om_mono {α β:Type} {x x':Option α} {f:α→β} {b:β} (h:om x f=some b) (hx:∀ a,x=some a→x'=some a):om x' f=some b:=by
 cases x with
 | none=>simp [om] at h
 | some a=>rw [hx a rfl];exact h
section
variable {C:Prog} {r r':Run}
theorem evCall_mono (hr:RunLe r r') {f:Nat} {args:List AV} {h:Heap} {nid n:Nat} {c:Called} (hc:evCall C r f args h nid n=some c):evCall C r' f args h nid n=some c:=by
 unfold evCall at hc ⊢
 split
 · rename_i az ha
   rw [ha] at hc
   exact om_mono hc fun v hv=>ob_mono hv (fun x hx=>hr _ _ _ _ _ hx) fun x hx=>hx
 · rename_i ha
   rw [ha] at hc
   simp only at hc
   by_cases hd:(C.inl f&&isDp f)=true
   · rw [if_pos hd] at hc ⊢
     exact ob_mono hc (fun x hx=>hx) fun az has=>om_mono has fun v hv=>ob_mono hv (fun x hx=>hr _ _ _ _ _ hx) fun x hx=>hx
   rw [if_neg hd] at hc ⊢
   split
   · rename_i hf
     rw [if_pos hf] at hc
     exact ob_mono hc (fun x hx=>hx) fun az has=>ob_mono has (fun v hv=>ob_mono hv (fun x hx=>hr _ _ _ _ _ hx) fun x hx=>hx) fun x hx=>hx
   · rename_i hf
     rw [if_neg hf] at hc
     exact om_mono hc fun v hv=>om_mono hv fun x hx=>hr _ _ _ _ _ hx
theorem evAct_mono (hr:RunLe r r') {op:COp} {nid:Nat} {e:Env} {h:Heap} {n:Nat} {d:Did} (hd:evAct C r op nid e h n=some d):evAct C r' op nid e h n=some d:=by
 unfold evAct at hd ⊢
 split
 · rename_i hc;rw [hc] at hd;cases hd
 · rename_i hc;rw [hc] at hd;exact om_mono hd fun c hc=>evCall_mono hr hc
 · rename_i hc;rw [hc] at hd;exact hd
theorem evOp_mono (hr:RunLe r r') {o:COper} {nid:Nat} {e:Env} {h:Heap} {n:Nat} {d:Did} (hd:evOp C r o nid e h n=some d):evOp C r' o nid e h n=some d:=by
 unfold evOp at hd ⊢
 split
 · rename_i hc;rw [hc] at hd;cases hd
 · rename_i hc;rw [hc] at hd;exact hd
 · rename_i hc;rw [hc] at hd;exact evAct_mono hr hd
theorem evOps_mono (hr:RunLe r r'):∀ (l:List COper) (s s':St),evOps C r l s=some s'→evOps C r' l s=some s':=by
 intro l
 induction l with
 | nil=>intro s s' h;exact h
 | cons o l ih=>intro s s' h;exact ob_mono h (fun d hd=>evOp_mono hr hd) fun d hd=>ih _ _ hd
theorem evIso_mono (hr:RunLe r r') {pre:List COper} {ap:COper} {post:List COper} {s s':St} (h:evIso C r pre ap post s=some s'):evIso C r' pre ap post s=some s':=by
 unfold evIso at h ⊢
 split
 · rename_i hl
   rw [if_pos hl] at h
   refine ob_mono h (fun s1 h1=>evOps_mono hr _ _ _ h1) fun s1 h1=>ob_mono h1 (fun v hv=>hv) fun v hv=>om_mono hv fun s2 h2=>evOps_mono hr _ _ _ h2
 · rename_i hl
   rw [if_neg hl] at h
   cases h
theorem evDraw_mono (hr:RunLe r r'):∀ (l:List COper) (nid:Nat) (s:St) (ds:List Did) (x:St × List Did),evDraw C r l nid s ds=some x→evDraw C r' l nid s ds=some x:=by
 intro l
 induction l with
 | nil=>intro nid s ds x h;exact h
 | cons o l ih=>intro nid s ds x h;exact ob_mono h (fun d hd=>evOp_mono hr hd) fun d hd=>ih _ _ _ _ hd
theorem runWith_mono {ev ev':CCode→St→Option (Ex × St)} (he:∀ c s x,ev c s=some x→ev' c s=some x):RunLe (runWith C ev) (runWith C ev'):=by
 intro f args h n x hx
 refine ob_mono hx (fun a ha=>ha) fun fn hfn=>?_
 split
 · rename_i hl
   rw [if_pos hl] at hfn
   exact ob_mono hfn (fun a ha=>he _ _ _ ha) fun a ha=>ha
 · rename_i hl
   rw [if_neg hl] at hfn;cases hfn
theorem evSeq_mono {b b':St→Option (Ex × St)} (h:∀ s x,b s=some x→b' s=some x) {r:Ex × St} {x:Ex × St} (hx:evSeq b r=some x):evSeq b' r=some x:=by
 unfold evSeq at hx ⊢
 split
 · rename_i hr;rw [hr] at hx;exact h _ _ hx
 · split at hx
   · rename_i h1 _ h2;exact absurd h2 h1
   · exact hx
theorem evC_mono:∀ (n m:Nat),n≤m→∀ (c:CCode) (s:St) (x:Ex × St),evC C n c s=some x→evC C m c s=some x:=by
 intro n
 induction n with
 | zero=>intro m _ c s x h;simp only [evC] at h;cases h
 | succ n ih =>
  intro m hm c s x h
  obtain ⟨m,rfl⟩:∃ k,m=k+1:=⟨m - 1,by omega⟩
  have ih':=ih m (by omega)
  have hr:RunLe (runWith C (evC C n)) (runWith C (evC C m)):=runWith_mono ih'
  cases c with
  | skip=>exact h
  | exit id=>exact h
  | ret=>exact h
  | fail=>exact h
  | prim k=>exact h
  | ops l live=>simp only [evC] at h ⊢;exact ob_mono h (fun s' hs=>evOps_mono hr l s s' hs) fun x hx=>hx
  | iso pre ap post live=>simp only [evC] at h ⊢;exact ob_mono h (fun s' hs=>evIso_mono hr hs) fun x hx=>hx
  | draw l un live=>simp only [evC] at h ⊢;exact ob_mono h (fun x hx=>evDraw_mono hr l _ _ _ x hx) fun x hx=>hx
  | seq a b=>simp only [evC] at h ⊢;exact ob_mono h (fun x hx=>ih' _ _ _ hx) fun x hx=>evSeq_mono (fun s x hx=>ih' _ _ _ hx) hx
  | cond c a b =>
   simp only [evC] at h ⊢
   unfold evCond at h ⊢
   split
   · rename_i t hv
     rw [hv] at h
     cases t with
     | true=>exact ih' _ _ _ h
     | false=>exact ih' _ _ _ h
   · split at h
     · rename_i h1 _ t hv;exact absurd hv (h1 t)
     · cases h
  | block id b=>simp only [evC] at h ⊢;exact om_mono h fun x hx=>ih' _ _ _ hx
  | loop live b=>simp only [evC] at h ⊢;exact ob_mono h (fun x hx=>ih' _ _ _ hx) fun x hx=>evSeq_mono (fun s x hx=>ih' _ _ _ hx) hx
end
end Go.Pav
end
section
set_option linter.unusedSimpArgs false
set_option linter.unusedVariables false
namespace Go.Pav
open Go
section
open Classical
noncomputable def lim {α:Type} (g:Nat→Option α):Option α:=if h:∃ n a,g n=some a then some (Classical.choose (Classical.choose_spec h)) else none
def Mono {α:Type} (g:Nat→Option α):Prop:=∀ n m,n≤m→∀ a,g n=some a→g m=some a
theorem lim_eq {α:Type} {g:Nat→Option α} (hm:Mono g) {n:Nat} {a:α} (h:g n=some a):lim g=some a:=by
 have hx:∃ n a,g n=some a:=⟨n,a,h⟩
 unfold lim
 rw [dif_pos hx]
 have h1:=Classical.choose_spec (Classical.choose_spec hx)
 have h2:=hm _ _ (Nat.le_max_left n (Classical.choose hx)) _ h
 have h3:=hm _ _ (Nat.le_max_right n (Classical.choose hx)) _ h1
 rw [h2] at h3
 exact h3.symm
theorem lim_some {α:Type} {g:Nat→Option α} (_hm:Mono g) {a:α} (h:lim g=some a):∃ n,g n=some a:=by
 unfold lim at h
 split at h
 · rename_i hx
   cases h
   exact ⟨_,Classical.choose_spec (Classical.choose_spec hx)⟩
 · cases h
theorem lim_iff {α:Type} {g:Nat→Option α} (hm:Mono g) {a:α}:lim g=some a↔∃ n,g n=some a :=
 ⟨lim_some hm,fun ⟨_,h⟩=>lim_eq hm h⟩
theorem opt_ext {α:Type} {x y:Option α} (h:∀ a,x=some a↔y=some a):x=y:=by
 cases x with
 | none=>cases y with
  | none=>rfl
  | some b=>exact absurd ((h b).2 rfl) (by simp)
 | some a=>exact ((h a).1 rfl).symm
end
section
variable (C:Prog)
noncomputable def Cd (c:CCode) (s:St):Option (Ex × St):=lim fun n=>evC C n c s
noncomputable def Rn:Run:=runWith C (Cd C)
noncomputable def Fn (f:Nat) (args:List AV):Option AV:=pureCall (Rn C) f args
end
section
variable {C:Prog}
theorem ob_iff {α β:Type} {x:Option α} {f:α→Option β} {b:β}:ob x f=some b↔∃ a,x=some a∧f a=some b:=by
 cases x <;> simp [ob]
end
end Go.Pav
end
section
set_option linter.unusedSimpArgs false
set_option linter.unusedVariables false
namespace Go.Pw
open Go Go.Pav
inductive WObj where
 | cells (z:Nat) (es:List (List AV)) (mu dt:Bool)
 | map (es:List (AV × AV))
 | iter (s:List UInt8) (pos:Nat)
 deriving Inhabited
abbrev WHeap:=List (Nat × WObj)
abbrev WUpd:=List (Nat × Option WObj)
def isC:AV→Bool
 | .bool _=>true
 | .int _ _=>true
 | .str _=>true
 | .nilp=>true
 | .nils=>true
 | .nilm=>true
 | .nilf=>true
 | .ro _ _ _=>true
 | .rop _=>true
 | .fn _ []=>true
 | _=>false
def isD:AV→Bool
 | .agg cs=>cs.all isC
 | v=>isC v
mutual
def refs:AV→List Nat
 | .ptr b _ _=>[b]
 | .sl b _ _ _ _ _=>[b]
 | .map b=>[b]
 | .fn _ cs=>refsL cs
 | .agg cs=>refsL cs
 | .tup cs=>refsL cs
 | _=>[]
def refsL:List AV→List Nat
 | []=>[]
 | v::r=>refs v++refsL r
end
mutual
def ren (π:Nat→Option Nat):AV→Option AV
 | .ptr b i o=>om (π b) fun b=>.ptr b i o
 | .sl b z i l c ex=>om (π b) fun b=>.sl b z i l c ex
 | .map b=>om (π b) fun b=>.map b
 | .fn f cs=>om (renL π cs) fun cs=>.fn f cs
 | .agg cs=>om (renL π cs) fun cs=>.agg cs
 | .tup cs=>om (renL π cs) fun cs=>.tup cs
 | v=>some v
def renL (π:Nat→Option Nat):List AV→Option (List AV)
 | []=>some []
 | v::r=>ob (ren π v) fun v=>om (renL π r) fun r=>v::r
end
def objRefs:Option WObj→List Nat
 | some (.cells _ es _ dt)=>if dt then [] else es.flatMap refsL
 | _=>[]
def renObj (π:Nat→Option Nat):WObj→Option WObj
 | .cells z es mu dt=>if dt then some (.cells z es mu dt) else om (mapO (renL π) es) fun es=>.cells z es mu dt
 | .map es=>some (.map es)
 | .iter s p=>some (.iter s p)
def envRefs:Env→List Nat
 | []=>[]
 | (_,v)::r=>refs v++envRefs r
def oldRefs (base:Nat):WHeap→List Nat
 | []=>[]
 | (b,o)::r=>if b < base then objRefs (some o)++oldRefs base r else oldRefs base r
def close (base:Nat) (h:WHeap):Nat→List Nat→List Nat→List Nat
 | 0,_,acc=>acc
 | _+1,[],acc=>acc
 | n+1,b::w,acc=>if b < base then close base h n w acc else if acc.contains b then close base h n w acc else close base h n (objRefs (Pav.get h b)++w) (acc++[b])
def place (n:Nat):List Nat→Nat→Option Nat
 | [],_=>none
 | a::r,b=>if a=b then some n else place (n+1) r b
def newNum (base:Nat) (L:List Nat) (b:Nat):Option Nat:=if b < base then some b else place base L b
def renEnv (π:Nat→Option Nat):Env→Option Env
 | []=>some []
 | (k,v)::r=>ob (ren π v) fun v=>om (renEnv π r) fun r=>(k,v)::r
def renOld (base:Nat) (π:Nat→Option Nat):WHeap→Option WHeap
 | []=>some []
 | (b,o)::r=>if b < base then ob (renObj π o) fun o=>om (renOld base π r) fun r=>(b,o)::r else renOld base π r
def renNew (π:Nat→Option Nat) (h:WHeap) (n:Nat):List Nat→Option WHeap
 | []=>some []
 | b::r=>match Pav.get h b with
  | some o=>ob (renObj π o) fun o=>om (renNew π h (n+1) r) fun r=>(n,o)::r
  | none=>renNew π h (n+1) r
structure WSt where
 env:Env
 heap:WHeap
 next:Nat
 deriving Inhabited
structure Ann where
 cn:Bool
 live:List Nat
 grow:List (Nat × Nat)
 deriving Inhabited
def putE:Env→Nat→AV→Env
 | [],n,x=>[(n,x)]
 | (k,v)::r,n,x=>if k < n then (n,x)::(k,v)::r else if k=n then (n,x)::r else (k,v)::putE r n x
def setD (e:Env) (d:Option Nat) (v:AV):Env :=
 match d with
 | some d=>putE e d v
 | none=>e
def argW:Nat→List AV→Env→Env
 | _,[],acc=>acc
 | k,v::r,acc=>argW (k+1) r ((k,v)::acc)
def dropLt (k:Nat):List Nat→List Nat
 | []=>[]
 | a::l=>if k < a then dropLt k l else a::l
def keepE:Env→List Nat→Env
 | [],_=>[]
 | (k,v)::r,live=>match dropLt k live with
  | []=>[]
  | a::l=>if a=k then (k,v)::keepE r l else keepE r (a::l)
def keepL (live:List Nat) (e:Env):Env:=keepE e live
def keepN (k:Nat) (v:AV) (r:Env):List Nat→Env
 | []=>[]
 | a::l=>if a=k then (k,v)::keepL l r else keepL (a::l) r
theorem keepL_nil (live:List Nat):keepL live []=[]:=rfl
theorem keepL_cons (live:List Nat) (k:Nat) (v:AV) (r:Env):keepL live ((k,v)::r)=keepN k v r (dropLt k live):=by
 simp only [keepL,keepE]
 cases dropLt k live <;> rfl
def growOne (s:WSt) (k z:Nat):AV→WSt
 | .ro z' [] true=>if z'=z then ⟨putE s.env k (.sl s.next z 0 0 0 false),put s.heap s.next (.cells z [] true true),s.next+1⟩ else s
 | _=>s
def growAll:List (Nat × Nat)→WSt→WSt
 | [],s=>s
 | (k,z)::r,s=>match Pav.get s.env k with
  | some v=>growAll r (growOne s k z v)
  | none=>growAll r s
def renumber (base:Nat) (s:WSt) (L:List Nat):Option WSt :=
 ob (renEnv (newNum base L) s.env) fun e=>ob (renOld base (newNum base L) s.heap) fun h1=>om (renNew (newNum base L) s.heap base L) fun h2=>⟨e,h1++h2,base+L.length⟩
def canonG (base:Nat) (s:WSt):Option WSt:=renumber base s (close base s.heap 1000 (envRefs s.env++oldRefs base s.heap) [])
def bitsOf:List Nat→Nat
 | []=>0
 | k::r=>2 ^ k ||| bitsOf r
def noRen:List (Nat × Nat)→Bool
 | []=>false
 | (_,z)::r=>if z=65537 then true else noRen r
def canon (base:Nat) (a:Ann) (s:WSt):Option WSt :=
 match a.cn with
 | true=>match noRen a.grow with
  | true=>some (growAll a.grow ⟨keepL a.live s.env,s.heap,s.next⟩)
  | false=>canonG base (growAll a.grow ⟨keepL a.live s.env,s.heap,s.next⟩)
 | false=>some s
def maskOf (a:Ann):Nat:=match a.cn with
 | true=>bitsOf a.live
 | false=>0
def frzOf:List (Nat × Nat)→List Nat
 | []=>[]
 | (k,z)::r=>if z=65536 then k::frzOf r else frzOf r
def updOneW (h:WHeap) (b:Nat):Option WObj→WHeap
 | some o=>put h b o
 | none=>del h b
def applyW:WHeap→WUpd→WHeap
 | h,[]=>h
 | h,(b,o)::r=>applyW (updOneW h b o) r
abbrev WStep:=Env→WHeap→Nat→Option (AV × WUpd)
def ovW (x:Option AV):Option (AV × WUpd):=om x fun v=>(v,[])
def wAlloc (z:List AV):WStep:=fun _ _ nid=>some (.ptr nid 0 0,[(nid,some (.cells z.length [z] true (z.all isC)))])
def boxedW (cs:List AV) (nid:Nat):Option (AV × WUpd):=if cs.all AV.cell=true then some (.ptr nid 0 0,[(nid,some (.cells cs.length [cs] true (cs.all isC)))]) else none
def wBox (x:Opd):WStep:=fun e _ nid=>boxedW (x.ev e).cells nid
def wBuildS (z:List AV) (len:Nat) (ps:List (Nat × Opd)):WStep:=fun e _ nid =>
 om (fillS e z.length (List.replicate len z) ps) fun es=>(.sl nid z.length 0 len len true,[(nid,some (.cells z.length es true (es.all fun c=>c.all isC)))])
def wLoadAt (n:Nat) (ag:Bool) (o i:Nat):Option WObj→Option AV
 | some (.cells _ es _ _)=>ob es[i]? fun cs=>loadC n ag (cs.drop o)
 | _=>none
def wLoadOf (n:Nat) (ag:Bool) (h:WHeap):AV→Option AV
 | .rop cs=>loadC n ag cs
 | .ptr b i o=>wLoadAt n ag o i (Pav.get h b)
 | _=>none
def wLoad (n:Nat) (ag:Bool) (a:Opd):WStep:=fun e h _=>ovW (wLoadOf n ag h (a.ev e))
def wStoreAt (n b i o:Nat) (v:List AV):Option WObj→Option (AV × WUpd)
 | some (.cells z es mu dt)=>if mu then ob es[i]? fun cs=>if o+n≤cs.length then some (.tup [],[(b,some (.cells z (es.set i (splice cs o v)) true (dt&&v.all isC)))]) else none else none
 | _=>none
def wStoreOf (n:Nat) (h:WHeap) (v:List AV):AV→Option (AV × WUpd)
 | .ptr b i o=>wStoreAt n b i o v (Pav.get h b)
 | _=>none
def wStore (n:Nat) (a x:Opd):WStep:=fun e h _ =>
 if (x.ev e).cells.length=n∧(x.ev e).cells.all AV.cell=true then wStoreOf n h (x.ev e).cells (a.ev e) else none
def wMkmap:WStep:=fun _ _ nid=>some (.map nid,[(nid,some (.map []))])
def wMksl (z:List AV) (bytes:Nat) (l c:Opd):WStep:=fun e _ nid=>match l.ev e,c.ev e with
 | .int _ l,.int _ c=>ob (nat? l) fun l=>ob (nat? c) fun c =>
  if l≤c∧c * (bytes+1)≤maxBytes then some (.sl nid z.length 0 l c true,[(nid,some (.cells z.length (List.replicate c z) true (z.all isC)))]) else none
 | _,_=>none
def wLookIn (z:AV) (ok:Bool) (k:AV):Option WObj→Option AV
 | some (.map es)=>om (mapGet es k) (found z ok)
 | _=>none
def wLook (kd:Nat) (z:AV) (ok:Bool) (m k:Opd):WStep:=fun e h _=>if keyOk kd (k.ev e)=true then (match m.ev e with
 | .nilm=>some (found z ok none,[])
 | .map b=>ovW (wLookIn z ok (k.ev e) (Pav.get h b))
 | _=>none) else none
def wUpdIn (b:Nat) (k v:AV):Option WObj→Option (AV × WUpd)
 | some (.map es)=>om (mapPut es k v) fun es'=>(.tup [],[(b,some (.map es'))])
 | _=>none
def wUpd (kd:Nat) (m k v:Opd):WStep:=fun e h _=>if keyOk kd (k.ev e)=true∧isD (v.ev e)=true then (match m.ev e with
 | .map b=>wUpdIn b (k.ev e) (v.ev e) (Pav.get h b)
 | _=>none) else none
def wRange (x:Opd):WStep:=fun e _ nid=>match x.ev e with
 | .str s=>some (.ptr nid 0 0,[(nid,some (.iter s 0))])
 | _=>none
def wNextIter (b:Nat):Option WObj→Option (AV × WUpd)
 | some (.iter s pos)=>if pos < s.length then
  some (.tup [.bool true,.int .i64 pos,.int .i32 (Utf8.decode ⟨⟨s⟩⟩ pos).1],[(b,some (.iter s (pos+(Utf8.decode ⟨⟨s⟩⟩ pos).2)))])
  else some (.tup [.bool false],[])
 | _=>none
def wNext (x:Opd):WStep:=fun e h _=>match x.ev e with
 | .ptr b 0 0=>wNextIter b (Pav.get h b)
 | _=>none
def wLenMap:Option WObj→Option AV
 | some (.map es)=>some (.int .i64 es.length)
 | _=>none
def wEvLen (kd:Nat) (h:WHeap):AV→Option AV
 | .str s=>if kd=0 then some (.int .i64 s.length) else none
 | .nils=>if kd=1 then some (.int .i64 0) else none
 | .ro _ es _=>if kd=1 then some (.int .i64 es.length) else none
 | .sl _ _ _ len _ _=>if kd=1 then some (.int .i64 len) else none
 | .nilm=>if kd=2 then some (.int .i64 0) else none
 | .map b=>if kd=2 then wLenMap (Pav.get h b) else none
 | _=>none
def wLen (kd:Nat) (x:Opd):WStep:=fun e h _=>ovW (wEvLen kd h (x.ev e))
def wElems (h:WHeap) (z:Nat):AV→Option (List (List AV) × Bool)
 | .nils=>some ([],true)
 | .ro z' es _=>if z'=z then some (es,true) else none
 | .sl b z' i len _ _=>if z'=z then (match Pav.get h b with
  | some (.cells _ es _ dt)=>if i+len≤es.length then some ((es.drop i).take len,dt) else none
  | _=>none) else none
 | .str s=>if z=1 then some (s.map fun c=>[.int .u8 c.toNat],true) else none
 | _=>none
def wNewRow (nid zl n bytes:Nat) (xs:List (List AV)) (dt:Bool):Option (AV × WUpd) :=
 if n * (bytes+1)≤maxBytes then some (.sl nid zl 0 n n false,[(nid,some (.cells zl xs true dt))]) else none
def wAppSl (o:Option WObj) (nid zl bytes:Nat) (b i len cap:Nat) (ex:Bool) (xs:List (List AV)) (d:Bool) (n:Nat):Option (AV × WUpd) :=
 match o with
 | some (.cells zb es mu dt) =>
  if zb=zl then
   if n≤cap then
    if mu=true∧i+n≤es.length then some (.sl b zl i n cap ex,[(b,some (.cells zl (es.take (i+len)++(xs++es.drop (i+n))) true (dt&&d)))]) else none
   else if ex then
    if i+len≤es.length then wNewRow nid zl n bytes ((es.drop i).take len++xs) (dt&&d) else none
   else if mu=true∧i=0∧es.length=len∧n * (bytes+1)≤maxBytes then
    some (.sl nid zl 0 n n false,[(b,none),(nid,some (.cells zl (es++xs) true (dt&&d)))])
   else none
  else none
 | _=>none
def wEvApp (h:WHeap) (nid zl bytes:Nat) (s:AV) (xs:List (List AV)) (d:Bool):Option (AV × WUpd) :=
 match s with
 | .nils=>match xs with
  | []=>some (.nils,[])
  | _=>wNewRow nid zl xs.length bytes xs d
 | .ro z' es ex=>if z'=zl then (match xs with
  | []=>some (s,[])
  | _=>if ex then wNewRow nid zl (es.length+xs.length) bytes (es++xs) d else none) else none
 | .sl b z' i len cap ex=>if z'=zl then (match xs with
  | []=>some (s,[])
  | _=>wAppSl (Pav.get h b) nid zl bytes b i len cap ex xs d (len+xs.length)) else none
 | _=>none
def snapOfW (h:WHeap) (z bytes:Nat) (xs:List (List AV)):AV→Option AV
 | .sl b z' i len _ _=>match Pav.get h b with
  | some (.cells zb es mu dt)=>if z'=z∧zb=z∧i=0∧mu=true∧es.length=len∧dt=true∧es.isEmpty=false∧(es.length+xs.length) * (bytes+1)≤maxBytes∧(es++xs).all (fun e=>e.all flat)=true then some (.ro z (es++xs) false) else none
  | _=>none
 | _=>none
def frzMark (h:WHeap):AV→Option WUpd
 | .sl b _ _ _ _ _=>match Pav.get h b with
  | some (.cells z es _ dt)=>some [(b,some (.cells z es false dt))]
  | _=>none
 | _=>none
def wFrzApp (h:WHeap) (zl bytes:Nat) (xs:List (List AV)) (d:Bool) (s:AV):Option (AV × WUpd) :=
 if d=true then ob (snapOfW h zl bytes xs s) fun v=>om (frzMark h s) fun u=>(v,u) else none
def wApp (z:List AV) (bytes:Nat) (zeros:Bool) (s x:Opd):WStep:=fun e h nid =>
 if zeros then (match x.ev e with
  | .int _ n=>ob (nat? n) fun n=>if n * (bytes+1)≤maxBytes then wEvApp h nid z.length bytes (s.ev e) (List.replicate n z) (z.all isC) else none
  | _=>none)
 else if bytes < frzBytes then ob (wElems h z.length (x.ev e)) fun xs=>wEvApp h nid z.length bytes (s.ev e) xs.1 xs.2
 else ob (wElems h z.length (x.ev e)) fun xs=>wFrzApp h z.length (bytes - frzBytes) xs.1 xs.2 (s.ev e)
def wCopyTo (z b i len:Nat) (xs:List (List AV)) (d:Bool) (n:Nat):Option WObj→Option (AV × WUpd)
 | some (.cells zb es mu dt)=>if mu=true∧zb=z∧i+len≤es.length then
  some (.int .i64 n,[(b,some (.cells z (es.take i++(xs.take n++es.drop (i+n))) true (dt&&d)))]) else none
 | _=>none
def wCopyIn (h:WHeap) (z:Nat) (xs:List (List AV)) (d:Bool):AV→Option (AV × WUpd)
 | .nils=>some (.int .i64 0,[])
 | .ro _ [] _=>some (.int .i64 0,[])
 | .sl b z' i len _ _=>if z'=z then
  if min xs.length len=0 then some (.int .i64 0,[]) else wCopyTo z b i len xs d (min xs.length len) (Pav.get h b)
  else none
 | _=>none
def wCpy (z:Nat) (d s:Opd):WStep:=fun e h _=>ob (wElems h z (s.ev e)) fun xs=>wCopyIn h z xs.1 xs.2 (d.ev e)
def wClrTo (z:List AV) (b i len:Nat):Option WObj→Option (AV × WUpd)
 | some (.cells zb es mu dt)=>if mu=true∧zb=z.length∧i+len≤es.length then
  some (.tup [],[(b,some (.cells z.length (es.take i++(List.replicate len z++es.drop (i+len))) true (dt&&z.all isC)))]) else none
 | _=>none
def wClrIn (h:WHeap) (z:List AV):AV→Option (AV × WUpd)
 | .nils=>some (.tup [],[])
 | .ro _ [] _=>some (.tup [],[])
 | .sl b z' i len _ _=>if z'=z.length then
  if len=0 then some (.tup [],[]) else wClrTo z b i len (Pav.get h b)
  else none
 | _=>none
def wClr (z:List AV) (d:Opd):WStep:=fun e h _=>wClrIn h z (d.ev e)
def wSliceAt (n b i o:Nat) (lo hi:Option AV):Option WObj→Option (AV × WUpd)
 | some (.cells z es _ dt)=>ob es[i]? fun cs=>om (sliceArr n (cs.drop o) lo hi) fun r=>(r,[(b,some (.cells z es false dt))])
 | _=>none
def wSliceOf (h:WHeap) (n:Nat) (lo hi:Option AV):AV→Option (AV × WUpd)
 | .rop cs=>om (sliceArr n cs lo hi) fun r=>(r,[])
 | .ptr b i o=>wSliceAt n b i o lo hi (Pav.get h b)
 | _=>none
def wSliceA (n:Nat) (x:Opd) (lo hi:Option Opd):WStep:=fun e h _=>wSliceOf h n (oev e lo) (oev e hi) (x.ev e)
def wEqSl:AV→AV→Option Bool
 | .nils,.nils=>some true
 | .nils,.ro _ (_::_) _=>some false
 | .ro _ (_::_) _,.nils=>some false
 | _,_=>none
def plainW (x:Option (AV × Upd)):Option (AV × WUpd):=om x fun x=>(x.1,[])
def stepW (op:COp):WStep :=
 match op with
 | .mv x=>fun e _ _=>plainW (sMv x e [] 0)
 | .pick c a b=>fun e _ _=>plainW (sPick c a b e [] 0)
 | .alloc z=>wAlloc z
 | .box x=>wBox x
 | .build z ps=>fun e _ _=>plainW (sBuild z ps e [] 0)
 | .buildS z len ps=>wBuildS z len ps
 | .load n ag a=>wLoad n ag a
 | .store n a x=>wStore n a x
 | .nilchk x=>fun e _ _=>plainW (sNilchk x e [] 0)
 | .bin op x y=>fun e _ _=>plainW (sBin op x y e [] 0)
 | .eqv kd ks ne x y=>fun e _ _=>if kd=0 then om (wEqSl (x.ev e) (y.ev e)) (fun b=>(.bool (b != ne),[])) else plainW (sEqv kd ks ne x y e [] 0)
 | .un op x=>fun e _ _=>plainW (sUn op x e [] 0)
 | .cvt k x=>fun e _ _=>plainW (sCvt k x e [] 0)
 | .cvs x=>fun e _ _=>plainW (sCvs x e [] 0)
 | .cvb x=>fun e _ _=>plainW (sCvb x e [] 0)
 | .mkfn f caps=>fun e _ _=>plainW (sMkfn f caps e [] 0)
 | .mkmap=>wMkmap
 | .mksl z bytes l c=>wMksl z bytes l c
 | .slice z x lo hi mx=>fun e _ _=>plainW (sSlice z x lo hi mx e [] 0)
 | .sliceA n x lo hi=>wSliceA n x lo hi
 | .fld off x=>fun e _ _=>plainW (sFld off x e [] 0)
 | .fldv off n ag x=>fun e _ _=>plainW (sFldv off n ag x e [] 0)
 | .idxs z x i=>fun e _ _=>plainW (sIdxs z x i e [] 0)
 | .idxa len z x i=>fun e _ _=>plainW (sIdxa len z x i e [] 0)
 | .idxstr x i=>fun e _ _=>plainW (sIdxstr x i e [] 0)
 | .idxv len z ag x i=>fun e _ _=>plainW (sIdxv len z ag x i e [] 0)
 | .look kd z ok m k=>wLook kd z ok m k
 | .upd kd m k v=>wUpd kd m k v
 | .range x=>wRange x
 | .next x=>wNext x
 | .ext i x=>fun e _ _=>plainW (sExt i x e [] 0)
 | .len kd x=>wLen kd x
 | .cap x=>fun e _ _=>plainW (sCap x e [] 0)
 | .app z bytes zeros s x=>wApp z bytes zeros s x
 | .cpy z d s=>wCpy z d s
 | .clr z d=>wClr z d
 | .mx x y=>fun e _ _=>plainW (sMx x y e [] 0)
 | .mn x y=>fun e _ _=>plainW (sMn x y e [] 0)
 | .call _ _=>fun _ _ _=>none
 | .callv _ _=>fun _ _ _=>none
 | .fail=>fun _ _ _=>none
def frzW (h:WHeap):Nat→AV→Option AV
 | 0,_=>none
 | n+1,v=>match v with
  | .undef=>none
  | .ptr b i o=>match Pav.get h b with
   | some (.cells _ es _ dt)=>ob es[i]? fun cs=>if dt then (if n=0 then none else some (.rop (cs.drop o))) else om (mapO (frzW h n) (cs.drop o)) fun cs'=>.rop cs'
   | _=>none
  | .map _=>none
  | .sl b z i len cap ex=>match Pav.get h b with
   | some (.cells _ es _ dt) =>
    if dt then (if n=0 then none else og (decide (((es.drop i).take len).length=len)) (some (.ro z ((es.drop i).take len) (ex&&decide (cap=len)))))
    else ob (mapO (mapO (frzW h n)) ((es.drop i).take len)) fun es' =>
     og (decide (es'.length=len)&&es'.all fun e=>e.all isC) (some (.ro z es' (ex&&decide (cap=len))))
   | _=>none
  | .fn f caps=>om (mapO (frzW h n) caps) fun cs=>.fn f cs
  | .agg cs=>om (mapO (frzW h n) cs) fun cs=>.agg cs
  | .tup vs=>om (mapO (frzW h n) vs) fun vs=>.tup vs
  | .bool b=>some (.bool b)
  | .int k x=>some (.int k x)
  | .str s=>some (.str s)
  | .nilp=>some .nilp
  | .nils=>some .nils
  | .nilm=>some .nilm
  | .nilf=>some .nilf
  | .ro z es ex=>some (.ro z es ex)
  | .rop cs=>some (.rop cs)
def reachW (h:WHeap):Nat→AV→List Nat
 | 0,_=>[]
 | n+1,v=>match v with
  | .ptr b i o=>b::(match Pav.get h b with
   | some (.cells _ es _ dt)=>if dt then [] else ((es[i]?.getD []).drop o).flatMap (reachW h n)
   | _=>[])
  | .sl b _ i len _ _=>b::(match Pav.get h b with
   | some (.cells _ es _ dt)=>if dt then [] else ((es.drop i).take len).flatMap fun e=>e.flatMap (reachW h n)
   | _=>[])
  | .fn _ caps=>caps.flatMap (reachW h n)
  | .agg cs=>cs.flatMap (reachW h n)
  | .tup vs=>vs.flatMap (reachW h n)
  | _=>[]
def markFrozenW (h:WHeap):List Nat→WUpd
 | []=>[]
 | b::r=>match Pav.get h b with
  | some (.cells z es _ dt)=>(b,some (.cells z es false dt))::markFrozenW h r
  | _=>markFrozenW h r
def frzSlotW (k:Nat) (s:WSt):Option WSt :=
 ob (Pav.get s.env k) fun v=>om (frzW s.heap frzDepth v) fun v'=>⟨setD s.env (some k) v',applyW s.heap (markFrozenW s.heap (reachW s.heap frzDepth v)),s.next⟩
def frzSlotsW:List Nat→WSt→Option WSt
 | [],s=>some s
 | k::r,s=>ob (frzSlotW k s) (frzSlotsW r)
def canonF (base:Nat) (a:Ann) (s:WSt):Option WSt:=ob (frzSlotsW (frzOf a.grow) s) (canon base a)
abbrev WRun:=Nat→List AV→WHeap→Nat→Option (AV × WHeap × Nat)
def pureCallW (run:WRun) (f:Nat) (args:List AV):Option AV :=
 ob (run f args [] 0) fun r=>frzW r.2.1 frzDepth r.1
def hasRefW:Nat→AV→Bool
 | 0,_=>true
 | n+1,v=>match v with
  | .undef=>true
  | .ro _ _ _=>true
  | .rop _=>true
  | .fn _ caps=>caps.any (hasRefW n)
  | .agg cs=>cs.any (hasRefW n)
  | .tup vs=>vs.any (hasRefW n)
  | _=>false
def marksW (h:WHeap) (args:List AV) (v:AV):WUpd :=
 if hasRefW frzDepth v then markFrozenW h (args.flatMap (reachW h frzDepth)) else []
inductive WCalled where
 | data (v:AV) (u:WUpd)
 | whole (v:AV) (h:WHeap) (n:Nat)
 | deep (v:AV) (mk u:WUpd) (n:Nat)
inductive WCode where
 | skip
 | ops (l:List COper) (a:Ann)
 | draw (l:List COper) (un:List (Nat × Nat)) (a:Ann)
 | seq (a b:WCode)
 | cond (c:Opd) (a b:WCode)
 | block (id:Nat) (b:WCode) (a:Ann)
 | loop (a:Ann) (b:WCode)
 | exit (id:Nat)
 | ret
 | fail
 /-- slices.Clone: whether an empty slice is nil is not known, and its copy is empty in either case -/
 | cln (zz:List AV) (z b:Nat)
 | iso (pre:List COper) (ap:COper) (post:List COper) (a:Ann)
 | prim (k:Nat)
 deriving Inhabited
def clnC (zz:List AV) (z b:Nat):WCode :=
 .seq (.ops [⟨some 2,none,.mv (.c (.ro z [] true))⟩] ⟨false,[],[]⟩)
  (.seq (.seq (.ops [⟨some 3,none,.mv (.t 0)⟩,⟨some 4,none,.eqv 0 [] false (.t 3) (.c .nils)⟩] ⟨false,[],[]⟩)
   (.cond (.t 4) (.seq (.ops [⟨some 2,none,.mv (.c (.ro z [] true))⟩] ⟨false,[],[]⟩) .ret) .skip))
  (.seq (.ops [⟨some 5,none,.buildS zz 0 []⟩,⟨some 6,none,.mv (.t 0)⟩,⟨some 7,none,.app zz (b % 1125899906842624) false (.t 5) (.t 6)⟩,⟨some 2,none,.mv (.t 7)⟩] ⟨false,[],[]⟩) .ret))
def clnE (zz:List AV) (b:Nat):CCode :=
 .seq (.ops [⟨some 2,none,.mv (.c .nils)⟩] (0,[]))
  (.seq (.seq (.ops [⟨some 3,none,.mv (.t 0)⟩,⟨some 4,none,.eqv 0 [] false (.t 3) (.c .nils)⟩] (0,[]))
   (.cond (.t 4) (.seq (.ops [⟨some 2,none,.mv (.c .nils)⟩] (0,[])) .ret) .skip))
  (.seq (.ops [⟨some 5,none,.buildS zz 0 []⟩,⟨some 6,none,.mv (.t 0)⟩,⟨some 7,none,.app zz (b % 1125899906842624) false (.t 5) (.t 6)⟩,⟨some 2,none,.mv (.t 7)⟩] (0,[])) .ret))
def isEmptyRo:AV→Option Nat
 | .ro z [] _=>some z
 | _=>none
structure WFn where
 np:Nat
 res:List CRes
 body:WCode
 deriving Inhabited
inductive WTree where
 | leaf
 | node (l:WTree) (k:Nat) (f:WFn) (r:WTree)
 deriving Inhabited
def WTree.get:WTree→Nat→Option WFn
 | .leaf,_=>none
 | .node l k f r,n=>if n=k then some f else if n≤k then l.get n else r.get n
structure WProg where
 fns:WTree
 inl:Nat→Bool
 pp:Nat→Bool
def freshOfW (nid:Nat) (v:AV) (b:Nat):Option WObj→Option (AV × WUpd)
 | some (.cells z es mu dt)=>if (mu&&dt)=true then om (hand b nid v) fun v=>(v,[(nid,some (.cells z es true true))]) else none
 | _=>none
def freshCallW (run:WRun) (f:Nat) (args:List AV) (nid:Nat):Option (AV × WUpd) :=
 ob (run f args [] 0) fun r=>match ownOf r.1 with
  | none=>om (hand r.2.2 0 r.1) fun v=>(v,[])
  | some b=>freshOfW nid r.1 b (Pav.get r.2.1 b)
def bareOW:Option WObj→Bool
 | some (.cells _ es _ _)=>es.all bareL
 | _=>false
def bareXW (x:AV × WUpd):Bool:=bareV x.1&&x.2.all fun y=>bareOW y.2
def freshUW (f:Nat) (u:WUpd):WUpd:=if isBr f=true then [] else u
def freshEndW (f:Nat) (u:WUpd) (x:AV × WUpd):Option WCalled :=
 if (isBr f&&!bareXW x)=true then none else some (.data x.1 (freshUW f u++x.2))
def upsW (n:Nat) (h:WHeap):WUpd:=((h.filter fun x=>decide (n≤x.1)).map fun x=>(x.1,some x.2)).reverse
def keptOW (L:List Nat):Option WObj→Bool
 | some (.cells _ es mu _)=>mu&&es.all (keptL L)
 | _=>false
def keptXW (h:WHeap) (v:AV) (L:List Nat):Bool:=keptV L v&&L.all fun b=>keptOW L (Pav.get h b)
def deepUW (f:Nat) (u:WUpd):WUpd:=if isDb f=true then [] else u
def deepKeepW (f:Nat) (h:WHeap) (v:AV):Option WHeap :=
 if isDb f=true then (if keptXW h v (reachW h frzDepth v)=true then some (h.filter fun x=>(reachW h frzDepth v).contains x.1) else none) else some h
def evCallW (C:WProg) (run:WRun) (f:Nat) (args:List AV) (h:WHeap) (nid n:Nat):Option WCalled :=
 if C.inl f then (if isFr f then ob (mapO (frzW h frzDepth) args) fun az=>if isDp f then ob (run f az [] n) fun r=>om (deepKeepW f r.2.1 r.1) fun hk=>.deep r.1 (deepUW f (markFrozenW h (args.flatMap (reachW h frzDepth)))) (upsW n hk) r.2.2 else ob (freshCallW run f az nid) (freshEndW f (markFrozenW h (args.flatMap (reachW h frzDepth))))
  else om (run f args h n) fun r=>.whole r.1 r.2.1 r.2.2)
 else if (!C.pp f&&hasPtrL args)=true then om (run f args h n) fun r=>.whole r.1 r.2.1 r.2.2
 else ob (mapO (frzW h frzDepth) args) fun az=>om (pureCallW run f az) fun v=>.data v (marksW h args v)
structure WDid where
 v:AV
 h:WHeap
 n:Nat
 bar:Bool
 rd:List Nat
 wr:List Nat
def doneCallW (h:WHeap) (n:Nat) (args:List AV):WCalled→WDid
 | .data v u=>⟨v,applyW h u,n,false,args.flatMap (reachW h frzDepth),u.map (·.1)⟩
 | .whole v h' n'=>⟨v,h',n',true,[],[]⟩
 | .deep v mk u n'=>⟨v,applyW (applyW h mk) u,n',true,args.flatMap (reachW h frzDepth),n::mk.map (·.1)⟩
def evActW (C:WProg) (run:WRun) (op:COp) (nid:Nat) (e:Env) (h:WHeap) (n:Nat):Option WDid :=
 match callOf e op with
 | none=>none
 | some (some (f,args))=>om (evCallW C run f args h nid n) (doneCallW h n args)
 | some none=>om (stepW op e h nid) fun x=>⟨x.1,applyW h x.2,n,false,readsOf e op,x.2.map (·.1)⟩
def evOpW (C:WProg) (run:WRun) (o:COper) (nid:Nat) (e:Env) (h:WHeap) (n:Nat):Option WDid :=
 match wants e o.guard with
 | none=>none
 | some false=>some ⟨.tup [],h,n,false,[],[]⟩
 | some true=>evActW C run o.op nid e h n
def evOpsW (C:WProg) (run:WRun):List COper→WSt→Option WSt
 | [],s=>some s
 | o::r,s=>ob (evOpW C run o s.next s.env s.heap (s.next+1)) fun d=>evOpsW C run r ⟨setD s.env o.dst d.v,d.h,d.n⟩
def quietW (d:WDid):Bool:=!d.bar&&(d.wr.isEmpty&&d.rd.isEmpty)
def hitL (rd wr rd' wr':List Nat):Bool :=
 match wr with
 | []=>true
 | k::w=>(rd'++wr').any (fun c=>decide (k≤c))||(meets w wr'||(meets w rd'||meets rd wr'))
def clashW (a b:WDid):Bool:=!(quietW a||quietW b)&&(if a.bar=true then b.bar||hitL a.rd a.wr b.rd b.wr else if b.bar=true then hitL b.rd b.wr a.rd a.wr else (meets a.wr b.wr||(meets a.wr b.rd||meets a.rd b.wr)))
def evDrawW (C:WProg) (run:WRun):List COper→Nat→WSt→List WDid→Option (WSt × List WDid)
 | [],_,s,ds=>some (s,ds)
 | o::r,nid,s,ds=>ob (evOpW C run o nid s.env s.heap s.next) fun d=>evDrawW C run r (nid+1) ⟨setD s.env o.dst d.v,d.h,d.n⟩ (ds++[d])
def apartW (ds:List WDid) (p:Nat × Nat):Bool :=
 match ds[p.1]?,ds[p.2]? with
 | some a,some b=>!clashW a b
 | _,_=>false
def resOfW (e:Env) (h:WHeap):CRes→Option AV
 | .tmp t=>Pav.get e t
 | .cell t n ag=>match Pav.get e t with
  | some (.ptr b i o)=>wLoadAt n ag o i (Pav.get h b)
  | _=>none
def resultsW (e:Env) (h:WHeap) (rs:List CRes):Option AV:=om (mapO (resOfW e h) rs) tupled
def fnEndW (res:List CRes) (r:Ex × WSt):Option (AV × WHeap × Nat) :=
 match r.1 with
 | .exit _=>none
 | _=>om (resultsW r.2.env r.2.heap res) fun v=>(v,r.2.heap,r.2.next)
abbrev WEv:=Nat→WCode→WSt→Option (Ex × WSt)
def runWithW (C:WProg) (ev:WEv):WRun:=fun f args h n =>
 ob (C.fns.get f) fun fn=>if args.length=fn.np then ob (ev n fn.body ⟨argW 0 args [],h,n⟩) (fnEndW fn.res) else none
def evSeqW (b:WSt→Option (Ex × WSt)) (r:Ex × WSt):Option (Ex × WSt) :=
 match r.1 with
 | .norm=>b r.2
 | _=>some r
def evBlockW (base id:Nat) (a:Ann) (r:Ex × WSt):Option (Ex × WSt) :=
 match r.1 with
 | .norm=>om (canon base a r.2) fun s=>(.norm,s)
 | .exit i=>if i=id then om (canon base a r.2) fun s=>(.norm,s) else some r
 | .ret=>some r
def evCondW (a b:WSt→Option (Ex × WSt)) (v:AV) (s:WSt):Option (Ex × WSt) :=
 match v with
 | .bool t=>if t then a s else b s
 | _=>none
def drawEndW (base:Nat) (un:List (Nat × Nat)) (a:Ann) (r:WSt × List WDid):Option (Ex × WSt) :=
 if un.all (apartW r.2)=true then om (canonF base a r.1) fun s=>(.norm,s) else none
def snapOpW (e:Env) (h:WHeap):COp→Option AV
 | .app z bytes zeros s x=>if zeros=true∨frzBytes≤bytes then none else ob (wElems h z.length (x.ev e)) fun xs=>if xs.2=true then snapOfW h z.length bytes xs.1 (s.ev e) else none
 | _=>none
def evSnapW (o:COper) (e:Env) (h:WHeap):Option AV :=
 match wants e o.guard with
 | some true=>snapOpW e h o.op
 | _=>none
def isoEnvW (e2:Env):List Nat→Env→Env
 | [],e=>e
 | k::r,e=>isoEnvW e2 r (putE e k (isoVal e2 k))
def evIsoW (C:WProg) (run:WRun) (pre:List COper) (ap:COper) (post:List COper) (s:WSt):Option WSt :=
 if lastOk ap post=true then
  ob (evOpsW C run pre s) fun s1=>ob (evSnapW ap s1.env s1.heap) fun v=>om (evOpsW C run post ⟨setD s1.env ap.dst v,[],s1.next⟩) fun s2 =>
   ⟨isoEnvW s2.env ((ap::post).filterMap (·.dst)) s1.env,s1.heap,s2.next⟩
 else none
def evW (C:WProg):Nat→WEv
 | 0,_,_,_=>none
 | n+1,base,c,s =>
  match c with
  | .skip=>some (.norm,s)
  | .ops l a=>ob (evOpsW C (runWithW C (evW C n)) l s) fun s=>om (canonF base a s) fun s=>(.norm,s)
  | .draw l un a=>ob (evDrawW C (runWithW C (evW C n)) l s.next ⟨s.env,s.heap,s.next+l.length⟩ []) (drawEndW base un a)
  | .seq a b=>ob (evW C n base a s) (evSeqW (evW C n base b))
  | .cond c a b=>evCondW (evW C n base a) (evW C n base b) (c.ev s.env) s
  | .block id b a=>ob (evW C n base b s) (evBlockW base id a)
  | .loop a b=>ob (canon base a s) fun s=>ob (evW C n base b s) (evSeqW (evW C n base (.loop a b)))
  | .exit id=>some (.exit id,s)
  | .ret=>some (.ret,s)
  | .fail=>none
  | .prim k=>om (primF k (primArgs (primN k) 0 s.env)) fun v=>(.ret,⟨putE s.env 9 v,s.heap,s.next⟩)
  | .iso pre ap post a=>ob (evIsoW C (runWithW C (evW C n)) pre ap post s) fun s=>om (canonF base a s) fun s=>(.norm,s)
  | .cln zz z b=>match (Pav.get s.env 0).bind isEmptyRo with
   | some z'=>if z'=z∧zz.length=z∧8≤n then some (.ret,⟨[(2,.sl s.next z 0 0 0 true)],Pav.put s.heap s.next (.cells z [] true true),s.next+1⟩) else none
   | none=>evW C n base (clnC zz z b) s
def runW (C:WProg) (n:Nat):WRun:=runWithW C (evW C n)
def callW (C:WProg) (n:Nat) (f:Nat) (args:List AV):Option AV:=pureCallW (runW C n) f args
mutual
def er:AV→AV
 | .ro z es ex=>(match es,ex with
  | [],true=>.nils
  | es,ex=>.ro z es ex)
 | .agg cs=>.agg (erL cs)
 | .fn f cs=>.fn f (erL cs)
 | .tup cs=>.tup (erL cs)
 | v=>v
def erL:List AV→List AV
 | []=>[]
 | v::r=>er v::erL r
end
def erO:Opd→Opd
 | .t s=>.t s
 | .c v=>.c (er v)
def erOp:COp→COp
 | .mv x=>.mv (erO x)
 | .pick c a b=>.pick (erO c) (erO a) (erO b)
 | .alloc z=>.alloc (erL z)
 | .box x=>.box (erO x)
 | .build z ps=>.build (erL z) (ps.map fun p=>(p.1,p.2.1,erO p.2.2))
 | .buildS z len ps=>.buildS (erL z) len (ps.map fun p=>(p.1,erO p.2))
 | .load n ag a=>.load n ag (erO a)
 | .store n a x=>.store n (erO a) (erO x)
 | .nilchk x=>.nilchk (erO x)
 | .bin op x y=>.bin op (erO x) (erO y)
 | .eqv kd ks ne x y=>.eqv kd ks ne (erO x) (erO y)
 | .un op x=>.un op (erO x)
 | .cvt k x=>.cvt k (erO x)
 | .cvs x=>.cvs (erO x)
 | .cvb x=>.cvb (erO x)
 | .mkfn f caps=>.mkfn f (caps.map erO)
 | .mkmap=>.mkmap
 | .mksl z bytes l c=>.mksl (erL z) bytes (erO l) (erO c)
 | .slice z x lo hi mx=>.slice z (erO x) (lo.map erO) (hi.map erO) (mx.map erO)
 | .sliceA n x lo hi=>.sliceA n (erO x) (lo.map erO) (hi.map erO)
 | .fld off x=>.fld off (erO x)
 | .fldv off n ag x=>.fldv off n ag (erO x)
 | .idxs z x i=>.idxs z (erO x) (erO i)
 | .idxa len z x i=>.idxa len z (erO x) (erO i)
 | .idxstr x i=>.idxstr (erO x) (erO i)
 | .idxv len z ag x i=>.idxv len z ag (erO x) (erO i)
 | .look kd z ok m k=>.look kd (er z) ok (erO m) (erO k)
 | .upd kd m k v=>.upd kd (erO m) (erO k) (erO v)
 | .range x=>.range (erO x)
 | .next x=>.next (erO x)
 | .ext i x=>.ext i (erO x)
 | .call f args=>.call f (args.map erO)
 | .callv g args=>.callv (erO g) (args.map erO)
 | .len kd x=>.len kd (erO x)
 | .cap x=>.cap (erO x)
 | .app z bytes zeros s x=>.app (erL z) bytes zeros (erO s) (erO x)
 | .cpy z d s=>.cpy z (erO d) (erO s)
 | .clr z d=>.clr (erL z) (erO d)
 | .mx x y=>.mx (erO x) (erO y)
 | .mn x y=>.mn (erO x) (erO y)
 | .fail=>.fail
def erOper (o:COper):COper:=⟨o.dst,o.guard,erOp o.op⟩
def erC:WCode→CCode
 | .skip=>.skip
 | .ops l a=>.ops (l.map erOper) (maskOf a,frzOf a.grow)
 | .draw l un a=>.draw (l.map erOper) un (maskOf a,frzOf a.grow)
 | .seq a b=>.seq (erC a) (erC b)
 | .cond c a b=>.cond (erO c) (erC a) (erC b)
 | .block id b _=>.block id (erC b)
 | .loop a b=>.loop (maskOf a) (erC b)
 | .exit id=>.exit id
 | .ret=>.ret
 | .fail=>.fail
 | .cln zz _ b=>clnE (erL zz) b
 | .prim k=>.prim k
 | .iso pre ap post a=>.iso (pre.map erOper) (erOper ap) (post.map erOper) (maskOf a,frzOf a.grow)
def erFn (f:WFn):CFn:=⟨f.np,f.res,erC f.body⟩
def erTree:WTree→Tree
 | .leaf=>.leaf
 | .node l k f r=>.node (erTree l) k (erFn f) (erTree r)
def erProg (C:WProg):Prog:=⟨erTree C.fns,C.inl,C.pp⟩
mutual
/-- A constant that has its like. -/
def okV:AV→Bool
 | .ptr _ _ _=>false
 | .sl _ _ _ _ _ _=>false
 | .map _=>false
 | .rop _=>false
 | .undef=>false
 | .ro _ es _=>es.isEmpty
 | .fn _ cs=>okL cs
 | .agg cs=>okL cs
 | .tup cs=>okL cs
 | _=>true
def okL:List AV→Bool
 | []=>true
 | v::r=>okV v&&okL r
end
def okO:Opd→Bool
 | .t _=>true
 | .c v=>okV v
def okOp:COp→Bool
 | .mv x | .box x | .load _ _ x | .nilchk x | .un _ x | .cvt _ x | .cvs x | .cvb x | .fld _ x | .fldv _ _ _ x | .range x | .next x | .ext _ x | .len _ x | .cap x=>okO x
 | .pick c a b | .upd _ c a b=>okO c&&(okO a&&okO b)
 | .alloc z=>okL z
 | .build z ps=>okL z&&ps.all fun p=>okO p.2.2
 | .buildS z _ ps=>okL z&&ps.all fun p=>okO p.2
 | .store _ a x | .bin _ a x | .eqv _ _ _ a x | .idxs _ a x | .idxa _ _ a x | .idxstr a x | .idxv _ _ _ a x | .cpy _ a x | .mx a x | .mn a x=>okO a&&okO x
 | .mkfn _ caps=>caps.all okO
 | .mksl z _ l c=>okL z&&(okO l&&okO c)
 | .sliceA _ x lo hi=>okO x&&((lo.map okO).getD true&&(hi.map okO).getD true)
 | .slice _ x lo hi mx=>okO x&&((lo.map okO).getD true&&((hi.map okO).getD true&&(mx.map okO).getD true))
 | .look _ z _ m k=>okV z&&(okO m&&okO k)
 | .call _ args=>args.all okO
 | .callv g args=>okO g&&args.all okO
 | .app z _ _ s x=>okL z&&(okO s&&okO x)
 | .clr z d=>okL z&&okO d
 | .mkmap | .fail=>true
def okC:WCode→Bool
 | .ops l _=>l.all fun o=>okOp o.op
 | .draw l _ _=>l.all fun o=>okOp o.op
 | .seq a b=>okC a&&okC b
 | .cond c a b=>okO c&&(okC a&&okC b)
 | .block _ b _=>okC b
 | .loop _ b=>okC b
 | .cln zz _ _=>okL zz
 | .iso pre ap post _=>(pre.all fun o=>okOp o.op)&&(okOp ap.op&&post.all fun o=>okOp o.op)
 | _=>true
def okTree:WTree→Bool
 | .leaf=>true
 | .node l _ f r=>okTree l&&(okC f.body&&okTree r)
end Go.Pw
end
section
set_option linter.unusedSimpArgs false
set_option linter.unusedVariables false
namespace Go.Pav
open Go
def avCell:Value→Option AV
 | .bool b=>some (.bool b)
 | .int k n=>some (.int k n)
 | .string s=>some (.str s.data.toList)
 | .pointer none=>some .nilp
 | .slice none 0 0=>some .nils
 | .map none=>some .nilm
 | .nilFunc=>some .nilf
 | .nilIface=>some (.fn 1000000 [])
 | _=>none
def avOf:Value→Option AV
 | .agg cs=>(cs.toList.mapM avCell).map .agg
 | v=>avCell v
def zeroCells (P:Program) (t:TypeId):Option (List AV):=do
 let i ← P.info? t
 let z ← i.zero
 let cs ← z.cells.toList.mapM avCell
 if cs.length=i.size then some cs else none
def sizeT (P:Program) (t:TypeId):Option Nat:=(P.info? t).map (·.size)
def isAggT (P:Program) (t:TypeId):Option Bool :=
 (P.underlying t).map fun
  | .struct _ | .array _ _=>true
  | _=>false
def keyKind (P:Program) (t:TypeId):Option Nat :=
 match P.underlying t with
 | some (.int _)=>some 0
 | some .string=>some 1
 | some .bool=>some 2
 | _=>none
def plainFields (P:Program):Nat→List Field→Option (List Nat)
 | _,[]=>some []
 | k, f :: r => if f.offset = k ∧ f.name ≠ "_" ∧ sizeT P f.type = some 1 then do
  let kd ← keyKind P f.type
  let ks ← plainFields P (k+1) r
  some (kd::ks)
  else none
section
variable (P:Program) (φ:FuncId→Option Nat)
def cOpd:Operand→Option Opd
 | .tmp t=>some (.t t)
 | .const v=>(avOf v).map .c
 | .func f=>(φ f).bind fun g=>if g < 1000000 then some (.c (.fn g [])) else none
 | .global _=>none
def cOpds (xs:List Operand):Option (List Opd):=xs.mapM (cOpd φ)
def cOpt:Option Operand→Option (Option Opd)
 | none=>some none
 | some x=>(cOpd φ x).map some
def cParts (fs:Nat→Option (Nat × Nat)):List (Nat × Operand)→Option (List (Nat × Nat × Opd))
 | []=>some []
 | (i,x)::r=>do
  let (off,n) ← fs i
  let y ← cOpd φ x
  let ys ← cParts fs r
  some ((off,n,y)::ys)
def cElems:List (Nat × Operand)→Option (List (Nat × Opd))
 | []=>some []
 | (i,x)::r=>do
  let y ← cOpd φ x
  let ys ← cElems r
  some ((i,y)::ys)
def cLen:List Operand→List TypeId→Option COp
 | [x],[t]=>do
  let x ← cOpd φ x
  match ← P.underlying t with
  | .string=>some (.len 0 x)
  | .slice _=>some (.len 1 x)
  | .map _ _=>some (.len 2 x)
  | _=>none
 | _,_=>none
def cCap:List Operand→List TypeId→Option COp
 | [x],[t]=>do
  let x ← cOpd φ x
  match ← P.underlying t with
  | .slice _=>some (.cap x)
  | _=>none
 | _,_=>none
def appBytes (s:Opd) (b:Nat):Nat :=
 match s,φ 999999999 with
 | .t k,some j=>if j=800000+k then frzBytes+b else b
 | _,_=>b
def cAppend:List Operand→List TypeId→Option COp
 | [s,x],[t,u]=>do
  let s ← cOpd φ s
  let x ← cOpd φ x
  match ← P.underlying t with
  | .slice e=>do
   let z ← zeroCells P e
   let i ← P.info? e
   if z.length=0∨i.bytes=0∨frzBytes≤i.bytes then none else
   match ← P.underlying u with
   | .int _=>some (.app z i.bytes true s x)
   | .slice _=>some (.app z (appBytes φ s i.bytes) false s x)
   | .string=>some (.app z (appBytes φ s i.bytes) false s x)
   | _=>none
  | _=>none
 | _,_=>none
def cCopy:List Operand→List TypeId→Option COp
 | [d,s],t::_::[]=>do
  let d ← cOpd φ d
  let s ← cOpd φ s
  match ← P.underlying t with
  | .slice e=>do
   let z ← sizeT P e
   if z=0 then none else some (.cpy z d s)
  | _=>none
 | _,_=>none
def cClear:List Operand→List TypeId→Option COp
 | [d],t::[]=>do
  let d ← cOpd φ d
  match ← P.underlying t with
  | .slice e=>do
   let z ← zeroCells P e
   if z.length=0 then none else some (.clr z d)
  | _=>none
 | _,_=>none
def cMax (mx:Bool):List Operand→Option COp
 | [x,y]=>do
  let x ← cOpd φ x
  let y ← cOpd φ y
  some (if mx then .mx x y else .mn x y)
 | _=>none
def cBuiltin (b:Builtin) (args:List Operand) (ts:List TypeId):Option COp :=
 match b with
 | .len=>cLen P φ args ts
 | .cap=>cCap P φ args ts
 | .append=>cAppend P φ args ts
 | .copy=>cCopy P φ args ts
 | .clear=>cClear P φ args ts
 | .max=>cMax φ true args
 | .min=>cMax φ false args
 | _=>none
def cEq (kd:Nat) (ks:List Nat) (op:BinOp) (x y:Opd):Option COp :=
 match op with
 | .eql=>some (.eqv kd ks false x y)
 | .neq=>some (.eqv kd ks true x y)
 | _=>none
def cOp (op:Op):Option COp :=
 match op with
 | .move x | .assign x=>(cOpd φ x).map .mv
 | .pick c a b=>do some (.pick (← cOpd φ c) (← cOpd φ a) (← cOpd φ b))
 | .alloc t=>(zeroCells P t).map .alloc
 | .box _ x=>(cOpd φ x).map .box
 | .build t ps=>do
  let z ← zeroCells P t
  match ← P.underlying t with
  | .struct fs=>do
   let pl ← fs.toList.mapM fun f=>(P.info? f.type).map fun i=>(f.offset,i.size)
   some (.build z (← cParts φ (fun i=>pl[i]?) ps.toList))
  | .array _ e=>do
   let n ← sizeT P e
   some (.build z (← cParts φ (fun i=>some (i * n,n)) ps.toList))
  | _=>none
 | .buildSlice t len ps=>do
  match ← P.underlying t with
  | .slice e=>do
   let z ← zeroCells P e
   if z.length=0∨len * z.length > 2 ^ 24 then none else
   some (.buildS z len (← cElems φ ps.toList))
  | _=>none
 | .load t a=>do some (.load (← sizeT P t) (← isAggT P t) (← cOpd φ a))
 | .store t a x=>do some (.store (← sizeT P t) (← cOpd φ a) (← cOpd φ x))
 | .nilCheck x=>(cOpd φ x).map .nilchk
 | .binOp op t x' y' _=>do
  let x ← cOpd φ x'
  let y ← cOpd φ y'
  match ← P.underlying t with
  | .int _ | .string=>some (.bin op x y)
  | .slice _=>cEq 0 [] op x y
  | .func _ _ _=>cEq 1 [] op x y
  | .pointer _=>cEq 2 [] op x y
  | .map _ _=>cEq 3 [] op x y
  | .bool=>cEq 5 [] op x y
  | .interface _=>match y' with
   | .const .nilIface=>cEq 6 [] op x y
   | _=>none
  | .struct fs=>do
   let ks ← plainFields P 0 fs.toList
   if P.eqGuardType P.depth t=false∧P.stoodInHeld t=false then cEq 4 ks op x y else none
  | _=>none
 | .unOp op _ x=>(cOpd φ x).map (.un op)
 | .convert s t x=>do
  let x ← cOpd φ x
  match ← P.underlying s,← P.underlying t with
  | .int _,.int k=>some (.cvt k x)
  | .string,.string=>some (.cvs x)
  | .slice e,.string=>do
   match ← P.underlying e with
   | .int .u8=>some (.cvb x)
   | _=>none
  | _,_=>none
 | .makeFunc (.func f) first caps=>do
  let g ← φ f
  if first.size=0∧g < 1000000 then some (.mkfn g (← cOpds φ caps.toList)) else none
 | .makeInterface t x=>do
  let x ← cOpd φ x
  match ← P.underlying t with
  | .interface _=>none
  | _=>some (.mkfn (1000001+t) [x])
 | .makeMap _ none=>some .mkmap
 | .makeSlice t l c=>do
  let l ← cOpd φ l
  let c ← cOpd φ c
  match ← P.underlying t with
  | .slice e=>do
   let z ← zeroCells P e
   let i ← P.info? e
   if z.length=0 then none else
   some (.mksl z i.bytes l c)
  | _=>none
 | .slice t x lo hi mx=>do
  let x ← cOpd φ x
  match ← P.underlying t with
  | .slice el=>do
   let z ← sizeT P el
   if z=0 then none else some (.slice z x (← cOpt φ lo) (← cOpt φ hi) (← cOpt φ mx))
  | .string=>do some (.slice 0 x (← cOpt φ lo) (← cOpt φ hi) (← cOpt φ mx))
  | .array n el=>do
   let z ← sizeT P el
   if z=1∧mx=none then some (.sliceA n x (← cOpt φ lo) (← cOpt φ hi)) else none
  | _=>none
 | .fieldAddr t x f=>do
  let x ← cOpd φ x
  match ← P.underlying t with
  | .struct fs=>do
   let f ← fs[f]?
   if (← sizeT P f.type)=0 then none else some (.fld f.offset x)
  | _=>none
 | .field t x f=>do
  let x ← cOpd φ x
  match ← P.underlying t with
  | .struct fs=>do
   let f ← fs[f]?
   some (.fldv f.offset (← sizeT P f.type) (← isAggT P f.type) x)
  | _=>none
 | .indexAddr t x i=>do
  let x ← cOpd φ x
  let i ← cOpd φ i
  match ← P.underlying t with
  | .slice e=>do
   let n ← sizeT P e
   if n=0 then none else some (.idxs n x i)
  | .array len e=>do
   let n ← sizeT P e
   if n=0 then none else some (.idxa len n x i)
  | _=>none
 | .index t x i=>do
  let x ← cOpd φ x
  let i ← cOpd φ i
  match ← P.underlying t with
  | .string=>some (.idxstr x i)
  | .array len e=>do some (.idxv len (← sizeT P e) (← isAggT P e) x i)
  | _=>none
 | .lookup t m k ok=>do
  let m ← cOpd φ m
  let k ← cOpd φ k
  match ← P.underlying t with
  | .map kt et=>do
   let i ← P.info? et
   let z ← i.zero
   let z ← avOf z
   let kd ← keyKind P kt
   some (.look kd z ok m k)
  | _=>none
 | .mapUpdate t m k v | .insert t m k v=>do
  let m ← cOpd φ m
  let k ← cOpd φ k
  let v ← cOpd φ v
  match ← P.underlying t with
  | .map kt _=>do some (.upd (← keyKind P kt) m k v)
  | _=>none
 | .range t x=>do
  let x ← cOpd φ x
  match ← P.underlying t with
  | .string=>some (.range x)
  | _=>none
 | .next x true=>(cOpd φ x).map .next
 | .extract x i=>if i < 1000000 then (cOpd φ x).map (.ext i) else none
 | .call c=>match c.callee with
  | .value (.func f)=>do
   let g ← φ f
   some (.call g (← cOpds φ c.args.toList))
  | .value g=>do some (.callv (← cOpd φ g) (← cOpds φ c.args.toList))
  | .builtin b=>cBuiltin P φ b c.args.toList c.argTypes.toList
  | .invoke _ _=>none
 | _=>none
def cOper (ops:Array Oper) (o:Oper):COper :=
 let g:Option (Option (Nat × Bool)):=match o.guard with
  | none=>some none
  | some (j,w)=>((ops[j]?).bind (·.dst)).map fun d=>some (d,w)
 match g,cOp P φ o.op with
 | some g,some op=>⟨o.dst,g,op⟩
 | _,_=>⟨o.dst,none,.fail⟩
def Opd.slot:Opd→List Nat
 | .t s=>[s]
 | .c _=>[]
def optSlot:Option Opd→List Nat
 | none=>[]
 | some x=>x.slot
def COp.slots:COp→List Nat
 | .mv x | .box x | .nilchk x | .un _ x | .cvt _ x | .cvs x | .cvb x | .fld _ x | .fldv _ _ _ x | .range x | .next x | .ext _ x | .len _ x | .cap x | .load _ _ x | .clr _ x=>x.slot
 | .pick a b c | .upd _ a b c=>a.slot++b.slot++c.slot
 | .alloc _ | .mkmap | .fail=>[]
 | .build _ ps=>ps.flatMap fun p=>p.2.2.slot
 | .buildS _ _ ps=>ps.flatMap fun p=>p.2.slot
 | .store _ a x | .bin _ a x | .eqv _ _ _ a x | .mksl _ _ a x | .idxs _ a x | .idxa _ _ a x | .idxstr a x | .idxv _ _ _ a x | .look _ _ _ a x | .app _ _ _ a x | .cpy _ a x | .mx a x | .mn a x=>a.slot++x.slot
 | .mkfn _ xs | .call _ xs=>xs.flatMap Opd.slot
 | .callv g xs=>g.slot++xs.flatMap Opd.slot
 | .slice _ x a b c=>x.slot++optSlot a++optSlot b++optSlot c
 | .sliceA _ x a b=>x.slot++optSlot a++optSlot b
def COper.slots (o:COper):List Nat:=o.op.slots++(match o.guard with | some (s,_)=>[s] | none=>[])
def orBits (m:Nat):List Nat→Nat
 | []=>m
 | s::r=>orBits (m ||| 2 ^ s) r
def offBit (m s:Nat):Nat:=if m.testBit s then m - 2 ^ s else m
def liveOps:List COper→Nat→Nat
 | [],out=>out
 | o::r,out =>
  let m:=liveOps r out
  let m:=match o.dst with
   | some d=>offBit m d
   | none=>m
  orBits m o.slots
def liveC (rm:Nat):CCode→Nat→List (Nat × Nat)→CCode × Nat
 | .skip,out,_=>(.skip,out)
 | .ops l _,out,_=>(.ops l (out,[]),liveOps l out)
 | .draw l un _,out,_=>(.draw l un (out,[]),liveOps l out)
 | .seq a b,out,ex =>
  let (b,m):=liveC rm b out ex
  let (a,m):=liveC rm a m ex
  (.seq a b,m)
 | .cond c a b,out,ex =>
  let (a,m):=liveC rm a out ex
  let (b,k):=liveC rm b out ex
  (.cond c a b,orBits (m ||| k) c.slot)
 | .block id b,out,ex =>
  let (b,m):=liveC rm b out ((id,out)::ex)
  (.block id b,m)
 | .loop _ b,_,ex =>
  let m:=(liveC rm b 0 ex).2
  let m:=(liveC rm b m ex).2
  let m:=m ||| (liveC rm b m ex).2
  (.loop m (liveC rm b m ex).1,m)
 | .exit id,_,ex=>(.exit id,(get ex id).getD 0)
 | .ret,_,_=>(.ret,rm)
 | .fail,_,_=>(.fail,0)
 | .prim k,_,_=>(.prim k,0)
 | .iso pre ap post _,out,_=>(.iso pre ap post (out,[]),liveOps (pre++ap::post) out)
def ancestors (ops:List Oper):List Nat :=
 (ops.foldl (fun acc o=>acc.push (o.after.toList.foldl (fun s e=>if Region.binds .any e then s ||| 2 ^ e.on ||| acc.getD e.on 0 else s) 0)) (#[]:Array Nat)).toList
def edgesOk:Nat→List Oper→Bool
 | _,[]=>true
 | k,o::r=>o.after.toList.all (fun e=>!Region.binds .any e||Nat.blt e.on k)&&edgesOk (k+1) r
def touches:COp→Bool
 | .sliceA _ _ _ _=>true
 | .load _ _ _ | .store _ _ _ | .alloc _ | .box _ | .buildS _ _ _ | .mkmap | .mksl _ _ _ _ | .look _ _ _ _ _ | .upd _ _ _ _ | .range _ | .next _ | .call _ _ | .callv _ _ | .len _ _ | .app _ _ _ _ _ | .cpy _ _ _ | .clr _ _=>true
 | _=>false
def writes:COp→Bool
 | .store _ _ _ | .sliceA _ _ _ _ | .upd _ _ _ _ | .next _ | .call _ _ | .callv _ _ | .app _ _ _ _ _ | .cpy _ _ _ | .clr _ _=>true
 | _=>false
def mayClash (a b:COp):Bool:=touches a&&touches b&&(writes a||writes b||a.makes||b.makes)
def callDeep:COp→Bool
 | .call f _=>isDp f
 | .callv _ _=>true
 | _=>false
def isCall:COp→Bool
 | .call _ _=>true
 | .callv _ _=>true
 | _=>false
def slotsApart (a b:COper):Bool :=
 !((callDeep a.op&&isCall b.op)||(isCall a.op&&callDeep b.op)) &&
 ((match a.dst with | some d=>!(b.slots.contains d)&&!(b.dst == some d) | none=>true) &&
 (match b.dst with | some d=>!(a.slots.contains d) | none=>true))
def unordered (anc:List Nat):List (Nat × Nat) :=
 (List.range anc.length).flatMap fun j=>(List.range j).filterMap fun i=>if ((anc.getD j 0).testBit i) then none else some (i,j)
def cRegion (ops:Array Oper) (draw:Bool):CCode :=
 let l:=ops.toList.map (cOper P φ ops)
 match draw with
 | false=>.ops l (0,[])
 | true =>
  let anc:=ancestors ops.toList
  let un:=unordered anc
  if edgesOk 0 ops.toList&&un.all (fun p=>slotsApart (l.getD p.1 default) (l.getD p.2 default)) then
   .draw l (un.filter fun p=>mayClash (l.getD p.1 default).op (l.getD p.2 default).op) (0,[])
  else .fail
def topId:Nat:=999999
def gotoId (l:Nat):Nat:=1000000+2 * l
def outId (l:Nat):Nat:=1000001+2 * l
def jumpsTo (p:Nat→Bool):Code→Bool
 | .goto l=>p l
 | .seq a b=>jumpsTo p a&&jumpsTo p b
 | .cond _ a b=>jumpsTo p a&&jumpsTo p b
 | .block _ b=>jumpsTo p b
 | .loop b=>jumpsTo p b
 | .scope b=>jumpsTo p b
 | .rangeFunc _ _ a b=>jumpsTo p a&&jumpsTo p b
 | _=>true
def noJump:Code→Bool:=jumpsTo fun _=>false
def isLabel:Code→Option Nat
 | .label l=>some l
 | _=>none
def spineLab:Code→Option Nat
 | .seq a b=>match isLabel a with
  | some l=>some l
  | none=>spineLab b
 | _=>none
def spineOk (l:Nat):Code→Bool
 | .seq a b=>match isLabel a with
  | some l'=>decide (l'=l)&&jumpsTo (fun k=>decide (k=l)) b
  | none=>noJump a&&(findLabel a l).isNone&&spineOk l b
 | _=>false
mutual
def cCode:Code→CCode
 | .skip=>.skip
 | .region _ ops draw=>cRegion P φ ops draw
 | .seq a b=>.seq (cCode a) (cCode b)
 | .cond c a b=>match cOpd φ c with
  | some c=>.cond c (cCode a) (cCode b)
  | none=>.fail
 | .block id b=>.block id (cCode b)
 | .loop b=>.loop 0 (cCode b)
 | .scope b=>match noJump b with
  | true=>.seq (cCode b) .skip
  | false=>cSpine b
 | .label _=>.skip
 | .goto l=>.exit (gotoId l)
 | .exit id=>.exit id
 | .ret=>.ret
 | _=>.fail
/-- Statements of which one is jumped back to. -/
def cSpine:Code→CCode
 | .seq a b=>match isLabel a with
  | some l=>.block (outId l) (.loop 0 (.block (gotoId l) (.seq (cCode b) (.exit (outId l)))))
  | none=>.seq (cCode a) (cSpine b)
 | _=>.fail
end
def cRes:ResultVar→Option CRes
 | .tmp t=>some (.tmp t)
 | .cell t ty=>do some (.cell t (← sizeT P ty) (← isAggT P ty))
def CRes.slot:CRes→Nat
 | .tmp t=>t
 | .cell t _ _=>t
def codeFits (nt:Nat):Code→Bool
 | .region _ ops _=>ops.toList.all fun o=>match o.dst with | some d=>Nat.blt d nt | none=>true
 | .seq a b=>codeFits nt a&&codeFits nt b
 | .cond _ a b=>codeFits nt a&&codeFits nt b
 | .block id b=>Nat.blt id topId&&codeFits nt b
 | .loop b=>codeFits nt b
 | .scope b=>codeFits nt b&&(noJump b||match spineLab b with | some l=>spineOk l b | none=>false)
 | .exit id=>Nat.blt id topId
 | _=>true
def isDefer:Op→Bool
 | .defer _=>true
 | _=>false
def hasDefer:Code→Bool
 | .region _ ops _=>ops.toList.any fun o=>isDefer o.op
 | .seq a b=>hasDefer a||hasDefer b
 | .cond _ a b=>hasDefer a||hasDefer b
 | .block _ b=>hasDefer b
 | .loop b=>hasDefer b
 | .scope b=>hasDefer b
 | .rangeFunc _ _ _ _=>true
 | _=>false
def inDst (t:Nat):Code→Bool
 | .region _ ops _=>ops.toList.any fun o=>match o.dst with | some d=>Nat.beq d t | none=>false
 | .seq a b=>inDst t a||inDst t b
 | .cond _ a b=>inDst t a||inDst t b
 | .block _ b=>inDst t b
 | .loop b=>inDst t b
 | .scope b=>inDst t b
 | .rangeFunc _ _ _ _=>true
 | _=>false
def retTo:CCode→CCode
 | .ret=>.exit topId
 | .seq a b=>.seq (retTo a) (retTo b)
 | .cond c a b=>.cond c (retTo a) (retTo b)
 | .block id b=>.block id (retTo b)
 | .loop m b=>.loop m (retTo b)
 | c=>c
def deferred (ops:List Oper):Option (List Oper × Nat × FuncId) :=
 match ops.reverse with
 | d::mk::r=>match d.op,d.dst,d.guard,mk.op,mk.dst,mk.guard with
  | .defer ⟨.value (.tmp t),args,_⟩,none,none,.makeFunc (.func f) _ _,some t',none=>if t=t'∧args.size=0 then some ((mk::r).reverse,t,f) else none
  | _,_,_,_,_,_=>none
 | _=>none
def plainAt (P:Program) (f:FuncId):Bool :=
 match P.funcs[f]? with
 | some fn=>fn.params.size == 0&&((fn.body.map hasDefer) == some false)
 | none=>false
def cDefer:Code→CCode
 | .seq a b=>match a with
  | .region _ ops false=>match deferred ops.toList with
   | some (l,t,f) =>
    if inDst t b=false∧plainAt P f=true∧hasDefer b=false then
     .seq (.ops (l.map (cOper P φ ops)) (0,[])) (.seq (.block topId (retTo (cCode P φ b))) (.ops [⟨none,none,.callv (.t t) []⟩] (0,[])))
    else .fail
   | none=>.seq (cCode P φ a) (cDefer b)
  | _=>.seq (cCode P φ a) (cDefer b)
 | _=>.fail
def cBody (c:Code):CCode:=match hasDefer c with
 | true=>cDefer P φ c
 | false=>cCode P φ c
def cFn (fn:Func):Option CFn:=do
 let c ← fn.body
 if codeFits fn.ntmps c=false then none else
 let res ← fn.results.toList.mapM (cRes P)
 let rm:=orBits 0 (res.map CRes.slot)
 if fn.name = "runtime.NumGoroutine" then none else
 some ⟨fn.params.size+fn.nfree,res,(liveC rm (cBody P φ c) rm []).1⟩
end
end Go.Pav
end
section
set_option linter.unusedSimpArgs false
set_option linter.unusedVariables false
namespace Go.Pav
open Go
section lists
variable {α:Type}
theorem get_put (l:List (Nat × α)) (n:Nat) (x:α) (k:Nat):get (put l n x) k=if n=k then some x else get l k:=by
 induction l with
 | nil=>simp [put,get]
 | cons a r ih =>
  obtain ⟨j,v⟩:=a
  simp only [put]
  by_cases h1:j=n
  · subst h1
    simp only [if_true,get]
    by_cases h2:j=k <;> simp [h2]
  · simp only [h1,if_false]
    by_cases h2:n≤j
    · simp only [h2,if_true,get]
    · simp only [h2,if_false,get,ih]
      by_cases h3:j=k
      · subst h3;simp [Ne.symm h1]
      · simp [h3]
theorem get_del (l:List (Nat × α)) (n k:Nat):get (del l n) k=if n=k then none else get l k:=by
 induction l with
 | nil=>simp [del,get]
 | cons a r ih =>
  obtain ⟨j,v⟩:=a
  simp only [del]
  by_cases h1:j=n
  · subst h1
    simp only [if_true,ih,get]
    by_cases h2:j=k <;> simp [h2]
  · simp only [h1,if_false,get,ih]
    by_cases h3:j=k
    · subst h3;simp [Ne.symm h1]
    · simp [h3]
theorem get_keep (m:Nat) (l:List (Nat × α)) (k:Nat):get (Pav.keep m l) k=if m.testBit k then get l k else none:=by
 induction l with
 | nil=>simp [Pav.keep,get]
 | cons a r ih =>
  obtain ⟨j,v⟩:=a
  simp only [Pav.keep]
  by_cases h1:m.testBit j=true
  · simp only [h1,if_true,get,ih]
    by_cases h3:j=k
    · subst h3;simp [h1]
    · simp [h3]
  · rw [if_neg h1,ih]
    simp only [get]
    by_cases h3:j=k
    · subst h3;simp [h1]
    · simp [h3]
theorem get_mem {l:List (Nat × α)} {k:Nat} {x:α} (h:get l k=some x):(k,x) ∈ l:=by
 induction l with
 | nil=>simp [get] at h
 | cons a r ih =>
  obtain ⟨j,v⟩:=a
  simp only [get] at h
  by_cases h1:j=k
  · simp [h1] at h;subst h;subst h1;simp
  · simp [h1] at h;exact List.mem_cons_of_mem _ (ih h)
end lists
theorem ob_some {α β:Type} {x:Option α} {f:α→Option β} {b:β} (h:ob x f=some b):∃ a,x=some a∧f a=some b:=by
 cases x with
 | none=>simp [ob] at h
 | some a=>exact ⟨a,rfl,h⟩
theorem om_some {α β:Type} {x:Option α} {f:α→β} {b:β} (h:om x f=some b):∃ a,x=some a∧f a=b:=by
 cases x with
 | none=>simp [om] at h
 | some a=>exact ⟨a,rfl,by simpa [om] using h⟩
theorem og_some {β:Type} {c:Bool} {x:Option β} {b:β} (h:og c x=some b):c=true∧x=some b:=by
 cases c with
 | false=>simp [og] at h
 | true=>exact ⟨rfl,h⟩
theorem mapO_some {α β:Type} {f:α→Option β}:∀ {l:List α} {r:List β},mapO f l=some r→r.length=l.length∧∀ (i:Nat) (a:α),l[i]?=some a→∃ b,r[i]?=some b∧f a=some b:=by
 intro l
 induction l with
 | nil=>intro r h;simp [mapO] at h;subst h;simp
 | cons a l ih =>
  intro r h
  simp only [mapO] at h
  obtain ⟨b,hb,h⟩:=ob_some h
  obtain ⟨bs,hbs,rfl⟩:=om_some h
  obtain ⟨hl,hi⟩:=ih hbs
  refine ⟨by simp [hl],?_⟩
  intro i x hx
  cases i with
  | zero=>simp at hx;subst hx;exact ⟨b,by simp,hb⟩
  | succ i=>simpa using hi i x (by simpa using hx)
inductive FnV (ψ:Psi) (f:Nat) (vs:Array Value):Value→Prop
 | fn (h:f < 1000000):FnV ψ f vs (.func (.func (ψ f)) #[] vs)
 | nil (h:f=1000000):FnV ψ f vs .nilIface
 | ifc (t:TypeId) (h:f=1000001+t) (h1:vs.size=1):FnV ψ f vs (.iface t (vs.getD 0 undef))
theorem FnV.one {ψ:Psi} {f:Nat} {vs:Array Value} {c:Value} (h:FnV ψ f vs c):c.cells=#[c]∧c.oneCell'=true:=by cases h <;> exact ⟨rfl,rfl⟩
inductive VR (ψ:Psi) (w:World) (S:Nat→Prop) (m:Nat→Nat × Nat):(Nat→Prop)→AV→Value→Prop
 | undef {A:Nat→Prop} (v:Value):VR ψ w S m A .undef v
 | bool {A:Nat→Prop} (b:Bool):VR ψ w S m A (.bool b) (.bool b)
 | int {A:Nat→Prop} (k:IntKind) (n:Int):VR ψ w S m A (.int k n) (.int k n)
 | str {A:Nat→Prop} (s:List UInt8):VR ψ w S m A (.str s) (.string ⟨⟨s⟩⟩)
 | nilp {A:Nat→Prop}:VR ψ w S m A .nilp (.pointer none)
 | nils {A:Nat→Prop}:VR ψ w S m A .nils (.slice none 0 0)
 | nilm {A:Nat→Prop}:VR ψ w S m A .nilm (.map none)
 | nilf {A:Nat→Prop}:VR ψ w S m A .nilf .nilFunc
 | ro {A:Nat→Prop} (z:Nat) (es:List (List AV)) (ex:Bool) (b off cap:Nat) (cs:Nat→Nat→Value) (hS:S b)
  (hz:∀ (i:Nat) (e:List AV),es[i]?=some e→e.length=z) (hc:es.length≤cap) (hx:ex=true→cap=es.length)
  (hcell:∀ (i:Nat) (e:List AV) (j:Nat) (x:AV),es[i]?=some e→e[j]?=some x→x.cell=true∧w.cell? ⟨b,off+i * z+j,none⟩=some (cs i j))
  (hrep:∀ (i:Nat) (e:List AV) (j:Nat) (x:AV),es[i]?=some e→e[j]?=some x→VR ψ w S m (fun _=>False) x (cs i j)) :
  VR ψ w S m A (.ro z es ex) (.slice (some ⟨b,off,none⟩) es.length cap)
 | roe {A:Nat→Prop} (z:Nat) (ex:Bool) (a:Addr) (k:Nat) (hk:ex=true→k=0):VR ψ w S m A (.ro z [] ex) (.slice (some a) 0 k)
 | rop {A:Nat→Prop} (cs:List AV) (b off:Nat) (vs:Nat→Value) (hS:S b)
  (hcell:∀ (j:Nat) (x:AV),cs[j]?=some x→x.cell=true∧w.cell? ⟨b,off+j,none⟩=some (vs j))
  (hrep:∀ (j:Nat) (x:AV),cs[j]?=some x→VR ψ w S m (fun _=>False) x (vs j)) :
  VR ψ w S m A (.rop cs) (.pointer (some ⟨b,off,none⟩))
 | ptr {A:Nat→Prop} (b i o:Nat) (hA:A b):VR ψ w S m A (.ptr b i o) (.pointer (some ⟨(m b).1,i * (m b).2+o,none⟩))
 | sl {A:Nat→Prop} (b z i len cap:Nat) (ex:Bool) (c:Nat) (hA:A b) (hz:(m b).2=z) (hl:len≤c) (hc:cap≤c) (hx:ex=true→c=cap)
  (hrow:∃ cur t fr,w.heap[(m b).1]?=some (.cells cur t fr)∧(i+c) * z≤cur.size) :
  VR ψ w S m A (.sl b z i len cap ex) (.slice (some ⟨(m b).1,i * z,none⟩) len c)
 | map {A:Nat→Prop} (b:Nat) (hA:A b):VR ψ w S m A (.map b) (.map (some (m b).1))
 | fn {A:Nat→Prop} (f:Nat) (caps:List AV) (vs:Array Value) (hn:vs.size=caps.length)
  (hc:∀ (j:Nat) (x:AV),caps[j]?=some x→VR ψ w S m A x (vs.getD j undef)) (c:Value) (hf:FnV ψ f vs c):VR ψ w S m A (.fn f caps) c
 | agg {A:Nat→Prop} (cs:List AV) (vs:Array Value) (hn:vs.size=cs.length)
  (hcell:∀ (j:Nat) (x:AV),cs[j]?=some x→x.cell=true) (hc:∀ (j:Nat) (x:AV),cs[j]?=some x→VR ψ w S m A x (vs.getD j undef)):VR ψ w S m A (.agg cs) (.agg vs)
 | tup {A:Nat→Prop} (cs:List AV) (vs:Array Value) (hn:vs.size=cs.length)
  (hc:∀ (j:Nat) (x:AV),cs[j]?=some x→VR ψ w S m A x (vs.getD j undef)):VR ψ w S m A (.tup cs) (.tuple vs)
structure Le (w:World) (S:Nat→Prop) (m:Nat→Nat × Nat) (A:Nat→Prop) (w':World) (S':Nat→Prop) (m':Nat→Nat × Nat) (A':Nat→Prop):Prop where
 kept:∀ b,S b→w'.heap[b]?=w.heap[b]?
 rows:∀ (b:Nat) c t fr,w.heap[b]?=some (.cells c t fr)→∃ c',w'.heap[b]?=some (.cells c' t fr)∧c'.size=c.size
 size:w.heap.size≤w'.heap.size
 sub:∀ b,S b→S' b
 made:∀ b,A b→A' b
 same:∀ b,A b→m' b=m b
theorem Le.refl (w:World) (S:Nat→Prop) (m:Nat→Nat × Nat) (A:Nat→Prop):Le w S m A w S m A :=
 ⟨fun _ _=>rfl,fun _ c _ _ h=>⟨c,h,rfl⟩,Nat.le_refl _,fun _ h=>h,fun _ h=>h,fun _ _=>rfl⟩
theorem Le.trans {w w1 w2:World} {S S1 S2:Nat→Prop} {m m1 m2:Nat→Nat × Nat} {A A1 A2:Nat→Prop} (h:Le w S m A w1 S1 m1 A1) (h':Le w1 S1 m1 A1 w2 S2 m2 A2):Le w S m A w2 S2 m2 A2 where
 kept b hb:=(h'.kept b (h.sub b hb)).trans (h.kept b hb)
 rows b c t fr hc:=by
  obtain ⟨c1,h1,e1⟩:=h.rows b c t fr hc
  obtain ⟨c2,h2,e2⟩:=h'.rows b c1 t fr h1
  exact ⟨c2,h2,e2.trans e1⟩
 size:=Nat.le_trans h.size h'.size
 sub b hb:=h'.sub b (h.sub b hb)
 made b hb:=h'.made b (h.made b hb)
 same b hb:=(h'.same b (h.made b hb)).trans (h.same b hb)
section
variable {ψ:Psi} {w w':World} {S S':Nat→Prop} {m m':Nat→Nat × Nat} {A A':Nat→Prop}
theorem VR.mono' {v:AV} {c:Value} (h:VR ψ w S m A v c) (hk:∀ b,S b→w'.heap[b]?=w.heap[b]?)
 (hr:∀ (b:Nat) c t fr,w.heap[b]?=some (.cells c t fr)→∃ c',w'.heap[b]?=some (.cells c' t fr)∧c'.size=c.size) (hs:∀ b,S b→S' b) :
 ∀ {A':Nat→Prop},(∀ b,A b→A' b)→(∀ b,A b→m' b=m b)→VR ψ w' S' m' A' v c:=by
 induction h with
 | undef v=>intro A' _ _;exact .undef v
 | bool b=>intro A' _ _;exact .bool b
 | int k n=>intro A' _ _;exact .int k n
 | str s=>intro A' _ _;exact .str s
 | nilp=>intro A' _ _;exact .nilp
 | nils=>intro A' _ _;exact .nils
 | nilm=>intro A' _ _;exact .nilm
 | nilf=>intro A' _ _;exact .nilf
 | roe z ex a k hk=>intro A' _ _;exact .roe z ex a k hk
 | ro z es ex b off cap cs hS hz hc hx hcell _ ih =>
  intro A' _ _
  refine .ro z es ex b off cap cs (hs b hS) hz hc hx (fun i e j x h1 h2=>⟨(hcell i e j x h1 h2).1,?_⟩) (fun i e j x h1 h2=>ih i e j x h1 h2 (fun _ h=>h) (fun _ h=>h.elim))
  rw [← (hcell i e j x h1 h2).2]
  exact World.cell?_of_block (hk b hS)
 | rop cs b off vs hS hcell _ ih =>
  intro A' _ _
  refine .rop cs b off vs (hs b hS) (fun j x h1=>⟨(hcell j x h1).1,?_⟩) (fun j x h1=>ih j x h1 (fun _ h=>h) (fun _ h=>h.elim))
  rw [← (hcell j x h1).2]
  exact World.cell?_of_block (hk b hS)
 | ptr b i o hA=>intro A' ha hm;rw [← hm b hA];exact .ptr b i o (ha b hA)
 | sl b z i len cap ex c hA hz hl hc hx hrow =>
  intro A' ha hm
  obtain ⟨cur,t,fr,h1,h2⟩:=hrow
  obtain ⟨c',h3,h4⟩:=hr _ _ _ _ h1
  have e:=hm b hA
  rw [← e] at hz h3 ⊢
  exact .sl b z i len cap ex c (ha b hA) hz hl hc hx ⟨c',t,fr,h3,by omega⟩
 | map b hA=>intro A' ha hm;rw [← hm b hA];exact .map b (ha b hA)
 | fn f caps vs hn _ c hf ih=>intro A' ha hm;exact .fn f caps vs hn (fun j x h1=>ih j x h1 ha hm) c hf
 | agg cs vs hn hcell _ ih=>intro A' ha hm;exact .agg cs vs hn hcell fun j x h1=>ih j x h1 ha hm
 | tup cs vs hn _ ih=>intro A' ha hm;exact .tup cs vs hn fun j x h1=>ih j x h1 ha hm
theorem VR.mono {v:AV} {c:Value} (h:VR ψ w S m A v c) (le:Le w S m A w' S' m' A'):VR ψ w' S' m' A' v c :=
 h.mono' le.kept le.rows le.sub le.made le.same
theorem VR.one {v:AV} {c:Value} (h:VR ψ w S m A v c) (hv:v.cell=true):c.oneCell'=true:=by
 cases h with
 | fn f caps vs hn hc c hf=>exact hf.one.2
 | _=>simp_all [AV.cell,Value.oneCell']
theorem VR.single {v:AV} {c:Value} (h:VR ψ w S m A v c) (hv:v.cells=[v]) (hc:c.cells=#[c]) (h1:v.cell=true) :
 c.cells.size=v.cells.length∧(∀ (j:Nat) (x:AV),v.cells[j]?=some x→VR ψ w S m A x (c.cells.getD j Go.undef))∧∀ u ∈ c.cells.toList,u.oneCell'=true:=by
 rw [hv,hc]
 refine ⟨rfl,?_,?_⟩
 · intro j x hj
   cases j with
   | zero=>simp at hj;subst hj;simpa using h
   | succ j=>simp at hj
 · intro u hu
   simp at hu
   subst hu
   exact h.one h1
theorem VR.cells {v:AV} {c:Value} (h:VR ψ w S m A v c) (hv:v.cells.all AV.cell=true) :
 c.cells.size=v.cells.length∧(∀ (j:Nat) (x:AV),v.cells[j]?=some x→VR ψ w S m A x (c.cells.getD j Go.undef))∧∀ u ∈ c.cells.toList,u.oneCell'=true:=by
 cases h with
 | agg cs vs hn hcell hc =>
  refine ⟨hn,hc,?_⟩
  intro u hu
  obtain ⟨j,hj,e⟩:=List.getElem_of_mem hu
  have hjs:j < vs.size:=by simpa [Value.cells] using hj
  have hx:cs[j]?=some cs[j]:=List.getElem?_eq_getElem (by omega)
  have h1:=(hc j _ hx).one (hcell j _ hx)
  have e2:vs.getD j Go.undef=u:=by simp only [Array.getD,hjs,dif_pos];simpa [Value.cells] using e
  rwa [e2] at h1
 | undef v=>simp [AV.cells,AV.cell] at hv
 | tup cs vs hn hc=>simp [AV.cells,AV.cell] at hv
 | bool b=>exact VR.single (.bool b) rfl rfl rfl
 | int k n=>exact VR.single (.int k n) rfl rfl rfl
 | str s=>exact VR.single (.str s) rfl rfl rfl
 | nilp=>exact VR.single .nilp rfl rfl rfl
 | nils=>exact VR.single .nils rfl rfl rfl
 | nilm=>exact VR.single .nilm rfl rfl rfl
 | nilf=>exact VR.single .nilf rfl rfl rfl
 | roe z ex a k hk=>exact VR.single (.roe z ex a k hk) rfl rfl rfl
 | ro z es ex b off cap cs hS hz hc hx hcell hrep=>exact VR.single (.ro z es ex b off cap cs hS hz hc hx hcell hrep) rfl rfl rfl
 | rop cs b off vs hS hcell hrep=>exact VR.single (.rop cs b off vs hS hcell hrep) rfl rfl rfl
 | ptr b i o hA=>exact VR.single (.ptr b i o hA) rfl rfl rfl
 | sl b z i len cap ex c hA hz hl hc hx hrow=>exact VR.single (.sl b z i len cap ex c hA hz hl hc hx hrow) rfl rfl rfl
 | map b hA=>exact VR.single (.map b hA) rfl rfl rfl
 | fn f caps vs hn hc c hf=>exact VR.single (.fn f caps vs hn hc c hf) rfl hf.one.1 rfl
end
def OR (ψ:Psi) (w:World) (S:Nat→Prop) (m:Nat→Nat × Nat) (A:Nat→Prop) (bm:Nat × Nat):AObj→Prop
 | .cells z es _=>bm.2=z∧(∀ (i:Nat) (e:List AV),es[i]?=some e→e.length=z)∧∃ c t,w.heap[bm.1]?=some (.cells c t (0,0))∧es.length * z≤c.size ∧
  ∀ (i:Nat) (e:List AV) (j:Nat) (x:AV),es[i]?=some e→e[j]?=some x→x.cell=true∧∃ v,c[i * z+j]?=some v∧VR ψ w S m A x v
 | .map es=>∃ es' clock,w.heap[bm.1]?=some (.map es' clock)∧es'.size=es.length ∧
  ∀ (i:Nat) (k v:AV),es[i]?=some (k,v)→k.cell=true∧∃ x,es'[i]?=some x∧VR ψ w S m A k x.key∧VR ψ w S m A v x.val
 | .iter s pos=>w.heap[bm.1]?=some (.stringIter ⟨⟨s⟩⟩ pos)
def mutab:AObj→Bool
 | .cells _ _ mu=>mu
 | _=>true
structure Inv (ψ:Psi) (N:Nat) (w0:World) (w:World) (S:Nat→Prop) (m:Nat→Nat × Nat) (A:Nat→Prop) (h:Heap):Prop where
 dom:∀ b o,get h b=some o→A b
 obj:∀ b o,get h b=some o→OR ψ w S m A (m b) o
 fro:∀ b o,get h b=some o→mutab o=false→S (m b).1
 live:∀ b o,get h b=some o→mutab o=true→¬ S (m b).1∧N≤(m b).1
 inj:∀ b o b' o',get h b=some o→get h b'=some o'→mutab o=true→mutab o'=true→b≠b'→(m b).1≠(m b').1
 sb:∀ c,S c→c < w.heap.size
 size:N≤w.heap.size
 old:∀ c,c < N→w.heap[c]?=w0.heap[c]?
 os:w.os=w0.os
 out:w.output=w0.output
 laid:∀ c o,ψ.laid c=some o→c < N∧w0.heap[c]?=some o
theorem Inv.laidw {ψ:Psi} {N:Nat} {w0 w:World} {S:Nat→Prop} {m:Nat→Nat × Nat} {A:Nat→Prop} {h:Heap} (i:Inv ψ N w0 w S m A h):∀ c o,ψ.laid c=some o→c < w.heap.size∧w.heap[c]?=some o :=
 fun c o hc=>⟨Nat.lt_of_lt_of_le (i.laid c o hc).1 i.size,(i.old c (i.laid c o hc).1).trans (i.laid c o hc).2⟩
theorem OR.lt {ψ:Psi} {w:World} {S:Nat→Prop} {m:Nat→Nat × Nat} {A:Nat→Prop} {bm:Nat × Nat} {o:AObj} (h:OR ψ w S m A bm o):bm.1 < w.heap.size:=by
 cases o with
 | cells z es mu=>obtain ⟨_,_,c,t,h,_⟩:=h;exact (Array.getElem?_eq_some_iff.1 h).1
 | map es=>obtain ⟨es',clock,h,_⟩:=h;exact (Array.getElem?_eq_some_iff.1 h).1
 | iter s pos=>exact (Array.getElem?_eq_some_iff.1 h).1
theorem OR.mono {ψ:Psi} {w w':World} {S S':Nat→Prop} {m m':Nat→Nat × Nat} {A A':Nat→Prop} {bm:Nat × Nat} {o:AObj} (h:OR ψ w S m A bm o)
 (le:Le w S m A w' S' m' A') (hb:w'.heap[bm.1]?=w.heap[bm.1]?):OR ψ w' S' m' A' bm o:=by
 cases o with
 | cells z es mu =>
  obtain ⟨h0,h1,c,t,h2,h3,h4⟩:=h
  refine ⟨h0,h1,c,t,hb.trans h2,h3,fun i e j x he hx=>?_⟩
  obtain ⟨h5,v,h6,h7⟩:=h4 i e j x he hx
  exact ⟨h5,v,h6,h7.mono le⟩
 | map es =>
  obtain ⟨es',clock,h1,h2,h3⟩:=h
  refine ⟨es',clock,hb.trans h1,h2,fun i k v he=>?_⟩
  obtain ⟨h4,x,h5,h6,h7⟩:=h3 i k v he
  exact ⟨h4,x,h5,h6.mono le,h7.mono le⟩
 | iter s pos=>exact hb.trans h
end Go.Pav
end
section
set_option linter.unusedSimpArgs false
set_option linter.unusedVariables false
namespace Go.Pav
open Go
def updM (m:Nat→Nat × Nat) (nid:Nat) (x:Nat × Nat):Nat→Nat × Nat:=fun b=>if b=nid then x else m b
def addA (A:Nat→Prop) (nid:Nat):Nat→Prop:=fun b=>A b∨b=nid
section
variable {ψ:Psi} {N:Nat} {w0 w w':World} {S:Nat→Prop} {m:Nat→Nat × Nat} {A:Nat→Prop} {h:Heap}
theorem Le.same_heap (hh:w'.heap=w.heap):Le w S m A w' S m A :=
 ⟨fun _ _=>by rw [hh],fun _ c _ _ hc=>⟨c,by rw [hh];exact hc,rfl⟩,by rw [hh];exact Nat.le_refl _,fun _ x=>x,fun _ x=>x,fun _ _=>rfl⟩
theorem Inv.same_heap (i:Inv ψ N w0 w S m A h) (hh:w'.heap=w.heap) (ho:w'.os=w.os) (ht:w'.output=w.output):Inv ψ N w0 w' S m A h where
 dom:=i.dom
 obj b o hb:=(i.obj b o hb).mono (Le.same_heap hh) (by rw [hh])
 fro:=i.fro
 live:=i.live
 inj:=i.inj
 sb c hc:=by rw [hh];exact i.sb c hc
 size:=by rw [hh];exact i.size
 old c hc:=by rw [hh];exact i.old c hc
 os:=ho.trans i.os
 out:=ht.trans i.out
 laid:=i.laid
theorem Le.push {obj:Obj} (hh:w'.heap=w.heap.push obj) (sb:∀ c,S c→c < w.heap.size) {nid:Nat} (hn:¬ A nid) (x:Nat × Nat) :
 Le w S m A w' S (updM m nid x) (addA A nid) where
 kept b hb:=by rw [hh,Array.getElem?_push,if_neg (Nat.ne_of_lt (sb b hb))]
 rows b c t fr hc:=⟨c,by
  have:=(Array.getElem?_eq_some_iff.1 hc).1
  rw [hh,Array.getElem?_push,if_neg (Nat.ne_of_lt this)];exact hc,rfl⟩
 size:=by rw [hh];simp
 sub _ hb:=hb
 made _ hb:=.inl hb
 same b hb:=by
  have:b≠nid:=fun e=>hn (e ▸ hb)
  simp [updM,this]
theorem Inv.push {obj:Obj} (i:Inv ψ N w0 w S m A h) (hh:w'.heap=w.heap.push obj) (ho:w'.os=w.os) (ht:w'.output=w.output) {nid:Nat} (hn:¬ A nid) (z:Nat) (o:AObj)
 (hor:OR ψ w' S (updM m nid (w.heap.size,z)) (addA A nid) (w.heap.size,z) o) (hm:mutab o=true) :
 Inv ψ N w0 w' S (updM m nid (w.heap.size,z)) (addA A nid) (put h nid o):=by
 have le:=Le.push (m:=m) hh i.sb hn (w.heap.size,z)
 have ne:∀ b o',get h b=some o'→b≠nid:=fun b o' hb e=>hn (e ▸ i.dom b o' hb)
 have nsz:¬ S w.heap.size:=fun hs=>Nat.lt_irrefl _ (i.sb _ hs)
 have mof:∀ b,b≠nid→updM m nid (w.heap.size,z) b=m b:=fun b hb=>by simp [updM,hb]
 have mn:updM m nid (w.heap.size,z) nid=(w.heap.size,z):=by simp [updM]
 have blk:∀ c,c < w.heap.size→w'.heap[c]?=w.heap[c]?:=fun c hc=>by rw [hh,Array.getElem?_push,if_neg (Nat.ne_of_lt hc)]
 constructor
 · intro b o' hb
   rw [get_put] at hb
   by_cases e:nid=b
   · exact .inr e.symm
   · rw [if_neg e] at hb;exact .inl (i.dom b o' hb)
 · intro b o' hb
   rw [get_put] at hb
   by_cases e:nid=b
   · rw [if_pos e] at hb
     cases hb
     subst e
     rw [mn];exact hor
   · rw [if_neg e] at hb
     rw [mof b (Ne.symm e)]
     exact (i.obj b o' hb).mono le (blk _ (i.obj b o' hb).lt)
 · intro b o' hb hf
   rw [get_put] at hb
   by_cases e:nid=b
   · rw [if_pos e] at hb;cases hb;rw [hm] at hf;cases hf
   · rw [if_neg e] at hb;rw [mof b (Ne.symm e)];exact i.fro b o' hb hf
 · intro b o' hb hf
   rw [get_put] at hb
   by_cases e:nid=b
   · subst e;rw [mn];exact ⟨nsz,i.size⟩
   · rw [if_neg e] at hb;rw [mof b (Ne.symm e)];exact i.live b o' hb hf
 · intro b o1 b' o2 h1 h2 f1 f2 hne
   rw [get_put] at h1 h2
   by_cases e1:nid=b
   · by_cases e2:nid=b'
     · exact absurd (e1.symm.trans e2) hne
     · rw [if_neg e2] at h2
       subst e1
       rw [mn,mof b' (Ne.symm e2)]
       exact Nat.ne_of_gt (i.obj b' o2 h2).lt
   · rw [if_neg e1] at h1
     by_cases e2:nid=b'
     · subst e2
       rw [mn,mof b (Ne.symm e1)]
       exact Nat.ne_of_lt (i.obj b o1 h1).lt
     · rw [if_neg e2] at h2
       rw [mof b (Ne.symm e1),mof b' (Ne.symm e2)]
       exact i.inj b o1 b' o2 h1 h2 f1 f2 hne
 · intro c hc
   exact Nat.lt_of_lt_of_le (i.sb c hc) le.size
 · exact Nat.le_trans i.size le.size
 · intro c hc
   rw [blk c (Nat.lt_of_lt_of_le hc i.size)]
   exact i.old c hc
 · exact ho.trans i.os
 · exact ht.trans i.out
 · exact i.laid
theorem Le.write {g:Nat} (hg:¬ S g) (hb:∀ b,b≠g→w'.heap[b]?=w.heap[b]?) (hs:w'.heap.size=w.heap.size)
 (hrow:∀ c t fr,w.heap[g]?=some (.cells c t fr)→∃ c',w'.heap[g]?=some (.cells c' t fr)∧c'.size=c.size):Le w S m A w' S m A where
 kept b hS:=hb b (fun e=>hg (e ▸ hS))
 rows b c t fr hc:=by
  by_cases e:b=g
  · subst e;exact hrow c t fr hc
  · exact ⟨c,by rw [hb b e];exact hc,rfl⟩
 size:=by omega
 sub _ x:=x
 made _ x:=x
 same _ _:=rfl
theorem Inv.write (i:Inv ψ N w0 w S m A h) {b:Nat} {o o':AObj} (hget:get h b=some o) (hm:mutab o=true) (hm':mutab o'=true)
 (hb:∀ c,c≠(m b).1→w'.heap[c]?=w.heap[c]?) (hs:w'.heap.size=w.heap.size) (ho:w'.os=w.os) (ht:w'.output=w.output)
 (hrow:∀ c t fr,w.heap[(m b).1]?=some (.cells c t fr)→∃ c',w'.heap[(m b).1]?=some (.cells c' t fr)∧c'.size=c.size)
 (hor:OR ψ w' S m A (m b) o'):Inv ψ N w0 w' S m A (put h b o'):=by
 have le:Le w S m A w' S m A:=Le.write (i.live b o hget hm).1 hb hs hrow
 constructor
 · intro c x hc
   rw [get_put] at hc
   by_cases e:b=c
   · subst e;exact i.dom b o hget
   · rw [if_neg e] at hc;exact i.dom c x hc
 · intro c x hc
   rw [get_put] at hc
   by_cases e:b=c
   · subst e;rw [if_pos rfl] at hc;cases hc;exact hor
   · rw [if_neg e] at hc
     refine (i.obj c x hc).mono le (hb _ ?_)
     cases hx:mutab x with
     | true=>exact i.inj c x b o hc hget hx hm (Ne.symm e)
     | false=>exact fun e2=>(i.live b o hget hm).1 (e2 ▸ i.fro c x hc hx)
 · intro c x hc hf
   rw [get_put] at hc
   by_cases e:b=c
   · rw [if_pos e] at hc;cases hc;rw [hm'] at hf;cases hf
   · rw [if_neg e] at hc;exact i.fro c x hc hf
 · intro c x hc hf
   rw [get_put] at hc
   by_cases e:b=c
   · subst e;exact i.live b o hget hm
   · rw [if_neg e] at hc;exact i.live c x hc hf
 · intro c o1 c' o2 h1 h2 f1 f2 hne
   rw [get_put] at h1 h2
   by_cases e1:b=c
   · by_cases e2:b=c'
     · exact absurd (e1.symm.trans e2) hne
     · rw [if_neg e2] at h2
       subst e1
       exact i.inj b o c' o2 hget h2 hm f2 hne
   · rw [if_neg e1] at h1
     by_cases e2:b=c'
     · subst e2;exact i.inj c o1 b o h1 hget f1 hm hne
     · rw [if_neg e2] at h2;exact i.inj c o1 c' o2 h1 h2 f1 f2 hne
 · intro c hc;rw [hs];exact i.sb c hc
 · rw [hs];exact i.size
 · intro c hc
   rw [hb c]
   · exact i.old c hc
   · have:=(i.live b o hget hm).2;omega
 · exact ho.trans i.os
 · exact ht.trans i.out
 · exact i.laid
theorem Inv.del (i:Inv ψ N w0 w S m A h) (b:Nat):Inv ψ N w0 w S m A (del h b):=by
 have sub:∀ c o,get (Pav.del h b) c=some o→get h c=some o:=by
  intro c o hc
  rw [get_del] at hc
  by_cases e:b=c
  · simp [e] at hc
  · rwa [if_neg e] at hc
 exact ⟨fun c o hc=>i.dom c o (sub c o hc),fun c o hc=>i.obj c o (sub c o hc),fun c o hc=>i.fro c o (sub c o hc),fun c o hc=>i.live c o (sub c o hc),
  fun c o c' o' h1 h2=>i.inj c o c' o' (sub c o h1) (sub c' o' h2),i.sb,i.size,i.old,i.os,i.out,i.laid⟩
theorem Le.adopt {g:Nat} (hg:¬ S g) (hb:∀ b,b≠g→w'.heap[b]?=w.heap[b]?) (hs:w'.heap.size=w.heap.size)
 (hrow:∀ c t fr,w.heap[g]?=some (.cells c t fr)→∃ c',w'.heap[g]?=some (.cells c' t fr)∧c'.size=c.size) {nid:Nat} (hn:¬ A nid) (x:Nat × Nat):Le w S m A w' S (updM m nid x) (addA A nid) where
 kept b hS:=hb b (fun e=>hg (e ▸ hS))
 rows b c t fr hc:=by
  by_cases e:b=g
  · subst e;exact hrow c t fr hc
  · exact ⟨c,by rw [hb b e];exact hc,rfl⟩
 size:=by omega
 sub _ x:=x
 made _ x:=.inl x
 same b hb:=by
  have:b≠nid:=fun e=>hn (e ▸ hb)
  simp [updM,this]
theorem Inv.adopt (i:Inv ψ N w0 w S m A h) {b nid:Nat} {o o':AObj} (hget:get h b=some o) (hm:mutab o=true) (hm':mutab o'=true) (hn:¬ A nid) (z:Nat)
 (hb:∀ c,c≠(m b).1→w'.heap[c]?=w.heap[c]?) (hs:w'.heap.size=w.heap.size) (ho:w'.os=w.os) (ht:w'.output=w.output)
 (hrow:∀ c t fr,w.heap[(m b).1]?=some (.cells c t fr)→∃ c',w'.heap[(m b).1]?=some (.cells c' t fr)∧c'.size=c.size)
 (hor:OR ψ w' S (updM m nid ((m b).1,z)) (addA A nid) ((m b).1,z) o'):Inv ψ N w0 w' S (updM m nid ((m b).1,z)) (addA A nid) (put (Pav.del h b) nid o'):=by
 have hlive:=i.live b o hget hm
 have le:Le w S m A w' S (updM m nid ((m b).1,z)) (addA A nid):=Le.adopt hlive.1 hb hs hrow hn _
 have sub:∀ c x,get (Pav.del h b) c=some x→get h c=some x∧c≠b∧c≠nid:=by
  intro c x hc
  rw [get_del] at hc
  by_cases e:b=c
  · simp [e] at hc
  · rw [if_neg e] at hc
    exact ⟨hc,Ne.symm e,fun e2=>hn (e2 ▸ i.dom c x hc)⟩
 have mof:∀ c,c≠nid→updM m nid ((m b).1,z) c=m c:=fun c hc=>by simp [updM,hc]
 have mn:updM m nid ((m b).1,z) nid=((m b).1,z):=by simp [updM]
 have part:∀ c x,get h c=some x→c≠b→(m c).1≠(m b).1:=by
  intro c x hc hcb
  cases hx:mutab x with
  | true=>exact i.inj c x b o hc hget hx hm hcb
  | false=>exact fun e2=>hlive.1 (e2 ▸ i.fro c x hc hx)
 constructor
 · intro c x hc
   rw [get_put] at hc
   by_cases e:nid=c
   · exact .inr e.symm
   · rw [if_neg e] at hc;exact .inl (i.dom c x (sub c x hc).1)
 · intro c x hc
   rw [get_put] at hc
   by_cases e:nid=c
   · rw [if_pos e] at hc;cases hc;subst e;rw [mn];exact hor
   · rw [if_neg e] at hc
     obtain ⟨q1,q2,q3⟩:=sub c x hc
     rw [mof c q3]
     exact (i.obj c x q1).mono le (hb _ (part c x q1 q2))
 · intro c x hc hf
   rw [get_put] at hc
   by_cases e:nid=c
   · rw [if_pos e] at hc;cases hc;rw [hm'] at hf;cases hf
   · rw [if_neg e] at hc
     obtain ⟨q1,q2,q3⟩:=sub c x hc
     rw [mof c q3];exact i.fro c x q1 hf
 · intro c x hc hf
   rw [get_put] at hc
   by_cases e:nid=c
   · subst e;rw [mn];exact hlive
   · rw [if_neg e] at hc
     obtain ⟨q1,q2,q3⟩:=sub c x hc
     rw [mof c q3];exact i.live c x q1 hf
 · intro c o1 c' o2 h1 h2 f1 f2 hne
   rw [get_put] at h1 h2
   by_cases e1:nid=c
   · by_cases e2:nid=c'
     · exact absurd (e1.symm.trans e2) hne
     · rw [if_neg e2] at h2
       obtain ⟨q1,q2,q3⟩:=sub c' o2 h2
       subst e1
       rw [mn,mof c' q3]
       exact Ne.symm (part c' o2 q1 q2)
   · rw [if_neg e1] at h1
     obtain ⟨q1,q2,q3⟩:=sub c o1 h1
     by_cases e2:nid=c'
     · subst e2
       rw [mn,mof c q3]
       exact part c o1 q1 q2
     · rw [if_neg e2] at h2
       obtain ⟨r1,r2,r3⟩:=sub c' o2 h2
       rw [mof c q3,mof c' r3]
       exact i.inj c o1 c' o2 q1 r1 f1 f2 hne
 · intro c hc;rw [hs];exact i.sb c hc
 · rw [hs];exact i.size
 · intro c hc
   rw [hb c]
   · exact i.old c hc
   · have:=hlive.2;omega
 · exact ho.trans i.os
 · exact ht.trans i.out
 · exact i.laid
theorem Inv.sub (i:Inv ψ N w0 w S m A h) {h':Heap} (sub:∀ c o,get h' c=some o→get h c=some o):Inv ψ N w0 w S m A h' :=
 ⟨fun c o hc=>i.dom c o (sub c o hc),fun c o hc=>i.obj c o (sub c o hc),fun c o hc=>i.fro c o (sub c o hc),fun c o hc=>i.live c o (sub c o hc),
  fun c o c' o' h1 h2=>i.inj c o c' o' (sub c o h1) (sub c' o' h2),i.sb,i.size,i.old,i.os,i.out,i.laid⟩
end
def EnvR (ψ:Psi) (w:World) (S:Nat→Prop) (m:Nat→Nat × Nat) (A:Nat→Prop) (e:Env) (tmps:Array Value):Prop :=
 ∀ s v,get e s=some v→VR ψ w S m A v (tmps.getD s Go.undef)
theorem EnvR.mono {ψ:Psi} {w w':World} {S S':Nat→Prop} {m m':Nat→Nat × Nat} {A A':Nat→Prop} {e:Env} {tmps:Array Value}
 (h:EnvR ψ w S m A e tmps) (le:Le w S m A w' S' m' A'):EnvR ψ w' S' m' A' e tmps:=fun s v hs=>(h s v hs).mono le
theorem EnvR.put {ψ:Psi} {w:World} {S:Nat→Prop} {m:Nat→Nat × Nat} {A:Nat→Prop} {e:Env} {tmps:Array Value} (h:EnvR ψ w S m A e tmps)
 {d:Nat} (hd:d < tmps.size) {v:AV} {c:Value} (hv:VR ψ w S m A v c):EnvR ψ w S m A (put e d v) (tmps.setIfInBounds d c):=by
 intro s x hs
 rw [get_put] at hs
 by_cases e1:d=s
 · subst e1
   rw [if_pos rfl] at hs
   cases hs
   have:(tmps.setIfInBounds d c).getD d Go.undef=c:=by simp [Array.getD,hd]
   rw [this];exact hv
 · rw [if_neg e1] at hs
   have:(tmps.setIfInBounds d c).getD s Go.undef=tmps.getD s Go.undef:=by
    simp only [Array.getD_eq_getD_getElem?]
    rw [Array.getElem?_setIfInBounds_ne e1]
   rw [this];exact h s x hs
theorem EnvR.keep {ψ:Psi} {w:World} {S:Nat→Prop} {m:Nat→Nat × Nat} {A:Nat→Prop} {e:Env} {tmps:Array Value} (h:EnvR ψ w S m A e tmps) (k:Nat) :
 EnvR ψ w S m A (Pav.keep k e) tmps:=by
 intro s v hs
 rw [get_keep] at hs
 by_cases hk:k.testBit s=true
 · rw [if_pos hk] at hs;exact h s v hs
 · rw [if_neg hk] at hs;cases hs
end Go.Pav
end
section
set_option linter.unusedSimpArgs false
set_option linter.unusedVariables false
namespace Go.Pav
open Go
structure Cx (P:Program) (φ:FuncId→Option Nat) (ψ:Psi) (N:Nat) (w0 w:World) (S:Nat→Prop) (m:Nat→Nat × Nat) (A:Nat→Prop) (h:Heap) (e:Env) (a:Act):Prop where
 inv:Inv ψ N w0 w S m A h
 env:EnvR ψ w S m A e a.tmps
 ids:∀ f g,φ f=some g→ψ g=f
def Snd (P:Program) (ψ:Psi) (N:Nat) (w0 w:World) (S:Nat→Prop) (m:Nat→Nat × Nat) (A:Nat→Prop) (x:Sem Next) (h':Heap) (v:AV) (nid:Nat):Prop :=
 ∃ cv w' S' m' A',(x.run P w=.ok (.value cv) w'∨(x.run P w=.ok .skip w'∧cv=Go.undef))∧VR ψ w' S' m' A' v cv∧Inv ψ N w0 w' S' m' A' h'∧Le w S m A w' S' m' A' ∧
  (∀ c,c < N→S' c→S c)∧∀ b,A' b→A b∨b=nid
section
variable {P:Program} {φ:FuncId→Option Nat} {ψ:Psi} {N:Nat} {w0 w:World} {S:Nat→Prop} {m:Nat→Nat × Nat} {A:Nat→Prop} {h:Heap} {e:Env} {a:Act}
theorem Snd.quiet {x:Sem Next} {cv:Value} {v:AV} (i:Inv ψ N w0 w S m A h) (hr:x.run P w=.ok (.value cv) w) (hv:VR ψ w S m A v cv) (nid:Nat) :
 Snd P ψ N w0 w S m A x h v nid :=
 ⟨cv,w,S,m,A,.inl hr,hv,i,Le.refl ..,fun _ _ hs=>hs,fun _ hb=>.inl hb⟩
theorem bytes_eta (s:ByteArray):s=⟨⟨s.data.toList⟩⟩:=by cases s;rfl
theorem avCell_vr {v:Value} {x:AV} (hx:avCell v=some x):VR ψ w S m A x v∧x.cell=true∧x.cells=[x]∧v.cells=#[v]:=by
 unfold avCell at hx
 split at hx <;> first
  | (cases hx;exact ⟨.fn 1000000 [] #[] rfl (by simp) _ (.nil rfl),rfl,rfl,rfl⟩)
  | (cases hx;exact ⟨by constructor,rfl,rfl,rfl⟩)
  | (cases hx;refine ⟨?_,rfl,rfl,rfl⟩;rename_i s;have:=VR.str (ψ:=ψ) (w:=w) (S:=S) (m:=m) (A:=A) s.data.toList;rwa [← bytes_eta s] at this)
  | cases hx
theorem mapM_some {α β:Type} {f:α→Option β}:∀ {l:List α} {r:List β},l.mapM f=some r→r.length=l.length∧∀ (i:Nat) (b:β),r[i]?=some b→∃ a,l[i]?=some a∧f a=some b:=by
 intro l
 induction l with
 | nil=>intro r h;simp at h;subst h;simp
 | cons a l ih =>
  intro r h
  simp only [List.mapM_cons,Option.bind_eq_bind,Option.bind_eq_some_iff,Option.pure_def,Option.some.injEq] at h
  obtain ⟨b,hb,bs,hbs,rfl⟩:=h
  obtain ⟨hl,hi⟩:=ih hbs
  refine ⟨by simp [hl],?_⟩
  intro i x hx
  cases i with
  | zero=>simp at hx;subst hx;exact ⟨a,by simp,hb⟩
  | succ i=>simpa using hi i x (by simpa using hx)
theorem mapM_avCell {cs:Array Value} {r:List AV} (hr:cs.toList.mapM avCell=some r) :
 cs.size=r.length∧(∀ (j:Nat) (x:AV),r[j]?=some x→x.cell=true)∧∀ (j:Nat) (x:AV),r[j]?=some x→VR ψ w S m A x (cs.getD j Go.undef):=by
 obtain ⟨hl,hi⟩:=mapM_some hr
 refine ⟨by simpa using hl.symm,fun j x hx=>?_,fun j x hx=>?_⟩
 · obtain ⟨v,_,h2⟩:=hi j x hx
   exact (avCell_vr (ψ:=ψ) (w:=w) (S:=S) (m:=m) (A:=A) h2).2.1
 · obtain ⟨v,h1,h2⟩:=hi j x hx
   have h3:=(avCell_vr (ψ:=ψ) (w:=w) (S:=S) (m:=m) (A:=A) h2).1
   have:cs.getD j Go.undef=v:=by
    rw [Array.getD_eq_getD_getElem?]
    simp only [Array.getElem?_toList] at h1
    simp [h1]
   rwa [this]
theorem avOf_vr {v:Value} {x:AV} (hx:avOf v=some x):VR ψ w S m A x v:=by
 unfold avOf at hx
 split at hx
 · rename_i cs
   simp only [Option.map_eq_some_iff] at hx
   obtain ⟨r,hr,rfl⟩:=hx
   obtain ⟨h1,h2,h3⟩:=mapM_avCell (ψ:=ψ) (w:=w) (S:=S) (m:=m) (A:=A) hr
   exact .agg r cs h1 h2 h3
 · exact (avCell_vr hx).1
theorem Cx.opd (cx:Cx P φ ψ N w0 w S m A h e a) {x:Operand} {y:Opd} (hy:cOpd φ x=some y):VR ψ w S m A (y.ev e) (a.eval x):=by
 unfold cOpd at hy
 split at hy
 · cases hy
   rename_i t
   simp only [Opd.ev]
   cases hg:get e t with
   | none=>exact .undef _
   | some v=>exact cx.env t v hg
 · simp only [Option.map_eq_some_iff] at hy
   obtain ⟨v,hv,rfl⟩:=hy
   exact avOf_vr hv
 · simp only [Option.bind_eq_some_iff] at hy
   obtain ⟨g,hg,hy⟩:=hy
   split at hy
   · rename_i hlt
     cases hy
     rename_i f
     have:=VR.fn (ψ:=ψ) (w:=w) (S:=S) (m:=m) (A:=A) g [] #[] rfl (by simp) _ (.fn hlt)
     rw [cx.ids f g hg] at this
     exact this
   · cases hy
 · cases hy
theorem Cx.opds (cx:Cx P φ ψ N w0 w S m A h e a) {xs:Array Operand} {ys:List Opd} (hy:cOpds φ xs.toList=some ys) :
 xs.size=ys.length∧∀ (j:Nat) (y:Opd),ys[j]?=some y→∃ x,xs[j]?=some x∧VR ψ w S m A (y.ev e) (a.eval x):=by
 obtain ⟨hl,hi⟩:=mapM_some hy
 refine ⟨by simpa using hl.symm,fun j y hj=>?_⟩
 obtain ⟨x,h1,h2⟩:=hi j y hj
 exact ⟨x,by simpa using h1,cx.opd h2⟩
section inversions
variable {c:Value}
theorem VR.inv_int {k:IntKind} {n:Int} (hv:VR ψ w S m A (.int k n) c):c=.int k n:=by cases hv;rfl
theorem VR.inv_bool {b:Bool} (hv:VR ψ w S m A (.bool b) c):c=.bool b:=by cases hv;rfl
theorem VR.inv_str {s:List UInt8} (hv:VR ψ w S m A (.str s) c):c=.string ⟨⟨s⟩⟩:=by cases hv;rfl
theorem VR.inv_nils (hv:VR ψ w S m A .nils c):c=.slice none 0 0:=by cases hv;rfl
theorem VR.inv_nilp (hv:VR ψ w S m A .nilp c):c=.pointer none:=by cases hv;rfl
theorem VR.inv_nilm (hv:VR ψ w S m A .nilm c):c=.map none:=by cases hv;rfl
theorem VR.inv_nilf (hv:VR ψ w S m A .nilf c):c=.nilFunc:=by cases hv;rfl
theorem VR.inv_ptr {b i o:Nat} (hv:VR ψ w S m A (.ptr b i o) c):A b∧c=.pointer (some ⟨(m b).1,i * (m b).2+o,none⟩):=by cases hv;rename_i h;exact ⟨h,rfl⟩
theorem VR.inv_map {b:Nat} (hv:VR ψ w S m A (.map b) c):A b∧c=.map (some (m b).1):=by cases hv;rename_i h;exact ⟨h,rfl⟩
theorem VR.inv_sl {b z i len cap:Nat} {ex:Bool} (hv:VR ψ w S m A (.sl b z i len cap ex) c):∃ cc,c=.slice (some ⟨(m b).1,i * z,none⟩) len cc∧A b∧(m b).2=z∧len≤cc∧cap≤cc ∧
 (ex=true→cc=cap)∧∃ cur t fr,w.heap[(m b).1]?=some (.cells cur t fr)∧(i+cc) * z≤cur.size:=by
 cases hv with
 | sl b z i len cap ex cc hA hz hl hc hx hrow=>exact ⟨cc,rfl,hA,hz,hl,hc,hx,hrow⟩
theorem VR.inv_ro {z:Nat} {es:List (List AV)} {ex:Bool} (hv:VR ψ w S m A (.ro z es ex) c):(∃ (b off cap:Nat) (cs:Nat→Nat→Value),c=.slice (some ⟨b,off,none⟩) es.length cap∧S b ∧
 (∀ (i:Nat) (e:List AV),es[i]?=some e→e.length=z)∧es.length≤cap∧(ex=true→cap=es.length) ∧
 (∀ (i:Nat) (e:List AV) (j:Nat) (x:AV),es[i]?=some e→e[j]?=some x→x.cell=true∧w.cell? ⟨b,off+i * z+j,none⟩=some (cs i j)) ∧
 ∀ (i:Nat) (e:List AV) (j:Nat) (x:AV),es[i]?=some e→e[j]?=some x→VR ψ w S m (fun _=>False) x (cs i j)) ∨
 (es=[]∧∃ (a:Addr) (k:Nat),c=.slice (some a) 0 k∧(ex=true→k=0)):=by
 cases hv with
 | ro z es ex b off cap cs hS hz hc hx hcell hrep=>exact .inl ⟨b,off,cap,cs,rfl,hS,hz,hc,hx,hcell,hrep⟩
 | roe z ex a k hk=>exact .inr ⟨rfl,a,k,rfl,hk⟩
theorem VR.inv_rop {cs:List AV} (hv:VR ψ w S m A (.rop cs) c):∃ (b off:Nat) (vs:Nat→Value),c=.pointer (some ⟨b,off,none⟩)∧S b ∧
 (∀ (j:Nat) (x:AV),cs[j]?=some x→x.cell=true∧w.cell? ⟨b,off+j,none⟩=some (vs j)) ∧
 ∀ (j:Nat) (x:AV),cs[j]?=some x→VR ψ w S m (fun _=>False) x (vs j):=by
 cases hv with
 | rop cs b off vs hS hcell hrep=>exact ⟨b,off,vs,rfl,hS,hcell,hrep⟩
theorem VR.inv_fn0 {f:Nat} {caps:List AV} (hv:VR ψ w S m A (.fn f caps) c):∃ vs,FnV ψ f vs c∧vs.size=caps.length ∧
 ∀ (j:Nat) (x:AV),caps[j]?=some x→VR ψ w S m A x (vs.getD j Go.undef):=by cases hv;rename_i vs h1 h2 h3;exact ⟨vs,h3,h1,h2⟩
theorem VR.inv_fn {f:Nat} {caps:List AV} (hv:VR ψ w S m A (.fn f caps) c) (hf:f < 1000000):∃ vs,c=.func (.func (ψ f)) #[] vs∧vs.size=caps.length ∧
 ∀ (j:Nat) (x:AV),caps[j]?=some x→VR ψ w S m A x (vs.getD j Go.undef):=by
 obtain ⟨vs,h1,h2⟩:=hv.inv_fn0
 cases h1 with
 | fn h=>exact ⟨vs,rfl,h2⟩
 | nil h=>omega
 | ifc t h=>omega
theorem VR.inv_agg {cs:List AV} (hv:VR ψ w S m A (.agg cs) c):∃ vs,c=.agg vs∧vs.size=cs.length∧(∀ (j:Nat) (x:AV),cs[j]?=some x→x.cell=true) ∧
 ∀ (j:Nat) (x:AV),cs[j]?=some x→VR ψ w S m A x (vs.getD j Go.undef):=by cases hv;rename_i vs h1 h2 h3;exact ⟨vs,rfl,h1,h2,h3⟩
theorem VR.inv_tup {cs:List AV} (hv:VR ψ w S m A (.tup cs) c):∃ vs,c=.tuple vs∧vs.size=cs.length ∧
 ∀ (j:Nat) (x:AV),cs[j]?=some x→VR ψ w S m A x (vs.getD j Go.undef):=by cases hv;rename_i vs h1 h2;exact ⟨vs,rfl,h1,h2⟩
theorem VR.open_ {v:AV} {A':Nat→Prop} (hv:VR ψ w S m (fun _=>False) v c):VR ψ w S m A' v c :=
 hv.mono' (fun _ _=>rfl) (fun _ c _ _ h=>⟨c,h,rfl⟩) (fun _ h=>h) (fun _ h=>h.elim) (fun _ h=>h.elim)
end inversions
theorem nat?_some {n:Int} {k:Nat} (hn:nat? n=some k):n=(k:Int):=by
 cases n with
 | ofNat a=>simp [nat?] at hn;subst hn;rfl
 | negSucc a=>simp [nat?] at hn
theorem ov_some {x:Option AV} {v:AV} {u:Upd} (hx:ov x=some (v,u)):x=some v∧u=[]:=by
 obtain ⟨y,h1,h2⟩:=om_some hx
 cases h2
 exact ⟨h1,rfl⟩
theorem Snd.val {o:Oper} {s:Sem Value} (i:Inv ψ N w0 w S m A h) (hx:execOp a.eval o=(do pure (.value (← s)))) {cv:Value} {v:AV} (hr:s.run P w=.ok cv w) (hv:VR ψ w S m A v cv) (nid:Nat) :
 Snd P ψ N w0 w S m A (execOp a.eval o) h v nid :=
 Snd.quiet i (by rw [hx];simp [hr]) hv nid
theorem bytesLess_eq:∀ (x y:List UInt8),bytesLess x y=Op.bytesLess x y
 | _,[]=>by simp [bytesLess,Op.bytesLess]
 | [],_::_=>rfl
 | a::x,b::y=>by
  simp only [bytesLess,Op.bytesLess,bytesLess_eq x y]
  congr 1
theorem toList_bytes (s:List UInt8):(⟨⟨s⟩⟩:ByteArray).toList=s:=ByteArray.toList_eq _
theorem append_bytes (x y:List UInt8):(⟨⟨x⟩⟩++⟨⟨y⟩⟩:ByteArray)=⟨⟨x++y⟩⟩:=by
 have:(⟨⟨x⟩⟩++⟨⟨y⟩⟩:ByteArray).data=⟨x++y⟩:=by
  rw [ByteArray.data_append]
  simp
 calc (⟨⟨x⟩⟩++⟨⟨y⟩⟩:ByteArray)=⟨(⟨⟨x⟩⟩++⟨⟨y⟩⟩:ByteArray).data⟩:=rfl
  _=_:=by rw [this]
theorem binInt_run {op:BinOp} {t:TypeId} {k:IntKind} {x y:Int} {v:AV} (hv:binInt op k x y=some v) (hs:isShift op=false) (X Y:Operand) :
 ∃ cv,(do eqGuard op t X Y (.int k x) (.int k y);binOp op t (.int k x) (.int k y):Sem Value).run P w=.ok cv w∧VR ψ w S m A v cv:=by
 cases op <;> simp [isShift] at hs <;> simp only [binInt] at hv
 case quo=>split at hv <;> cases hv;refine ⟨_,?_,.int _ _⟩;simp_all [binOp,Op.intDiv,eqGuard_at_int]
 case rem=>split at hv <;> cases hv;refine ⟨_,?_,.int _ _⟩;simp_all [binOp,Op.intDiv,eqGuard_at_int]
 all_goals (cases hv;first | refine ⟨_,?_,.int _ _⟩ | refine ⟨_,?_,.bool _⟩)
 all_goals simp [binOp,Op.intArith,Op.intBits,Op.intCmp,eqGuard_at_int]
theorem shift_run {op:BinOp} {t:TypeId} {k k':IntKind} {x:Int} {n:Nat} {v:AV} (hv:shiftInt op k x n=some v) (X Y:Operand) :
 ∃ cv,(do eqGuard op t X Y (.int k x) (.int k' n);binOp op t (.int k x) (.int k' n):Sem Value).run P w=.ok cv w∧VR ψ w S m A v cv:=by
 have h0:¬ ((n:Int) < 0):=by omega
 cases op <;> simp only [shiftInt] at hv <;> cases hv <;> refine ⟨_,?_,.int _ _⟩ <;> simp [binOp,Op.shift,eqGuard_at_int,h0]
theorem binStr_run {op:BinOp} {t:TypeId} {x y:List UInt8} {v:AV} (hv:binStr op x y=some v) (X Y:Operand) :
 ∃ cv,(do eqGuard op t X Y (.string ⟨⟨x⟩⟩) (.string ⟨⟨y⟩⟩);binOp op t (.string ⟨⟨x⟩⟩) (.string ⟨⟨y⟩⟩):Sem Value).run P w=.ok cv w∧VR ψ w S m A v cv:=by
 have sz:∀ s:List UInt8,(⟨⟨s⟩⟩:ByteArray).size=s.length:=fun s=>rfl
 cases op <;> simp only [binStr] at hv
 case add =>
  split at hv
  · rename_i hl
    cases hv
    refine ⟨_,?_,.str _⟩
    rw [eqGuard_at_string]
    simp only [pure_bind,binOp_string_add]
    have hl':(⟨⟨x⟩⟩:ByteArray).size+(⟨⟨y⟩⟩:ByteArray).size≤9223372036854775807:=by rw [sz,sz];simp only [maxStr] at hl;omega
    rw [run_string_add_sum w ⟨⟨x⟩⟩ ⟨⟨y⟩⟩ hl',append_bytes]
  · cases hv
 all_goals (cases hv)
 all_goals (refine ⟨_,?_,.bool _⟩;rw [eqGuard_at_string];simp only [pure_bind,binOp_string_eql,binOp_string_neq,binOp_string_lss,binOp_string_leq,binOp_string_gtr,binOp_string_geq,Sem.run_pure,toList_bytes,bytesLess_eq])
theorem evBin_run {op:BinOp} {t:TypeId} {x y:AV} {v:AV} (hv:evBin op x y=some v) {cx cy:Value}
 (hx:VR ψ w S m A x cx) (hy:VR ψ w S m A y cy) (X Y:Operand) :
 ∃ cv,(do eqGuard op t X Y cx cy;binOp op t cx cy:Sem Value).run P w=.ok cv w∧VR ψ w S m A v cv:=by
 unfold evBin at hv
 split at hv
 · cases hx.inv_int
   cases hy.inv_int
   by_cases hs:isShift op=true
   · rw [if_pos hs] at hv
     obtain ⟨n,hn,hv⟩:=ob_some hv
     cases nat?_some hn
     exact shift_run hv X Y
   · rw [if_neg hs] at hv
     split at hv
     · rename_i hk
       subst hk
       exact binInt_run hv (by simpa using hs) X Y
     · cases hv
 · cases hx.inv_str
   cases hy.inv_str
   exact binStr_run hv X Y
 · cases hv
end
end Go.Pav
end
section
set_option linter.unusedSimpArgs false
set_option linter.unusedVariables false
namespace Go.Pav
open Go
def CellsAt (ψ:Psi) (w:World) (S:Nat→Prop) (m:Nat→Nat × Nat) (A:Nat→Prop) (cs:List AV) (g off:Nat):Prop :=
 ∀ (j:Nat) (x:AV),cs[j]?=some x→x.cell=true∧∃ u,w.cell? ⟨g,off+j,none⟩=some u∧VR ψ w S m A x u
section
variable {P:Program} {φ:FuncId→Option Nat} {ψ:Psi} {N:Nat} {w0 w:World} {S:Nat→Prop} {m:Nat→Nat × Nat} {A:Nat→Prop} {h:Heap} {e:Env} {a:Act}
theorem CellsAt.drop {cs:List AV} {g off:Nat} (hc:CellsAt ψ w S m A cs g off) (k:Nat):CellsAt ψ w S m A (cs.drop k) g (off+k):=by
 intro j x hx
 rw [List.getElem?_drop] at hx
 obtain ⟨h1,u,h2,h3⟩:=hc _ _ hx
 exact ⟨h1,u,by rw [Nat.add_assoc];exact h2,h3⟩
theorem isAgg_run {t:TypeId} {ag:Bool} (ht:isAggT P t=some ag):(isAgg t).run P w=.ok ag w:=by
 unfold isAggT at ht
 simp only [Option.map_eq_some_iff] at ht
 obtain ⟨d,hd,rfl⟩:=ht
 unfold isAgg
 rw [Sem.run_bind,run_underlying hd]
 cases d <;> rfl
theorem sizeOf_run {t:TypeId} {n:Nat} (ht:sizeT P t=some n):(sizeOf t).run P w=.ok n w:=by
 unfold sizeT at ht
 simp only [Option.map_eq_some_iff] at ht
 obtain ⟨i,hi,rfl⟩:=ht
 simp [sizeOf,typeInfo,hi]
theorem add_row (g off j:Nat):(⟨g,off,none⟩:Addr).add j=⟨g,off+j,none⟩:=Addr.add_lit g off j
theorem loadCells_run {cs:List AV} {g off n:Nat} (hc:CellsAt ψ w S m A cs g off) (hn:n≤cs.length) :
 ∃ vs:Array Value,(loadCells ⟨g,off,none⟩ n).run P w=.ok vs w∧vs.size=n∧(∀ (j:Nat) (x:AV),(cs.take n)[j]?=some x→VR ψ w S m A x (vs.getD j Go.undef)) ∧
  ∀ j,j < n→w.cell? ⟨g,off+j,none⟩=some (vs.getD j Go.undef):=by
 have hf:∀ j,j < n→w.cell? ((⟨g,off,none⟩:Addr).add j)=some ((w.cell? ⟨g,off+j,none⟩).getD Go.undef):=by
  intro j hj
  obtain ⟨_,u,h2,_⟩:=hc j _ (List.getElem?_eq_getElem (by omega))
  rw [add_row,h2];rfl
 have hg:∀ j,j < n→(((List.range n).map fun j=>(w.cell? ⟨g,off+j,none⟩).getD Go.undef).toArray).getD j Go.undef=(w.cell? ⟨g,off+j,none⟩).getD Go.undef:=by
  intro j hj
  rw [Array.getD_eq_getD_getElem?]
  simp [hj]
 refine ⟨_,run_loadCells w ⟨g,off,none⟩ n _ hf,by simp,?_,?_⟩
 · intro j x hx
   rw [List.getElem?_take] at hx
   by_cases hj:j < n
   · rw [if_pos hj] at hx
     obtain ⟨_,u,h2,h3⟩:=hc j x hx
     rw [hg j hj,h2];exact h3
   · rw [if_neg hj] at hx;cases hx
 · intro j hj
   rw [hg j hj]
   have:=hf j hj
   rwa [add_row] at this
theorem loadVar_run {t:TypeId} {n:Nat} {ag:Bool} {cs:List AV} {g off:Nat} {v:AV} (hc:CellsAt ψ w S m A cs g off) (hs:sizeT P t=some n) (hag:isAggT P t=some ag)
 (hl:loadC n ag cs=some v):∃ cv,(loadVar t ⟨g,off,none⟩).run P w=.ok cv w∧VR ψ w S m A v cv:=by
 unfold loadC at hl
 cases ag with
 | true =>
  simp only [if_true] at hl
  by_cases hn:n≤cs.length
  · rw [if_pos hn] at hl
    cases hl
    obtain ⟨vs,h1,h2,h3,_⟩:=loadCells_run (P:=P) hc hn
    refine ⟨.agg vs,?_,.agg _ vs (by simp [h2];omega) (fun j x hx=>?_) h3⟩
    · unfold loadVar
      rw [Sem.run_bind,isAgg_run hag]
      simp only [Result.andThen_ok,if_true,Sem.run_bind,sizeOf_run hs,h1,Sem.run_pure]
    · rw [List.getElem?_take] at hx
      by_cases hj:j < n
      · rw [if_pos hj] at hx;exact (hc j x hx).1
      · rw [if_neg hj] at hx;cases hx
  · rw [if_neg hn] at hl;cases hl
 | false =>
  simp only [Bool.false_eq_true,if_false] at hl
  cases cs with
  | nil=>cases hl
  | cons c r =>
   simp only [List.head?_cons,Option.some.injEq] at hl
   subst hl
   obtain ⟨_,u,h2,h3⟩:=hc 0 c (by simp)
   refine ⟨u,?_,h3⟩
   unfold loadVar
   rw [Sem.run_bind,isAgg_run hag]
   simp only [Nat.add_zero] at h2
   simp [h2]
theorem Inv.cellsAt (i:Inv ψ N w0 w S m A h) {b z k:Nat} {es:List (List AV)} {mu:Bool} {cs:List AV} (hb:get h b=some (.cells z es mu)) (hk:es[k]?=some cs) :
 CellsAt ψ w S m A cs (m b).1 (k * (m b).2):=by
 obtain ⟨h0,h1,c,t,h2,h3,h4⟩:=i.obj b _ hb
 intro j x hx
 obtain ⟨h5,v,h6,h7⟩:=h4 k cs j x hk hx
 refine ⟨h5,v,?_,h7⟩
 rw [h0]
 rw [cell_of_row w _ _ c t _ h2]
 exact h6
theorem sLoad_run {n:Nat} {ag:Bool} {p:AV} {c:Value} {t:TypeId} {v:AV} (i:Inv ψ N w0 w S m A h) (hp:VR ψ w S m A p c) (hs:sizeT P t=some n) (hag:isAggT P t=some ag)
 (hl:loadOf n ag h p=some v) :
 ∃ cv,(Instr.loadAt t c).run P w=.ok cv w∧VR ψ w S m A v cv:=by
 cases p with
 | rop cs =>
  obtain ⟨b,off,vs,rfl,hS,hcell,hrep⟩:=hp.inv_rop
  have hc:CellsAt ψ w S m A _ b off:=fun j x hx=>⟨(hcell j x hx).1,vs j,(hcell j x hx).2,(hrep j x hx).open_⟩
  obtain ⟨cv,h1,h2⟩:=loadVar_run (P:=P) hc hs hag hl
  exact ⟨cv,by simp [Instr.loadAt,Instr.sureAddr,h1],h2⟩
 | ptr b k o =>
  obtain ⟨hA,rfl⟩:=hp.inv_ptr
  simp only [loadOf,loadAt] at hl
  split at hl
  · rename_i z es mu hb
    obtain ⟨cs,hk,hl⟩:=ob_some hl
    obtain ⟨cv,h1,h2⟩:=loadVar_run (P:=P) ((i.cellsAt hb hk).drop o) hs hag hl
    exact ⟨cv,by simp [Instr.loadAt,Instr.sureAddr,h1],h2⟩
  · cases hl
 | _=>cases hl
theorem Snd.newCells {x:Sem Next} {cv:Value} {v:AV} {w':World} (i:Inv ψ N w0 w S m A h) {nid:Nat} (hn:¬ A nid) (hr:x.run P w=.ok (.value cv) w')
 {c:Array Value} {t:TypeId} (hh:w'.heap=w.heap.push (.cells c t (0,0))) (ho:w'.os=w.os) (ht:w'.output=w.output) (z:Nat) (es:List (List AV))
 (hz:∀ (k:Nat) (e:List AV),es[k]?=some e→e.length=z) (hsz:es.length * z≤c.size)
 (hvr:∀ (k:Nat) (e:List AV) (j:Nat) (x:AV),es[k]?=some e→e[j]?=some x→x.cell=true∧∃ u,c[k * z+j]?=some u∧VR ψ w S m A x u)
 (hcv:∀ {w':World} {m':Nat→Nat × Nat} {A':Nat→Prop},m' nid=(w.heap.size,z)→A' nid→w'.heap[w.heap.size]?=some (.cells c t (0,0))→VR ψ w' S m' A' v cv) :
 Snd P ψ N w0 w S m A x (put h nid (.cells z es true)) v nid:=by
 have le:=Le.push (m:=m) hh i.sb hn (w.heap.size,z)
 have hnew:w'.heap[w.heap.size]?=some (.cells c t (0,0)):=by rw [hh];simp
 refine ⟨cv,w',S,updM m nid (w.heap.size,z),addA A nid,.inl hr,hcv (by simp [updM]) (.inr rfl) hnew,i.push hh ho ht hn z _ ?_ rfl,le,fun _ _ hs=>hs,fun b hb=>hb⟩
 refine ⟨rfl,hz,c,t,hnew,hsz,fun k e j x hk hx=>?_⟩
 obtain ⟨h1,u,h2,h3⟩:=hvr k e j x hk hx
 exact ⟨h1,u,h2,h3.mono le⟩
theorem zeroCells_some {t:TypeId} {z:List AV} (hz:zeroCells P t=some z):∃ i zv,P.info? t=some i∧i.zero=some zv∧zv.cells.size=z.length∧i.size=z.length ∧
 (∀ (j:Nat) (x:AV),z[j]?=some x→x.cell=true)∧∀ (j:Nat) (x:AV),z[j]?=some x→VR ψ w S m A x (zv.cells.getD j Go.undef):=by
 unfold zeroCells at hz
 simp only [Option.bind_eq_bind,Option.bind_eq_some_iff] at hz
 obtain ⟨i,hi,zv,hzv,cs,hcs,hz⟩:=hz
 split at hz
 · rename_i hl
   cases hz
   obtain ⟨h1,h2,h3⟩:=mapM_avCell (ψ:=ψ) (w:=w) (S:=S) (m:=m) (A:=A) hcs
   exact ⟨i,zv,hi,hzv,h1,hl.symm,h2,h3⟩
 · cases hz
theorem getElem?_of_getD {vs:Array Value} {j:Nat} (hj:j < vs.size):vs[j]?=some (vs.getD j Go.undef):=by
 rw [Array.getD_eq_getD_getElem?,Array.getElem?_eq_getElem hj];rfl
theorem Snd.one {x:Sem Next} {w':World} (i:Inv ψ N w0 w S m A h) {nid:Nat} (hn:¬ A nid) (hr:x.run P w=.ok (.value (.pointer (some ⟨w.heap.size,0,none⟩))) w')
 {c:Array Value} {t:TypeId} (hh:w'.heap=w.heap.push (.cells c t (0,0))) (ho:w'.os=w.os) (ht:w'.output=w.output) (cs:List AV) (hsz:c.size=cs.length)
 (hcell:∀ (j:Nat) (x:AV),cs[j]?=some x→x.cell=true) (hvr:∀ (j:Nat) (x:AV),cs[j]?=some x→VR ψ w S m A x (c.getD j Go.undef)) :
 Snd P ψ N w0 w S m A x (put h nid (.cells cs.length [cs] true)) (.ptr nid 0 0) nid:=by
 refine Snd.newCells i hn hr hh ho ht cs.length [cs] (fun k e hk=>?_) (by simp [hsz]) (fun k e j x hk hx=>?_) (fun {w' m' A'} hm hA _=>?_)
 · cases k with
   | zero=>simp at hk;rw [← hk]
   | succ k=>simp at hk
 · cases k with
   | zero =>
    simp at hk
    subst hk
    have hj:j < c.size:=by rw [hsz];exact (List.getElem?_eq_some_iff.1 hx).1
    exact ⟨hcell j x hx,_,by rw [Nat.zero_mul,Nat.zero_add];exact getElem?_of_getD hj,hvr j x hx⟩
   | succ k=>simp at hk
 · have:=VR.ptr (ψ:=ψ) (w:=w') (S:=S) (m:=m') (A:=A') nid 0 0 hA
   rw [hm] at this
   simpa using this
end
end Go.Pav
end
section
set_option linter.unusedSimpArgs false
set_option linter.unusedVariables false
namespace Go.Pav
open Go
theorem row_lt {i k j z:Nat} (h:i < k) (hj:j < z):i * z+j < k * z:=by
 have:=Nat.mul_le_mul_right z (show i+1≤k from h)
 rw [Nat.add_mul,Nat.one_mul] at this
 omega
section
variable {P:Program} {φ:FuncId→Option Nat} {ψ:Psi} {N:Nat} {w0 w:World} {S:Nat→Prop} {m:Nat→Nat × Nat} {A:Nat→Prop} {h:Heap} {e:Env} {a:Act}
theorem seg_get {c:Array Value} {p:Nat} {vs:List Value} (hp:p+vs.length≤c.size) (q:Nat) :
 (c.toList.take p++vs++c.toList.drop (p+vs.length)).toArray[q]?=if p≤q∧q < p+vs.length then vs[q - p]? else c[q]?:=by
 have hl:c.toList.length=c.size:=by simp
 simp only [List.getElem?_toArray,List.getElem?_append,List.length_append,List.length_take,List.getElem?_take,List.getElem?_drop,hl]
 have hm:min p c.size=p:=by omega
 rw [hm]
 by_cases h1:q < p
 · have:¬ (p≤q∧q < p+vs.length):=by omega
   rw [if_neg this,if_pos (by omega),if_pos h1,if_pos h1]
   simp
 · by_cases h2:q < p+vs.length
   · have h3:p≤q∧q < p+vs.length:=⟨by omega,h2⟩
     rw [if_pos h2,if_neg h1,if_pos h3]
   · have:¬ (p≤q∧q < p+vs.length):=by omega
     rw [if_neg this,if_neg h2]
     rw [show p+vs.length+(q - (p+vs.length))=q by omega]
     simp
theorem seg_size {c:Array Value} {p:Nat} {vs:List Value} (hp:p+vs.length≤c.size):(c.toList.take p++vs++c.toList.drop (p+vs.length)).toArray.size=c.size:=by
 have hl:c.toList.length=c.size:=by simp
 simp only [List.size_toArray,List.length_append,List.length_take,List.length_drop,hl]
 omega
theorem Snd.write {x:Sem Next} (i:Inv ψ N w0 w S m A h) {b z:Nat} {es es':List (List AV)} (hb:get h b=some (.cells z es true)) {p:Nat} {vs:List Value}
 (hp:p+vs.length≤es.length * z) {cv:Value} {v:AV}
 (hr:∀ (c:Array Value) (t:TypeId),w.heap[(m b).1]?=some (.cells c t (0,0))→es.length * z≤c.size →
  (x.run P w=.ok (.value cv) (w.setRow (m b).1 (c.toList.take p++vs++c.toList.drop (p+vs.length)).toArray) ∨
   (x.run P w=.ok .skip (w.setRow (m b).1 (c.toList.take p++vs++c.toList.drop (p+vs.length)).toArray)∧cv=Go.undef)))
 (hl:es'.length=es.length) (hz:∀ (k:Nat) (e:List AV),es'[k]?=some e→e.length=z)
 (hc:∀ (k:Nat) (e:List AV) (j:Nat) (x:AV),es'[k]?=some e→e[j]?=some x →
  (p≤k * z+j∧k * z+j < p+vs.length∧x.cell=true∧∃ u,vs[k * z+j - p]?=some u∧VR ψ w S m A x u) ∨
  (¬ (p≤k * z+j∧k * z+j < p+vs.length)∧∃ e',es[k]?=some e'∧e'[j]?=some x))
 (hv:∀ {w':World},Le w S m A w' S m A→VR ψ w' S m A v cv) (nid:Nat) :
 Snd P ψ N w0 w S m A x (put h b (.cells z es' true)) v nid:=by
 obtain ⟨h0,h1,c,t,h2,h3,h4⟩:=i.obj b _ hb
 have hp':p+vs.length≤c.size:=Nat.le_trans hp h3
 have hg:=i.live b _ hb rfl
 have hrow:∀ c' t' fr,w.heap[(m b).1]?=some (.cells c' t' fr)→∃ c'',(w.setRow (m b).1 (c.toList.take p++vs++c.toList.drop (p+vs.length)).toArray).heap[(m b).1]?=some (.cells c'' t' fr)∧c''.size=c'.size:=by
  intro c' t' fr hc'
  rw [h2] at hc'
  cases hc'
  exact ⟨_,setRow_heap w _ c _ t (0,0) h2,seg_size hp'⟩
 have le:Le w S m A (w.setRow (m b).1 (c.toList.take p++vs++c.toList.drop (p+vs.length)).toArray) S m A :=
  Le.write hg.1 (fun k hk=>setRow_other w _ k _ hk) (by simp) hrow
 refine ⟨cv,_,S,m,A,hr c t h2 h3,hv le,?_,le,fun _ _ hs=>hs,fun _ hb=>.inl hb⟩
 refine i.write hb rfl rfl (fun k hk=>setRow_other w _ k _ hk) (by simp) rfl rfl hrow ?_
 refine ⟨h0,hz,_,t,setRow_heap w _ c _ t (0,0) h2,by rw [seg_size hp',hl];exact h3,fun k e j x hk hx=>?_⟩
 rcases hc k e j x hk hx with ⟨q1,q2,q3,u,q4,q5⟩ | ⟨q1,e',q2,q3⟩
 · refine ⟨q3,u,?_,q5.mono le⟩
   rw [seg_get hp',if_pos ⟨q1,q2⟩]
   exact q4
 · obtain ⟨h5,u,h6,h7⟩:=h4 k e' j x q2 q3
   refine ⟨h5,u,?_,h7.mono le⟩
   rw [seg_get hp',if_neg q1]
   exact h6
theorem length_splice {cs v:List AV} {o:Nat} (hl:o+v.length≤cs.length):(splice cs o v).length=cs.length:=by
 unfold splice
 simp only [List.length_append,List.length_take,List.length_drop]
 omega
theorem splice_get {cs v:List AV} {o:Nat} (hl:o+v.length≤cs.length) (j:Nat) :
 (splice cs o v)[j]?=if o≤j∧j < o+v.length then v[j - o]? else cs[j]?:=by
 unfold splice
 simp only [List.getElem?_append,List.length_take,List.getElem?_take,List.getElem?_drop]
 have hm:min o cs.length=o:=by omega
 rw [hm]
 by_cases h1:j < o
 · have:¬ (o≤j∧j < o+v.length):=by omega
   rw [if_neg this,if_pos h1,if_pos h1]
 · by_cases h2:j < o+v.length
   · rw [if_neg h1,if_pos (by omega),if_pos ⟨by omega,h2⟩]
   · have:¬ (o≤j∧j < o+v.length):=by omega
     rw [if_neg h1,if_neg (by omega),if_neg this]
     congr 1
     omega
theorem sStore_snd {n:Nat} {p xv:AV} {cp cx:Value} {t:TypeId} {v:AV} {u:Upd} {o:Oper} {pa pv:Operand} (i:Inv ψ N w0 w S m A h) (ho:o.op=.store t pa pv)
 (hpa:a.eval pa=cp) (hpv:a.eval pv=cx) (hp:VR ψ w S m A p cp) (hx:VR ψ w S m A xv cx)
 (hs:sizeT P t=some n) (hl:(if xv.cells.length=n∧xv.cells.all AV.cell=true then storeOf n h xv.cells p else none)=some (v,u)) (nid:Nat):Snd P ψ N w0 w S m A (execOp a.eval o) (applyUpd h u) v nid:=by
 split at hl
 · rename_i hc
   obtain ⟨hn,hall⟩:=hc
   obtain ⟨q1,q2,q3⟩:=hx.cells hall
   cases p with
   | ptr b k off =>
    obtain ⟨hA,rfl⟩:=hp.inv_ptr
    simp only [storeOf,storeAt] at hl
    split at hl
    · rename_i z es mu hb
      split at hl
      · rename_i hmu
        subst hmu
        obtain ⟨cs,hk,hl⟩:=ob_some hl
        split at hl
        · rename_i hfit
          cases hl
          obtain ⟨h0,h1,_⟩:=i.obj b _ hb
          have hcz:=h1 k cs hk
          have hkl:k < es.length:=(List.getElem?_eq_some_iff.1 hk).1
          have hle:(k+1) * z≤es.length * z:=Nat.mul_le_mul_right z hkl
          rw [Nat.add_mul,Nat.one_mul] at hle
          have hvl:cx.cells.toList.length=n:=by simp [q1,hn]
          have hfit':off+xv.cells.length≤cs.length:=by omega
          refine Snd.write (z:=z) (p:=k * z+off) (vs:=cx.cells.toList) (cv:=Go.undef) i hb (by omega) (fun c t' hc hsz=>.inr ⟨?_,rfl⟩) (by simp) (fun k' e' he=>?_) (fun k' e' j y he hy=>?_) (fun _=>.tup [] #[] rfl (by simp)) nid
          · have hst:=run_storeCells_at P (m b).1 (k * z+off) t' cx.cells.toList 0 c w hc (by simp only [hvl];omega) q3
            have h0':(m b).2=z:=h0
            simp only [execOp,ho,hpa,hpv,Instr.storeAt,Instr.sureAddr,storeVar,h0',Sem.run_bind,Sem.run_pure,Result.andThen_ok,sizeOf_run hs,Sem.run_ite,run_stuck]
            rw [if_neg (by simp [q1,hn])]
            simp only [Nat.add_zero] at hst
            simp [hst]
          · rw [List.getElem?_set] at he
            by_cases hkk:k=k'
            · subst hkk
              rw [if_pos rfl,if_pos hkl] at he
              cases he;rw [length_splice hfit'];exact hcz
            · rw [if_neg hkk] at he;exact h1 k' e' he
          · rw [List.getElem?_set] at he
            by_cases hkk:k=k'
            · subst hkk
              rw [if_pos rfl,if_pos hkl] at he
              cases he
              rw [splice_get hfit'] at hy
              by_cases hr:off≤j∧j < off+xv.cells.length
              · rw [if_pos hr] at hy
                left
                refine ⟨by omega,by omega,?_,cx.cells.getD (j - off) Go.undef,?_,q2 _ _ hy⟩
                · exact List.all_eq_true.1 hall _ (List.mem_of_getElem? hy)
                · rw [show k * z+j - (k * z+off)=j - off by omega]
                  have hjs:j - off < cx.cells.size:=by omega
                  rw [Array.getElem?_toList]
                  exact getElem?_of_getD hjs
              · rw [if_neg hr] at hy
                right
                refine ⟨by omega,cs,hk,hy⟩
            · rw [if_neg hkk] at he
              right
              have hj:j < z:=by rw [← h1 k' e' he];exact (List.getElem?_eq_some_iff.1 hy).1
              refine ⟨?_,e',he,hy⟩
              rcases Nat.lt_or_gt_of_ne hkk with hlt | hgt
              · have:=Nat.mul_le_mul_right z (show k+1≤k' from hlt)
                rw [Nat.add_mul,Nat.one_mul] at this
                omega
              · have:=row_lt hgt hj
                omega
        · cases hl
      · cases hl
    · cases hl
   | _=>cases hl
 · cases hl
end
end Go.Pav
end
section
set_option linter.unusedSimpArgs false
set_option linter.unusedVariables false
namespace Go.Pav
open Go
section
variable {P:Program} {φ:FuncId→Option Nat} {ψ:Psi} {N:Nat} {w0 w:World} {S:Nat→Prop} {m:Nat→Nat × Nat} {A:Nat→Prop} {h:Heap} {e:Env} {a:Act}
def CsR (ψ:Psi) (w:World) (S:Nat→Prop) (m:Nat→Nat × Nat) (A:Nat→Prop) (cs:List AV) (vs:Array Value):Prop :=
 vs.size=cs.length∧∀ (j:Nat) (x:AV),cs[j]?=some x→x.cell=true∧VR ψ w S m A x (vs.getD j Go.undef)
theorem zip_fold (off:Nat):∀ (l:List Value) (k:Nat) (cells:Array Value),off+k+l.length≤cells.size →
 ((l.zipIdx k).foldl (fun cs (x:Value × Nat)=>cs.setIfInBounds (off+x.2) x.1) cells).size=cells.size ∧
 ∀ q,((l.zipIdx k).foldl (fun cs (x:Value × Nat)=>cs.setIfInBounds (off+x.2) x.1) cells)[q]?=if off+k≤q∧q < off+k+l.length then l[q - (off+k)]? else cells[q]?
 | [],k,cells,_=>by
  refine ⟨rfl,fun q=>?_⟩
  rw [if_neg (by simp only [List.length_nil];omega)]
  rfl
 | v::l,k,cells,hl=>by
  simp only [List.length_cons] at hl
  obtain ⟨h1,h2⟩:=zip_fold off l (k+1) (cells.setIfInBounds (off+k) v) (by simp;omega)
  simp only [List.zipIdx_cons,List.foldl_cons]
  refine ⟨by rw [h1];simp,fun q=>?_⟩
  rw [h2 q]
  by_cases hq:q=off+k
  · subst hq
    have hlt:off+k < cells.size:=by omega
    rw [if_neg (by omega),if_pos (by simp)]
    simp [hlt]
  · by_cases hr:off+(k+1)≤q∧q < off+(k+1)+l.length
    · rw [if_pos hr,if_pos (by simp;omega)]
      rw [show q - (off+k)=(q - (off+(k+1)))+1 by omega]
      simp
    · rw [if_neg hr,if_neg (by simp;omega)]
      rw [Array.getElem?_setIfInBounds_ne (by omega)]
theorem fold_toList (vs:Array Value) (off:Nat) (cells:Array Value) :
 vs.zipIdx.foldl (fun cs (x:Value × Nat)=>cs.setIfInBounds (off+x.2) x.1) cells=(vs.toList.zipIdx 0).foldl (fun cs (x:Value × Nat)=>cs.setIfInBounds (off+x.2) x.1) cells:=by
 rw [← Array.foldl_toList]
 simp
theorem CsR.fill {cs:List AV} {vs:Array Value} (hc:CsR ψ w S m A cs vs) {x:AV} {c:Value} (hx:VR ψ w S m A x c) (hall:x.cells.all AV.cell=true) {off:Nat} (hl:off+x.cells.length≤cs.length) :
 CsR ψ w S m A (splice cs off x.cells) (c.cells.zipIdx.foldl (fun cs (x:Value × Nat)=>cs.setIfInBounds (off+x.2) x.1) vs):=by
 obtain ⟨q1,q2,q3⟩:=hx.cells hall
 have hsz:c.cells.toList.length=x.cells.length:=by simp [q1]
 rw [fold_toList]
 obtain ⟨h1,h2⟩:=zip_fold off c.cells.toList 0 vs (by rw [hc.1];omega)
 refine ⟨by rw [h1,length_splice hl,hc.1],fun j y hy=>?_⟩
 rw [splice_get hl] at hy
 rw [Array.getD_eq_getD_getElem?,h2 j]
 simp only [Nat.add_zero,hsz]
 by_cases hr:off≤j∧j < off+x.cells.length
 · rw [if_pos hr] at hy ⊢
   refine ⟨List.all_eq_true.1 hall _ (List.mem_of_getElem? hy),?_⟩
   have:=q2 _ _ hy
   rw [Array.getD_eq_getD_getElem?] at this
   simpa using this
 · rw [if_neg hr] at hy ⊢
   have:=hc.2 j y hy
   rw [Array.getD_eq_getD_getElem?] at this
   exact this
theorem fillC_run (cx:Cx P φ ψ N w0 w S m A h e a) (fs:Nat→Option (Nat × Nat)):∀ (ps:List (Nat × Operand)) (ps':List (Nat × Nat × Opd)) (cs cs':List AV) (vs:Array Value),
 cParts φ fs ps=some ps'→fillC e cs ps'=some cs'→CsR ψ w S m A cs vs →
 ∃ vs',Instr.fill fs vs (ps.map fun x=>(x.1,a.eval x.2))=some vs'∧CsR ψ w S m A cs' vs'
 | [],ps',cs,cs',vs,h1,h2,h3=>by
  simp only [cParts] at h1
  cases h1
  simp only [fillC] at h2
  cases h2
  exact ⟨vs,rfl,h3⟩
 | (i,x)::r,ps',cs,cs',vs,h1,h2,h3=>by
  simp only [cParts,Option.bind_eq_bind,Option.bind_eq_some_iff] at h1
  obtain ⟨⟨off,n⟩,hf,y,hy,ys,hys,h1⟩:=h1
  cases h1
  simp only [fillC] at h2
  split at h2
  · rename_i hc
    obtain ⟨c1,c2,c3⟩:=hc
    have hx:=cx.opd hy
    obtain ⟨q1,_,_⟩:=hx.cells c3
    obtain ⟨vs',h4,h5⟩:=fillC_run cx fs r ys _ cs' _ hys h2 (h3.fill hx c3 (by omega))
    refine ⟨vs',?_,h5⟩
    simp only [List.map_cons,Instr.fill,hf]
    rw [if_neg (by rw [h3.1];simp;omega)]
    exact h4
  · cases h2
theorem build_snd (cx:Cx P φ ψ N w0 w S m A h e a) {o:Oper} {t:TypeId} {ps:Array (Nat × Operand)} (ho:o.op=.build t ps) {cop:COp} (hc:cOp P φ (.build t ps)=some cop)
 {v:AV} {u:Upd} {nid:Nat} (hs:stepOp cop e h nid=some (v,u)):Snd P ψ N w0 w S m A (execOp a.eval o) (applyUpd h u) v nid:=by
 simp only [cOp,Option.bind_eq_bind,Option.bind_eq_some_iff] at hc
 obtain ⟨z,hz,d,hd,hc⟩:=hc
 obtain ⟨it,zv,hit,hzv,z1,z2,z3,z4⟩:=zeroCells_some (ψ:=ψ) (w:=w) (S:=S) (m:=m) (A:=A) hz
 have hzr:CsR ψ w S m A z zv.cells:=⟨z1,fun j x hx=>⟨z3 j x hx,z4 j x hx⟩⟩
 have fin:∀ (fs:Nat→Option (Nat × Nat)) (ps':List (Nat × Nat × Opd)),cParts φ fs ps.toList=some ps'→cop=.build z ps' →
  (∀ parts,Instr.fill fs zv.cells parts=P.built t parts)→Snd P ψ N w0 w S m A (execOp a.eval o) (applyUpd h u) v nid:=by
  intro fs ps' hp hcop hb
  subst hcop
  simp only [stepOp,sBuild] at hs
  obtain ⟨cs',h1,h2⟩:=om_some hs
  cases h2
  obtain ⟨vs',h3,h4⟩:=fillC_run cx fs ps.toList ps' z cs' zv.cells hp h1 hzr
  rw [hb] at h3
  refine Snd.quiet (cv:=.agg vs') cx.inv ?_ (.agg cs' vs' h4.1 (fun j x hx=>(h4.2 j x hx).1) fun j x hx=>(h4.2 j x hx).2) nid
  have hr:=run_build w t (ps.map fun x=>(x.1,a.eval x.2)) vs' (by simpa using h3)
  simp only [execOp,ho,Sem.run_bind]
  rw [hr]
  rfl
 split at hc
 · rename_i fields
   simp only [Option.bind_eq_some_iff] at hc
   obtain ⟨pl,hpl,ps',hp,hc⟩:=hc
   cases hc
   refine fin (fun i=>pl[i]?) ps' hp rfl fun parts=>?_
   unfold Program.built
   simp only [hit,hd,hzv,hpl]
   simp
 · rename_i len el
   simp only [Option.bind_eq_some_iff] at hc
   obtain ⟨n,hn,ps',hp,hc⟩:=hc
   cases hc
   refine fin (fun i=>some (i * n,n)) ps' hp rfl fun parts=>?_
   unfold sizeT at hn
   simp only [Option.map_eq_some_iff] at hn
   obtain ⟨ie,hie,rfl⟩:=hn
   unfold Program.built
   simp only [hit,hd,hzv,hie]
 · cases hc
structure EsR (ψ:Psi) (w:World) (S:Nat→Prop) (m:Nat→Nat × Nat) (A:Nat→Prop) (z:Nat) (es:List (List AV)) (vs:Array Value):Prop where
 size:vs.size=es.length * z
 wide:∀ (k:Nat) (e:List AV),es[k]?=some e→e.length=z
 cell:∀ (k:Nat) (e:List AV) (j:Nat) (x:AV),es[k]?=some e→e[j]?=some x→x.cell=true∧VR ψ w S m A x (vs.getD (k * z+j) Go.undef)
theorem EsR.at_ {z:Nat} {es:List (List AV)} {vs:Array Value} (hr:EsR ψ w S m A z es vs) {k:Nat} {e:List AV} {j:Nat} {x:AV} (he:es[k]?=some e) (hx:e[j]?=some x) :
 x.cell=true∧∃ u,vs[k * z+j]?=some u∧VR ψ w S m A x u:=by
 obtain ⟨h1,h2⟩:=hr.cell k e j x he hx
 have hk:k < es.length:=(List.getElem?_eq_some_iff.1 he).1
 have hj:j < z:=by rw [← hr.wide k e he];exact (List.getElem?_eq_some_iff.1 hx).1
 have:=row_lt hk hj
 exact ⟨h1,_,getElem?_of_getD (by rw [hr.size];exact this),h2⟩
theorem EsR.fill {z:Nat} {es:List (List AV)} {vs:Array Value} (hr:EsR ψ w S m A z es vs) {x:AV} {c:Value} (hx:VR ψ w S m A x c) (hall:x.cells.all AV.cell=true) {i:Nat} (hi:i < es.length) (hz:x.cells.length=z) :
 EsR ψ w S m A z (es.set i x.cells) (c.cells.zipIdx.foldl (fun cs (x:Value × Nat)=>cs.setIfInBounds (i * z+x.2) x.1) vs):=by
 obtain ⟨q1,q2,q3⟩:=hx.cells hall
 have hsz:c.cells.toList.length=z:=by simp [q1,hz]
 have hfit:i * z+z≤vs.size:=by
  rw [hr.size]
  have:=Nat.mul_le_mul_right z (show i+1≤es.length from hi)
  rw [Nat.add_mul,Nat.one_mul] at this
  exact this
 rw [fold_toList]
 obtain ⟨h1,h2⟩:=zip_fold (i * z) c.cells.toList 0 vs (by omega)
 refine ⟨by rw [h1,hr.size];simp,fun k e he=>?_,fun k e j y he hy=>?_⟩
 · rw [List.getElem?_set] at he
   by_cases hk:i=k
   · subst hk;rw [if_pos rfl,if_pos hi] at he;cases he;exact hz
   · rw [if_neg hk] at he;exact hr.wide k e he
 · rw [Array.getD_eq_getD_getElem?,h2]
   simp only [Nat.add_zero,hsz]
   rw [List.getElem?_set] at he
   by_cases hk:i=k
   · subst hk
     rw [if_pos rfl,if_pos hi] at he
     cases he
     have hj:j < z:=by rw [← hz];exact (List.getElem?_eq_some_iff.1 hy).1
     rw [if_pos (by omega),show i * z+j - i * z=j by omega]
     refine ⟨List.all_eq_true.1 hall _ (List.mem_of_getElem? hy),?_⟩
     have:=q2 _ _ hy
     rw [Array.getD_eq_getD_getElem?] at this
     simpa using this
   · rw [if_neg hk] at he
     have hj:j < z:=by rw [← hr.wide k e he];exact (List.getElem?_eq_some_iff.1 hy).1
     have hne:¬ (i * z≤k * z+j∧k * z+j < i * z+z):=by
      rcases Nat.lt_or_gt_of_ne hk with hlt | hgt
      · have:=Nat.mul_le_mul_right z (show i+1≤k from hlt)
        rw [Nat.add_mul,Nat.one_mul] at this
        omega
      · have:=row_lt hgt hj
        omega
     rw [if_neg hne]
     have:=hr.cell k e j y he hy
     rw [Array.getD_eq_getD_getElem?] at this
     exact this
theorem fillS_run (cx:Cx P φ ψ N w0 w S m A h e a) (z:Nat):∀ (ps:List (Nat × Operand)) (ps':List (Nat × Opd)) (es es':List (List AV)) (vs:Array Value),
 cElems φ ps=some ps'→fillS e z es ps'=some es'→EsR ψ w S m A z es vs →
 ∃ vs',Instr.fill (fun i=>some (i * z,z)) vs (ps.map fun x=>(x.1,a.eval x.2))=some vs'∧EsR ψ w S m A z es' vs'
 | [],ps',es,es',vs,h1,h2,h3=>by
  simp only [cElems] at h1
  cases h1
  simp only [fillS] at h2
  cases h2
  exact ⟨vs,rfl,h3⟩
 | (i,x)::r,ps',es,es',vs,h1,h2,h3=>by
  simp only [cElems,Option.bind_eq_bind,Option.bind_eq_some_iff] at h1
  obtain ⟨y,hy,ys,hys,h1⟩:=h1
  cases h1
  simp only [fillS] at h2
  split at h2
  · rename_i hc
    obtain ⟨c1,c2,c3⟩:=hc
    have hx:=cx.opd hy
    obtain ⟨q1,_,_⟩:=hx.cells c3
    obtain ⟨vs',h4,h5⟩:=fillS_run cx z r ys _ es' _ hys h2 (h3.fill hx c3 c2 c1)
    refine ⟨vs',?_,h5⟩
    simp only [List.map_cons,Instr.fill]
    have hb:=Nat.mul_le_mul_right z (show i+1≤es.length from c2)
    rw [Nat.add_mul,Nat.one_mul] at hb
    rw [if_neg (by rw [h3.size];simp;omega)]
    exact h4
  · cases h2
theorem zeros_EsR {z:List AV} {zc:Array Value} (h1:zc.size=z.length) (h3:∀ (j:Nat) (x:AV),z[j]?=some x→x.cell=true)
 (h4:∀ (j:Nat) (x:AV),z[j]?=some x→VR ψ w S m A x (zc.getD j Go.undef)) (len:Nat) :
 EsR ψ w S m A z.length (List.replicate len z) ((Array.range (len * z.length)).map (zc[· % zc.size]!)):=by
 refine ⟨by simp,fun k e he=>?_,fun k e j x he hx=>?_⟩
 · rw [List.getElem?_replicate] at he
   split at he
   · cases he;rfl
   · cases he
 · rw [List.getElem?_replicate] at he
   split at he
   · rename_i hk
     cases he
     have hj:j < z.length:=(List.getElem?_eq_some_iff.1 hx).1
     have hlt:=row_lt hk hj
     refine ⟨h3 j x hx,?_⟩
     have:((Array.range (len * z.length)).map (zc[· % zc.size]!)).getD (k * z.length+j) Go.undef=zc.getD j Go.undef:=by
      rw [Array.getD_eq_getD_getElem?]
      simp only [Array.getElem?_map,Array.getElem?_range,hlt,if_true,Option.map_some,Option.getD_some]
      rw [h1,Nat.mul_comm,Nat.mul_add_mod,Nat.mod_eq_of_lt hj]
      rw [Array.getD_eq_getD_getElem?]
      have hj':j < zc.size:=by omega
      simp [hj']
     rw [this]
     exact h4 j x hx
   · cases he
theorem Snd.newSl {x:Sem Next} {w':World} (i:Inv ψ N w0 w S m A h) {nid:Nat} (hn:¬ A nid) {len cap:Nat} (hr:x.run P w=.ok (.value (.slice (some ⟨w.heap.size,0,none⟩) len cap)) w')
 {c:Array Value} {t:TypeId} (hh:w'.heap=w.heap.push (.cells c t (0,0))) (ho:w'.os=w.os) (ht:w'.output=w.output) {z:Nat} {es:List (List AV)} {cs:Array Value} (he:EsR ψ w S m A z es cs)
 (hc:∀ q,q < cs.size→c[q]?=cs[q]?) (hcs:cs.size≤c.size) {len' cap':Nat} {ex:Bool} (hl:len'=len) (hlc:len≤cap) (hcap:cap'≤cap) (hex:ex=true→cap=cap') (hsz:cap * z≤c.size) :
 Snd P ψ N w0 w S m A x (put h nid (.cells z es true)) (.sl nid z 0 len' cap' ex) nid:=by
 subst hl
 refine Snd.newCells i hn hr hh ho ht z es he.wide (by rw [← he.size];exact hcs) (fun k e j x hk hx=>?_) (fun {w' m' A'} hm hA hb=>?_)
 · obtain ⟨h1,u,h2,h3⟩:=he.at_ hk hx
   exact ⟨h1,u,by rw [hc _ ((Array.getElem?_eq_some_iff.1 h2).1)];exact h2,h3⟩
 · have:=VR.sl (ψ:=ψ) (w:=w') (S:=S) (m:=m') (A:=A') nid z 0 len' cap' ex cap hA (by rw [hm]) hlc hcap hex ⟨c,t,(0,0),by rw [hm];exact hb,by rw [Nat.zero_add];exact hsz⟩
   rw [hm] at this
   simpa using this
theorem buildS_snd (cx:Cx P φ ψ N w0 w S m A h e a) {o:Oper} {t:TypeId} {len:Nat} {ps:Array (Nat × Operand)} (ho:o.op=.buildSlice t len ps) {cop:COp} (hc:cOp P φ (.buildSlice t len ps)=some cop)
 {v:AV} {u:Upd} {nid:Nat} (hn:¬ A nid) (hs:stepOp cop e h nid=some (v,u)):Snd P ψ N w0 w S m A (execOp a.eval o) (applyUpd h u) v nid:=by
 simp only [cOp,Option.bind_eq_bind,Option.bind_eq_some_iff] at hc
 obtain ⟨d,hd,hc⟩:=hc
 split at hc
 · rename_i el
   simp only [Option.bind_eq_some_iff] at hc
   obtain ⟨z,hz,hc⟩:=hc
   split at hc
   · cases hc
   · rename_i hsm
     simp only [Option.bind_eq_some_iff] at hc
     obtain ⟨ps',hp,hc⟩:=hc
     cases hc
     obtain ⟨it,zv,hit,hzv,z1,z2,z3,z4⟩:=zeroCells_some (ψ:=ψ) (w:=w) (S:=S) (m:=m) (A:=A) hz
     simp only [stepOp,sBuildS] at hs
     obtain ⟨es',h1,h2⟩:=om_some hs
     cases h2
     obtain ⟨vs',h3,h4⟩:=fillS_run cx z.length ps.toList ps' _ es' _ hp h1 (zeros_EsR z1 z3 z4 len)
     have hlen:es'.length=len:=by
      have:∀ (ps:List (Nat × Opd)) (es es':List (List AV)),fillS e z.length es ps=some es'→es'.length=es.length:=by
       intro ps
       induction ps with
       | nil=>intro es es' hf;simp only [fillS] at hf;cases hf;rfl
       | cons p r ih =>
        intro es es' hf
        obtain ⟨i,x⟩:=p
        simp only [fillS] at hf
        split at hf
        · rw [ih _ _ hf];simp
        · cases hf
      rw [this _ _ _ h1];simp
     by_cases hl0:len=0
     · subst hl0
       have hes:es'=[]:=List.eq_nil_of_length_eq_zero hlen
       subst hes
       have hv0:vs'=#[]:=by
        have:=h4.size
        simp at this
        exact this
       subst hv0
       have hpe:ps.toList.map (fun x=>(x.1,a.eval x.2))=(ps.map fun x=>(x.1,a.eval x.2)).toList:=by simp
       refine Snd.newSl (w':=w.alloc (.cells #[] el)) (c:=#[]) (t:=el) (cs:=#[]) cx.inv hn (len:=0) (cap:=0) ?_ rfl rfl rfl h4 (by simp) (by simp) rfl (by simp) (by simp) (by simp) (by simp)
       simp only [execOp,ho,Sem.run_bind]
       have h3':Instr.fill (fun i=>some (i * it.size,it.size)) #[] (ps.toList.map fun x=>(x.1,a.eval x.2))=some #[]:=by
        have hr0:Array.range 0=#[]:=rfl
        rw [z2]
        rw [Nat.zero_mul,hr0,Array.map_empty] at h3
        exact h3
       have hr0:Array.range 0=#[]:=rfl
       simp only [Instr.buildSlice,run_underlying hd,Sem.run_bind,Result.andThen_ok,sizeOf,typeInfo,hit,run_program,Sem.run_pure,Nat.zero_mul]
       simp [hr0,h3',Go.newRow]
     · have hpe:ps.toList.map (fun x=>(x.1,a.eval x.2))=(ps.map fun x=>(x.1,a.eval x.2)).toList:=by simp
       have hzz:z.length≠0:=fun hz0=>hsm (.inl hz0)
       have hne:len * z.length≠0:=Nat.mul_ne_zero hl0 hzz
       have hr:=run_buildSlice (P:=P) w t el len (ps.map fun x=>(x.1,a.eval x.2)) vs' it zv hd hit hzv (by rw [z2];exact fun hg=>hsm (.inr hg)) (by rw [z2];exact hne)
        (by rw [z2,← hpe];exact h3)
       refine Snd.newSl (w':=w.alloc (.cells vs' el)) (c:=vs') (t:=el) (cs:=vs') cx.inv hn (len:=len) (cap:=len) ?_ rfl rfl rfl h4 (fun _ _=>rfl) (Nat.le_refl _) rfl (Nat.le_refl _) (Nat.le_refl _) (fun _=>rfl) (by rw [h4.size,hlen];exact Nat.le_refl _)
       simp only [execOp,ho,Sem.run_bind]
       rw [hr]
       rfl
 · cases hc
end
end Go.Pav
end
section
set_option linter.unusedSimpArgs false
set_option linter.unusedVariables false
namespace Go.Pav
open Go
section
variable {P:Program} {φ:FuncId→Option Nat} {ψ:Psi} {N:Nat} {w0 w:World} {S:Nat→Prop} {m:Nat→Nat × Nat} {A:Nat→Prop} {h:Heap} {e:Env} {a:Act} {o:Oper}
 {v:AV} {u:Upd} {nid:Nat}
abbrev Ok (P:Program) (φ:FuncId→Option Nat) (ψ:Psi) (N:Nat) (w0 w:World) (S:Nat→Prop) (m:Nat→Nat × Nat) (A:Nat→Prop) (h:Heap) (e:Env) (a:Act) (o:Oper):Prop :=
 ∀ cop v u nid,cOp P φ o.op=some cop→stepOp cop e h nid=some (v,u)→¬ A nid→Snd P ψ N w0 w S m A (execOp a.eval o) (applyUpd h u) v nid
theorem mv_ok (cx:Cx P φ ψ N w0 w S m A h e a) {x:Operand} (ho:o.op=.move x∨o.op=.assign x):Ok P φ ψ N w0 w S m A h e a o:=by
 intro cop v u nid hc hs hn
 have hc':(cOpd φ x).map COp.mv=some cop:=by rcases ho with ho | ho <;> rw [ho] at hc <;> exact hc
 simp only [Option.map_eq_some_iff] at hc'
 obtain ⟨y,hy,rfl⟩:=hc'
 simp only [stepOp,sMv] at hs
 cases hs
 refine Snd.quiet cx.inv ?_ (cx.opd hy) nid
 rcases ho with ho | ho <;> simp [execOp,ho]
theorem pick_ok (cx:Cx P φ ψ N w0 w S m A h e a) {c x y:Operand} (ho:o.op=.pick c x y):Ok P φ ψ N w0 w S m A h e a o:=by
 intro cop v u nid hc hs hn
 rw [ho] at hc
 simp only [cOp,Option.bind_eq_bind,Option.bind_eq_some_iff,Option.some.injEq] at hc
 obtain ⟨c',hc',x',hx',y',hy',rfl⟩:=hc
 simp only [stepOp,sPick] at hs
 split at hs
 · rename_i t ht
   cases hs
   have h1:=cx.opd hc'
   rw [ht] at h1
   have h2:=h1.inv_bool
   refine Snd.quiet (cv:=if t then a.eval x else a.eval y) cx.inv ?_ ?_ nid
   · simp only [execOp,ho,h2,asBool,Sem.run_bind,Sem.run_pure,Result.andThen_ok]
   · cases t
     · exact cx.opd hy'
     · exact cx.opd hx'
 · cases hs
theorem alloc_ok (cx:Cx P φ ψ N w0 w S m A h e a) {t:TypeId} (ho:o.op=.alloc t):Ok P φ ψ N w0 w S m A h e a o:=by
 intro cop v u nid hc hs hn
 rw [ho] at hc
 simp only [cOp,Option.map_eq_some_iff] at hc
 obtain ⟨z,hz,rfl⟩:=hc
 simp only [stepOp,sAlloc] at hs
 cases hs
 obtain ⟨it,zv,hit,hzv,z1,z2,z3,z4⟩:=zeroCells_some (ψ:=ψ) (w:=w) (S:=S) (m:=m) (A:=A) hz
 refine Snd.one (w':=w.alloc (.cells zv.cells t)) (c:=zv.cells) (t:=t) cx.inv hn ?_ rfl rfl rfl z z1 z3 z4
 simp [execOp,ho,Instr.alloc,zeroValue,typeInfo,hit,hzv,Go.newVar,Go.newRow]
theorem box_ok (cx:Cx P φ ψ N w0 w S m A h e a) {t:TypeId} {x:Operand} (ho:o.op=.box t x):Ok P φ ψ N w0 w S m A h e a o:=by
 intro cop v u nid hc hs hn
 rw [ho] at hc
 simp only [cOp,Option.map_eq_some_iff] at hc
 obtain ⟨y,hy,rfl⟩:=hc
 simp only [stepOp,sBox,boxed] at hs
 split at hs
 · rename_i hall
   cases hs
   obtain ⟨q1,q2,q3⟩:=(cx.opd hy).cells hall
   refine Snd.one (w':=w.alloc (.cells (a.eval x).cells t)) (c:=(a.eval x).cells) (t:=t) cx.inv hn ?_ rfl rfl rfl _ q1 (fun j y hj=>List.all_eq_true.1 hall _ (List.mem_of_getElem? hj)) q2
   simp [execOp,ho,Instr.box,Go.newVar,Go.newRow]
 · cases hs
theorem load_ok (cx:Cx P φ ψ N w0 w S m A h e a) {t:TypeId} {x:Operand} (ho:o.op=.load t x):Ok P φ ψ N w0 w S m A h e a o:=by
 intro cop v u nid hc hs hn
 rw [ho] at hc
 simp only [cOp,Option.bind_eq_bind,Option.bind_eq_some_iff,Option.some.injEq] at hc
 obtain ⟨n,hn',ag,hag,y,hy,rfl⟩:=hc
 simp only [stepOp,sLoad] at hs
 obtain ⟨key,rfl⟩:=ov_some hs
 obtain ⟨cv,h1,h2⟩:=sLoad_run (P:=P) cx.inv (cx.opd hy) hn' hag key
 exact Snd.val cx.inv (by simp [execOp,ho]) h1 h2 nid
theorem store_ok (cx:Cx P φ ψ N w0 w S m A h e a) {t:TypeId} {p x:Operand} (ho:o.op=.store t p x):Ok P φ ψ N w0 w S m A h e a o:=by
 intro cop v u nid hc hs hn
 rw [ho] at hc
 simp only [cOp,Option.bind_eq_bind,Option.bind_eq_some_iff,Option.some.injEq] at hc
 obtain ⟨n,hn',y,hy,z,hz,rfl⟩:=hc
 simp only [stepOp,sStore] at hs
 exact sStore_snd cx.inv ho rfl rfl (cx.opd hy) (cx.opd hz) hn' hs nid
theorem nilchk_ok (cx:Cx P φ ψ N w0 w S m A h e a) {x:Operand} (ho:o.op=.nilCheck x):Ok P φ ψ N w0 w S m A h e a o:=by
 intro cop v u nid hc hs hn
 rw [ho] at hc
 simp only [cOp,Option.map_eq_some_iff] at hc
 obtain ⟨y,hy,rfl⟩:=hc
 have hx:=cx.opd hy
 simp only [stepOp,sNilchk] at hs
 split at hs
 · rename_i b k off he
   cases hs
   rw [he] at hx
   obtain ⟨_,h2⟩:=hx.inv_ptr
   exact Snd.quiet cx.inv (by simp [execOp,ho,h2]) (h2 ▸ hx) nid
 · rename_i cs he
   cases hs
   rw [he] at hx
   obtain ⟨b,off,vs,h2,_⟩:=hx.inv_rop
   exact Snd.quiet cx.inv (by simp [execOp,ho,h2]) (h2 ▸ hx) nid
 · rename_i f cs he
   split at hs
   · rename_i hlt
     cases hs
     rw [he] at hx
     obtain ⟨vs,h2,_⟩:=hx.inv_fn hlt
     exact Snd.quiet cx.inv (by simp [execOp,ho,h2]) (h2 ▸ hx) nid
   · cases hs
 · cases hs
theorem eqSl_run {x y:AV} {b:Bool} (hb:eqSl x y=some b) {cx cy:Value} (hx:VR ψ w S m A x cx) (hy:VR ψ w S m A y cy) {t el:TypeId} (ht:P.underlying t=some (.slice el)) (d:Nat) :
 (Op.equalIn (d+1) t cx cy).run P w=.ok b w∧∀ op X Y,eqGuard op t X Y cx cy=pure ():=by
 unfold eqSl at hb
 split at hb <;> cases hb
 · cases hx.inv_nils;cases hy.inv_nils
   exact ⟨by simp [Op.equalIn,run_underlying ht],fun op X Y=>eqGuard_at_slice ..⟩
 · cases hx.inv_nils;rcases hy.inv_ro with ⟨b',off,cap,cs,rfl,_⟩ | ⟨_,ad,_,rfl,_⟩ <;>
   exact ⟨by simp [Op.equalIn,run_underlying ht],fun op X Y=>eqGuard_at_slice ..⟩
 · cases hx.inv_nils;obtain ⟨cc,rfl,_⟩:=hy.inv_sl
   exact ⟨by simp [Op.equalIn,run_underlying ht],fun op X Y=>eqGuard_at_slice ..⟩
 · cases hy.inv_nils;rcases hx.inv_ro with ⟨b',off,cap,cs,rfl,_⟩ | ⟨_,ad,_,rfl,_⟩ <;>
   exact ⟨by simp [Op.equalIn,run_underlying ht],fun op X Y=>eqGuard_at_slice ..⟩
 · cases hy.inv_nils;obtain ⟨cc,rfl,_⟩:=hx.inv_sl
   exact ⟨by simp [Op.equalIn,run_underlying ht],fun op X Y=>eqGuard_at_slice ..⟩
theorem eqFn_run {x y:AV} {b:Bool} (hb:eqFn x y=some b) {cx cy:Value} (hx:VR ψ w S m A x cx) (hy:VR ψ w S m A y cy) {t:TypeId} {ps rs:Array TypeId} {vd:Bool} (ht:P.underlying t=some (.func ps rs vd)) (d:Nat) :
 (Op.equalIn (d+1) t cx cy).run P w=.ok b w∧∀ op X Y,eqGuard op t X Y cx cy=pure ():=by
 unfold eqFn at hb
 split at hb
 · cases hb
   cases hx.inv_nilf;cases hy.inv_nilf
   exact ⟨by simp [Op.equalIn,run_underlying ht],fun op X Y=>eqGuard_at_nilFunc ..⟩
 · split at hb
   · rename_i hlt
     cases hb
     cases hx.inv_nilf;obtain ⟨vs,rfl,_⟩:=hy.inv_fn hlt
     exact ⟨by simp [Op.equalIn,run_underlying ht],fun op X Y=>eqGuard_at_nilFunc ..⟩
   · cases hb
 · split at hb
   · rename_i hlt
     cases hb
     cases hy.inv_nilf;obtain ⟨vs,rfl,_⟩:=hx.inv_fn hlt
     exact ⟨by simp [Op.equalIn,run_underlying ht],fun op X Y=>eqGuard_at_func ..⟩
   · cases hb
 · cases hb
theorem eqIf_run {x y:AV} {b:Bool} (hb:eqIf x y=some b) {cx cy:Value} (hx:VR ψ w S m A x cx) (hy:VR ψ w S m A y cy) {t:TypeId} {ms:Array (String × TypeId)} (ht:P.underlying t=some (.interface ms)) (d:Nat) :
 (Op.equalIn (d+1) t cx cy).run P w=.ok b w:=by
 unfold eqIf at hb
 split at hb
 · split at hb
   · rename_i hc
     cases hb
     obtain ⟨h1,h2⟩:=hc
     obtain ⟨vs,hf,_⟩:=hx.inv_fn0
     obtain ⟨us,hg,_⟩:=hy.inv_fn0
     have hcy:cy=.nilIface:=by
      cases hg with
      | fn h=>omega
      | nil h=>rfl
      | ifc t h=>omega
     subst hcy
     cases hf with
     | fn h=>omega
     | nil h=>subst h;simp [Op.equalIn,run_underlying ht]
     | ifc t' h=>subst h;simp [Op.equalIn,run_underlying ht];omega
   · cases hb
 · cases hb
theorem eqPtr_run {x y:AV} {b:Bool} (hb:eqPtr x y=some b) {cx cy:Value} (hx:VR ψ w S m A x cx) (hy:VR ψ w S m A y cy) {t el:TypeId} (ht:P.underlying t=some (.pointer el)) (d:Nat) :
 (Op.equalIn (d+1) t cx cy).run P w=.ok b w∧∀ op X Y,eqGuard op t X Y cx cy=pure ():=by
 unfold eqPtr at hb
 split at hb <;> cases hb
 · cases hx.inv_nilp;cases hy.inv_nilp
   exact ⟨by simp [Op.equalIn,run_underlying ht],fun op X Y=>eqGuard_at_pointer ..⟩
 · cases hx.inv_nilp;obtain ⟨_,rfl⟩:=hy.inv_ptr
   exact ⟨by simp [Op.equalIn,run_underlying ht],fun op X Y=>eqGuard_at_pointer ..⟩
 · cases hy.inv_nilp;obtain ⟨_,rfl⟩:=hx.inv_ptr
   exact ⟨by simp [Op.equalIn,run_underlying ht],fun op X Y=>eqGuard_at_pointer ..⟩
 · cases hx.inv_nilp;obtain ⟨b',off,vs,rfl,_⟩:=hy.inv_rop
   exact ⟨by simp [Op.equalIn,run_underlying ht],fun op X Y=>eqGuard_at_pointer ..⟩
 · cases hy.inv_nilp;obtain ⟨b',off,vs,rfl,_⟩:=hx.inv_rop
   exact ⟨by simp [Op.equalIn,run_underlying ht],fun op X Y=>eqGuard_at_pointer ..⟩
theorem eqMap_run {x y:AV} {b:Bool} (hb:eqMap x y=some b) {cx cy:Value} (hx:VR ψ w S m A x cx) (hy:VR ψ w S m A y cy) {t kt el:TypeId} (ht:P.underlying t=some (.map kt el)) (d:Nat) :
 (Op.equalIn (d+1) t cx cy).run P w=.ok b w∧∀ op X Y,eqGuard op t X Y cx cy=pure ():=by
 unfold eqMap at hb
 split at hb <;> cases hb
 · cases hx.inv_nilm;cases hy.inv_nilm
   exact ⟨by simp [Op.equalIn,run_underlying ht],fun op X Y=>eqGuard_at_map ..⟩
 · cases hx.inv_nilm;obtain ⟨_,rfl⟩:=hy.inv_map
   exact ⟨by simp [Op.equalIn,run_underlying ht],fun op X Y=>eqGuard_at_map ..⟩
 · cases hy.inv_nilm;obtain ⟨_,rfl⟩:=hx.inv_map
   exact ⟨by simp [Op.equalIn,run_underlying ht],fun op X Y=>eqGuard_at_map ..⟩
theorem eqBool_run {x y:AV} {b:Bool} (hb:eqBool x y=some b) {cx cy:Value} (hx:VR ψ w S m A x cx) (hy:VR ψ w S m A y cy) {t:TypeId} (ht:P.underlying t=some .bool) (d:Nat) :
 (Op.equalIn (d+1) t cx cy).run P w=.ok b w∧∀ op X Y,eqGuard op t X Y cx cy=pure ():=by
 unfold eqBool at hb
 split at hb
 · cases hb
   cases hx.inv_bool;cases hy.inv_bool
   exact ⟨by simp [Op.equalIn,run_underlying ht],fun op X Y=>eqGuard_at_bool ..⟩
 · cases hb
theorem keyKind_some {t:TypeId} {kd:Nat} (ht:keyKind P t=some kd):(∃ k,P.underlying t=some (.int k)∧kd=0)∨(P.underlying t=some .string∧kd=1)∨(P.underlying t=some .bool∧kd=2):=by
 unfold keyKind at ht
 split at ht
 · rename_i k hk;cases ht;exact .inl ⟨k,hk,rfl⟩
 · rename_i hk;cases ht;exact .inr (.inl ⟨hk,rfl⟩)
 · rename_i hk;cases ht;exact .inr (.inr ⟨hk,rfl⟩)
 · cases ht
theorem eqCell_run {x y:AV} {b:Bool} (hb:eqCell x y=some b) {cx cy:Value} (hx:VR ψ w S m A x cx) (hy:VR ψ w S m A y cy) {t:TypeId} {kd:Nat} (ht:keyKind P t=some kd) (hk:keyOk kd x=true) (d:Nat) :
 (Op.equalIn (d+1) t cx cy).run P w=.ok b w:=by
 have hkk:=keyKind_some ht
 unfold eqCell at hb
 split at hb
 · split at hb
   · rename_i hk'
     subst hk'
     cases hb
     have h0:kd=0:=by simpa [keyOk] using hk
     subst h0
     rcases hkk with ⟨k',hk',_⟩ | ⟨_,h⟩ | ⟨_,h⟩
     · cases hx.inv_int;cases hy.inv_int
       exact run_equalIn_int w d t _ k' _ _ hk'
     · cases h
     · cases h
   · cases hb
 · cases hb
   have h0:kd=1:=by simpa [keyOk] using hk
   subst h0
   rcases hkk with ⟨k',_,h⟩ | ⟨hk',_⟩ | ⟨_,h⟩
   · cases h
   · cases hx.inv_str;cases hy.inv_str
     rw [run_equalIn_string w d t _ _ hk',toList_bytes,toList_bytes]
   · cases h
 · cases hb
   have h0:kd=2:=by simpa [keyOk] using hk
   subst h0
   rcases hkk with ⟨k',_,h⟩ | ⟨_,h⟩ | ⟨hk',_⟩
   · cases h
   · cases h
   · cases hx.inv_bool;cases hy.inv_bool
     exact run_equalIn_bool' w d t _ _ hk'
 · cases hb
theorem eqCells_run (xs ys:Array Value) (d:Nat):∀ (fs:List Field) (k:Nat) (ks:List Nat) (x y:List AV) (b:Bool),plainFields P k fs=some ks→eqCells ks x y=some b →
 (∀ (j:Nat) (v:AV),x[j]?=some v→v.cell=true∧k+j < xs.size∧VR ψ w S m A v (xs.getD (k+j) Go.undef))→(∀ (j:Nat) (v:AV),y[j]?=some v→v.cell=true∧k+j < ys.size∧VR ψ w S m A v (ys.getD (k+j) Go.undef)) →
 (Op.eqFields (d+1) xs ys fs).run P w=.ok b w
 | [],k,ks,x,y,b,h1,h2,_,_=>by
  simp only [plainFields] at h1
  cases h1
  cases x <;> cases y <;> simp only [eqCells] at h2 <;> cases h2
  simp [Op.eqFields]
 | f::fs,k,ks,x,y,b,h1,h2,h3,h4=>by
  simp only [plainFields] at h1
  split at h1
  · rename_i hc
    obtain ⟨c1,c2,c3⟩:=hc
    simp only [Option.bind_eq_bind,Option.bind_eq_some_iff,Option.some.injEq] at h1
    obtain ⟨kd,hkd,ks',hks,rfl⟩:=h1
    cases x with
    | nil=>simp only [eqCells] at h2;cases h2
    | cons vx x =>
     cases y with
     | nil=>simp only [eqCells] at h2;cases h2
     | cons vy y =>
      simp only [eqCells] at h2
      split at h2
      · rename_i hko
        obtain ⟨r,hr,h2⟩:=ob_some h2
        obtain ⟨s,hs,h2⟩:=om_some h2
        obtain ⟨x1,x2,x3⟩:=h3 0 vx (by simp)
        obtain ⟨y1,y2,y3⟩:=h4 0 vy (by simp)
        simp only [Nat.add_zero] at x2 x3 y2 y3
        have hq:=eqCell_run (P:=P) (d:=d) hr x3 y3 hkd hko
        have ih:=eqCells_run xs ys d fs (k+1) ks' x y s hks hs (fun j v hj=>by have:=h3 (j+1) v (by simpa using hj);rwa [show k+(j+1)=k+1+j by omega] at this)
         (fun j v hj=>by have:=h4 (j+1) v (by simpa using hj);rwa [show k+(j+1)=k+1+j by omega] at this)
        have hag:(isAgg f.type).run P w=.ok false w:=by
         unfold isAgg
         rcases keyKind_some hkd with ⟨k',hk',_⟩ | ⟨hk',_⟩ | ⟨hk',_⟩ <;> rw [Sem.run_bind,run_underlying hk'] <;> rfl
        have hpart:∀ (zs:Array Value),k < zs.size→(part f.type zs f.offset).run P w=.ok (zs.getD k Go.undef) w:=by
         intro zs hz
         unfold part
         rw [Sem.run_bind,hag]
         simp only [Result.andThen_ok,Bool.false_eq_true,if_false,c1]
         rw [getElem?_of_getD hz]
         rfl
        simp only [Op.eqFields]
        rw [if_pos c2]
        simp only [Sem.run_bind,hpart xs x2,hpart ys y2,Result.andThen_ok,hq]
        cases r
        · simp at h2;subst h2;simp
        · simp at h2;subst h2;simp [ih]
      · cases h2
  · cases h1
end
end Go.Pav
end
section
set_option linter.unusedSimpArgs false
set_option linter.unusedVariables false
namespace Go.Pav
open Go
section
variable {P:Program} {φ:FuncId→Option Nat} {ψ:Psi} {N:Nat} {w0 w:World} {S:Nat→Prop} {m:Nat→Nat × Nat} {A:Nat→Prop} {h:Heap} {e:Env} {a:Act} {o:Oper}
theorem eqv_fin (cx:Cx P φ ψ N w0 w S m A h e a) {op:BinOp} {t t':TypeId} {X Y:Operand} (ho:o.op=.binOp op t X Y t') {x y:Opd} {kd:Nat} {ks:List Nat} {cop:COp} (hc:cEq kd ks op x y=some cop)
 {v:AV} {u:Upd} {nid:Nat} (hs:stepOp cop e h nid=some (v,u))
 (hr:∀ b,eqVals kd ks (x.ev e) (y.ev e)=some b→(Op.equalIn 10000 t (a.eval X) (a.eval Y)).run P w=.ok b w∧(eqGuard op t X Y (a.eval X) (a.eval Y)).run P w=.ok () w)
 (hform:binOp .eql t (a.eval X) (a.eval Y)=(do pure (.bool (← Op.equal t (a.eval X) (a.eval Y)))) ∧
  binOp .neq t (a.eval X) (a.eval Y)=(do pure (.bool (!(← Op.equal t (a.eval X) (a.eval Y)))))):Snd P ψ N w0 w S m A (execOp a.eval o) (applyUpd h u) v nid:=by
 have fin:∀ ne,cop=.eqv kd ks ne x y→(op=if ne then .neq else .eql)→Snd P ψ N w0 w S m A (execOp a.eval o) (applyUpd h u) v nid:=by
  intro ne hcop hop
  subst hcop
  simp only [stepOp,sEqv] at hs
  obtain ⟨b,h1,h2⟩:=om_some hs
  cases h2
  obtain ⟨h3,h4⟩:=hr b h1
  refine Snd.quiet (cv:=.bool (b != ne)) cx.inv ?_ (.bool _) nid
  have he:(Op.equal t (a.eval X) (a.eval Y)).run P w=.ok b w:=h3
  simp only [execOp,ho,Sem.run_bind,h4,Result.andThen_ok]
  cases ne
  · simp only [Bool.false_eq_true,if_false] at hop
    subst hop
    rw [hform.1]
    simp [he]
  · simp only [if_true] at hop
    subst hop
    rw [hform.2]
    simp [he]
 unfold cEq at hc
 split at hc
 · cases hc;exact fin false rfl rfl
 · cases hc;exact fin true rfl rfl
 · cases hc
theorem binOp_form {x y:Value} (t:TypeId) (hx:(∀ k n,x≠.int k n)∧(∀ k n,x≠.float k n)∧(∀ k n l,x≠.complex k n l)∧∀ s,x≠.string s) :
 binOp .eql t x y=(do pure (.bool (← Op.equal t x y)))∧binOp .neq t x y=(do pure (.bool (!(← Op.equal t x y)))):=by
 obtain ⟨h1,h2,h3,h4⟩:=hx
 cases x <;> first
  | exact absurd rfl (h1 _ _)
  | exact absurd rfl (h2 _ _)
  | exact absurd rfl (h3 _ _ _)
  | exact absurd rfl (h4 _)
  | (constructor <;> cases y <;> rfl)
theorem VR.form {x:AV} {c:Value} (hx:VR ψ w S m A x c) (hn:(∀ k n,x≠.int k n)∧(∀ s,x≠.str s)∧x≠.undef) :
 (∀ k n,c≠.int k n)∧(∀ k n,c≠.float k n)∧(∀ k n l,c≠.complex k n l)∧∀ s,c≠.string s:=by
 cases hx with
 | fn f caps vs hn hc c hf=>cases hf <;> simp
 | _=>simp_all
theorem eqVals_form {kd:Nat} {ks:List Nat} {x y:AV} {b:Bool} (hb:eqVals kd ks x y=some b):(∀ k n,x≠.int k n)∧(∀ s,x≠.str s)∧x≠.undef:=by
 unfold eqVals at hb
 split at hb
 · unfold eqSl at hb;split at hb <;> simp_all
 · split at hb
   · unfold eqFn at hb;split at hb <;> simp_all
   · split at hb
     · unfold eqPtr at hb;split at hb <;> simp_all
     · split at hb
       · unfold eqMap at hb;split at hb <;> simp_all
       · split at hb
         · unfold eqAgg at hb;split at hb <;> simp_all
         · split at hb
           · unfold eqIf at hb;split at hb <;> simp_all
           · unfold eqBool at hb;split at hb <;> simp_all
theorem eqv_go (cx:Cx P φ ψ N w0 w S m A h e a) {op:BinOp} {t t':TypeId} {X Y:Operand} (ho:o.op=.binOp op t X Y t') {x y:Opd} (hx:cOpd φ X=some x) {kd:Nat} {ks:List Nat} {cop:COp} (hc:cEq kd ks op x y=some cop)
 {v:AV} {u:Upd} {nid:Nat} (hs:stepOp cop e h nid=some (v,u))
 (hr:∀ b,eqVals kd ks (x.ev e) (y.ev e)=some b→(Op.equalIn 10000 t (a.eval X) (a.eval Y)).run P w=.ok b w∧(eqGuard op t X Y (a.eval X) (a.eval Y)).run P w=.ok () w):Snd P ψ N w0 w S m A (execOp a.eval o) (applyUpd h u) v nid:=by
 have hsome:∃ b,eqVals kd ks (x.ev e) (y.ev e)=some b:=by
  unfold cEq at hc
  split at hc
  · cases hc;simp only [stepOp,sEqv] at hs;obtain ⟨b,h1,_⟩:=om_some hs;exact ⟨b,h1⟩
  · cases hc;simp only [stepOp,sEqv] at hs;obtain ⟨b,h1,_⟩:=om_some hs;exact ⟨b,h1⟩
  · cases hc
 obtain ⟨b,hb⟩:=hsome
 exact eqv_fin cx ho hc hs hr (binOp_form t ((cx.opd hx).form (eqVals_form hb)))
theorem bin_ok (cx:Cx P φ ψ N w0 w S m A h e a) {op:BinOp} {t t':TypeId} {X Y:Operand} (ho:o.op=.binOp op t X Y t'):Ok P φ ψ N w0 w S m A h e a o:=by
 intro cop v u nid hc hs hn
 rw [ho] at hc
 simp only [cOp,Option.bind_eq_bind,Option.bind_eq_some_iff] at hc
 obtain ⟨x,hx,y,hy,d,hd,hc⟩:=hc
 have hX:=cx.opd hx
 have hY:=cx.opd hy
 have plain:cop=.bin op x y→Snd P ψ N w0 w S m A (execOp a.eval o) (applyUpd h u) v nid:=by
  intro hcop
  subst hcop
  simp only [stepOp,sBin] at hs
  obtain ⟨h1,rfl⟩:=ov_some hs
  obtain ⟨cv,h2,h3⟩:=evBin_run (P:=P) (t:=t) h1 hX hY X Y
  refine Snd.val cx.inv ?_ h2 h3 nid
  simp [execOp,ho]
 split at hc
 · cases hc;exact plain rfl
 · cases hc;exact plain rfl
 · refine eqv_go cx ho hx hc hs fun b hb=>?_
   obtain ⟨h1,h2⟩:=eqSl_run (P:=P) (by simpa [eqVals] using hb) hX hY hd 9999
   exact ⟨h1,by rw [h2];rfl⟩
 · refine eqv_go cx ho hx hc hs fun b hb=>?_
   obtain ⟨h1,h2⟩:=eqFn_run (P:=P) (by simpa [eqVals] using hb) hX hY hd 9999
   exact ⟨h1,by rw [h2];rfl⟩
 · refine eqv_go cx ho hx hc hs fun b hb=>?_
   obtain ⟨h1,h2⟩:=eqPtr_run (P:=P) (by simpa [eqVals] using hb) hX hY hd 9999
   exact ⟨h1,by rw [h2];rfl⟩
 · refine eqv_go cx ho hx hc hs fun b hb=>?_
   obtain ⟨h1,h2⟩:=eqMap_run (P:=P) (by simpa [eqVals] using hb) hX hY hd 9999
   exact ⟨h1,by rw [h2];rfl⟩
 · refine eqv_go cx ho hx hc hs fun b hb=>?_
   obtain ⟨h1,h2⟩:=eqBool_run (P:=P) (by simpa [eqVals] using hb) hX hY hd 9999
   exact ⟨h1,by rw [h2];rfl⟩
 · split at hc
   · refine eqv_go cx ho hx hc hs fun b hb=>?_
     refine ⟨eqIf_run (P:=P) (by simpa [eqVals] using hb) hX hY hd 9999,?_⟩
     have hb':eqIf (x.ev e) (y.ev e)=some b:=by simpa [eqVals] using hb
     show (eqGuard op t X _ (a.eval X) .nilIface).run P w=.ok () w
     cases a.eval X <;> cases op <;> cases X <;> rfl
   · cases hc
 · rename_i fs
   simp only [Option.bind_eq_some_iff] at hc
   obtain ⟨ks,hks,hc⟩:=hc
   split at hc
   · rename_i hg
     obtain ⟨g1,g2⟩:=hg
     refine eqv_go cx ho hx hc hs fun b hb=>?_
     have hb':eqAgg ks (x.ev e) (y.ev e)=some b:=by simpa [eqVals] using hb
     unfold eqAgg at hb'
     split at hb'
     · rename_i xs ys ex ey
       rw [ex] at hX
       rw [ey] at hY
       obtain ⟨vx,e1,n1,c1,r1⟩:=hX.inv_agg
       obtain ⟨vy,e2,n2,c2,r2⟩:=hY.inv_agg
       rw [e1,e2]
       have hf:P.fieldsOf t=fs:=by unfold Program.fieldsOf;rw [hd]
       constructor
       · have hst:=run_equalIn_struct (P:=P) w 9999 t vx vy (by rw [hf];exact hd) g2
         show (Op.equalIn (9999+1) t (.agg vx) (.agg vy)).run P w=.ok b w
         rw [hst,hf]
         refine eqCells_run (ψ:=ψ) (S:=S) (m:=m) (A:=A) vx vy 9998 fs.toList 0 ks xs ys b hks hb' (fun j v hj=>?_) (fun j v hj=>?_)
         · rw [Nat.zero_add]
           exact ⟨c1 j v hj,by rw [n1];exact (List.getElem?_eq_some_iff.1 hj).1,r1 j v hj⟩
         · rw [Nat.zero_add]
           exact ⟨c2 j v hj,by rw [n2];exact (List.getElem?_eq_some_iff.1 hj).1,r2 j v hj⟩
       · exact run_eqGuard_agg w op t X Y vx vy g1
     · cases hb'
   · cases hc
 · cases hc
theorem un_ok (cx:Cx P φ ψ N w0 w S m A h e a) {op:UnOp} {t:TypeId} {X:Operand} (ho:o.op=.unOp op t X):Ok P φ ψ N w0 w S m A h e a o:=by
 intro cop v u nid hc hs hn
 rw [ho] at hc
 simp only [cOp,Option.map_eq_some_iff] at hc
 obtain ⟨x,hx,rfl⟩:=hc
 have hX:=cx.opd hx
 simp only [stepOp,sUn] at hs
 obtain ⟨h1,rfl⟩:=ov_some hs
 unfold evUn at h1
 split at h1
 · rename_i k n he
   rw [he] at hX
   have hc:=hX.inv_int
   split at h1 <;> cases h1
   · exact Snd.val cx.inv (s:=Op.unary .neg (a.eval X)) (by simp [execOp,ho]) (by rw [hc];simp [Op.unary,Op.intArith]) (.int _ _) nid
   · exact Snd.val cx.inv (s:=Op.unary .xor (a.eval X)) (by simp [execOp,ho]) (by rw [hc];simp [Op.unary,Op.intBits]) (.int _ _) nid
 · rename_i b he
   rw [he] at hX
   have hc:=hX.inv_bool
   split at h1 <;> cases h1
   exact Snd.val cx.inv (s:=Op.unary .not (a.eval X)) (by simp [execOp,ho]) (by rw [hc];simp [Op.unary]) (.bool _) nid
 · cases h1
theorem bytesOf_some:∀ {es:List (List AV)} {s:List UInt8},bytesOf es=some s→∃ ns:List Int,ns.length=es.length∧s=ns.map (fun n=>UInt8.ofNat n.toNat)∧∀ (i:Nat) (n:Int),ns[i]?=some n→es[i]?=some [.int .u8 n]
 | [],s,h=>by simp only [bytesOf,Option.some.injEq] at h;subst h;exact ⟨[],rfl,rfl,by simp⟩
 | e::r,s,h=>by
  simp only [bytesOf] at h
  split at h
  · rename_i n
    obtain ⟨t,ht,rfl⟩:=om_some h
    obtain ⟨ns,h1,h2,h3⟩:=bytesOf_some ht
    refine ⟨n::ns,by simp [h1],by simp [h2],fun i k hk=>?_⟩
    cases i with
    | zero=>simp at hk;subst hk;rfl
    | succ i=>simpa using h3 i k (by simpa using hk)
  · cases h
theorem push_bytes:∀ (ns:List Int) (s:ByteArray),ns.foldl (fun r n=>r.push (UInt8.ofNat n.toNat)) s=⟨⟨s.data.toList++ns.map fun n=>UInt8.ofNat n.toNat⟩⟩
 | [],s=>by cases s;simp
 | n::ns,s=>by
  rw [List.foldl_cons,push_bytes ns]
  simp [ByteArray.push]
theorem cvt_ok (cx:Cx P φ ψ N w0 w S m A h e a) {t t':TypeId} {X:Operand} (ho:o.op=.convert t t' X):Ok P φ ψ N w0 w S m A h e a o:=by
 intro cop v u nid hc hs hn
 rw [ho] at hc
 simp only [cOp,Option.bind_eq_bind,Option.bind_eq_some_iff] at hc
 obtain ⟨x,hx,d1,hd1,d2,hd2,hc⟩:=hc
 have hX:=cx.opd hx
 split at hc
 · cases hc
   simp only [stepOp,sCvt] at hs
   split at hs
   · rename_i k' n he
     cases hs
     rw [he] at hX
     have hc:=hX.inv_int
     refine Snd.val cx.inv (s:=convert t t' (a.eval X)) (by simp [execOp,ho]) ?_ (.int _ _) nid
     rw [hc]
     simp [convert,run_underlying hd1,run_underlying hd2,Conv.intToInt]
   · cases hs
 · cases hc
   simp only [stepOp,sCvs] at hs
   split at hs
   · rename_i s he
     cases hs
     rw [he] at hX
     have hc:=hX.inv_str
     refine Snd.val cx.inv (s:=convert t t' (a.eval X)) (by simp [execOp,ho]) ?_ (.str _) nid
     rw [hc]
     simp [convert,run_underlying hd1,run_underlying hd2]
   · cases hs
 · rename_i el
   simp only [Option.bind_eq_some_iff] at hc
   obtain ⟨d3,hd3,hc⟩:=hc
   split at hc
   · cases hc
     simp only [stepOp,sCvb] at hs
     obtain ⟨h1,rfl⟩:=ov_some hs
     have fin:∀ (s:List UInt8),(convert t t' (a.eval X)).run P w=.ok (.string ⟨⟨s⟩⟩) w→v=.str s→Snd P ψ N w0 w S m A (execOp a.eval o) (applyUpd h []) v nid:=fun s q1 q2=>by
      rw [q2];exact Snd.val cx.inv (s:=convert t t' (a.eval X)) (by simp [execOp,ho]) q1 (.str _) nid
     cases hxv:x.ev e <;> rw [hxv] at h1 hX <;> simp only [evCvb] at h1 <;> try (cases h1;done)
     · cases h1
       refine fin [] ?_ rfl
       rw [hX.inv_nils,run_convert_bytes_string w t t' el none 0 0 hd1 hd3 hd2]
       simp [Conv.bytesToString]
       rfl
     · rename_i z es ex
       split at h1
       · rename_i hz
         subst hz
         obtain ⟨s,hb,rfl⟩:=om_some h1
         obtain ⟨ns,n1,n2,n3⟩:=bytesOf_some hb
         have load:∀ (b off:Nat),(∀ (i:Nat) (n:Int),ns[i]?=some n→w.cell? ⟨b,off+i,none⟩=some (.int .u8 n))→∀ cap,(convert t t' (.slice (some ⟨b,off,none⟩) es.length cap)).run P w=.ok (.string ⟨⟨s⟩⟩) w:=by
          intro b off hcell cap
          rw [run_convert_bytes_string w t t' el (some ⟨b,off,none⟩) es.length cap hd1 hd3 hd2]
          have hl:(loadCells ⟨b,off,none⟩ es.length).run P w=.ok (ns.map (Value.int .u8)).toArray w:=by
           rw [run_loadCells w ⟨b,off,none⟩ es.length (fun j=>Value.int .u8 (ns.getD j 0)) (fun j hj=>by
            have hj':j < ns.length:=by omega
            rw [add_row,hcell j ns[j] (List.getElem?_eq_getElem hj')]
            simp [hj'])]
           congr 2
           refine List.ext_getElem? fun j=>?_
           by_cases hj:j < es.length
           · have hj':j < ns.length:=by omega
             simp [hj,hj']
           · have hj':¬ j < ns.length:=by omega
             simp [hj,hj']
          rw [run_bytesToString w ⟨b,off,none⟩ es.length cap ns hl,push_bytes,n2]
          rfl
         rcases hX.inv_ro with ⟨b,off,cap,cs,e1,hS,hw,hcap,hex,hcell,hrep⟩ | ⟨rfl,ad,k,e1,_⟩
         · refine fin s ?_ rfl
           rw [e1]
           refine load b off (fun i n hi=>?_) cap
           have he:=n3 i n hi
           obtain ⟨_,q⟩:=hcell i _ 0 _ he rfl
           have r:=(hrep i _ 0 _ he rfl).inv_int
           rw [r] at q
           simpa using q
         · refine fin s ?_ rfl
           simp only [bytesOf,Option.some.injEq] at hb
           subst hb
           rw [e1,run_convert_bytes_string w t t' el (some ad) 0 k hd1 hd3 hd2]
           rw [run_bytesToString w ad 0 k [] (by simp [loadCells,loadCellsFrom])]
           rfl
       · cases h1
   · cases hc
 · cases hc
theorem mkfn_ok (cx:Cx P φ ψ N w0 w S m A h e a) {fn:Go.Fn} {first caps:Array Operand} (ho:o.op=.makeFunc fn first caps):Ok P φ ψ N w0 w S m A h e a o:=by
 intro cop v u nid hc hs hn
 rw [ho] at hc
 cases fn <;> simp only [cOp] at hc <;> try (cases hc;done)
 rename_i f
 simp only [Option.bind_eq_bind,Option.bind_eq_some_iff] at hc
 obtain ⟨g,hg,hc⟩:=hc
 split at hc
 · rename_i hf
   simp only [Option.bind_eq_some_iff] at hc
   obtain ⟨ys,hys,hc⟩:=hc
   cases hc
   simp only [stepOp,sMkfn] at hs
   split at hs
   · cases hs
     obtain ⟨hl,hi⟩:=cx.opds hys
     have hfe:first=#[]:=Array.eq_empty_of_size_eq_zero hf.1
     refine Snd.val cx.inv (s:=Instr.makeFunc (.func f) (first.map a.eval) (caps.map a.eval)) (cv:=.func (.func (ψ g)) #[] (caps.map a.eval)) (by simp [execOp,ho]) ?_ (.fn g _ (caps.map a.eval) (by simp [hl]) (fun j x hj=>?_) _ (.fn hf.2)) nid
     · rw [cx.ids f g hg,hfe];simp [Instr.makeFunc]
     · simp only [List.getElem?_map,Option.map_eq_some_iff] at hj
       obtain ⟨y,hj,rfl⟩:=hj
       obtain ⟨x,h1,h2⟩:=hi j y hj
       rw [Array.getD_eq_getD_getElem?]
       simp only [Array.getElem?_map,h1,Option.map_some,Option.getD_some]
       exact h2
   · cases hs
 · cases hc
theorem mkif_ok (cx:Cx P φ ψ N w0 w S m A h e a) {t:TypeId} {X:Operand} (ho:o.op=.makeInterface t X):Ok P φ ψ N w0 w S m A h e a o:=by
 intro cop v u nid hc hs hn
 rw [ho] at hc
 simp only [cOp,Option.bind_eq_bind,Option.bind_eq_some_iff] at hc
 obtain ⟨x,hx,d,hd,hc⟩:=hc
 have hX:=cx.opd hx
 split at hc
 · cases hc
 · rename_i hno
   cases hc
   simp only [stepOp,sMkfn] at hs
   split at hs
   · cases hs
     refine Snd.val cx.inv (s:=Instr.makeInterface t (a.eval X)) (cv:=.iface t (a.eval X)) (by simp [execOp,ho]) ?_ (.fn _ _ #[a.eval X] rfl (fun j y hj=>?_) _ (.ifc t rfl rfl)) nid
     · simp only [Instr.makeInterface,Sem.run_bind,run_underlying hd,Result.andThen_ok]
       cases d <;> first | rfl | exact absurd rfl (hno _)
     · cases j with
       | zero=>simp only [List.map_cons,List.getElem?_cons_zero,Option.some.injEq] at hj;subst hj;exact hX
       | succ j=>simp at hj
   · cases hs
theorem mkmap_ok (cx:Cx P φ ψ N w0 w S m A h e a) {t:TypeId} {r:Option Operand} (ho:o.op=.makeMap t r):Ok P φ ψ N w0 w S m A h e a o:=by
 intro cop v u nid hc hs hn
 rw [ho] at hc
 cases r with
 | some x=>simp only [cOp] at hc;cases hc
 | none =>
  simp only [cOp] at hc
  cases hc
  simp only [stepOp,sMkmap] at hs
  cases hs
  have le:=Le.push (w:=w) (w':=w.alloc (.map #[] 0)) (m:=m) (A:=A) (obj:=.map #[] 0) rfl cx.inv.sb hn (w.heap.size,0)
  have hnew:(w.alloc (.map #[] 0)).heap[w.heap.size]?=some (.map #[] 0):=by show (w.heap.push _)[_]?=_;simp
  refine ⟨.map (some w.heap.size),w.alloc (.map #[] 0),S,updM m nid (w.heap.size,0),addA A nid,.inl ?_,?_,cx.inv.push (w':=w.alloc (.map #[] 0)) (obj:=.map #[] 0) rfl rfl rfl hn 0 (.map []) ?_ rfl,le,fun _ _ hs=>hs,fun b hb=>hb⟩
  · simp [execOp,ho,Instr.makeMap]
  · have:=VR.map (ψ:=ψ) (w:=w.alloc (.map #[] 0)) (S:=S) (m:=updM m nid (w.heap.size,0)) (A:=addA A nid) nid (.inr rfl)
    simpa [updM] using this
  · exact ⟨#[],0,hnew,rfl,fun i k v hi=>by simp at hi⟩
theorem range_ok (cx:Cx P φ ψ N w0 w S m A h e a) {t:TypeId} {X:Operand} (ho:o.op=.range t X):Ok P φ ψ N w0 w S m A h e a o:=by
 intro cop v u nid hc hs hn
 rw [ho] at hc
 simp only [cOp,Option.bind_eq_bind,Option.bind_eq_some_iff] at hc
 obtain ⟨x,hx,d,hd,hc⟩:=hc
 have hX:=cx.opd hx
 split at hc
 · cases hc
   simp only [stepOp,sRange] at hs
   split at hs
   · rename_i s he
     cases hs
     rw [he] at hX
     have hc:=hX.inv_str
     have le:=Le.push (w:=w) (w':=w.alloc (.stringIter ⟨⟨s⟩⟩ 0)) (m:=m) (A:=A) (obj:=.stringIter ⟨⟨s⟩⟩ 0) rfl cx.inv.sb hn (w.heap.size,0)
     have hnew:(w.alloc (.stringIter ⟨⟨s⟩⟩ 0)).heap[w.heap.size]?=some (.stringIter ⟨⟨s⟩⟩ 0):=by show (w.heap.push _)[_]?=_;simp
     refine ⟨.pointer (some ⟨w.heap.size,0,none⟩),w.alloc (.stringIter ⟨⟨s⟩⟩ 0),S,updM m nid (w.heap.size,0),addA A nid,.inl ?_,?_,cx.inv.push (w':=w.alloc (.stringIter ⟨⟨s⟩⟩ 0)) (obj:=.stringIter ⟨⟨s⟩⟩ 0) rfl rfl rfl hn 0 (.iter s 0) hnew rfl,le,fun _ _ hs=>hs,fun b hb=>hb⟩
     · simp [execOp,ho,Instr.range,run_underlying hd,hc]
     · have:=VR.ptr (ψ:=ψ) (w:=w.alloc (.stringIter ⟨⟨s⟩⟩ 0)) (S:=S) (m:=updM m nid (w.heap.size,0)) (A:=addA A nid) nid 0 0 (.inr rfl)
       simpa [updM] using this
   · cases hs
 · cases hc
theorem ext_ok (cx:Cx P φ ψ N w0 w S m A h e a) {X:Operand} {k:Nat} (ho:o.op=.extract X k):Ok P φ ψ N w0 w S m A h e a o:=by
 intro cop v u nid hc hs hn
 rw [ho] at hc
 simp only [cOp] at hc
 split at hc
 case isFalse=>cases hc
 rename_i hlt
 simp only [Option.map_eq_some_iff] at hc
 obtain ⟨x,hx,rfl⟩:=hc
 have hX:=cx.opd hx
 simp only [stepOp,sExt] at hs
 split at hs
 · rename_i vs he
   obtain ⟨h1,rfl⟩:=ov_some hs
   rw [he] at hX
   obtain ⟨cs,e1,n1,r1⟩:=hX.inv_tup
   have hk:k < cs.size:=by rw [n1];exact (List.getElem?_eq_some_iff.1 h1).1
   refine Snd.val cx.inv (s:=Instr.extract (a.eval X) k) (by simp [execOp,ho]) ?_ (r1 k v h1) nid
   rw [e1]
   simp only [Instr.extract,getElem?_of_getD hk]
   rfl
 · split at hs
   · omega
   · cases hs
 · cases hs
end
end Go.Pav
end
section
set_option linter.unusedSimpArgs false
set_option linter.unusedVariables false
namespace Go.Pav
open Go
section
variable {P:Program} {φ:FuncId→Option Nat} {ψ:Psi} {N:Nat} {w0 w:World} {S:Nat→Prop} {m:Nat→Nat × Nat} {A:Nat→Prop} {h:Heap} {e:Env} {a:Act} {o:Oper}
theorem VR.rop_drop {cs:List AV} {b off:Nat} (hv:VR ψ w S m A (.rop cs) (.pointer (some ⟨b,off,none⟩))) (k:Nat):VR ψ w S m A (.rop (cs.drop k)) (.pointer (some ⟨b,off+k,none⟩)):=by
 obtain ⟨b',off',vs,e1,hS,hcell,hrep⟩:=hv.inv_rop
 cases e1
 refine .rop (cs.drop k) b (off+k) (fun j=>vs (k+j)) hS (fun j x hx=>?_) (fun j x hx=>?_)
 · rw [List.getElem?_drop] at hx
   obtain ⟨h1,h2⟩:=hcell _ x hx
   exact ⟨h1,by rw [Nat.add_assoc];exact h2⟩
 · rw [List.getElem?_drop] at hx
   exact hrep _ x hx
theorem VR.ptr_add {b i o:Nat} {c:Value} (hv:VR ψ w S m A (.ptr b i o) c) (k:Nat):VR ψ w S m A (.ptr b i (o+k)) (.pointer (some ⟨(m b).1,i * (m b).2+o+k,none⟩)):=by
 obtain ⟨hA,_⟩:=hv.inv_ptr
 have:=VR.ptr (ψ:=ψ) (w:=w) (S:=S) (m:=m) (A:=A) b i (o+k) hA
 rwa [← Nat.add_assoc] at this
theorem fld_ok (cx:Cx P φ ψ N w0 w S m A h e a) {t:TypeId} {X:Operand} {f:Nat} (ho:o.op=.fieldAddr t X f):Ok P φ ψ N w0 w S m A h e a o:=by
 intro cop v u nid hc hs hn
 rw [ho] at hc
 simp only [cOp,Option.bind_eq_bind,Option.bind_eq_some_iff] at hc
 obtain ⟨x,hx,d,hd,hc⟩:=hc
 have hX:=cx.opd hx
 split at hc
 · rename_i fs
   simp only [Option.bind_eq_some_iff] at hc
   obtain ⟨fd,hf,n,hn',hc⟩:=hc
   split at hc
   · cases hc
   · rename_i hne
     cases hc
     have run:∀ b off,a.eval X=.pointer (some ⟨b,off,none⟩)→(Instr.fieldAt t (a.eval X) f).run P w=.ok (.pointer (some ⟨b,off+fd.offset,none⟩)) w:=by
      intro b off he
      rw [he]
      simp only [Instr.fieldAt,Sem.run_bind,run_underlying hd,Result.andThen_ok,hf,Instr.sureAddr,Sem.run_pure,fieldPlace,sizeOf_run hn']
      rw [if_neg hne]
      simp [add_row]
     simp only [stepOp,sFld] at hs
     split at hs
     · rename_i cs he
       cases hs
       rw [he] at hX
       obtain ⟨b,off,vs,e1,_⟩:=hX.inv_rop
       refine Snd.val cx.inv (s:=Instr.fieldAt t (a.eval X) f) (by simp [execOp,ho]) (run b off e1) ?_ nid
       rw [e1] at hX
       exact hX.rop_drop _
     · rename_i b i o' he
       cases hs
       rw [he] at hX
       obtain ⟨_,e1⟩:=hX.inv_ptr
       exact Snd.val cx.inv (s:=Instr.fieldAt t (a.eval X) f) (by simp [execOp,ho]) (run _ _ e1) (hX.ptr_add _) nid
     · cases hs
 · cases hc
theorem part_run {t:TypeId} {n:Nat} {ag:Bool} (hs:sizeT P t=some n) (hag:isAggT P t=some ag) {cs:List AV} {vs:Array Value} (hn:vs.size=cs.length)
 (hcell:∀ (j:Nat) (x:AV),cs[j]?=some x→x.cell=true) (hr:∀ (j:Nat) (x:AV),cs[j]?=some x→VR ψ w S m A x (vs.getD j Go.undef)) {off:Nat} {v:AV}
 (hl:loadC n ag (cs.drop off)=some v):∃ cv,(part t vs off).run P w=.ok cv w∧VR ψ w S m A v cv:=by
 unfold loadC at hl
 cases ag with
 | true =>
  simp only [if_true] at hl
  by_cases hle:n≤(cs.drop off).length
  · rw [if_pos hle] at hl
    cases hl
    rw [List.length_drop] at hle
    have get:∀ (j:Nat) (x:AV),((cs.drop off).take n)[j]?=some x→j < n∧cs[off+j]?=some x:=by
     intro j x hx
     rw [List.getElem?_take] at hx
     split at hx
     · rename_i hj
       rw [List.getElem?_drop] at hx
       exact ⟨hj,hx⟩
     · cases hx
    refine ⟨.agg (vs.extract off (off+n)),?_,.agg _ _ ?_ (fun j x hx=>hcell _ x (get j x hx).2) (fun j x hx=>?_)⟩
    · unfold part
      rw [Sem.run_bind,isAgg_run hag]
      simp [sizeOf_run hs]
    · by_cases h0:n=0
      · subst h0;simp;omega
      · simp;omega
    · obtain ⟨hj,h2⟩:=get j x hx
      have h3:=hr _ x h2
      have hlt:off+j < vs.size:=by rw [hn];exact (List.getElem?_eq_some_iff.1 h2).1
      rw [Array.getD_eq_getD_getElem?] at h3 ⊢
      rw [Array.getElem?_extract]
      rw [if_pos (by omega)]
      exact h3
  · rw [if_neg hle] at hl;cases hl
 | false =>
  simp only [Bool.false_eq_true,if_false] at hl
  rw [List.head?_drop] at hl
  have hlt:off < vs.size:=by rw [hn];exact (List.getElem?_eq_some_iff.1 hl).1
  refine ⟨vs.getD off Go.undef,?_,hr off v hl⟩
  unfold part
  rw [Sem.run_bind,isAgg_run hag]
  simp only [Result.andThen_ok,Bool.false_eq_true,if_false]
  rw [getElem?_of_getD hlt]
  rfl
theorem fldv_ok (cx:Cx P φ ψ N w0 w S m A h e a) {t:TypeId} {X:Operand} {f:Nat} (ho:o.op=.field t X f):Ok P φ ψ N w0 w S m A h e a o:=by
 intro cop v u nid hc hs hn
 rw [ho] at hc
 simp only [cOp,Option.bind_eq_bind,Option.bind_eq_some_iff] at hc
 obtain ⟨x,hx,d,hd,hc⟩:=hc
 have hX:=cx.opd hx
 split at hc
 · rename_i fs
   simp only [Option.bind_eq_some_iff] at hc
   obtain ⟨fd,hf,n,hn',ag,hag,hc⟩:=hc
   cases hc
   simp only [stepOp,sFldv] at hs
   split at hs
   · rename_i cs he
     obtain ⟨h1,rfl⟩:=ov_some hs
     rw [he] at hX
     obtain ⟨vs,e1,n1,c1,r1⟩:=hX.inv_agg
     obtain ⟨cv,h2,h3⟩:=part_run (P:=P) hn' hag n1 c1 r1 h1
     refine Snd.val cx.inv (s:=Instr.field t (a.eval X) f) (by simp [execOp,ho]) ?_ h3 nid
     rw [e1]
     simp only [Instr.field,Sem.run_bind,run_underlying hd,Result.andThen_ok,hf,asAgg,Sem.run_pure,h2]
   · cases hs
 · cases hc
theorem idx_run {k:IntKind} {n:Nat} {g off:Nat} {t el:TypeId} {len cap z:Nat} (hd:P.underlying t=some (.slice el)) (hz:sizeT P el=some z) (hl:n < len) :
 (Instr.indexAt t (.slice (some ⟨g,off,none⟩) len cap) (.int k n)).run P w=.ok (.pointer (some ⟨g,off+n * z,none⟩)) w:=by
 have h1:(0:Int)≤n∧(n:Int) < len:=by omega
 simp only [Instr.indexAt,asIntOf,Sem.run_bind,Sem.run_pure,run_underlying hd,Result.andThen_ok]
 rw [if_pos h1]
 simp [sizeOf_run hz,add_row]
theorem idxs_ok (cx:Cx P φ ψ N w0 w S m A h e a) {t:TypeId} {X I:Operand} (ho:o.op=.indexAddr t X I):Ok P φ ψ N w0 w S m A h e a o:=by
 intro cop v u nid hc hs hn
 rw [ho] at hc
 simp only [cOp,Option.bind_eq_bind,Option.bind_eq_some_iff] at hc
 obtain ⟨x,hx,ix,hix,d,hd,hc⟩:=hc
 have hX:=cx.opd hx
 have hI:=cx.opd hix
 split at hc
 · rename_i el
   simp only [Option.bind_eq_some_iff] at hc
   obtain ⟨z,hz,hc⟩:=hc
   split at hc
   · cases hc
   · cases hc
     simp only [stepOp,sIdxs] at hs
     split at hs
     · rename_i k n he
       obtain ⟨n',hn',hs1⟩:=ob_some hs
       replace hs:=hs1;clear hs1
       cases nat?_some hn'
       rw [he] at hI
       have eI:=hI.inv_int
       cases hxv:x.ev e <;> rw [hxv] at hs hX <;> simp only [idxsAt] at hs <;> try (cases hs;done)
       · rename_i z' es ex
         split at hs
         · rename_i hzz
           subst hzz
           obtain ⟨cs,hcs,hs⟩:=ob_some hs
           cases hs
           have hlt:n' < es.length:=(List.getElem?_eq_some_iff.1 hcs).1
           rcases hX.inv_ro with ⟨b,off,cap,vs,e1,hS,hw,hcap,hex,hcell,hrep⟩ | ⟨rfl,_⟩
           case inr=>simp at hlt
           refine Snd.val cx.inv (s:=Instr.indexAt t (a.eval X) (a.eval I)) (by simp [execOp,ho]) (by rw [e1,eI];exact idx_run hd hz hlt) ?_ nid
           exact .rop cs b (off+n' * z') (vs n') hS (fun j y hy=>hcell n' cs j y hcs hy) (fun j y hy=>hrep n' cs j y hcs hy)
         · cases hs
       · rename_i b z' j len cap ex
         split at hs
         · rename_i hzz
           obtain ⟨hzz,hlt⟩:=hzz
           subst hzz
           cases hs
           obtain ⟨cc,e1,hA,hmz,_⟩:=hX.inv_sl
           refine Snd.val cx.inv (s:=Instr.indexAt t (a.eval X) (a.eval I)) (by simp [execOp,ho]) (by rw [e1,eI];exact idx_run hd hz hlt) ?_ nid
           have:=VR.ptr (ψ:=ψ) (w:=w) (S:=S) (m:=m) (A:=A) b (j+n') 0 hA
           rw [hmz,Nat.add_zero,Nat.add_mul] at this
           exact this
         · cases hs
     · cases hs
 · rename_i len el
   simp only [Option.bind_eq_some_iff] at hc
   obtain ⟨z,hz,hc⟩:=hc
   split at hc
   · cases hc
   · cases hc
     simp only [stepOp,sIdxa] at hs
     split at hs
     · rename_i k n he
       obtain ⟨n',hn',hs1⟩:=ob_some hs
       replace hs:=hs1;clear hs1
       cases nat?_some hn'
       rw [he] at hI
       have eI:=hI.inv_int
       split at hs
       · rename_i hlt
         have run:∀ b off,a.eval X=.pointer (some ⟨b,off,none⟩)→(Instr.indexAt t (a.eval X) (a.eval I)).run P w=.ok (.pointer (some ⟨b,off+n' * z,none⟩)) w:=by
          intro b off e1
          rw [e1,eI]
          have h1:(0:Int)≤n'∧(n':Int) < len:=by omega
          simp only [Instr.indexAt,asIntOf,Sem.run_bind,Sem.run_pure,run_underlying hd,Result.andThen_ok,Instr.sureAddr]
          rw [if_pos h1]
          simp [sizeOf_run hz,add_row]
         cases hxv:x.ev e <;> rw [hxv] at hs hX <;> simp only [idxaAt] at hs <;> try (cases hs;done)
         · rename_i cs
           cases hs
           obtain ⟨b,off,vs,e1,_⟩:=hX.inv_rop
           refine Snd.val cx.inv (s:=Instr.indexAt t (a.eval X) (a.eval I)) (by simp [execOp,ho]) (run b off e1) ?_ nid
           rw [e1] at hX
           exact hX.rop_drop _
         · rename_i b i o'
           cases hs
           obtain ⟨_,e1⟩:=hX.inv_ptr
           exact Snd.val cx.inv (s:=Instr.indexAt t (a.eval X) (a.eval I)) (by simp [execOp,ho]) (run _ _ e1) (hX.ptr_add _) nid
       · cases hs
     · cases hs
 · cases hc
theorem index_ok (cx:Cx P φ ψ N w0 w S m A h e a) {t:TypeId} {X I:Operand} (ho:o.op=.index t X I):Ok P φ ψ N w0 w S m A h e a o:=by
 intro cop v u nid hc hs hn
 rw [ho] at hc
 simp only [cOp,Option.bind_eq_bind,Option.bind_eq_some_iff] at hc
 obtain ⟨x,hx,ix,hix,d,hd,hc⟩:=hc
 have hX:=cx.opd hx
 have hI:=cx.opd hix
 split at hc
 · cases hc
   simp only [stepOp,sIdxstr] at hs
   split at hs
   · rename_i s k n ex ei
     obtain ⟨n',hn',hs1⟩:=ob_some hs
     replace hs:=hs1;clear hs1
     cases nat?_some hn'
     obtain ⟨c,hc',hs⟩:=ob_some hs
     cases hs
     rw [ex] at hX
     rw [ei] at hI
     have eX:=hX.inv_str
     have eI:=hI.inv_int
     refine Snd.val cx.inv (s:=Instr.index t (a.eval X) (a.eval I)) (cv:=.int .u8 c.toNat) (by simp [execOp,ho]) ?_ (.int _ _) nid
     rw [eX,eI]
     have h0:(0:Int)≤n':=by omega
     have hlt:n' < s.length:=(List.getElem?_eq_some_iff.1 hc').1
     have hb:(⟨⟨s⟩⟩:ByteArray)[n']?=some c:=by
      have hsz:(⟨⟨s⟩⟩:ByteArray).size=s.length:=rfl
      rw [getElem?_pos (⟨⟨s⟩⟩:ByteArray) n' (by rw [hsz];exact hlt)]
      congr 1
      have:=(List.getElem?_eq_some_iff.1 hc').2
      rw [← this]
      rfl
     simp only [Instr.index,asIntOf,Sem.run_bind,Sem.run_pure,run_underlying hd,Result.andThen_ok]
     rw [if_pos h0]
     simp [hb]
   · cases hs
 · rename_i len el
   simp only [Option.bind_eq_some_iff] at hc
   obtain ⟨z,hz,ag,hag,hc⟩:=hc
   cases hc
   simp only [stepOp,sIdxv] at hs
   split at hs
   · rename_i cs k n ex ei
     obtain ⟨n',hn',hs1⟩:=ob_some hs
     replace hs:=hs1;clear hs1
     cases nat?_some hn'
     split at hs
     · rename_i hlt
       obtain ⟨h1,rfl⟩:=ov_some hs
       rw [ex] at hX
       rw [ei] at hI
       obtain ⟨vs,e1,n1,c1,r1⟩:=hX.inv_agg
       have eI:=hI.inv_int
       obtain ⟨cv,h2,h3⟩:=part_run (P:=P) hz hag n1 c1 r1 h1
       refine Snd.val cx.inv (s:=Instr.index t (a.eval X) (a.eval I)) (by simp [execOp,ho]) ?_ h3 nid
       rw [e1,eI]
       have h0:(0:Int)≤n'∧(n':Int) < len:=by omega
       simp only [Instr.index,asIntOf,Sem.run_bind,Sem.run_pure,run_underlying hd,Result.andThen_ok]
       rw [if_pos h0]
       simp [sizeOf_run hz,h2]
     · cases hs
   · cases hs
 · cases hc
end
end Go.Pav
end
section
set_option linter.unusedSimpArgs false
set_option linter.unusedVariables false
namespace Go.Pav
open Go
section
variable {h:Heap}
theorem get_marks (k:Nat):∀ (bs:List Nat) (h1:Heap),
 (∃ z es mu,get h k=some (.cells z es mu)∧k ∈ bs∧get (applyUpd h1 (markFrozen h bs)) k=some (.cells z es false)) ∨
 (get (applyUpd h1 (markFrozen h bs)) k=get h1 k∧(k ∈ bs→∀ z es mu,get h k≠some (.cells z es mu))):=by
 intro bs
 induction bs with
 | nil=>intro h1;exact .inr ⟨rfl,fun hk=>by cases hk⟩
 | cons b r ih =>
  intro h1
  have other:(∀ z es mu,get h b≠some (.cells z es mu))→markFrozen h (b::r)=markFrozen h r:=by
   intro hno
   simp only [markFrozen]
  by_cases hb:∃ z es mu,get h b=some (.cells z es mu)
  · obtain ⟨z,es,mu,hg⟩:=hb
    have e1:applyUpd h1 (markFrozen h (b::r))=applyUpd (put h1 b (.cells z es false)) (markFrozen h r):=by simp only [markFrozen,hg,applyUpd,updOne]
    rw [e1]
    rcases ih (put h1 b (.cells z es false)) with ⟨z',es',mu',q1,q2,q3⟩ | ⟨q1,q2⟩
    · exact .inl ⟨z',es',mu',q1,List.mem_cons_of_mem _ q2,q3⟩
    · rw [get_put] at q1
      by_cases e:b=k
      · subst e
        rw [if_pos rfl] at q1
        exact .inl ⟨z,es,mu,hg,List.mem_cons_self,q1⟩
      · rw [if_neg e] at q1
        exact .inr ⟨q1,fun hk=>q2 (by rcases List.mem_cons.1 hk with rfl | hk;exact absurd rfl e;exact hk)⟩
  · have hb':∀ z es mu,get h b≠some (.cells z es mu):=fun z es mu hg=>hb ⟨z,es,mu,hg⟩
    rw [other hb']
    rcases ih h1 with ⟨z',es',mu',q1,q2,q3⟩ | ⟨q1,q2⟩
    · exact .inl ⟨z',es',mu',q1,List.mem_cons_of_mem _ q2,q3⟩
    · refine .inr ⟨q1,fun hk=>?_⟩
      rcases List.mem_cons.1 hk with rfl | hk
      · exact hb'
      · exact q2 hk
end
theorem Inv.data {ψ:Psi} {N:Nat} {w0 w:World} {S:Nat→Prop} {m:Nat→Nat × Nat} {A:Nat→Prop} {h:Heap} (i:Inv ψ N w0 w S m A h) {w':World}
 (hold:∀ c,c < w.heap.size→w'.heap[c]?=w.heap[c]?) (hsz:w.heap.size≤w'.heap.size) (hos:w'.os=w.os) (hout:w'.output=w.output) {Sn:Nat→Prop}
 (hsub:∀ c,S c→Sn c) (hsn:∀ c,Sn c→c < w'.heap.size) (bs:List Nat) (hbs:∀ b ∈ bs,∃ z es mu,get h b=some (.cells z es mu)∧Sn (m b).1)
 (hnew:∀ c,Sn c→S c∨(∃ b ∈ bs,c=(m b).1)∨w.heap.size≤c):Inv ψ N w0 w' Sn m A (applyUpd h (markFrozen h bs))∧Le w S m A w' Sn m A:=by
 have le:Le w S m A w' Sn m A:=by
  refine ⟨fun b hb=>hold b (i.sb b hb),fun b c t fr hc=>⟨c,?_,rfl⟩,hsz,hsub,fun _ h=>h,fun _ _=>rfl⟩
  rw [hold b (Array.getElem?_eq_some_iff.1 hc).1];exact hc
 refine ⟨?_,le⟩
 have look:∀ b o,get (applyUpd h (markFrozen h bs)) b=some o→(∃ z es mu,get h b=some (.cells z es mu)∧b ∈ bs∧o=.cells z es false)∨(get h b=some o∧b ∉ bs):=by
  intro b o hb
  rcases get_marks (h:=h) b bs h with ⟨z,es,mu,q1,q2,q3⟩ | ⟨q1,q2⟩
  · rw [q3] at hb;cases hb;exact .inl ⟨z,es,mu,q1,q2,rfl⟩
  · rw [q1] at hb
    refine .inr ⟨hb,fun hm=>?_⟩
    obtain ⟨z,es,mu,r1,_⟩:=hbs b hm
    exact q2 hm z es mu r1
 have mutless:∀ b o,get (applyUpd h (markFrozen h bs)) b=some o→mutab o=true→get h b=some o∧b ∉ bs:=by
  intro b o hb hm
  rcases look b o hb with ⟨z,es,mu,q1,q2,rfl⟩ | q
  · cases hm
  · exact q
 constructor
 · intro b o hb
   rcases look b o hb with ⟨z,es,mu,q1,q2,rfl⟩ | ⟨q,_⟩
   · exact i.dom b _ q1
   · exact i.dom b o q
 · intro b o hb
   rcases look b o hb with ⟨z,es,mu,q1,q2,rfl⟩ | ⟨q,_⟩
   · have:=(i.obj b _ q1).mono le (hold _ (i.obj b _ q1).lt)
     exact this
   · exact (i.obj b o q).mono le (hold _ (i.obj b o q).lt)
 · intro b o hb hm
   rcases look b o hb with ⟨z,es,mu,q1,q2,rfl⟩ | ⟨q,_⟩
   · obtain ⟨_,_,_,_,r⟩:=hbs b q2;exact r
   · exact hsub _ (i.fro b o q hm)
 · intro b o hb hm
   obtain ⟨q,qn⟩:=mutless b o hb hm
   obtain ⟨l1,l2⟩:=i.live b o q hm
   refine ⟨fun hs=>?_,l2⟩
   rcases hnew _ hs with r | ⟨b',r1,r2⟩ | r
   · exact l1 r
   · obtain ⟨z,es,mu,r3,r4⟩:=hbs b' r1
     have hne:b≠b':=fun e=>qn (e ▸ r1)
     cases mu with
     | true=>exact i.inj b o b' _ q r3 hm rfl hne r2
     | false=>exact l1 (r2 ▸ i.fro b' _ r3 rfl)
   · have:=(i.obj b o q).lt;omega
 · intro b o b' o' h1 h2 m1 m2 hne
   exact i.inj b o b' o' (mutless b o h1 m1).1 (mutless b' o' h2 m2).1 m1 m2 hne
 · exact hsn
 · exact Nat.le_trans i.size hsz
 · intro c hc
   rw [hold c (Nat.lt_of_lt_of_le hc i.size)];exact i.old c hc
 · exact hos.trans i.os
 · exact hout.trans i.out
 · exact i.laid
section
variable {P:Program} {ψ:Psi} {N:Nat} {w0 w:World} {S S':Nat→Prop} {m:Nat→Nat × Nat} {A A':Nat→Prop} {h:Heap}
theorem leaf_vr {x:AV} {u:Value} (hl:isLeaf x=true) (hv:VR ψ w S m A x u):VR ψ w S' m A' x u:=by
 cases hv <;> first | (constructor;done) | (simp [isLeaf] at hl)
theorem mark_one (i:Inv ψ N w0 w S m A h) {b z:Nat} {es:List (List AV)} {mu:Bool} (hg:get h b=some (.cells z es mu)) :
 Inv ψ N w0 w (fun c=>S c∨c=(m b).1) m A (applyUpd h [(b,some (.cells z es false))])∧Le w S m A w (fun c=>S c∨c=(m b).1) m A∧∀ c,c < N→(S c∨c=(m b).1)→S c:=by
 obtain ⟨j1,j2⟩:=i.data (w':=w) (Sn:=fun c=>S c∨c=(m b).1) (fun _ _=>rfl) (Nat.le_refl _) rfl rfl (fun c hc=>.inl hc) (fun c hc=>by
  rcases hc with hc | rfl
  · exact i.sb c hc
  · exact (i.obj b _ hg).lt) [b] (fun b' hb=>by
  simp only [List.mem_cons,List.not_mem_nil,or_false] at hb
  subst hb
  exact ⟨z,es,mu,hg,.inr rfl⟩) (fun c hc=>by
  rcases hc with hc | rfl
  · exact .inl hc
  · exact .inr (.inl ⟨b,by simp,rfl⟩))
 refine ⟨?_,j2,fun c hc hs=>?_⟩
 · simpa [markFrozen,hg] using j1
 · rcases hs with q | rfl
   · exact q
   · cases mu with
     | true=>have:=(i.live b _ hg rfl).2;omega
     | false=>exact i.fro b _ hg rfl
end
end Go.Pav
end
