/- The abstract evaluator: values, heap, the small code, its evaluation. -/
import GoSem.Dispatch
import GoSem.Core.Program
namespace Go.Pav
open Go

inductive AV where
  | undef
  | bool (b : Bool)
  | int (k : IntKind) (n : Int)
  | str (s : List UInt8)
  | nilp
  | nils
  | nilm
  | nilf
  | ro (z : Nat) (es : List (List AV)) (ex : Bool)
  | rop (cs : List AV)
  | ptr (b i o : Nat)
  | sl (b z i len cap : Nat) (ex : Bool)
  | map (b : Nat)
  | fn (f : Nat) (caps : List AV)
  | agg (cs : List AV)
  | tup (vs : List AV)
  deriving Inhabited

inductive AObj where
  | cells (z : Nat) (es : List (List AV)) (mu : Bool)
  | map (es : List (AV × AV))
  | iter (s : List UInt8) (pos : Nat)
  deriving Inhabited

abbrev Env := List (Nat × AV)
abbrev Heap := List (Nat × AObj)

def get {α : Type} : List (Nat × α) → Nat → Option α
  | [], _ => none
  | (k, v) :: r, n => if k = n then some v else get r n

def put {α : Type} : List (Nat × α) → Nat → α → List (Nat × α)
  | [], n, x => [(n, x)]
  | (k, v) :: r, n, x => if k = n then (n, x) :: r else if n ≤ k then (n, x) :: (k, v) :: r else (k, v) :: put r n x

def del {α : Type} : List (Nat × α) → Nat → List (Nat × α)
  | [], _ => []
  | (k, v) :: r, n => if k = n then del r n else (k, v) :: del r n

def keep {α : Type} (m : Nat) : List (Nat × α) → List (Nat × α)
  | [] => []
  | (k, v) :: r => if m.testBit k then (k, v) :: keep m r else keep m r

def below {α : Type} (n : Nat) : List (Nat × α) → List (Nat × α)
  | [] => []
  | (k, v) :: r => if k < n then (k, v) :: below n r else below n r

/-- Bind. -/
def ob {α β : Type} (x : Option α) (f : α → Option β) : Option β :=
  match x with
  | some a => f a
  | none => none

def om {α β : Type} (x : Option α) (f : α → β) : Option β :=
  match x with
  | some a => some (f a)
  | none => none

/-- Only if. -/
def og {β : Type} (c : Bool) (x : Option β) : Option β :=
  match c with
  | true => x
  | false => none

def mapO {α β : Type} (f : α → Option β) : List α → Option (List β)
  | [] => some []
  | a :: r => ob (f a) fun b => om (mapO f r) fun bs => b :: bs

def nat? : Int → Option Nat
  | .ofNat n => some n
  | .negSucc _ => none

def bytesLess : List UInt8 → List UInt8 → Bool
  | _, [] => false
  | [], _ :: _ => true
  | a :: x, b :: y => decide (a < b) || (decide (a = b) && bytesLess x y)

inductive Opd where
  | t (s : Nat)
  | c (v : AV)
  deriving Inhabited

inductive COp where
  | mv (x : Opd)
  | pick (c a b : Opd)
  | alloc (z : List AV)
  | box (x : Opd)
  | build (z : List AV) (ps : List (Nat × Nat × Opd))
  | buildS (z : List AV) (len : Nat) (ps : List (Nat × Opd))
  | load (n : Nat) (ag : Bool) (a : Opd)
  | store (n : Nat) (a x : Opd)
  | nilchk (x : Opd)
  | bin (op : BinOp) (x y : Opd)
  | eqv (kd : Nat) (ks : List Nat) (ne : Bool) (x y : Opd)
  | un (op : UnOp) (x : Opd)
  | cvt (k : IntKind) (x : Opd)
  | cvs (x : Opd)
  | mkfn (f : Nat) (caps : List Opd)
  | mkmap
  | mksl (z : List AV) (bytes : Nat) (l c : Opd)
  | slice (z : Nat) (x : Opd) (lo hi mx : Option Opd)
  | fld (off : Nat) (x : Opd)
  | fldv (off n : Nat) (ag : Bool) (x : Opd)
  | idxs (z : Nat) (x i : Opd)
  | idxa (len z : Nat) (x i : Opd)
  | idxstr (x i : Opd)
  | idxv (len z : Nat) (ag : Bool) (x i : Opd)
  | look (kd : Nat) (z : AV) (ok : Bool) (m k : Opd)
  | upd (kd : Nat) (m k v : Opd)
  | range (x : Opd)
  | next (x : Opd)
  | ext (i : Nat) (x : Opd)
  | call (f : Nat) (args : List Opd)
  | callv (g : Opd) (args : List Opd)
  | len (kd : Nat) (x : Opd)
  | cap (x : Opd)
  | app (z : List AV) (bytes : Nat) (zeros : Bool) (s x : Opd)
  | cpy (z : Nat) (d s : Opd)
  | mx (x y : Opd)
  | mn (x y : Opd)
  | fail
  deriving Inhabited

structure COper where
  dst : Option Nat
  guard : Option (Nat × Bool)
  op : COp
  deriving Inhabited

inductive CCode where
  | skip
  | ops (l : List COper) (live : Nat)
  | draw (l : List COper) (un : List (Nat × Nat)) (live : Nat)
  | seq (a b : CCode)
  | cond (c : Opd) (a b : CCode)
  | block (id : Nat) (b : CCode)
  | loop (live : Nat) (b : CCode)
  | exit (id : Nat)
  | ret
  | fail
  deriving Inhabited

/-- A result: a slot, or a variable's cells (how many, and whether it is a struct or array). -/
inductive CRes where
  | tmp (t : Nat)
  | cell (t n : Nat) (ag : Bool)
  deriving Inhabited

structure CFn where
  np : Nat
  res : List CRes
  body : CCode
  deriving Inhabited

/-- Code without its masks. -/
def mz : CCode → CCode
  | .ops l _ => .ops l 0
  | .draw l un _ => .draw l un 0
  | .seq a b => .seq (mz a) (mz b)
  | .cond c a b => .cond c (mz a) (mz b)
  | .block id b => .block id (mz b)
  | .loop _ b => .loop 0 (mz b)
  | c => c

def stripF (f : CFn) : CFn := ⟨f.np, f.res, mz f.body⟩

inductive Tree where
  | leaf
  | node (l : Tree) (k : Nat) (f : CFn) (r : Tree)
  deriving Inhabited

def Tree.get : Tree → Nat → Option CFn
  | .leaf, _ => none
  | .node l k f r, n => if n = k then some f else if n ≤ k then l.get n else r.get n

/-- The program: its functions, and which of them are always called on the caller's heap. -/
structure Prog where
  fns : Tree
  inl : Nat → Bool

/- What an operand is. -/
def Opd.ev (x : Opd) (e : Env) : AV :=
  match x with
  | .t s => (get e s).getD .undef
  | .c v => v

/-- The cells of a value. -/
def AV.cells : AV → List AV
  | .agg cs => cs
  | v => [v]

/-- May it be a cell? -/
def AV.cell : AV → Bool
  | .agg _ => false
  | .tup _ => false
  | .undef => false
  | _ => true

/-- Freezing: all that is reached becomes read-only data. -/
def frz (h : Heap) : Nat → AV → Option AV
  | 0, _ => none
  | n + 1, v => match v with
    | .undef => none
    | .ptr _ _ _ => none
    | .map _ => none
    | .sl b z i len cap ex => match get h b with
      | some (.cells _ es _) => ob (mapO (mapO (frz h n)) ((es.drop i).take len)) fun es' =>
          og (decide (es'.length = len)) (some (.ro z es' (ex && decide (cap = len))))
      | _ => none
    | .fn f caps => om (mapO (frz h n) caps) fun cs => .fn f cs
    | .agg cs => om (mapO (frz h n) cs) fun cs => .agg cs
    | .tup vs => om (mapO (frz h n) vs) fun vs => .tup vs
    | .bool b => some (.bool b)
    | .int k x => some (.int k x)
    | .str s => some (.str s)
    | .nilp => some .nilp
    | .nils => some .nils
    | .nilm => some .nilm
    | .nilf => some .nilf
    | .ro z es ex => some (.ro z es ex)
    | .rop cs => some (.rop cs)

def frzDepth : Nat := 16

/-- The blocks that freezing reaches. -/
def reach (h : Heap) : Nat → AV → List Nat
  | 0, _ => []
  | n + 1, v => match v with
    | .sl b _ i len _ _ => b :: (match get h b with
      | some (.cells _ es _) => ((es.drop i).take len).flatMap fun e => e.flatMap (reach h n)
      | _ => [])
    | .fn _ caps => caps.flatMap (reach h n)
    | .agg cs => cs.flatMap (reach h n)
    | .tup vs => vs.flatMap (reach h n)
    | _ => []

/-- Does it hold read-only memory? (of a frozen value) -/
def hasRef : Nat → AV → Bool
  | 0, _ => true
  | n + 1, v => match v with
    | .ro _ _ _ => true
    | .rop _ => true
    | .fn _ caps => caps.any (hasRef n)
    | .agg cs => cs.any (hasRef n)
    | .tup vs => vs.any (hasRef n)
    | _ => false

/-- Does it name no block of number n or above? -/
def under (b0 : Nat) : Nat → AV → Bool
  | 0, _ => false
  | n + 1, v => match v with
    | .ptr b _ _ => decide (b < b0)
    | .sl b _ _ _ _ _ => decide (b < b0)
    | .map b => decide (b < b0)
    | .fn _ caps => caps.all (under b0 n)
    | .agg cs => cs.all (under b0 n)
    | .tup vs => vs.all (under b0 n)
    | _ => true

def AObj.under (b0 : Nat) : AObj → Bool
  | .cells _ es _ => es.all fun e => e.all (Pav.under b0 frzDepth)
  | .map es => es.all fun x => Pav.under b0 frzDepth x.1 && Pav.under b0 frzDepth x.2
  | .iter _ _ => true

abbrev Upd := List (Nat × Option AObj)

def updOne (h : Heap) (b : Nat) : Option AObj → Heap
  | some o => put h b o
  | none => del h b

def applyUpd : Heap → Upd → Heap
  | h, [] => h
  | h, (b, o) :: r => applyUpd (updOne h b o) r

def markFrozen (h : Heap) : List Nat → Upd
  | [] => []
  | b :: r => match get h b with
    | some (.cells z es _) => (b, some (.cells z es false)) :: markFrozen h r
    | _ => markFrozen h r

def binInt (op : BinOp) (k : IntKind) (x y : Int) : Option AV :=
  match op with
  | .add => some (.int k (k.wrap (x + y)))
  | .sub => some (.int k (k.wrap (x - y)))
  | .mul => some (.int k (k.wrap (x * y)))
  | .quo => if y = 0 then none else some (.int k (k.wrap (x.tdiv y)))
  | .rem => if y = 0 then none else some (.int k (x.tmod y))
  | .and => some (.int k (k.wrap (BitVec.ofInt k.bits x &&& BitVec.ofInt k.bits y).toNat))
  | .or => some (.int k (k.wrap (BitVec.ofInt k.bits x ||| BitVec.ofInt k.bits y).toNat))
  | .xor => some (.int k (k.wrap (BitVec.ofInt k.bits x ^^^ BitVec.ofInt k.bits y).toNat))
  | .andNot => some (.int k (k.wrap (BitVec.ofInt k.bits x &&& ~~~ BitVec.ofInt k.bits y).toNat))
  | .eql => some (.bool (x == y))
  | .neq => some (.bool (x != y))
  | .lss => some (.bool (x < y))
  | .leq => some (.bool (x ≤ y))
  | .gtr => some (.bool (x > y))
  | .geq => some (.bool (x ≥ y))
  | .shl => none
  | .shr => none

def shiftInt (op : BinOp) (k : IntKind) (x : Int) (n : Nat) : Option AV :=
  match op with
  | .shl => some (.int k (k.wrap (x * 2 ^ (min n k.bits))))
  | .shr => some (.int k (x.fdiv (2 ^ (min n k.bits))))
  | _ => none

def maxStr : Nat := 1099511627776

def binStr (op : BinOp) (x y : List UInt8) : Option AV :=
  match op with
  | .add => if x.length + y.length ≤ maxStr then some (.str (x ++ y)) else none
  | .eql => some (.bool (x == y))
  | .neq => some (.bool (!(x == y)))
  | .lss => some (.bool (bytesLess x y))
  | .leq => some (.bool (bytesLess x y || x == y))
  | .gtr => some (.bool (!(bytesLess x y || x == y)))
  | .geq => some (.bool (!bytesLess x y))
  | _ => none

def isShift : BinOp → Bool
  | .shl => true
  | .shr => true
  | _ => false

def evBin (op : BinOp) (x y : AV) : Option AV :=
  match x, y with
  | .int k a, .int k' b => if isShift op then ob (nat? b) (shiftInt op k a) else if k = k' then binInt op k a b else none
  | .str a, .str b => binStr op a b
  | _, _ => none

/-- Equality of cells that are numbers, strings or bools. -/
def eqCell : AV → AV → Option Bool
  | .int k a, .int k' b => if k = k' then some (a == b) else none
  | .str a, .str b => some (a == b)
  | .bool a, .bool b => some (a == b)
  | _, _ => none

/-- Is it a number (0), a string (1), a bool (2)? -/
def keyOk (kd : Nat) : AV → Bool
  | .int _ _ => decide (kd = 0)
  | .str _ => decide (kd = 1)
  | .bool _ => decide (kd = 2)
  | _ => false

def eqCells : List Nat → List AV → List AV → Option Bool
  | [], [], [] => some true
  | k :: ks, a :: x, b :: y => if keyOk k a = true then ob (eqCell a b) fun r => om (eqCells ks x y) fun s => r && s else none
  | _, _, _ => none

def eqSl : AV → AV → Option Bool
  | .nils, .nils => some true
  | .nils, .ro _ _ _ => some false
  | .nils, .sl _ _ _ _ _ _ => some false
  | .ro _ _ _, .nils => some false
  | .sl _ _ _ _ _ _, .nils => some false
  | _, _ => none

def eqFn : AV → AV → Option Bool
  | .nilf, .nilf => some true
  | .nilf, .fn _ _ => some false
  | .fn _ _, .nilf => some false
  | _, _ => none

def eqPtr : AV → AV → Option Bool
  | .nilp, .nilp => some true
  | .nilp, .ptr _ _ _ => some false
  | .ptr _ _ _, .nilp => some false
  | .nilp, .rop _ => some false
  | .rop _, .nilp => some false
  | _, _ => none

def eqMap : AV → AV → Option Bool
  | .nilm, .nilm => some true
  | .nilm, .map _ => some false
  | .map _, .nilm => some false
  | _, _ => none

def eqAgg (ks : List Nat) : AV → AV → Option Bool
  | .agg x, .agg y => eqCells ks x y
  | _, _ => none

def eqBool : AV → AV → Option Bool
  | .bool a, .bool b => some (a == b)
  | _, _ => none

/-- Equality with nil (slices 0, functions 1, pointers 2, maps 3), of structs of plain cells (4), of bools (5). -/
def eqVals (kd : Nat) (ks : List Nat) (x y : AV) : Option Bool :=
  if kd = 0 then eqSl x y else if kd = 1 then eqFn x y else if kd = 2 then eqPtr x y else if kd = 3 then eqMap x y else if kd = 4 then eqAgg ks x y else eqBool x y

def evUn (op : UnOp) : AV → Option AV
  | .int k n => match op with
    | .neg => some (.int k (k.wrap (0 - n)))
    | .xor => some (.int k (k.wrap (BitVec.ofInt k.bits (if k.signed then -1 else k.max) ^^^ BitVec.ofInt k.bits n).toNat))
    | _ => none
  | .bool b => match op with
    | .not => some (.bool (!b))
    | _ => none
  | _ => none

/-- A part laid into cells. -/
def splice (cs : List AV) (off : Nat) (v : List AV) : List AV := cs.take off ++ (v ++ cs.drop (off + v.length))

def fillC (e : Env) : List AV → List (Nat × Nat × Opd) → Option (List AV)
  | cs, [] => some cs
  | cs, (off, n, x) :: r =>
    if (x.ev e).cells.length = n ∧ off + n ≤ cs.length ∧ (x.ev e).cells.all AV.cell = true then fillC e (splice cs off (x.ev e).cells) r else none

def fillS (e : Env) (z : Nat) : List (List AV) → List (Nat × Opd) → Option (List (List AV))
  | es, [] => some es
  | es, (i, x) :: r =>
    if (x.ev e).cells.length = z ∧ i < es.length ∧ (x.ev e).cells.all AV.cell = true then fillS e z (es.set i (x.ev e).cells) r else none

/-- The elements of what is appended or copied. -/
def elems (h : Heap) (z : Nat) : AV → Option (List (List AV))
  | .nils => some []
  | .ro z' es _ => if z' = z then some es else none
  | .sl b z' i len _ _ => if z' = z then (match get h b with
      | some (.cells _ es _) => if i + len ≤ es.length then some ((es.drop i).take len) else none
      | _ => none) else none
  | .str s => if z = 1 then some (s.map fun c => [.int .u8 c.toNat]) else none
  | _ => none

def maxBytes : Nat := 35184372088832

/-- A new block with these elements. -/
def newRow (nid zl n bytes : Nat) (xs : List (List AV)) : Option (AV × Upd) :=
  if n * (bytes + 1) ≤ maxBytes then some (.sl nid zl 0 n n false, [(nid, some (.cells zl xs true))]) else none

def appSl (o : Option AObj) (nid zl bytes : Nat) (b i len cap : Nat) (ex : Bool) (xs : List (List AV)) (n : Nat) : Option (AV × Upd) :=
  match o with
  | some (.cells zb es mu) =>
    if zb = zl then
      if n ≤ cap then
        if mu = true ∧ i + n ≤ es.length then some (.sl b zl i n cap ex, [(b, some (.cells zl (es.take (i + len) ++ (xs ++ es.drop (i + n))) true))]) else none
      else if ex then
        if i + len ≤ es.length then newRow nid zl n bytes ((es.drop i).take len ++ xs) else none
      else if mu = true ∧ i = 0 ∧ es.length = len ∧ n * (bytes + 1) ≤ maxBytes then
        some (.sl nid zl 0 n n false, [(b, none), (nid, some (.cells zl (es ++ xs) true))])
      else none
    else none
  | _ => none

def evApp (h : Heap) (nid zl bytes : Nat) (s : AV) (xs : List (List AV)) : Option (AV × Upd) :=
  match s with
  | .nils => match xs with
    | [] => some (.nils, [])
    | _ => newRow nid zl xs.length bytes xs
  | .ro z' es ex => if z' = zl then (match xs with
      | [] => some (s, [])
      | _ => if ex then newRow nid zl (es.length + xs.length) bytes (es ++ xs) else none) else none
  | .sl b z' i len cap ex => if z' = zl then (match xs with
      | [] => some (s, [])
      | _ => appSl (get h b) nid zl bytes b i len cap ex xs (len + xs.length)) else none
  | _ => none

def bound (v : Option AV) (d : Nat) : Option Nat :=
  match v with
  | none => some d
  | some (.int _ n) => nat? n
  | some _ => none

def sliceStr (s : List UInt8) (lo hi mx : Option AV) : Option AV :=
  match mx with
  | none => ob (bound hi s.length) fun h => ob (bound lo 0) fun l =>
      if l ≤ h ∧ h ≤ s.length then some (.str ((s.take h).drop l)) else none
  | some _ => none

def sliceNil (lo hi mx : Option AV) : Option AV :=
  ob (bound mx 0) fun m => ob (bound hi 0) fun h => ob (bound lo 0) fun l =>
    if l = 0 ∧ h = 0 ∧ m = 0 ∧ ¬(mx.isSome = true ∧ hi.isNone = true) then some .nils else none

def sliceRo (z : Nat) (es : List (List AV)) (ex : Bool) (lo hi mx : Option AV) : Option AV :=
  match mx with
  | none => ob (bound hi es.length) fun h => ob (bound lo 0) fun l =>
      if l ≤ h ∧ h ≤ es.length then some (.ro z ((es.take h).drop l) (ex && decide (h = es.length))) else none
  | some m => ob (bound (some m) 0) fun m => ob hi fun h => ob (bound (some h) 0) fun h => ob (bound lo 0) fun l =>
      if l ≤ h ∧ h ≤ m ∧ m ≤ es.length then some (.ro z ((es.take h).drop l) (decide (m = h))) else none

def sliceSl (b z i len cap : Nat) (ex : Bool) (lo hi mx : Option AV) : Option AV :=
  match mx with
  | none => ob (bound hi len) fun h => ob (bound lo 0) fun l =>
      if l ≤ h ∧ h ≤ cap ∧ len ≤ cap then
        if l < cap then some (.sl b z (i + l) (h - l) (cap - l) ex)
        else if ex then some (.sl b z i (h - l) (cap - l) ex)
        else if l = 0 then some (.sl b z i h cap ex) else none
      else none
  | some m => ob (bound (some m) 0) fun m => ob hi fun h => ob (bound (some h) 0) fun h => ob (bound lo 0) fun l =>
      if l ≤ h ∧ h ≤ m ∧ m ≤ cap then
        if l < m then some (.sl b z (i + l) (h - l) (m - l) true) else some (.sl b z i 0 0 true)
      else none

/-- x[lo:hi:mx]; k: how many cells an element has (0: a string). -/
def evSlice (k : Nat) (x : AV) (lo hi mx : Option AV) : Option AV :=
  match x with
  | .str s => if k = 0 then sliceStr s lo hi mx else none
  | .nils => if k = 0 then none else sliceNil lo hi mx
  | .ro z es ex => if k ≠ 0 ∧ z = k then sliceRo z es ex lo hi mx else none
  | .sl b z i len cap ex => if k ≠ 0 ∧ z = k then sliceSl b z i len cap ex lo hi mx else none
  | _ => none

def mapGet : List (AV × AV) → AV → Option (Option AV)
  | [], _ => some none
  | (k, v) :: r, x => ob (eqCell x k) fun c => if c then some (some v) else mapGet r x

def mapPut : List (AV × AV) → AV → AV → Option (List (AV × AV))
  | [], x, w => some [(x, w)]
  | (k, v) :: r, x, w => ob (eqCell x k) fun c => if c then some ((x, w) :: r) else om (mapPut r x w) fun l => (k, v) :: l

def loadC (n : Nat) (ag : Bool) (cs : List AV) : Option AV :=
  if ag then (if n ≤ cs.length then some (.agg (cs.take n)) else none) else cs.head?

/-- A value alone. -/
def ov (x : Option AV) : Option (AV × Upd) := om x fun v => (v, [])

abbrev Step := Env → Heap → Nat → Option (AV × Upd)

def sMv (x : Opd) : Step := fun e _ _ => some (x.ev e, [])
def sPick (c a b : Opd) : Step := fun e _ _ => match c.ev e with
  | .bool t => some (if t then a.ev e else b.ev e, [])
  | _ => none
def sAlloc (z : List AV) : Step := fun _ _ nid => some (.ptr nid 0 0, [(nid, some (.cells z.length [z] true))])
def boxed (cs : List AV) (nid : Nat) : Option (AV × Upd) := if cs.all AV.cell = true then some (.ptr nid 0 0, [(nid, some (.cells cs.length [cs] true))]) else none
def sBox (x : Opd) : Step := fun e _ nid => boxed (x.ev e).cells nid
def sBuild (z : List AV) (ps : List (Nat × Nat × Opd)) : Step := fun e _ _ => om (fillC e z ps) fun cs => (.agg cs, [])
def sBuildS (z : List AV) (len : Nat) (ps : List (Nat × Opd)) : Step := fun e _ nid =>
  om (fillS e z.length (List.replicate len z) ps) fun es => (.sl nid z.length 0 len len true, [(nid, some (.cells z.length es true))])
def loadAt (n : Nat) (ag : Bool) (o i : Nat) : Option AObj → Option AV
  | some (.cells _ es _) => ob es[i]? fun cs => loadC n ag (cs.drop o)
  | _ => none
def loadOf (n : Nat) (ag : Bool) (h : Heap) : AV → Option AV
  | .rop cs => loadC n ag cs
  | .ptr b i o => loadAt n ag o i (get h b)
  | _ => none
def sLoad (n : Nat) (ag : Bool) (a : Opd) : Step := fun e h _ => ov (loadOf n ag h (a.ev e))
def storeAt (n b i o : Nat) (v : List AV) : Option AObj → Option (AV × Upd)
  | some (.cells z es mu) => if mu then ob es[i]? fun cs => if o + n ≤ cs.length then some (.tup [], [(b, some (.cells z (es.set i (splice cs o v)) true))]) else none else none
  | _ => none
def storeOf (n : Nat) (h : Heap) (v : List AV) : AV → Option (AV × Upd)
  | .ptr b i o => storeAt n b i o v (get h b)
  | _ => none
def sStore (n : Nat) (a x : Opd) : Step := fun e h _ =>
  if (x.ev e).cells.length = n ∧ (x.ev e).cells.all AV.cell = true then storeOf n h (x.ev e).cells (a.ev e) else none
def sNilchk (x : Opd) : Step := fun e _ _ => match x.ev e with
  | .ptr b i o => some (.ptr b i o, [])
  | .rop cs => some (.rop cs, [])
  | .fn f cs => some (.fn f cs, [])
  | _ => none
def sBin (op : BinOp) (x y : Opd) : Step := fun e _ _ => ov (evBin op (x.ev e) (y.ev e))
def sEqv (kd : Nat) (ks : List Nat) (ne : Bool) (x y : Opd) : Step := fun e _ _ => om (eqVals kd ks (x.ev e) (y.ev e)) fun b => (.bool (b != ne), [])
def sUn (op : UnOp) (x : Opd) : Step := fun e _ _ => ov (evUn op (x.ev e))
def sCvt (k : IntKind) (x : Opd) : Step := fun e _ _ => match x.ev e with
  | .int _ n => some (.int k (k.wrap n), [])
  | _ => none
def sCvs (x : Opd) : Step := fun e _ _ => match x.ev e with
  | .str s => some (.str s, [])
  | _ => none
def sMkfn (f : Nat) (caps : List Opd) : Step := fun e _ _ =>
  if (caps.all fun x => (x.ev e).cell) = true then some (.fn f (caps.map fun x => x.ev e), []) else none
def sMkmap : Step := fun _ _ nid => some (.map nid, [(nid, some (.map []))])
def sMksl (z : List AV) (bytes : Nat) (l c : Opd) : Step := fun e _ nid => match l.ev e, c.ev e with
  | .int _ l, .int _ c => ob (nat? l) fun l => ob (nat? c) fun c =>
      if l ≤ c ∧ c * (bytes + 1) ≤ maxBytes then some (.sl nid z.length 0 l c true, [(nid, some (.cells z.length (List.replicate c z) true))]) else none
  | _, _ => none
def oev (e : Env) : Option Opd → Option AV
  | some x => some (x.ev e)
  | none => none
def sSlice (z : Nat) (x : Opd) (lo hi mx : Option Opd) : Step := fun e _ _ => ov (evSlice z (x.ev e) (oev e lo) (oev e hi) (oev e mx))
def sFld (off : Nat) (x : Opd) : Step := fun e _ _ => match x.ev e with
  | .rop cs => some (.rop (cs.drop off), [])
  | .ptr b i o => some (.ptr b i (o + off), [])
  | _ => none
def sFldv (off n : Nat) (ag : Bool) (x : Opd) : Step := fun e _ _ => match x.ev e with
  | .agg cs => ov (loadC n ag (cs.drop off))
  | _ => none
def idxsAt (z n : Nat) : AV → Option (AV × Upd)
  | .ro z' es _ => if z' = z then ob es[n]? fun cs => some (.rop cs, []) else none
  | .sl b z' j len _ _ => if z' = z ∧ n < len then some (.ptr b (j + n) 0, []) else none
  | _ => none
def sIdxs (z : Nat) (x i : Opd) : Step := fun e _ _ => match i.ev e with
  | .int _ n => ob (nat? n) fun n => idxsAt z n (x.ev e)
  | _ => none
def idxaAt (z n : Nat) : AV → Option (AV × Upd)
  | .rop cs => some (.rop (cs.drop (n * z)), [])
  | .ptr b j o => some (.ptr b j (o + n * z), [])
  | _ => none
def sIdxa (len z : Nat) (x i : Opd) : Step := fun e _ _ => match i.ev e with
  | .int _ n => ob (nat? n) fun n => if n < len then idxaAt z n (x.ev e) else none
  | _ => none
def sIdxstr (x i : Opd) : Step := fun e _ _ => match x.ev e, i.ev e with
  | .str s, .int _ n => ob (nat? n) fun n => ob s[n]? fun c => some (.int .u8 c.toNat, [])
  | _, _ => none
def sIdxv (len z : Nat) (ag : Bool) (x i : Opd) : Step := fun e _ _ => match x.ev e, i.ev e with
  | .agg cs, .int _ n => ob (nat? n) fun n => if n < len then ov (loadC z ag (cs.drop (n * z))) else none
  | _, _ => none
def found (z : AV) (ok : Bool) (r : Option AV) : AV :=
  if ok then .tup [r.getD z, .bool r.isSome] else r.getD z
def lookIn (z : AV) (ok : Bool) (k : AV) : Option AObj → Option AV
  | some (.map es) => om (mapGet es k) (found z ok)
  | _ => none
def sLook (kd : Nat) (z : AV) (ok : Bool) (m k : Opd) : Step := fun e h _ => if keyOk kd (k.ev e) = true then (match m.ev e with
  | .nilm => some (found z ok none, [])
  | .map b => ov (lookIn z ok (k.ev e) (get h b))
  | _ => none) else none
def updIn (b : Nat) (k v : AV) : Option AObj → Option (AV × Upd)
  | some (.map es) => om (mapPut es k v) fun es' => (.tup [], [(b, some (.map es'))])
  | _ => none
def sUpd (kd : Nat) (m k v : Opd) : Step := fun e h _ => if keyOk kd (k.ev e) = true then (match m.ev e with
  | .map b => updIn b (k.ev e) (v.ev e) (get h b)
  | _ => none) else none
def sRange (x : Opd) : Step := fun e _ nid => match x.ev e with
  | .str s => some (.ptr nid 0 0, [(nid, some (.iter s 0))])
  | _ => none
def nextIter (b : Nat) : Option AObj → Option (AV × Upd)
  | some (.iter s pos) => if pos < s.length then
      some (.tup [.bool true, .int .i64 pos, .int .i32 (Utf8.decode ⟨⟨s⟩⟩ pos).1], [(b, some (.iter s (pos + (Utf8.decode ⟨⟨s⟩⟩ pos).2)))])
    else some (.tup [.bool false], [])
  | _ => none
def sNext (x : Opd) : Step := fun e h _ => match x.ev e with
  | .ptr b 0 0 => nextIter b (get h b)
  | _ => none
def sExt (i : Nat) (x : Opd) : Step := fun e _ _ => match x.ev e with
  | .tup vs => ov vs[i]?
  | _ => none
def lenMap : Option AObj → Option AV
  | some (.map es) => some (.int .i64 es.length)
  | _ => none
/-- A length: of a string (0), a slice (1), a map (2). -/
def evLen (kd : Nat) (h : Heap) : AV → Option AV
  | .str s => if kd = 0 then some (.int .i64 s.length) else none
  | .nils => if kd = 1 then some (.int .i64 0) else none
  | .ro _ es _ => if kd = 1 then some (.int .i64 es.length) else none
  | .sl _ _ _ len _ _ => if kd = 1 then some (.int .i64 len) else none
  | .nilm => if kd = 2 then some (.int .i64 0) else none
  | .map b => if kd = 2 then lenMap (get h b) else none
  | _ => none
def sLen (kd : Nat) (x : Opd) : Step := fun e h _ => ov (evLen kd h (x.ev e))
def evCap : AV → Option AV
  | .nils => some (.int .i64 0)
  | .ro _ es ex => if ex then some (.int .i64 es.length) else none
  | .sl _ _ _ _ c ex => if ex then some (.int .i64 c) else none
  | _ => none
def sCap (x : Opd) : Step := fun e _ _ => ov (evCap (x.ev e))
def sApp (z : List AV) (bytes : Nat) (zeros : Bool) (s x : Opd) : Step := fun e h nid =>
  if zeros then (match x.ev e with
    | .int _ n => ob (nat? n) fun n => if n * (bytes + 1) ≤ maxBytes then evApp h nid z.length bytes (s.ev e) (List.replicate n z) else none
    | _ => none)
  else ob (elems h z.length (x.ev e)) fun xs => evApp h nid z.length bytes (s.ev e) xs
def copyTo (z b i len : Nat) (xs : List (List AV)) (n : Nat) : Option AObj → Option (AV × Upd)
  | some (.cells zb es mu) => if mu = true ∧ zb = z ∧ i + len ≤ es.length then
      some (.int .i64 n, [(b, some (.cells z (es.take i ++ (xs.take n ++ es.drop (i + n))) true))]) else none
  | _ => none
def copyIn (h : Heap) (z : Nat) (xs : List (List AV)) : AV → Option (AV × Upd)
  | .nils => some (.int .i64 0, [])
  | .ro _ [] _ => some (.int .i64 0, [])
  | .sl b z' i len _ _ => if z' = z then
      if min xs.length len = 0 then some (.int .i64 0, []) else copyTo z b i len xs (min xs.length len) (get h b)
    else none
  | _ => none
def sCpy (z : Nat) (d s : Opd) : Step := fun e h _ => ob (elems h z (s.ev e)) fun xs => copyIn h z xs (d.ev e)
def sMx (x y : Opd) : Step := fun e _ _ => match x.ev e, y.ev e with
  | .int k a, .int k' b => if k = k' then some (.int k (if b > a then b else a), []) else none
  | _, _ => none
def sMn (x y : Opd) : Step := fun e _ _ => match x.ev e, y.ev e with
  | .int k a, .int k' b => if k = k' then some (.int k (if b < a then b else a), []) else none
  | _, _ => none
def sNone : Step := fun _ _ _ => none

/-- One operation but for calls: its value, and what becomes of the heap. The number is that of the block that it makes, if it makes one. -/
def stepOp (op : COp) : Step :=
  match op with
  | .mv x => sMv x
  | .pick c a b => sPick c a b
  | .alloc z => sAlloc z
  | .box x => sBox x
  | .build z ps => sBuild z ps
  | .buildS z len ps => sBuildS z len ps
  | .load n ag a => sLoad n ag a
  | .store n a x => sStore n a x
  | .nilchk x => sNilchk x
  | .bin op x y => sBin op x y
  | .eqv kd ks ne x y => sEqv kd ks ne x y
  | .un op x => sUn op x
  | .cvt k x => sCvt k x
  | .cvs x => sCvs x
  | .mkfn f caps => sMkfn f caps
  | .mkmap => sMkmap
  | .mksl z bytes l c => sMksl z bytes l c
  | .slice z x lo hi mx => sSlice z x lo hi mx
  | .fld off x => sFld off x
  | .fldv off n ag x => sFldv off n ag x
  | .idxs z x i => sIdxs z x i
  | .idxa len z x i => sIdxa len z x i
  | .idxstr x i => sIdxstr x i
  | .idxv len z ag x i => sIdxv len z ag x i
  | .look kd z ok m k => sLook kd z ok m k
  | .upd kd m k v => sUpd kd m k v
  | .range x => sRange x
  | .next x => sNext x
  | .ext i x => sExt i x
  | .len kd x => sLen kd x
  | .cap x => sCap x
  | .app z bytes zeros s x => sApp z bytes zeros s x
  | .cpy z d s => sCpy z d s
  | .mx x y => sMx x y
  | .mn x y => sMn x y
  | .call _ _ => sNone
  | .callv _ _ => sNone
  | .fail => sNone

/-- Does the operation take a block's number? -/
def COp.makes : COp → Bool
  | .alloc _ => true
  | .box _ => true
  | .buildS _ _ _ => true
  | .mkmap => true
  | .mksl _ _ _ _ => true
  | .range _ => true
  | .app _ _ _ _ _ => true
  | _ => false

inductive Ex where
  | norm
  | exit (id : Nat)
  | ret
  deriving Inhabited

structure St where
  env : Env
  heap : Heap
  next : Nat
  deriving Inhabited

/-- What a call on the caller's heap gives. -/
abbrev Run := Nat → List AV → Heap → Nat → Option (AV × Heap × Nat)

/-- A call that is given data alone, and gives data. -/
def pureCall (run : Run) (f : Nat) (args : List AV) : Option AV :=
  ob (run f args [] 0) fun r => frz r.2.1 frzDepth r.1

/-- What is left of a heap behind a call on it. -/
def tidy (_ : Nat) (r : AV × Heap × Nat) : AV × Heap × Nat := r

def inlineCall (run : Run) (f : Nat) (args : List AV) (h : Heap) (n : Nat) : Option (AV × Heap × Nat) :=
  om (run f args h n) (tidy n)

/-- The blocks that become frozen by a call on frozen arguments. -/
def marks (h : Heap) (args : List AV) (v : AV) : Upd :=
  if hasRef frzDepth v then markFrozen h (args.flatMap (reach h frzDepth)) else []

/-- What a call did: on data alone (the blocks that were frozen), or on the heap. -/
inductive Called where
  | data (v : AV) (u : Upd)
  | whole (v : AV) (h : Heap) (n : Nat)

def evCall (C : Prog) (run : Run) (f : Nat) (args : List AV) (h : Heap) (n : Nat) : Option Called :=
  match (if C.inl f then none else mapO (frz h frzDepth) args) with
  | some as => om (pureCall run f as) fun v => .data v (marks h args v)
  | none => om (inlineCall run f args h n) fun r => .whole r.1 r.2.1 r.2.2

def setDst (e : Env) (d : Option Nat) (v : AV) : Env :=
  match d with
  | some d => put e d v
  | none => e

/-- Is an operation carried out? -/
def wants (e : Env) : Option (Nat × Bool) → Option Bool
  | none => some true
  | some (s, want) => match get e s with
    | some (.bool b) => some (b == want)
    | some (.tup []) => some false
    | _ => none

/-- What is called, with what. -/
def callOf (e : Env) : COp → Option (Option (Nat × List AV))
  | .call f args => some (some (f, args.map fun x => x.ev e))
  | .callv g args => match g.ev e with
    | .fn f caps => some (some (f, args.map (fun x => x.ev e) ++ caps))
    | _ => none
  | _ => some none

/-- What one operation did. -/
structure Did where
  v : AV
  h : Heap
  n : Nat
  bar : Bool
  rd : List Nat
  wr : List Nat

def ptrId : AV → List Nat
  | .ptr b _ _ => [b]
  | .sl b _ _ _ _ _ => [b]
  | .map b => [b]
  | _ => []

/- The blocks that an operation reads. -/
def readsOf (e : Env) : COp → List Nat
  | .load _ _ a => ptrId (a.ev e)
  | .store _ a _ => ptrId (a.ev e)
  | .app _ _ _ s x => ptrId (s.ev e) ++ ptrId (x.ev e)
  | .cpy _ d x => ptrId (d.ev e) ++ ptrId (x.ev e)
  | .look _ _ _ m _ => ptrId (m.ev e)
  | .upd _ m _ _ => ptrId (m.ev e)
  | .len _ m => ptrId (m.ev e)
  | .next x => ptrId (x.ev e)
  | _ => []

def doneCall (h : Heap) (n : Nat) (args : List AV) : Called → Did
  | .data v u => ⟨v, applyUpd h u, n, false, args.flatMap (reach h frzDepth), u.map (·.1)⟩
  | .whole v h' n' => ⟨v, h', n', true, [], []⟩

/-- One operation: nid is the number of the block that it makes; a call on the heap makes its own from n on. -/
def evAct (C : Prog) (run : Run) (op : COp) (nid : Nat) (e : Env) (h : Heap) (n : Nat) : Option Did :=
  match callOf e op with
  | none => none
  | some (some (f, args)) => om (evCall C run f args h n) (doneCall h n args)
  | some none => om (stepOp op e h nid) fun x => ⟨x.1, applyUpd h x.2, n, false, readsOf e op, x.2.map (·.1)⟩

def evOp (C : Prog) (run : Run) (o : COper) (nid : Nat) (e : Env) (h : Heap) (n : Nat) : Option Did :=
  match wants e o.guard with
  | none => none
  | some false => some ⟨.tup [], h, n, false, [], []⟩
  | some true => evAct C run o.op nid e h n

/-- Operations in a row: each takes the next number. -/
def evOps (C : Prog) (run : Run) : List COper → St → Option St
  | [], s => some s
  | o :: r, s => ob (evOp C run o s.next s.env s.heap (s.next + 1)) fun d => evOps C run r ⟨setDst s.env o.dst d.v, d.h, d.n⟩

def meets (a b : List Nat) : Bool := a.any fun x => b.any fun y => decide (x = y)

def clash (a b : Did) : Bool := a.bar || (b.bar || (meets a.wr b.wr || (meets a.wr b.rd || meets a.rd b.wr)))

/-- Operations whose order is drawn: number i makes block base + i. -/
def evDraw (C : Prog) (run : Run) : List COper → Nat → St → List Did → Option (St × List Did)
  | [], _, s, ds => some (s, ds)
  | o :: r, nid, s, ds => ob (evOp C run o nid s.env s.heap s.next) fun d => evDraw C run r (nid + 1) ⟨setDst s.env o.dst d.v, d.h, d.n⟩ (ds ++ [d])

def apart (ds : List Did) (p : Nat × Nat) : Bool :=
  match ds[p.1]?, ds[p.2]? with
  | some a, some b => !clash a b
  | _, _ => false

/-- The arguments' slots. -/
def argEnv : Nat → List AV → Env
  | _, [] => []
  | k, v :: r => (k, v) :: argEnv (k + 1) r

def resOf (e : Env) (h : Heap) : CRes → Option AV
  | .tmp t => get e t
  | .cell t n ag => match get e t with
    | some (.ptr b i o) => loadAt n ag o i (get h b)
    | _ => none

def tupled : List AV → AV
  | [v] => v
  | vs => .tup vs

def results (e : Env) (h : Heap) (rs : List CRes) : Option AV := om (mapO (resOf e h) rs) tupled

def fnEnd (fn : CFn) (r : Ex × St) : Option (AV × Heap × Nat) :=
  match r.1 with
  | .exit _ => none
  | _ => om (results r.2.env r.2.heap fn.res) fun v => (v, r.2.heap, r.2.next)

def runWith (C : Prog) (ev : CCode → St → Option (Ex × St)) : Run := fun f args h n =>
  ob (C.fns.get f) fun fn => if args.length = fn.np then ob (ev fn.body ⟨argEnv 0 args, h, n⟩) (fnEnd fn) else none

/-- What is not live is dropped; 0: nothing is. -/
def dropEnv (live : Nat) (s : St) : St := ⟨if live = 0 then s.env else Pav.keep live s.env, s.heap, s.next⟩

def evSeq (b : St → Option (Ex × St)) (r : Ex × St) : Option (Ex × St) :=
  match r.1 with
  | .norm => b r.2
  | _ => some r

def evBlock (id : Nat) (r : Ex × St) : Ex × St :=
  match r.1 with
  | .exit i => if i = id then (.norm, r.2) else r
  | _ => r

def evCond (a b : St → Option (Ex × St)) (v : AV) (s : St) : Option (Ex × St) :=
  match v with
  | .bool t => if t then a s else b s
  | _ => none

def drawEnd (un : List (Nat × Nat)) (live : Nat) (r : St × List Did) : Option (Ex × St) :=
  if un.all (apart r.2) = true then some (.norm, dropEnv live r.1) else none

def evC (C : Prog) : Nat → CCode → St → Option (Ex × St)
  | 0, _, _ => none
  | n + 1, c, s =>
    match c with
    | .skip => some (.norm, s)
    | .ops l live => om (evOps C (runWith C (evC C n)) l s) fun s => (.norm, dropEnv live s)
    | .draw l un live => ob (evDraw C (runWith C (evC C n)) l s.next ⟨s.env, s.heap, s.next + l.length⟩ []) (drawEnd un live)
    | .seq a b => ob (evC C n a s) (evSeq (evC C n b))
    | .cond c a b => evCond (evC C n a) (evC C n b) (c.ev s.env) s
    | .block id b => om (evC C n b s) (evBlock id)
    | .loop live b => ob (evC C n b (dropEnv live s)) (evSeq (evC C n (.loop live b)))
    | .exit id => some (.exit id, s)
    | .ret => some (.ret, s)
    | .fail => none

def run (C : Prog) (n : Nat) : Run := runWith C (evC C n)

/-- A function on data. -/
def callF (C : Prog) (n : Nat) (f : Nat) (args : List AV) : Option AV := pureCall (run C n) f args

end Go.Pav
