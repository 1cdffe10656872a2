/- From the model's code to the small code. -/
import Derived.Test.YtebbokkffdjpdaaPavDefs
import GoSem.Core.Region
namespace Go.Pav
open Go

def avCell : Value → Option AV
  | .bool b => some (.bool b)
  | .int k n => some (.int k n)
  | .string s => some (.str s.data.toList)
  | .pointer none => some .nilp
  | .slice none 0 0 => some .nils
  | .map none => some .nilm
  | .nilFunc => some .nilf
  | _ => none

def avOf : Value → Option AV
  | .agg cs => (cs.toList.mapM avCell).map .agg
  | v => avCell v

def zeroCells (P : Program) (t : TypeId) : Option (List AV) := do
  let i ← P.info? t
  let z ← i.zero
  let cs ← z.cells.toList.mapM avCell
  if cs.length = i.size then some cs else none

def sizeT (P : Program) (t : TypeId) : Option Nat := (P.info? t).map (·.size)

def isAggT (P : Program) (t : TypeId) : Option Bool :=
  (P.underlying t).map fun
    | .struct _ | .array _ _ => true
    | _ => false

def keyKind (P : Program) (t : TypeId) : Option Nat :=
  match P.underlying t with
  | some (.int _) => some 0
  | some .string => some 1
  | some .bool => some 2
  | _ => none

/-- A struct whose fields are numbers, strings and bools, a cell each, in order. -/
def plainFields (P : Program) : Nat → List Field → Option (List Nat)
  | _, [] => some []
  | k, f :: r => if f.offset = k ∧ f.name ≠ "_" ∧ sizeT P f.type = some 1 then do
      let kd ← keyKind P f.type
      let ks ← plainFields P (k + 1) r
      some (kd :: ks)
    else none

section
variable (P : Program) (φ : FuncId → Option Nat)

def cOpd : Operand → Option Opd
  | .tmp t => some (.t t)
  | .const v => (avOf v).map .c
  | .func f => (φ f).map fun g => .c (.fn g [])
  | .global _ => none

def cOpds (xs : List Operand) : Option (List Opd) := xs.mapM (cOpd φ)

def cOpt : Option Operand → Option (Option Opd)
  | none => some none
  | some x => (cOpd φ x).map some

def cParts (fs : Nat → Option (Nat × Nat)) : List (Nat × Operand) → Option (List (Nat × Nat × Opd))
  | [] => some []
  | (i, x) :: r => do
    let (off, n) ← fs i
    let y ← cOpd φ x
    let ys ← cParts fs r
    some ((off, n, y) :: ys)

def cElems : List (Nat × Operand) → Option (List (Nat × Opd))
  | [] => some []
  | (i, x) :: r => do
    let y ← cOpd φ x
    let ys ← cElems r
    some ((i, y) :: ys)

def cLen : List Operand → List TypeId → Option COp
  | [x], [t] => do
    let x ← cOpd φ x
    match ← P.underlying t with
    | .string => some (.len 0 x)
    | .slice _ => some (.len 1 x)
    | .map _ _ => some (.len 2 x)
    | _ => none
  | _, _ => none

def cCap : List Operand → List TypeId → Option COp
  | [x], [t] => do
    let x ← cOpd φ x
    match ← P.underlying t with
    | .slice _ => some (.cap x)
    | _ => none
  | _, _ => none

def cAppend : List Operand → List TypeId → Option COp
  | [s, x], [t, u] => do
    let s ← cOpd φ s
    let x ← cOpd φ x
    match ← P.underlying t with
    | .slice e => do
      let z ← zeroCells P e
      let i ← P.info? e
      if z.length = 0 ∨ i.bytes = 0 then none else
      match ← P.underlying u with
      | .int _ => some (.app z i.bytes true s x)
      | .slice _ => some (.app z i.bytes false s x)
      | .string => some (.app z i.bytes false s x)
      | _ => none
    | _ => none
  | _, _ => none

def cCopy : List Operand → List TypeId → Option COp
  | [d, s], t :: _ :: [] => do
    let d ← cOpd φ d
    let s ← cOpd φ s
    match ← P.underlying t with
    | .slice e => do
      let z ← sizeT P e
      if z = 0 then none else some (.cpy z d s)
    | _ => none
  | _, _ => none

def cMax (mx : Bool) : List Operand → Option COp
  | [x, y] => do
    let x ← cOpd φ x
    let y ← cOpd φ y
    some (if mx then .mx x y else .mn x y)
  | _ => none

def cBuiltin (b : Builtin) (args : List Operand) (ts : List TypeId) : Option COp :=
  match b with
  | .len => cLen P φ args ts
  | .cap => cCap P φ args ts
  | .append => cAppend P φ args ts
  | .copy => cCopy P φ args ts
  | .max => cMax φ true args
  | .min => cMax φ false args
  | _ => none

def cEq (kd : Nat) (ks : List Nat) (op : BinOp) (x y : Opd) : Option COp :=
  match op with
  | .eql => some (.eqv kd ks false x y)
  | .neq => some (.eqv kd ks true x y)
  | _ => none

def cOp (op : Op) : Option COp :=
  match op with
  | .move x | .assign x => (cOpd φ x).map .mv
  | .pick c a b => do some (.pick (← cOpd φ c) (← cOpd φ a) (← cOpd φ b))
  | .alloc t => (zeroCells P t).map .alloc
  | .box _ x => (cOpd φ x).map .box
  | .build t ps => do
    let z ← zeroCells P t
    match ← P.underlying t with
    | .struct fs => do
      let pl ← fs.toList.mapM fun f => (P.info? f.type).map fun i => (f.offset, i.size)
      some (.build z (← cParts φ (fun i => pl[i]?) ps.toList))
    | .array _ e => do
      let n ← sizeT P e
      some (.build z (← cParts φ (fun i => some (i * n, n)) ps.toList))
    | _ => none
  | .buildSlice t len ps => do
    match ← P.underlying t with
    | .slice e => do
      let z ← zeroCells P e
      if z.length = 0 ∨ len * z.length > 2 ^ 24 then none else
      some (.buildS z len (← cElems φ ps.toList))
    | _ => none
  | .load t a => do some (.load (← sizeT P t) (← isAggT P t) (← cOpd φ a))
  | .store t a x => do some (.store (← sizeT P t) (← cOpd φ a) (← cOpd φ x))
  | .nilCheck x => (cOpd φ x).map .nilchk
  | .binOp op t x y _ => do
    let x ← cOpd φ x
    let y ← cOpd φ y
    match ← P.underlying t with
    | .int _ | .string => some (.bin op x y)
    | .slice _ => cEq 0 [] op x y
    | .func _ _ _ => cEq 1 [] op x y
    | .pointer _ => cEq 2 [] op x y
    | .map _ _ => cEq 3 [] op x y
    | .bool => cEq 5 [] op x y
    | .struct fs => do
      let ks ← plainFields P 0 fs.toList
      if P.eqGuardType P.depth t = false ∧ P.stoodInHeld t = false then cEq 4 ks op x y else none
    | _ => none
  | .unOp op _ x => (cOpd φ x).map (.un op)
  | .convert s t x => do
    let x ← cOpd φ x
    match ← P.underlying s, ← P.underlying t with
    | .int _, .int k => some (.cvt k x)
    | .string, .string => some (.cvs x)
    | _, _ => none
  | .makeFunc (.func f) first caps => do
    let g ← φ f
    if first.size = 0 then some (.mkfn g (← cOpds φ caps.toList)) else none
  | .makeMap _ none => some .mkmap
  | .makeSlice t l c => do
    let l ← cOpd φ l
    let c ← cOpd φ c
    match ← P.underlying t with
    | .slice e => do
      let z ← zeroCells P e
      let i ← P.info? e
      if z.length = 0 then none else
      some (.mksl z i.bytes l c)
    | _ => none
  | .slice t x lo hi mx => do
    let x ← cOpd φ x
    match ← P.underlying t with
    | .slice el => do
      let z ← sizeT P el
      if z = 0 then none else some (.slice z x (← cOpt φ lo) (← cOpt φ hi) (← cOpt φ mx))
    | .string => do some (.slice 0 x (← cOpt φ lo) (← cOpt φ hi) (← cOpt φ mx))
    | _ => none
  | .fieldAddr t x f => do
    let x ← cOpd φ x
    match ← P.underlying t with
    | .struct fs => do
      let f ← fs[f]?
      if (← sizeT P f.type) = 0 then none else some (.fld f.offset x)
    | _ => none
  | .field t x f => do
    let x ← cOpd φ x
    match ← P.underlying t with
    | .struct fs => do
      let f ← fs[f]?
      some (.fldv f.offset (← sizeT P f.type) (← isAggT P f.type) x)
    | _ => none
  | .indexAddr t x i => do
    let x ← cOpd φ x
    let i ← cOpd φ i
    match ← P.underlying t with
    | .slice e => do
      let n ← sizeT P e
      if n = 0 then none else some (.idxs n x i)
    | .array len e => do
      let n ← sizeT P e
      if n = 0 then none else some (.idxa len n x i)
    | _ => none
  | .index t x i => do
    let x ← cOpd φ x
    let i ← cOpd φ i
    match ← P.underlying t with
    | .string => some (.idxstr x i)
    | .array len e => do some (.idxv len (← sizeT P e) (← isAggT P e) x i)
    | _ => none
  | .lookup t m k ok => do
    let m ← cOpd φ m
    let k ← cOpd φ k
    match ← P.underlying t with
    | .map kt et => do
      let i ← P.info? et
      let z ← i.zero
      let z ← avOf z
      let kd ← keyKind P kt
      some (.look kd z ok m k)
    | _ => none
  | .mapUpdate t m k v | .insert t m k v => do
    let m ← cOpd φ m
    let k ← cOpd φ k
    let v ← cOpd φ v
    match ← P.underlying t with
    | .map kt _ => do some (.upd (← keyKind P kt) m k v)
    | _ => none
  | .range t x => do
    let x ← cOpd φ x
    match ← P.underlying t with
    | .string => some (.range x)
    | _ => none
  | .next x true => (cOpd φ x).map .next
  | .extract x i => (cOpd φ x).map (.ext i)
  | .call c => match c.callee with
    | .value (.func f) => do
      let g ← φ f
      some (.call g (← cOpds φ c.args.toList))
    | .value g => do some (.callv (← cOpd φ g) (← cOpds φ c.args.toList))
    | .builtin b => cBuiltin P φ b c.args.toList c.argTypes.toList
    | .invoke _ _ => none
  | _ => none

/-- An operation that has no place in the small code ends the evaluation there. -/
def cOper (ops : Array Oper) (o : Oper) : COper :=
  let g : Option (Option (Nat × Bool)) := match o.guard with
    | none => some none
    | some (j, w) => ((ops[j]?).bind (·.dst)).map fun d => some (d, w)
  match g, cOp P φ o.op with
  | some g, some op => ⟨o.dst, g, op⟩
  | _, _ => ⟨o.dst, none, .fail⟩

def Opd.slot : Opd → List Nat
  | .t s => [s]
  | .c _ => []

def optSlot : Option Opd → List Nat
  | none => []
  | some x => x.slot

def COp.slots : COp → List Nat
  | .mv x | .box x | .nilchk x | .un _ x | .cvt _ x | .cvs x | .fld _ x | .fldv _ _ _ x | .range x | .next x | .ext _ x | .len _ x | .cap x | .load _ _ x => x.slot
  | .pick a b c | .upd _ a b c => a.slot ++ b.slot ++ c.slot
  | .alloc _ | .mkmap | .fail => []
  | .build _ ps => ps.flatMap fun p => p.2.2.slot
  | .buildS _ _ ps => ps.flatMap fun p => p.2.slot
  | .store _ a x | .bin _ a x | .eqv _ _ _ a x | .mksl _ _ a x | .idxs _ a x | .idxa _ _ a x | .idxstr a x | .idxv _ _ _ a x | .look _ _ _ a x | .app _ _ _ a x | .cpy _ a x | .mx a x | .mn a x => a.slot ++ x.slot
  | .mkfn _ xs | .call _ xs => xs.flatMap Opd.slot
  | .callv g xs => g.slot ++ xs.flatMap Opd.slot
  | .slice _ x a b c => x.slot ++ optSlot a ++ optSlot b ++ optSlot c

def COper.slots (o : COper) : List Nat := o.op.slots ++ (match o.guard with | some (s, _) => [s] | none => [])

def orBits (m : Nat) : List Nat → Nat
  | [] => m
  | s :: r => orBits (m ||| 2 ^ s) r

def offBit (m s : Nat) : Nat := if m.testBit s then m - 2 ^ s else m

def liveOps : List COper → Nat → Nat
  | [], out => out
  | o :: r, out =>
    let m := liveOps r out
    let m := match o.dst with
      | some d => offBit m d
      | none => m
    orBits m o.slots

/-- A code's live slots: the code with its masks, and what is live ahead of it. 'ex': behind each block. -/
def liveC (rm : Nat) : CCode → Nat → List (Nat × Nat) → CCode × Nat
  | .skip, out, _ => (.skip, out)
  | .ops l _, out, _ => (.ops l out, liveOps l out)
  | .draw l un _, out, _ => (.draw l un out, liveOps l out)
  | .seq a b, out, ex =>
    let (b, m) := liveC rm b out ex
    let (a, m) := liveC rm a m ex
    (.seq a b, m)
  | .cond c a b, out, ex =>
    let (a, m) := liveC rm a out ex
    let (b, k) := liveC rm b out ex
    (.cond c a b, orBits (m ||| k) c.slot)
  | .block id b, out, ex =>
    let (b, m) := liveC rm b out ((id, out) :: ex)
    (.block id b, m)
  | .loop _ b, _, ex =>
    let m := (liveC rm b 0 ex).2
    let m := (liveC rm b m ex).2
    let m := m ||| (liveC rm b m ex).2
    (.loop m (liveC rm b m ex).1, m)
  | .exit id, _, ex => (.exit id, (get ex id).getD 0)
  | .ret, _, _ => (.ret, rm)
  | .fail, _, _ => (.fail, 0)

/-- For each operation the set (as bits) of those ahead of it by the edges. -/
def ancestors (ops : List Oper) : List Nat :=
  (ops.foldl (fun acc o => acc.push (o.after.toList.foldl (fun s e => if Region.binds .any e then s ||| 2 ^ e.on ||| acc.getD e.on 0 else s) 0)) (#[] : Array Nat)).toList

def edgesOk : Nat → List Oper → Bool
  | _, [] => true
  | k, o :: r => o.after.toList.all (fun e => !Region.binds .any e || Nat.blt e.on k) && edgesOk (k + 1) r

def touches : COp → Bool
  | .load _ _ _ | .store _ _ _ | .alloc _ | .box _ | .buildS _ _ _ | .mkmap | .mksl _ _ _ _ | .look _ _ _ _ _ | .upd _ _ _ _ | .range _ | .next _ | .call _ _ | .callv _ _ | .len _ _ | .app _ _ _ _ _ | .cpy _ _ _ => true
  | _ => false

def writes : COp → Bool
  | .store _ _ _ | .upd _ _ _ _ | .next _ | .call _ _ | .callv _ _ | .app _ _ _ _ _ | .cpy _ _ _ => true
  | _ => false

/-- Is it to be looked at whether two operations meet? -/
def mayClash (a b : COp) : Bool := touches a && touches b && (writes a || writes b || a.makes || b.makes)

def slotsApart (a b : COper) : Bool :=
  (match a.dst with | some d => !(b.slots.contains d) && !(b.dst == some d) | none => true) &&
  (match b.dst with | some d => !(a.slots.contains d) | none => true)

/-- The pairs i < j that are not in order. -/
def unordered (anc : List Nat) : List (Nat × Nat) :=
  (List.range anc.length).flatMap fun j => (List.range j).filterMap fun i => if ((anc.getD j 0).testBit i) then none else some (i, j)

def cRegion (ops : Array Oper) (draw : Bool) : CCode :=
  let l := ops.toList.map (cOper P φ ops)
  match draw with
  | false => .ops l 0
  | true =>
    let anc := ancestors ops.toList
    let un := unordered anc
    if edgesOk 0 ops.toList && un.all (fun p => slotsApart (l.getD p.1 default) (l.getD p.2 default)) then
      .draw l (un.filter fun p => mayClash (l.getD p.1 default).op (l.getD p.2 default).op) 0
    else .fail

def cCode : Code → CCode
  | .skip => .skip
  | .region _ ops draw => cRegion P φ ops draw
  | .seq a b => .seq (cCode a) (cCode b)
  | .cond c a b => match cOpd φ c with
    | some c => .cond c (cCode a) (cCode b)
    | none => .fail
  | .block id b => .block id (cCode b)
  | .loop b => .loop 0 (cCode b)
  | .exit id => .exit id
  | .ret => .ret
  | _ => .fail

def cRes : ResultVar → Option CRes
  | .tmp t => some (.tmp t)
  | .cell t ty => do some (.cell t (← sizeT P ty) (← isAggT P ty))

def CRes.slot : CRes → Nat
  | .tmp t => t
  | .cell t _ _ => t

/-- Every operation's slot is one of the frame's. -/
def codeFits (nt : Nat) : Code → Bool
  | .region _ ops _ => ops.toList.all fun o => match o.dst with | some d => Nat.blt d nt | none => true
  | .seq a b => codeFits nt a && codeFits nt b
  | .cond _ a b => codeFits nt a && codeFits nt b
  | .block _ b => codeFits nt b
  | .loop b => codeFits nt b
  | _ => true

def cFn (fn : Func) : Option CFn := do
  let c ← fn.body
  if codeFits fn.ntmps c = false then none else
  let res ← fn.results.toList.mapM (cRes P)
  let rm := orBits 0 (res.map CRes.slot)
  if fn.name = "runtime.NumGoroutine" then none else
  some ⟨fn.params.size + fn.nfree, res, (liveC rm (cCode P φ c) rm []).1⟩

end
end Go.Pav
