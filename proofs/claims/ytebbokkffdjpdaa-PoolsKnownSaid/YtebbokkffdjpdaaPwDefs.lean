/- A second machine over the evaluator: its blocks are numbered anew at each region's end, empty slices are all alike. -/
import Derived.Test.YtebbokkffdjpdaaPavDen
namespace Go.Pw
open Go Go.Pav

inductive WObj where
  | cells (z : Nat) (es : List (List AV)) (mu dt : Bool)
  | map (es : List (AV × AV))
  | iter (s : List UInt8) (pos : Nat)
  deriving Inhabited

abbrev WHeap := List (Nat × WObj)
abbrev WUpd := List (Nat × Option WObj)

/-- A cell that names no block. -/
def isC : AV → Bool
  | .bool _ => true
  | .int _ _ => true
  | .str _ => true
  | .nilp => true
  | .nils => true
  | .nilm => true
  | .nilf => true
  | .ro _ _ _ => true
  | .rop _ => true
  | .fn _ [] => true
  | _ => false

/-- A value that names no block. -/
def isD : AV → Bool
  | .agg cs => cs.all isC
  | v => isC v

mutual
def refs : AV → List Nat
  | .ptr b _ _ => [b]
  | .sl b _ _ _ _ _ => [b]
  | .map b => [b]
  | .fn _ cs => refsL cs
  | .agg cs => refsL cs
  | .tup cs => refsL cs
  | _ => []
def refsL : List AV → List Nat
  | [] => []
  | v :: r => refs v ++ refsL r
end

mutual
def ren (π : Nat → Option Nat) : AV → Option AV
  | .ptr b i o => om (π b) fun b => .ptr b i o
  | .sl b z i l c ex => om (π b) fun b => .sl b z i l c ex
  | .map b => om (π b) fun b => .map b
  | .fn f cs => om (renL π cs) fun cs => .fn f cs
  | .agg cs => om (renL π cs) fun cs => .agg cs
  | .tup cs => om (renL π cs) fun cs => .tup cs
  | v => some v
def renL (π : Nat → Option Nat) : List AV → Option (List AV)
  | [] => some []
  | v :: r => ob (ren π v) fun v => om (renL π r) fun r => v :: r
end

def objRefs : Option WObj → List Nat
  | some (.cells _ es _ dt) => if dt then [] else es.flatMap refsL
  | _ => []

def renObj (π : Nat → Option Nat) : WObj → Option WObj
  | .cells z es mu dt => if dt then some (.cells z es mu dt) else om (mapO (renL π) es) fun es => .cells z es mu dt
  | .map es => some (.map es)
  | .iter s p => some (.iter s p)

def envRefs : Env → List Nat
  | [] => []
  | (_, v) :: r => refs v ++ envRefs r

def oldRefs (base : Nat) : WHeap → List Nat
  | [] => []
  | (b, o) :: r => if b < base then objRefs (some o) ++ oldRefs base r else oldRefs base r

/-- All that is reached from some blocks, in order. -/
def close (base : Nat) (h : WHeap) : Nat → List Nat → List Nat → List Nat
  | 0, _, acc => acc
  | _ + 1, [], acc => acc
  | n + 1, b :: w, acc => if b < base then close base h n w acc else if acc.contains b then close base h n w acc else close base h n (objRefs (Pav.get h b) ++ w) (acc ++ [b])

def place (n : Nat) : List Nat → Nat → Option Nat
  | [], _ => none
  | a :: r, b => if a = b then some n else place (n + 1) r b

/-- New numbers. -/
def newNum (base : Nat) (L : List Nat) (b : Nat) : Option Nat := if b < base then some b else place base L b

def renEnv (π : Nat → Option Nat) : Env → Option Env
  | [] => some []
  | (k, v) :: r => ob (ren π v) fun v => om (renEnv π r) fun r => (k, v) :: r

def renOld (base : Nat) (π : Nat → Option Nat) : WHeap → Option WHeap
  | [] => some []
  | (b, o) :: r => if b < base then ob (renObj π o) fun o => om (renOld base π r) fun r => (b, o) :: r else renOld base π r

def renNew (π : Nat → Option Nat) (h : WHeap) (n : Nat) : List Nat → Option WHeap
  | [] => some []
  | b :: r => match Pav.get h b with
    | some o => ob (renObj π o) fun o => om (renNew π h (n + 1) r) fun r => (n, o) :: r
    | none => renNew π h (n + 1) r

structure WSt where
  env : Env
  heap : WHeap
  next : Nat
  deriving Inhabited

structure Ann where
  cn : Bool
  live : List Nat
  grow : List (Nat × Nat)
  deriving Inhabited

/-- Slots lie in falling order. -/
def putE : Env → Nat → AV → Env
  | [], n, x => [(n, x)]
  | (k, v) :: r, n, x => if k < n then (n, x) :: (k, v) :: r else if k = n then (n, x) :: r else (k, v) :: putE r n x

def setD (e : Env) (d : Option Nat) (v : AV) : Env :=
  match d with
  | some d => putE e d v
  | none => e

/-- The arguments' slots. -/
def argW : Nat → List AV → Env → Env
  | _, [], acc => acc
  | k, v :: r, acc => argW (k + 1) r ((k, v) :: acc)

def dropLt (k : Nat) : List Nat → List Nat
  | [] => []
  | a :: l => if k < a then dropLt k l else a :: l

/-- The slots of a list, both in order. -/
def keepE : Env → List Nat → Env
  | [], _ => []
  | (k, v) :: r, live => match dropLt k live with
    | [] => []
    | a :: l => if a = k then (k, v) :: keepE r l else keepE r (a :: l)
def keepL (live : List Nat) (e : Env) : Env := keepE e live
def keepN (k : Nat) (v : AV) (r : Env) : List Nat → Env
  | [] => []
  | a :: l => if a = k then (k, v) :: keepL l r else keepL (a :: l) r
theorem keepL_nil (live : List Nat) : keepL live [] = [] := rfl
theorem keepL_cons (live : List Nat) (k : Nat) (v : AV) (r : Env) : keepL live ((k, v) :: r) = keepN k v r (dropLt k live) := by
  simp only [keepL, keepE]
  cases dropLt k live <;> rfl

/-- An empty slice in a slot becomes one that can grow. -/
def growOne (s : WSt) (k z : Nat) : AV → WSt
  | .ro z' [] true => if z' = z then ⟨putE s.env k (.sl s.next z 0 0 0 false), put s.heap s.next (.cells z [] true true), s.next + 1⟩ else s
  | _ => s

def growAll : List (Nat × Nat) → WSt → WSt
  | [], s => s
  | (k, z) :: r, s => match Pav.get s.env k with
    | some v => growAll r (growOne s k z v)
    | none => growAll r s

def renumber (base : Nat) (s : WSt) (L : List Nat) : Option WSt :=
  ob (renEnv (newNum base L) s.env) fun e => ob (renOld base (newNum base L) s.heap) fun h1 => om (renNew (newNum base L) s.heap base L) fun h2 => ⟨e, h1 ++ h2, base + L.length⟩

def canonG (base : Nat) (s : WSt) : Option WSt := renumber base s (close base s.heap 1000 (envRefs s.env ++ oldRefs base s.heap) [])

def bitsOf : List Nat → Nat
  | [] => 0
  | k :: r => 2 ^ k ||| bitsOf r

/-- At a region's end; without 'cn' nothing is done. -/
def canon (base : Nat) (a : Ann) (s : WSt) : Option WSt :=
  match a.cn with
  | true => canonG base (growAll a.grow ⟨keepL a.live s.env, s.heap, s.next⟩)
  | false => some s

def maskOf (a : Ann) : Nat := match a.cn with
  | true => bitsOf a.live
  | false => 0

/- Operations on the heap. -/

def updOneW (h : WHeap) (b : Nat) : Option WObj → WHeap
  | some o => put h b o
  | none => del h b

def applyW : WHeap → WUpd → WHeap
  | h, [] => h
  | h, (b, o) :: r => applyW (updOneW h b o) r

abbrev WStep := Env → WHeap → Nat → Option (AV × WUpd)

def ovW (x : Option AV) : Option (AV × WUpd) := om x fun v => (v, [])

def wAlloc (z : List AV) : WStep := fun _ _ nid => some (.ptr nid 0 0, [(nid, some (.cells z.length [z] true (z.all isC)))])
def boxedW (cs : List AV) (nid : Nat) : Option (AV × WUpd) := if cs.all AV.cell = true then some (.ptr nid 0 0, [(nid, some (.cells cs.length [cs] true (cs.all isC)))]) else none
def wBox (x : Opd) : WStep := fun e _ nid => boxedW (x.ev e).cells nid
def wBuildS (z : List AV) (len : Nat) (ps : List (Nat × Opd)) : WStep := fun e _ nid =>
  om (fillS e z.length (List.replicate len z) ps) fun es => (.sl nid z.length 0 len len true, [(nid, some (.cells z.length es true (es.all fun c => c.all isC)))])
def wLoadAt (n : Nat) (ag : Bool) (o i : Nat) : Option WObj → Option AV
  | some (.cells _ es _ _) => ob es[i]? fun cs => loadC n ag (cs.drop o)
  | _ => none
def wLoadOf (n : Nat) (ag : Bool) (h : WHeap) : AV → Option AV
  | .rop cs => loadC n ag cs
  | .ptr b i o => wLoadAt n ag o i (Pav.get h b)
  | _ => none
def wLoad (n : Nat) (ag : Bool) (a : Opd) : WStep := fun e h _ => ovW (wLoadOf n ag h (a.ev e))
def wStoreAt (n b i o : Nat) (v : List AV) : Option WObj → Option (AV × WUpd)
  | some (.cells z es mu dt) => if mu then ob es[i]? fun cs => if o + n ≤ cs.length then some (.tup [], [(b, some (.cells z (es.set i (splice cs o v)) true (dt && v.all isC)))]) else none else none
  | _ => none
def wStoreOf (n : Nat) (h : WHeap) (v : List AV) : AV → Option (AV × WUpd)
  | .ptr b i o => wStoreAt n b i o v (Pav.get h b)
  | _ => none
def wStore (n : Nat) (a x : Opd) : WStep := fun e h _ =>
  if (x.ev e).cells.length = n ∧ (x.ev e).cells.all AV.cell = true then wStoreOf n h (x.ev e).cells (a.ev e) else none
def wMkmap : WStep := fun _ _ nid => some (.map nid, [(nid, some (.map []))])
def wMksl (z : List AV) (bytes : Nat) (l c : Opd) : WStep := fun e _ nid => match l.ev e, c.ev e with
  | .int _ l, .int _ c => ob (nat? l) fun l => ob (nat? c) fun c =>
      if l ≤ c ∧ c * (bytes + 1) ≤ maxBytes then some (.sl nid z.length 0 l c true, [(nid, some (.cells z.length (List.replicate c z) true (z.all isC)))]) else none
  | _, _ => none
def wLookIn (z : AV) (ok : Bool) (k : AV) : Option WObj → Option AV
  | some (.map es) => om (mapGet es k) (found z ok)
  | _ => none
def wLook (kd : Nat) (z : AV) (ok : Bool) (m k : Opd) : WStep := fun e h _ => if keyOk kd (k.ev e) = true then (match m.ev e with
  | .nilm => some (found z ok none, [])
  | .map b => ovW (wLookIn z ok (k.ev e) (Pav.get h b))
  | _ => none) else none
def wUpdIn (b : Nat) (k v : AV) : Option WObj → Option (AV × WUpd)
  | some (.map es) => om (mapPut es k v) fun es' => (.tup [], [(b, some (.map es'))])
  | _ => none
def wUpd (kd : Nat) (m k v : Opd) : WStep := fun e h _ => if keyOk kd (k.ev e) = true ∧ isD (v.ev e) = true then (match m.ev e with
  | .map b => wUpdIn b (k.ev e) (v.ev e) (Pav.get h b)
  | _ => none) else none
def wRange (x : Opd) : WStep := fun e _ nid => match x.ev e with
  | .str s => some (.ptr nid 0 0, [(nid, some (.iter s 0))])
  | _ => none
def wNextIter (b : Nat) : Option WObj → Option (AV × WUpd)
  | some (.iter s pos) => if pos < s.length then
      some (.tup [.bool true, .int .i64 pos, .int .i32 (Utf8.decode ⟨⟨s⟩⟩ pos).1], [(b, some (.iter s (pos + (Utf8.decode ⟨⟨s⟩⟩ pos).2)))])
    else some (.tup [.bool false], [])
  | _ => none
def wNext (x : Opd) : WStep := fun e h _ => match x.ev e with
  | .ptr b 0 0 => wNextIter b (Pav.get h b)
  | _ => none
def wLenMap : Option WObj → Option AV
  | some (.map es) => some (.int .i64 es.length)
  | _ => none
def wEvLen (kd : Nat) (h : WHeap) : AV → Option AV
  | .str s => if kd = 0 then some (.int .i64 s.length) else none
  | .nils => if kd = 1 then some (.int .i64 0) else none
  | .ro _ es _ => if kd = 1 then some (.int .i64 es.length) else none
  | .sl _ _ _ len _ _ => if kd = 1 then some (.int .i64 len) else none
  | .nilm => if kd = 2 then some (.int .i64 0) else none
  | .map b => if kd = 2 then wLenMap (Pav.get h b) else none
  | _ => none
def wLen (kd : Nat) (x : Opd) : WStep := fun e h _ => ovW (wEvLen kd h (x.ev e))

/-- The elements of what is appended or copied, and whether they name no block. -/
def wElems (h : WHeap) (z : Nat) : AV → Option (List (List AV) × Bool)
  | .nils => some ([], true)
  | .ro z' es _ => if z' = z then some (es, true) else none
  | .sl b z' i len _ _ => if z' = z then (match Pav.get h b with
      | some (.cells _ es _ dt) => if i + len ≤ es.length then some ((es.drop i).take len, dt) else none
      | _ => none) else none
  | .str s => if z = 1 then some (s.map fun c => [.int .u8 c.toNat], true) else none
  | _ => none

def wNewRow (nid zl n bytes : Nat) (xs : List (List AV)) (dt : Bool) : Option (AV × WUpd) :=
  if n * (bytes + 1) ≤ maxBytes then some (.sl nid zl 0 n n false, [(nid, some (.cells zl xs true dt))]) else none

def wAppSl (o : Option WObj) (nid zl bytes : Nat) (b i len cap : Nat) (ex : Bool) (xs : List (List AV)) (d : Bool) (n : Nat) : Option (AV × WUpd) :=
  match o with
  | some (.cells zb es mu dt) =>
    if zb = zl then
      if n ≤ cap then
        if mu = true ∧ i + n ≤ es.length then some (.sl b zl i n cap ex, [(b, some (.cells zl (es.take (i + len) ++ (xs ++ es.drop (i + n))) true (dt && d)))]) else none
      else if ex then
        if i + len ≤ es.length then wNewRow nid zl n bytes ((es.drop i).take len ++ xs) (dt && d) else none
      else if mu = true ∧ i = 0 ∧ es.length = len ∧ n * (bytes + 1) ≤ maxBytes then
        some (.sl nid zl 0 n n false, [(b, none), (nid, some (.cells zl (es ++ xs) true (dt && d)))])
      else none
    else none
  | _ => none

def wEvApp (h : WHeap) (nid zl bytes : Nat) (s : AV) (xs : List (List AV)) (d : Bool) : Option (AV × WUpd) :=
  match s with
  | .nils => match xs with
    | [] => some (.nils, [])
    | _ => wNewRow nid zl xs.length bytes xs d
  | .ro z' es ex => if z' = zl then (match xs with
      | [] => some (s, [])
      | _ => if ex then wNewRow nid zl (es.length + xs.length) bytes (es ++ xs) d else none) else none
  | .sl b z' i len cap ex => if z' = zl then (match xs with
      | [] => some (s, [])
      | _ => wAppSl (Pav.get h b) nid zl bytes b i len cap ex xs d (len + xs.length)) else none
  | _ => none

def wApp (z : List AV) (bytes : Nat) (zeros : Bool) (s x : Opd) : WStep := fun e h nid =>
  if zeros then (match x.ev e with
    | .int _ n => ob (nat? n) fun n => if n * (bytes + 1) ≤ maxBytes then wEvApp h nid z.length bytes (s.ev e) (List.replicate n z) (z.all isC) else none
    | _ => none)
  else ob (wElems h z.length (x.ev e)) fun xs => wEvApp h nid z.length bytes (s.ev e) xs.1 xs.2
def wCopyTo (z b i len : Nat) (xs : List (List AV)) (d : Bool) (n : Nat) : Option WObj → Option (AV × WUpd)
  | some (.cells zb es mu dt) => if mu = true ∧ zb = z ∧ i + len ≤ es.length then
      some (.int .i64 n, [(b, some (.cells z (es.take i ++ (xs.take n ++ es.drop (i + n))) true (dt && d)))]) else none
  | _ => none
def wCopyIn (h : WHeap) (z : Nat) (xs : List (List AV)) (d : Bool) : AV → Option (AV × WUpd)
  | .nils => some (.int .i64 0, [])
  | .sl b z' i len _ _ => if z' = z then
      if min xs.length len = 0 then some (.int .i64 0, []) else wCopyTo z b i len xs d (min xs.length len) (Pav.get h b)
    else none
  | _ => none
def wCpy (z : Nat) (d s : Opd) : WStep := fun e h _ => ob (wElems h z (s.ev e)) fun xs => wCopyIn h z xs.1 xs.2 (d.ev e)

/-- Slices against nil. -/
def wEqSl : AV → AV → Option Bool
  | .nils, .nils => some true
  | .nils, .ro _ (_ :: _) _ => some false
  | .ro _ (_ :: _) _, .nils => some false
  | _, _ => none

def plainW (x : Option (AV × Upd)) : Option (AV × WUpd) := om x fun x => (x.1, [])

def stepW (op : COp) : WStep :=
  match op with
  | .mv x => fun e _ _ => plainW (sMv x e [] 0)
  | .pick c a b => fun e _ _ => plainW (sPick c a b e [] 0)
  | .alloc z => wAlloc z
  | .box x => wBox x
  | .build z ps => fun e _ _ => plainW (sBuild z ps e [] 0)
  | .buildS z len ps => wBuildS z len ps
  | .load n ag a => wLoad n ag a
  | .store n a x => wStore n a x
  | .nilchk x => fun e _ _ => plainW (sNilchk x e [] 0)
  | .bin op x y => fun e _ _ => plainW (sBin op x y e [] 0)
  | .eqv kd ks ne x y => fun e _ _ => if kd = 0 then om (wEqSl (x.ev e) (y.ev e)) (fun b => (.bool (b != ne), [])) else plainW (sEqv kd ks ne x y e [] 0)
  | .un op x => fun e _ _ => plainW (sUn op x e [] 0)
  | .cvt k x => fun e _ _ => plainW (sCvt k x e [] 0)
  | .cvs x => fun e _ _ => plainW (sCvs x e [] 0)
  | .mkfn f caps => fun e _ _ => plainW (sMkfn f caps e [] 0)
  | .mkmap => wMkmap
  | .mksl z bytes l c => wMksl z bytes l c
  | .slice z x lo hi mx => fun e _ _ => plainW (sSlice z x lo hi mx e [] 0)
  | .fld off x => fun e _ _ => plainW (sFld off x e [] 0)
  | .fldv off n ag x => fun e _ _ => plainW (sFldv off n ag x e [] 0)
  | .idxs z x i => fun e _ _ => plainW (sIdxs z x i e [] 0)
  | .idxa len z x i => fun e _ _ => plainW (sIdxa len z x i e [] 0)
  | .idxstr x i => fun e _ _ => plainW (sIdxstr x i e [] 0)
  | .idxv len z ag x i => fun e _ _ => plainW (sIdxv len z ag x i e [] 0)
  | .look kd z ok m k => wLook kd z ok m k
  | .upd kd m k v => wUpd kd m k v
  | .range x => wRange x
  | .next x => wNext x
  | .ext i x => fun e _ _ => plainW (sExt i x e [] 0)
  | .len kd x => wLen kd x
  | .cap x => fun e _ _ => plainW (sCap x e [] 0)
  | .app z bytes zeros s x => wApp z bytes zeros s x
  | .cpy z d s => wCpy z d s
  | .mx x y => fun e _ _ => plainW (sMx x y e [] 0)
  | .mn x y => fun e _ _ => plainW (sMn x y e [] 0)
  | .call _ _ => fun _ _ _ => none
  | .callv _ _ => fun _ _ _ => none
  | .fail => fun _ _ _ => none

/- Calls. -/

/-- Freezing. -/
def frzW (h : WHeap) : Nat → AV → Option AV
  | 0, _ => none
  | n + 1, v => match v with
    | .undef => none
    | .ptr _ _ _ => none
    | .map _ => none
    | .sl b z i len cap ex => match Pav.get h b with
      | some (.cells _ es _ dt) =>
        if dt then (if n = 0 then none else og (decide (((es.drop i).take len).length = len)) (some (.ro z ((es.drop i).take len) (ex && decide (cap = len)))))
        else ob (mapO (mapO (frzW h n)) ((es.drop i).take len)) fun es' =>
          og (decide (es'.length = len) && es'.all fun e => e.all isC) (some (.ro z es' (ex && decide (cap = len))))
      | _ => none
    | .fn f caps => om (mapO (frzW h n) caps) fun cs => .fn f cs
    | .agg cs => om (mapO (frzW h n) cs) fun cs => .agg cs
    | .tup vs => om (mapO (frzW h n) vs) fun vs => .tup vs
    | .bool b => some (.bool b)
    | .int k x => some (.int k x)
    | .str s => some (.str s)
    | .nilp => some .nilp
    | .nils => some .nils
    | .nilm => some .nilm
    | .nilf => some .nilf
    | .ro z es ex => some (.ro z es ex)
    | .rop cs => some (.rop cs)

/-- The blocks that freezing reaches. -/
def reachW (h : WHeap) : Nat → AV → List Nat
  | 0, _ => []
  | n + 1, v => match v with
    | .sl b _ i len _ _ => b :: (match Pav.get h b with
      | some (.cells _ es _ dt) => if dt then [] else ((es.drop i).take len).flatMap fun e => e.flatMap (reachW h n)
      | _ => [])
    | .fn _ caps => caps.flatMap (reachW h n)
    | .agg cs => cs.flatMap (reachW h n)
    | .tup vs => vs.flatMap (reachW h n)
    | _ => []

def markFrozenW (h : WHeap) : List Nat → WUpd
  | [] => []
  | b :: r => match Pav.get h b with
    | some (.cells z es _ dt) => (b, some (.cells z es false dt)) :: markFrozenW h r
    | _ => markFrozenW h r

mutual
/-- Does it hold a pointer or a map? -/
def hasPtr : AV → Bool
  | .ptr _ _ _ => true
  | .map _ => true
  | .fn _ cs => hasPtrL cs
  | .agg cs => hasPtrL cs
  | .tup cs => hasPtrL cs
  | _ => false
def hasPtrL : List AV → Bool
  | [] => false
  | v :: r => hasPtr v || hasPtrL r
end

abbrev WRun := Nat → List AV → WHeap → Nat → Option (AV × WHeap × Nat)

def pureCallW (run : WRun) (f : Nat) (args : List AV) : Option AV :=
  ob (run f args [] 0) fun r => frzW r.2.1 frzDepth r.1

/-- Does it hold read-only memory? -/
def hasRefW : Nat → AV → Bool
  | 0, _ => true
  | n + 1, v => match v with
    | .undef => true
    | .ro _ _ _ => true
    | .rop _ => true
    | .fn _ caps => caps.any (hasRefW n)
    | .agg cs => cs.any (hasRefW n)
    | .tup vs => vs.any (hasRefW n)
    | _ => false

def marksW (h : WHeap) (args : List AV) (v : AV) : WUpd :=
  if hasRefW frzDepth v then markFrozenW h (args.flatMap (reachW h frzDepth)) else []

inductive WCalled where
  | data (v : AV) (u : WUpd)
  | whole (v : AV) (h : WHeap) (n : Nat)

inductive WCode where
  | skip
  | ops (l : List COper) (a : Ann)
  | draw (l : List COper) (un : List (Nat × Nat)) (a : Ann)
  | seq (a b : WCode)
  | cond (c : Opd) (a b : WCode)
  | block (id : Nat) (b : WCode) (a : Ann)
  | loop (a : Ann) (b : WCode)
  | exit (id : Nat)
  | ret
  | fail
  deriving Inhabited

structure WFn where
  np : Nat
  res : List CRes
  body : WCode
  deriving Inhabited

inductive WTree where
  | leaf
  | node (l : WTree) (k : Nat) (f : WFn) (r : WTree)
  deriving Inhabited

def WTree.get : WTree → Nat → Option WFn
  | .leaf, _ => none
  | .node l k f r, n => if n = k then some f else if n ≤ k then l.get n else r.get n

structure WProg where
  fns : WTree
  inl : Nat → Bool

def evCallW (C : WProg) (run : WRun) (f : Nat) (args : List AV) (h : WHeap) (n : Nat) : Option WCalled :=
  if C.inl f then om (run f args h n) fun r => .whole r.1 r.2.1 r.2.2
  else if hasPtrL args then om (run f args h n) fun r => .whole r.1 r.2.1 r.2.2
  else ob (mapO (frzW h frzDepth) args) fun as => om (pureCallW run f as) fun v => .data v (marksW h args v)

structure WDid where
  v : AV
  h : WHeap
  n : Nat
  bar : Bool
  rd : List Nat
  wr : List Nat

def doneCallW (h : WHeap) (n : Nat) (args : List AV) : WCalled → WDid
  | .data v u => ⟨v, applyW h u, n, false, args.flatMap (reachW h frzDepth), u.map (·.1)⟩
  | .whole v h' n' => ⟨v, h', n', true, [], []⟩

def evActW (C : WProg) (run : WRun) (op : COp) (nid : Nat) (e : Env) (h : WHeap) (n : Nat) : Option WDid :=
  match callOf e op with
  | none => none
  | some (some (f, args)) => om (evCallW C run f args h n) (doneCallW h n args)
  | some none => om (stepW op e h nid) fun x => ⟨x.1, applyW h x.2, n, false, readsOf e op, x.2.map (·.1)⟩

def evOpW (C : WProg) (run : WRun) (o : COper) (nid : Nat) (e : Env) (h : WHeap) (n : Nat) : Option WDid :=
  match wants e o.guard with
  | none => none
  | some false => some ⟨.tup [], h, n, false, [], []⟩
  | some true => evActW C run o.op nid e h n

def evOpsW (C : WProg) (run : WRun) : List COper → WSt → Option WSt
  | [], s => some s
  | o :: r, s => ob (evOpW C run o s.next s.env s.heap (s.next + 1)) fun d => evOpsW C run r ⟨setD s.env o.dst d.v, d.h, d.n⟩

def clashW (a b : WDid) : Bool := a.bar || (b.bar || (meets a.wr b.wr || (meets a.wr b.rd || meets a.rd b.wr)))

def evDrawW (C : WProg) (run : WRun) : List COper → Nat → WSt → List WDid → Option (WSt × List WDid)
  | [], _, s, ds => some (s, ds)
  | o :: r, nid, s, ds => ob (evOpW C run o nid s.env s.heap s.next) fun d => evDrawW C run r (nid + 1) ⟨setD s.env o.dst d.v, d.h, d.n⟩ (ds ++ [d])

def apartW (ds : List WDid) (p : Nat × Nat) : Bool :=
  match ds[p.1]?, ds[p.2]? with
  | some a, some b => !clashW a b
  | _, _ => false

def resOfW (e : Env) (h : WHeap) : CRes → Option AV
  | .tmp t => Pav.get e t
  | .cell t n ag => match Pav.get e t with
    | some (.ptr b i o) => wLoadAt n ag o i (Pav.get h b)
    | _ => none

def resultsW (e : Env) (h : WHeap) (rs : List CRes) : Option AV := om (mapO (resOfW e h) rs) tupled

def fnEndW (res : List CRes) (r : Ex × WSt) : Option (AV × WHeap × Nat) :=
  match r.1 with
  | .exit _ => none
  | _ => om (resultsW r.2.env r.2.heap res) fun v => (v, r.2.heap, r.2.next)

/-- The evaluation of code in a frame whose own blocks begin at a number. -/
abbrev WEv := Nat → WCode → WSt → Option (Ex × WSt)

def runWithW (C : WProg) (ev : WEv) : WRun := fun f args h n =>
  ob (C.fns.get f) fun fn => if args.length = fn.np then ob (ev n fn.body ⟨argW 0 args [], h, n⟩) (fnEndW fn.res) else none

def evSeqW (b : WSt → Option (Ex × WSt)) (r : Ex × WSt) : Option (Ex × WSt) :=
  match r.1 with
  | .norm => b r.2
  | _ => some r

def evBlockW (base id : Nat) (a : Ann) (r : Ex × WSt) : Option (Ex × WSt) :=
  match r.1 with
  | .norm => om (canon base a r.2) fun s => (.norm, s)
  | .exit i => if i = id then om (canon base a r.2) fun s => (.norm, s) else some r
  | .ret => some r

def evCondW (a b : WSt → Option (Ex × WSt)) (v : AV) (s : WSt) : Option (Ex × WSt) :=
  match v with
  | .bool t => if t then a s else b s
  | _ => none

def drawEndW (base : Nat) (un : List (Nat × Nat)) (a : Ann) (r : WSt × List WDid) : Option (Ex × WSt) :=
  if un.all (apartW r.2) = true then om (canon base a r.1) fun s => (.norm, s) else none

def evW (C : WProg) : Nat → WEv
  | 0, _, _, _ => none
  | n + 1, base, c, s =>
    match c with
    | .skip => some (.norm, s)
    | .ops l a => ob (evOpsW C (runWithW C (evW C n)) l s) fun s => om (canon base a s) fun s => (.norm, s)
    | .draw l un a => ob (evDrawW C (runWithW C (evW C n)) l s.next ⟨s.env, s.heap, s.next + l.length⟩ []) (drawEndW base un a)
    | .seq a b => ob (evW C n base a s) (evSeqW (evW C n base b))
    | .cond c a b => evCondW (evW C n base a) (evW C n base b) (c.ev s.env) s
    | .block id b a => ob (evW C n base b s) (evBlockW base id a)
    | .loop a b => ob (canon base a s) fun s => ob (evW C n base b s) (evSeqW (evW C n base (.loop a b)))
    | .exit id => some (.exit id, s)
    | .ret => some (.ret, s)
    | .fail => none

def runW (C : WProg) (n : Nat) : WRun := runWithW C (evW C n)

/-- A function on data. -/
def callW (C : WProg) (n : Nat) (f : Nat) (args : List AV) : Option AV := pureCallW (runW C n) f args

/- What a machine's code is in the evaluator's. -/

mutual
def er : AV → AV
  | .ro z es ex => (match es, ex with
    | [], true => .nils
    | es, ex => .ro z es ex)
  | .agg cs => .agg (erL cs)
  | .fn f cs => .fn f (erL cs)
  | .tup cs => .tup (erL cs)
  | v => v
def erL : List AV → List AV
  | [] => []
  | v :: r => er v :: erL r
end

def erO : Opd → Opd
  | .t s => .t s
  | .c v => .c (er v)

def erOp : COp → COp
  | .mv x => .mv (erO x)
  | .pick c a b => .pick (erO c) (erO a) (erO b)
  | .alloc z => .alloc (erL z)
  | .box x => .box (erO x)
  | .build z ps => .build (erL z) (ps.map fun p => (p.1, p.2.1, erO p.2.2))
  | .buildS z len ps => .buildS (erL z) len (ps.map fun p => (p.1, erO p.2))
  | .load n ag a => .load n ag (erO a)
  | .store n a x => .store n (erO a) (erO x)
  | .nilchk x => .nilchk (erO x)
  | .bin op x y => .bin op (erO x) (erO y)
  | .eqv kd ks ne x y => .eqv kd ks ne (erO x) (erO y)
  | .un op x => .un op (erO x)
  | .cvt k x => .cvt k (erO x)
  | .cvs x => .cvs (erO x)
  | .mkfn f caps => .mkfn f (caps.map erO)
  | .mkmap => .mkmap
  | .mksl z bytes l c => .mksl (erL z) bytes (erO l) (erO c)
  | .slice z x lo hi mx => .slice z (erO x) (lo.map erO) (hi.map erO) (mx.map erO)
  | .fld off x => .fld off (erO x)
  | .fldv off n ag x => .fldv off n ag (erO x)
  | .idxs z x i => .idxs z (erO x) (erO i)
  | .idxa len z x i => .idxa len z (erO x) (erO i)
  | .idxstr x i => .idxstr (erO x) (erO i)
  | .idxv len z ag x i => .idxv len z ag (erO x) (erO i)
  | .look kd z ok m k => .look kd (er z) ok (erO m) (erO k)
  | .upd kd m k v => .upd kd (erO m) (erO k) (erO v)
  | .range x => .range (erO x)
  | .next x => .next (erO x)
  | .ext i x => .ext i (erO x)
  | .call f args => .call f (args.map erO)
  | .callv g args => .callv (erO g) (args.map erO)
  | .len kd x => .len kd (erO x)
  | .cap x => .cap (erO x)
  | .app z bytes zeros s x => .app (erL z) bytes zeros (erO s) (erO x)
  | .cpy z d s => .cpy z (erO d) (erO s)
  | .mx x y => .mx (erO x) (erO y)
  | .mn x y => .mn (erO x) (erO y)
  | .fail => .fail

def erOper (o : COper) : COper := ⟨o.dst, o.guard, erOp o.op⟩

/-- Code. -/
def erC : WCode → CCode
  | .skip => .skip
  | .ops l a => .ops (l.map erOper) (maskOf a)
  | .draw l un a => .draw (l.map erOper) un (maskOf a)
  | .seq a b => .seq (erC a) (erC b)
  | .cond c a b => .cond (erO c) (erC a) (erC b)
  | .block id b _ => .block id (erC b)
  | .loop a b => .loop (maskOf a) (erC b)
  | .exit id => .exit id
  | .ret => .ret
  | .fail => .fail

def erFn (f : WFn) : CFn := ⟨f.np, f.res, erC f.body⟩

def erTree : WTree → Tree
  | .leaf => .leaf
  | .node l k f r => .node (erTree l) k (erFn f) (erTree r)

def erProg (C : WProg) : Prog := ⟨erTree C.fns, C.inl⟩

mutual
/-- A constant that has its like. -/
def okV : AV → Bool
  | .ptr _ _ _ => false
  | .sl _ _ _ _ _ _ => false
  | .map _ => false
  | .rop _ => false
  | .undef => false
  | .ro _ es _ => es.isEmpty
  | .fn _ cs => okL cs
  | .agg cs => okL cs
  | .tup cs => okL cs
  | _ => true
def okL : List AV → Bool
  | [] => true
  | v :: r => okV v && okL r
end

def okO : Opd → Bool
  | .t _ => true
  | .c v => okV v

def okOp : COp → Bool
  | .mv x | .box x | .load _ _ x | .nilchk x | .un _ x | .cvt _ x | .cvs x | .fld _ x | .fldv _ _ _ x | .range x | .next x | .ext _ x | .len _ x | .cap x => okO x
  | .pick c a b | .upd _ c a b => okO c && (okO a && okO b)
  | .alloc z => okL z
  | .build z ps => okL z && ps.all fun p => okO p.2.2
  | .buildS z _ ps => okL z && ps.all fun p => okO p.2
  | .store _ a x | .bin _ a x | .eqv _ _ _ a x | .idxs _ a x | .idxa _ _ a x | .idxstr a x | .idxv _ _ _ a x | .cpy _ a x | .mx a x | .mn a x => okO a && okO x
  | .mkfn _ caps => caps.all okO
  | .mksl z _ l c => okL z && (okO l && okO c)
  | .slice _ x lo hi mx => okO x && ((lo.map okO).getD true && ((hi.map okO).getD true && (mx.map okO).getD true))
  | .look _ z _ m k => okV z && (okO m && okO k)
  | .call _ args => args.all okO
  | .callv g args => okO g && args.all okO
  | .app z _ _ s x => okL z && (okO s && okO x)
  | .mkmap | .fail => true

def okC : WCode → Bool
  | .ops l _ => l.all fun o => okOp o.op
  | .draw l _ _ => l.all fun o => okOp o.op
  | .seq a b => okC a && okC b
  | .cond c a b => okO c && (okC a && okC b)
  | .block _ b _ => okC b
  | .loop _ b => okC b
  | _ => true

def okTree : WTree → Bool
  | .leaf => true
  | .node l _ f r => okTree l && (okC f.body && okTree r)

end Go.Pw
