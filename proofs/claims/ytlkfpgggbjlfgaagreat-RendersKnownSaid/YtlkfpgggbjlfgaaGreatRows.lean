/-
  No cell of these rows narrows 'for every input' (looked for: loops, veiled, ifaces, maps, wideKeys, modest, calm, conditions, laid).
  DERIVED. THE GIVEN ROWS OF THIS SEAT. 7 by the template 'for every input the law returns true; each argument reads behind the call as it read before'; 0 by the template 'total and deterministic' (their statements: YtlkfpgggbjlfgaaGreatTotals.lean).
  GIVEN WITH THE SEED: the statements are not yours to turn. If you find one false, say at which input.
  Laid BY PROGRAM, IN A SANDBOX (cutbox-rows.mjs): the forced cells as the released guide's own fill.sh prints them over the translation 500cbf567966b19d… (all of the seat's roots in one cut). By AI agents, Wed Nov 11 2026. No macro, syntax, notation, axiom, sorry.
-/
import Derived.Test.YtlkfpgggbjlfgaaGreatChecked
import GoSem.Claim
import GoSem.ClaimJoined
import GoSem.ClaimMapViews
import Derived.JoinedTies
import Derived.KernelRfl
namespace Go.Proofs.YtlkfpgggbjlfgaaGreat
/- THE CELL 'sum', in the pinned program and in every row, IS THE sha256 OF THE DUMP (.gsa) THAT YtlkfpgggbjlfgaaGreatProg.lean LOADS. Nothing in Lean hashes anything: it is a label: what it is worth is what the hold of that sum in a sandbox is worth. -/
noncomputable def Tryz.pinned : Pinned := { name := "ytlkfpgggbjlfgaagreat", sum := "500cbf567966b19d8a14d482c3c4bf1eb6be83c7de9cc9c6e4d83644e6159a1f", checked := Tryz.checked }
namespace Rows
def none {H : Type} : Left H := { results := [], args := [] }

/-- 'paternosterlaw26.BatchesOf': WHATEVER THE INPUT: true; the input reads as it did. -/
def batchesOfSpec : ChangeSpec := { name := "batchesOf", fn := fun _ => fun
  | [d1, d2] => { results := [.lit (.bool true)], args := [d1, d2] }
  | _ => none }
def batchesOfRow : OpenClaim := { program := "ytlkfpgggbjlfgaagreat", sum := "500cbf567966b19d8a14d482c3c4bf1eb6be83c7de9cc9c6e4d83644e6159a1f", func := "paternoster/paternosterlaw26.BatchesOf", spec := "batchesOf", unfollowed := true, recurses := true, apart := false }
def BatchesOfSaid : Prop := batchesOfRow.holds Tryz.pinned (OpenSpec.ofChange batchesOfSpec)

/-- ITS FALSE NEIGHBOUR: 'it returns false'. Refute it at one input. -/
def batchesOfWrong : ChangeSpec := { name := "batchesOf", fn := fun _ => fun
  | [d1, d2] => { results := [.lit (.bool false)], args := [d1, d2] }
  | _ => none }
def BatchesOfWrongFalsely : Prop := batchesOfRow.holds Tryz.pinned (OpenSpec.ofChange batchesOfWrong)

/-- 'paternosterlaw26.BatchesKnown': WHATEVER THE INPUT: true; the input reads as it did. -/
def batchesKnownSpec : ChangeSpec := { name := "batchesKnown", fn := fun _ => fun
  | [] => { results := [.lit (.bool true)], args := [] }
  | _ => none }
def batchesKnownRow : OpenClaim := { program := "ytlkfpgggbjlfgaagreat", sum := "500cbf567966b19d8a14d482c3c4bf1eb6be83c7de9cc9c6e4d83644e6159a1f", func := "paternoster/paternosterlaw26.BatchesKnown", spec := "batchesKnown", unfollowed := true, recurses := true, apart := false }
def BatchesKnownSaid : Prop := batchesKnownRow.holds Tryz.pinned (OpenSpec.ofChange batchesKnownSpec)

/-- ITS FALSE NEIGHBOUR: 'it returns false'. Refute it at one input. -/
def batchesKnownWrong : ChangeSpec := { name := "batchesKnown", fn := fun _ => fun
  | [] => { results := [.lit (.bool false)], args := [] }
  | _ => none }
def BatchesKnownWrongFalsely : Prop := batchesKnownRow.holds Tryz.pinned (OpenSpec.ofChange batchesKnownWrong)

/-- 'paternosterlaw28.AnchorsKept': WHATEVER THE INPUT: true; the input reads as it did. -/
def anchorsKeptSpec : ChangeSpec := { name := "anchorsKept", fn := fun _ => fun
  | [d1, d2, d3] => { results := [.lit (.bool true)], args := [d1, d2, d3] }
  | _ => none }
def anchorsKeptRow : OpenClaim := { program := "ytlkfpgggbjlfgaagreat", sum := "500cbf567966b19d8a14d482c3c4bf1eb6be83c7de9cc9c6e4d83644e6159a1f", func := "paternoster/paternosterlaw28.AnchorsKept", spec := "anchorsKept", unfollowed := true, recurses := true, apart := false }
def AnchorsKeptSaid : Prop := anchorsKeptRow.holds Tryz.pinned (OpenSpec.ofChange anchorsKeptSpec)

/-- ITS FALSE NEIGHBOUR: 'it returns false'. Refute it at one input. -/
def anchorsKeptWrong : ChangeSpec := { name := "anchorsKept", fn := fun _ => fun
  | [d1, d2, d3] => { results := [.lit (.bool false)], args := [d1, d2, d3] }
  | _ => none }
def AnchorsKeptWrongFalsely : Prop := anchorsKeptRow.holds Tryz.pinned (OpenSpec.ofChange anchorsKeptWrong)

/-- 'paternosterlaw28.AnchorsKnown': WHATEVER THE INPUT: true; the input reads as it did. -/
def anchorsKnownSpec : ChangeSpec := { name := "anchorsKnown", fn := fun _ => fun
  | [] => { results := [.lit (.bool true)], args := [] }
  | _ => none }
def anchorsKnownRow : OpenClaim := { program := "ytlkfpgggbjlfgaagreat", sum := "500cbf567966b19d8a14d482c3c4bf1eb6be83c7de9cc9c6e4d83644e6159a1f", func := "paternoster/paternosterlaw28.AnchorsKnown", spec := "anchorsKnown", unfollowed := true, recurses := true, apart := false }
def AnchorsKnownSaid : Prop := anchorsKnownRow.holds Tryz.pinned (OpenSpec.ofChange anchorsKnownSpec)

/-- ITS FALSE NEIGHBOUR: 'it returns false'. Refute it at one input. -/
def anchorsKnownWrong : ChangeSpec := { name := "anchorsKnown", fn := fun _ => fun
  | [] => { results := [.lit (.bool false)], args := [] }
  | _ => none }
def AnchorsKnownWrongFalsely : Prop := anchorsKnownRow.holds Tryz.pinned (OpenSpec.ofChange anchorsKnownWrong)

/-- 'paternosterlaw24.ListsKnown': WHATEVER THE INPUT: true; the input reads as it did. -/
def listsKnownSpec : ChangeSpec := { name := "listsKnown", fn := fun _ => fun
  | [] => { results := [.lit (.bool true)], args := [] }
  | _ => none }
def listsKnownRow : OpenClaim := { program := "ytlkfpgggbjlfgaagreat", sum := "500cbf567966b19d8a14d482c3c4bf1eb6be83c7de9cc9c6e4d83644e6159a1f", func := "paternoster/paternosterlaw24.ListsKnown", spec := "listsKnown", unfollowed := true, recurses := true, apart := false }
def ListsKnownSaid : Prop := listsKnownRow.holds Tryz.pinned (OpenSpec.ofChange listsKnownSpec)

/-- ITS FALSE NEIGHBOUR: 'it returns false'. Refute it at one input. -/
def listsKnownWrong : ChangeSpec := { name := "listsKnown", fn := fun _ => fun
  | [] => { results := [.lit (.bool false)], args := [] }
  | _ => none }
def ListsKnownWrongFalsely : Prop := listsKnownRow.holds Tryz.pinned (OpenSpec.ofChange listsKnownWrong)

/-- 'paternosterlaw27.RendersKnown': WHATEVER THE INPUT: true; the input reads as it did. -/
def rendersKnownSpec : ChangeSpec := { name := "rendersKnown", fn := fun _ => fun
  | [] => { results := [.lit (.bool true)], args := [] }
  | _ => none }
def rendersKnownRow : OpenClaim := { program := "ytlkfpgggbjlfgaagreat", sum := "500cbf567966b19d8a14d482c3c4bf1eb6be83c7de9cc9c6e4d83644e6159a1f", func := "paternoster/paternosterlaw27.RendersKnown", spec := "rendersKnown", unfollowed := true, recurses := true, apart := false }
def RendersKnownSaid : Prop := rendersKnownRow.holds Tryz.pinned (OpenSpec.ofChange rendersKnownSpec)

/-- ITS FALSE NEIGHBOUR: 'it returns false'. Refute it at one input. -/
def rendersKnownWrong : ChangeSpec := { name := "rendersKnown", fn := fun _ => fun
  | [] => { results := [.lit (.bool false)], args := [] }
  | _ => none }
def RendersKnownWrongFalsely : Prop := rendersKnownRow.holds Tryz.pinned (OpenSpec.ofChange rendersKnownWrong)

/-- 'paternosterlaw32.HoldsKnown': WHATEVER THE INPUT: true; the input reads as it did. -/
def holdsKnownSpec : ChangeSpec := { name := "holdsKnown", fn := fun _ => fun
  | [] => { results := [.lit (.bool true)], args := [] }
  | _ => none }
def holdsKnownRow : OpenClaim := { program := "ytlkfpgggbjlfgaagreat", sum := "500cbf567966b19d8a14d482c3c4bf1eb6be83c7de9cc9c6e4d83644e6159a1f", func := "paternoster/paternosterlaw32.HoldsKnown", spec := "holdsKnown", unfollowed := true, recurses := true, apart := false }
def HoldsKnownSaid : Prop := holdsKnownRow.holds Tryz.pinned (OpenSpec.ofChange holdsKnownSpec)

/-- ITS FALSE NEIGHBOUR: 'it returns false'. Refute it at one input. -/
def holdsKnownWrong : ChangeSpec := { name := "holdsKnown", fn := fun _ => fun
  | [] => { results := [.lit (.bool false)], args := [] }
  | _ => none }
def HoldsKnownWrongFalsely : Prop := holdsKnownRow.holds Tryz.pinned (OpenSpec.ofChange holdsKnownWrong)

/- THE SECOND FORM. 'bulk': how many values and letters a reading holds, each counted each time it is reached (what is shared counts as often as it is met; a slice's spare places count too). A statement '..UptoSaid' is the law's where the arguments, and the package variables that the reading takes, are together of bulk at most 1048576: NARROWER than '..Said'. Prove '..Said' where nothing that the law and all that it calls make is longer than what came in: it says more and counts as full. Else prove '..UptoSaid'. A law counts once. -/
mutual
def uptoBulk {H : Type} : DataW H → Nat
  | .lit (.string bytes) => bytes.length + 1
  | .lit _ => 1
  | .nil => 1
  | .ptr d => uptoBulk d + 1
  | .slice elems spare => uptoBulkAll elems + uptoBulkAll spare + 1
  | .agg parts => uptoBulkAll parts + 1
  | .iface _ d => uptoBulk d + 1
  | .map entries => uptoBulkEntries entries + 1
  | .held _ => 1
def uptoBulkAll {H : Type} : List (DataW H) → Nat
  | [] => 0
  | d :: r => uptoBulk d + uptoBulkAll r
def uptoBulkEntries {H : Type} : List (Lit × DataW H) → Nat
  | [] => 0
  | x :: r => uptoBulkEntry x + uptoBulkEntries r
def uptoBulkEntry {H : Type} : Lit × DataW H → Nat
  | (.string bytes, d) => bytes.length + uptoBulk d + 1
  | (_, d) => uptoBulk d + 1
 end
def uptoSmall : (H : Type) → List (DataW H) → Bool := fun _ ds => decide (uptoBulkAll ds ≤ 1048576)
def OpenSpec.upto (s : _root_.Go.ChangeSpec) : _root_.Go.OpenSpec := { _root_.Go.OpenSpec.ofChange s with cond := some uptoSmall }

/-- 'paternosterlaw26.BatchesOf', WHERE WHAT IT READS IS OF BULK AT MOST 1048576: true; the input reads as it did. -/
def batchesOfUptoRow : OpenClaim := { program := "ytlkfpgggbjlfgaagreat", sum := "500cbf567966b19d8a14d482c3c4bf1eb6be83c7de9cc9c6e4d83644e6159a1f", func := "paternoster/paternosterlaw26.BatchesOf", spec := "batchesOf", unfollowed := true, recurses := true, apart := false, narrowed := true }
def BatchesOfUptoSaid : Prop := batchesOfUptoRow.holds Tryz.pinned (OpenSpec.upto batchesOfSpec)

/-- 'paternosterlaw26.BatchesKnown', WHERE WHAT IT READS IS OF BULK AT MOST 1048576: true; the input reads as it did. -/
def batchesKnownUptoRow : OpenClaim := { program := "ytlkfpgggbjlfgaagreat", sum := "500cbf567966b19d8a14d482c3c4bf1eb6be83c7de9cc9c6e4d83644e6159a1f", func := "paternoster/paternosterlaw26.BatchesKnown", spec := "batchesKnown", unfollowed := true, recurses := true, apart := false, narrowed := true }
def BatchesKnownUptoSaid : Prop := batchesKnownUptoRow.holds Tryz.pinned (OpenSpec.upto batchesKnownSpec)

/-- 'paternosterlaw28.AnchorsKept', WHERE WHAT IT READS IS OF BULK AT MOST 1048576: true; the input reads as it did. -/
def anchorsKeptUptoRow : OpenClaim := { program := "ytlkfpgggbjlfgaagreat", sum := "500cbf567966b19d8a14d482c3c4bf1eb6be83c7de9cc9c6e4d83644e6159a1f", func := "paternoster/paternosterlaw28.AnchorsKept", spec := "anchorsKept", unfollowed := true, recurses := true, apart := false, narrowed := true }
def AnchorsKeptUptoSaid : Prop := anchorsKeptUptoRow.holds Tryz.pinned (OpenSpec.upto anchorsKeptSpec)

/-- 'paternosterlaw28.AnchorsKnown', WHERE WHAT IT READS IS OF BULK AT MOST 1048576: true; the input reads as it did. -/
def anchorsKnownUptoRow : OpenClaim := { program := "ytlkfpgggbjlfgaagreat", sum := "500cbf567966b19d8a14d482c3c4bf1eb6be83c7de9cc9c6e4d83644e6159a1f", func := "paternoster/paternosterlaw28.AnchorsKnown", spec := "anchorsKnown", unfollowed := true, recurses := true, apart := false, narrowed := true }
def AnchorsKnownUptoSaid : Prop := anchorsKnownUptoRow.holds Tryz.pinned (OpenSpec.upto anchorsKnownSpec)

/-- 'paternosterlaw24.ListsKnown', WHERE WHAT IT READS IS OF BULK AT MOST 1048576: true; the input reads as it did. -/
def listsKnownUptoRow : OpenClaim := { program := "ytlkfpgggbjlfgaagreat", sum := "500cbf567966b19d8a14d482c3c4bf1eb6be83c7de9cc9c6e4d83644e6159a1f", func := "paternoster/paternosterlaw24.ListsKnown", spec := "listsKnown", unfollowed := true, recurses := true, apart := false, narrowed := true }
def ListsKnownUptoSaid : Prop := listsKnownUptoRow.holds Tryz.pinned (OpenSpec.upto listsKnownSpec)

/-- 'paternosterlaw27.RendersKnown', WHERE WHAT IT READS IS OF BULK AT MOST 1048576: true; the input reads as it did. -/
def rendersKnownUptoRow : OpenClaim := { program := "ytlkfpgggbjlfgaagreat", sum := "500cbf567966b19d8a14d482c3c4bf1eb6be83c7de9cc9c6e4d83644e6159a1f", func := "paternoster/paternosterlaw27.RendersKnown", spec := "rendersKnown", unfollowed := true, recurses := true, apart := false, narrowed := true }
def RendersKnownUptoSaid : Prop := rendersKnownUptoRow.holds Tryz.pinned (OpenSpec.upto rendersKnownSpec)

/-- 'paternosterlaw32.HoldsKnown', WHERE WHAT IT READS IS OF BULK AT MOST 1048576: true; the input reads as it did. -/
def holdsKnownUptoRow : OpenClaim := { program := "ytlkfpgggbjlfgaagreat", sum := "500cbf567966b19d8a14d482c3c4bf1eb6be83c7de9cc9c6e4d83644e6159a1f", func := "paternoster/paternosterlaw32.HoldsKnown", spec := "holdsKnown", unfollowed := true, recurses := true, apart := false, narrowed := true }
def HoldsKnownUptoSaid : Prop := holdsKnownUptoRow.holds Tryz.pinned (OpenSpec.upto holdsKnownSpec)

end Rows
end Go.Proofs.YtlkfpgggbjlfgaaGreat
