/-
  No cell of these rows narrows 'for every input' (looked for: loops, veiled, ifaces, maps, wideKeys, modest, calm, conditions, laid).
  DERIVED. THE GIVEN ROWS OF THIS SEAT. 7 by the template 'for every input the law returns true; each argument reads behind the call as it read before'; 0 by the template 'total and deterministic' (their statements: YtfkdbfgdncamdaaGreatTotals.lean).
  GIVEN WITH THE SEED: the statements are not yours to turn. If you find one false, say at which input.
  Laid BY PROGRAM, IN A SANDBOX (cutbox-rows.mjs): the forced cells as the released guide's own fill.sh prints them over the translation 0dc6fd38909ff215… (all of the seat's roots in one cut). By AI agents, Wed Nov 11 2026. No macro, syntax, notation, axiom, sorry.
-/
import Derived.Test.YtfkdbfgdncamdaaGreatChecked
import GoSem.Claim
import GoSem.ClaimJoined
import GoSem.ClaimMapViews
import Derived.JoinedTies
import Derived.KernelRfl
namespace Go.Proofs.YtfkdbfgdncamdaaGreat
/- THE CELL 'sum', in the pinned program and in every row, IS THE sha256 OF THE DUMP (.gsa) THAT YtfkdbfgdncamdaaGreatProg.lean LOADS. Nothing in Lean hashes anything: it is a label: what it is worth is what the hold of that sum in a sandbox is worth. -/
noncomputable def Tryz.pinned : Pinned := { name := "ytfkdbfgdncamdaagreat", sum := "0dc6fd38909ff215b317e9ec5a6d515422ffcf995cb9ef0fe3b0bb9d603c6bd5", checked := Tryz.checked }
namespace Rows
def none {H : Type} : Left H := { results := [], args := [] }

/-- 'paternosterlaw32.HoldsCommit': WHATEVER THE INPUT: true; the input reads as it did. -/
def holdsCommitSpec : ChangeSpec := { name := "holdsCommit", fn := fun _ => fun
  | [d1, d2] => { results := [.lit (.bool true)], args := [d1, d2] }
  | _ => none }
def holdsCommitRow : OpenClaim := { program := "ytfkdbfgdncamdaagreat", sum := "0dc6fd38909ff215b317e9ec5a6d515422ffcf995cb9ef0fe3b0bb9d603c6bd5", func := "paternoster/paternosterlaw32.HoldsCommit", spec := "holdsCommit", unfollowed := true, recurses := true, apart := false }
def HoldsCommitSaid : Prop := holdsCommitRow.holds Tryz.pinned (OpenSpec.ofChange holdsCommitSpec)

/-- ITS FALSE NEIGHBOUR: 'it returns false'. Refute it at one input. -/
def holdsCommitWrong : ChangeSpec := { name := "holdsCommit", fn := fun _ => fun
  | [d1, d2] => { results := [.lit (.bool false)], args := [d1, d2] }
  | _ => none }
def HoldsCommitWrongFalsely : Prop := holdsCommitRow.holds Tryz.pinned (OpenSpec.ofChange holdsCommitWrong)

/-- 'paternosterlaw32.HoldsArena': WHATEVER THE INPUT: true; the input reads as it did. -/
def holdsArenaSpec : ChangeSpec := { name := "holdsArena", fn := fun _ => fun
  | [d1, d2, d3] => { results := [.lit (.bool true)], args := [d1, d2, d3] }
  | _ => none }
def holdsArenaRow : OpenClaim := { program := "ytfkdbfgdncamdaagreat", sum := "0dc6fd38909ff215b317e9ec5a6d515422ffcf995cb9ef0fe3b0bb9d603c6bd5", func := "paternoster/paternosterlaw32.HoldsArena", spec := "holdsArena", unfollowed := true, recurses := true, apart := false }
def HoldsArenaSaid : Prop := holdsArenaRow.holds Tryz.pinned (OpenSpec.ofChange holdsArenaSpec)

/-- ITS FALSE NEIGHBOUR: 'it returns false'. Refute it at one input. -/
def holdsArenaWrong : ChangeSpec := { name := "holdsArena", fn := fun _ => fun
  | [d1, d2, d3] => { results := [.lit (.bool false)], args := [d1, d2, d3] }
  | _ => none }
def HoldsArenaWrongFalsely : Prop := holdsArenaRow.holds Tryz.pinned (OpenSpec.ofChange holdsArenaWrong)

/-- 'paternosterlaw32.HoldsTrim': WHATEVER THE INPUT: true; the input reads as it did. -/
def holdsTrimSpec : ChangeSpec := { name := "holdsTrim", fn := fun _ => fun
  | [d1, d2] => { results := [.lit (.bool true)], args := [d1, d2] }
  | _ => none }
def holdsTrimRow : OpenClaim := { program := "ytfkdbfgdncamdaagreat", sum := "0dc6fd38909ff215b317e9ec5a6d515422ffcf995cb9ef0fe3b0bb9d603c6bd5", func := "paternoster/paternosterlaw32.HoldsTrim", spec := "holdsTrim", unfollowed := true, recurses := true, apart := false }
def HoldsTrimSaid : Prop := holdsTrimRow.holds Tryz.pinned (OpenSpec.ofChange holdsTrimSpec)

/-- ITS FALSE NEIGHBOUR: 'it returns false'. Refute it at one input. -/
def holdsTrimWrong : ChangeSpec := { name := "holdsTrim", fn := fun _ => fun
  | [d1, d2] => { results := [.lit (.bool false)], args := [d1, d2] }
  | _ => none }
def HoldsTrimWrongFalsely : Prop := holdsTrimRow.holds Tryz.pinned (OpenSpec.ofChange holdsTrimWrong)

/-- 'paternosterlaw32.HoldsSame': WHATEVER THE INPUT: true; the input reads as it did. -/
def holdsSameSpec : ChangeSpec := { name := "holdsSame", fn := fun _ => fun
  | [d1, d2] => { results := [.lit (.bool true)], args := [d1, d2] }
  | _ => none }
def holdsSameRow : OpenClaim := { program := "ytfkdbfgdncamdaagreat", sum := "0dc6fd38909ff215b317e9ec5a6d515422ffcf995cb9ef0fe3b0bb9d603c6bd5", func := "paternoster/paternosterlaw32.HoldsSame", spec := "holdsSame", unfollowed := true, recurses := true, apart := false }
def HoldsSameSaid : Prop := holdsSameRow.holds Tryz.pinned (OpenSpec.ofChange holdsSameSpec)

/-- ITS FALSE NEIGHBOUR: 'it returns false'. Refute it at one input. -/
def holdsSameWrong : ChangeSpec := { name := "holdsSame", fn := fun _ => fun
  | [d1, d2] => { results := [.lit (.bool false)], args := [d1, d2] }
  | _ => none }
def HoldsSameWrongFalsely : Prop := holdsSameRow.holds Tryz.pinned (OpenSpec.ofChange holdsSameWrong)

/-- 'paternosterlaw32.HoldsKnown': WHATEVER THE INPUT: true; the input reads as it did. -/
def holdsKnownSpec : ChangeSpec := { name := "holdsKnown", fn := fun _ => fun
  | [] => { results := [.lit (.bool true)], args := [] }
  | _ => none }
def holdsKnownRow : OpenClaim := { program := "ytfkdbfgdncamdaagreat", sum := "0dc6fd38909ff215b317e9ec5a6d515422ffcf995cb9ef0fe3b0bb9d603c6bd5", func := "paternoster/paternosterlaw32.HoldsKnown", spec := "holdsKnown", unfollowed := true, recurses := true, apart := false }
def HoldsKnownSaid : Prop := holdsKnownRow.holds Tryz.pinned (OpenSpec.ofChange holdsKnownSpec)

/-- ITS FALSE NEIGHBOUR: 'it returns false'. Refute it at one input. -/
def holdsKnownWrong : ChangeSpec := { name := "holdsKnown", fn := fun _ => fun
  | [] => { results := [.lit (.bool false)], args := [] }
  | _ => none }
def HoldsKnownWrongFalsely : Prop := holdsKnownRow.holds Tryz.pinned (OpenSpec.ofChange holdsKnownWrong)

/-- 'paternosterlaw28.AnchorsKept': WHATEVER THE INPUT: true; the input reads as it did. -/
def anchorsKeptSpec : ChangeSpec := { name := "anchorsKept", fn := fun _ => fun
  | [d1, d2, d3] => { results := [.lit (.bool true)], args := [d1, d2, d3] }
  | _ => none }
def anchorsKeptRow : OpenClaim := { program := "ytfkdbfgdncamdaagreat", sum := "0dc6fd38909ff215b317e9ec5a6d515422ffcf995cb9ef0fe3b0bb9d603c6bd5", func := "paternoster/paternosterlaw28.AnchorsKept", spec := "anchorsKept", unfollowed := true, recurses := true, apart := false }
def AnchorsKeptSaid : Prop := anchorsKeptRow.holds Tryz.pinned (OpenSpec.ofChange anchorsKeptSpec)

/-- ITS FALSE NEIGHBOUR: 'it returns false'. Refute it at one input. -/
def anchorsKeptWrong : ChangeSpec := { name := "anchorsKept", fn := fun _ => fun
  | [d1, d2, d3] => { results := [.lit (.bool false)], args := [d1, d2, d3] }
  | _ => none }
def AnchorsKeptWrongFalsely : Prop := anchorsKeptRow.holds Tryz.pinned (OpenSpec.ofChange anchorsKeptWrong)

/-- 'paternosterlaw28.AnchorsKnown': WHATEVER THE INPUT: true; the input reads as it did. -/
def anchorsKnownSpec : ChangeSpec := { name := "anchorsKnown", fn := fun _ => fun
  | [] => { results := [.lit (.bool true)], args := [] }
  | _ => none }
def anchorsKnownRow : OpenClaim := { program := "ytfkdbfgdncamdaagreat", sum := "0dc6fd38909ff215b317e9ec5a6d515422ffcf995cb9ef0fe3b0bb9d603c6bd5", func := "paternoster/paternosterlaw28.AnchorsKnown", spec := "anchorsKnown", unfollowed := true, recurses := true, apart := false }
def AnchorsKnownSaid : Prop := anchorsKnownRow.holds Tryz.pinned (OpenSpec.ofChange anchorsKnownSpec)

/-- ITS FALSE NEIGHBOUR: 'it returns false'. Refute it at one input. -/
def anchorsKnownWrong : ChangeSpec := { name := "anchorsKnown", fn := fun _ => fun
  | [] => { results := [.lit (.bool false)], args := [] }
  | _ => none }
def AnchorsKnownWrongFalsely : Prop := anchorsKnownRow.holds Tryz.pinned (OpenSpec.ofChange anchorsKnownWrong)

/- THE SECOND FORM. 'bulk': how many values and letters a reading holds, each counted each time it is reached (what is shared counts as often as it is met; a slice's spare places count too). A statement '..UptoSaid' is the law's where the arguments, and the package variables that the reading takes, are together of bulk at most 1048576: NARROWER than '..Said'. Prove '..Said' where nothing that the law and all that it calls make is longer than what came in: it says more and counts as full. Else prove '..UptoSaid'. A law counts once. -/
mutual
def uptoBulk {H : Type} : DataW H → Nat
  | .lit (.string bytes) => bytes.length + 1
  | .lit _ => 1
  | .nil => 1
  | .ptr d => uptoBulk d + 1
  | .slice elems spare => uptoBulkAll elems + uptoBulkAll spare + 1
  | .agg parts => uptoBulkAll parts + 1
  | .iface _ d => uptoBulk d + 1
  | .map entries => uptoBulkEntries entries + 1
  | .held _ => 1
def uptoBulkAll {H : Type} : List (DataW H) → Nat
  | [] => 0
  | d :: r => uptoBulk d + uptoBulkAll r
def uptoBulkEntries {H : Type} : List (Lit × DataW H) → Nat
  | [] => 0
  | x :: r => uptoBulkEntry x + uptoBulkEntries r
def uptoBulkEntry {H : Type} : Lit × DataW H → Nat
  | (.string bytes, d) => bytes.length + uptoBulk d + 1
  | (_, d) => uptoBulk d + 1
 end
def uptoSmall : (H : Type) → List (DataW H) → Bool := fun _ ds => decide (uptoBulkAll ds ≤ 1048576)
def OpenSpec.upto (s : _root_.Go.ChangeSpec) : _root_.Go.OpenSpec := { _root_.Go.OpenSpec.ofChange s with cond := some uptoSmall }

/-- 'paternosterlaw32.HoldsCommit', WHERE WHAT IT READS IS OF BULK AT MOST 1048576: true; the input reads as it did. -/
def holdsCommitUptoRow : OpenClaim := { program := "ytfkdbfgdncamdaagreat", sum := "0dc6fd38909ff215b317e9ec5a6d515422ffcf995cb9ef0fe3b0bb9d603c6bd5", func := "paternoster/paternosterlaw32.HoldsCommit", spec := "holdsCommit", unfollowed := true, recurses := true, apart := false, narrowed := true }
def HoldsCommitUptoSaid : Prop := holdsCommitUptoRow.holds Tryz.pinned (OpenSpec.upto holdsCommitSpec)

/-- 'paternosterlaw32.HoldsArena', WHERE WHAT IT READS IS OF BULK AT MOST 1048576: true; the input reads as it did. -/
def holdsArenaUptoRow : OpenClaim := { program := "ytfkdbfgdncamdaagreat", sum := "0dc6fd38909ff215b317e9ec5a6d515422ffcf995cb9ef0fe3b0bb9d603c6bd5", func := "paternoster/paternosterlaw32.HoldsArena", spec := "holdsArena", unfollowed := true, recurses := true, apart := false, narrowed := true }
def HoldsArenaUptoSaid : Prop := holdsArenaUptoRow.holds Tryz.pinned (OpenSpec.upto holdsArenaSpec)

/-- 'paternosterlaw32.HoldsTrim', WHERE WHAT IT READS IS OF BULK AT MOST 1048576: true; the input reads as it did. -/
def holdsTrimUptoRow : OpenClaim := { program := "ytfkdbfgdncamdaagreat", sum := "0dc6fd38909ff215b317e9ec5a6d515422ffcf995cb9ef0fe3b0bb9d603c6bd5", func := "paternoster/paternosterlaw32.HoldsTrim", spec := "holdsTrim", unfollowed := true, recurses := true, apart := false, narrowed := true }
def HoldsTrimUptoSaid : Prop := holdsTrimUptoRow.holds Tryz.pinned (OpenSpec.upto holdsTrimSpec)

/-- 'paternosterlaw32.HoldsSame', WHERE WHAT IT READS IS OF BULK AT MOST 1048576: true; the input reads as it did. -/
def holdsSameUptoRow : OpenClaim := { program := "ytfkdbfgdncamdaagreat", sum := "0dc6fd38909ff215b317e9ec5a6d515422ffcf995cb9ef0fe3b0bb9d603c6bd5", func := "paternoster/paternosterlaw32.HoldsSame", spec := "holdsSame", unfollowed := true, recurses := true, apart := false, narrowed := true }
def HoldsSameUptoSaid : Prop := holdsSameUptoRow.holds Tryz.pinned (OpenSpec.upto holdsSameSpec)

/-- 'paternosterlaw32.HoldsKnown', WHERE WHAT IT READS IS OF BULK AT MOST 1048576: true; the input reads as it did. -/
def holdsKnownUptoRow : OpenClaim := { program := "ytfkdbfgdncamdaagreat", sum := "0dc6fd38909ff215b317e9ec5a6d515422ffcf995cb9ef0fe3b0bb9d603c6bd5", func := "paternoster/paternosterlaw32.HoldsKnown", spec := "holdsKnown", unfollowed := true, recurses := true, apart := false, narrowed := true }
def HoldsKnownUptoSaid : Prop := holdsKnownUptoRow.holds Tryz.pinned (OpenSpec.upto holdsKnownSpec)

/-- 'paternosterlaw28.AnchorsKept', WHERE WHAT IT READS IS OF BULK AT MOST 1048576: true; the input reads as it did. -/
def anchorsKeptUptoRow : OpenClaim := { program := "ytfkdbfgdncamdaagreat", sum := "0dc6fd38909ff215b317e9ec5a6d515422ffcf995cb9ef0fe3b0bb9d603c6bd5", func := "paternoster/paternosterlaw28.AnchorsKept", spec := "anchorsKept", unfollowed := true, recurses := true, apart := false, narrowed := true }
def AnchorsKeptUptoSaid : Prop := anchorsKeptUptoRow.holds Tryz.pinned (OpenSpec.upto anchorsKeptSpec)

/-- 'paternosterlaw28.AnchorsKnown', WHERE WHAT IT READS IS OF BULK AT MOST 1048576: true; the input reads as it did. -/
def anchorsKnownUptoRow : OpenClaim := { program := "ytfkdbfgdncamdaagreat", sum := "0dc6fd38909ff215b317e9ec5a6d515422ffcf995cb9ef0fe3b0bb9d603c6bd5", func := "paternoster/paternosterlaw28.AnchorsKnown", spec := "anchorsKnown", unfollowed := true, recurses := true, apart := false, narrowed := true }
def AnchorsKnownUptoSaid : Prop := anchorsKnownUptoRow.holds Tryz.pinned (OpenSpec.upto anchorsKnownSpec)

end Rows
end Go.Proofs.YtfkdbfgdncamdaaGreat
