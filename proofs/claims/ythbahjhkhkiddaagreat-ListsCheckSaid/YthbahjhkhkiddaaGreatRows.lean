/-
  NARROWER THAN 'FOR EVERY INPUT', by the rows' own cells (each row's printed sentence says how): ListsCheck: loops.
  DERIVED. THE GIVEN ROWS OF THIS SEAT. 6 by the template 'for every input the law returns true; each argument reads behind the call as it read before'; 0 by the template 'total and deterministic' (their statements: YthbahjhkhkiddaaGreatTotals.lean).
  GIVEN WITH THE SEED: the statements are not yours to turn. If you find one false, say at which input.
  Laid BY PROGRAM, IN A SANDBOX (cutbox-rows.mjs): the forced cells as the released guide's own fill.sh prints them over the translation 520c004e74e2f2f0… (all of the seat's roots in one cut). By AI agents, Wed Nov 11 2026. No macro, syntax, notation, axiom, sorry.
-/
import Derived.Test.YthbahjhkhkiddaaGreatChecked
import GoSem.Claim
import GoSem.ClaimJoined
import GoSem.ClaimMapViews
import Derived.JoinedTies
import Derived.KernelRfl
namespace Go.Proofs.YthbahjhkhkiddaaGreat
/- THE CELL 'sum', in the pinned program and in every row, IS THE sha256 OF THE DUMP (.gsa) THAT YthbahjhkhkiddaaGreatProg.lean LOADS. Nothing in Lean hashes anything: it is a label: what it is worth is what the hold of that sum in a sandbox is worth. -/
noncomputable def Tryz.pinned : Pinned := { name := "ythbahjhkhkiddaagreat", sum := "520c004e74e2f2f0f536f22a16b4520d7d45167d9399d2c885989aa9b6debb2a", checked := Tryz.checked }
namespace Rows
def none {H : Type} : Left H := { results := [], args := [] }

/-- 'paternosterlaw24.ListsInsert': WHATEVER THE INPUT: true; the input reads as it did. -/
def listsInsertSpec : ChangeSpec := { name := "listsInsert", fn := fun _ => fun
  | [d1, d2, d3] => { results := [.lit (.bool true)], args := [d1, d2, d3] }
  | _ => none }
def listsInsertRow : OpenClaim := { program := "ythbahjhkhkiddaagreat", sum := "520c004e74e2f2f0f536f22a16b4520d7d45167d9399d2c885989aa9b6debb2a", func := "paternoster/paternosterlaw24.ListsInsert", spec := "listsInsert", unfollowed := true, recurses := true, apart := false }
def ListsInsertSaid : Prop := listsInsertRow.holds Tryz.pinned (OpenSpec.ofChange listsInsertSpec)

/-- ITS FALSE NEIGHBOUR: 'it returns false'. Refute it at one input. -/
def listsInsertWrong : ChangeSpec := { name := "listsInsert", fn := fun _ => fun
  | [d1, d2, d3] => { results := [.lit (.bool false)], args := [d1, d2, d3] }
  | _ => none }
def ListsInsertWrongFalsely : Prop := listsInsertRow.holds Tryz.pinned (OpenSpec.ofChange listsInsertWrong)

/-- 'paternosterlaw24.ListsMove': WHATEVER THE INPUT: true; the input reads as it did. -/
def listsMoveSpec : ChangeSpec := { name := "listsMove", fn := fun _ => fun
  | [d1, d2] => { results := [.lit (.bool true)], args := [d1, d2] }
  | _ => none }
def listsMoveRow : OpenClaim := { program := "ythbahjhkhkiddaagreat", sum := "520c004e74e2f2f0f536f22a16b4520d7d45167d9399d2c885989aa9b6debb2a", func := "paternoster/paternosterlaw24.ListsMove", spec := "listsMove", unfollowed := true, recurses := true, apart := false }
def ListsMoveSaid : Prop := listsMoveRow.holds Tryz.pinned (OpenSpec.ofChange listsMoveSpec)

/-- ITS FALSE NEIGHBOUR: 'it returns false'. Refute it at one input. -/
def listsMoveWrong : ChangeSpec := { name := "listsMove", fn := fun _ => fun
  | [d1, d2] => { results := [.lit (.bool false)], args := [d1, d2] }
  | _ => none }
def ListsMoveWrongFalsely : Prop := listsMoveRow.holds Tryz.pinned (OpenSpec.ofChange listsMoveWrong)

/-- 'paternosterlaw24.ListsChange': WHATEVER THE INPUT: true; the input reads as it did. -/
def listsChangeSpec : ChangeSpec := { name := "listsChange", fn := fun _ => fun
  | [d1, d2, d3] => { results := [.lit (.bool true)], args := [d1, d2, d3] }
  | _ => none }
def listsChangeRow : OpenClaim := { program := "ythbahjhkhkiddaagreat", sum := "520c004e74e2f2f0f536f22a16b4520d7d45167d9399d2c885989aa9b6debb2a", func := "paternoster/paternosterlaw24.ListsChange", spec := "listsChange", unfollowed := true, recurses := true, apart := false }
def ListsChangeSaid : Prop := listsChangeRow.holds Tryz.pinned (OpenSpec.ofChange listsChangeSpec)

/-- ITS FALSE NEIGHBOUR: 'it returns false'. Refute it at one input. -/
def listsChangeWrong : ChangeSpec := { name := "listsChange", fn := fun _ => fun
  | [d1, d2, d3] => { results := [.lit (.bool false)], args := [d1, d2, d3] }
  | _ => none }
def ListsChangeWrongFalsely : Prop := listsChangeRow.holds Tryz.pinned (OpenSpec.ofChange listsChangeWrong)

/-- 'paternosterlaw24.ListsBack': WHATEVER THE INPUT: true; the input reads as it did. -/
def listsBackSpec : ChangeSpec := { name := "listsBack", fn := fun _ => fun
  | [d1, d2, d3] => { results := [.lit (.bool true)], args := [d1, d2, d3] }
  | _ => none }
def listsBackRow : OpenClaim := { program := "ythbahjhkhkiddaagreat", sum := "520c004e74e2f2f0f536f22a16b4520d7d45167d9399d2c885989aa9b6debb2a", func := "paternoster/paternosterlaw24.ListsBack", spec := "listsBack", unfollowed := true, recurses := true, apart := false }
def ListsBackSaid : Prop := listsBackRow.holds Tryz.pinned (OpenSpec.ofChange listsBackSpec)

/-- ITS FALSE NEIGHBOUR: 'it returns false'. Refute it at one input. -/
def listsBackWrong : ChangeSpec := { name := "listsBack", fn := fun _ => fun
  | [d1, d2, d3] => { results := [.lit (.bool false)], args := [d1, d2, d3] }
  | _ => none }
def ListsBackWrongFalsely : Prop := listsBackRow.holds Tryz.pinned (OpenSpec.ofChange listsBackWrong)

/-- 'paternosterlaw24.ListsCheck': WHATEVER THE INPUT: true; the input reads as it did. -/
def listsCheckSpec : ChangeSpec := { name := "listsCheck", fn := fun _ => fun
  | [d1, d2] => { results := [.lit (.bool true)], args := [d1, d2] }
  | _ => none }
def listsCheckRow : OpenClaim := { program := "ythbahjhkhkiddaagreat", sum := "520c004e74e2f2f0f536f22a16b4520d7d45167d9399d2c885989aa9b6debb2a", func := "paternoster/paternosterlaw24.ListsCheck", spec := "listsCheck", unfollowed := true, recurses := true, loops := true, apart := false }
def ListsCheckSaid : Prop := listsCheckRow.holds Tryz.pinned (OpenSpec.ofChange listsCheckSpec)

/-- ITS FALSE NEIGHBOUR: 'it returns false'. Refute it at one input. -/
def listsCheckWrong : ChangeSpec := { name := "listsCheck", fn := fun _ => fun
  | [d1, d2] => { results := [.lit (.bool false)], args := [d1, d2] }
  | _ => none }
def ListsCheckWrongFalsely : Prop := listsCheckRow.holds Tryz.pinned (OpenSpec.ofChange listsCheckWrong)

/-- 'paternosterlaw24.ListsKnown': WHATEVER THE INPUT: true; the input reads as it did. -/
def listsKnownSpec : ChangeSpec := { name := "listsKnown", fn := fun _ => fun
  | [] => { results := [.lit (.bool true)], args := [] }
  | _ => none }
def listsKnownRow : OpenClaim := { program := "ythbahjhkhkiddaagreat", sum := "520c004e74e2f2f0f536f22a16b4520d7d45167d9399d2c885989aa9b6debb2a", func := "paternoster/paternosterlaw24.ListsKnown", spec := "listsKnown", unfollowed := true, recurses := true, apart := false }
def ListsKnownSaid : Prop := listsKnownRow.holds Tryz.pinned (OpenSpec.ofChange listsKnownSpec)

/-- ITS FALSE NEIGHBOUR: 'it returns false'. Refute it at one input. -/
def listsKnownWrong : ChangeSpec := { name := "listsKnown", fn := fun _ => fun
  | [] => { results := [.lit (.bool false)], args := [] }
  | _ => none }
def ListsKnownWrongFalsely : Prop := listsKnownRow.holds Tryz.pinned (OpenSpec.ofChange listsKnownWrong)

/- THE SECOND FORM. 'bulk': how many values and letters a reading holds, each counted each time it is reached (what is shared counts as often as it is met; a slice's spare places count too). A statement '..UptoSaid' is the law's where the arguments, and the package variables that the reading takes, are together of bulk at most 1048576: NARROWER than '..Said'. Prove '..Said' where nothing that the law and all that it calls make is longer than what came in: it says more and counts as full. Else prove '..UptoSaid'. A law counts once. -/
mutual
def uptoBulk {H : Type} : DataW H → Nat
  | .lit (.string bytes) => bytes.length + 1
  | .lit _ => 1
  | .nil => 1
  | .ptr d => uptoBulk d + 1
  | .slice elems spare => uptoBulkAll elems + uptoBulkAll spare + 1
  | .agg parts => uptoBulkAll parts + 1
  | .iface _ d => uptoBulk d + 1
  | .map entries => uptoBulkEntries entries + 1
  | .held _ => 1
def uptoBulkAll {H : Type} : List (DataW H) → Nat
  | [] => 0
  | d :: r => uptoBulk d + uptoBulkAll r
def uptoBulkEntries {H : Type} : List (Lit × DataW H) → Nat
  | [] => 0
  | x :: r => uptoBulkEntry x + uptoBulkEntries r
def uptoBulkEntry {H : Type} : Lit × DataW H → Nat
  | (.string bytes, d) => bytes.length + uptoBulk d + 1
  | (_, d) => uptoBulk d + 1
 end
def uptoSmall : (H : Type) → List (DataW H) → Bool := fun _ ds => decide (uptoBulkAll ds ≤ 1048576)
def OpenSpec.upto (s : _root_.Go.ChangeSpec) : _root_.Go.OpenSpec := { _root_.Go.OpenSpec.ofChange s with cond := some uptoSmall }

/-- 'paternosterlaw24.ListsInsert', WHERE WHAT IT READS IS OF BULK AT MOST 1048576: true; the input reads as it did. -/
def listsInsertUptoRow : OpenClaim := { program := "ythbahjhkhkiddaagreat", sum := "520c004e74e2f2f0f536f22a16b4520d7d45167d9399d2c885989aa9b6debb2a", func := "paternoster/paternosterlaw24.ListsInsert", spec := "listsInsert", unfollowed := true, recurses := true, apart := false, narrowed := true }
def ListsInsertUptoSaid : Prop := listsInsertUptoRow.holds Tryz.pinned (OpenSpec.upto listsInsertSpec)

/-- 'paternosterlaw24.ListsMove', WHERE WHAT IT READS IS OF BULK AT MOST 1048576: true; the input reads as it did. -/
def listsMoveUptoRow : OpenClaim := { program := "ythbahjhkhkiddaagreat", sum := "520c004e74e2f2f0f536f22a16b4520d7d45167d9399d2c885989aa9b6debb2a", func := "paternoster/paternosterlaw24.ListsMove", spec := "listsMove", unfollowed := true, recurses := true, apart := false, narrowed := true }
def ListsMoveUptoSaid : Prop := listsMoveUptoRow.holds Tryz.pinned (OpenSpec.upto listsMoveSpec)

/-- 'paternosterlaw24.ListsChange', WHERE WHAT IT READS IS OF BULK AT MOST 1048576: true; the input reads as it did. -/
def listsChangeUptoRow : OpenClaim := { program := "ythbahjhkhkiddaagreat", sum := "520c004e74e2f2f0f536f22a16b4520d7d45167d9399d2c885989aa9b6debb2a", func := "paternoster/paternosterlaw24.ListsChange", spec := "listsChange", unfollowed := true, recurses := true, apart := false, narrowed := true }
def ListsChangeUptoSaid : Prop := listsChangeUptoRow.holds Tryz.pinned (OpenSpec.upto listsChangeSpec)

/-- 'paternosterlaw24.ListsBack', WHERE WHAT IT READS IS OF BULK AT MOST 1048576: true; the input reads as it did. -/
def listsBackUptoRow : OpenClaim := { program := "ythbahjhkhkiddaagreat", sum := "520c004e74e2f2f0f536f22a16b4520d7d45167d9399d2c885989aa9b6debb2a", func := "paternoster/paternosterlaw24.ListsBack", spec := "listsBack", unfollowed := true, recurses := true, apart := false, narrowed := true }
def ListsBackUptoSaid : Prop := listsBackUptoRow.holds Tryz.pinned (OpenSpec.upto listsBackSpec)

/-- 'paternosterlaw24.ListsCheck', WHERE WHAT IT READS IS OF BULK AT MOST 1048576: true; the input reads as it did. -/
def listsCheckUptoRow : OpenClaim := { program := "ythbahjhkhkiddaagreat", sum := "520c004e74e2f2f0f536f22a16b4520d7d45167d9399d2c885989aa9b6debb2a", func := "paternoster/paternosterlaw24.ListsCheck", spec := "listsCheck", unfollowed := true, recurses := true, loops := true, apart := false, narrowed := true }
def ListsCheckUptoSaid : Prop := listsCheckUptoRow.holds Tryz.pinned (OpenSpec.upto listsCheckSpec)

/-- 'paternosterlaw24.ListsKnown', WHERE WHAT IT READS IS OF BULK AT MOST 1048576: true; the input reads as it did. -/
def listsKnownUptoRow : OpenClaim := { program := "ythbahjhkhkiddaagreat", sum := "520c004e74e2f2f0f536f22a16b4520d7d45167d9399d2c885989aa9b6debb2a", func := "paternoster/paternosterlaw24.ListsKnown", spec := "listsKnown", unfollowed := true, recurses := true, apart := false, narrowed := true }
def ListsKnownUptoSaid : Prop := listsKnownUptoRow.holds Tryz.pinned (OpenSpec.upto listsKnownSpec)

end Rows
end Go.Proofs.YthbahjhkhkiddaaGreat
