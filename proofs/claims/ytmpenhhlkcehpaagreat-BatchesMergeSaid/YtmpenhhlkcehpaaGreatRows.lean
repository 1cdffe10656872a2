/-
  No cell of these rows narrows 'for every input' (looked for: loops, veiled, ifaces, maps, wideKeys, modest, calm, conditions, laid).
  DERIVED. THE GIVEN ROWS OF THIS SEAT. 12 by the template 'for every input the law returns true; each argument reads behind the call as it read before'; 0 by the template 'total and deterministic' (their statements: YtmpenhhlkcehpaaGreatTotals.lean).
  GIVEN WITH THE SEED: the statements are not yours to turn. If you find one false, say at which input.
  Laid BY PROGRAM, IN A SANDBOX (cutbox-rows.mjs): the forced cells as the released guide's own fill.sh prints them over the translation 7d26cea59b761f4f… (all of the seat's roots in one cut). By AI agents, Wed Nov 11 2026. No macro, syntax, notation, axiom, sorry.
-/
import Derived.Test.YtmpenhhlkcehpaaGreatChecked
import GoSem.Claim
import GoSem.ClaimJoined
import GoSem.ClaimMapViews
import Derived.JoinedTies
import Derived.KernelRfl
namespace Go.Proofs.YtmpenhhlkcehpaaGreat
/- THE CELL 'sum', in the pinned program and in every row, IS THE sha256 OF THE DUMP (.gsa) THAT YtmpenhhlkcehpaaGreatProg.lean LOADS. Nothing in Lean hashes anything: it is a label: what it is worth is what the hold of that sum in a sandbox is worth. -/
noncomputable def Tryz.pinned : Pinned := { name := "ytmpenhhlkcehpaagreat", sum := "7d26cea59b761f4f0e82c59f8d9205b6b4d36133339bf8b614c297190b876d27", checked := Tryz.checked }
namespace Rows
def none {H : Type} : Left H := { results := [], args := [] }

/-- 'paternosterlaw28.AnchorsKept': WHATEVER THE INPUT: true; the input reads as it did. -/
def anchorsKeptSpec : ChangeSpec := { name := "anchorsKept", fn := fun _ => fun
  | [d1, d2, d3] => { results := [.lit (.bool true)], args := [d1, d2, d3] }
  | _ => none }
def anchorsKeptRow : OpenClaim := { program := "ytmpenhhlkcehpaagreat", sum := "7d26cea59b761f4f0e82c59f8d9205b6b4d36133339bf8b614c297190b876d27", func := "paternoster/paternosterlaw28.AnchorsKept", spec := "anchorsKept", unfollowed := true, recurses := true, apart := false }
def AnchorsKeptSaid : Prop := anchorsKeptRow.holds Tryz.pinned (OpenSpec.ofChange anchorsKeptSpec)

/-- ITS FALSE NEIGHBOUR: 'it returns false'. Refute it at one input. -/
def anchorsKeptWrong : ChangeSpec := { name := "anchorsKept", fn := fun _ => fun
  | [d1, d2, d3] => { results := [.lit (.bool false)], args := [d1, d2, d3] }
  | _ => none }
def AnchorsKeptWrongFalsely : Prop := anchorsKeptRow.holds Tryz.pinned (OpenSpec.ofChange anchorsKeptWrong)

/-- 'paternosterlaw28.AnchorsKnown': WHATEVER THE INPUT: true; the input reads as it did. -/
def anchorsKnownSpec : ChangeSpec := { name := "anchorsKnown", fn := fun _ => fun
  | [] => { results := [.lit (.bool true)], args := [] }
  | _ => none }
def anchorsKnownRow : OpenClaim := { program := "ytmpenhhlkcehpaagreat", sum := "7d26cea59b761f4f0e82c59f8d9205b6b4d36133339bf8b614c297190b876d27", func := "paternoster/paternosterlaw28.AnchorsKnown", spec := "anchorsKnown", unfollowed := true, recurses := true, apart := false }
def AnchorsKnownSaid : Prop := anchorsKnownRow.holds Tryz.pinned (OpenSpec.ofChange anchorsKnownSpec)

/-- ITS FALSE NEIGHBOUR: 'it returns false'. Refute it at one input. -/
def anchorsKnownWrong : ChangeSpec := { name := "anchorsKnown", fn := fun _ => fun
  | [] => { results := [.lit (.bool false)], args := [] }
  | _ => none }
def AnchorsKnownWrongFalsely : Prop := anchorsKnownRow.holds Tryz.pinned (OpenSpec.ofChange anchorsKnownWrong)

/-- 'paternosterlaw26.BatchesMerge': WHATEVER THE INPUT: true; the input reads as it did. -/
def batchesMergeSpec : ChangeSpec := { name := "batchesMerge", fn := fun _ => fun
  | [d1, d2] => { results := [.lit (.bool true)], args := [d1, d2] }
  | _ => none }
def batchesMergeRow : OpenClaim := { program := "ytmpenhhlkcehpaagreat", sum := "7d26cea59b761f4f0e82c59f8d9205b6b4d36133339bf8b614c297190b876d27", func := "paternoster/paternosterlaw26.BatchesMerge", spec := "batchesMerge", unfollowed := true, recurses := true, apart := false }
def BatchesMergeSaid : Prop := batchesMergeRow.holds Tryz.pinned (OpenSpec.ofChange batchesMergeSpec)

/-- ITS FALSE NEIGHBOUR: 'it returns false'. Refute it at one input. -/
def batchesMergeWrong : ChangeSpec := { name := "batchesMerge", fn := fun _ => fun
  | [d1, d2] => { results := [.lit (.bool false)], args := [d1, d2] }
  | _ => none }
def BatchesMergeWrongFalsely : Prop := batchesMergeRow.holds Tryz.pinned (OpenSpec.ofChange batchesMergeWrong)

/-- 'paternosterlaw31.SettlesMeasure': WHATEVER THE INPUT: true; the input reads as it did. -/
def settlesMeasureSpec : ChangeSpec := { name := "settlesMeasure", fn := fun _ => fun
  | [d1, d2, d3] => { results := [.lit (.bool true)], args := [d1, d2, d3] }
  | _ => none }
def settlesMeasureRow : OpenClaim := { program := "ytmpenhhlkcehpaagreat", sum := "7d26cea59b761f4f0e82c59f8d9205b6b4d36133339bf8b614c297190b876d27", func := "paternoster/paternosterlaw31.SettlesMeasure", spec := "settlesMeasure", unfollowed := true, recurses := true, apart := false }
def SettlesMeasureSaid : Prop := settlesMeasureRow.holds Tryz.pinned (OpenSpec.ofChange settlesMeasureSpec)

/-- ITS FALSE NEIGHBOUR: 'it returns false'. Refute it at one input. -/
def settlesMeasureWrong : ChangeSpec := { name := "settlesMeasure", fn := fun _ => fun
  | [d1, d2, d3] => { results := [.lit (.bool false)], args := [d1, d2, d3] }
  | _ => none }
def SettlesMeasureWrongFalsely : Prop := settlesMeasureRow.holds Tryz.pinned (OpenSpec.ofChange settlesMeasureWrong)

/-- 'paternosterlaw31.SettlesCheck': WHATEVER THE INPUT: true; the input reads as it did. -/
def settlesCheckSpec : ChangeSpec := { name := "settlesCheck", fn := fun _ => fun
  | [d1, d2, d3] => { results := [.lit (.bool true)], args := [d1, d2, d3] }
  | _ => none }
def settlesCheckRow : OpenClaim := { program := "ytmpenhhlkcehpaagreat", sum := "7d26cea59b761f4f0e82c59f8d9205b6b4d36133339bf8b614c297190b876d27", func := "paternoster/paternosterlaw31.SettlesCheck", spec := "settlesCheck", unfollowed := true, recurses := true, apart := false }
def SettlesCheckSaid : Prop := settlesCheckRow.holds Tryz.pinned (OpenSpec.ofChange settlesCheckSpec)

/-- ITS FALSE NEIGHBOUR: 'it returns false'. Refute it at one input. -/
def settlesCheckWrong : ChangeSpec := { name := "settlesCheck", fn := fun _ => fun
  | [d1, d2, d3] => { results := [.lit (.bool false)], args := [d1, d2, d3] }
  | _ => none }
def SettlesCheckWrongFalsely : Prop := settlesCheckRow.holds Tryz.pinned (OpenSpec.ofChange settlesCheckWrong)

/-- 'paternosterlaw26.BatchesOf': WHATEVER THE INPUT: true; the input reads as it did. -/
def batchesOfSpec : ChangeSpec := { name := "batchesOf", fn := fun _ => fun
  | [d1, d2] => { results := [.lit (.bool true)], args := [d1, d2] }
  | _ => none }
def batchesOfRow : OpenClaim := { program := "ytmpenhhlkcehpaagreat", sum := "7d26cea59b761f4f0e82c59f8d9205b6b4d36133339bf8b614c297190b876d27", func := "paternoster/paternosterlaw26.BatchesOf", spec := "batchesOf", unfollowed := true, recurses := true, apart := false }
def BatchesOfSaid : Prop := batchesOfRow.holds Tryz.pinned (OpenSpec.ofChange batchesOfSpec)

/-- ITS FALSE NEIGHBOUR: 'it returns false'. Refute it at one input. -/
def batchesOfWrong : ChangeSpec := { name := "batchesOf", fn := fun _ => fun
  | [d1, d2] => { results := [.lit (.bool false)], args := [d1, d2] }
  | _ => none }
def BatchesOfWrongFalsely : Prop := batchesOfRow.holds Tryz.pinned (OpenSpec.ofChange batchesOfWrong)

/-- 'paternosterlaw26.BatchesErrors': WHATEVER THE INPUT: true; the input reads as it did. -/
def batchesErrorsSpec : ChangeSpec := { name := "batchesErrors", fn := fun _ => fun
  | [d1, d2, d3] => { results := [.lit (.bool true)], args := [d1, d2, d3] }
  | _ => none }
def batchesErrorsRow : OpenClaim := { program := "ytmpenhhlkcehpaagreat", sum := "7d26cea59b761f4f0e82c59f8d9205b6b4d36133339bf8b614c297190b876d27", func := "paternoster/paternosterlaw26.BatchesErrors", spec := "batchesErrors", unfollowed := true, recurses := true, apart := false }
def BatchesErrorsSaid : Prop := batchesErrorsRow.holds Tryz.pinned (OpenSpec.ofChange batchesErrorsSpec)

/-- ITS FALSE NEIGHBOUR: 'it returns false'. Refute it at one input. -/
def batchesErrorsWrong : ChangeSpec := { name := "batchesErrors", fn := fun _ => fun
  | [d1, d2, d3] => { results := [.lit (.bool false)], args := [d1, d2, d3] }
  | _ => none }
def BatchesErrorsWrongFalsely : Prop := batchesErrorsRow.holds Tryz.pinned (OpenSpec.ofChange batchesErrorsWrong)

/-- 'paternosterlaw31.SettlesPlay': WHATEVER THE INPUT: true; the input reads as it did. -/
def settlesPlaySpec : ChangeSpec := { name := "settlesPlay", fn := fun _ => fun
  | [d1, d2, d3] => { results := [.lit (.bool true)], args := [d1, d2, d3] }
  | _ => none }
def settlesPlayRow : OpenClaim := { program := "ytmpenhhlkcehpaagreat", sum := "7d26cea59b761f4f0e82c59f8d9205b6b4d36133339bf8b614c297190b876d27", func := "paternoster/paternosterlaw31.SettlesPlay", spec := "settlesPlay", unfollowed := true, recurses := true, apart := false }
def SettlesPlaySaid : Prop := settlesPlayRow.holds Tryz.pinned (OpenSpec.ofChange settlesPlaySpec)

/-- ITS FALSE NEIGHBOUR: 'it returns false'. Refute it at one input. -/
def settlesPlayWrong : ChangeSpec := { name := "settlesPlay", fn := fun _ => fun
  | [d1, d2, d3] => { results := [.lit (.bool false)], args := [d1, d2, d3] }
  | _ => none }
def SettlesPlayWrongFalsely : Prop := settlesPlayRow.holds Tryz.pinned (OpenSpec.ofChange settlesPlayWrong)

/-- 'paternosterlaw31.SettlesKnown': WHATEVER THE INPUT: true; the input reads as it did. -/
def settlesKnownSpec : ChangeSpec := { name := "settlesKnown", fn := fun _ => fun
  | [] => { results := [.lit (.bool true)], args := [] }
  | _ => none }
def settlesKnownRow : OpenClaim := { program := "ytmpenhhlkcehpaagreat", sum := "7d26cea59b761f4f0e82c59f8d9205b6b4d36133339bf8b614c297190b876d27", func := "paternoster/paternosterlaw31.SettlesKnown", spec := "settlesKnown", unfollowed := true, recurses := true, apart := false }
def SettlesKnownSaid : Prop := settlesKnownRow.holds Tryz.pinned (OpenSpec.ofChange settlesKnownSpec)

/-- ITS FALSE NEIGHBOUR: 'it returns false'. Refute it at one input. -/
def settlesKnownWrong : ChangeSpec := { name := "settlesKnown", fn := fun _ => fun
  | [] => { results := [.lit (.bool false)], args := [] }
  | _ => none }
def SettlesKnownWrongFalsely : Prop := settlesKnownRow.holds Tryz.pinned (OpenSpec.ofChange settlesKnownWrong)

/-- 'paternosterlaw26.BatchesThen': WHATEVER THE INPUT: true; the input reads as it did. -/
def batchesThenSpec : ChangeSpec := { name := "batchesThen", fn := fun _ => fun
  | [d1, d2, d3] => { results := [.lit (.bool true)], args := [d1, d2, d3] }
  | _ => none }
def batchesThenRow : OpenClaim := { program := "ytmpenhhlkcehpaagreat", sum := "7d26cea59b761f4f0e82c59f8d9205b6b4d36133339bf8b614c297190b876d27", func := "paternoster/paternosterlaw26.BatchesThen", spec := "batchesThen", unfollowed := true, recurses := true, apart := false }
def BatchesThenSaid : Prop := batchesThenRow.holds Tryz.pinned (OpenSpec.ofChange batchesThenSpec)

/-- ITS FALSE NEIGHBOUR: 'it returns false'. Refute it at one input. -/
def batchesThenWrong : ChangeSpec := { name := "batchesThen", fn := fun _ => fun
  | [d1, d2, d3] => { results := [.lit (.bool false)], args := [d1, d2, d3] }
  | _ => none }
def BatchesThenWrongFalsely : Prop := batchesThenRow.holds Tryz.pinned (OpenSpec.ofChange batchesThenWrong)

/-- 'paternosterlaw26.BatchesKnown': WHATEVER THE INPUT: true; the input reads as it did. -/
def batchesKnownSpec : ChangeSpec := { name := "batchesKnown", fn := fun _ => fun
  | [] => { results := [.lit (.bool true)], args := [] }
  | _ => none }
def batchesKnownRow : OpenClaim := { program := "ytmpenhhlkcehpaagreat", sum := "7d26cea59b761f4f0e82c59f8d9205b6b4d36133339bf8b614c297190b876d27", func := "paternoster/paternosterlaw26.BatchesKnown", spec := "batchesKnown", unfollowed := true, recurses := true, apart := false }
def BatchesKnownSaid : Prop := batchesKnownRow.holds Tryz.pinned (OpenSpec.ofChange batchesKnownSpec)

/-- ITS FALSE NEIGHBOUR: 'it returns false'. Refute it at one input. -/
def batchesKnownWrong : ChangeSpec := { name := "batchesKnown", fn := fun _ => fun
  | [] => { results := [.lit (.bool false)], args := [] }
  | _ => none }
def BatchesKnownWrongFalsely : Prop := batchesKnownRow.holds Tryz.pinned (OpenSpec.ofChange batchesKnownWrong)

/-- 'paternosterlaw26.BatchesNets': WHATEVER THE INPUT: true; the input reads as it did. -/
def batchesNetsSpec : ChangeSpec := { name := "batchesNets", fn := fun _ => fun
  | [d1, d2, d3] => { results := [.lit (.bool true)], args := [d1, d2, d3] }
  | _ => none }
def batchesNetsRow : OpenClaim := { program := "ytmpenhhlkcehpaagreat", sum := "7d26cea59b761f4f0e82c59f8d9205b6b4d36133339bf8b614c297190b876d27", func := "paternoster/paternosterlaw26.BatchesNets", spec := "batchesNets", unfollowed := true, recurses := true, apart := false }
def BatchesNetsSaid : Prop := batchesNetsRow.holds Tryz.pinned (OpenSpec.ofChange batchesNetsSpec)

/-- ITS FALSE NEIGHBOUR: 'it returns false'. Refute it at one input. -/
def batchesNetsWrong : ChangeSpec := { name := "batchesNets", fn := fun _ => fun
  | [d1, d2, d3] => { results := [.lit (.bool false)], args := [d1, d2, d3] }
  | _ => none }
def BatchesNetsWrongFalsely : Prop := batchesNetsRow.holds Tryz.pinned (OpenSpec.ofChange batchesNetsWrong)

/- THE SECOND FORM. 'bulk': how many values and letters a reading holds, each counted each time it is reached (what is shared counts as often as it is met; a slice's spare places count too). A statement '..UptoSaid' is the law's where the arguments, and the package variables that the reading takes, are together of bulk at most 1048576: NARROWER than '..Said'. Prove '..Said' where nothing that the law and all that it calls make is longer than what came in: it says more and counts as full. Else prove '..UptoSaid'. A law counts once. -/
mutual
def uptoBulk {H : Type} : DataW H → Nat
  | .lit (.string bytes) => bytes.length + 1
  | .lit _ => 1
  | .nil => 1
  | .ptr d => uptoBulk d + 1
  | .slice elems spare => uptoBulkAll elems + uptoBulkAll spare + 1
  | .agg parts => uptoBulkAll parts + 1
  | .iface _ d => uptoBulk d + 1
  | .map entries => uptoBulkEntries entries + 1
  | .held _ => 1
def uptoBulkAll {H : Type} : List (DataW H) → Nat
  | [] => 0
  | d :: r => uptoBulk d + uptoBulkAll r
def uptoBulkEntries {H : Type} : List (Lit × DataW H) → Nat
  | [] => 0
  | x :: r => uptoBulkEntry x + uptoBulkEntries r
def uptoBulkEntry {H : Type} : Lit × DataW H → Nat
  | (.string bytes, d) => bytes.length + uptoBulk d + 1
  | (_, d) => uptoBulk d + 1
 end
def uptoSmall : (H : Type) → List (DataW H) → Bool := fun _ ds => decide (uptoBulkAll ds ≤ 1048576)
def OpenSpec.upto (s : _root_.Go.ChangeSpec) : _root_.Go.OpenSpec := { _root_.Go.OpenSpec.ofChange s with cond := some uptoSmall }

/-- 'paternosterlaw28.AnchorsKept', WHERE WHAT IT READS IS OF BULK AT MOST 1048576: true; the input reads as it did. -/
def anchorsKeptUptoRow : OpenClaim := { program := "ytmpenhhlkcehpaagreat", sum := "7d26cea59b761f4f0e82c59f8d9205b6b4d36133339bf8b614c297190b876d27", func := "paternoster/paternosterlaw28.AnchorsKept", spec := "anchorsKept", unfollowed := true, recurses := true, apart := false, narrowed := true }
def AnchorsKeptUptoSaid : Prop := anchorsKeptUptoRow.holds Tryz.pinned (OpenSpec.upto anchorsKeptSpec)

/-- 'paternosterlaw28.AnchorsKnown', WHERE WHAT IT READS IS OF BULK AT MOST 1048576: true; the input reads as it did. -/
def anchorsKnownUptoRow : OpenClaim := { program := "ytmpenhhlkcehpaagreat", sum := "7d26cea59b761f4f0e82c59f8d9205b6b4d36133339bf8b614c297190b876d27", func := "paternoster/paternosterlaw28.AnchorsKnown", spec := "anchorsKnown", unfollowed := true, recurses := true, apart := false, narrowed := true }
def AnchorsKnownUptoSaid : Prop := anchorsKnownUptoRow.holds Tryz.pinned (OpenSpec.upto anchorsKnownSpec)

/-- 'paternosterlaw26.BatchesMerge', WHERE WHAT IT READS IS OF BULK AT MOST 1048576: true; the input reads as it did. -/
def batchesMergeUptoRow : OpenClaim := { program := "ytmpenhhlkcehpaagreat", sum := "7d26cea59b761f4f0e82c59f8d9205b6b4d36133339bf8b614c297190b876d27", func := "paternoster/paternosterlaw26.BatchesMerge", spec := "batchesMerge", unfollowed := true, recurses := true, apart := false, narrowed := true }
def BatchesMergeUptoSaid : Prop := batchesMergeUptoRow.holds Tryz.pinned (OpenSpec.upto batchesMergeSpec)

/-- 'paternosterlaw31.SettlesMeasure', WHERE WHAT IT READS IS OF BULK AT MOST 1048576: true; the input reads as it did. -/
def settlesMeasureUptoRow : OpenClaim := { program := "ytmpenhhlkcehpaagreat", sum := "7d26cea59b761f4f0e82c59f8d9205b6b4d36133339bf8b614c297190b876d27", func := "paternoster/paternosterlaw31.SettlesMeasure", spec := "settlesMeasure", unfollowed := true, recurses := true, apart := false, narrowed := true }
def SettlesMeasureUptoSaid : Prop := settlesMeasureUptoRow.holds Tryz.pinned (OpenSpec.upto settlesMeasureSpec)

/-- 'paternosterlaw31.SettlesCheck', WHERE WHAT IT READS IS OF BULK AT MOST 1048576: true; the input reads as it did. -/
def settlesCheckUptoRow : OpenClaim := { program := "ytmpenhhlkcehpaagreat", sum := "7d26cea59b761f4f0e82c59f8d9205b6b4d36133339bf8b614c297190b876d27", func := "paternoster/paternosterlaw31.SettlesCheck", spec := "settlesCheck", unfollowed := true, recurses := true, apart := false, narrowed := true }
def SettlesCheckUptoSaid : Prop := settlesCheckUptoRow.holds Tryz.pinned (OpenSpec.upto settlesCheckSpec)

/-- 'paternosterlaw26.BatchesOf', WHERE WHAT IT READS IS OF BULK AT MOST 1048576: true; the input reads as it did. -/
def batchesOfUptoRow : OpenClaim := { program := "ytmpenhhlkcehpaagreat", sum := "7d26cea59b761f4f0e82c59f8d9205b6b4d36133339bf8b614c297190b876d27", func := "paternoster/paternosterlaw26.BatchesOf", spec := "batchesOf", unfollowed := true, recurses := true, apart := false, narrowed := true }
def BatchesOfUptoSaid : Prop := batchesOfUptoRow.holds Tryz.pinned (OpenSpec.upto batchesOfSpec)

/-- 'paternosterlaw26.BatchesErrors', WHERE WHAT IT READS IS OF BULK AT MOST 1048576: true; the input reads as it did. -/
def batchesErrorsUptoRow : OpenClaim := { program := "ytmpenhhlkcehpaagreat", sum := "7d26cea59b761f4f0e82c59f8d9205b6b4d36133339bf8b614c297190b876d27", func := "paternoster/paternosterlaw26.BatchesErrors", spec := "batchesErrors", unfollowed := true, recurses := true, apart := false, narrowed := true }
def BatchesErrorsUptoSaid : Prop := batchesErrorsUptoRow.holds Tryz.pinned (OpenSpec.upto batchesErrorsSpec)

/-- 'paternosterlaw31.SettlesPlay', WHERE WHAT IT READS IS OF BULK AT MOST 1048576: true; the input reads as it did. -/
def settlesPlayUptoRow : OpenClaim := { program := "ytmpenhhlkcehpaagreat", sum := "7d26cea59b761f4f0e82c59f8d9205b6b4d36133339bf8b614c297190b876d27", func := "paternoster/paternosterlaw31.SettlesPlay", spec := "settlesPlay", unfollowed := true, recurses := true, apart := false, narrowed := true }
def SettlesPlayUptoSaid : Prop := settlesPlayUptoRow.holds Tryz.pinned (OpenSpec.upto settlesPlaySpec)

/-- 'paternosterlaw31.SettlesKnown', WHERE WHAT IT READS IS OF BULK AT MOST 1048576: true; the input reads as it did. -/
def settlesKnownUptoRow : OpenClaim := { program := "ytmpenhhlkcehpaagreat", sum := "7d26cea59b761f4f0e82c59f8d9205b6b4d36133339bf8b614c297190b876d27", func := "paternoster/paternosterlaw31.SettlesKnown", spec := "settlesKnown", unfollowed := true, recurses := true, apart := false, narrowed := true }
def SettlesKnownUptoSaid : Prop := settlesKnownUptoRow.holds Tryz.pinned (OpenSpec.upto settlesKnownSpec)

/-- 'paternosterlaw26.BatchesThen', WHERE WHAT IT READS IS OF BULK AT MOST 1048576: true; the input reads as it did. -/
def batchesThenUptoRow : OpenClaim := { program := "ytmpenhhlkcehpaagreat", sum := "7d26cea59b761f4f0e82c59f8d9205b6b4d36133339bf8b614c297190b876d27", func := "paternoster/paternosterlaw26.BatchesThen", spec := "batchesThen", unfollowed := true, recurses := true, apart := false, narrowed := true }
def BatchesThenUptoSaid : Prop := batchesThenUptoRow.holds Tryz.pinned (OpenSpec.upto batchesThenSpec)

/-- 'paternosterlaw26.BatchesKnown', WHERE WHAT IT READS IS OF BULK AT MOST 1048576: true; the input reads as it did. -/
def batchesKnownUptoRow : OpenClaim := { program := "ytmpenhhlkcehpaagreat", sum := "7d26cea59b761f4f0e82c59f8d9205b6b4d36133339bf8b614c297190b876d27", func := "paternoster/paternosterlaw26.BatchesKnown", spec := "batchesKnown", unfollowed := true, recurses := true, apart := false, narrowed := true }
def BatchesKnownUptoSaid : Prop := batchesKnownUptoRow.holds Tryz.pinned (OpenSpec.upto batchesKnownSpec)

/-- 'paternosterlaw26.BatchesNets', WHERE WHAT IT READS IS OF BULK AT MOST 1048576: true; the input reads as it did. -/
def batchesNetsUptoRow : OpenClaim := { program := "ytmpenhhlkcehpaagreat", sum := "7d26cea59b761f4f0e82c59f8d9205b6b4d36133339bf8b614c297190b876d27", func := "paternoster/paternosterlaw26.BatchesNets", spec := "batchesNets", unfollowed := true, recurses := true, apart := false, narrowed := true }
def BatchesNetsUptoSaid : Prop := batchesNetsUptoRow.holds Tryz.pinned (OpenSpec.upto batchesNetsSpec)

end Rows
end Go.Proofs.YtmpenhhlkcehpaaGreat
