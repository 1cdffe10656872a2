/-
  No cell of these rows narrows 'for every input' (looked for: loops, veiled, ifaces, maps, wideKeys, modest, calm, conditions, laid).
  DERIVED. THE GIVEN ROWS OF THIS SEAT. 6 by the template 'for every input the law returns true; each argument reads behind the call as it read before'; 0 by the template 'total and deterministic' (their statements: YthlmjbfkkkdkoaaGreatTotals.lean).
  GIVEN WITH THE SEED: the statements are not yours to turn. If you find one false, say at which input.
  Laid BY PROGRAM, IN A SANDBOX (cutbox-rows.mjs): the forced cells as the released guide's own fill.sh prints them over the translation c860faa352df1c8d… (all of the seat's roots in one cut). By AI agents, Wed Nov 11 2026. No macro, syntax, notation, axiom, sorry.
-/
import Derived.Test.YthlmjbfkkkdkoaaGreatChecked
import GoSem.Claim
import GoSem.ClaimJoined
import GoSem.ClaimMapViews
import Derived.JoinedTies
import Derived.KernelRfl
namespace Go.Proofs.YthlmjbfkkkdkoaaGreat
/- THE CELL 'sum', in the pinned program and in every row, IS THE sha256 OF THE DUMP (.gsa) THAT YthlmjbfkkkdkoaaGreatProg.lean LOADS. Nothing in Lean hashes anything: it is a label: what it is worth is what the hold of that sum in a sandbox is worth. -/
noncomputable def Tryz.pinned : Pinned := { name := "ythlmjbfkkkdkoaagreat", sum := "c860faa352df1c8d9d1f8e868b94007ae2fd908a45a7313d4c048e37a3c723bd", checked := Tryz.checked }
namespace Rows
def none {H : Type} : Left H := { results := [], args := [] }

/-- 'paternosterlaw27.RendersErrors': WHATEVER THE INPUT: true; the input reads as it did. -/
def rendersErrorsSpec : ChangeSpec := { name := "rendersErrors", fn := fun _ => fun
  | [d1, d2, d3] => { results := [.lit (.bool true)], args := [d1, d2, d3] }
  | _ => none }
def rendersErrorsRow : OpenClaim := { program := "ythlmjbfkkkdkoaagreat", sum := "c860faa352df1c8d9d1f8e868b94007ae2fd908a45a7313d4c048e37a3c723bd", func := "paternoster/paternosterlaw27.RendersErrors", spec := "rendersErrors", unfollowed := true, recurses := true, apart := false }
def RendersErrorsSaid : Prop := rendersErrorsRow.holds Tryz.pinned (OpenSpec.ofChange rendersErrorsSpec)

/-- ITS FALSE NEIGHBOUR: 'it returns false'. Refute it at one input. -/
def rendersErrorsWrong : ChangeSpec := { name := "rendersErrors", fn := fun _ => fun
  | [d1, d2, d3] => { results := [.lit (.bool false)], args := [d1, d2, d3] }
  | _ => none }
def RendersErrorsWrongFalsely : Prop := rendersErrorsRow.holds Tryz.pinned (OpenSpec.ofChange rendersErrorsWrong)

/-- 'paternosterlaw27.RendersSlice': WHATEVER THE INPUT: true; the input reads as it did. -/
def rendersSliceSpec : ChangeSpec := { name := "rendersSlice", fn := fun _ => fun
  | [d1, d2] => { results := [.lit (.bool true)], args := [d1, d2] }
  | _ => none }
def rendersSliceRow : OpenClaim := { program := "ythlmjbfkkkdkoaagreat", sum := "c860faa352df1c8d9d1f8e868b94007ae2fd908a45a7313d4c048e37a3c723bd", func := "paternoster/paternosterlaw27.RendersSlice", spec := "rendersSlice", unfollowed := true, recurses := true, apart := false }
def RendersSliceSaid : Prop := rendersSliceRow.holds Tryz.pinned (OpenSpec.ofChange rendersSliceSpec)

/-- ITS FALSE NEIGHBOUR: 'it returns false'. Refute it at one input. -/
def rendersSliceWrong : ChangeSpec := { name := "rendersSlice", fn := fun _ => fun
  | [d1, d2] => { results := [.lit (.bool false)], args := [d1, d2] }
  | _ => none }
def RendersSliceWrongFalsely : Prop := rendersSliceRow.holds Tryz.pinned (OpenSpec.ofChange rendersSliceWrong)

/-- 'paternosterlaw27.RendersKnown': WHATEVER THE INPUT: true; the input reads as it did. -/
def rendersKnownSpec : ChangeSpec := { name := "rendersKnown", fn := fun _ => fun
  | [] => { results := [.lit (.bool true)], args := [] }
  | _ => none }
def rendersKnownRow : OpenClaim := { program := "ythlmjbfkkkdkoaagreat", sum := "c860faa352df1c8d9d1f8e868b94007ae2fd908a45a7313d4c048e37a3c723bd", func := "paternoster/paternosterlaw27.RendersKnown", spec := "rendersKnown", unfollowed := true, recurses := true, apart := false }
def RendersKnownSaid : Prop := rendersKnownRow.holds Tryz.pinned (OpenSpec.ofChange rendersKnownSpec)

/-- ITS FALSE NEIGHBOUR: 'it returns false'. Refute it at one input. -/
def rendersKnownWrong : ChangeSpec := { name := "rendersKnown", fn := fun _ => fun
  | [] => { results := [.lit (.bool false)], args := [] }
  | _ => none }
def RendersKnownWrongFalsely : Prop := rendersKnownRow.holds Tryz.pinned (OpenSpec.ofChange rendersKnownWrong)

/-- 'paternosterlaw29.WindowsBound': WHATEVER THE INPUT: true; the input reads as it did. -/
def windowsBoundSpec : ChangeSpec := { name := "windowsBound", fn := fun _ => fun
  | [d1, d2, d3] => { results := [.lit (.bool true)], args := [d1, d2, d3] }
  | _ => none }
def windowsBoundRow : OpenClaim := { program := "ythlmjbfkkkdkoaagreat", sum := "c860faa352df1c8d9d1f8e868b94007ae2fd908a45a7313d4c048e37a3c723bd", func := "paternoster/paternosterlaw29.WindowsBound", spec := "windowsBound", unfollowed := true, recurses := true, apart := false }
def WindowsBoundSaid : Prop := windowsBoundRow.holds Tryz.pinned (OpenSpec.ofChange windowsBoundSpec)

/-- ITS FALSE NEIGHBOUR: 'it returns false'. Refute it at one input. -/
def windowsBoundWrong : ChangeSpec := { name := "windowsBound", fn := fun _ => fun
  | [d1, d2, d3] => { results := [.lit (.bool false)], args := [d1, d2, d3] }
  | _ => none }
def WindowsBoundWrongFalsely : Prop := windowsBoundRow.holds Tryz.pinned (OpenSpec.ofChange windowsBoundWrong)

/-- 'paternosterlaw29.WindowsGrow': WHATEVER THE INPUT: true; the input reads as it did. -/
def windowsGrowSpec : ChangeSpec := { name := "windowsGrow", fn := fun _ => fun
  | [d1, d2, d3] => { results := [.lit (.bool true)], args := [d1, d2, d3] }
  | _ => none }
def windowsGrowRow : OpenClaim := { program := "ythlmjbfkkkdkoaagreat", sum := "c860faa352df1c8d9d1f8e868b94007ae2fd908a45a7313d4c048e37a3c723bd", func := "paternoster/paternosterlaw29.WindowsGrow", spec := "windowsGrow", unfollowed := true, recurses := true, apart := false }
def WindowsGrowSaid : Prop := windowsGrowRow.holds Tryz.pinned (OpenSpec.ofChange windowsGrowSpec)

/-- ITS FALSE NEIGHBOUR: 'it returns false'. Refute it at one input. -/
def windowsGrowWrong : ChangeSpec := { name := "windowsGrow", fn := fun _ => fun
  | [d1, d2, d3] => { results := [.lit (.bool false)], args := [d1, d2, d3] }
  | _ => none }
def WindowsGrowWrongFalsely : Prop := windowsGrowRow.holds Tryz.pinned (OpenSpec.ofChange windowsGrowWrong)

/-- 'paternosterlaw29.WindowsOf': WHATEVER THE INPUT: true; the input reads as it did. -/
def windowsOfSpec : ChangeSpec := { name := "windowsOf", fn := fun _ => fun
  | [d1, d2, d3] => { results := [.lit (.bool true)], args := [d1, d2, d3] }
  | _ => none }
def windowsOfRow : OpenClaim := { program := "ythlmjbfkkkdkoaagreat", sum := "c860faa352df1c8d9d1f8e868b94007ae2fd908a45a7313d4c048e37a3c723bd", func := "paternoster/paternosterlaw29.WindowsOf", spec := "windowsOf", unfollowed := true, recurses := true, apart := false }
def WindowsOfSaid : Prop := windowsOfRow.holds Tryz.pinned (OpenSpec.ofChange windowsOfSpec)

/-- ITS FALSE NEIGHBOUR: 'it returns false'. Refute it at one input. -/
def windowsOfWrong : ChangeSpec := { name := "windowsOf", fn := fun _ => fun
  | [d1, d2, d3] => { results := [.lit (.bool false)], args := [d1, d2, d3] }
  | _ => none }
def WindowsOfWrongFalsely : Prop := windowsOfRow.holds Tryz.pinned (OpenSpec.ofChange windowsOfWrong)

/- THE SECOND FORM. 'bulk': how many values and letters a reading holds, each counted each time it is reached (what is shared counts as often as it is met; a slice's spare places count too). A statement '..UptoSaid' is the law's where the arguments, and the package variables that the reading takes, are together of bulk at most 1048576: NARROWER than '..Said'. Prove '..Said' where nothing that the law and all that it calls make is longer than what came in: it says more and counts as full. Else prove '..UptoSaid'. A law counts once. -/
mutual
def uptoBulk {H : Type} : DataW H → Nat
  | .lit (.string bytes) => bytes.length + 1
  | .lit _ => 1
  | .nil => 1
  | .ptr d => uptoBulk d + 1
  | .slice elems spare => uptoBulkAll elems + uptoBulkAll spare + 1
  | .agg parts => uptoBulkAll parts + 1
  | .iface _ d => uptoBulk d + 1
  | .map entries => uptoBulkEntries entries + 1
  | .held _ => 1
def uptoBulkAll {H : Type} : List (DataW H) → Nat
  | [] => 0
  | d :: r => uptoBulk d + uptoBulkAll r
def uptoBulkEntries {H : Type} : List (Lit × DataW H) → Nat
  | [] => 0
  | x :: r => uptoBulkEntry x + uptoBulkEntries r
def uptoBulkEntry {H : Type} : Lit × DataW H → Nat
  | (.string bytes, d) => bytes.length + uptoBulk d + 1
  | (_, d) => uptoBulk d + 1
 end
def uptoSmall : (H : Type) → List (DataW H) → Bool := fun _ ds => decide (uptoBulkAll ds ≤ 1048576)
def OpenSpec.upto (s : _root_.Go.ChangeSpec) : _root_.Go.OpenSpec := { _root_.Go.OpenSpec.ofChange s with cond := some uptoSmall }

/-- 'paternosterlaw27.RendersErrors', WHERE WHAT IT READS IS OF BULK AT MOST 1048576: true; the input reads as it did. -/
def rendersErrorsUptoRow : OpenClaim := { program := "ythlmjbfkkkdkoaagreat", sum := "c860faa352df1c8d9d1f8e868b94007ae2fd908a45a7313d4c048e37a3c723bd", func := "paternoster/paternosterlaw27.RendersErrors", spec := "rendersErrors", unfollowed := true, recurses := true, apart := false, narrowed := true }
def RendersErrorsUptoSaid : Prop := rendersErrorsUptoRow.holds Tryz.pinned (OpenSpec.upto rendersErrorsSpec)

/-- 'paternosterlaw27.RendersSlice', WHERE WHAT IT READS IS OF BULK AT MOST 1048576: true; the input reads as it did. -/
def rendersSliceUptoRow : OpenClaim := { program := "ythlmjbfkkkdkoaagreat", sum := "c860faa352df1c8d9d1f8e868b94007ae2fd908a45a7313d4c048e37a3c723bd", func := "paternoster/paternosterlaw27.RendersSlice", spec := "rendersSlice", unfollowed := true, recurses := true, apart := false, narrowed := true }
def RendersSliceUptoSaid : Prop := rendersSliceUptoRow.holds Tryz.pinned (OpenSpec.upto rendersSliceSpec)

/-- 'paternosterlaw27.RendersKnown', WHERE WHAT IT READS IS OF BULK AT MOST 1048576: true; the input reads as it did. -/
def rendersKnownUptoRow : OpenClaim := { program := "ythlmjbfkkkdkoaagreat", sum := "c860faa352df1c8d9d1f8e868b94007ae2fd908a45a7313d4c048e37a3c723bd", func := "paternoster/paternosterlaw27.RendersKnown", spec := "rendersKnown", unfollowed := true, recurses := true, apart := false, narrowed := true }
def RendersKnownUptoSaid : Prop := rendersKnownUptoRow.holds Tryz.pinned (OpenSpec.upto rendersKnownSpec)

/-- 'paternosterlaw29.WindowsBound', WHERE WHAT IT READS IS OF BULK AT MOST 1048576: true; the input reads as it did. -/
def windowsBoundUptoRow : OpenClaim := { program := "ythlmjbfkkkdkoaagreat", sum := "c860faa352df1c8d9d1f8e868b94007ae2fd908a45a7313d4c048e37a3c723bd", func := "paternoster/paternosterlaw29.WindowsBound", spec := "windowsBound", unfollowed := true, recurses := true, apart := false, narrowed := true }
def WindowsBoundUptoSaid : Prop := windowsBoundUptoRow.holds Tryz.pinned (OpenSpec.upto windowsBoundSpec)

/-- 'paternosterlaw29.WindowsGrow', WHERE WHAT IT READS IS OF BULK AT MOST 1048576: true; the input reads as it did. -/
def windowsGrowUptoRow : OpenClaim := { program := "ythlmjbfkkkdkoaagreat", sum := "c860faa352df1c8d9d1f8e868b94007ae2fd908a45a7313d4c048e37a3c723bd", func := "paternoster/paternosterlaw29.WindowsGrow", spec := "windowsGrow", unfollowed := true, recurses := true, apart := false, narrowed := true }
def WindowsGrowUptoSaid : Prop := windowsGrowUptoRow.holds Tryz.pinned (OpenSpec.upto windowsGrowSpec)

/-- 'paternosterlaw29.WindowsOf', WHERE WHAT IT READS IS OF BULK AT MOST 1048576: true; the input reads as it did. -/
def windowsOfUptoRow : OpenClaim := { program := "ythlmjbfkkkdkoaagreat", sum := "c860faa352df1c8d9d1f8e868b94007ae2fd908a45a7313d4c048e37a3c723bd", func := "paternoster/paternosterlaw29.WindowsOf", spec := "windowsOf", unfollowed := true, recurses := true, apart := false, narrowed := true }
def WindowsOfUptoSaid : Prop := windowsOfUptoRow.holds Tryz.pinned (OpenSpec.upto windowsOfSpec)

end Rows
end Go.Proofs.YthlmjbfkkkdkoaaGreat
