/-
  NARROWER THAN 'FOR EVERY INPUT', by the rows' own cells (each row's printed sentence says how): RendersSame: loops.
  DERIVED. THE GIVEN ROWS OF THIS SEAT. 3 by the template 'for every input the law returns true; each argument reads behind the call as it read before'; 0 by the template 'total and deterministic' (their statements: YthlmjbfkkkdkoaaTotals.lean).
  GIVEN WITH THE SEED: the statements are not yours to turn. If you find one false, say at which input.
  Laid BY PROGRAM, IN A SANDBOX (cutbox-rows.mjs): the forced cells as the released guide's own fill.sh prints them over the translation 18a720c80bfaba51… (all of the seat's roots in one cut). By AI agents, Wed Nov 11 2026. No macro, syntax, notation, axiom, sorry.
-/
import Derived.Test.YthlmjbfkkkdkoaaChecked
import GoSem.Claim
import GoSem.ClaimJoined
import GoSem.ClaimMapViews
import Derived.JoinedTies
import Derived.KernelRfl
namespace Go.Proofs.Ythlmjbfkkkdkoaa
/- THE CELL 'sum', in the pinned program and in every row, IS THE sha256 OF THE DUMP (.gsa) THAT YthlmjbfkkkdkoaaProg.lean LOADS. Nothing in Lean hashes anything: it is a label: what it is worth is what the hold of that sum in a sandbox is worth. -/
noncomputable def Try.pinned : Pinned := { name := "ythlmjbfkkkdkoaa", sum := "18a720c80bfaba51e9d745ec27ee7f1bbf23457c8cb4a6fd58c7d192ad70b1f2", checked := Try.checked }
namespace Rows
def none {H : Type} : Left H := { results := [], args := [] }

/-- 'paternosterlaw27.RendersSized': WHATEVER THE INPUT: true; the input reads as it did. -/
def rendersSizedSpec : ChangeSpec := { name := "rendersSized", fn := fun _ => fun
  | [d1, d2, d3] => { results := [.lit (.bool true)], args := [d1, d2, d3] }
  | _ => none }
def rendersSizedRow : OpenClaim := { program := "ythlmjbfkkkdkoaa", sum := "18a720c80bfaba51e9d745ec27ee7f1bbf23457c8cb4a6fd58c7d192ad70b1f2", func := "paternoster/paternosterlaw27.RendersSized", spec := "rendersSized", unfollowed := true, recurses := true, apart := false }
def RendersSizedSaid : Prop := rendersSizedRow.holds Try.pinned (OpenSpec.ofChange rendersSizedSpec)

/-- ITS FALSE NEIGHBOUR: 'it returns false'. Refute it at one input. -/
def rendersSizedWrong : ChangeSpec := { name := "rendersSized", fn := fun _ => fun
  | [d1, d2, d3] => { results := [.lit (.bool false)], args := [d1, d2, d3] }
  | _ => none }
def RendersSizedWrongFalsely : Prop := rendersSizedRow.holds Try.pinned (OpenSpec.ofChange rendersSizedWrong)

/-- 'paternosterlaw27.RendersSame': WHATEVER THE INPUT: true; the input reads as it did. -/
def rendersSameSpec : ChangeSpec := { name := "rendersSame", fn := fun _ => fun
  | [d1, d2] => { results := [.lit (.bool true)], args := [d1, d2] }
  | _ => none }
def rendersSameRow : OpenClaim := { program := "ythlmjbfkkkdkoaa", sum := "18a720c80bfaba51e9d745ec27ee7f1bbf23457c8cb4a6fd58c7d192ad70b1f2", func := "paternoster/paternosterlaw27.RendersSame", spec := "rendersSame", unfollowed := true, recurses := true, loops := true, apart := false }
def RendersSameSaid : Prop := rendersSameRow.holds Try.pinned (OpenSpec.ofChange rendersSameSpec)

/-- ITS FALSE NEIGHBOUR: 'it returns false'. Refute it at one input. -/
def rendersSameWrong : ChangeSpec := { name := "rendersSame", fn := fun _ => fun
  | [d1, d2] => { results := [.lit (.bool false)], args := [d1, d2] }
  | _ => none }
def RendersSameWrongFalsely : Prop := rendersSameRow.holds Try.pinned (OpenSpec.ofChange rendersSameWrong)

/-- 'paternosterlaw29.WindowsNumbers': WHATEVER THE INPUT: true; the input reads as it did. -/
def windowsNumbersSpec : ChangeSpec := { name := "windowsNumbers", fn := fun _ => fun
  | [d1, d2, d3] => { results := [.lit (.bool true)], args := [d1, d2, d3] }
  | _ => none }
def windowsNumbersRow : OpenClaim := { program := "ythlmjbfkkkdkoaa", sum := "18a720c80bfaba51e9d745ec27ee7f1bbf23457c8cb4a6fd58c7d192ad70b1f2", func := "paternoster/paternosterlaw29.WindowsNumbers", spec := "windowsNumbers", unfollowed := true, recurses := true, apart := false }
def WindowsNumbersSaid : Prop := windowsNumbersRow.holds Try.pinned (OpenSpec.ofChange windowsNumbersSpec)

/-- ITS FALSE NEIGHBOUR: 'it returns false'. Refute it at one input. -/
def windowsNumbersWrong : ChangeSpec := { name := "windowsNumbers", fn := fun _ => fun
  | [d1, d2, d3] => { results := [.lit (.bool false)], args := [d1, d2, d3] }
  | _ => none }
def WindowsNumbersWrongFalsely : Prop := windowsNumbersRow.holds Try.pinned (OpenSpec.ofChange windowsNumbersWrong)

/- THE SECOND FORM. 'bulk': how many values and letters a reading holds, each counted each time it is reached (what is shared counts as often as it is met; a slice's spare places count too). A statement '..UptoSaid' is the law's where the arguments, and the package variables that the reading takes, are together of bulk at most 1048576: NARROWER than '..Said'. Prove '..Said' where nothing that the law and all that it calls make is longer than what came in: it says more and counts as full. Else prove '..UptoSaid'. A law counts once. -/
mutual
def uptoBulk {H : Type} : DataW H → Nat
  | .lit (.string bytes) => bytes.length + 1
  | .lit _ => 1
  | .nil => 1
  | .ptr d => uptoBulk d + 1
  | .slice elems spare => uptoBulkAll elems + uptoBulkAll spare + 1
  | .agg parts => uptoBulkAll parts + 1
  | .iface _ d => uptoBulk d + 1
  | .map entries => uptoBulkEntries entries + 1
  | .held _ => 1
def uptoBulkAll {H : Type} : List (DataW H) → Nat
  | [] => 0
  | d :: r => uptoBulk d + uptoBulkAll r
def uptoBulkEntries {H : Type} : List (Lit × DataW H) → Nat
  | [] => 0
  | x :: r => uptoBulkEntry x + uptoBulkEntries r
def uptoBulkEntry {H : Type} : Lit × DataW H → Nat
  | (.string bytes, d) => bytes.length + uptoBulk d + 1
  | (_, d) => uptoBulk d + 1
 end
def uptoSmall : (H : Type) → List (DataW H) → Bool := fun _ ds => decide (uptoBulkAll ds ≤ 1048576)
def OpenSpec.upto (s : _root_.Go.ChangeSpec) : _root_.Go.OpenSpec := { _root_.Go.OpenSpec.ofChange s with cond := some uptoSmall }

/-- 'paternosterlaw27.RendersSized', WHERE WHAT IT READS IS OF BULK AT MOST 1048576: true; the input reads as it did. -/
def rendersSizedUptoRow : OpenClaim := { program := "ythlmjbfkkkdkoaa", sum := "18a720c80bfaba51e9d745ec27ee7f1bbf23457c8cb4a6fd58c7d192ad70b1f2", func := "paternoster/paternosterlaw27.RendersSized", spec := "rendersSized", unfollowed := true, recurses := true, apart := false, narrowed := true }
def RendersSizedUptoSaid : Prop := rendersSizedUptoRow.holds Try.pinned (OpenSpec.upto rendersSizedSpec)

/-- 'paternosterlaw27.RendersSame', WHERE WHAT IT READS IS OF BULK AT MOST 1048576: true; the input reads as it did. -/
def rendersSameUptoRow : OpenClaim := { program := "ythlmjbfkkkdkoaa", sum := "18a720c80bfaba51e9d745ec27ee7f1bbf23457c8cb4a6fd58c7d192ad70b1f2", func := "paternoster/paternosterlaw27.RendersSame", spec := "rendersSame", unfollowed := true, recurses := true, loops := true, apart := false, narrowed := true }
def RendersSameUptoSaid : Prop := rendersSameUptoRow.holds Try.pinned (OpenSpec.upto rendersSameSpec)

/-- 'paternosterlaw29.WindowsNumbers', WHERE WHAT IT READS IS OF BULK AT MOST 1048576: true; the input reads as it did. -/
def windowsNumbersUptoRow : OpenClaim := { program := "ythlmjbfkkkdkoaa", sum := "18a720c80bfaba51e9d745ec27ee7f1bbf23457c8cb4a6fd58c7d192ad70b1f2", func := "paternoster/paternosterlaw29.WindowsNumbers", spec := "windowsNumbers", unfollowed := true, recurses := true, apart := false, narrowed := true }
def WindowsNumbersUptoSaid : Prop := windowsNumbersUptoRow.holds Try.pinned (OpenSpec.upto windowsNumbersSpec)

end Rows
end Go.Proofs.Ythlmjbfkkkdkoaa
