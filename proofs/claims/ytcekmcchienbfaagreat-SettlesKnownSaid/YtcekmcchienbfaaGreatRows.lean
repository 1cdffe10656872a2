/-
  No cell of these rows narrows 'for every input' (looked for: loops, veiled, ifaces, maps, wideKeys, modest, calm, conditions, laid).
  DERIVED. THE GIVEN ROWS OF THIS SEAT. 3 by the template 'for every input the law returns true; each argument reads behind the call as it read before'; 0 by the template 'total and deterministic' (their statements: YtcekmcchienbfaaGreatTotals.lean).
  GIVEN WITH THE SEED: the statements are not yours to turn. If you find one false, say at which input.
  Laid BY PROGRAM, IN A SANDBOX (cutbox-rows.mjs): the forced cells as the released guide's own fill.sh prints them over the translation 6118f43ea6fd55af… (all of the seat's roots in one cut). By AI agents, Wed Nov 11 2026. No macro, syntax, notation, axiom, sorry.
-/
import Derived.Test.YtcekmcchienbfaaGreatChecked
import GoSem.Claim
import GoSem.ClaimJoined
import GoSem.ClaimMapViews
import Derived.JoinedTies
import Derived.KernelRfl
namespace Go.Proofs.YtcekmcchienbfaaGreat
/- THE CELL 'sum', in the pinned program and in every row, IS THE sha256 OF THE DUMP (.gsa) THAT YtcekmcchienbfaaGreatProg.lean LOADS. Nothing in Lean hashes anything: it is a label: what it is worth is what the hold of that sum in a sandbox is worth. -/
noncomputable def Tryz.pinned : Pinned := { name := "ytcekmcchienbfaagreat", sum := "6118f43ea6fd55af00131ebf3eb660daf444e19885a54a73ef1e327178f1eeff", checked := Tryz.checked }
namespace Rows
def none {H : Type} : Left H := { results := [], args := [] }

/-- 'paternosterlaw31.SettlesCheck': WHATEVER THE INPUT: true; the input reads as it did. -/
def settlesCheckSpec : ChangeSpec := { name := "settlesCheck", fn := fun _ => fun
  | [d1, d2, d3] => { results := [.lit (.bool true)], args := [d1, d2, d3] }
  | _ => none }
def settlesCheckRow : OpenClaim := { program := "ytcekmcchienbfaagreat", sum := "6118f43ea6fd55af00131ebf3eb660daf444e19885a54a73ef1e327178f1eeff", func := "paternoster/paternosterlaw31.SettlesCheck", spec := "settlesCheck", unfollowed := true, recurses := true, apart := false }
def SettlesCheckSaid : Prop := settlesCheckRow.holds Tryz.pinned (OpenSpec.ofChange settlesCheckSpec)

/-- ITS FALSE NEIGHBOUR: 'it returns false'. Refute it at one input. -/
def settlesCheckWrong : ChangeSpec := { name := "settlesCheck", fn := fun _ => fun
  | [d1, d2, d3] => { results := [.lit (.bool false)], args := [d1, d2, d3] }
  | _ => none }
def SettlesCheckWrongFalsely : Prop := settlesCheckRow.holds Tryz.pinned (OpenSpec.ofChange settlesCheckWrong)

/-- 'paternosterlaw31.SettlesPlay': WHATEVER THE INPUT: true; the input reads as it did. -/
def settlesPlaySpec : ChangeSpec := { name := "settlesPlay", fn := fun _ => fun
  | [d1, d2, d3] => { results := [.lit (.bool true)], args := [d1, d2, d3] }
  | _ => none }
def settlesPlayRow : OpenClaim := { program := "ytcekmcchienbfaagreat", sum := "6118f43ea6fd55af00131ebf3eb660daf444e19885a54a73ef1e327178f1eeff", func := "paternoster/paternosterlaw31.SettlesPlay", spec := "settlesPlay", unfollowed := true, recurses := true, apart := false }
def SettlesPlaySaid : Prop := settlesPlayRow.holds Tryz.pinned (OpenSpec.ofChange settlesPlaySpec)

/-- ITS FALSE NEIGHBOUR: 'it returns false'. Refute it at one input. -/
def settlesPlayWrong : ChangeSpec := { name := "settlesPlay", fn := fun _ => fun
  | [d1, d2, d3] => { results := [.lit (.bool false)], args := [d1, d2, d3] }
  | _ => none }
def SettlesPlayWrongFalsely : Prop := settlesPlayRow.holds Tryz.pinned (OpenSpec.ofChange settlesPlayWrong)

/-- 'paternosterlaw31.SettlesKnown': WHATEVER THE INPUT: true; the input reads as it did. -/
def settlesKnownSpec : ChangeSpec := { name := "settlesKnown", fn := fun _ => fun
  | [] => { results := [.lit (.bool true)], args := [] }
  | _ => none }
def settlesKnownRow : OpenClaim := { program := "ytcekmcchienbfaagreat", sum := "6118f43ea6fd55af00131ebf3eb660daf444e19885a54a73ef1e327178f1eeff", func := "paternoster/paternosterlaw31.SettlesKnown", spec := "settlesKnown", unfollowed := true, recurses := true, apart := false }
def SettlesKnownSaid : Prop := settlesKnownRow.holds Tryz.pinned (OpenSpec.ofChange settlesKnownSpec)

/-- ITS FALSE NEIGHBOUR: 'it returns false'. Refute it at one input. -/
def settlesKnownWrong : ChangeSpec := { name := "settlesKnown", fn := fun _ => fun
  | [] => { results := [.lit (.bool false)], args := [] }
  | _ => none }
def SettlesKnownWrongFalsely : Prop := settlesKnownRow.holds Tryz.pinned (OpenSpec.ofChange settlesKnownWrong)

/- THE SECOND FORM. 'bulk': how many values and letters a reading holds, each counted each time it is reached (what is shared counts as often as it is met; a slice's spare places count too). A statement '..UptoSaid' is the law's where the arguments, and the package variables that the reading takes, are together of bulk at most 1048576: NARROWER than '..Said'. Prove '..Said' where nothing that the law and all that it calls make is longer than what came in: it says more and counts as full. Else prove '..UptoSaid'. A law counts once. -/
mutual
def uptoBulk {H : Type} : DataW H → Nat
  | .lit (.string bytes) => bytes.length + 1
  | .lit _ => 1
  | .nil => 1
  | .ptr d => uptoBulk d + 1
  | .slice elems spare => uptoBulkAll elems + uptoBulkAll spare + 1
  | .agg parts => uptoBulkAll parts + 1
  | .iface _ d => uptoBulk d + 1
  | .map entries => uptoBulkEntries entries + 1
  | .held _ => 1
def uptoBulkAll {H : Type} : List (DataW H) → Nat
  | [] => 0
  | d :: r => uptoBulk d + uptoBulkAll r
def uptoBulkEntries {H : Type} : List (Lit × DataW H) → Nat
  | [] => 0
  | x :: r => uptoBulkEntry x + uptoBulkEntries r
def uptoBulkEntry {H : Type} : Lit × DataW H → Nat
  | (.string bytes, d) => bytes.length + uptoBulk d + 1
  | (_, d) => uptoBulk d + 1
 end
def uptoSmall : (H : Type) → List (DataW H) → Bool := fun _ ds => decide (uptoBulkAll ds ≤ 1048576)
def OpenSpec.upto (s : _root_.Go.ChangeSpec) : _root_.Go.OpenSpec := { _root_.Go.OpenSpec.ofChange s with cond := some uptoSmall }

/-- 'paternosterlaw31.SettlesCheck', WHERE WHAT IT READS IS OF BULK AT MOST 1048576: true; the input reads as it did. -/
def settlesCheckUptoRow : OpenClaim := { program := "ytcekmcchienbfaagreat", sum := "6118f43ea6fd55af00131ebf3eb660daf444e19885a54a73ef1e327178f1eeff", func := "paternoster/paternosterlaw31.SettlesCheck", spec := "settlesCheck", unfollowed := true, recurses := true, apart := false, narrowed := true }
def SettlesCheckUptoSaid : Prop := settlesCheckUptoRow.holds Tryz.pinned (OpenSpec.upto settlesCheckSpec)

/-- 'paternosterlaw31.SettlesPlay', WHERE WHAT IT READS IS OF BULK AT MOST 1048576: true; the input reads as it did. -/
def settlesPlayUptoRow : OpenClaim := { program := "ytcekmcchienbfaagreat", sum := "6118f43ea6fd55af00131ebf3eb660daf444e19885a54a73ef1e327178f1eeff", func := "paternoster/paternosterlaw31.SettlesPlay", spec := "settlesPlay", unfollowed := true, recurses := true, apart := false, narrowed := true }
def SettlesPlayUptoSaid : Prop := settlesPlayUptoRow.holds Tryz.pinned (OpenSpec.upto settlesPlaySpec)

/-- 'paternosterlaw31.SettlesKnown', WHERE WHAT IT READS IS OF BULK AT MOST 1048576: true; the input reads as it did. -/
def settlesKnownUptoRow : OpenClaim := { program := "ytcekmcchienbfaagreat", sum := "6118f43ea6fd55af00131ebf3eb660daf444e19885a54a73ef1e327178f1eeff", func := "paternoster/paternosterlaw31.SettlesKnown", spec := "settlesKnown", unfollowed := true, recurses := true, apart := false, narrowed := true }
def SettlesKnownUptoSaid : Prop := settlesKnownUptoRow.holds Tryz.pinned (OpenSpec.upto settlesKnownSpec)

end Rows
end Go.Proofs.YtcekmcchienbfaaGreat
