/-
  No cell of these rows narrows 'for every input' (looked for: loops, veiled, ifaces, maps, wideKeys, modest, calm, conditions, laid).
  DERIVED. THE GIVEN ROWS OF THIS SEAT. 11 by the template 'for every input the law returns true; each argument reads behind the call as it read before'; 0 by the template 'total and deterministic' (their statements: YtfombghmbbfpaaaGreatTotals.lean).
  GIVEN WITH THE SEED: the statements are not yours to turn. If you find one false, say at which input.
  Laid BY PROGRAM, IN A SANDBOX (cutbox-rows.mjs): the forced cells as the released guide's own fill.sh prints them over the translation 76f7fdb4c42320ca… (all of the seat's roots in one cut). By AI agents, Wed Nov 11 2026. No macro, syntax, notation, axiom, sorry.
-/
import Derived.Test.YtfombghmbbfpaaaGreatChecked
import GoSem.Claim
import GoSem.ClaimJoined
import GoSem.ClaimMapViews
import Derived.JoinedTies
import Derived.KernelRfl
namespace Go.Proofs.YtfombghmbbfpaaaGreat
/- THE CELL 'sum', in the pinned program and in every row, IS THE sha256 OF THE DUMP (.gsa) THAT YtfombghmbbfpaaaGreatProg.lean LOADS. Nothing in Lean hashes anything: it is a label: what it is worth is what the hold of that sum in a sandbox is worth. -/
noncomputable def Tryz.pinned : Pinned := { name := "ytfombghmbbfpaaagreat", sum := "76f7fdb4c42320ca7a996f2b819c3a31550fa92a2bee98c788e94371ba3dd4f9", checked := Tryz.checked }
namespace Rows
def none {H : Type} : Left H := { results := [], args := [] }

/-- 'paternosterlaw24.ListsInsert': WHATEVER THE INPUT: true; the input reads as it did. -/
def listsInsertSpec : ChangeSpec := { name := "listsInsert", fn := fun _ => fun
  | [d1, d2, d3] => { results := [.lit (.bool true)], args := [d1, d2, d3] }
  | _ => none }
def listsInsertRow : OpenClaim := { program := "ytfombghmbbfpaaagreat", sum := "76f7fdb4c42320ca7a996f2b819c3a31550fa92a2bee98c788e94371ba3dd4f9", func := "paternoster/paternosterlaw24.ListsInsert", spec := "listsInsert", unfollowed := true, recurses := true, apart := false }
def ListsInsertSaid : Prop := listsInsertRow.holds Tryz.pinned (OpenSpec.ofChange listsInsertSpec)

/-- ITS FALSE NEIGHBOUR: 'it returns false'. Refute it at one input. -/
def listsInsertWrong : ChangeSpec := { name := "listsInsert", fn := fun _ => fun
  | [d1, d2, d3] => { results := [.lit (.bool false)], args := [d1, d2, d3] }
  | _ => none }
def ListsInsertWrongFalsely : Prop := listsInsertRow.holds Tryz.pinned (OpenSpec.ofChange listsInsertWrong)

/-- 'paternosterlaw30.HeadsOf': WHATEVER THE INPUT: true; the input reads as it did. -/
def headsOfSpec : ChangeSpec := { name := "headsOf", fn := fun _ => fun
  | [d1, d2, d3] => { results := [.lit (.bool true)], args := [d1, d2, d3] }
  | _ => none }
def headsOfRow : OpenClaim := { program := "ytfombghmbbfpaaagreat", sum := "76f7fdb4c42320ca7a996f2b819c3a31550fa92a2bee98c788e94371ba3dd4f9", func := "paternoster/paternosterlaw30.HeadsOf", spec := "headsOf", unfollowed := true, recurses := true, apart := false }
def HeadsOfSaid : Prop := headsOfRow.holds Tryz.pinned (OpenSpec.ofChange headsOfSpec)

/-- ITS FALSE NEIGHBOUR: 'it returns false'. Refute it at one input. -/
def headsOfWrong : ChangeSpec := { name := "headsOf", fn := fun _ => fun
  | [d1, d2, d3] => { results := [.lit (.bool false)], args := [d1, d2, d3] }
  | _ => none }
def HeadsOfWrongFalsely : Prop := headsOfRow.holds Tryz.pinned (OpenSpec.ofChange headsOfWrong)

/-- 'paternosterlaw32.HoldsCommit': WHATEVER THE INPUT: true; the input reads as it did. -/
def holdsCommitSpec : ChangeSpec := { name := "holdsCommit", fn := fun _ => fun
  | [d1, d2] => { results := [.lit (.bool true)], args := [d1, d2] }
  | _ => none }
def holdsCommitRow : OpenClaim := { program := "ytfombghmbbfpaaagreat", sum := "76f7fdb4c42320ca7a996f2b819c3a31550fa92a2bee98c788e94371ba3dd4f9", func := "paternoster/paternosterlaw32.HoldsCommit", spec := "holdsCommit", unfollowed := true, recurses := true, apart := false }
def HoldsCommitSaid : Prop := holdsCommitRow.holds Tryz.pinned (OpenSpec.ofChange holdsCommitSpec)

/-- ITS FALSE NEIGHBOUR: 'it returns false'. Refute it at one input. -/
def holdsCommitWrong : ChangeSpec := { name := "holdsCommit", fn := fun _ => fun
  | [d1, d2] => { results := [.lit (.bool false)], args := [d1, d2] }
  | _ => none }
def HoldsCommitWrongFalsely : Prop := holdsCommitRow.holds Tryz.pinned (OpenSpec.ofChange holdsCommitWrong)

/-- 'paternosterlaw32.HoldsArena': WHATEVER THE INPUT: true; the input reads as it did. -/
def holdsArenaSpec : ChangeSpec := { name := "holdsArena", fn := fun _ => fun
  | [d1, d2, d3] => { results := [.lit (.bool true)], args := [d1, d2, d3] }
  | _ => none }
def holdsArenaRow : OpenClaim := { program := "ytfombghmbbfpaaagreat", sum := "76f7fdb4c42320ca7a996f2b819c3a31550fa92a2bee98c788e94371ba3dd4f9", func := "paternoster/paternosterlaw32.HoldsArena", spec := "holdsArena", unfollowed := true, recurses := true, apart := false }
def HoldsArenaSaid : Prop := holdsArenaRow.holds Tryz.pinned (OpenSpec.ofChange holdsArenaSpec)

/-- ITS FALSE NEIGHBOUR: 'it returns false'. Refute it at one input. -/
def holdsArenaWrong : ChangeSpec := { name := "holdsArena", fn := fun _ => fun
  | [d1, d2, d3] => { results := [.lit (.bool false)], args := [d1, d2, d3] }
  | _ => none }
def HoldsArenaWrongFalsely : Prop := holdsArenaRow.holds Tryz.pinned (OpenSpec.ofChange holdsArenaWrong)

/-- 'paternosterlaw32.HoldsTrim': WHATEVER THE INPUT: true; the input reads as it did. -/
def holdsTrimSpec : ChangeSpec := { name := "holdsTrim", fn := fun _ => fun
  | [d1, d2] => { results := [.lit (.bool true)], args := [d1, d2] }
  | _ => none }
def holdsTrimRow : OpenClaim := { program := "ytfombghmbbfpaaagreat", sum := "76f7fdb4c42320ca7a996f2b819c3a31550fa92a2bee98c788e94371ba3dd4f9", func := "paternoster/paternosterlaw32.HoldsTrim", spec := "holdsTrim", unfollowed := true, recurses := true, apart := false }
def HoldsTrimSaid : Prop := holdsTrimRow.holds Tryz.pinned (OpenSpec.ofChange holdsTrimSpec)

/-- ITS FALSE NEIGHBOUR: 'it returns false'. Refute it at one input. -/
def holdsTrimWrong : ChangeSpec := { name := "holdsTrim", fn := fun _ => fun
  | [d1, d2] => { results := [.lit (.bool false)], args := [d1, d2] }
  | _ => none }
def HoldsTrimWrongFalsely : Prop := holdsTrimRow.holds Tryz.pinned (OpenSpec.ofChange holdsTrimWrong)

/-- 'paternosterlaw27.RendersKnown': WHATEVER THE INPUT: true; the input reads as it did. -/
def rendersKnownSpec : ChangeSpec := { name := "rendersKnown", fn := fun _ => fun
  | [] => { results := [.lit (.bool true)], args := [] }
  | _ => none }
def rendersKnownRow : OpenClaim := { program := "ytfombghmbbfpaaagreat", sum := "76f7fdb4c42320ca7a996f2b819c3a31550fa92a2bee98c788e94371ba3dd4f9", func := "paternoster/paternosterlaw27.RendersKnown", spec := "rendersKnown", unfollowed := true, recurses := true, apart := false }
def RendersKnownSaid : Prop := rendersKnownRow.holds Tryz.pinned (OpenSpec.ofChange rendersKnownSpec)

/-- ITS FALSE NEIGHBOUR: 'it returns false'. Refute it at one input. -/
def rendersKnownWrong : ChangeSpec := { name := "rendersKnown", fn := fun _ => fun
  | [] => { results := [.lit (.bool false)], args := [] }
  | _ => none }
def RendersKnownWrongFalsely : Prop := rendersKnownRow.holds Tryz.pinned (OpenSpec.ofChange rendersKnownWrong)

/-- 'paternosterlaw29.WindowsOf': WHATEVER THE INPUT: true; the input reads as it did. -/
def windowsOfSpec : ChangeSpec := { name := "windowsOf", fn := fun _ => fun
  | [d1, d2, d3] => { results := [.lit (.bool true)], args := [d1, d2, d3] }
  | _ => none }
def windowsOfRow : OpenClaim := { program := "ytfombghmbbfpaaagreat", sum := "76f7fdb4c42320ca7a996f2b819c3a31550fa92a2bee98c788e94371ba3dd4f9", func := "paternoster/paternosterlaw29.WindowsOf", spec := "windowsOf", unfollowed := true, recurses := true, apart := false }
def WindowsOfSaid : Prop := windowsOfRow.holds Tryz.pinned (OpenSpec.ofChange windowsOfSpec)

/-- ITS FALSE NEIGHBOUR: 'it returns false'. Refute it at one input. -/
def windowsOfWrong : ChangeSpec := { name := "windowsOf", fn := fun _ => fun
  | [d1, d2, d3] => { results := [.lit (.bool false)], args := [d1, d2, d3] }
  | _ => none }
def WindowsOfWrongFalsely : Prop := windowsOfRow.holds Tryz.pinned (OpenSpec.ofChange windowsOfWrong)

/-- 'paternosterlaw32.HoldsSame': WHATEVER THE INPUT: true; the input reads as it did. -/
def holdsSameSpec : ChangeSpec := { name := "holdsSame", fn := fun _ => fun
  | [d1, d2] => { results := [.lit (.bool true)], args := [d1, d2] }
  | _ => none }
def holdsSameRow : OpenClaim := { program := "ytfombghmbbfpaaagreat", sum := "76f7fdb4c42320ca7a996f2b819c3a31550fa92a2bee98c788e94371ba3dd4f9", func := "paternoster/paternosterlaw32.HoldsSame", spec := "holdsSame", unfollowed := true, recurses := true, apart := false }
def HoldsSameSaid : Prop := holdsSameRow.holds Tryz.pinned (OpenSpec.ofChange holdsSameSpec)

/-- ITS FALSE NEIGHBOUR: 'it returns false'. Refute it at one input. -/
def holdsSameWrong : ChangeSpec := { name := "holdsSame", fn := fun _ => fun
  | [d1, d2] => { results := [.lit (.bool false)], args := [d1, d2] }
  | _ => none }
def HoldsSameWrongFalsely : Prop := holdsSameRow.holds Tryz.pinned (OpenSpec.ofChange holdsSameWrong)

/-- 'paternosterlaw32.HoldsKnown': WHATEVER THE INPUT: true; the input reads as it did. -/
def holdsKnownSpec : ChangeSpec := { name := "holdsKnown", fn := fun _ => fun
  | [] => { results := [.lit (.bool true)], args := [] }
  | _ => none }
def holdsKnownRow : OpenClaim := { program := "ytfombghmbbfpaaagreat", sum := "76f7fdb4c42320ca7a996f2b819c3a31550fa92a2bee98c788e94371ba3dd4f9", func := "paternoster/paternosterlaw32.HoldsKnown", spec := "holdsKnown", unfollowed := true, recurses := true, apart := false }
def HoldsKnownSaid : Prop := holdsKnownRow.holds Tryz.pinned (OpenSpec.ofChange holdsKnownSpec)

/-- ITS FALSE NEIGHBOUR: 'it returns false'. Refute it at one input. -/
def holdsKnownWrong : ChangeSpec := { name := "holdsKnown", fn := fun _ => fun
  | [] => { results := [.lit (.bool false)], args := [] }
  | _ => none }
def HoldsKnownWrongFalsely : Prop := holdsKnownRow.holds Tryz.pinned (OpenSpec.ofChange holdsKnownWrong)

/-- 'paternosterlaw30.HeadsSections': WHATEVER THE INPUT: true; the input reads as it did. -/
def headsSectionsSpec : ChangeSpec := { name := "headsSections", fn := fun _ => fun
  | [d1, d2] => { results := [.lit (.bool true)], args := [d1, d2] }
  | _ => none }
def headsSectionsRow : OpenClaim := { program := "ytfombghmbbfpaaagreat", sum := "76f7fdb4c42320ca7a996f2b819c3a31550fa92a2bee98c788e94371ba3dd4f9", func := "paternoster/paternosterlaw30.HeadsSections", spec := "headsSections", unfollowed := true, recurses := true, apart := false }
def HeadsSectionsSaid : Prop := headsSectionsRow.holds Tryz.pinned (OpenSpec.ofChange headsSectionsSpec)

/-- ITS FALSE NEIGHBOUR: 'it returns false'. Refute it at one input. -/
def headsSectionsWrong : ChangeSpec := { name := "headsSections", fn := fun _ => fun
  | [d1, d2] => { results := [.lit (.bool false)], args := [d1, d2] }
  | _ => none }
def HeadsSectionsWrongFalsely : Prop := headsSectionsRow.holds Tryz.pinned (OpenSpec.ofChange headsSectionsWrong)

/-- 'paternosterlaw30.HeadsKnown': WHATEVER THE INPUT: true; the input reads as it did. -/
def headsKnownSpec : ChangeSpec := { name := "headsKnown", fn := fun _ => fun
  | [] => { results := [.lit (.bool true)], args := [] }
  | _ => none }
def headsKnownRow : OpenClaim := { program := "ytfombghmbbfpaaagreat", sum := "76f7fdb4c42320ca7a996f2b819c3a31550fa92a2bee98c788e94371ba3dd4f9", func := "paternoster/paternosterlaw30.HeadsKnown", spec := "headsKnown", unfollowed := true, recurses := true, apart := false }
def HeadsKnownSaid : Prop := headsKnownRow.holds Tryz.pinned (OpenSpec.ofChange headsKnownSpec)

/-- ITS FALSE NEIGHBOUR: 'it returns false'. Refute it at one input. -/
def headsKnownWrong : ChangeSpec := { name := "headsKnown", fn := fun _ => fun
  | [] => { results := [.lit (.bool false)], args := [] }
  | _ => none }
def HeadsKnownWrongFalsely : Prop := headsKnownRow.holds Tryz.pinned (OpenSpec.ofChange headsKnownWrong)

/- THE SECOND FORM. 'bulk': how many values and letters a reading holds, each counted each time it is reached (what is shared counts as often as it is met; a slice's spare places count too). A statement '..UptoSaid' is the law's where the arguments, and the package variables that the reading takes, are together of bulk at most 1048576: NARROWER than '..Said'. Prove '..Said' where nothing that the law and all that it calls make is longer than what came in: it says more and counts as full. Else prove '..UptoSaid'. A law counts once. -/
mutual
def uptoBulk {H : Type} : DataW H → Nat
  | .lit (.string bytes) => bytes.length + 1
  | .lit _ => 1
  | .nil => 1
  | .ptr d => uptoBulk d + 1
  | .slice elems spare => uptoBulkAll elems + uptoBulkAll spare + 1
  | .agg parts => uptoBulkAll parts + 1
  | .iface _ d => uptoBulk d + 1
  | .map entries => uptoBulkEntries entries + 1
  | .held _ => 1
def uptoBulkAll {H : Type} : List (DataW H) → Nat
  | [] => 0
  | d :: r => uptoBulk d + uptoBulkAll r
def uptoBulkEntries {H : Type} : List (Lit × DataW H) → Nat
  | [] => 0
  | x :: r => uptoBulkEntry x + uptoBulkEntries r
def uptoBulkEntry {H : Type} : Lit × DataW H → Nat
  | (.string bytes, d) => bytes.length + uptoBulk d + 1
  | (_, d) => uptoBulk d + 1
 end
def uptoSmall : (H : Type) → List (DataW H) → Bool := fun _ ds => decide (uptoBulkAll ds ≤ 1048576)
def OpenSpec.upto (s : _root_.Go.ChangeSpec) : _root_.Go.OpenSpec := { _root_.Go.OpenSpec.ofChange s with cond := some uptoSmall }

/-- 'paternosterlaw24.ListsInsert', WHERE WHAT IT READS IS OF BULK AT MOST 1048576: true; the input reads as it did. -/
def listsInsertUptoRow : OpenClaim := { program := "ytfombghmbbfpaaagreat", sum := "76f7fdb4c42320ca7a996f2b819c3a31550fa92a2bee98c788e94371ba3dd4f9", func := "paternoster/paternosterlaw24.ListsInsert", spec := "listsInsert", unfollowed := true, recurses := true, apart := false, narrowed := true }
def ListsInsertUptoSaid : Prop := listsInsertUptoRow.holds Tryz.pinned (OpenSpec.upto listsInsertSpec)

/-- 'paternosterlaw30.HeadsOf', WHERE WHAT IT READS IS OF BULK AT MOST 1048576: true; the input reads as it did. -/
def headsOfUptoRow : OpenClaim := { program := "ytfombghmbbfpaaagreat", sum := "76f7fdb4c42320ca7a996f2b819c3a31550fa92a2bee98c788e94371ba3dd4f9", func := "paternoster/paternosterlaw30.HeadsOf", spec := "headsOf", unfollowed := true, recurses := true, apart := false, narrowed := true }
def HeadsOfUptoSaid : Prop := headsOfUptoRow.holds Tryz.pinned (OpenSpec.upto headsOfSpec)

/-- 'paternosterlaw32.HoldsCommit', WHERE WHAT IT READS IS OF BULK AT MOST 1048576: true; the input reads as it did. -/
def holdsCommitUptoRow : OpenClaim := { program := "ytfombghmbbfpaaagreat", sum := "76f7fdb4c42320ca7a996f2b819c3a31550fa92a2bee98c788e94371ba3dd4f9", func := "paternoster/paternosterlaw32.HoldsCommit", spec := "holdsCommit", unfollowed := true, recurses := true, apart := false, narrowed := true }
def HoldsCommitUptoSaid : Prop := holdsCommitUptoRow.holds Tryz.pinned (OpenSpec.upto holdsCommitSpec)

/-- 'paternosterlaw32.HoldsArena', WHERE WHAT IT READS IS OF BULK AT MOST 1048576: true; the input reads as it did. -/
def holdsArenaUptoRow : OpenClaim := { program := "ytfombghmbbfpaaagreat", sum := "76f7fdb4c42320ca7a996f2b819c3a31550fa92a2bee98c788e94371ba3dd4f9", func := "paternoster/paternosterlaw32.HoldsArena", spec := "holdsArena", unfollowed := true, recurses := true, apart := false, narrowed := true }
def HoldsArenaUptoSaid : Prop := holdsArenaUptoRow.holds Tryz.pinned (OpenSpec.upto holdsArenaSpec)

/-- 'paternosterlaw32.HoldsTrim', WHERE WHAT IT READS IS OF BULK AT MOST 1048576: true; the input reads as it did. -/
def holdsTrimUptoRow : OpenClaim := { program := "ytfombghmbbfpaaagreat", sum := "76f7fdb4c42320ca7a996f2b819c3a31550fa92a2bee98c788e94371ba3dd4f9", func := "paternoster/paternosterlaw32.HoldsTrim", spec := "holdsTrim", unfollowed := true, recurses := true, apart := false, narrowed := true }
def HoldsTrimUptoSaid : Prop := holdsTrimUptoRow.holds Tryz.pinned (OpenSpec.upto holdsTrimSpec)

/-- 'paternosterlaw27.RendersKnown', WHERE WHAT IT READS IS OF BULK AT MOST 1048576: true; the input reads as it did. -/
def rendersKnownUptoRow : OpenClaim := { program := "ytfombghmbbfpaaagreat", sum := "76f7fdb4c42320ca7a996f2b819c3a31550fa92a2bee98c788e94371ba3dd4f9", func := "paternoster/paternosterlaw27.RendersKnown", spec := "rendersKnown", unfollowed := true, recurses := true, apart := false, narrowed := true }
def RendersKnownUptoSaid : Prop := rendersKnownUptoRow.holds Tryz.pinned (OpenSpec.upto rendersKnownSpec)

/-- 'paternosterlaw29.WindowsOf', WHERE WHAT IT READS IS OF BULK AT MOST 1048576: true; the input reads as it did. -/
def windowsOfUptoRow : OpenClaim := { program := "ytfombghmbbfpaaagreat", sum := "76f7fdb4c42320ca7a996f2b819c3a31550fa92a2bee98c788e94371ba3dd4f9", func := "paternoster/paternosterlaw29.WindowsOf", spec := "windowsOf", unfollowed := true, recurses := true, apart := false, narrowed := true }
def WindowsOfUptoSaid : Prop := windowsOfUptoRow.holds Tryz.pinned (OpenSpec.upto windowsOfSpec)

/-- 'paternosterlaw32.HoldsSame', WHERE WHAT IT READS IS OF BULK AT MOST 1048576: true; the input reads as it did. -/
def holdsSameUptoRow : OpenClaim := { program := "ytfombghmbbfpaaagreat", sum := "76f7fdb4c42320ca7a996f2b819c3a31550fa92a2bee98c788e94371ba3dd4f9", func := "paternoster/paternosterlaw32.HoldsSame", spec := "holdsSame", unfollowed := true, recurses := true, apart := false, narrowed := true }
def HoldsSameUptoSaid : Prop := holdsSameUptoRow.holds Tryz.pinned (OpenSpec.upto holdsSameSpec)

/-- 'paternosterlaw32.HoldsKnown', WHERE WHAT IT READS IS OF BULK AT MOST 1048576: true; the input reads as it did. -/
def holdsKnownUptoRow : OpenClaim := { program := "ytfombghmbbfpaaagreat", sum := "76f7fdb4c42320ca7a996f2b819c3a31550fa92a2bee98c788e94371ba3dd4f9", func := "paternoster/paternosterlaw32.HoldsKnown", spec := "holdsKnown", unfollowed := true, recurses := true, apart := false, narrowed := true }
def HoldsKnownUptoSaid : Prop := holdsKnownUptoRow.holds Tryz.pinned (OpenSpec.upto holdsKnownSpec)

/-- 'paternosterlaw30.HeadsSections', WHERE WHAT IT READS IS OF BULK AT MOST 1048576: true; the input reads as it did. -/
def headsSectionsUptoRow : OpenClaim := { program := "ytfombghmbbfpaaagreat", sum := "76f7fdb4c42320ca7a996f2b819c3a31550fa92a2bee98c788e94371ba3dd4f9", func := "paternoster/paternosterlaw30.HeadsSections", spec := "headsSections", unfollowed := true, recurses := true, apart := false, narrowed := true }
def HeadsSectionsUptoSaid : Prop := headsSectionsUptoRow.holds Tryz.pinned (OpenSpec.upto headsSectionsSpec)

/-- 'paternosterlaw30.HeadsKnown', WHERE WHAT IT READS IS OF BULK AT MOST 1048576: true; the input reads as it did. -/
def headsKnownUptoRow : OpenClaim := { program := "ytfombghmbbfpaaagreat", sum := "76f7fdb4c42320ca7a996f2b819c3a31550fa92a2bee98c788e94371ba3dd4f9", func := "paternoster/paternosterlaw30.HeadsKnown", spec := "headsKnown", unfollowed := true, recurses := true, apart := false, narrowed := true }
def HeadsKnownUptoSaid : Prop := headsKnownUptoRow.holds Tryz.pinned (OpenSpec.upto headsKnownSpec)

end Rows
end Go.Proofs.YtfombghmbbfpaaaGreat
