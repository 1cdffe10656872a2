/-
  DERIVED. GIVEN WITH THE SEED: THE CARDS: each row of YtggfejahifmgoaaGreatDoorRows.lean that lists a variable, with what it lists TIED to the program's text (the seventh form; the later family's looks); each row that meets fmt, with fmt's text TOLD by the authors' own Lean function (tested against real Go, not proved from fmt's source: count such statements apart). THE CARD IS WHAT COUNTS. Prove the row's statement (the work); the ties are given (YtggfejahifmgoaaGreatDoorTie.lean); close each card by the builder's one call (the guide's Derived/Test/ToyasCard.lean, 'card_holds'). Laid BY PROGRAM, IN A SANDBOX (cutbox-door.mjs). By AI agents, Wed Nov 11 2026. No macro, syntax, notation, axiom, sorry.
-/
import Derived.Test.YtggfejahifmgoaaGreatDoorRows
import GoSem.ClaimSeven
namespace Go.Proofs.YtggfejahifmgoaaGreatDoor
namespace Rows

/-- THE TIED CARD OF 'paternosterlaw33.ModelsConfig'. -/
def modelsConfigCard : Claim7 := { stood := { row := modelsConfigRow, standIns := [], harness := (true, "3e0c6d299a41edf1861ba9666134491da6f57496f326712a395c8c5a33320612"), looks := true }, kinds := [], alts := [], laidByText := true, laidKinds := [.handle], laidTests := true, laidLooks := .later }
def ModelsConfigCardSaid : Prop := Claim7.holds Tryz.pinned (.plain (OpenSpec.ofChange modelsConfigSpec)) modelsConfigCard

/-- THE TIED CARD OF 'paternosterlaw33.ModelsNone'. -/
def modelsNoneCard : Claim7 := { stood := { row := modelsNoneRow, standIns := [], harness := (true, "3e0c6d299a41edf1861ba9666134491da6f57496f326712a395c8c5a33320612"), looks := true }, kinds := [], alts := [], laidByText := true, laidKinds := [.handle], laidTests := true, laidLooks := .later }
def ModelsNoneCardSaid : Prop := Claim7.holds Tryz.pinned (.plain (OpenSpec.ofChange modelsNoneSpec)) modelsNoneCard

/-- THE SECOND FORM's CARD OF 'paternosterlaw33.ModelsConfig'. -/
def modelsConfigUptoCard : Claim7 := { stood := { row := modelsConfigUptoRow, standIns := [], harness := (true, "3e0c6d299a41edf1861ba9666134491da6f57496f326712a395c8c5a33320612"), looks := true }, kinds := [], alts := [], laidByText := true, laidKinds := [.handle], laidTests := true, laidLooks := .later }
def ModelsConfigUptoCardSaid : Prop := Claim7.holds Tryz.pinned (.plain (OpenSpec.upto modelsConfigSpec)) modelsConfigUptoCard

/-- THE SECOND FORM's CARD OF 'paternosterlaw33.ModelsNone'. -/
def modelsNoneUptoCard : Claim7 := { stood := { row := modelsNoneUptoRow, standIns := [], harness := (true, "3e0c6d299a41edf1861ba9666134491da6f57496f326712a395c8c5a33320612"), looks := true }, kinds := [], alts := [], laidByText := true, laidKinds := [.handle], laidTests := true, laidLooks := .later }
def ModelsNoneUptoCardSaid : Prop := Claim7.holds Tryz.pinned (.plain (OpenSpec.upto modelsNoneSpec)) modelsNoneUptoCard
end Rows
end Go.Proofs.YtggfejahifmgoaaGreatDoor
