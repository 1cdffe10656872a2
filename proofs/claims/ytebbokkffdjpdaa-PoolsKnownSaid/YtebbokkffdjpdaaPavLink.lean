/- A program and its small form: how the link is laid, function by function. -/
import Derived.Test.YtebbokkffdjpdaaPavAll
namespace Go.Pav
open Go

/-- Own numbers and dump numbers. -/
def phiOf (ids : List (Nat × Nat)) (f : FuncId) : Option Nat :=
  match ids with
  | [] => none
  | (g, k) :: r => if k = f then some g else phiOf r f

def psiOf (ids : List (Nat × Nat)) (g : Nat) : FuncId :=
  match get ids g with
  | some k => k
  | none => 0

theorem phiOf_mem : ∀ {ids : List (Nat × Nat)} {f : FuncId} {g : Nat}, phiOf ids f = some g → (g, f) ∈ ids := by
  intro ids
  induction ids with
  | nil => intro f g h; simp [phiOf] at h
  | cons x r ih =>
    intro f g h
    obtain ⟨a, k⟩ := x
    simp only [phiOf] at h
    split at h
    · rename_i hk
      cases h; subst hk; exact List.mem_cons_self
    · exact List.mem_cons_of_mem _ (ih h)

theorem psi_phi {ids : List (Nat × Nat)} (hc : (ids.all fun x => decide (psiOf ids x.1 = x.2)) = true) : ∀ f g, phiOf ids f = some g → psiOf ids g = f := by
  intro f g h
  have := List.all_eq_true.1 hc _ (phiOf_mem h)
  simpa using this

/-- Of every function in a tree. -/
def TreeAll (p : Nat → CFn → Prop) : Tree → Prop
  | .leaf => True
  | .node l k f r => TreeAll p l ∧ p k f ∧ TreeAll p r

theorem TreeAll.get {p : Nat → CFn → Prop} : ∀ {t : Tree}, TreeAll p t → ∀ {g : Nat} {cf : CFn}, t.get g = some cf → p g cf := by
  intro t
  induction t with
  | leaf => intro _ g cf h; simp [Tree.get] at h
  | node l k f r ihl ihr =>
    intro ⟨h1, h2, h3⟩ g cf h
    simp only [Tree.get] at h
    split at h
    · rename_i hk; cases h; subst hk; exact h2
    · split at h
      · exact ihl h1 h
      · exact ihr h3 h

/-- A function is what the small one was made of. -/
def FnOk (P : Program) (ids : List (Nat × Nat)) (g : Nat) (cf : CFn) : Prop := ∃ fn, P.funcs[psiOf ids g]? = some fn ∧ (cFn P (phiOf ids) fn).map stripF = some (stripF cf)

theorem linked {P : Program} {ids : List (Nat × Nat)} {C : Prog} (hc : (ids.all fun x => decide (psiOf ids x.1 = x.2)) = true) (ht : TreeAll (FnOk P ids) C.fns) (hm : P.follows .mixedOrders = true) :
    Linked P (phiOf ids) (psiOf ids) C :=
  ⟨psi_phi hc, fun _ _ h => ht.get h, hm⟩

end Go.Pav
