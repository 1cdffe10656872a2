/- The law RemapsKnown says true. No conditions. -/
import Derived.Test.YtnnhhhkiehenfaaT5
namespace Go.Proofs.Ytnnhhhkiehenfaa
open Go.ChangeShapes Go.WideShapes Go.ChangeAt Go.RowKit Go.Pav Go.Pw P09

theorem core48 (vs : List AV) (h : TyAll [] vs) : FnW prog 48 vs = some (.bool true) := by
  match vs, h with
  | [], _ => exact Go.C09.knownL_ok has_ fns2_ (by rfl)

theorem args8 : Try.f8.params.toList.map (argT Try.prog) = ([] : List AT).map some := by kernel_rfl

set_option maxRecDepth 100000 in
theorem lifted8 (os : Os) (started : os.Started) (H : Type) (enc : TypeId × Value → H) :
    ReturnsInHanded {} Try.checked os 8 .any (Rows.remapsKnownSpec.pre6 enc Try.prog Try.f8 Rows.remapsKnownRow.domain false) (Rows.remapsKnownSpec.post enc Try.prog Try.f8 false true false false) := by
  refine returnsInHanded_of_change (C := Try.checked) own_ started (by kernel_rfl) Try.func8
    (ChangeSpec.witness6 (enc := enc) (C := Try.checked) false ⟨#[], #[], []⟩ 8 (by kernel_rfl) (by kernel_rfl) (by kernel_rfl) (by kernel_rfl)) ?_
  intro W base args ds gs before hval hW hcnd _
  have hW' := hW
  obtain ⟨p, q, hA, hV, rfl, hfz, hnd⟩ := hW
  obtain ⟨rfl, rfl⟩ := trodVars_none hV
  have hlen : ds.length = 0 := (trodAll_len hA).trans (by kernel_rfl)
  refine (law_calls (enc := enc) link okT (f := 48) args8 core48 (fun j t v e1 e2 => hval j t v (by simp at e1) e2) hA).mono ?_
  rintro e W' ⟨rfl, h1, h2, h3, h4⟩
  refine ⟨_, rfl, law_post kids_ full_ rfl hW' ?_ (of_decide_eq_true (by kernel_rfl)) rfl (by kernel_rfl) h1 h2 h3 h4⟩
  match ds, hlen with
  | [], _ => rfl

theorem remapsKnown_holds : Rows.RemapsKnownSaid :=
  OpenClaim.holds_of_wide 8 Try.f8 rfl rfl rfl rfl rfl rfl rfl ⟨rfl, rfl, rfl, rfl, rfl⟩ rfl rfl rfl rfl rfl (by kernel_rfl) Try.func8 (by kernel_rfl)
    (of_decide_eq_true (by kernel_rfl)) (by unfold Func.isWrapper; first | (rw [if_pos (by decide +kernel)]; kernel_rfl) | (rw [if_neg (by decide +kernel)]; exact ⟨rfl, rfl⟩))
    (fun os started H enc _ => lifted8 os started H enc)

end Go.Proofs.Ytnnhhhkiehenfaa
