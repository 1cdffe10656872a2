/- The law RemapsMade says true for every input; its argument reads behind the call as before. No conditions. -/
import Derived.Test.YtnnhhhkiehenfaaT5
namespace Go.Proofs.Ytnnhhhkiehenfaa
open Go.ChangeShapes Go.WideShapes Go.ChangeAt Go.RowKit Go.Pav Go.Pw P09

theorem core46 (vs : List AV) (h : TyAll [.g [.int .i64, .int .i64, .int .i64, .int .i64]] vs) : FnW prog 46 vs = some (.bool true) := by
  match vs, h with
  | [a], ⟨⟨es, ha, hl, hes⟩, _⟩ =>
    subst ha
    match es, hl with
    | [x, y, z, w], _ =>
      obtain ⟨n, rfl, _⟩ := ty_i64 (hes 0 _ x rfl rfl)
      obtain ⟨a, rfl, _⟩ := ty_i64 (hes 1 _ y rfl rfl)
      obtain ⟨m, rfl, hm⟩ := ty_i64 (hes 2 _ z rfl rfl)
      obtain ⟨t, rfl, _⟩ := ty_i64 (hes 3 _ w rfl rfl)
      exact Go.C09.madeL_ok has_ fns_ fns2_ (by rfl) n a m t (by omega)

theorem args6 : Try.f6.params.toList.map (argT Try.prog) = ([.g [.int .i64, .int .i64, .int .i64, .int .i64]] : List AT).map some := by kernel_rfl

set_option maxRecDepth 100000 in
theorem lifted6 (os : Os) (started : os.Started) (H : Type) (enc : TypeId × Value → H) :
    ReturnsInHanded {} Try.checked os 6 .any (Rows.remapsMadeSpec.pre6 enc Try.prog Try.f6 Rows.remapsMadeRow.domain false) (Rows.remapsMadeSpec.post enc Try.prog Try.f6 false true false false) := by
  refine returnsInHanded_of_change (C := Try.checked) own_ started (by kernel_rfl) Try.func6
    (ChangeSpec.witness6 (enc := enc) (C := Try.checked) false ⟨#[], #[.agg #[.int .i64 0, .int .i64 0, .int .i64 0, .int .i64 0]], []⟩ 8 (by kernel_rfl) (by kernel_rfl) (by kernel_rfl) (by kernel_rfl)) ?_
  intro W base args ds gs before hval hW hcnd _
  have hW' := hW
  obtain ⟨p, q, hA, hV, rfl, hfz, hnd⟩ := hW
  obtain ⟨rfl, rfl⟩ := trodVars_none hV
  have hlen : ds.length = 1 := (trodAll_len hA).trans (by simp)
  refine (law_calls (enc := enc) link okT (f := 46) args6 core46 (fun j t v e1 e2 => hval j t v (by simpa using e1) e2) hA).mono ?_
  rintro e W' ⟨rfl, h1, h2, h3, h4⟩
  refine ⟨_, rfl, law_post kids_ full_ rfl hW' ?_ (of_decide_eq_true (by kernel_rfl)) rfl (by kernel_rfl) h1 h2 h3 h4⟩
  match ds, hlen with
  | [d1], _ => rfl

theorem remapsMade_holds : Rows.RemapsMadeSaid :=
  OpenClaim.holds_of_wide 6 Try.f6 rfl rfl rfl rfl rfl rfl rfl ⟨rfl, rfl, rfl, rfl, rfl⟩ rfl rfl rfl rfl rfl (by kernel_rfl) Try.func6 (by kernel_rfl)
    (of_decide_eq_true (by kernel_rfl)) (by unfold Func.isWrapper; first | (rw [if_pos (by decide +kernel)]; kernel_rfl) | (rw [if_neg (by decide +kernel)]; exact ⟨rfl, rfl⟩))
    (fun os started H enc _ => lifted6 os started H enc)

end Go.Proofs.Ytnnhhhkiehenfaa
