/- The law RemapsCompose says true for every input; its arguments read behind the call as before. No conditions. -/
import Derived.Test.YtnnhhhkiehenfaaT5
namespace Go.Proofs.Ytnnhhhkiehenfaa
open Go.ChangeShapes Go.WideShapes Go.ChangeAt Go.RowKit Go.Pav Go.Pw P09

theorem core47 (vs : List AV) (h : TyAll [.g [.int .u8, .slice [.int .u8, .int .u8, .int .u8, .int .u8]], .c (.slice [.int .u8, .int .u8, .int .u8, .int .u8]), .c (.slice [.int .u8, .int .u8, .int .u8, .int .u8])] vs) : FnW prog 47 vs = some (.bool true) := by
  match vs, h with
  | [a, b, c], ⟨⟨es, ha, hl, hes⟩, hb, hc, _⟩ =>
    subst ha
    obtain ⟨m1, e1, rfl, h1⟩ := ty_steps hb
    obtain ⟨m2, e2, rfl, h2⟩ := ty_steps hc
    match es, hl with
    | [x, y], _ =>
      obtain ⟨N, rfl, hN⟩ := ty_u8 (hes 0 _ x rfl rfl)
      obtain ⟨ss, e, rfl, hs⟩ := ty_steps (hes 1 _ y rfl rfl)
      exact Go.C09.composeL_ok has_ fns_ fns2_ (by rfl) N hN ss m1 m2 e e1 e2 hs h1 h2

theorem args7 : Try.f7.params.toList.map (argT Try.prog) = ([.g [.int .u8, .slice [.int .u8, .int .u8, .int .u8, .int .u8]], .c (.slice [.int .u8, .int .u8, .int .u8, .int .u8]), .c (.slice [.int .u8, .int .u8, .int .u8, .int .u8])] : List AT).map some := by kernel_rfl

set_option maxRecDepth 100000 in
theorem lifted7 (os : Os) (started : os.Started) (H : Type) (enc : TypeId × Value → H) :
    ReturnsInHanded {} Try.checked os 7 .any (Rows.remapsComposeSpec.pre6 enc Try.prog Try.f7 Rows.remapsComposeRow.domain false) (Rows.remapsComposeSpec.post enc Try.prog Try.f7 false true false false) := by
  refine returnsInHanded_of_change (C := Try.checked) own_ started (by kernel_rfl) Try.func7
    (ChangeSpec.witness6 (enc := enc) (C := Try.checked) false ⟨#[], #[.agg #[.int .u8 0, .slice none 0 0], .slice none 0 0, .slice none 0 0], []⟩ 8 (by kernel_rfl) (by kernel_rfl) (by kernel_rfl) (by kernel_rfl)) ?_
  intro W base args ds gs before hval hW hcnd _
  have hW' := hW
  obtain ⟨p, q, hA, hV, rfl, hfz, hnd⟩ := hW
  obtain ⟨rfl, rfl⟩ := trodVars_none hV
  have hlen : ds.length = 3 := (trodAll_len hA).trans (by simp)
  refine (law_calls (enc := enc) link okT (f := 47) args7 core47 (fun j t v e1 e2 => hval j t v (by simpa using e1) e2) hA).mono ?_
  rintro e W' ⟨rfl, h1, h2, h3, h4⟩
  refine ⟨_, rfl, law_post kids_ full_ rfl hW' ?_ (of_decide_eq_true (by kernel_rfl)) rfl (by kernel_rfl) h1 h2 h3 h4⟩
  match ds, hlen with
  | [d1, d2, d3], _ => rfl

theorem remapsCompose_holds : Rows.RemapsComposeSaid :=
  OpenClaim.holds_of_wide 7 Try.f7 rfl rfl rfl rfl rfl rfl rfl ⟨rfl, rfl, rfl, rfl, rfl⟩ rfl rfl rfl rfl rfl (by kernel_rfl) Try.func7 (by kernel_rfl)
    (of_decide_eq_true (by kernel_rfl)) (by unfold Func.isWrapper; first | (rw [if_pos (by decide +kernel)]; kernel_rfl) | (rw [if_neg (by decide +kernel)]; exact ⟨rfl, rfl⟩))
    (fun os started H enc _ => lifted7 os started H enc)

end Go.Proofs.Ytnnhhhkiehenfaa
