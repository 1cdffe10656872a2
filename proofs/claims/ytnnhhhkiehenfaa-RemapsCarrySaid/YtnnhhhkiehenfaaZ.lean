/- The law RemapsCarry says true for every input; its arguments read behind the call as before. No conditions. -/
import Derived.Test.YtnnhhhkiehenfaaT5
namespace Go.Proofs.Ytnnhhhkiehenfaa
open Go.ChangeShapes Go.WideShapes Go.ChangeAt Go.RowKit Go.Pav Go.Pw P09

theorem core45 (vs : List AV) (h : TyAll [.g [.int .u8, .slice [.int .u8, .int .u8, .int .u8, .int .u8]], .c (.slice [.int .u8, .int .u8, .int .u8, .int .u8]), .c (.int .i64)] vs) : FnW prog 45 vs = some (.bool true) := by
  match vs, h with
  | [a, b, c], ⟨⟨es, ha, hl, hes⟩, hb, hc, _⟩ =>
    subst ha
    match es, hl with
    | [x, y], _ =>
      obtain ⟨N, rfl, hN⟩ := ty_u8 (hes 0 _ x rfl rfl)
      obtain ⟨ss, e, rfl, hs⟩ := ty_steps (hes 1 _ y rfl rfl)
      obtain ⟨mm, e1, rfl, hm⟩ := ty_steps hb
      obtain ⟨z, rfl, hz⟩ := ty_i64 hc
      exact Go.C09.carryL_ok has_ fns_ fns2_ (by rfl) (by rfl) (by rfl) N hN ss mm e e1 hs hm z

theorem args5 : Try.f5.params.toList.map (argT Try.prog) = ([.g [.int .u8, .slice [.int .u8, .int .u8, .int .u8, .int .u8]], .c (.slice [.int .u8, .int .u8, .int .u8, .int .u8]), .c (.int .i64)] : List AT).map some := by kernel_rfl

set_option maxRecDepth 100000 in
theorem lifted5 (os : Os) (started : os.Started) (H : Type) (enc : TypeId × Value → H) :
    ReturnsInHanded {} Try.checked os 5 .any (Rows.remapsCarrySpec.pre6 enc Try.prog Try.f5 Rows.remapsCarryRow.domain false) (Rows.remapsCarrySpec.post enc Try.prog Try.f5 false true false false) := by
  refine returnsInHanded_of_change (C := Try.checked) own_ started (by kernel_rfl) Try.func5
    (ChangeSpec.witness6 (enc := enc) (C := Try.checked) false ⟨#[], #[.agg #[.int .u8 0, .slice none 0 0], .slice none 0 0, .int .i64 0], []⟩ 8 (by kernel_rfl) (by kernel_rfl) (by kernel_rfl) (by kernel_rfl)) ?_
  intro W base args ds gs before hval hW hcnd _
  have hW' := hW
  obtain ⟨p, q, hA, hV, rfl, hfz, hnd⟩ := hW
  obtain ⟨rfl, rfl⟩ := trodVars_none hV
  have hlen : ds.length = 3 := (trodAll_len hA).trans (by simp)
  refine (law_calls (enc := enc) link okT (f := 45) args5 core45 (fun j t v e1 e2 => hval j t v (by simpa using e1) e2) hA).mono ?_
  rintro e W' ⟨rfl, h1, h2, h3, h4⟩
  refine ⟨_, rfl, law_post kids_ full_ rfl hW' ?_ (of_decide_eq_true (by kernel_rfl)) rfl (by kernel_rfl) h1 h2 h3 h4⟩
  match ds, hlen with
  | [d1, d2, d3], _ => rfl

theorem remapsCarry_holds : Rows.RemapsCarrySaid :=
  OpenClaim.holds_of_wide 5 Try.f5 rfl rfl rfl rfl rfl rfl rfl ⟨rfl, rfl, rfl, rfl, rfl⟩ rfl rfl rfl rfl rfl (by kernel_rfl) Try.func5 (by kernel_rfl)
    (of_decide_eq_true (by kernel_rfl)) (by unfold Func.isWrapper; first | (rw [if_pos (by decide +kernel)]; kernel_rfl) | (rw [if_neg (by decide +kernel)]; exact ⟨rfl, rfl⟩))
    (fun os started H enc _ => lifted5 os started H enc)

end Go.Proofs.Ytnnhhhkiehenfaa
