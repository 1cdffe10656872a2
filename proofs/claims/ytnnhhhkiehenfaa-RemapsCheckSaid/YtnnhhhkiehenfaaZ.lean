/- The law RemapsCheck says true for every input; its arguments read behind the call as before. No conditions. -/
import Derived.Test.YtnnhhhkiehenfaaT5
namespace Go.Proofs.Ytnnhhhkiehenfaa
open Go.ChangeShapes Go.WideShapes Go.ChangeAt Go.RowKit Go.Pav Go.Pw P09

theorem core43 (vs : List AV) (h : TyAll [.g [.int .i64, .slice [.int .i64]], .c (.int .i64)] vs) : FnW prog 43 vs = some (.bool true) := by
  match vs, h with
  | [a, b], ⟨⟨es, ha, hl, hes⟩, hb, _⟩ =>
    subst ha
    obtain ⟨v, rfl, _⟩ := ty_i64 hb
    match es, hl with
    | [x, y], _ =>
      obtain ⟨o, rfl, _⟩ := ty_i64 (hes 0 _ x rfl rfl)
      obtain ⟨f, e, rfl⟩ := ty_ints (hes 1 _ y rfl rfl)
      exact Go.C09.checkL_ok has_ fns2_ (by rfl) o f e v

theorem args3 : Try.f3.params.toList.map (argT Try.prog) = ([.g [.int .i64, .slice [.int .i64]], .c (.int .i64)] : List AT).map some := by kernel_rfl

set_option maxRecDepth 100000 in
theorem lifted3 (os : Os) (started : os.Started) (H : Type) (enc : TypeId × Value → H) :
    ReturnsInHanded {} Try.checked os 3 .any (Rows.remapsCheckSpec.pre6 enc Try.prog Try.f3 Rows.remapsCheckRow.domain false) (Rows.remapsCheckSpec.post enc Try.prog Try.f3 false true false false) := by
  refine returnsInHanded_of_change (C := Try.checked) own_ started (by kernel_rfl) Try.func3
    (ChangeSpec.witness6 (enc := enc) (C := Try.checked) false ⟨#[], #[.agg #[.int .i64 0, .slice none 0 0], .int .i64 0], []⟩ 8 (by kernel_rfl) (by kernel_rfl) (by kernel_rfl) (by kernel_rfl)) ?_
  intro W base args ds gs before hval hW hcnd _
  have hW' := hW
  obtain ⟨p, q, hA, hV, rfl, hfz, hnd⟩ := hW
  obtain ⟨rfl, rfl⟩ := trodVars_none hV
  have hlen : ds.length = 2 := (trodAll_len hA).trans (by simp)
  refine (law_calls (enc := enc) link okT (f := 43) args3 core43 (fun j t v e1 e2 => hval j t v (by simpa using e1) e2) hA).mono ?_
  rintro e W' ⟨rfl, h1, h2, h3, h4⟩
  refine ⟨_, rfl, law_post kids_ full_ rfl hW' ?_ (of_decide_eq_true (by kernel_rfl)) rfl (by kernel_rfl) h1 h2 h3 h4⟩
  match ds, hlen with
  | [d1, d2], _ => rfl

theorem remapsCheck_holds : Rows.RemapsCheckSaid :=
  OpenClaim.holds_of_wide 3 Try.f3 rfl rfl rfl rfl rfl rfl rfl ⟨rfl, rfl, rfl, rfl, rfl⟩ rfl rfl rfl rfl rfl (by kernel_rfl) Try.func3 (by kernel_rfl)
    (of_decide_eq_true (by kernel_rfl)) (by unfold Func.isWrapper; first | (rw [if_pos (by decide +kernel)]; kernel_rfl) | (rw [if_neg (by decide +kernel)]; exact ⟨rfl, rfl⟩))
    (fun os started H enc _ => lifted3 os started H enc)

end Go.Proofs.Ytnnhhhkiehenfaa
