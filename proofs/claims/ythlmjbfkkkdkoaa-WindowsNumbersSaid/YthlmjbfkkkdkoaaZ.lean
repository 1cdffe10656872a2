/- The law WindowsNumbers says true for every input; its arguments read behind the call as before. No conditions. -/
import Derived.Test.YthlmjbfkkkdkoaaT5
namespace Go.Proofs.Ythlmjbfkkkdkoaa
open Go.ChangeShapes Go.WideShapes Go.ChangeAt Go.RowKit Go.Pav Go.Pw P Go.D
theorem hasWn_ : HasWnL prog := { inl := rfl, pp := rfl, f268 := rfl, f419 := rfl, f607 := rfl, f269 := rfl, f420 := rfl, f421 := rfl, f508 := rfl, f509 := rfl, f555 := rfl, f274 := rfl, f608 := rfl, f445 := rfl, f177 := rfl, f136 := rfl, f605 := rfl }
theorem lives_ : FnW prog 129 [] = some (.bool true) := fnW_call.2 ⟨400, isTrue_eq (by kernel_rfl)⟩
theorem core605 (vs : List AV) (h : TyAll [.c (.int .i64), .c (.int .i64), .g [.int .i64, .slice [.int .i64], .slice [.int .i64]]] vs) : FnW prog 605 vs = some (.bool true) := by
 match vs, h with
 | [a, n, b], ⟨ha, hn, ⟨fs, hb, hl2, hfs⟩, _⟩ =>
  subst hb
  obtain ⟨v, rfl, _⟩ := ty_i64 ha
  obtain ⟨x, rfl, _⟩ := ty_i64 hn
  match fs, hl2 with
  | [u, v, w], _ =>
   obtain ⟨o, rfl, ho⟩ := ty_i64 (hfs 0 _ u rfl rfl)
   obtain ⟨a, e, rfl⟩ := ty_ints (hfs 1 _ v rfl rfl)
   obtain ⟨b, f, rfl⟩ := ty_ints (hfs 2 _ w rfl rfl)
   exact wnlaw_ok hasWn_ lives_ _ x o a b e f
theorem args5 : Try.f5.params.toList.map (argT Try.prog) = ([.c (.int .i64), .c (.int .i64), .g [.int .i64, .slice [.int .i64], .slice [.int .i64]]] : List AT).map some := by kernel_rfl
set_option maxRecDepth 100000 in
theorem lifted5 (os : Os) (started : os.Started) (H : Type) (enc : TypeId × Value → H) :
 ReturnsInHanded {} Try.checked os 5 .any (Rows.windowsNumbersSpec.pre6 enc Try.prog Try.f5 Rows.windowsNumbersRow.domain false) (Rows.windowsNumbersSpec.post enc Try.prog Try.f5 false true false false) := by
 refine returnsInHanded_of_change (C := Try.checked) own_ started (by kernel_rfl) Try.func5
  (ChangeSpec.witness6 (enc := enc) (C := Try.checked) false ⟨#[], #[.int .i64 0, .int .i64 0, .agg #[.int .i64 0, .slice none 0 0, .slice none 0 0]], []⟩ 8 (by kernel_rfl) (by kernel_rfl) (by kernel_rfl) (by kernel_rfl)) ?_
 intro W base args ds gs before hval hW hcnd _
 have hW' := hW
 obtain ⟨p, q, hA, hV, rfl, hfz, hnd⟩ := hW
 obtain ⟨rfl, rfl⟩ := trodVars_none hV
 have hlen : ds.length = 3 := (trodAll_len hA).trans (by simp)
 refine (law_calls (enc := enc) link okT (f := 605) args5 core605 (fun j t v e1 e2 => hval j t v (by simpa using e1) e2) hA).mono ?_
 rintro e W' ⟨rfl, h1, h2, h3, h4⟩
 refine ⟨_, rfl, law_post kids_ full_ rfl hW' ?_ (of_decide_eq_true (by kernel_rfl)) rfl (by kernel_rfl) h1 h2 h3 h4⟩
 match ds, hlen with
 | [d1, d2, d3], _ => rfl
theorem windowsNumbers_holds : Rows.WindowsNumbersSaid :=
 OpenClaim.holds_of_wide 5 Try.f5 rfl rfl rfl rfl rfl rfl rfl ⟨rfl, rfl, rfl, rfl, rfl⟩ rfl rfl rfl rfl rfl (by kernel_rfl) Try.func5 (by kernel_rfl)
  (of_decide_eq_true (by kernel_rfl)) (by unfold Func.isWrapper; first | (rw [if_pos (by decide +kernel)]; kernel_rfl) | (rw [if_neg (by decide +kernel)]; exact ⟨rfl, rfl⟩))
  (fun os started H enc _ => lifted5 os started H enc)
end Go.Proofs.Ythlmjbfkkkdkoaa
