/- The law HeadsAt says true for every input; its arguments read behind the call as before. No conditions. -/
import Derived.Test.YtfombghmbbfpaaaT4
namespace Go.Proofs.Ytfombghmbbfpaaa
open Go.ChangeShapes Go.WideShapes Go.ChangeAt Go.RowKit Go.Pav Go.Pw P Go.D
theorem hasAl_ : HasAl prog := { inl := rfl, pp := rfl, f309 := rfl, f446 := rfl, f450 := rfl, f615 := rfl, f614 := rfl }
theorem lives_ : FnW prog 157 [] = some (.bool true) := fnW_call.2 ⟨400, isTrue_eq (by kernel_rfl)⟩
theorem core614 (vs : List AV) (h : TyAll [.c (.slice [.int .i64, .int .i64, .int .i64, .int .i64]), .c (.int .i64)] vs) : FnW prog 614 vs = some (.bool true) := by
 match vs, h with
 | [a, b], ⟨ha, hb, _⟩ =>
  obtain ⟨es, e, rfl, hl, hx⟩ := ty_slice ha
  obtain ⟨s, rfl, hs⟩ := ty_i64 hb
  obtain ⟨xs, rfl, _⟩ := ty_map2 (g := eSe) (R := fun _ => True) (fun l q => by
   obtain ⟨q1, q2⟩ := q
   match l, q1 with
   | [u, v, w, x], _ =>
    obtain ⟨n1, rfl, h1⟩ := ty_i64 (q2 0 _ u rfl rfl)
    obtain ⟨n2, rfl, h2⟩ := ty_i64 (q2 1 _ v rfl rfl)
    obtain ⟨n3, rfl, h3⟩ := ty_i64 (q2 2 _ w rfl rfl)
    obtain ⟨n4, rfl, h4⟩ := ty_i64 (q2 3 _ x rfl rfl)
    exact ⟨⟨n1, n2, n3, n4⟩, rfl, trivial⟩) es hx
  exact atlaw_ok hasAl_ lives_ xs e s
theorem args3 : Try.f3.params.toList.map (argT Try.prog) = ([.c (.slice [.int .i64, .int .i64, .int .i64, .int .i64]), .c (.int .i64)] : List AT).map some := by kernel_rfl
set_option maxRecDepth 100000 in
theorem lifted3 (os : Os) (started : os.Started) (H : Type) (enc : TypeId × Value → H) :
 ReturnsInHanded {} Try.checked os 3 .any (Rows.headsAtSpec.pre6 enc Try.prog Try.f3 Rows.headsAtRow.domain false) (Rows.headsAtSpec.post enc Try.prog Try.f3 false true false false) := by
 refine returnsInHanded_of_change (C := Try.checked) own_ started (by kernel_rfl) Try.func3
  (ChangeSpec.witness6 (enc := enc) (C := Try.checked) false ⟨#[], #[.slice none 0 0, .int .i64 0], []⟩ 8 (by kernel_rfl) (by kernel_rfl) (by kernel_rfl) (by kernel_rfl)) ?_
 intro W base args ds gs before hval hW hcnd _
 have hW' := hW
 obtain ⟨p, q, hA, hV, rfl, hfz, hnd⟩ := hW
 obtain ⟨rfl, rfl⟩ := trodVars_none hV
 have hlen : ds.length = 2 := (trodAll_len hA).trans (by simp)
 refine (law_calls (enc := enc) link okT (f := 614) args3 core614 (fun j t v e1 e2 => hval j t v (by simpa using e1) e2) hA).mono ?_
 rintro e W' ⟨rfl, h1, h2, h3, h4⟩
 refine ⟨_, rfl, law_post kids_ full_ rfl hW' ?_ (of_decide_eq_true (by kernel_rfl)) rfl (by kernel_rfl) h1 h2 h3 h4⟩
 match ds, hlen with
 | [d1, d2], _ => rfl
theorem headsAt_holds : Rows.HeadsAtSaid :=
 OpenClaim.holds_of_wide 3 Try.f3 rfl rfl rfl rfl rfl rfl rfl ⟨rfl, rfl, rfl, rfl, rfl⟩ rfl rfl rfl rfl rfl (by kernel_rfl) Try.func3 (by kernel_rfl)
  (of_decide_eq_true (by kernel_rfl)) (by unfold Func.isWrapper; first | (rw [if_pos (by decide +kernel)]; kernel_rfl) | (rw [if_neg (by decide +kernel)]; exact ⟨rfl, rfl⟩))
  (fun os started H enc _ => lifted3 os started H enc)
end Go.Proofs.Ytfombghmbbfpaaa
