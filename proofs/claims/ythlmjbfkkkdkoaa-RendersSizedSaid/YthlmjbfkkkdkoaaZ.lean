/- The law RendersSized says true for every input; its arguments read behind the call as before. No conditions. -/
import Derived.Test.YthlmjbfkkkdkoaaT5
namespace Go.Proofs.Ythlmjbfkkkdkoaa
open Go.ChangeShapes Go.WideShapes Go.ChangeAt Go.RowKit Go.Pav Go.Pw P Go.D
theorem hasRs_ : HasRs prog := { inl := rfl, pp := rfl, f111 := rfl, f402 := rfl, f504 := rfl, f407 := rfl, f122 := rfl, f249 := rfl, f250 := rfl, f246 := rfl, f247 := rfl, f411 := rfl, f412 := rfl, f120 := rfl, f248 := rfl, f121 := rfl, f251 := rfl, f252 := rfl, f253 := rfl, f254 := rfl, f255 := rfl, f272 := rfl, f327 := rfl, f123 := rfl }
theorem lives_ : FnW prog 128 [] = some (.bool true) := fnW_call.2 ⟨400, isTrue_eq (by kernel_rfl)⟩
theorem core123 (vs : List AV) (h : TyAll [.g [.slice enT], .c (.int .i64), .g [.int .i64, .int .i64]] vs) : FnW prog 123 vs = some (.bool true) := by
 match vs, h with
 | [a, n, b], ⟨⟨es, ha, hl, hes⟩, hn, ⟨fs, hb, hl2, hfs⟩, _⟩ =>
  subst ha
  subst hb
  obtain ⟨x, rfl, hx⟩ := ty_i64 hn
  match es, hl with
  | [u], _ =>
   obtain ⟨l, e, rfl, h1, h2⟩ := ty_ens (hes 0 _ u rfl rfl)
   match fs, hl2 with
   | [u, v], _ =>
    obtain ⟨o, rfl, ho⟩ := ty_i64 (hfs 0 _ u rfl rfl)
    obtain ⟨w, rfl, hw⟩ := ty_i64 (hfs 1 _ v rfl rfl)
    exact rslaw_ok hasRs_ lives_ l e h2 (fun x hx => (h1 x hx).s) x o w hx ho hw
theorem args3 : Try.f3.params.toList.map (argT Try.prog) = ([.g [.slice enT], .c (.int .i64), .g [.int .i64, .int .i64]] : List AT).map some := by kernel_rfl
set_option maxRecDepth 100000 in
theorem lifted3 (os : Os) (started : os.Started) (H : Type) (enc : TypeId × Value → H) :
 ReturnsInHanded {} Try.checked os 3 .any (Rows.rendersSizedSpec.pre6 enc Try.prog Try.f3 Rows.rendersSizedRow.domain false) (Rows.rendersSizedSpec.post enc Try.prog Try.f3 false true false false) := by
 refine returnsInHanded_of_change (C := Try.checked) own_ started (by kernel_rfl) Try.func3
  (ChangeSpec.witness6 (enc := enc) (C := Try.checked) false ⟨#[], #[.agg #[.slice none 0 0], .int .i64 0, .agg #[.int .i64 0, .int .i64 0]], []⟩ 8 (by kernel_rfl) (by kernel_rfl) (by kernel_rfl) (by kernel_rfl)) ?_
 intro W base args ds gs before hval hW hcnd _
 have hW' := hW
 obtain ⟨p, q, hA, hV, rfl, hfz, hnd⟩ := hW
 obtain ⟨rfl, rfl⟩ := trodVars_none hV
 have hlen : ds.length = 3 := (trodAll_len hA).trans (by simp)
 refine (law_calls (enc := enc) link okT (f := 123) args3 core123 (fun j t v e1 e2 => hval j t v (by simpa using e1) e2) hA).mono ?_
 rintro e W' ⟨rfl, h1, h2, h3, h4⟩
 refine ⟨_, rfl, law_post kids_ full_ rfl hW' ?_ (of_decide_eq_true (by kernel_rfl)) rfl (by kernel_rfl) h1 h2 h3 h4⟩
 match ds, hlen with
 | [d1, d2, d3], _ => rfl
theorem rendersSized_holds : Rows.RendersSizedSaid :=
 OpenClaim.holds_of_wide 3 Try.f3 rfl rfl rfl rfl rfl rfl rfl ⟨rfl, rfl, rfl, rfl, rfl⟩ rfl rfl rfl rfl rfl (by kernel_rfl) Try.func3 (by kernel_rfl)
  (of_decide_eq_true (by kernel_rfl)) (by unfold Func.isWrapper; first | (rw [if_pos (by decide +kernel)]; kernel_rfl) | (rw [if_neg (by decide +kernel)]; exact ⟨rfl, rfl⟩))
  (fun os started H enc _ => lifted3 os started H enc)
end Go.Proofs.Ythlmjbfkkkdkoaa
