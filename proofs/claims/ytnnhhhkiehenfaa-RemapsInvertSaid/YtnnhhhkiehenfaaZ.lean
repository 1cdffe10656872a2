/- The law RemapsInvert says true for every input; its arguments read behind the call as before. No conditions. -/
import Derived.Test.YtnnhhhkiehenfaaT5
namespace Go.Proofs.Ytnnhhhkiehenfaa
open Go.ChangeShapes Go.WideShapes Go.ChangeAt Go.RowKit Go.Pav Go.Pw P09

theorem core44 (vs : List AV) (h : TyAll [.g [.int .u8, .slice [.int .u8, .int .u8, .int .u8, .int .u8]], .g [.int .u8, .int .u8, .int .u8]] vs) : FnW prog 44 vs = some (.bool true) := by
  match vs, h with
  | [a, b], ⟨⟨es, ha, hl, hes⟩, ⟨fs, hb, hl2, hfs⟩, _⟩ =>
    subst ha
    subst hb
    match es, hl with
    | [x, y], _ =>
      obtain ⟨N, rfl, hN⟩ := ty_u8 (hes 0 _ x rfl rfl)
      obtain ⟨ss, e, rfl, hs⟩ := ty_steps (hes 1 _ y rfl rfl)
      match fs, hl2 with
      | [u, v, w], _ =>
        obtain ⟨z0, rfl, h0⟩ := ty_u8 (hfs 0 _ u rfl rfl)
        obtain ⟨z1, rfl, h1⟩ := ty_u8 (hfs 1 _ v rfl rfl)
        obtain ⟨z2, rfl, h2⟩ := ty_u8 (hfs 2 _ w rfl rfl)
        exact Go.C09.invertL_ok has_ fns_ fns2_ (by rfl) N hN ss e hs z0 z1 z2 h0 h1 h2

theorem args4 : Try.f4.params.toList.map (argT Try.prog) = ([.g [.int .u8, .slice [.int .u8, .int .u8, .int .u8, .int .u8]], .g [.int .u8, .int .u8, .int .u8]] : List AT).map some := by kernel_rfl

set_option maxRecDepth 100000 in
theorem lifted4 (os : Os) (started : os.Started) (H : Type) (enc : TypeId × Value → H) :
    ReturnsInHanded {} Try.checked os 4 .any (Rows.remapsInvertSpec.pre6 enc Try.prog Try.f4 Rows.remapsInvertRow.domain false) (Rows.remapsInvertSpec.post enc Try.prog Try.f4 false true false false) := by
  refine returnsInHanded_of_change (C := Try.checked) own_ started (by kernel_rfl) Try.func4
    (ChangeSpec.witness6 (enc := enc) (C := Try.checked) false ⟨#[], #[.agg #[.int .u8 0, .slice none 0 0], .agg #[.int .u8 0, .int .u8 0, .int .u8 0]], []⟩ 8 (by kernel_rfl) (by kernel_rfl) (by kernel_rfl) (by kernel_rfl)) ?_
  intro W base args ds gs before hval hW hcnd _
  have hW' := hW
  obtain ⟨p, q, hA, hV, rfl, hfz, hnd⟩ := hW
  obtain ⟨rfl, rfl⟩ := trodVars_none hV
  have hlen : ds.length = 2 := (trodAll_len hA).trans (by simp)
  refine (law_calls (enc := enc) link okT (f := 44) args4 core44 (fun j t v e1 e2 => hval j t v (by simpa using e1) e2) hA).mono ?_
  rintro e W' ⟨rfl, h1, h2, h3, h4⟩
  refine ⟨_, rfl, law_post kids_ full_ rfl hW' ?_ (of_decide_eq_true (by kernel_rfl)) rfl (by kernel_rfl) h1 h2 h3 h4⟩
  match ds, hlen with
  | [d1, d2], _ => rfl

theorem remapsInvert_holds : Rows.RemapsInvertSaid :=
  OpenClaim.holds_of_wide 4 Try.f4 rfl rfl rfl rfl rfl rfl rfl ⟨rfl, rfl, rfl, rfl, rfl⟩ rfl rfl rfl rfl rfl (by kernel_rfl) Try.func4 (by kernel_rfl)
    (of_decide_eq_true (by kernel_rfl)) (by unfold Func.isWrapper; first | (rw [if_pos (by decide +kernel)]; kernel_rfl) | (rw [if_neg (by decide +kernel)]; exact ⟨rfl, rfl⟩))
    (fun os started H enc _ => lifted4 os started H enc)

end Go.Proofs.Ytnnhhhkiehenfaa
