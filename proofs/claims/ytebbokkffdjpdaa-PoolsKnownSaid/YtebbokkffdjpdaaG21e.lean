/- The law PoolsErrors says true for every input; its arguments read behind the call as before. No conditions. -/
import Derived.Test.YtebbokkffdjpdaaRows
import Derived.Test.YtebbokkffdjpdaaL21
import Derived.Test.YtebbokkffdjpdaaC21g
import Derived.Test.YtebbokkffdjpdaaPwGlue
import Derived.ProofKit
namespace Go.Proofs.Ytebbokkffdjpdaa
open Go.ChangeShapes Go.WideShapes Go.ChangeAt Go.RowKit Go.Pav Go.Pw P21

theorem own_ : ownKnob Try.prog.godebug = none := by kernel_rfl
theorem kids_ : Kids Try.prog (· < Try.prog.types.size) := kids_rows (by kernel_rfl) (by kernel_rfl)
theorem full_ : ∀ t e, t < Try.prog.types.size → Try.prog.underlying t = some (.slice e) → 0 < Try.prog.cellsOf e := slices_full_of Try.prog (by kernel_rfl)

theorem has_ : Go.C21.Has prog := ⟨rfl, rfl, rfl, rfl, rfl, rfl, rfl, rfl, rfl, rfl, rfl, rfl, rfl, rfl, rfl, rfl⟩

theorem lives_ : FnW prog 18 [] = some (.bool true) := fnW_call.2 ⟨300, isTrue_eq (by kernel_rfl)⟩

theorem ty_ints {a : AV} (h : Ty (.slice [.int .i64]) a) : ∃ xs e, a = L1 xs e := by
  obtain ⟨xs, e, rfl, _, hx⟩ := ty_slice1 h
  obtain ⟨ys, rfl⟩ := ty_map (g := fun n : Int => AV.int .i64 n) (fun a ha => by cases ha with | int k n => exact ⟨n, rfl⟩) xs hx
  exact ⟨ys, e, by simp [L1, List.map_map, Function.comp_def]⟩

theorem core3 (vs : List AV) (h : TyAll [.g [.slice [.int .i64], .slice [.slice [.int .i64]]], .c (.int .i64), .c (.int .i64)] vs) : FnW prog 3 vs = some (.bool true) := by
  match vs, h with
  | [a, b, c], ⟨⟨es, ha, hl, hes⟩, hb, hc, _⟩ =>
    subst ha
    cases hb with
    | int k n hn1 hn2 =>
      cases hc with
      | int k m hm1 hm2 =>
        match es, hl with
        | [x, y], _ =>
          obtain ⟨bs, e, rfl⟩ := ty_ints (hes 0 _ x rfl rfl)
          obtain ⟨ys, f, rfl, _, hy⟩ := ty_slice1 (hes 1 _ y rfl rfl)
          obtain ⟨rs, rfl⟩ := ty_map (g := fun r : List Int × Bool => L1 r.1 r.2) (fun a ha => by obtain ⟨xs, e, rfl⟩ := ty_ints ha; exact ⟨(xs, e), rfl⟩) ys hy
          have hm2 : m ≤ 9223372036854775807 := hm2
          have := Go.C21.errors_ok has_ (by rfl) lives_ bs e rs f n m (by omega)
          simp only [List.map_map, Function.comp_def]
          exact this

theorem args5 : Try.f5.params.toList.map (argT Try.prog) = [AT.g [.slice [.int .i64], .slice [.slice [.int .i64]]], .c (.int .i64), .c (.int .i64)].map some := by kernel_rfl

set_option maxRecDepth 100000 in
theorem lifted5 (os : Os) (started : os.Started) (H : Type) (enc : TypeId × Value → H) :
    ReturnsInHanded {} Try.checked os 5 .any (Rows.poolsErrorsSpec.pre6 enc Try.prog Try.f5 Rows.poolsErrorsRow.domain false) (Rows.poolsErrorsSpec.post enc Try.prog Try.f5 false true false false) := by
  refine returnsInHanded_of_change (C := Try.checked) own_ started (by kernel_rfl) Try.func5
    (ChangeSpec.witness6 (enc := enc) (C := Try.checked) false ⟨#[], #[.agg #[.slice none 0 0, .slice none 0 0], .int .i64 0, .int .i64 0], []⟩ 8 (by kernel_rfl) (by kernel_rfl) (by kernel_rfl) (by kernel_rfl)) ?_
  intro W base args ds gs before hval hW hcnd _
  have hW' := hW
  obtain ⟨p, q, hA, hV, rfl, hfz, hnd⟩ := hW
  obtain ⟨rfl, rfl⟩ := trodVars_none hV
  have hlen : ds.length = 3 := (trodAll_len hA).trans (by simp)
  refine (law_calls (enc := enc) link okT (f := 3) args5 core3 (fun j t v e1 e2 => hval j t v (by simpa using e1) e2) hA).mono ?_
  rintro e W' ⟨rfl, h1, h2, h3, h4⟩
  refine ⟨_, rfl, law_post kids_ full_ rfl hW' ?_ (of_decide_eq_true (by kernel_rfl)) rfl (by kernel_rfl) h1 h2 h3 h4⟩
  match ds, hlen with
  | [d1, d2, d3], _ => rfl

theorem poolsErrors_holds : Rows.PoolsErrorsSaid :=
  OpenClaim.holds_of_wide 5 Try.f5 rfl rfl rfl rfl rfl rfl rfl ⟨rfl, rfl, rfl, rfl, rfl⟩ rfl rfl rfl rfl rfl (by kernel_rfl) Try.func5 (by kernel_rfl)
    (of_decide_eq_true (by kernel_rfl)) (by unfold Func.isWrapper; first | (rw [if_pos (by decide +kernel)]; kernel_rfl) | (rw [if_neg (by decide +kernel)]; exact ⟨rfl, rfl⟩))
    (fun os started H enc _ => lifted5 os started H enc)

#print axioms poolsErrors_holds
end Go.Proofs.Ytebbokkffdjpdaa
