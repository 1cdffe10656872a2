/- Part of the theory that the claims of this work use: C21f. No conditions of its own. -/
import Derived.Test.YtebbokkffdjpdaaC21e
namespace Go.C21
open Go Go.Pav Go.Pw P21
set_option maxRecDepth 10000
set_option maxHeartbeats 4000000
attribute [-simp] List.getElem_cons_drop
variable {C : WProg} (H : Has C)
include H

omit H in
theorem rcheck_loop (bs : List Int) (e : Bool) (rs : List (List Int × Bool)) (f : Bool) (hl : rs.length = bs.length) (hx : bs.length ≤ 8) : ∀ n i, n + i = bs.length → ∀ bad : Bool,
    w19_K0 C ⟨[(4, .int .i64 i), (3, .bool bad), (1, .ptr 0 0 0)], [(0, .cells 2 [[L1 bs e, .ro 1 (rs.map eR) f]] true true)], 1⟩ = some (.int .i64 (b01 (!bad && allOk ((bs.zip rs).drop i)))) := by
  intro n
  induction n with
  | zero =>
    intro i hi bad
    simp only [w19_K0]; rw [ck_unf w19_B0.eq_1]
    have h1 : (bs.zip rs).drop i = [] := List.drop_eq_nil_of_le (by simp; omega)
    have h3 : ¬ i < bs.length := by omega
    cases bad <;> simp [ck_unf w19_c0.eq_1, h1, h3, allOk_nil]
  | succ n ih =>
    intro i hi bad
    have h1 : i < bs.length := by omega
    have h2 : i < rs.length := by omega
    have hih := ih (i + 1) (by omega)
    simp only [w19_K0] at hih ⊢; rw [ck_unf w19_B0.eq_1]
    simp only [Int.natCast_add, Int.cast_ofNat_Int] at hih
    cases bad with
    | true => simp [ck_unf w19_c0.eq_1, h1]
    | false =>
      rw [List.drop_eq_getElem_cons (show i < (bs.zip rs).length by simp; omega)]
      by_cases c1 : bs[i] < 0
      · have c4 : ¬ 0 ≤ bs[i] := by omega
        simp (disch := omega) [h1, h2, wI64, okP, allOk_cons, hih, c1, c4]
      · have c4 : 0 ≤ bs[i] := by omega
        by_cases c2 : 65536 < bs[i]
        · have c5 : ¬ bs[i] ≤ 65536 := by omega
          simp (disch := omega) [h1, h2, wI64, okP, allOk_cons, hih, c1, c4, c2, c5]
        · have c5 : bs[i] ≤ 65536 := by omega
          by_cases c3 : bs[i] < (rs[i].1.length : Int)
          · have c6 : ¬ (rs[i].1.length : Int) ≤ bs[i] := by omega
            simp (disch := omega) [h1, h2, wI64, okP, allOk_cons, hih, c1, c4, c2, c5, c3, c6]
          · have c6 : (rs[i].1.length : Int) ≤ bs[i] := by omega
            simp (disch := omega) [h1, h2, wI64, okP, allOk_cons, hih, c1, c4, c2, c5, c3, c6]

omit H in
theorem rcheck_bad (bs : List Int) (e : Bool) (rs : List (List Int × Bool)) (f : Bool) :
    w19_K0 C ⟨[(4, .int .i64 0), (3, .bool true), (1, .ptr 0 0 0)], [(0, .cells 2 [[L1 bs e, .ro 1 (rs.map eR) f]] true true)], 1⟩ = some (.int .i64 1) := by
  simp only [w19_K0]; rw [ck_unf w19_B0.eq_1]
  by_cases h : 0 < bs.length
  · simp [ck_unf w19_c0.eq_1, h]
  · simp [ck_unf w19_c0.eq_1, h]

theorem rcheck_ok (bs : List Int) (e : Bool) (rs : List (List Int × Bool)) (f : Bool) : FnW C 19 [eP bs e rs f] = some (.int .i64 (chk bs rs)) := by
  rw [fnW_eq H.f19 rfl]
  unfold chk
  have hb := rcheck_bad (C := C) bs e rs f
  simp only [w19_K0] at hb
  by_cases c1 : 1 ≤ bs.length
  · by_cases c2 : bs.length ≤ 8
    · by_cases c3 : rs.length = bs.length
      · have := rcheck_loop (C := C) bs e rs f c3 c2 bs.length 0 (by simp) false
        have c4 : ¬ bs.length < 1 := by omega
        have c5 : ¬ 8 < bs.length := by omega
        simp only [w19_K0] at this
        simp at this
        simp [w19, c1, c2, c3, c4, c5, this]
      · have c4 : ¬ bs.length < 1 := by omega
        have c5 : ¬ 8 < bs.length := by omega
        have c6 : ¬ bs.length = rs.length := by omega
        have c7 : ((bs.length : Int) != (rs.length : Int)) = true := by simp; exact c6
        simp [w19, c1, c2, c3, c4, c5, c7, hb]
    · have c4 : ¬ bs.length < 1 := by omega
      have c5 : 8 < bs.length := by omega
      simp [w19, c1, c2, c4, c5, hb]
  · have c4 : bs.length < 1 := by omega
    simp [w19, c1, c4, hb]
end Go.C21
