/- Part of the theory that the claims of this work use: C21e. No conditions of its own. -/
import Derived.Test.YtebbokkffdjpdaaC21d
namespace Go.C21
open Go Go.Pav Go.Pw P21
set_option maxRecDepth 10000
set_option maxHeartbeats 4000000
attribute [-simp] List.getElem_cons_drop
variable {C : WProg} (H : Has C)
include H

omit H in
theorem cat_loop (rs : List (List Int × Bool)) (f : Bool) (h2 : rs.length ≤ 8) : ∀ n i, n + i = rs.length → ∀ (acc : List Int) (k : Nat), k = (cat (rs.drop i)).length → 0 < acc.length + k →
    w28_K0 C ⟨[(27, .int .i64 i), (26, .int .i64 rs.length), (25, .ro 1 (rs.map eR) f), (6, .sl 0 1 0 acc.length (acc.length + k) false)],
      [(0, .cells 1 (acc.map eI ++ List.replicate k [.int .i64 0]) true true)], 1⟩ = some (L1 (acc ++ cat (rs.drop i)) false) := by
  intro n
  induction n with
  | zero =>
    intro i hi acc k hk hpos
    simp only [w28_K0]; rw [ck_unf w28_B0.eq_1]
    have h3 : ¬ i < rs.length := by omega
    have h4 : rs.drop i = [] := List.drop_eq_nil_of_le (by omega)
    have h5 : k = 0 := by rw [h4] at hk; simpa [cat] using hk
    subst h5
    simp (disch := (first | omega | (simp <;> omega))) [ck_unf w28_c0.eq_1, h3, h4, cat, List.take_of_length_le]
  | succ n ih =>
    intro i hi acc k hk hpos
    have h3 : i < rs.length := by omega
    obtain ⟨row, hrow⟩ : ∃ row, rs[i].1 = row := ⟨_, rfl⟩
    have h4 : cat (rs.drop i) = row ++ cat (rs.drop (i + 1)) := by
      rw [drop_cons h3, ← hrow]; rfl
    rw [h4] at hk ⊢
    simp only [List.length_append] at hk
    obtain ⟨k', hk'⟩ : ∃ k', (cat (rs.drop (i + 1))).length = k' := ⟨_, rfl⟩
    rw [hk'] at hk
    have := ih (i + 1) (by omega) (acc ++ row) k' hk'.symm (by simp; omega)
    simp only [w28_K0] at this ⊢; rw [ck_unf w28_B0.eq_1]
    subst hk
    cases row with
    | nil =>
      simp [L1] at this
      simp (disch := omega) [h3, hrow, wI64, this]
    | cons a row =>
      have h5 : acc.length + (row.length + 1) + k' = acc.length + (row.length + 1 + k') := by omega
      have h6 : acc.length + (row.length + 1) ≤ acc.length + (row.length + 1 + k') := by omega
      have h7 : row.length + 1 + k' - (row.length + 1) = k' := by omega
      simp [L1, h5] at this
      have h8 : List.take acc.length (List.map eI acc ++ List.replicate (row.length + 1 + k') [AV.int IntKind.i64 0]) = List.map eI acc := by
        rw [List.take_append_of_le_length (by simp), List.take_of_length_le (by simp)]
      have h9 : List.drop (acc.length + (row.length + 1)) (List.map eI acc ++ List.replicate (row.length + 1 + k') [AV.int IntKind.i64 0]) = List.replicate k' [AV.int IntKind.i64 0] := by
        rw [List.drop_append, List.drop_eq_nil_of_le (by simp), List.drop_replicate]
        simp
      simp (disch := omega) [h3, hrow, wI64, h6, h8, h9, this]

omit H in
theorem cat0_loop (rs : List (List Int × Bool)) (f : Bool) (h2 : rs.length ≤ 8) (h0 : cat rs = []) : ∀ n i, n + i = rs.length →
    w28_K0 C ⟨[(27, .int .i64 i), (26, .int .i64 rs.length), (25, .ro 1 (rs.map eR) f), (6, .ro 1 [] true)], [], 0⟩ = some (.ro 1 [] true) := by
  intro n
  induction n with
  | zero =>
    intro i hi
    simp only [w28_K0]; rw [ck_unf w28_B0.eq_1]
    have h3 : ¬ i < rs.length := by omega
    simp [ck_unf w28_c0.eq_1, h3]
  | succ n ih =>
    intro i hi
    have h3 : i < rs.length := by omega
    have hrow : rs[i].1 = [] := List.flatMap_eq_nil_iff.1 h0 _ (List.getElem_mem h3)
    have := ih (i + 1) (by omega)
    simp only [w28_K0] at this ⊢; rw [ck_unf w28_B0.eq_1]
    simp at this
    simp (disch := omega) [h3, hrow, wI64, this]

theorem all_ok (bs : List Int) (e : Bool) (rs : List (List Int × Bool)) (f : Bool) :
    FnW C 16 [eP bs e rs f] = some (.tup (if chk bs rs = 0 then [L1 (cat rs) true, .int .i64 0] else [.ro 1 [] true, .int .i64 (chk bs rs)])) := by
  have h := check_ok H bs e rs f
  rw [fnW_eq H.f16 rfl]
  by_cases c : chk bs rs = 0
  · obtain ⟨h6, h5, h7, h8⟩ := of_rows c
    have h9 : (cat rs).length ≤ 65536 * rs.length := by
      have : ∀ l : List (List Int × Bool), (∀ r ∈ l, r.1.length ≤ 65536) → (cat l).length ≤ 65536 * l.length := by
        intro l
        induction l with
        | nil => intro _; simp [cat]
        | cons a l ih =>
          intro hl
          have h1 := ih (fun r hr => hl r (List.mem_cons_of_mem _ hr))
          have h2 := hl a List.mem_cons_self
          have h3 : cat (a :: l) = a.1 ++ cat l := rfl
          rw [h3, List.length_append, List.length_cons]; omega
      exact this rs h7
    have h10 : FnW C 28 [.ro 1 (rs.map eR) f] = some (L1 (cat rs) (decide ((cat rs).length = 0))) := by
      have hs := sum_loop (C := C) rs f h7 (by omega) rs.length 0 (by simp) 0 (by simp) (by omega)
      simp only [w28_K1] at hs
      simp at hs
      have hg := fun a b h n => rnW_eq (args := [a, b]) H.f35 rfl h n
      rw [fnW_eq H.f28 rfl]
      by_cases hz : (cat rs).length = 0
      · have hl := cat0_loop (C := C) rs f (by omega) (List.length_eq_zero_iff.1 hz) rs.length 0 (by simp)
        have hne : cat rs = [] := List.length_eq_zero_iff.1 hz
        simp only [w28_K0] at hl
        rw [hz] at hs
        simp at hl hs
        simp [w28, hs]
        rw [ck_unf w28_c1.eq_1]
        simp (disch := omega) [H.inl, hg, w35, wI64, fits, hl, hne]
      · obtain ⟨m, hm⟩ : ∃ m, (cat rs).length = m + 1 := ⟨(cat rs).length - 1, by omega⟩
        have hl := cat_loop (C := C) rs f (by omega) rs.length 0 (by simp) [] (cat rs).length (by simp) (by simp; omega)
        simp only [w28_K0] at hl
        simp at hl
        have hne : cat rs ≠ [] := fun q => hz (by rw [q]; rfl)
        rw [hm] at hs hl
        simp [List.replicate_succ] at hl
        simp at hs
        simp [w28, hs]
        rw [ck_unf w28_c1.eq_1]
        have hlt : ¬ (m : Int) + 1 < 0 := by omega
        have hgt : (0 : Int) < (m : Int) + 1 := by omega
        simp (disch := omega) [H.inl, hg, w35, wI64, fits, hl, List.replicate_succ, hne, hlt, hgt]
    simp [w16, H.inl, h, c, h10, clip_ok H]
  · simp [w16, H.inl, h, c]
end Go.C21
