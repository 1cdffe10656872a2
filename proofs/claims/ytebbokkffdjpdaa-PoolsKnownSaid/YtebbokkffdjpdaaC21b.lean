/- Part of the theory that the claims of this work use: C21b. No conditions of its own. -/
import Derived.Test.YtebbokkffdjpdaaC21
namespace Go.C21
open Go Go.Pav Go.Pw P21
set_option maxRecDepth 10000
set_option maxHeartbeats 4000000
attribute [-simp] List.getElem_cons_drop
variable {C : WProg} (H : Has C)
include H
/-- The rows behind i, with another list of a type. -/
def withR (rs : List (List Int × Bool)) (k : Nat) (row : List Int) (i : Nat) : List (List Int × Bool) := match rs with
  | [] => []
  | r :: rs => (if i = k then row else r.1, true) :: withR rs k row (i + 1)

theorem with_loop (bs : List Int) (rs : List (List Int × Bool)) (f : Bool) (k : Nat) (row : List Int) (g : Bool) (h2 : rs.length ≤ 1000) (hr : ∀ r ∈ rs, r.1.length ≤ 1000000) (hg : row.length ≤ 1000000) : ∀ n i, n + i = rs.length → ∀ (acc : List (List Int × Bool)), acc.length = i →
    w25_K0 C ⟨[(21, .int .i64 i), (20, .int .i64 rs.length), (19, .ro 1 (rs.map eR) f), (7, .ptr 0 0 0), (6, .ptr 2 0 0), (2, L1 row g), (1, .int .i64 k)],
      [(0, .cells 2 [[L1 bs true, .sl 1 1 0 rs.length rs.length true]] true false), (1, .cells 1 (acc.map eR ++ List.replicate n [AV.ro 1 [] true]) true true), (2, .cells 2 [[.ro 1 [] true, .ro 1 [] true]] true true)], 3⟩ =
      some (eP bs true (acc ++ withR (rs.drop i) k row i) true) := by
  intro n
  induction n with
  | zero =>
    intro i hi acc ha
    simp only [w25_K0]; rw [ck_unf w25_B0.eq_1]
    have h3 : ¬ i < rs.length := by omega
    have h4 : rs.drop i = [] := List.drop_eq_nil_of_le (by omega)
    have h5 : acc.length = rs.length := by omega
    have h6 : List.take rs.length (List.map eR acc) = List.map eR acc := List.take_of_length_le (by simp [h5])
    simp [ck_unf w25_c0.eq_1, h3, h4, withR, h5, h6]
  | succ n ih =>
    intro i hi acc ha
    have h3 : i < rs.length := by omega
    have hri := hr _ (List.getElem_mem h3)
    rw [drop_cons h3]
    by_cases hk : i = k
    · subst hk
      have := ih (i + 1) (by omega) (acc ++ [(row, true)]) (by simp [ha])
      simp only [w25_K0] at this ⊢; rw [ck_unf w25_B0.eq_1]
      simp at this
      simp (disch := omega) [copied_ok H, H.inl, wI64, h3, fill_get, fill_set, withR, this]
    · have := ih (i + 1) (by omega) (acc ++ [(rs[i].1, true)]) (by simp [ha])
      simp only [w25_K0] at this ⊢; rw [ck_unf w25_B0.eq_1]
      simp at this
      simp (disch := omega) [copied_ok H, H.inl, wI64, h3, hk, fill_get, fill_set, withR, this]

theorem with_ok (bs : List Int) (e : Bool) (rs : List (List Int × Bool)) (f : Bool) (k : Nat) (row : List Int) (g : Bool) (h1 : bs.length ≤ 1000) (h2 : rs.length ≤ 1000) (hr : ∀ r ∈ rs, r.1.length ≤ 1000000) (hg : row.length ≤ 1000000) :
    FnW C 25 [eP bs e rs f, .int .i64 k, L1 row g] = some (eP bs true (withR rs k row 0) true) := by
  have := with_loop H bs rs f k row g h2 hr hg rs.length 0 (by simp) [] rfl
  rw [fnW_eq H.f25 rfl]
  simp only [w25_K0] at this
  simp at this
  simp (disch := omega) [w25, H.inl, copied_ok H, fits, this]

theorem new_ok (bs : List Int) (e : Bool) :
    FnW C 5 [L1 bs e] = some (.tup (if chk bs (bs.map fun _ => ([], true)) = 0 then [eP bs true (bs.map fun _ => ([], true)) true, .int .i64 0] else [zP, .int .i64 1])) := by
  rw [fnW_eq H.f5 rfl]
  obtain ⟨rs, hrs⟩ : ∃ rs : List (List Int × Bool), bs.map (fun _ => (([] : List Int), true)) = rs := ⟨_, rfl⟩
  have h3 : List.replicate bs.length [AV.ro 1 [] true] = rs.map eR := by
    rw [← hrs, List.map_map]
    exact (List.map_const' ..).symm
  have h7 : rs.length = bs.length := by rw [← hrs]; simp
  have h8 : List.take bs.length (List.map eR rs) = List.map eR rs := List.take_of_length_le (by simp [h7])
  rw [hrs]
  by_cases h1 : bs.length ≤ 8
  · have h2 := check_ok H bs true rs true
    have h4 : ¬ 8 < bs.length := by omega
    by_cases h5 : chk bs rs = 0
    · simp (disch := omega) [w5, H.inl, copied_ok H, fits, h1, h4, h3, h2, h5, h7, h8]
    · have h6 : chk bs rs = 1 := by
        unfold chk at h5 ⊢
        unfold b01 at h5 ⊢
        split
        · rename_i q; rw [q] at h5; exact absurd rfl h5
        · rfl
      simp (disch := omega) [w5, H.inl, copied_ok H, fits, h1, h4, h3, h2, h6, h7, h8]
  · have h2 : 8 < bs.length := by omega
    have h5 : chk bs rs = 1 := by simp [chk, h1]
    simp (disch := omega) [w5, H.inl, copied_ok H, fits, h1, h2, h5]

omit H in
theorem of_rows {bs : List Int} {rs : List (List Int × Bool)} (c : chk bs rs = 0) : bs.length ≤ 8 ∧ rs.length = bs.length ∧ (∀ r ∈ rs, r.1.length ≤ 65536) ∧ ∀ (i : Nat) (h1 : i < bs.length) (h2 : i < rs.length), 0 ≤ bs[i] ∧ bs[i] ≤ 65536 ∧ (rs[i].1.length : Int) ≤ bs[i] := by
  have hb : ∀ b, b01 b = 0 → b = true := by intro b; cases b <;> simp
  have := hb _ c
  simp only [Bool.and_eq_true, decide_eq_true_eq] at this
  obtain ⟨h1, h2, h3, h4⟩ := this
  have h5 : ∀ (i : Nat) (h1 : i < bs.length) (h2 : i < rs.length), 0 ≤ bs[i] ∧ bs[i] ≤ 65536 ∧ (rs[i].1.length : Int) ≤ bs[i] := by
    intro i q1 q2
    have := List.all_eq_true.1 h4 (bs[i], rs[i]) (by
      have q3 : (bs.zip rs)[i]'(by simp; omega) = (bs[i], rs[i]) := List.getElem_zip
      exact q3 ▸ List.getElem_mem _)
    simpa [okP] using this
  refine ⟨h2, h3, fun r hr => ?_, h5⟩
  obtain ⟨i, hi, rfl⟩ := List.getElem_of_mem hr
  have := h5 i (by omega) hi
  omega

theorem push_ok (bs : List Int) (e : Bool) (rs : List (List Int × Bool)) (f : Bool) (k x : Int) :
    FnW C 10 [eP bs e rs f, .int .i64 k, .int .i64 x] = some (.tup (if ofE bs rs k = 0 then (if ((rs[k.toNat]?.getD ([], true)).1.length : Int) = bs[k.toNat]?.getD 0 then [eP bs true (withR rs k.toNat (rs[k.toNat]?.getD ([], true)).1 0) true, .bool true, .int .i64 0]
      else [eP bs true (withR rs k.toNat ((rs[k.toNat]?.getD ([], true)).1 ++ [x]) 0) true, .bool false, .int .i64 0]) else [zP, .bool false, .int .i64 (ofE bs rs k)])) := by
  have h := of_ok H bs e rs f k
  rw [fnW_eq H.f10 rfl]
  by_cases c : ofE bs rs k = 0
  · obtain ⟨h1, h2, h3, h4, h5⟩ := of_zero c
    obtain ⟨h6, _, h7, h8⟩ := of_rows h1
    obtain ⟨k, rfl⟩ : ∃ n : Nat, k = n := ⟨k.toNat, by omega⟩
    simp only [Int.toNat_natCast] at h3 h5 ⊢
    have hrk := h7 _ (List.getElem_mem h3)
    have hw : ∀ row g, row.length ≤ 1000000 → FnW C 25 [eP bs e rs f, .int .i64 k, L1 row g] = some (eP bs true (withR rs k row 0) true) :=
      fun row g hg => with_ok H bs e rs f k row g (by omega) (by omega) (fun r hr => by have := h7 r hr; omega) hg
    by_cases c2 : (rs[k].1.length : Int) = bs[k]
    · simp (disch := (first | omega | (simp; omega))) [w10, H.inl, h, c, h3, h5, hw, c2]
    · have hw2 := hw (rs[k].1 ++ [x]) false (by simp; omega)
      simp [L1] at hw2
      simp (disch := (first | omega | (simp; done) | (simp; omega))) [w10, H.inl, h, c, h3, h5, hw2, c2, clip_ok H, fits, List.take_of_length_le]
  · simp [w10, H.inl, h, c]

theorem pop_ok (bs : List Int) (e : Bool) (rs : List (List Int × Bool)) (f : Bool) (k : Int) :
    FnW C 11 [eP bs e rs f, .int .i64 k] = some (.tup (if ofE bs rs k = 0 then (if (rs[k.toNat]?.getD ([], true)).1.length = 0 then [eP bs true (withR rs k.toNat [] 0) true, .int .i64 0, .bool false, .int .i64 0]
      else [eP bs true (withR rs k.toNat ((rs[k.toNat]?.getD ([], true)).1.take ((rs[k.toNat]?.getD ([], true)).1.length - 1)) 0) true, .int .i64 ((rs[k.toNat]?.getD ([], true)).1[(rs[k.toNat]?.getD ([], true)).1.length - 1]?.getD 0), .bool true, .int .i64 0]) else [zP, .int .i64 0, .bool false, .int .i64 (ofE bs rs k)])) := by
  have h := of_ok H bs e rs f k
  rw [fnW_eq H.f11 rfl]
  by_cases c : ofE bs rs k = 0
  · obtain ⟨h1, h2, h3, h4, h5⟩ := of_zero c
    obtain ⟨h6, _, h7, h8⟩ := of_rows h1
    obtain ⟨k, rfl⟩ : ∃ n : Nat, k = n := ⟨k.toNat, by omega⟩
    simp only [Int.toNat_natCast] at h3 h5 ⊢
    have hrk := h7 _ (List.getElem_mem h3)
    have hw : ∀ row g, row.length ≤ 1000000 → FnW C 25 [eP bs e rs f, .int .i64 k, L1 row g] = some (eP bs true (withR rs k row 0) true) :=
      fun row g hg => with_ok H bs e rs f k row g (by omega) (by omega) (fun r hr => by have := h7 r hr; omega) hg
    by_cases hn : rs[k].1.length = 0
    · have hl : rs[k].1 = [] := List.length_eq_zero_iff.1 hn
      have := hw [] (rs[k].2) (by simp)
      simp [L1] at this
      simp (disch := (first | omega | (simp; done) | (simp; omega))) [w11, H.inl, h, c, h3, h5, hl, wI64, this]
    · obtain ⟨n, hn2⟩ : ∃ n, rs[k].1.length = n + 1 := ⟨rs[k].1.length - 1, by omega⟩
      have h9 : n < rs[k].1.length := by omega
      have hwn : IntKind.i64.wrap (n : Int) = n := wI64 (by omega) (by omega)
      have hlt : ¬ (n : Int) < 0 := by omega
      have := hw (rs[k].1.take n) false (by simp; omega)
      simp [L1] at this
      simp (disch := (first | omega | (simp; done) | (simp; omega))) [w11, H.inl, h, c, h3, h5, hn2, hwn, h9, this, hlt]
  · simp [w11, H.inl, h, c]
end Go.C21
