/- Contracts of the functions of pools. -/
import Derived.Test.YtebbokkffdjpdaaPwP21
import Derived.Test.YtebbokkffdjpdaaPwLib
namespace Go.C21
open Go Go.Pav Go.Pw P21
set_option maxRecDepth 10000
set_option maxHeartbeats 4000000
set_option linter.unusedSimpArgs false
set_option linter.unusedVariables false
attribute [-simp] List.getElem_cons_drop

/-- A row of numbers. -/
@[simp] def eR (r : List Int × Bool) : List AV := [L1 r.1 r.2]
/-- Pools. -/
abbrev eP (bs : List Int) (e : Bool) (rs : List (List Int × Bool)) (f : Bool) : AV := .agg [L1 bs e, .ro 1 (rs.map eR) f]
abbrev zP : AV := .agg [.ro 1 [] true, .ro 1 [] true]

structure Has (C : WProg) : Prop where
  f5 : C.fns.get 5 = some w5
  f10 : C.fns.get 10 = some w10
  f11 : C.fns.get 11 = some w11
  f12 : C.fns.get 12 = some w12
  f14 : C.fns.get 14 = some w14
  f15 : C.fns.get 15 = some w15
  f16 : C.fns.get 16 = some w16
  f19 : C.fns.get 19 = some w19
  f20 : C.fns.get 20 = some w20
  f21 : C.fns.get 21 = some w21
  f24 : C.fns.get 24 = some w24
  f25 : C.fns.get 25 = some w25
  f26 : C.fns.get 26 = some w26
  f28 : C.fns.get 28 = some w28
  f35 : C.fns.get 35 = some w35
  inl : C.inl = fun f => decide (f = 35 ∨ f = 42)

variable {C : WProg} (H : Has C)
include H

theorem copied_ok (xs : List Int) (e : Bool) (hx : xs.length ≤ 1000000) : FnW C 21 [L1 xs e] = some (L1 xs true) := by
  rw [fnW_eq H.f21 rfl]
  by_cases h0 : xs = []
  · subst h0; simp [w21]
  simp (disch := omega) [w21, fits, h0]
  simp [List.take_of_length_le]

omit H in
theorem ints_loop (xs ys : List Int) (e : Bool) (hl : xs.length = ys.length) (hx : xs.length ≤ 1000000) : ∀ n i, n + i = xs.length →
    w14_K0 C ⟨[(5, .int .i64 i), (1, L1 ys e), (0, L1 xs true)], [], 0⟩ = some (.int .i64 (if xs.drop i = ys.drop i then 1 else 0)) := by
  intro n
  induction n with
  | zero =>
    intro i hi
    simp only [w14_K0]; rw [ck_unf w14_B0.eq_1]
    have h1 : xs.drop i = [] := List.drop_eq_nil_of_le (by omega)
    have h2 : ys.drop i = [] := List.drop_eq_nil_of_le (by omega)
    have h3 : ¬ i < xs.length := by omega
    simp [ck_unf w14_c0.eq_1, h1, h2, h3]
  | succ n ih =>
    intro i hi
    have h1 : i < xs.length := by omega
    have h2 : i < ys.length := by omega
    have := ih (i + 1) (by omega)
    simp only [w14_K0] at this ⊢; rw [ck_unf w14_B0.eq_1]
    rw [List.drop_eq_getElem_cons h1, List.drop_eq_getElem_cons h2]
    simp (disch := omega) [h1, h2, wI64] at this ⊢
    split
    · rename_i h3
      simpa [h3] using this
    · rename_i h3
      simp [h3]

theorem ints_ok (xs ys : List Int) (e : Bool) (hx : xs.length ≤ 1000000) : FnW C 14 [L1 xs true, L1 ys e] = some (.int .i64 (if xs = ys then 1 else 0)) := by
  rw [fnW_eq H.f14 rfl]
  by_cases hl : xs.length = ys.length
  · have := ints_loop (C := C) xs ys e hl hx xs.length 0 (by simp)
    simp [w14, hl] at this ⊢
    exact this
  · have : xs ≠ ys := fun q => hl (by rw [q])
    simp [w14, hl, this]

omit H in
def okP (x : Int × (List Int × Bool)) : Bool := decide (0 ≤ x.1 ∧ x.1 ≤ 65536 ∧ (x.2.1.length : Int) ≤ x.1)
omit H in
/-- 0, or ErrArg. -/
def b01 (b : Bool) : Int := match b with
  | true => 0
  | false => 1
omit H in
@[simp] theorem b01_t : b01 true = 0 := rfl
omit H in
@[simp] theorem b01_f : b01 false = 1 := rfl
omit H in
def allOk (l : List (Int × (List Int × Bool))) : Bool := l.all okP
omit H in
theorem allOk_cons (x : Int × (List Int × Bool)) (l : List (Int × (List Int × Bool))) : allOk (x :: l) = (okP x && allOk l) := rfl
omit H in
theorem allOk_nil : allOk [] = true := rfl
omit H in
def chk (bs : List Int) (rs : List (List Int × Bool)) : Int := b01 (decide (1 ≤ bs.length) && (decide (bs.length ≤ 8) && (decide (rs.length = bs.length) && allOk (bs.zip rs))))

omit H in
theorem check_loop (bs : List Int) (e : Bool) (rs : List (List Int × Bool)) (f : Bool) (hl : rs.length = bs.length) (hx : bs.length ≤ 8) : ∀ n i, n + i = bs.length →
    w20_K0 C ⟨[(25, .int .i64 i), (24, .int .i64 bs.length), (23, L1 bs e), (1, .ptr 0 0 0)], [(0, .cells 2 [[L1 bs e, .ro 1 (rs.map eR) f]] true true)], 1⟩ = some (.int .i64 (b01 (allOk ((bs.zip rs).drop i)))) := by
  intro n
  induction n with
  | zero =>
    intro i hi
    simp only [w20_K0]; rw [ck_unf w20_B0.eq_1]
    have h1 : (bs.zip rs).drop i = [] := List.drop_eq_nil_of_le (by simp; omega)
    have h3 : ¬ i < bs.length := by omega
    simp [ck_unf w20_c0.eq_1, h1, h3, allOk_nil]
  | succ n ih =>
    intro i hi
    have h1 : i < bs.length := by omega
    have h2 : i < rs.length := by omega
    have := ih (i + 1) (by omega)
    simp only [w20_K0] at this ⊢; rw [ck_unf w20_B0.eq_1]
    rw [List.drop_eq_getElem_cons (show i < (bs.zip rs).length by simp; omega)]
    simp (disch := omega) [h1, h2, wI64, okP, allOk_cons] at this ⊢
    rw [this]
    by_cases c1 : 0 ≤ bs[i]
    · by_cases c2 : bs[i] ≤ 65536
      · by_cases c3 : bs[i] < (rs[i].1.length : Int)
        · have c4 : ¬ (rs[i].1.length : Int) ≤ bs[i] := by omega
          simp [c1, c2, c3, c4]
        · have c4 : (rs[i].1.length : Int) ≤ bs[i] := by omega
          simp [c1, c2, c3, c4]
      · simp [c1, c2]
    · simp [c1]

theorem check_ok (bs : List Int) (e : Bool) (rs : List (List Int × Bool)) (f : Bool) : FnW C 20 [eP bs e rs f] = some (.int .i64 (chk bs rs)) := by
  rw [fnW_eq H.f20 rfl]
  unfold chk
  by_cases c1 : 1 ≤ bs.length
  · by_cases c2 : bs.length ≤ 8
    · by_cases c3 : rs.length = bs.length
      · have := check_loop (C := C) bs e rs f c3 c2 bs.length 0 (by simp)
        have c4 : ¬ (bs.length : Int) < 1 := by omega
        have c5 : ¬ 8 < (bs.length : Int) := by omega
        simp only [w20_K0] at this
        simp at this
        simp [w20, c1, c2, c3, c4, c5, this]
      · have c4 : ¬ (bs.length : Int) < 1 := by omega
        have c5 : ¬ 8 < (bs.length : Int) := by omega
        simp [w20, c1, c2, c3, c4, c5]
    · have c4 : ¬ (bs.length : Int) < 1 := by omega
      have c5 : 8 < (bs.length : Int) := by omega
      simp [w20, c1, c2, c4, c5]
  · have c4 : (bs.length : Int) < 1 := by omega
    simp [w20, c1, c4]

/-- The error of pools and a type. -/
def ofE (bs : List Int) (rs : List (List Int × Bool)) (k : Int) : Int := if chk bs rs ≠ 0 then chk bs rs else if k < 0 ∨ (bs.length : Int) ≤ k then 4 else 0

theorem of_ok (bs : List Int) (e : Bool) (rs : List (List Int × Bool)) (f : Bool) (k : Int) : FnW C 24 [eP bs e rs f, .int .i64 k] = some (.int .i64 (ofE bs rs k)) := by
  have h := check_ok H bs e rs f
  rw [fnW_eq H.f24 rfl]
  unfold ofE
  by_cases c : chk bs rs = 0
  · by_cases c1 : k < 0
    · simp [w24, H.inl, h, c, c1]
    · by_cases c2 : (bs.length : Int) ≤ k
      · simp [w24, H.inl, h, c, c1, c2]
      · simp [w24, H.inl, h, c, c1, c2]
  · simp [w24, H.inl, h, c]

omit H in
theorem of_zero {bs : List Int} {rs : List (List Int × Bool)} {k : Int} (c : ofE bs rs k = 0) : chk bs rs = 0 ∧ 0 ≤ k ∧ k.toNat < rs.length ∧ rs.length = bs.length ∧ k.toNat < bs.length := by
  have h1 : chk bs rs = 0 := by
    unfold ofE at c
    split at c
    · exact c
    · rename_i q; simpa using q
  have h2 : rs.length = bs.length := by
    unfold chk at h1
    by_cases q : rs.length = bs.length
    · exact q
    · simp [q] at h1
  unfold ofE at c
  rw [if_neg (by simp [h1])] at c
  split at c
  · cases c
  · exact ⟨h1, by omega, by omega, h2, by omega⟩

theorem len_ok (bs : List Int) (e : Bool) (rs : List (List Int × Bool)) (f : Bool) (k : Int) : FnW C 15 [eP bs e rs f, .int .i64 k] = some (.tup (if ofE bs rs k = 0 then [.int .i64 (rs[k.toNat]?.getD ([], true)).1.length, .int .i64 0] else [.int .i64 0, .int .i64 (ofE bs rs k)])) := by
  have h := of_ok H bs e rs f k
  rw [fnW_eq H.f15 rfl]
  by_cases c : ofE bs rs k = 0
  · obtain ⟨_, h1, h2, _⟩ := of_zero c
    simp [w15, H.inl, h, c, nat?_of h1, h2]
  · simp [w15, H.inl, h, c]

theorem clip_ok (xs : List Int) (e : Bool) : FnW C 26 [L1 xs e] = some (L1 xs true) := by
  rw [fnW_eq H.f26 rfl]
  simp [w26, List.take_of_length_le]
end Go.C21
