/- Part of the theory that the claims of this work use: D24, E06, E07. No conditions of its own. -/
import Derived.Test.YthlmjbfkkkdkoaaT4
section
set_option linter.unusedSimpArgs false
set_option linter.unusedVariables false
namespace Go.D
open Go Go.Pav Go.Pw P
set_option maxRecDepth 10000
set_option maxHeartbeats 4000000
set_option linter.unusedSimpArgs false
set_option linter.unusedVariables false
attribute [-simp] List.getElem_cons_drop
variable {C : WProg}
end Go.D
end
section
set_option linter.unusedSimpArgs false
set_option linter.unusedVariables false
namespace Go.D
open Go Go.Pav Go.Pw P
set_option maxRecDepth 10000
set_option maxHeartbeats 4000000
set_option linter.unusedSimpArgs false
set_option linter.unusedVariables false
attribute [-simp] List.getElem_cons_drop
variable {C : WProg}
structure HasWn (C : WProg) : Prop extends HasS C where
 f268 : C.fns.get 268 = some w268
 f419 : C.fns.get 419 = some w419
 f607 : C.fns.get 607 = some w607
 f269 : C.fns.get 269 = some w269
 f420 : C.fns.get 420 = some w420
 f421 : C.fns.get 421 = some w421
 f508 : C.fns.get 508 = some w508
 f509 : C.fns.get 509 = some w509
 f555 : C.fns.get 555 = some w555
 f274 : C.fns.get 274 = some w274
 f608 : C.fns.get 608 = some w608
 f445 : C.fns.get 445 = some w445
 f177 : C.fns.get 177 = some w177
 f136 : C.fns.get 136 = some w136
def bdBad (v least over : Int) : Prop := v < 1 ∨ 2147483648 < v ∨ least < 1 ∨ 2305843009213693952 < least ∨ over < 0 ∨ 16 < over
instance (v least over : Int) : Decidable (bdBad v least over) := by unfold bdBad; infer_instance
def ceilD (v least : Int) : Int := v / least + (if 0 < v % least then 1 else 0)
def bdR (v least over : Int) : AV := if bdBad v least over then .tup [.int .i64 0, .int .i64 1] else .tup [.int .i64 (ceilD v least + 2 * over + 2), .int .i64 0]
theorem div_facts {v least : Int} (h1 : 1 ≤ v) (h2 : 1 ≤ least) : v.tdiv least = v / least ∧ v.tmod least = v % least ∧ 0 ≤ v / least ∧ v / least ≤ v ∧ 0 ≤ v % least ∧ v / least * least + v % least = v := by
 refine ⟨Int.tdiv_eq_ediv_of_nonneg (by omega), Int.tmod_eq_emod_of_nonneg (by omega), Int.ediv_nonneg (by omega) (by omega), Int.ediv_le_self _ (by omega), Int.emod_nonneg _ (by omega), ?_⟩
 rw [Int.mul_comm]; exact Int.mul_ediv_add_emod v least
theorem ceil_ok (H : HasWn C) (v least : Int) (hv : 1 ≤ v ∧ v ≤ 2147483648) (hl : 1 ≤ least) : FnW C 419 [.int .i64 v, .int .i64 least] = some (.tup [.int .i64 (ceilD v least), .int .i64 0]) := by
 obtain ⟨e1, e2, e3, e4, e5, e6⟩ := div_facts hv.1 hl
 rw [fnW_eq H.f419 rfl]
 unfold ceilD
 have c1 : ¬ v < 0 := by omega
 have c2 : ¬ least < 1 := by omega
 have c3 : ¬ least = 0 := by omega
 generalize v / least = Q at *
 generalize v % least = R at *
 by_cases c : 0 < R
 · simp (disch := omega) [w419, c1, c2, c3, e1, e2, c, wI64]
 · simp (disch := omega) [w419, c1, c2, c3, e1, e2, c, wI64]
theorem bound_ok (H : HasWn C) (v least over : Int) : FnW C 268 [.int .i64 v, .int .i64 least, .int .i64 over] = some (bdR v least over) := by
 rw [fnW_eq H.f268 rfl]
 unfold bdR
 by_cases c1 : v < 1
 · rw [if_pos (by unfold bdBad; omega)]
   simp (disch := omega) [w268, c1]
 · by_cases c2 : 2147483648 < v
   · rw [if_pos (by unfold bdBad; omega)]
     simp (disch := omega) [w268, c1, c2]
   · by_cases c3 : least < 1
     · rw [if_pos (by unfold bdBad; omega)]
       simp (disch := omega) [w268, c1, c2, c3]
     · by_cases c4 : 2305843009213693952 < least
       · rw [if_pos (by unfold bdBad; omega)]
         simp (disch := omega) [w268, c1, c2, c3, c4]
       · by_cases c5 : over < 0
         · rw [if_pos (by unfold bdBad; omega)]
           simp (disch := omega) [w268, c1, c2, c3, c4, c5]
         · by_cases c6 : 16 < over
           · rw [if_pos (by unfold bdBad; omega)]
             simp (disch := omega) [w268, c1, c2, c3, c4, c5, c6]
           · rw [if_neg (by unfold bdBad; omega)]
             have h := ceil_ok H v least (by omega) (by omega)
             have hb : 0 ≤ ceilD v least ∧ ceilD v least ≤ 2147483649 := by
              obtain ⟨e1, e2, e3, e4, e5, e6⟩ := div_facts (v := v) (least := least) (by omega) (by omega)
              unfold ceilD; split <;> omega
             generalize ceilD v least = D at *
             simp (disch := omega) [w268, c1, c2, c3, c4, c5, c6, h, wI64, H.inl, inlB, H.pp, ppB]
theorem rbound_ok (H : HasWn C) (v least over : Int) : FnW C 607 [.int .i64 v, .int .i64 least, .int .i64 over] = some (bdR v least over) := by
 rw [fnW_eq H.f607 rfl]
 unfold bdR
 by_cases c1 : v < 1
 · rw [if_pos (by unfold bdBad; omega)]
   simp (disch := omega) [w607, c1]
 · by_cases c2 : 2147483648 < v
   · rw [if_pos (by unfold bdBad; omega)]
     simp (disch := omega) [w607, c1, c2]
   · by_cases c3 : least < 1
     · rw [if_pos (by unfold bdBad; omega)]
       simp (disch := omega) [w607, c1, c2, c3]
     · by_cases c4 : 2305843009213693952 < least
       · rw [if_pos (by unfold bdBad; omega)]
         simp (disch := omega) [w607, c1, c2, c3, c4]
       · by_cases c5 : over < 0
         · rw [if_pos (by unfold bdBad; omega)]
           simp (disch := omega) [w607, c1, c2, c3, c4, c5]
         · by_cases c6 : 16 < over
           · rw [if_pos (by unfold bdBad; omega)]
             simp (disch := omega) [w607, c1, c2, c3, c4, c5, c6]
           · rw [if_neg (by unfold bdBad; omega)]
             obtain ⟨e1, e2, e3, e4, e5, e6⟩ := div_facts (v := v) (least := least) (by omega) (by omega)
             have c7 : ¬ least = 0 := by omega
             unfold ceilD
             have e7 : 0 ≤ v / least * least := Int.mul_nonneg e3 (by omega)
             generalize v / least = Q at *
             generalize v % least = R at *
             generalize hM : Q * least = M at *
             have hw : IntKind.i64.wrap M = M := wI64 (by omega) (by omega)
             by_cases c : 0 < R
             · have c' : M < v := by omega
               simp (disch := omega) [w607, c1, c2, c3, c4, c5, c6, c7, e1, hM, hw, c, c', wI64]
             · have c' : ¬ M < v := by omega
               simp (disch := omega) [w607, c1, c2, c3, c4, c5, c6, c7, e1, hM, hw, c, c', wI64]
def risB : Int → List Int → Bool
 | _, [] => true
 | p, x :: r => decide (p < x) && risB x r
def prevI (a : List Int) (i : Nat) : Int := if i = 0 then -1 else (a[i - 1]?).getD (-1)
theorem prevI_succ {a : List Int} {i : Nat} (h : i < a.length) : prevI a (i + 1) = a[i] := by
 unfold prevI; simp [h]
theorem risB_get : ∀ (a : List Int) (p : Int), risB p a = true → ∀ (i : Nat) (h : i < a.length), p < a[i] ∧ (∀ (j : Nat) (hj : j < i), a[j]'(by omega) < a[i])
 | [], _, _, i, h => by simp at h
 | x :: r, p, hr, i, h => by
  rw [risB, Bool.and_eq_true, decide_eq_true_eq] at hr
  have ih := risB_get r x hr.2
  cases i with
  | zero => exact ⟨by simpa using hr.1, fun j hj => by omega⟩
  | succ i =>
   have h' : i < r.length := by simpa using h
   have q := ih i h'
   refine ⟨by have := hr.1; have := q.1; simp only [List.getElem_cons_succ]; omega, fun j hj => ?_⟩
   cases j with
   | zero => simpa using q.1
   | succ j => simpa using q.2 j (by omega)
theorem rising_loop (H : HasWn C) (a : List Int) (e : Bool) (hl : a.length ≤ 1000000) : ∀ n i, n + i = a.length → (∀ h : 0 < i, 0 ≤ prevI a i) →
 w420_K0 C ⟨[(7, .int .i64 i), (6, .int .i64 a.length), (5, .ro 1 (a.map eI) e), (0, .ro 1 (a.map eI) e)], [], 0⟩ = some (.bool (risB (prevI a i) (a.drop i))) := by
 intro n
 induction n with
 | zero =>
  intro i hi _
  have h1 : a.drop i = [] := List.drop_eq_nil_of_le (by omega)
  have h3 : ¬ i < a.length := by omega
  simp only [w420_K0]; rw [ck_unf w420_B0.eq_1]
  simp (disch := omega) [ck_unf w420_c0.eq_1, h1, h3, risB]
 | succ n ih =>
  intro i hi hp
  have h1 : i < a.length := by omega
  rw [drop_cons h1, risB]
  by_cases c1 : a[i] < 0
  · have c2 : ¬ prevI a i < a[i] := by
     by_cases c : 0 < i
     · have := hp c; omega
     · have : i = 0 := by omega
       subst this; unfold prevI; simp; omega
    rw [decide_eq_false c2, Bool.false_and]
    simp only [w420_K0]; rw [ck_unf w420_B0.eq_1]
    simp (disch := omega) [h1, c1, wI64]
  · have this := ih (i + 1) (by omega) (fun _ => by rw [prevI_succ h1]; omega)
    rw [prevI_succ h1] at this
    generalize risB a[i] (a.drop (i + 1)) = X at *
    by_cases c : 0 < i
    · have h2 : i - 1 < a.length := by omega
      have hpv : prevI a i = a[i - 1] := by unfold prevI; rw [if_neg (by omega), List.getElem?_eq_getElem h2]; rfl
      have h4 : ((i : Int) - 1) = ((i - 1 : Nat) : Int) := by omega
      have hc : (0 : Int) < i := by omega
      rw [hpv]
      by_cases c3 : a[i - 1] < a[i]
      · have c3' : ¬ a[i] ≤ a[i - 1] := by omega
        rw [decide_eq_true c3, Bool.true_and]
        simp only [w420_K0] at this ⊢; rw [ck_unf w420_B0.eq_1]
        simp at this
        simp (disch := omega) [h1, c1, c, hc, wI64, h4, h2, c3, c3', this]
      · have c3' : a[i] ≤ a[i - 1] := by omega
        rw [decide_eq_false c3, Bool.false_and]
        simp only [w420_K0]; rw [ck_unf w420_B0.eq_1]
        simp (disch := omega) [h1, c1, c, hc, wI64, h4, h2, c3, c3']
    · have hi0 : i = 0 := by omega
      subst hi0
      have hpv : prevI a 0 = -1 := rfl
      have c3 : (-1 : Int) < a[0] := by omega
      rw [hpv, decide_eq_true c3, Bool.true_and]
      simp only [w420_K0] at this ⊢; rw [ck_unf w420_B0.eq_1]
      try simp at this
      simp (disch := omega) [h1, c1, wI64, this]
theorem rising_ok (H : HasWn C) (a : List Int) (e : Bool) (hl : a.length ≤ 1000000) : FnW C 420 [.ro 1 (a.map eI) e] = some (.bool (risB (-1) a)) := by
 have h := rising_loop H a e hl a.length 0 (by simp) (fun h => by omega)
 rw [fnW_eq H.f420 rfl]
 rw [List.drop_zero, show prevI a 0 = -1 from rfl] at h
 generalize risB (-1) a = X at *
 simp only [w420_K0] at h
 simp at h
 simp [w420, h]
theorem rrising_loop (H : HasWn C) (a : List Int) (e : Bool) (hl : a.length ≤ 1000000) : ∀ n i, n + i = a.length → (∀ h : 0 < i, 0 ≤ prevI a i) →
 w445_K0 C ⟨[(3, .int .i64 i), (0, .ro 1 (a.map eI) e)], [], 0⟩ = some (.int .i64 (if risB (prevI a i) (a.drop i) = true then 1 else 0)) := by
 intro n
 induction n with
 | zero =>
  intro i hi _
  have h1 : a.drop i = [] := List.drop_eq_nil_of_le (by omega)
  have h3 : ¬ i < a.length := by omega
  simp only [w445_K0]; rw [ck_unf w445_B0.eq_1]
  simp (disch := omega) [ck_unf w445_c0.eq_1, h1, h3, risB]
 | succ n ih =>
  intro i hi hp
  have h1 : i < a.length := by omega
  rw [drop_cons h1, risB]
  by_cases c1 : a[i] < 0
  · have c2 : ¬ prevI a i < a[i] := by
     by_cases c : 0 < i
     · have := hp c; omega
     · have : i = 0 := by omega
       subst this; unfold prevI; simp; omega
    rw [decide_eq_false c2, Bool.false_and]
    simp only [w445_K0]; rw [ck_unf w445_B0.eq_1]
    simp (disch := omega) [h1, c1, wI64]
  · have this := ih (i + 1) (by omega) (fun _ => by rw [prevI_succ h1]; omega)
    rw [prevI_succ h1] at this
    generalize risB a[i] (a.drop (i + 1)) = X at *
    by_cases c : 0 < i
    · have h2 : i - 1 < a.length := by omega
      have hpv : prevI a i = a[i - 1] := by unfold prevI; rw [if_neg (by omega), List.getElem?_eq_getElem h2]; rfl
      have h4 : ((i : Int) - 1) = ((i - 1 : Nat) : Int) := by omega
      have hc : (0 : Int) < i := by omega
      rw [hpv]
      by_cases c3 : a[i - 1] < a[i]
      · have c3' : ¬ a[i] ≤ a[i - 1] := by omega
        rw [decide_eq_true c3, Bool.true_and]
        simp only [w445_K0] at this ⊢; rw [ck_unf w445_B0.eq_1]
        simp at this
        simp (disch := omega) [h1, c1, c, hc, wI64, h4, h2, c3, c3', this]
      · have c3' : a[i] ≤ a[i - 1] := by omega
        rw [decide_eq_false c3, Bool.false_and]
        simp only [w445_K0]; rw [ck_unf w445_B0.eq_1]
        simp (disch := omega) [h1, c1, c, hc, wI64, h4, h2, c3, c3']
    · have hi0 : i = 0 := by omega
      subst hi0
      have hpv : prevI a 0 = -1 := rfl
      have c3 : (-1 : Int) < a[0] := by omega
      rw [hpv, decide_eq_true c3, Bool.true_and]
      simp only [w445_K0] at this ⊢; rw [ck_unf w445_B0.eq_1]
      try simp at this
      simp (disch := omega) [h1, c1, wI64, this]
theorem rrising_ok (H : HasWn C) (a : List Int) (e : Bool) (hl : a.length ≤ 1000000) : FnW C 445 [.ro 1 (a.map eI) e] = some (.int .i64 (if risB (-1) a = true then 1 else 0)) := by
 have h := rrising_loop H a e hl a.length 0 (by simp) (fun h => by omega)
 rw [fnW_eq H.f445 rfl]
 rw [List.drop_zero, show prevI a 0 = -1 from rfl] at h
 generalize (if risB (-1) a = true then (1 : Int) else 0) = X at *
 simp only [w445_K0] at h
 simp at h
 simp [w445, h]
theorem has_loop (H : HasWn C) (a : List Int) (e : Bool) (x : Int) (hl : a.length ≤ 1000000) : ∀ n i, n + i = a.length →
 w177_K0 C ⟨[(5, .int .i64 i), (1, .int .i64 x), (0, .ro 1 (a.map eI) e)], [], 0⟩ = some (.int .i64 (if x ∈ a.drop i then 1 else 0)) := by
 intro n
 induction n with
 | zero =>
  intro i hi
  have h1 : a.drop i = [] := List.drop_eq_nil_of_le (by omega)
  have h3 : ¬ i < a.length := by omega
  simp only [w177_K0]; rw [ck_unf w177_B0.eq_1]
  simp (disch := omega) [ck_unf w177_c0.eq_1, h1, h3]
 | succ n ih =>
  intro i hi
  have h1 : i < a.length := by omega
  have this := ih (i + 1) (by omega)
  rw [drop_cons h1]
  by_cases c : a[i] = x
  · rw [if_pos (by simp [c])]
    simp only [w177_K0]; rw [ck_unf w177_B0.eq_1]
    simp (disch := omega) [h1, c, wI64]
  · have hq : (if x ∈ a[i] :: a.drop (i + 1) then (1 : Int) else 0) = if x ∈ a.drop (i + 1) then 1 else 0 := by
     have : x ≠ a[i] := fun q => c q.symm
     simp [this]
    rw [hq]
    generalize (if x ∈ a.drop (i + 1) then (1 : Int) else 0) = X at *
    simp only [w177_K0] at this ⊢; rw [ck_unf w177_B0.eq_1]
    simp at this
    simp (disch := omega) [h1, c, wI64, this]
theorem has_ok (H : HasWn C) (a : List Int) (e : Bool) (x : Int) (hl : a.length ≤ 1000000) : FnW C 177 [.ro 1 (a.map eI) e, .int .i64 x] = some (.int .i64 (if x ∈ a then 1 else 0)) := by
 have h := has_loop H a e x hl a.length 0 (by simp)
 rw [List.drop_zero] at h
 rw [fnW_eq H.f177 rfl]
 generalize (if x ∈ a then (1 : Int) else 0) = X at *
 simp only [w177_K0] at h
 simp at h
 simp [w177, h]
theorem less_ok (H : HasWn C) (x y : Int) : FnW C 508 [.int .i64 x, .int .i64 y] = some (.bool (decide (x < y))) := by
 have h : ∀ z, FnW C 555 [.int .i64 z] = some (.bool false) := fun z => by
  rw [fnW_eq H.f555 rfl]; simp [w555]
 rw [fnW_eq H.f508 rfl]
 simp [w508, h, H.inl, inlB, H.pp, ppB]
theorem bs_loop (H : HasWn C) (a : List Int) (e : Bool) (x : Int) (hl : a.length ≤ 1000000) (hr : risB (-1) a = true) : ∀ (n i j : Nat), j - i ≤ n → i ≤ j → j ≤ a.length → (∀ k (h : k < a.length), k < i → a[k] < x) → (∀ k (h : k < a.length), j ≤ k → ¬ a[k] < x) →
 ∃ r : Int, w421_K0 C ⟨[(8, .int .i64 j), (7, .int .i64 i), (6, .int .i64 a.length), (1, .int .i64 x), (0, .ro 1 (a.map eI) e)], [], 0⟩ = some (.tup [.int .i64 r, .bool (decide (x ∈ a))]) := by
 have hnan : ∀ z, FnW C 509 [.int .i64 z] = some (.bool false) := fun z => by
  rw [fnW_eq H.f509 rfl]; simp [w509]
 have fin : ∀ i : Nat, i ≤ a.length → (∀ k (h : k < a.length), k < i → a[k] < x) → (∀ k (h : k < a.length), i ≤ k → ¬ a[k] < x) →
  ∃ r : Int, w421_K0 C ⟨[(8, .int .i64 i), (7, .int .i64 i), (6, .int .i64 a.length), (1, .int .i64 x), (0, .ro 1 (a.map eI) e)], [], 0⟩ = some (.tup [.int .i64 r, .bool (decide (x ∈ a))]) := by
  intro i hi h1 h2
  refine ⟨i, ?_⟩
  by_cases c : i < a.length
  · by_cases c2 : a[i] = x
    · have hm : x ∈ a := by rw [← c2]; exact List.getElem_mem c
      rw [decide_eq_true hm]
      simp only [w421_K0]; rw [ck_unf w421_B0.eq_1]
      simp (disch := omega) [ck_unf w421_c0.eq_1, c, c2, hnan, H.inl, inlB, H.pp, ppB]
    · have hm : ¬ x ∈ a := by
       intro q
       obtain ⟨k, hk, hkx⟩ := List.getElem_of_mem q
       by_cases d : k < i
       · have := h1 k hk d; omega
       · by_cases d2 : k = i
         · subst d2; exact c2 hkx
         · have := (risB_get a (-1) hr k hk).2 i (by omega)
           have := h2 i c (Nat.le_refl _)
           omega
      rw [decide_eq_false hm]
      simp only [w421_K0]; rw [ck_unf w421_B0.eq_1]
      simp (disch := omega) [ck_unf w421_c0.eq_1, c, c2, hnan, H.inl, inlB, H.pp, ppB]
  · have hm : ¬ x ∈ a := by
     intro q
     obtain ⟨k, hk, hkx⟩ := List.getElem_of_mem q
     have := h1 k hk (by omega)
     omega
    rw [decide_eq_false hm]
    simp only [w421_K0]; rw [ck_unf w421_B0.eq_1]
    simp (disch := omega) [ck_unf w421_c0.eq_1, c, hnan, H.inl, inlB, H.pp, ppB]
 intro n
 induction n with
 | zero =>
  intro i j h1 h2 h3 h4 h5
  have : i = j := by omega
  subst this
  exact fin i h3 h4 h5
 | succ n ih =>
  intro i j h1 h2 h3 h4 h5
  by_cases c : i < j
  · obtain ⟨m, hm⟩ : ∃ m, m = (i + j) / 2 := ⟨_, rfl⟩
    have hk : m < a.length := by omega
    have hf := less_ok H a[m] x
    have hw : IntKind.i64.wrap ((IntKind.u64.wrap ((i : Int) + j)).fdiv (2 ^ min 1 IntKind.u64.bits)) = m := by
     have e1 : (2 : Int) ^ min 1 IntKind.u64.bits = 2 := by decide
     rw [wU64 (by omega) (by omega), e1, Int.fdiv_eq_ediv_of_nonneg _ (by omega)]
     have e2 : ((i : Int) + j) / 2 = m := by omega
     rw [e2, wI64 (by omega) (by omega)]
    by_cases c2 : a[m] < x
    · obtain ⟨r, this⟩ := ih (m + 1) j (by omega) (by omega) h3 (fun k hk2 hkm => by
       by_cases d : k = m
       · subst d; exact c2
       · have := (risB_get a (-1) hr m hk).2 k (by omega); omega) h5
      refine ⟨r, ?_⟩
      rw [decide_eq_true c2] at hf
      generalize decide (x ∈ a) = D at *
      simp only [w421_K0] at this ⊢; rw [ck_unf w421_B0.eq_1]
      try simp at this
      simp (disch := omega) [c, wI64, hw, hk, hf, this, H.inl, inlB, H.pp, ppB]
    · obtain ⟨r, this⟩ := ih i m (by omega) (by omega) (by omega) h4 (fun k hk2 hkm => by
       by_cases d : k = m
       · subst d; exact c2
       · have := (risB_get a (-1) hr k hk2).2 m (by omega); omega)
      refine ⟨r, ?_⟩
      rw [decide_eq_false c2] at hf
      generalize decide (x ∈ a) = D at *
      simp only [w421_K0] at this ⊢; rw [ck_unf w421_B0.eq_1]
      try simp at this
      simp (disch := omega) [c, wI64, hw, hk, hf, this, H.inl, inlB, H.pp, ppB]
  · have : i = j := by omega
    subst this
    exact fin i h3 h4 h5
theorem bs_ok (H : HasWn C) (a : List Int) (e : Bool) (x : Int) (hl : a.length ≤ 1000000) (hr : risB (-1) a = true) : ∃ r : Int, FnW C 421 [.ro 1 (a.map eI) e, .int .i64 x] = some (.tup [.int .i64 r, .bool (decide (x ∈ a))]) := by
 obtain ⟨r, h⟩ := bs_loop H a e x hl hr a.length 0 a.length (by omega) (by omega) (by omega) (fun k _ q => by omega) (fun k h q => by omega)
 refine ⟨r, ?_⟩
 rw [fnW_eq H.f421 rfl]
 generalize decide (x ∈ a) = D at *
 simp only [w421_K0] at h
 simp at h
 simp [w421, h]
theorem exact_ok (H : HasWn C) (a : List Int) (e : Bool) (hl : a.length ≤ 1000000) : FnW C 274 [.ro 1 (a.map eI) e] = some (.ro 1 (a.map eI) true) := by
 rw [fnW_eq H.f274 rfl]
 by_cases c : a = []
 · subst c; simp [w274]
 · have h2 : a.length * 9 ≤ 35184372088832 := by omega
   have hT : List.take a.length (List.map eI a) = List.map eI a := List.take_of_length_le (by simp)
   simp (disch := omega) [w274, c, h2, isE, hT]
end Go.D
end
section
set_option linter.unusedSimpArgs false
set_option linter.unusedVariables false
namespace Go.D
open Go Go.Pav Go.Pw P
set_option maxRecDepth 10000
set_option maxHeartbeats 4000000
set_option linter.unusedSimpArgs false
set_option linter.unusedVariables false
attribute [-simp] List.getElem_cons_drop
variable {C : WProg}
def entF (a b : List Int) : List Int := b.filter fun x => decide (¬ x ∈ a)
theorem entF_len (a b : List Int) : (entF a b).length ≤ b.length := List.length_filter_le _ _
theorem ent_loop (H : HasWn C) (a b : List Int) (e f : Bool) (ha : a.length ≤ 1000000) (hb : b.length ≤ 1000000) (hr : risB (-1) a = true) : ∀ n i, n + i = b.length → ∀ G : List Int, G.length ≤ i → G ++ entF a (b.drop i) = entF a b →
 w269_K0 C ⟨[(21, .int .i64 i), (20, .int .i64 b.length), (19, .ro 1 (b.map eI) f), (6, .sl 0 1 0 G.length G.length false), (0, .ro 1 (a.map eI) e)], [(0, .cells 1 (G.map eI) true true)], 1⟩ =
  some (.tup [.ro 1 ((entF a b).map eI) true, .int .i64 0]) := by
 intro n
 induction n with
 | zero =>
  intro i hi G hG hE
  have h1 : b.drop i = [] := List.drop_eq_nil_of_le (by omega)
  have h3 : ¬ i < b.length := by omega
  have h6 : List.take G.length (List.map eI G) = List.map eI G := List.take_of_length_le (by simp)
  rw [h1] at hE
  have hE2 : G = entF a b := by simpa [entF] using hE
  have hx := exact_ok H G false (by omega)
  rw [← hE2]
  simp only [w269_K0]; rw [ck_unf w269_B0.eq_1]
  simp (disch := omega) [ck_unf w269_c0.eq_1, h3, h6, hx, H.inl, inlB, H.pp, ppB]
 | succ n ih =>
  intro i hi G hG hE
  have h1 : i < b.length := by omega
  obtain ⟨r, hs⟩ := bs_ok H a e b[i] ha hr
  rw [drop_cons h1] at hE
  by_cases c : b[i] ∈ a
  · have this := ih (i + 1) (by omega) G (by omega) (by
     rw [← hE]; unfold entF; rw [List.filter_cons_of_neg (by simpa using c)])
    rw [decide_eq_true c] at hs
    simp only [w269_K0] at this ⊢; rw [ck_unf w269_B0.eq_1]
    simp at this
    simp (disch := omega) [h1, hs, wI64, H.inl, inlB, H.pp, ppB, this]
  · have this := ih (i + 1) (by omega) (G ++ [b[i]]) (by simp; omega) (by
     rw [← hE]; unfold entF; rw [List.filter_cons_of_pos (by simpa using c)]; simp)
    rw [decide_eq_false c] at hs
    have hfit : (G.length + 1) * 9 ≤ 35184372088832 := by omega
    simp only [w269_K0] at this ⊢; rw [ck_unf w269_B0.eq_1]
    simp at this
    simp (disch := omega) [h1, hs, wI64, hfit, H.inl, inlB, H.pp, ppB, this]
def entR (a b : List Int) (f : Bool) : AV := if risB (-1) a = true ∧ risB (-1) b = true then .tup [.ro 1 ((entF a b).map eI) f, .int .i64 0] else .tup [.ro 1 [] true, .int .i64 1]
theorem enters_ok (H : HasWn C) (a b : List Int) (e f : Bool) (ha : a.length ≤ 1000000) (hb : b.length ≤ 1000000) : FnW C 269 [.ro 1 (a.map eI) e, .ro 1 (b.map eI) f] = some (entR a b true) := by
 have r1 := rising_ok H a e ha
 have r2 := rising_ok H b f hb
 unfold entR
 rw [fnW_eq H.f269 rfl]
 cases c1 : risB (-1) a
 · rw [c1] at r1
   simp (disch := omega) [w269, r1, H.inl, inlB, H.pp, ppB]
 · rw [c1] at r1
   cases c2 : risB (-1) b
   · rw [c2] at r2
     simp (disch := omega) [w269, r1, r2, H.inl, inlB, H.pp, ppB]
   · rw [c2] at r2
     have h := ent_loop H a b e f ha hb c1 b.length 0 (by simp) [] (by simp) (by simp)
     generalize entF a b = R at *
     simp only [w269_K0] at h
     simp at h
     simp (disch := omega) [w269, r1, r2, h, H.inl, inlB, H.pp, ppB]
theorem rent_loop (H : HasWn C) (a b : List Int) (e f : Bool) (ha : a.length ≤ 1000000) (hb : b.length ≤ 1000000) : ∀ n i, n + i = b.length → ∀ G : List Int, G.length ≤ i → G ++ entF a (b.drop i) = entF a b →
 w608_K0 C ⟨[(7, .int .i64 i), (6, .sl 0 1 0 G.length G.length false), (1, .ro 1 (b.map eI) f), (0, .ro 1 (a.map eI) e)], [(0, .cells 1 (G.map eI) true true)], 1⟩ =
  some (.tup [.ro 1 ((entF a b).map eI) false, .int .i64 0]) := by
 intro n
 induction n with
 | zero =>
  intro i hi G hG hE
  have h1 : b.drop i = [] := List.drop_eq_nil_of_le (by omega)
  have h3 : ¬ i < b.length := by omega
  have h6 : List.take G.length (List.map eI G) = List.map eI G := List.take_of_length_le (by simp)
  rw [h1] at hE
  have hE2 : G = entF a b := by simpa [entF] using hE
  rw [← hE2]
  simp only [w608_K0]; rw [ck_unf w608_B0.eq_1]
  simp (disch := omega) [ck_unf w608_c0.eq_1, h3, h6, H.inl, inlB, H.pp, ppB]
 | succ n ih =>
  intro i hi G hG hE
  have h1 : i < b.length := by omega
  have hs := has_ok H a e b[i] ha
  rw [drop_cons h1] at hE
  by_cases c : b[i] ∈ a
  · have this := ih (i + 1) (by omega) G (by omega) (by
     rw [← hE]; unfold entF; rw [List.filter_cons_of_neg (by simpa using c)])
    rw [if_pos c] at hs
    simp only [w608_K0] at this ⊢; rw [ck_unf w608_B0.eq_1]
    simp at this
    simp (disch := omega) [h1, hs, wI64, H.inl, inlB, H.pp, ppB, this]
  · have this := ih (i + 1) (by omega) (G ++ [b[i]]) (by simp; omega) (by
     rw [← hE]; unfold entF; rw [List.filter_cons_of_pos (by simpa using c)]; simp)
    rw [if_neg c] at hs
    have hfit : (G.length + 1) * 9 ≤ 35184372088832 := by omega
    simp only [w608_K0] at this ⊢; rw [ck_unf w608_B0.eq_1]
    simp at this
    simp (disch := omega) [h1, hs, wI64, hfit, H.inl, inlB, H.pp, ppB, this]
theorem renters_ok (H : HasWn C) (a b : List Int) (e f : Bool) (ha : a.length ≤ 1000000) (hb : b.length ≤ 1000000) : FnW C 608 [.ro 1 (a.map eI) e, .ro 1 (b.map eI) f] = some (entR a b false) := by
 have r1 := rrising_ok H a e ha
 have r2 := rrising_ok H b f hb
 unfold entR
 rw [fnW_eq H.f608 rfl]
 cases c1 : risB (-1) a
 · rw [c1] at r1
   simp at r1
   cases c2 : risB (-1) b
   · rw [c2] at r2
     simp at r2
     simp (disch := omega) [w608, wI64, r1, r2, H.inl, inlB, H.pp, ppB]
   · rw [c2] at r2
     simp at r2
     simp (disch := omega) [w608, wI64, r1, r2, H.inl, inlB, H.pp, ppB]
 · rw [c1] at r1
   simp at r1
   cases c2 : risB (-1) b
   · rw [c2] at r2
     simp at r2
     simp (disch := omega) [w608, wI64, r1, r2, H.inl, inlB, H.pp, ppB]
   · rw [c2] at r2
     simp at r2
     have h := rent_loop H a b e f ha hb b.length 0 (by simp) [] (by simp) (by simp)
     generalize entF a b = R at *
     simp only [w608_K0] at h
     simp at h
     simp (disch := omega) [w608, wI64, r1, r2, h, H.inl, inlB, H.pp, ppB]
theorem isame_loop (H : HasWn C) (a : List Int) (e f : Bool) (hl : a.length ≤ 1000000) : ∀ n i, n + i = a.length →
 w136_K0 C ⟨[(5, .int .i64 i), (1, .ro 1 (a.map eI) f), (0, .ro 1 (a.map eI) e)], [], 0⟩ = some (.int .i64 1) := by
 intro n
 induction n with
 | zero =>
  intro i hi
  have h3 : ¬ i < a.length := by omega
  simp only [w136_K0]; rw [ck_unf w136_B0.eq_1]
  simp (disch := omega) [ck_unf w136_c0.eq_1, h3]
 | succ n ih =>
  intro i hi
  have h1 : i < a.length := by omega
  have this := ih (i + 1) (by omega)
  simp only [w136_K0] at this ⊢; rw [ck_unf w136_B0.eq_1]
  simp at this
  simp (disch := omega) [h1, wI64, this]
theorem intsame_ok (H : HasWn C) (a : List Int) (e f : Bool) (hl : a.length ≤ 1000000) : FnW C 136 [.ro 1 (a.map eI) e, .ro 1 (a.map eI) f] = some (.int .i64 1) := by
 have h := isame_loop H a e f hl a.length 0 (by simp)
 rw [fnW_eq H.f136 rfl]
 simp only [w136_K0] at h
 simp at h
 simp [w136, h]
structure HasWnL (C : WProg) : Prop extends HasWn C where
 f605 : C.fns.get 605 = some w605
theorem wnlaw_ok (H : HasWnL C) (hlives : FnW C 129 [] = some (.bool true)) (v least over : Int) (a b : List Int) (e f : Bool) :
 FnW C 605 [.int .i64 v, .int .i64 least, .agg [.int .i64 over, .ro 1 (a.map eI) e, .ro 1 (b.map eI) f]] = some (.bool true) := by
 rw [fnW_eq H.f605 rfl]
 by_cases c1 : a.length ≤ 20
 · have c1' : ¬ (20 : Int) < a.length := by omega
   by_cases c2 : b.length ≤ 20
   · have c2' : ¬ (20 : Int) < b.length := by omega
     have q1 := bound_ok H.toHasWn v least over
     have q2 := rbound_ok H.toHasWn v least over
     obtain ⟨x, y, hbd⟩ : ∃ x y, bdR v least over = .tup [.int .i64 x, .int .i64 y] := by unfold bdR; split <;> exact ⟨_, _, rfl⟩
     rw [hbd] at q1 q2
     have q3 := enters_ok H.toHasWn a b e f (by omega) (by omega)
     have q4 := renters_ok H.toHasWn a b e f (by omega) (by omega)
     obtain ⟨R, g, w, h1, h2, hR⟩ : ∃ (R : List Int) (g : Bool) (w : Int), entR a b true = .tup [.ro 1 (R.map eI) true, .int .i64 w] ∧ entR a b false = .tup [.ro 1 (R.map eI) g, .int .i64 w] ∧ R.length ≤ 20 := by
      unfold entR
      by_cases c : risB (-1) a = true ∧ risB (-1) b = true
      · rw [if_pos c, if_pos c]
        exact ⟨_, _, _, rfl, rfl, by have := entF_len a b; omega⟩
      · rw [if_neg c, if_neg c]
        exact ⟨[], true, 1, rfl, rfl, by simp⟩
     rw [h1] at q3
     rw [h2] at q4
     have q5 := intsame_ok H.toHasWn R true g (by omega)
     simp (disch := omega) [w605, c1, c1', c2, c2', q1, q2, q3, q4, q5, hlives, H.inl, inlB, H.pp, ppB]
   · have c2' : (20 : Int) < b.length := by omega
     simp (disch := omega) [w605, c1, c1', c2, c2', hlives, H.inl, inlB, H.pp, ppB]
 · have c1' : (20 : Int) < a.length := by omega
   simp (disch := omega) [w605, c1, c1', hlives, H.inl, inlB, H.pp, ppB]
end Go.D
end
