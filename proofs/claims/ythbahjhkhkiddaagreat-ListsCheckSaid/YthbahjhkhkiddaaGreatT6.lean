/- Part of the theory that the claims of this work use: D32, D34, D35, D36, PwGlueR, PwGlueR2, G24R, D41, D30, D31, D38, D45. No conditions of its own. -/
import Derived.Test.YthbahjhkhkiddaaGreatT5
import Derived.ChangeSame
import Derived.ChangeArms
import Derived.ReadAgain
import Derived.Handed
import Derived.JoinedOf
import Derived.RowKit
import Derived.Test.YthbahjhkhkiddaaGreatRows
import Derived.ProofKit
section
set_option linter.unusedSimpArgs false
set_option linter.unusedVariables false
/- Lists: equality, and the specification's removal and move. No conditions beyond those that each theorem names. -/
namespace Go.D
open Go Go.Pav Go.Pw P
set_option maxRecDepth 10000
set_option maxHeartbeats 4000000
set_option linter.unusedSimpArgs false
set_option linter.unusedVariables false
attribute [-simp] List.getElem_cons_drop
variable {C : WProg}

structure HasQ (C : WProg) : Prop extends HasO C where
  f241 : C.fns.get 241 = some w241
  f242 : C.fns.get 242 = some w242
  f243 : C.fns.get 243 = some w243

theorem b01 (b : Bool) : (if b = true then (1 : Int) else 0) = 0 ↔ b = false := by cases b <;> simp

theorem rsame1_loop (H : HasL C) (a b : It) (hl : a.m.length = b.m.length) (hb : a.m.length ≤ 1000000) : ∀ n i, n + i = a.m.length →
    w112_K0 C ⟨[(5, .int .i64 i), (3, .ptr 0 0 0), (2, .ptr 1 0 0)], [(0, .cells 4 [[.int .u64 b.k, .int .u8 b.t, .str b.x, .ro 1 (b.m.map eS) b.e]] true true), (1, .cells 4 [[.int .u64 a.k, .int .u8 a.t, .str a.x, .ro 1 (a.m.map eS) a.e]] true true)], 2⟩ =
      some (.int .i64 (if decide (a.m.drop i = b.m.drop i) = true then 1 else 0)) := by
  intro n
  induction n with
  | zero =>
    intro i hi
    have h1 : a.m.drop i = [] := List.drop_eq_nil_of_le (by omega)
    have h2 : b.m.drop i = [] := List.drop_eq_nil_of_le (by omega)
    have h3 : ¬ i < b.m.length := by omega
    simp only [w112_K0]; rw [ck_unf w112_B0.eq_1]
    simp (disch := omega) [ck_unf w112_c0.eq_1, h1, h2, h3, hl]
  | succ n ih =>
    intro i hi
    have h1 : i < a.m.length := by omega
    have h2 : i < b.m.length := by omega
    have this := ih (i + 1) (by omega)
    rw [drop_cons h1, drop_cons h2]
    by_cases c : a.m[i] = b.m[i]
    · have hq : decide (a.m[i] :: a.m.drop (i + 1) = b.m[i] :: b.m.drop (i + 1)) = decide (a.m.drop (i + 1) = b.m.drop (i + 1)) := by simp [c]
      rw [hq]
      generalize decide (a.m.drop (i + 1) = b.m.drop (i + 1)) = X at *
      simp only [w112_K0] at this ⊢; rw [ck_unf w112_B0.eq_1]
      simp at this
      simp (disch := omega) [h1, h2, eq_true c, wI64, this]
    · have hq : decide (a.m[i] :: a.m.drop (i + 1) = b.m[i] :: b.m.drop (i + 1)) = false := by simp [c]
      rw [hq]
      simp only [w112_K0]; rw [ck_unf w112_B0.eq_1]
      simp (disch := omega) [h1, h2, c]

theorem rsame1_ok (H : HasL C) (a b : It) (hb : a.m.length ≤ 1000000) (hb2 : b.m.length ≤ 1000000) : FnW C 112 [eIt a, eIt b] = some (.int .i64 (if sameIt a b = true then 1 else 0)) := by
  rw [fnW_eq H.f112 rfl]
  unfold sameIt
  by_cases c1 : a.k = b.k
  · by_cases c2 : a.t = b.t
    · by_cases c3 : a.x = b.x
      · by_cases c4 : a.m.length = b.m.length
        · have h := rsame1_loop H a b c4 hb a.m.length 0 (by simp)
          rw [List.drop_zero, List.drop_zero] at h
          rw [decide_eq_true c1, decide_eq_true c2, decide_eq_true c3, Bool.true_and, Bool.true_and, Bool.true_and]
          generalize decide (a.m = b.m) = X at *
          simp only [w112_K0] at h
          simp at h
          simp [w112, eq_true c1, eq_true c2, eq_true c3, eq_true c4, h]
        · have c5 : ¬ a.m = b.m := fun q => c4 (by rw [q])
          simp [w112, eq_true c1, eq_true c2, eq_true c3, c4, c5]
      · simp [w112, eq_true c1, eq_true c2, c3]
    · simp [w112, eq_true c1, c2]
  · simp [w112, c1]

theorem rsame_loop (H : HasL C) (a b : List En) (e f : Bool) (hl : a.length = b.length) (hb : a.length ≤ 1000000) (ha : ∀ x ∈ a, x.i.m.length ≤ 1000000) (hbm : ∀ x ∈ b, x.i.m.length ≤ 1000000) : ∀ n i, n + i = a.length →
    w172_K0 C ⟨[(5, .int .i64 i), (1, .ro 6 (b.map eEn) f), (0, .ro 6 (a.map eEn) e)], [], 0⟩ = some (.int .i64 (if sameL (a.drop i) (b.drop i) = true then 1 else 0)) := by
  intro n
  induction n with
  | zero =>
    intro i hi
    have h1 : a.drop i = [] := List.drop_eq_nil_of_le (by omega)
    have h2 : b.drop i = [] := List.drop_eq_nil_of_le (by omega)
    have h3 : ¬ i < b.length := by omega
    simp only [w172_K0]; rw [ck_unf w172_B0.eq_1]
    simp (disch := omega) [ck_unf w172_c0.eq_1, h1, h2, h3, hl, sameL]
  | succ n ih =>
    intro i hi
    have h1 : i < a.length := by omega
    have h2 : i < b.length := by omega
    have this := ih (i + 1) (by omega)
    have hs := rsame1_ok H a[i].i b[i].i (ha _ (List.getElem_mem h1)) (hbm _ (List.getElem_mem h2))
    rw [drop_cons h1, drop_cons h2, sameL]
    unfold sameEn
    simp only [eIt] at hs
    generalize sameL (a.drop (i + 1)) (b.drop (i + 1)) = Y at *
    generalize sameIt a[i].i b[i].i = X at *
    by_cases c1 : a[i].s = b[i].s
    · by_cases c2 : a[i].kn = b[i].kn
      · rw [decide_eq_true c1, decide_eq_true c2, Bool.true_and, Bool.true_and]
        cases X
        · simp at hs
          simp only [w172_K0]; rw [ck_unf w172_B0.eq_1]
          simp (disch := omega) [h1, h2, eq_true c1, eq_true c2, hs, H.inl, inlB, H.pp, ppB]
        · simp at hs
          simp only [w172_K0] at this ⊢; rw [ck_unf w172_B0.eq_1]
          simp at this
          simp (disch := omega) [h1, h2, eq_true c1, eq_true c2, hs, wI64, H.inl, inlB, H.pp, ppB, this]
      · rw [decide_eq_true c1, decide_eq_false c2]
        simp only [w172_K0]; rw [ck_unf w172_B0.eq_1]
        simp (disch := omega) [h1, h2, eq_true c1, c2]
    · rw [decide_eq_false c1]
      simp only [w172_K0]; rw [ck_unf w172_B0.eq_1]
      simp (disch := omega) [h1, h2, c1]

theorem rsame_ok (H : HasL C) (a b : List En) (e f : Bool) (hb : a.length ≤ 1000000) (hb2 : b.length ≤ 1000000) (ha : ∀ x ∈ a, x.i.m.length ≤ 1000000) (hbm : ∀ x ∈ b, x.i.m.length ≤ 1000000) :
    FnW C 172 [.ro 6 (a.map eEn) e, .ro 6 (b.map eEn) f] = some (.int .i64 (if (decide (a.length = b.length) && sameL a b) = true then 1 else 0)) := by
  rw [fnW_eq H.f172 rfl]
  by_cases c : a.length = b.length
  · have h := rsame_loop H a b e f c hb ha hbm a.length 0 (by simp)
    rw [List.drop_zero, List.drop_zero] at h
    rw [decide_eq_true c, Bool.true_and]
    generalize sameL a b = X at *
    simp only [w172_K0] at h
    simp at h
    simp [w172, eq_true c, h]
  · simp [w172, c]

theorem sameL_refl : ∀ l : List En, sameL l l = true
  | [] => rfl
  | a :: r => by rw [sameL, sameL_refl r]; simp [sameEn, sameIt]
theorem sameL_own : ∀ l : List En, sameL (l.map En.own) l = true
  | [] => rfl
  | a :: r => by rw [List.map_cons, sameL, sameL_own r]; simp [sameEn, sameIt, En.own, It.own]

/-- What is left without a range. -/
def rmF {α : Type} (a c : Nat) : Nat → List α → List α
  | _, [] => []
  | i, e :: r => if i < a ∨ a + c ≤ i then e :: rmF a c (i + 1) r else rmF a c (i + 1) r
theorem rmF_eq {α : Type} (a c : Nat) : ∀ (l : List α) (i : Nat), rmF a c i l = l.take (a - i) ++ l.drop (a + c - i)
  | [], i => by simp [rmF]
  | e :: r, i => by
    rw [rmF, rmF_eq a c r (i + 1)]
    by_cases h1 : i < a
    · rw [if_pos (.inl h1), show a - i = (a - (i + 1)) + 1 by omega, show a + c - i = (a + c - (i + 1)) + 1 by omega]
      rfl
    · by_cases h2 : a + c ≤ i
      · rw [if_pos (.inr h2), show a - i = 0 by omega, show a - (i + 1) = 0 by omega, show a + c - i = 0 by omega, show a + c - (i + 1) = 0 by omega]
        simp
      · rw [if_neg (by omega), show a - i = 0 by omega, show a - (i + 1) = 0 by omega, show a + c - i = (a + c - (i + 1)) + 1 by omega]
        simp
theorem rmF_spl {α : Type} (a c : Nat) (l : List α) : rmF a c 0 l = spl l a c [] := by
  rw [rmF_eq]; unfold spl; simp

theorem rremove_loop (H : HasL C) (l : List En) (e : Bool) (hl : l.length ≤ 1000000) (a c : Nat) (hac : a + c ≤ l.length) : ∀ n i, n + i = l.length → ∀ G : List En, G.length ≤ i →
    w241_K0 C ⟨[(9, .int .i64 i), (8, .sl 0 6 0 G.length G.length false), (2, .int .i64 c), (1, .int .i64 a), (0, .ro 6 (l.map eEn) e)], [(0, .cells 6 (G.map eEn) true true)], 1⟩ =
      some (.tup [.ro 6 ((G ++ rmF a c i (l.drop i)).map eEn) false, .int .i64 0]) := by
  intro n
  induction n with
  | zero =>
    intro i hi G hG
    have h1 : l.drop i = [] := List.drop_eq_nil_of_le (by omega)
    have h3 : ¬ i < l.length := by omega
    simp only [w241_K0]; rw [ck_unf w241_B0.eq_1]
    cases G with
    | nil => simp [ck_unf w241_c0.eq_1, h1, h3, rmF]
    | cons g G => simp (disch := (first | omega | (simp; done) | (simp; omega))) [ck_unf w241_c0.eq_1, h1, h3, rmF, List.take_of_length_le]
  | succ n ih =>
    intro i hi G hG
    have h1 : i < l.length := by omega
    have hfit : (G.length + 1) * 73 ≤ 35184372088832 := by omega
    rw [drop_cons h1, rmF]
    have w1 : (a : Int) + (c : Int) = ((a + c : Nat) : Int) := by omega
    by_cases c1 : i < a
    · have this := ih (i + 1) (by omega) (G ++ [l[i]]) (by simp; omega)
      rw [if_pos (.inl c1)]
      simp only [w241_K0] at this ⊢; rw [ck_unf w241_B0.eq_1]
      simp at this
      simp (disch := omega) [h1, c1, hfit, wI64, this]
    · by_cases c2 : a + c ≤ i
      · have this := ih (i + 1) (by omega) (G ++ [l[i]]) (by simp; omega)
        have c2' : (a : Int) + (c : Int) ≤ i := by omega
        rw [if_pos (.inr c2)]
        simp only [w241_K0] at this ⊢; rw [ck_unf w241_B0.eq_1]
        simp at this
        simp (disch := omega) [h1, c1, c2', hfit, wI64, this]
      · have this := ih (i + 1) (by omega) G (by omega)
        have c2' : ¬ (a : Int) + (c : Int) ≤ i := by omega
        rw [if_neg (by omega)]
        simp only [w241_K0] at this ⊢; rw [ck_unf w241_B0.eq_1]
        simp at this
        simp (disch := omega) [h1, c1, c2', hfit, wI64, this]

theorem rremove_ok (H : HasQ C) (l : List En) (e : Bool) (hl : l.length ≤ 1000000) (a c : Int) :
    FnW C 241 [.ro 6 (l.map eEn) e, .int .i64 a, .int .i64 c] = some (if inR a c l.length = true then .tup [.ro 6 ((spl l a.toNat c.toNat []).map eEn) false, .int .i64 0] else .tup [.ro 6 [] true, .int .i64 4]) := by
  have hw := inside_ok H.toHasL a c l.length (by omega)
  rw [fnW_eq H.f241 rfl]
  cases c1 : inR a c l.length
  · rw [c1] at hw
    simp at hw
    simp [w241, hw, H.inl, inlB, H.pp, ppB]
  · have hq := c1
    unfold inR at hq
    simp at hq
    rw [c1] at hw
    simp at hw
    obtain ⟨a', rfl⟩ : ∃ a' : Nat, a = a' := ⟨a.toNat, by omega⟩
    obtain ⟨c', rfl⟩ : ∃ c' : Nat, c = c' := ⟨c.toNat, by omega⟩
    have h := rremove_loop H.toHasL l e hl a' c' (by omega) l.length 0 (by simp) [] (by simp)
    rw [List.drop_zero, List.nil_append, rmF_spl] at h
    simp only [Int.toNat_natCast]
    generalize spl l a' c' [] = R at *
    simp only [w241_K0] at h
    simp at h
    simp [w241, hw, h, H.inl, inlB, H.pp, ppB]

theorem is_list_ok (H : HasQ C) (l w : List En) (e1 e2 : Bool) (n b : Int) (hb : l.length ≤ 1000000) (hb2 : w.length ≤ 1000000) (ha : ∀ x ∈ l, x.i.m.length ≤ 1000000) (hbm : ∀ x ∈ w, x.i.m.length ≤ 1000000) :
    FnW C 243 [aL l true, .int .i64 n, .ro 6 (w.map eEn) e2, .int .i64 b] = some (.int .i64 (if (decide (n = b) && (decide (l.length = w.length) && sameL l w)) = true then 1 else 0)) := by
  have h := rsame_ok H.toHasL l w true e2 hb hb2 ha hbm
  rw [fnW_eq H.f243 rfl]
  generalize (decide (l.length = w.length) && sameL l w) = X at *
  by_cases c : n = b
  · rw [decide_eq_true c, Bool.true_and]
    simp [w243, eq_true c, h, H.inl, inlB, H.pp, ppB]
  · simp [w243, c]
end Go.D
end

section
set_option linter.unusedSimpArgs false
set_option linter.unusedVariables false
/- Items out of bytes. No conditions beyond those that each theorem names. -/
namespace Go.D
open Go Go.Pav Go.Pw P
set_option maxRecDepth 10000
set_option maxHeartbeats 4000000
set_option linter.unusedSimpArgs false
set_option linter.unusedVariables false
attribute [-simp] List.getElem_cons_drop
variable {C : WProg}

structure HasG (C : WProg) : Prop extends HasQ C where
  f422 : C.fns.get 422 = some w422
  f270 : C.fns.get 270 = some w270
  f126 : C.fns.get 126 = some w126
  f130 : C.fns.get 130 = some w130

/-- An item of the statements. -/
structure Good (i : It) : Prop where
  k : 1 ≤ i.k ∧ i.k ≤ 60
  t : 0 ≤ i.t ∧ i.t ≤ 2
  x : isText i.x = true
  l : i.m.length ≤ 8
  m : i.m.all isName = true

theorem nm_a : isName [97] = true := by decide
theorem nm_b : isName [98, 50] = true := by decide
theorem nm_c : isName [107, 101, 121] = true := by decide

/-- What an item comes to. -/
def OneR (k t : Int) (x : Bs) (o : Option AV) : Prop := ∃ (m : List Bs) (e : Bool), o = some (eIt ⟨k, t, x, m, e⟩) ∧ m.length ≤ 8 ∧ m.all isName = true

theorem one_sl3 (H : HasG C) (k t a b c d : Int) (hd : 0 ≤ d ∧ d ≤ 255) (x : Bs) (G : List Bs) (hG : G ≠ []) (hl : G.length ≤ 3) (hm : G.all isName = true) :
    OneR k t x (w422_K0 C ⟨[(4, .int .i64 3), (3, .ptr 0 0 0), (2, .ptr 2 0 0), (1, .ptr 3 0 0)], [(0, .cells 4 [[.int .u64 k, .int .u8 t, .str x, .sl 1 1 0 G.length G.length false]] true false), (1, .cells 1 (G.map eS) true true), (2, .cells 4 [[.int .u64 0, .int .u8 0, .str [], .ro 1 [] true]] true true), (3, .cells 4 [[.int .u8 a, .int .u8 b, .int .u8 c, .int .u8 d]] true true)], 4⟩) := by
  have hfit : (G.length + 1) * 17 ≤ 35184372088832 := by omega
  have hfit2 : (G.length + 2) * 17 ≤ 35184372088832 := by omega
  have h4 : List.take G.length (List.map eS G) = List.map eS G := List.take_of_length_le (by simp)
  by_cases c1 : 240 ≤ d
  · refine ⟨G ++ [[97], [97]], false, ?_, by simp; omega, by simp only [List.all_append, hm]; decide⟩
    have h5 : List.take (G.length + 2) (List.map eS G ++ [[.str [97]], [.str [97]]]) = List.map eS G ++ [[.str [97]], [.str [97]]] := List.take_of_length_le (by simp)
    simp only [w422_K0]; rw [ck_unf w422_B0.eq_1]
    simp (disch := omega) [ck_unf w422_c0.eq_1, c1, h4, h5, hfit2]
  · refine ⟨G, false, ?_, by omega, hm⟩
    simp only [w422_K0]; rw [ck_unf w422_B0.eq_1]
    simp (disch := omega) [ck_unf w422_c0.eq_1, c1, h4]

theorem one_nil3 (H : HasG C) (k t a b c d : Int) (hd : 0 ≤ d ∧ d ≤ 255) (x : Bs) :
    OneR k t x (w422_K0 C ⟨[(4, .int .i64 3), (3, .ptr 0 0 0), (2, .ptr 1 0 0), (1, .ptr 2 0 0)], [(0, .cells 4 [[.int .u64 k, .int .u8 t, .str x, .ro 1 [] true]] true true), (1, .cells 4 [[.int .u64 0, .int .u8 0, .str [], .ro 1 [] true]] true true), (2, .cells 4 [[.int .u8 a, .int .u8 b, .int .u8 c, .int .u8 d]] true true)], 3⟩) := by
  by_cases c1 : 240 ≤ d
  · refine ⟨[[97], [97]], false, ?_, by simp, by decide⟩
    simp only [w422_K0]; rw [ck_unf w422_B0.eq_1]
    simp (disch := omega) [ck_unf w422_c0.eq_1, c1]
  · refine ⟨[], true, ?_, by simp, rfl⟩
    simp only [w422_K0]; rw [ck_unf w422_B0.eq_1]
    simp (disch := omega) [ck_unf w422_c0.eq_1, c1]

theorem one_sl2 (H : HasG C) (k t a b c d : Int) (hd : 0 ≤ d ∧ d ≤ 255) (x : Bs) (G : List Bs) (hG : G ≠ []) (hl : G.length ≤ 2) (hm : G.all isName = true) :
    OneR k t x (w422_K0 C ⟨[(4, .int .i64 2), (3, .ptr 0 0 0), (2, .ptr 2 0 0), (1, .ptr 3 0 0)], [(0, .cells 4 [[.int .u64 k, .int .u8 t, .str x, .sl 1 1 0 G.length G.length false]] true false), (1, .cells 1 (G.map eS) true true), (2, .cells 4 [[.int .u64 0, .int .u8 0, .str [], .ro 1 [] true]] true true), (3, .cells 4 [[.int .u8 a, .int .u8 b, .int .u8 c, .int .u8 d]] true true)], 4⟩) := by
  have hfit : (G.length + 1) * 17 ≤ 35184372088832 := by omega
  have hfit2 : (G.length + 2) * 17 ≤ 35184372088832 := by omega
  have h4 : List.take G.length (List.map eS G) = List.map eS G := List.take_of_length_le (by simp)
  have h6 : d.tdiv 8 = d / 8 := Int.tdiv_eq_ediv_of_nonneg (by omega)
  have h5 : (2 + d / 8).tmod 3 = (2 + d / 8) % 3 := Int.tmod_eq_emod_of_nonneg (by omega)
  have hJ : (2 + d / 8) % 3 = 0 ∨ (2 + d / 8) % 3 = 1 ∨ (2 + d / 8) % 3 = 2 := by omega
  simp only [w422_K0]; rw [ck_unf w422_B0.eq_1]
  rcases hJ with hj | hj | hj
  · simp (disch := omega) [wI64, wU8, h5, h6, hj, h4, hfit]
    split
    · have h := one_sl3 H k t a b c d hd x (G ++ [[97]]) (by simp) (by simp; omega) (by simp only [List.all_append, hm]; decide)
      simp only [w422_K0] at h
      simpa using h
    · exact one_sl3 H k t a b c d hd x G hG (by omega) hm
  · simp (disch := omega) [wI64, wU8, h5, h6, hj, h4, hfit]
    split
    · have h := one_sl3 H k t a b c d hd x (G ++ [[98, 50]]) (by simp) (by simp; omega) (by simp only [List.all_append, hm]; decide)
      simp only [w422_K0] at h
      simpa using h
    · exact one_sl3 H k t a b c d hd x G hG (by omega) hm
  · simp (disch := omega) [wI64, wU8, h5, h6, hj, h4, hfit]
    split
    · have h := one_sl3 H k t a b c d hd x (G ++ [[107, 101, 121]]) (by simp) (by simp; omega) (by simp only [List.all_append, hm]; decide)
      simp only [w422_K0] at h
      simpa using h
    · exact one_sl3 H k t a b c d hd x G hG (by omega) hm

theorem one_nil2 (H : HasG C) (k t a b c d : Int) (hd : 0 ≤ d ∧ d ≤ 255) (x : Bs) :
    OneR k t x (w422_K0 C ⟨[(4, .int .i64 2), (3, .ptr 0 0 0), (2, .ptr 1 0 0), (1, .ptr 2 0 0)], [(0, .cells 4 [[.int .u64 k, .int .u8 t, .str x, .ro 1 [] true]] true true), (1, .cells 4 [[.int .u64 0, .int .u8 0, .str [], .ro 1 [] true]] true true), (2, .cells 4 [[.int .u8 a, .int .u8 b, .int .u8 c, .int .u8 d]] true true)], 3⟩) := by
  have h6 : d.tdiv 8 = d / 8 := Int.tdiv_eq_ediv_of_nonneg (by omega)
  have h5 : (2 + d / 8).tmod 3 = (2 + d / 8) % 3 := Int.tmod_eq_emod_of_nonneg (by omega)
  have hJ : (2 + d / 8) % 3 = 0 ∨ (2 + d / 8) % 3 = 1 ∨ (2 + d / 8) % 3 = 2 := by omega
  simp only [w422_K0]; rw [ck_unf w422_B0.eq_1]
  rcases hJ with hj | hj | hj
  · simp (disch := omega) [wI64, wU8, h5, h6, hj]
    split
    · exact one_sl3 H k t a b c d hd x [[97]] (by simp) (by simp) (by decide)
    · exact one_nil3 H k t a b c d hd x
  · simp (disch := omega) [wI64, wU8, h5, h6, hj]
    split
    · exact one_sl3 H k t a b c d hd x [[98, 50]] (by simp) (by simp) (by decide)
    · exact one_nil3 H k t a b c d hd x
  · simp (disch := omega) [wI64, wU8, h5, h6, hj]
    split
    · exact one_sl3 H k t a b c d hd x [[107, 101, 121]] (by simp) (by simp) (by decide)
    · exact one_nil3 H k t a b c d hd x

theorem one_sl1 (H : HasG C) (k t a b c d : Int) (hd : 0 ≤ d ∧ d ≤ 255) (x : Bs) (G : List Bs) (hG : G ≠ []) (hl : G.length ≤ 1) (hm : G.all isName = true) :
    OneR k t x (w422_K0 C ⟨[(4, .int .i64 1), (3, .ptr 0 0 0), (2, .ptr 2 0 0), (1, .ptr 3 0 0)], [(0, .cells 4 [[.int .u64 k, .int .u8 t, .str x, .sl 1 1 0 G.length G.length false]] true false), (1, .cells 1 (G.map eS) true true), (2, .cells 4 [[.int .u64 0, .int .u8 0, .str [], .ro 1 [] true]] true true), (3, .cells 4 [[.int .u8 a, .int .u8 b, .int .u8 c, .int .u8 d]] true true)], 4⟩) := by
  have hfit : (G.length + 1) * 17 ≤ 35184372088832 := by omega
  have hfit2 : (G.length + 2) * 17 ≤ 35184372088832 := by omega
  have h4 : List.take G.length (List.map eS G) = List.map eS G := List.take_of_length_le (by simp)
  have h6 : d.tdiv 8 = d / 8 := Int.tdiv_eq_ediv_of_nonneg (by omega)
  have h5 : (1 + d / 8).tmod 3 = (1 + d / 8) % 3 := Int.tmod_eq_emod_of_nonneg (by omega)
  have hJ : (1 + d / 8) % 3 = 0 ∨ (1 + d / 8) % 3 = 1 ∨ (1 + d / 8) % 3 = 2 := by omega
  simp only [w422_K0]; rw [ck_unf w422_B0.eq_1]
  rcases hJ with hj | hj | hj
  · simp (disch := omega) [wI64, wU8, h5, h6, hj, h4, hfit]
    split
    · have h := one_sl2 H k t a b c d hd x (G ++ [[97]]) (by simp) (by simp; omega) (by simp only [List.all_append, hm]; decide)
      simp only [w422_K0] at h
      simpa using h
    · exact one_sl2 H k t a b c d hd x G hG (by omega) hm
  · simp (disch := omega) [wI64, wU8, h5, h6, hj, h4, hfit]
    split
    · have h := one_sl2 H k t a b c d hd x (G ++ [[98, 50]]) (by simp) (by simp; omega) (by simp only [List.all_append, hm]; decide)
      simp only [w422_K0] at h
      simpa using h
    · exact one_sl2 H k t a b c d hd x G hG (by omega) hm
  · simp (disch := omega) [wI64, wU8, h5, h6, hj, h4, hfit]
    split
    · have h := one_sl2 H k t a b c d hd x (G ++ [[107, 101, 121]]) (by simp) (by simp; omega) (by simp only [List.all_append, hm]; decide)
      simp only [w422_K0] at h
      simpa using h
    · exact one_sl2 H k t a b c d hd x G hG (by omega) hm

theorem one_nil1 (H : HasG C) (k t a b c d : Int) (hd : 0 ≤ d ∧ d ≤ 255) (x : Bs) :
    OneR k t x (w422_K0 C ⟨[(4, .int .i64 1), (3, .ptr 0 0 0), (2, .ptr 1 0 0), (1, .ptr 2 0 0)], [(0, .cells 4 [[.int .u64 k, .int .u8 t, .str x, .ro 1 [] true]] true true), (1, .cells 4 [[.int .u64 0, .int .u8 0, .str [], .ro 1 [] true]] true true), (2, .cells 4 [[.int .u8 a, .int .u8 b, .int .u8 c, .int .u8 d]] true true)], 3⟩) := by
  have h6 : d.tdiv 8 = d / 8 := Int.tdiv_eq_ediv_of_nonneg (by omega)
  have h5 : (1 + d / 8).tmod 3 = (1 + d / 8) % 3 := Int.tmod_eq_emod_of_nonneg (by omega)
  have hJ : (1 + d / 8) % 3 = 0 ∨ (1 + d / 8) % 3 = 1 ∨ (1 + d / 8) % 3 = 2 := by omega
  simp only [w422_K0]; rw [ck_unf w422_B0.eq_1]
  rcases hJ with hj | hj | hj
  · simp (disch := omega) [wI64, wU8, h5, h6, hj]
    split
    · exact one_sl2 H k t a b c d hd x [[97]] (by simp) (by simp) (by decide)
    · exact one_nil2 H k t a b c d hd x
  · simp (disch := omega) [wI64, wU8, h5, h6, hj]
    split
    · exact one_sl2 H k t a b c d hd x [[98, 50]] (by simp) (by simp) (by decide)
    · exact one_nil2 H k t a b c d hd x
  · simp (disch := omega) [wI64, wU8, h5, h6, hj]
    split
    · exact one_sl2 H k t a b c d hd x [[107, 101, 121]] (by simp) (by simp) (by decide)
    · exact one_nil2 H k t a b c d hd x

theorem one_nil0 (H : HasG C) (k t a b c d : Int) (hd : 0 ≤ d ∧ d ≤ 255) (x : Bs) :
    OneR k t x (w422_K0 C ⟨[(4, .int .i64 0), (3, .ptr 0 0 0), (2, .ptr 1 0 0), (1, .ptr 2 0 0)], [(0, .cells 4 [[.int .u64 k, .int .u8 t, .str x, .ro 1 [] true]] true true), (1, .cells 4 [[.int .u64 0, .int .u8 0, .str [], .ro 1 [] true]] true true), (2, .cells 4 [[.int .u8 a, .int .u8 b, .int .u8 c, .int .u8 d]] true true)], 3⟩) := by
  have h6 : d.tdiv 8 = d / 8 := Int.tdiv_eq_ediv_of_nonneg (by omega)
  have h5 : (0 + d / 8).tmod 3 = (0 + d / 8) % 3 := Int.tmod_eq_emod_of_nonneg (by omega)
  have hJ : (0 + d / 8) % 3 = 0 ∨ (0 + d / 8) % 3 = 1 ∨ (0 + d / 8) % 3 = 2 := by omega
  simp only [w422_K0]; rw [ck_unf w422_B0.eq_1]
  simp only [Int.zero_add] at h5 hJ
  rcases hJ with hj | hj | hj
  · simp (disch := omega) [wI64, wU8, h5, h6, hj]
    split
    · exact one_sl1 H k t a b c d hd x [[97]] (by simp) (by simp) (by decide)
    · exact one_nil1 H k t a b c d hd x
  · simp (disch := omega) [wI64, wU8, h5, h6, hj]
    split
    · exact one_sl1 H k t a b c d hd x [[98, 50]] (by simp) (by simp) (by decide)
    · exact one_nil1 H k t a b c d hd x
  · simp (disch := omega) [wI64, wU8, h5, h6, hj]
    split
    · exact one_sl1 H k t a b c d hd x [[107, 101, 121]] (by simp) (by simp) (by decide)
    · exact one_nil1 H k t a b c d hd x

/-- Four bytes. -/
structure Q4 where
  (a b c d : Int)
@[simp] def eQ (q : Q4) : List AV := [.int .u8 q.a, .int .u8 q.b, .int .u8 q.c, .int .u8 q.d]
structure QIn (q : Q4) : Prop where
  a : 0 ≤ q.a ∧ q.a ≤ 255
  b : 0 ≤ q.b ∧ q.b ≤ 255
  c : 0 ≤ q.c ∧ q.c ≤ 255
  d : 0 ≤ q.d ∧ q.d ≤ 255

theorem item1_ok (H : HasG C) (q : Q4) (hq : QIn q) : ∃ i : It, FnW C 422 [.agg (eQ q)] = some (eIt i) ∧ Good i := by
  obtain ⟨a, b, c, d⟩ := q
  obtain ⟨ha, hb, hc, hd⟩ := hq
  simp only at ha hb hc hd
  have h1 : a.tmod 60 = a % 60 := Int.tmod_eq_emod_of_nonneg (by omega)
  have h2 : b.tmod 3 = b % 3 := Int.tmod_eq_emod_of_nonneg (by omega)
  have h3 : c.tmod 8 = c % 8 := Int.tmod_eq_emod_of_nonneg (by omega)
  have hx : ∀ x : Bs, isText x = true → ∃ i : It, w422_K0 C ⟨[(4, .int .i64 0), (3, .ptr 0 0 0), (2, .ptr 1 0 0), (1, .ptr 2 0 0)], [(0, .cells 4 [[.int .u64 (1 + a % 60), .int .u8 (b % 3), .str x, .ro 1 [] true]] true true), (1, .cells 4 [[.int .u64 0, .int .u8 0, .str [], .ro 1 [] true]] true true), (2, .cells 4 [[.int .u8 a, .int .u8 b, .int .u8 c, .int .u8 d]] true true)], 3⟩ = some (eIt i) ∧ Good i := by
    intro x hx
    obtain ⟨m, e, h, r1, r2⟩ := one_nil0 H (1 + a % 60) (b % 3) a b c d hd x
    exact ⟨_, h, ⟨by simp only; omega, by simp only; omega, hx, r1, r2⟩⟩
  rw [fnW_eq H.f422 rfl]
  have hJ : c % 8 = 0 ∨ c % 8 = 1 ∨ c % 8 = 2 ∨ c % 8 = 3 ∨ c % 8 = 4 ∨ c % 8 = 5 ∨ c % 8 = 6 ∨ c % 8 = 7 := by omega
  rcases hJ with hj | hj | hj | hj | hj | hj | hj | hj
  · obtain ⟨i, h, g⟩ := hx [] (by decide)
    refine ⟨i, ?_, g⟩
    simp only [w422_K0] at h
    simp (disch := omega) [w422, h1, h2, h3, hj, wI64, wU8, wU64, h]
  · obtain ⟨i, h, g⟩ := hx [97] (by decide)
    refine ⟨i, ?_, g⟩
    simp only [w422_K0] at h
    simp (disch := omega) [w422, h1, h2, h3, hj, wI64, wU8, wU64, h]
  · obtain ⟨i, h, g⟩ := hx [114, 111, 119] (by decide)
    refine ⟨i, ?_, g⟩
    simp only [w422_K0] at h
    simp (disch := omega) [w422, h1, h2, h3, hj, wI64, wU8, wU64, h]
  · obtain ⟨i, h, g⟩ := hx [116, 119, 111, 32, 119, 111, 114, 100, 115] (by decide)
    refine ⟨i, ?_, g⟩
    simp only [w422_K0] at h
    simp (disch := omega) [w422, h1, h2, h3, hj, wI64, wU8, wU64, h]
  · obtain ⟨i, h, g⟩ := hx [32, 32] (by decide)
    refine ⟨i, ?_, g⟩
    simp only [w422_K0] at h
    simp (disch := omega) [w422, h1, h2, h3, hj, wI64, wU8, wU64, h]
  · obtain ⟨i, h, g⟩ := hx [126, 33, 45, 44] (by decide)
    refine ⟨i, ?_, g⟩
    simp only [w422_K0] at h
    simp (disch := omega) [w422, h1, h2, h3, hj, wI64, wU8, wU64, h]
  · obtain ⟨i, h, g⟩ := hx [97, 32, 108, 111, 110, 103, 101, 114, 32, 116, 101, 120, 116, 32, 111, 102, 32, 116, 104, 105, 115, 32, 107, 105, 110, 100] (by decide)
    refine ⟨i, ?_, g⟩
    simp only [w422_K0] at h
    simp (disch := omega) [w422, h1, h2, h3, hj, wI64, wU8, wU64, h]
  · obtain ⟨i, h, g⟩ := hx [57] (by decide)
    refine ⟨i, ?_, g⟩
    simp only [w422_K0] at h
    simp (disch := omega) [w422, h1, h2, h3, hj, wI64, wU8, wU64, h]
end Go.D
end

section
set_option linter.unusedSimpArgs false
set_option linter.unusedVariables false
/- Lists of items out of bytes, the kinds of the statements. No conditions beyond those that each theorem names. -/
namespace Go.D
open Go Go.Pav Go.Pw P
set_option maxRecDepth 10000
set_option maxHeartbeats 4000000
set_option linter.unusedSimpArgs false
set_option linter.unusedVariables false
attribute [-simp] List.getElem_cons_drop
variable {C : WProg}

theorem Good.it {i : It} (h : Good i) : ItIn i := ⟨by have := h.k; omega, by have := h.t; omega, by have := h.l; omega⟩
theorem Good.ok {i : It} (h : Good i) : itOk 3 i = true := by
  have h1 := h.k; have h2 := h.t; have h3 := h.x; have h4 := h.l; have h5 := h.m
  unfold itOk
  simp only [Bool.and_eq_true, decide_eq_true_eq]
  exact ⟨⟨⟨by omega, by omega⟩, h3⟩, h4, h5⟩

theorem fndI_no {k : Int} : ∀ (l : List It) (i : Nat), fndI k i l < 0 → ∀ x ∈ l, x.k ≠ k
  | [], _, _ => by simp
  | e :: r, i, h => by
    rw [fndI] at h
    split at h
    · omega
    · rename_i c
      intro x hx
      rcases List.mem_cons.1 hx with rfl | hx
      · exact c
      · exact fndI_no r (i + 1) h x hx

theorem items_loop (H : HasG C) (hone : ∀ q : Q4, QIn q → ∃ i : It, FnW C 422 [.agg (eQ q)] = some (eIt i) ∧ Good i) (l : List Q4) (e : Bool) (hq : ∀ q ∈ l, QIn q) : ∀ n i, n + i = min l.length 12 → ∀ G : List It, G.length ≤ i → (∀ x ∈ G, Good x) → (G.map It.k).Nodup →
    ∃ R : List It, w270_K0 C ⟨[(4, .int .i64 i), (3, .sl 0 4 0 G.length G.length false), (1, .ptr 1 0 0)], [(0, .cells 4 (G.map cIt) true true), (1, .cells 1 [[.ro 4 (l.map eQ) e]] true true)], 2⟩ = some (.ro 4 (R.map cIt) false) ∧
      R.length ≤ 12 ∧ (∀ x ∈ R, Good x) ∧ (R.map It.k).Nodup := by
  intro n
  induction n with
  | zero =>
    intro i hi G hG hg hn
    refine ⟨G, ?_, by omega, hg, hn⟩
    simp only [w270_K0]; rw [ck_unf w270_B0.eq_1]
    have h6 : List.take G.length (List.map cIt G) = List.map cIt G := List.take_of_length_le (by simp)
    by_cases h3 : i < l.length
    · have h4 : ¬ (i : Int) < 12 := by omega
      simp [ck_unf w270_c0.eq_1, h3, h4, h6]
    · simp [ck_unf w270_c0.eq_1, h3, h6]
  | succ n ih =>
    intro i hi G hG hg hn
    have h1 : i < l.length := by omega
    have h2 : (i : Int) < 12 := by omega
    obtain ⟨x, hx, gx⟩ := hone l[i] (hq _ (List.getElem_mem h1))
    have hf := ifind_ok H.toHasL G false x.k (by omega)
    have h6 : List.take G.length (List.map cIt G) = List.map cIt G := List.take_of_length_le (by simp)
    have hfit : (G.length + 1) * 57 ≤ 35184372088832 := by omega
    simp only [eQ] at hx
    by_cases c : fndI x.k 0 G < 0
    · have hno := fndI_no G 0 c
      obtain ⟨R, this, r1, r2, r3⟩ := ih (i + 1) (by omega) (G ++ [x]) (by simp; omega) (by
          intro y hy
          rcases List.mem_append.1 hy with q | q
          · exact hg y q
          · simp at q; rw [q]; exact gx) (by
          rw [List.map_append, List.nodup_append]
          refine ⟨hn, by simp, ?_⟩
          intro a ha b hb
          simp at hb
          obtain ⟨y, hy, rfl⟩ := List.mem_map.1 ha
          rw [hb]; exact hno y hy)
      refine ⟨R, ?_, r1, r2, r3⟩
      simp only [w270_K0] at this ⊢; rw [ck_unf w270_B0.eq_1]
      simp at this
      simp (disch := omega) [h1, h2, hx, hf, h6, c, hfit, wI64, H.inl, inlB, H.pp, ppB, this]
    · obtain ⟨R, this, r1, r2, r3⟩ := ih (i + 1) (by omega) G (by omega) hg hn
      refine ⟨R, ?_, r1, r2, r3⟩
      simp only [w270_K0] at this ⊢; rw [ck_unf w270_B0.eq_1]
      simp at this
      simp (disch := omega) [h1, h2, hx, hf, h6, c, wI64, H.inl, inlB, H.pp, ppB, this]

theorem items_ok (H : HasG C) (hone : ∀ q : Q4, QIn q → ∃ i : It, FnW C 422 [.agg (eQ q)] = some (eIt i) ∧ Good i) (l : List Q4) (e : Bool) (hq : ∀ q ∈ l, QIn q) :
    ∃ R : List It, FnW C 270 [.agg [.ro 4 (l.map eQ) e]] = some (.ro 4 (R.map cIt) false) ∧ R.length ≤ 12 ∧ (∀ x ∈ R, Good x) ∧ (R.map It.k).Nodup := by
  obtain ⟨R, h, r⟩ := items_loop H hone l e hq (min l.length 12) 0 (by simp) [] (by simp) (by simp) (by simp)
  refine ⟨R, ?_, r⟩
  simp only [w270_K0] at h
  simp at h
  rw [fnW_eq H.f270 rfl]
  simp [w270, h]

/-- The templates of the statements. -/
def leafP (k : Int) (t : Bs) : Pt := ⟨k, [], [], [], true, t, [], true⟩
def tmRow : Pt := ⟨1, [114, 111, 119], [], [⟨[110], 3, []⟩, ⟨[116, 101, 120, 116], 1, []⟩], true, [], [leafP 3 []], true⟩
def tmHead : Pt := ⟨1, [104, 101, 97, 100], [104], [⟨[105, 100], 2, []⟩], true, [], [leafP 2 [35], leafP 4 []], true⟩
def tmTags : Pt := ⟨1, [114, 111, 119], [], [], true, [], [⟨1, [98], [98, 50], [], true, [], [leafP 3 []], true⟩, ⟨5, [116, 97, 103], [], [⟨[111, 102], 2, []⟩], true, [], [], true⟩], true⟩
/-- The kinds of the statements. -/
def kindsOf (n : Int) : List Kd := [⟨tmRow, 10 + n % 7, false, n % 4⟩, ⟨tmHead, 6 + n % 3, true, n / 4 % 3⟩, ⟨tmTags, 20, decide (n % 16 = 15), n / 8 % 3⟩]

theorem kinds_ok (H : HasG C) (n : Int) (hn : 0 ≤ n ∧ n ≤ 255) : FnW C 126 [.int .u8 n] = some (.ro 9 ((kindsOf n).map eKd) true) := by
  rw [fnW_eq H.f126 rfl]
  have h1 : n.tmod 7 = n % 7 := Int.tmod_eq_emod_of_nonneg (by omega)
  have h2 : n.tmod 4 = n % 4 := Int.tmod_eq_emod_of_nonneg (by omega)
  have h3 : n.tmod 3 = n % 3 := Int.tmod_eq_emod_of_nonneg (by omega)
  have h4 : n.tdiv 4 = n / 4 := Int.tdiv_eq_ediv_of_nonneg (by omega)
  have h5 : n.tdiv 8 = n / 8 := Int.tdiv_eq_ediv_of_nonneg (by omega)
  have h6 : (n / 4).tmod 3 = n / 4 % 3 := Int.tmod_eq_emod_of_nonneg (by omega)
  have h7 : (n / 8).tmod 3 = n / 8 % 3 := Int.tmod_eq_emod_of_nonneg (by omega)
  have h8 : n.tmod 16 = n % 16 := Int.tmod_eq_emod_of_nonneg (by omega)
  simp (disch := omega) [w126, kindsOf, tmRow, tmHead, tmTags, leafP, h1, h2, h3, h4, h5, h6, h7, h8, wI64, wU8, Pt.c_eq]
  rfl

theorem fits_leaf (k : Int) (t : Bs) : FitsAll (leafP k t) := .mk _ ⟨by simp [leafP], by simp [leafP], by simp [leafP]⟩ (by simp [leafP])
theorem fits_row : FitsAll tmRow := .mk _ ⟨by simp [tmRow], by simp [tmRow], by simp [tmRow]⟩ (by simp only [tmRow, List.mem_cons, List.not_mem_nil, or_false]; rintro m rfl; exact fits_leaf _ _)
theorem fits_head : FitsAll tmHead := .mk _ ⟨by simp [tmHead], by simp [tmHead], by simp [tmHead]⟩ (by simp only [tmHead, List.mem_cons, List.not_mem_nil, or_false]; rintro m (rfl | rfl) <;> exact fits_leaf _ _)
theorem fits_tags : FitsAll tmTags := .mk _ ⟨by simp [tmTags], by simp [tmTags], by simp [tmTags]⟩ (by
  simp only [tmTags, List.mem_cons, List.not_mem_nil, or_false]
  rintro m (rfl | rfl)
  · exact .mk _ ⟨by simp, by simp, by simp⟩ (by simp only [List.mem_cons, List.not_mem_nil, or_false]; rintro m rfl; exact fits_leaf _ _)
  · exact .mk _ ⟨by simp, by simp, by simp⟩ (by simp))

theorem ru_in (n : Int) : RuIn (kindsOf n) := ⟨by simp [kindsOf], by
  simp only [kindsOf, List.mem_cons, List.not_mem_nil, or_false]
  rintro k (rfl | rfl | rfl)
  · exact fits_row
  · exact fits_head
  · exact fits_tags⟩
theorem tc_row : tcnt tmRow ≠ 0 := by decide +kernel
theorem tc_head : tcnt tmHead ≠ 0 := by decide +kernel
theorem tc_tags : tcnt tmTags ≠ 0 := by decide +kernel
theorem ru_ok (n : Int) (hn : 0 ≤ n ∧ n ≤ 255) : ruOk (kindsOf n) 12 = true := by
  have e1 : (1 : Int) ≤ 10 + n % 7 ∧ 10 + n % 7 ≤ 2305843009213693952 := by omega
  have e2 : (1 : Int) ≤ 6 + n % 3 ∧ 6 + n % 3 ≤ 2305843009213693952 := by omega
  simp [ruOk, kdOk, hOk, kindsOf, tc_row, tc_head, tc_tags, e1, e2]
theorem kd_base (n : Int) (hn : 0 ≤ n ∧ n ≤ 255) (t : Int) (ht : 0 ≤ t ∧ t ≤ 2) : 1 ≤ (kdAt (kindsOf n) t).b ∧ (kdAt (kindsOf n) t).b ≤ 30 := by
  have : t = 0 ∨ t = 1 ∨ t = 2 := by omega
  rcases this with rfl | rfl | rfl <;> simp [kdAt, kindsOf] <;> omega
end Go.D
end

section
set_option linter.unusedSimpArgs false
set_option linter.unusedVariables false
/- The lists of the statements. No conditions beyond those that each theorem names. -/
namespace Go.D
open Go Go.Pav Go.Pw P
set_option maxRecDepth 10000
set_option maxHeartbeats 4000000
set_option linter.unusedSimpArgs false
set_option linter.unusedVariables false
attribute [-simp] List.getElem_cons_drop
variable {C : WProg}

/-- An entry of the statements. -/
structure GoodE (ks : List Kd) (e : En) : Prop where
  i : Good e.i
  ok : itE ks 12 e.i false = 0
  s : 1 ≤ e.s ∧ e.s ≤ 40
  b : e.kn = true ∨ e.s = (kdAt ks e.i.t).b

structure KsIn (ks : List Kd) : Prop where
  r : RuIn ks
  l : ks.length = 3
  b : ∀ t : Int, 0 ≤ t → t ≤ 2 → 1 ≤ (kdAt ks t).b ∧ (kdAt ks t).b ≤ 30

theorem ks_in (n : Int) (hn : 0 ≤ n ∧ n ≤ 255) : KsIn (kindsOf n) := ⟨ru_in n, rfl, fun t h1 h2 => kd_base n hn t ⟨h1, h2⟩⟩


theorem lof_sl (H : HasG C) (ks : List Kd) (hks : KsIn ks) (l : List It) (le : Bool) (hl : l.length ≤ 12) (hg : ∀ x ∈ l, Good x) (q : List Q4) (qe : Bool) (z : List Int) (ze : Bool) (hz : ∀ s ∈ z, 0 ≤ s ∧ s ≤ 255) (hzl : z.length < 9223372036854775808) (r : Int) : ∀ n i, n + i = l.length →
    ∀ G : List En, G ≠ [] → G.length ≤ i → (∀ x ∈ G, GoodE ks x) → (keysE G ++ (l.drop i).map It.k).Nodup →
    ∃ (R : List En) (f : Bool), w130_K0 C ⟨[(7, .int .i64 i), (6, .ptr 0 0 0), (5, .ro 4 (l.map cIt) le), (4, .ptr 2 0 0), (3, .ptr 3 0 0), (2, .ptr 4 0 0), (1, .ptr 5 0 0)], [(0, .cells 1 [[.sl 1 6 0 G.length G.length false]] true false), (1, .cells 6 (G.map eEn) true true), (2, .cells 2 [[.ro 9 (ks.map eKd) true, .int .i64 12]] true true), (3, .cells 1 [[.ro 6 [] true]] true true), (4, .cells 2 [[.ro 9 [] true, .int .i64 0]] true true), (5, .cells 3 [[.ro 4 (q.map eQ) qe, .ro 1 (z.map eU8) ze, .int .u8 r]] true true)], 6⟩ = some (.tup [aR ks true 12, aL R f]) ∧ R.length ≤ 12 ∧ (∀ e ∈ R, GoodE ks e) ∧ (keysE R).Nodup := by
  intro n
  induction n with
  | zero =>
    intro i hi G hne hG hge hn
    have h1 : l.drop i = [] := List.drop_eq_nil_of_le (by omega)
    have h3 : ¬ i < l.length := by omega
    have h6 : List.take G.length (List.map eEn G) = List.map eEn G := List.take_of_length_le (by simp)
    refine ⟨G, false, ?_, by omega, hge, by rw [h1] at hn; simpa using hn⟩
    simp only [w130_K0]; rw [ck_unf w130_B0.eq_1]
    simp [ck_unf w130_c0.eq_1, h3, h6]
  | succ n ih =>
    intro i hi G hne hG hge hn
    have h1 : i < l.length := by omega
    have gx := hg _ (List.getElem_mem h1)
    have hii := ritem_ok H.toHasK ks true 12 l[i] gx.it hks.r false
    have hfr := rfresh_ok H.toHasK ks true 12 l[i] gx.it (by have := gx.t; have := hks.l; omega)
    have hbase := hks.b l[i].t gx.t.1 gx.t.2
    rw [drop_cons h1, List.map_cons] at hn
    have hfit : (G.length + 1) * 73 ≤ 35184372088832 := by omega
    simp only [aR, eIt, Bool.false_eq_true, if_false] at hii
    simp only [aR, eIt, aE, eEn, fre] at hfr
    have hE0 : 0 ≤ itE ks 12 l[i] false := by unfold itE; repeat (first | omega | split)
    by_cases c1 : itE ks 12 l[i] false = 0
    · have step : ∀ e : En, e.i = l[i] → GoodE ks e → ∃ (R : List En) (f : Bool), w130_K0 C ⟨[(7, .int .i64 ((i : Int) + 1)), (6, .ptr 0 0 0), (5, .ro 4 (l.map cIt) le), (4, .ptr 2 0 0), (3, .ptr 3 0 0), (2, .ptr 4 0 0), (1, .ptr 5 0 0)], [(0, .cells 1 [[.sl 1 6 0 (G.length + 1) (G.length + 1) false]] true false), (1, .cells 6 (G.map eEn ++ [eEn e]) true true), (2, .cells 2 [[.ro 9 (ks.map eKd) true, .int .i64 12]] true true), (3, .cells 1 [[.ro 6 [] true]] true true), (4, .cells 2 [[.ro 9 [] true, .int .i64 0]] true true), (5, .cells 3 [[.ro 4 (q.map eQ) qe, .ro 1 (z.map eU8) ze, .int .u8 r]] true true)], 6⟩ = some (.tup [aR ks true 12, aL R f]) ∧ R.length ≤ 12 ∧ (∀ e ∈ R, GoodE ks e) ∧ (keysE R).Nodup := by
        intro e he hge2
        have := ih (i + 1) (by omega) (G ++ [e]) (by simp) (by simp; omega) (by
            intro y hy
            rcases List.mem_append.1 hy with q | q
            · exact hge y q
            · simp at q; rw [q]; exact hge2) (by simpa [keysE, he] using hn)
        simpa using this
      by_cases c2 : G.length < z.length
      · by_cases c3 : (0 : Int) < z[G.length]
        · have hzz := hz _ (List.getElem_mem c2)
          have hm : z[G.length].tmod 40 = z[G.length] % 40 := Int.tmod_eq_emod_of_nonneg hzz.1
          have hm1 : (0 : Int) ≤ z[G.length] % 40 := Int.emod_nonneg _ (by omega)
          have hm2 : z[G.length] % 40 < 40 := Int.emod_lt_of_pos _ (by omega)
          obtain ⟨R, f, this, hR⟩ := step ⟨l[i], 1 + z[G.length] % 40, true⟩ rfl ⟨gx, c1, by simp only; omega, .inl rfl⟩
          refine ⟨R, f, ?_, hR⟩
          rw [c1] at hii
          generalize z[G.length] % 40 = M at *
          simp only [w130_K0] at this ⊢; rw [ck_unf w130_B0.eq_1]
          simp at this
          simp (disch := omega) [h1, c2, c3, hm, hii, hfr, hfit, wI64, wU8, H.inl, inlB, H.pp, ppB, this]
        · obtain ⟨R, f, this, hR⟩ := step (fre ks l[i]) rfl ⟨gx, c1, by unfold fre; simp only; omega, .inr rfl⟩
          refine ⟨R, f, ?_, hR⟩
          rw [c1] at hii
          simp only [fre] at this
          simp only [w130_K0] at this ⊢; rw [ck_unf w130_B0.eq_1]
          simp at this
          simp (disch := omega) [h1, c2, c3, hii, hfr, hfit, wI64, wU8, H.inl, inlB, H.pp, ppB, this]
      · obtain ⟨R, f, this, hR⟩ := step (fre ks l[i]) rfl ⟨gx, c1, by unfold fre; simp only; omega, .inr rfl⟩
        refine ⟨R, f, ?_, hR⟩
        rw [c1] at hii
        simp only [fre] at this
        simp only [w130_K0] at this ⊢; rw [ck_unf w130_B0.eq_1]
        simp at this
        simp (disch := omega) [h1, c2, hii, hfr, hfit, wI64, wU8, H.inl, inlB, H.pp, ppB, this]
    · have c1' : 0 < itE ks 12 l[i] false := by omega
      obtain ⟨R, f, this, hR⟩ := ih (i + 1) (by omega) G hne (by omega) hge (by
        refine List.Nodup.sublist ?_ hn; exact List.Sublist.append (List.Sublist.refl _) (List.sublist_cons_self _ _))
      refine ⟨R, f, ?_, hR⟩
      generalize itE ks 12 l[i] false = E at *
      simp only [w130_K0] at this ⊢; rw [ck_unf w130_B0.eq_1]
      simp at this
      simp (disch := omega) [h1, c1', hii, wI64, H.inl, inlB, H.pp, ppB, this]

theorem lof_nil (H : HasG C) (ks : List Kd) (hks : KsIn ks) (l : List It) (le : Bool) (hl : l.length ≤ 12) (hg : ∀ x ∈ l, Good x) (q : List Q4) (qe : Bool) (z : List Int) (ze : Bool) (hz : ∀ s ∈ z, 0 ≤ s ∧ s ≤ 255) (hzl : z.length < 9223372036854775808) (r : Int) : ∀ n i, n + i = l.length →
     (keysE [] ++ (l.drop i).map It.k).Nodup →
    ∃ (R : List En) (f : Bool), w130_K0 C ⟨[(7, .int .i64 i), (6, .ptr 0 0 0), (5, .ro 4 (l.map cIt) le), (4, .ptr 1 0 0), (3, .ptr 2 0 0), (2, .ptr 3 0 0), (1, .ptr 4 0 0)], [(0, .cells 1 [[.ro 6 [] true]] true true), (1, .cells 2 [[.ro 9 (ks.map eKd) true, .int .i64 12]] true true), (2, .cells 1 [[.ro 6 [] true]] true true), (3, .cells 2 [[.ro 9 [] true, .int .i64 0]] true true), (4, .cells 3 [[.ro 4 (q.map eQ) qe, .ro 1 (z.map eU8) ze, .int .u8 r]] true true)], 5⟩ = some (.tup [aR ks true 12, aL R f]) ∧ R.length ≤ 12 ∧ (∀ e ∈ R, GoodE ks e) ∧ (keysE R).Nodup := by
  intro n
  induction n with
  | zero =>
    intro i hi  hn
    have h1 : l.drop i = [] := List.drop_eq_nil_of_le (by omega)
    have h3 : ¬ i < l.length := by omega
    refine ⟨[], true, ?_, by simp, by simp, by simp⟩
    simp only [w130_K0]; rw [ck_unf w130_B0.eq_1]
    simp [ck_unf w130_c0.eq_1, h3]
  | succ n ih =>
    intro i hi  hn
    have h1 : i < l.length := by omega
    have gx := hg _ (List.getElem_mem h1)
    have hii := ritem_ok H.toHasK ks true 12 l[i] gx.it hks.r false
    have hfr := rfresh_ok H.toHasK ks true 12 l[i] gx.it (by have := gx.t; have := hks.l; omega)
    have hbase := hks.b l[i].t gx.t.1 gx.t.2
    rw [drop_cons h1, List.map_cons] at hn
    
    simp only [aR, eIt, Bool.false_eq_true, if_false] at hii
    simp only [aR, eIt, aE, eEn, fre] at hfr
    have hE0 : 0 ≤ itE ks 12 l[i] false := by unfold itE; repeat (first | omega | split)
    by_cases c1 : itE ks 12 l[i] false = 0
    · have step : ∀ e : En, e.i = l[i] → GoodE ks e → ∃ (R : List En) (f : Bool), w130_K0 C ⟨[(7, .int .i64 ((i : Int) + 1)), (6, .ptr 0 0 0), (5, .ro 4 (l.map cIt) le), (4, .ptr 2 0 0), (3, .ptr 3 0 0), (2, .ptr 4 0 0), (1, .ptr 5 0 0)], [(0, .cells 1 [[.sl 1 6 0 1 1 false]] true false), (1, .cells 6 [eEn e] true true), (2, .cells 2 [[.ro 9 (ks.map eKd) true, .int .i64 12]] true true), (3, .cells 1 [[.ro 6 [] true]] true true), (4, .cells 2 [[.ro 9 [] true, .int .i64 0]] true true), (5, .cells 3 [[.ro 4 (q.map eQ) qe, .ro 1 (z.map eU8) ze, .int .u8 r]] true true)], 6⟩ = some (.tup [aR ks true 12, aL R f]) ∧ R.length ≤ 12 ∧ (∀ e ∈ R, GoodE ks e) ∧ (keysE R).Nodup := by
        intro e he hge2
        have := lof_sl H ks hks l le hl hg q qe z ze hz hzl r n (i + 1) (by omega) [e] (by simp) (by simp) (by simpa using hge2) (by simpa [keysE, he] using hn)
        simpa using this
      by_cases c2 : 0 < z.length
      · by_cases c3 : (0 : Int) < z[0]
        · have hzz := hz _ (List.getElem_mem c2)
          have hm : z[0].tmod 40 = z[0] % 40 := Int.tmod_eq_emod_of_nonneg hzz.1
          have hm1 : (0 : Int) ≤ z[0] % 40 := Int.emod_nonneg _ (by omega)
          have hm2 : z[0] % 40 < 40 := Int.emod_lt_of_pos _ (by omega)
          obtain ⟨R, f, this, hR⟩ := step ⟨l[i], 1 + z[0] % 40, true⟩ rfl ⟨gx, c1, by simp only; omega, .inl rfl⟩
          refine ⟨R, f, ?_, hR⟩
          rw [c1] at hii
          generalize z[0] % 40 = M at *
          simp only [w130_K0] at this ⊢; rw [ck_unf w130_B0.eq_1]
          simp at this
          simp (disch := omega) [h1, c2, c3, hm, hii, hfr, wI64, wU8, H.inl, inlB, H.pp, ppB, this]
        · obtain ⟨R, f, this, hR⟩ := step (fre ks l[i]) rfl ⟨gx, c1, by unfold fre; simp only; omega, .inr rfl⟩
          refine ⟨R, f, ?_, hR⟩
          rw [c1] at hii
          simp only [fre] at this
          simp only [w130_K0] at this ⊢; rw [ck_unf w130_B0.eq_1]
          simp at this
          simp (disch := omega) [h1, c2, c3, hii, hfr, wI64, wU8, H.inl, inlB, H.pp, ppB, this]
      · obtain ⟨R, f, this, hR⟩ := step (fre ks l[i]) rfl ⟨gx, c1, by unfold fre; simp only; omega, .inr rfl⟩
        refine ⟨R, f, ?_, hR⟩
        rw [c1] at hii
        simp only [fre] at this
        simp only [w130_K0] at this ⊢; rw [ck_unf w130_B0.eq_1]
        simp at this
        simp (disch := omega) [h1, c2, hii, hfr, wI64, wU8, H.inl, inlB, H.pp, ppB, this]
    · have c1' : 0 < itE ks 12 l[i] false := by omega
      obtain ⟨R, f, this, hR⟩ := ih (i + 1) (by omega) (by
        simp only [keysE, List.map_nil, List.nil_append] at hn ⊢; exact (List.nodup_cons.1 hn).2)
      refine ⟨R, f, ?_, hR⟩
      generalize itE ks 12 l[i] false = E at *
      simp only [w130_K0] at this ⊢; rw [ck_unf w130_B0.eq_1]
      simp at this
      simp (disch := omega) [h1, c1', hii, wI64, H.inl, inlB, H.pp, ppB, this]

/-- Rules and list of a list of the statements. -/
theorem lof_ok (H : HasG C) (hone : ∀ q : Q4, QIn q → ∃ i : It, FnW C 422 [.agg (eQ q)] = some (eIt i) ∧ Good i) (q : List Q4) (qe : Bool) (hq : ∀ x ∈ q, QIn x) (z : List Int) (ze : Bool) (hz : ∀ s ∈ z, 0 ≤ s ∧ s ≤ 255) (hzl : z.length < 9223372036854775808) (r : Int) (hr : 0 ≤ r ∧ r ≤ 255) :
    ∃ (R : List En) (f : Bool), FnW C 130 [.agg [.ro 4 (q.map eQ) qe, .ro 1 (z.map eU8) ze, .int .u8 r]] = some (.tup [aR (kindsOf r) true 12, aL R f]) ∧ R.length ≤ 12 ∧ (∀ e ∈ R, GoodE (kindsOf r) e) ∧ (keysE R).Nodup := by
  obtain ⟨I, hI, l1, l2, l3⟩ := items_ok H hone q qe hq
  have hk := kinds_ok H r hr
  obtain ⟨R, f, h, hR⟩ := lof_nil H (kindsOf r) (ks_in r hr) I false l1 l2 q qe z ze hz hzl r I.length 0 (by simp) (by simpa [keysE] using l3)
  refine ⟨R, f, ?_, hR⟩
  rw [fnW_eq H.f130 rfl]
  generalize kindsOf r = ks at *
  simp only [w130_K0] at h
  simp at h
  simp [w130, hI, hk, h, H.inl, inlB, H.pp, ppB]

theorem attr_own (i : It) : attrOf i.own = attrOf i := rfl
mutual
theorem mk_own (i : It) : ∀ p : Pt, mk i.own p = mk i p
  | ⟨k, t, y, s, se, tx, ch, ce⟩ => by rw [mk, mk, mks_own i ch]; rfl
theorem mks_own (i : It) : ∀ l : List Pt, mks i.own l = mks i l
  | [] => rfl
  | p :: r => by rw [mks, mks, mk_own i p, mks_own i r]
end

theorem chk_good (ks : List Kd) (hb : ∀ t : Int, 0 ≤ t → t ≤ 2 → 1 ≤ (kdAt ks t).b ∧ (kdAt ks t).b ≤ 30) : ∀ (l : List En) (s : List Int), (∀ e ∈ l, GoodE ks e) → (s ++ keysE l).Nodup → chk ks 12 s l = 0
  | [], _, _, _ => rfl
  | e :: r, s, hg, hn => by
    have h1 := hg e (by simp)
    have h2 : s.contains e.i.k = false := by
      simp only [keysE, List.map_cons] at hn
      have := (List.nodup_append.1 hn).2.2
      simp only [List.contains_eq_mem, decide_eq_false_iff_not]
      intro q
      exact this _ q _ (by simp) rfl
    have h3 : enE ks 12 e false = 0 := by
      unfold enE
      rw [h1.ok]
      have hh : hOk e.s = true := by unfold hOk; have := h1.s; simp; omega
      simp [hh, h1.b]
    rw [chk, h2, h3]
    simp only [ne_eq, not_true_eq_false, if_false]
    refine chk_good ks hb r _ (fun x hx => hg x (by simp [hx])) ?_
    simpa [keysE] using hn

theorem tot_good (ks : List Kd) : ∀ (l : List En) (s : Int), (∀ e ∈ l, GoodE ks e) → 0 ≤ s → s + 40 * l.length ≤ 4611686018427387904 → totG s l ≤ s + 40 * l.length
  | [], s, _, _, _ => by simp [totG]
  | e :: r, s, hg, h0, h => by
    have h1 := (hg e (by simp)).s
    have h2 : imax e.s 0 = e.s := imax_l (by omega)
    simp only [List.length_cons] at h ⊢
    rw [totG, h2, if_neg (by omega)]
    have := tot_good ks r (s + e.s) (fun x hx => hg x (by simp [hx])) (by omega) (by omega)
    omega

theorem ck_good (r : Int) (hr : 0 ≤ r ∧ r ≤ 255) (l : List En) (hl : l.length ≤ 1024) (hg : ∀ e ∈ l, GoodE (kindsOf r) e) (hn : (keysE l).Nodup) : ckE (kindsOf r) 12 l = 0 := by
  have h1 := chk_good (kindsOf r) (fun t a b => kd_base r hr t ⟨a, b⟩) l [] hg (by simpa using hn)
  have h2 := tot_good (kindsOf r) l 0 hg (by omega) (by omega)
  have h3 : ovE l = 0 := by unfold ovE tot; rw [if_neg (by omega)]
  unfold ckE
  rw [ru_ok r hr, h1, if_neg (by simp), if_neg (by omega), if_neg (by simp), h3]
theorem GoodE.en {ks : List Kd} {e : En} (h : GoodE ks e) : EnIn e := ⟨h.i.it, by have := h.s; omega⟩
theorem ov_good (r : Int) (l : List En) (hl : l.length ≤ 10000) (hg : ∀ e ∈ l, GoodE (kindsOf r) e) : ovE l = 0 := by
  have h2 := tot_good (kindsOf r) l 0 hg (by omega) (by omega)
  unfold ovE tot; rw [if_neg (by omega)]
theorem GoodE.ow {ks : List Kd} {e : En} (h : GoodE ks e) : GoodE ks e.own := by
  refine ⟨⟨h.i.k, h.i.t, h.i.x, h.i.l, h.i.m⟩, ?_, h.s, h.b⟩
  have h1 := h.ok
  have e1 : ∀ i : It, itOk ks.length i.own = itOk ks.length i := fun i => rfl
  have e2 : ∀ (i : It) (p : Pt), rndE p i.own 12 = rndE p i 12 := by
    intro i p
    have : mkN i.own p = mkN i p := by
      have m1 : ∀ p, Go.D.mk i.own p = Go.D.mk i p := by
        intro p
        exact (mk_own i p)
      unfold mkN; rw [m1]
    unfold rndE; rw [this]; rfl
  unfold itE at h1 ⊢
  simp only [En.own, e1, e2]
  exact h1
end Go.D
end

section
set_option linter.unusedSimpArgs false
set_option linter.unusedVariables false
/- The arguments of a law, as data of the second machine; the law's result; what is true of both. No conditions beyond those that each theorem names. -/
namespace Go.Pw
open Go Go.Pav

/-- The type of a cell; types that recur have names: `N`. -/
inductive CT where
  | bool
  | int (k : IntKind)
  | str
  | slice (ts : List CT)
  /-- Rows of a named type. -/
  | sref (t : TypeId)

/-- The values of such a cell. -/
inductive Ty (N : List (TypeId × List CT)) : CT → AV → Prop
  | bool (b : Bool)  : Ty N .bool (.bool b)
  | int (k : IntKind) (n : Int) (h1 : k.min ≤ n) (h2 : n ≤ k.max) : Ty N (.int k) (.int k n)
  | str (s : List UInt8) (h : s.length < 2 ^ 63)  : Ty N .str (.str s)
  | slice (ts : List CT) (es : List (List AV)) (ex : Bool) (hn : es.length < 2 ^ 63) (hw : ∀ (i : Nat) (e : List AV), es[i]? = some e → e.length = ts.length)
      (h : ∀ (i : Nat) (e : List AV) (j : Nat) (ct : CT) (x : AV), es[i]? = some e → ts[j]? = some ct → e[j]? = some x → Ty N ct x) : Ty N (.slice ts) (.ro ts.length es ex)
  | sref (t : TypeId) (ts : List CT) (es : List (List AV)) (ex : Bool) (hd : N.lookup t = some ts) (hn : es.length < 2 ^ 63) (hw : ∀ (i : Nat) (e : List AV), es[i]? = some e → e.length = ts.length)
      (h : ∀ (i : Nat) (e : List AV) (j : Nat) (ct : CT) (x : AV), es[i]? = some e → ts[j]? = some ct → e[j]? = some x → Ty N ct x) : Ty N (.sref t) (.ro ts.length es ex)

theorem Ty.isC {N : List (TypeId × List CT)} {ct : CT} {a : AV} (h : Ty N ct a) : Pw.isC a = true := by cases h <;> rfl

def fieldsT (F : TypeId → Option (List CT)) (P : Program) : List Field → Nat → Option (List CT)
  | [], _ => some []
  | f :: r, off => (F f.type).bind fun ts => if f.offset = off ∧ ts.length = P.cellsOf f.type then (fieldsT F P r (off + ts.length)).map (ts ++ ·) else none

/-- The cells of a type. -/
def flatT (N : List (TypeId × List CT)) (P : Program) : Nat → TypeId → Option (List CT)
  | 0, _ => none
  | n + 1, t => match P.underlying t with
    | some .bool => some [.bool]
    | some (.int k) => some [.int k]
    | some .string => some [.str]
    | some (.slice e) => match N.lookup e with
      | some _ => some [.sref e]
      | none => (flatT N P n e).bind fun ts => if ts.length = P.cellsOf e ∧ 0 < ts.length then some [.slice ts] else none
    | some (.struct fs) => (fieldsT (flatT N P n) P fs.toList 0).bind fun ts => if ts.length = P.cellsOf t then some ts else none
    | some (.array m e) => (flatT N P n e).bind fun ts => if ts.length = P.cellsOf e ∧ m * ts.length = P.cellsOf t then some (List.replicate m ts).flatten else none
    | _ => none

theorem lookup_mem {α : Type} : ∀ {N : List (TypeId × α)} {t : TypeId} {a : α}, N.lookup t = some a → (t, a) ∈ N
  | [], _, _, h => by simp at h
  | (u, b) :: r, t, a, h => by
    rw [List.lookup_cons] at h
    split at h
    · rename_i q
      have : t = u := by simpa using q
      cases h; subst this; simp
    · exact List.mem_cons_of_mem _ (lookup_mem h)

/-- The names' types are what they are called. -/
def Named (N : List (TypeId × List CT)) (P : Program) : Prop := ∀ p ∈ N, flatT N P 20 p.1 = some p.2 ∧ p.2.length = P.cellsOf p.1 ∧ 0 < p.2.length

theorem flatten_rep {α : Type} (ts : List α) : ∀ (m j : Nat), j < m * ts.length → (List.replicate m ts).flatten[j]? = ts[j % ts.length]?
  | 0, j, h => by simp at h
  | m + 1, j, h => by
    rw [List.replicate_succ, List.flatten_cons]
    rcases Nat.lt_or_ge j ts.length with hl | hl
    · rw [List.getElem?_append_left hl, Nat.mod_eq_of_lt hl]
    · rw [List.getElem?_append_right hl, flatten_rep ts m (j - ts.length) (by rw [Nat.add_mul] at h; omega), Nat.mod_eq_sub_mod hl]

theorem trod_array {H : Type} {enc : TypeId × Value → H} {P : Program} {w : World} {base : Nat} {spare : Nat → Bool} {held : Bool} {fuel : Nat} {t : TypeId} {cs : List Value} {x : DataW H × List MemPlace} {m : Nat} {e : TypeId}
    (ht : P.underlying t = some (.array m e)) (h : DataW.trod enc P w base spare held fuel t cs = some x) :
    ∃ (xs : List (DataW H × List MemPlace)) (n : Nat), fuel = n + 1 ∧ cs.length = P.cellsOf t ∧ xs.length = m ∧
      ∀ i, i < m → DataW.trod enc P w base spare held n e ((cs.drop (i * P.cellsOf e)).take (P.cellsOf e)) = xs[i]? := by
  cases fuel with
  | zero => simp [DataW.trod] at h
  | succ n =>
    unfold DataW.trod at h
    rw [ht] at h
    split at h <;> simp_all
    obtain ⟨hl, xs, hp, hd⟩ := h
    exact ⟨xs, by simpa using mapM_some_length hp, fun i hi => mapM_some_get hp i i (List.getElem?_range hi)⟩

def CellOk (N : List (TypeId × List CT)) (ψ : Nat → FuncId) (W : World) (ct : CT) (v : Value) : Prop :=
  ∃ a a', Ty N ct a ∧ VD id (fun _ => False) a a' ∧ a'.cell = true ∧ VR ψ W (fun c => c < W.heap.size) (fun _ => (0, 0)) (fun _ => False) a' v

section
variable {N : List (TypeId × List CT)} {H : Type} {enc : TypeId × Value → H} {P : Program} {W : World} {ψ : Nat → FuncId}

theorem fields_open {F : TypeId → Option (List CT)} {n : Nat} {cs : List Value}
    (hF : ∀ t cs x ts, F t = some ts → DataW.trod enc P W 0 (fun _ => true) true n t cs = some x → cs.length = ts.length ∧ ∀ (j : Nat) (ct : CT), ts[j]? = some ct → ∃ v, cs[j]? = some v ∧ CellOk N ψ W ct v) :
    ∀ (fs : List Field) (off : Nat) (ts : List CT), fieldsT F P fs off = some ts → (∀ f ∈ fs, ∃ x, DataW.trod enc P W 0 (fun _ => true) true n f.type ((cs.drop f.offset).take (P.cellsOf f.type)) = some x) →
      ∀ (j : Nat) (ct : CT), ts[j]? = some ct → ∃ v, cs[off + j]? = some v ∧ CellOk N ψ W ct v := by
  intro fs
  induction fs with
  | nil => intro off ts h _ j ct hj; simp only [fieldsT, Option.some.injEq] at h; subst h; simp at hj
  | cons f r ih =>
    intro off ts h hx j ct hj
    simp only [fieldsT, Option.bind_eq_some_iff] at h
    obtain ⟨t1, h1, h⟩ := h
    split at h
    · rename_i hc
      simp only [Option.map_eq_some_iff] at h
      obtain ⟨t2, h2, rfl⟩ := h
      rcases Nat.lt_or_ge j t1.length with hl | hl
      · rw [List.getElem?_append_left hl] at hj
        obtain ⟨x, q⟩ := hx f (by simp)
        obtain ⟨v, q1, q2⟩ := (hF _ _ _ _ h1 q).2 j ct hj
        refine ⟨v, ?_, q2⟩
        rw [List.getElem?_take] at q1
        split at q1
        · rw [List.getElem?_drop] at q1; rw [← hc.1]; exact q1
        · cases q1
      · rw [List.getElem?_append_right hl] at hj
        obtain ⟨v, q1, q2⟩ := ih _ _ h2 (fun f hf => hx f (by simp [hf])) _ ct hj
        exact ⟨v, by rw [← q1]; congr 1; omega, q2⟩
    · cases h

theorem cells_open (hN : Named N P) : ∀ (n k : Nat) (t : TypeId) (cs : List Value) (x : DataW H × List MemPlace) (ts : List CT), flatT N P k t = some ts → DataW.trod enc P W 0 (fun _ => true) true n t cs = some x →
    cs.length = ts.length ∧ ∀ (j : Nat) (ct : CT), ts[j]? = some ct → ∃ v, cs[j]? = some v ∧ CellOk N ψ W ct v := by
  intro n
  induction n with
  | zero => intro k t cs x ts _ h; simp [DataW.trod] at h
  | succ n ih =>
    intro k t cs x ts hf h
    cases k with
    | zero => simp [flatT] at hf
    | succ k =>
      have one : ∀ {v : Value} {ct : CT}, cs = [v] → ts = [ct] → CellOk N ψ W ct v → cs.length = ts.length ∧ ∀ (j : Nat) (ct : CT), ts[j]? = some ct → ∃ v, cs[j]? = some v ∧ CellOk N ψ W ct v := by
        intro v ct h1 h2 h3
        subst h1; subst h2
        refine ⟨rfl, fun j ct' hj => ?_⟩
        cases j with
        | zero => simp only [List.getElem?_cons_zero, Option.some.injEq] at hj; subst hj; exact ⟨v, rfl, h3⟩
        | succ j => simp at hj
      unfold flatT at hf
      split at hf
      · rename_i ht
        cases hf
        obtain ⟨b, e, _⟩ := DataW.trod_bool ht h
        exact one e rfl ⟨_, _, .bool b, .bool b, rfl, .bool b⟩
      · rename_i k' ht
        cases hf
        obtain ⟨m, e, _, hw⟩ := DataW.trod_int ht h
        simp only [Lit.wf, Bool.and_eq_true, decide_eq_true_eq] at hw
        exact one e rfl ⟨_, _, .int k' m hw.1 hw.2, .int k' m, rfl, .int k' m⟩
      · rename_i ht
        cases hf
        obtain ⟨s, e, _, hw⟩ := DataW.trod_string ht h
        refine one e rfl ⟨.str s.data.toList, _, .str _ ?_, .str _, rfl, ?_⟩
        · simp only [maxLen] at hw
          have : s.data.toList.length = s.size := rfl
          omega
        · have := VR.str (ψ := ψ) (w := W) (S := fun c => c < W.heap.size) (m := fun _ => (0, 0)) (A := fun _ => False) s.data.toList
          exact this
      · rename_i el ht
        have sl : ∀ (k : Nat) (us : List CT) (ct : CT), (∀ (es : List (List AV)) (ex : Bool), es.length < 2 ^ 63 → (∀ (i : Nat) (e : List AV), es[i]? = some e → e.length = us.length) → (∀ (i : Nat) (e : List AV) (j : Nat) (c : CT) (x : AV), es[i]? = some e → us[j]? = some c → e[j]? = some x → Ty N c x) → Ty N ct (.ro us.length es ex)) →
            flatT N P k el = some us → us.length = P.cellsOf el → 0 < us.length → ts = [ct] → cs.length = ts.length ∧ ∀ (j : Nat) (ct : CT), ts[j]? = some ct → ∃ v, cs[j]? = some v ∧ CellOk N ψ W ct v := by
          intro k us ct mk hu hz hz0 hts
          rcases DataW.trod_slice ht h with ⟨e, _⟩ | ⟨a, len, cap, elems, rest, n', hn, e, _, _, hl, hm, hlen, hel, hsp, _⟩
          · exact one e hts ⟨.ro us.length [] true, .nils, mk [] true (by simp) (by simp) (by simp), .ronil _ _, rfl, .nils⟩
          · cases hn
            refine one e hts ?_
            have row : ∀ i, i < cap → ∃ vs y, W.cells? 0 (a.add (i * us.length)) us.length = some vs ∧ DataW.trod enc P W 0 (fun _ => true) true n el vs = some y := by
              intro i hi
              rcases Nat.lt_or_ge i len with hil | hil
              · have := hel i hil
                rw [List.getElem?_eq_getElem (by omega), Option.bind_eq_some_iff, ← hz] at this
                obtain ⟨vs, q1, q2⟩ := this
                exact ⟨vs, _, q1, q2⟩
              · obtain ⟨q0, q⟩ := hsp rfl
                have := q (i - len) (by omega)
                rw [List.getElem?_eq_getElem (by omega), Option.bind_eq_some_iff, ← hz, show len + (i - len) = i by omega] at this
                obtain ⟨vs, q1, q2⟩ := this
                exact ⟨vs, _, q1, q2⟩
            rcases Nat.eq_zero_or_pos cap with hc0 | hc0
            · subst hc0
              obtain rfl : len = 0 := by omega
              exact ⟨.ro us.length [] true, .ro us.length [] true, mk [] true (by simp) (by simp) (by simp), .ro _ [] [] true true (by simp) rfl id (by simp) (by simp), rfl, .roe _ _ _⟩
            · obtain ⟨b, off, spot⟩ := a
              have hfirst : ∃ v, W.cell? ⟨b, off, spot⟩ = some v := by
                obtain ⟨vs, _, q1, _⟩ := row 0 hc0
                obtain ⟨_, q2, q3⟩ := World.cells?_some q1
                have := q3 0 hz0
                rw [List.getElem?_eq_getElem (by omega)] at this
                exact ⟨_, by simpa [Addr.add] using this⟩
              obtain ⟨v0, hv0⟩ := hfirst
              obtain rfl : spot = none := World.cell?_spot hv0
              have hS : b < W.heap.size := by
                unfold World.cell? at hv0
                split at hv0
                · rename_i hb; exact (Array.getElem?_eq_some_iff.1 hb).1
                · cases hv0
              have key : ∀ p : Nat × Nat, ∃ q : Value × AV × AV, p.1 < len → ∀ ct, us[p.2]? = some ct → W.cell? ⟨b, off + p.1 * us.length + p.2, none⟩ = some q.1 ∧ Ty N ct q.2.1 ∧ VD id (fun _ => False) q.2.1 q.2.2 ∧ q.2.2.cell = true ∧
                  VR ψ W (fun c => c < W.heap.size) (fun _ => (0, 0)) (fun _ => False) q.2.2 q.1 := by
                intro ⟨i, j⟩
                by_cases hi : i < len
                · cases hj : us[j]? with
                  | none => exact ⟨default, fun _ ct q => by cases q⟩
                  | some ct =>
                    obtain ⟨vs, y, q1, q2⟩ := row i (by omega)
                    obtain ⟨v, q3, c1, c2, q4, q5, q6, q7⟩ := (ih _ _ _ _ _ hu q2).2 j ct hj
                    refine ⟨(v, c1, c2), fun _ ct' q => ?_⟩
                    cases q
                    refine ⟨?_, q4, q5, q6, q7⟩
                    obtain ⟨_, r1, r2⟩ := World.cells?_some q1
                    have hjl : j < us.length := (List.getElem?_eq_some_iff.1 hj).1
                    have := r2 j hjl
                    rw [q3] at this
                    rw [← this]
                    congr 1
                    simp only [Addr.add]
                    split <;> split <;> simp_all <;> omega
                · exact ⟨default, fun q => absurd q hi⟩
              obtain ⟨F, hF⟩ := Classical.axiomOfChoice key
              let es : List (List AV) := (List.range len).map fun i => (List.range us.length).map fun j => (F (i, j)).2.1
              let es' : List (List AV) := (List.range len).map fun i => (List.range us.length).map fun j => (F (i, j)).2.2
              have g1 : ∀ (i : Nat) (e : List AV), es[i]? = some e → i < len ∧ e = (List.range us.length).map fun j => (F (i, j)).2.1 := by
                intro i e he
                simp only [es, List.getElem?_map, Option.map_eq_some_iff] at he
                obtain ⟨i', q1, q2⟩ := he
                have := List.getElem?_eq_some_iff.1 q1
                obtain ⟨q3, q4⟩ := this
                simp at q3 q4
                subst q4
                exact ⟨q3, q2.symm⟩
              have g1' : ∀ (i : Nat) (e : List AV), es'[i]? = some e → i < len ∧ e = (List.range us.length).map fun j => (F (i, j)).2.2 := by
                intro i e he
                simp only [es', List.getElem?_map, Option.map_eq_some_iff] at he
                obtain ⟨i', q1, q2⟩ := he
                have := List.getElem?_eq_some_iff.1 q1
                obtain ⟨q3, q4⟩ := this
                simp at q3 q4
                subst q4
                exact ⟨q3, q2.symm⟩
              have g2 : ∀ (G : Nat → AV) (j : Nat) (x : AV), ((List.range us.length).map G)[j]? = some x → ∃ ct, us[j]? = some ct ∧ x = G j := by
                intro G j x hx
                simp only [List.getElem?_map, Option.map_eq_some_iff] at hx
                obtain ⟨j', q1, q2⟩ := hx
                obtain ⟨q3, q4⟩ := List.getElem?_eq_some_iff.1 q1
                simp at q3 q4
                subst q4
                exact ⟨us[j], List.getElem?_eq_getElem q3, q2.symm⟩
              have l1 : es.length = len := by simp [es]
              have l2 : es'.length = len := by simp [es']
              refine ⟨.ro us.length es (decide (cap = len)), .ro us.length es' (decide (cap = len)), mk es _ ?_ ?_ ?_, .ro _ es es' _ _ ?_ (by rw [l1, l2]) id ?_ ?_, rfl, ?_⟩
              · rw [l1]; simp only [maxLen] at hm; omega
              · intro i e he; rw [(g1 i e he).2]; simp
              · intro i e j ct y he hct hy
                obtain ⟨q1, rfl⟩ := g1 i e he
                obtain ⟨ct', q2, rfl⟩ := g2 _ j y hy
                rw [hct] at q2
                cases q2
                exact (hF (i, j) q1 ct hct).2.1
              · intro e he y hy
                obtain ⟨i, he⟩ := List.getElem?_of_mem he
                obtain ⟨j, hy⟩ := List.getElem?_of_mem hy
                obtain ⟨q1, rfl⟩ := g1 i e he
                obtain ⟨ct', q2, rfl⟩ := g2 _ j y hy
                exact (hF (i, j) q1 ct' q2).2.1.isC
              · intro i e e' he he'
                rw [(g1 i e he).2, (g1' i e' he').2]; simp
              · intro i e e' j y y' he he' hy hy'
                obtain ⟨q1, rfl⟩ := g1 i e he
                obtain ⟨_, rfl⟩ := g1' i e' he'
                obtain ⟨ct', q2, rfl⟩ := g2 _ j y hy
                obtain ⟨_, _, rfl⟩ := g2 _ j y' hy'
                exact (hF (i, j) q1 ct' q2).2.2.1
              · have := VR.ro (ψ := ψ) (w := W) (S := fun c => c < W.heap.size) (m := fun _ => (0, 0)) (A := fun _ => False) us.length es' (decide (cap = len)) b off cap (fun i j => (F (i, j)).1) hS
                  (fun i e he => by rw [(g1' i e he).2]; simp) (by rw [l2]; exact hl) (fun q => by rw [l2]; simpa using q)
                  (fun i e j y he hy => by
                    obtain ⟨q1, rfl⟩ := g1' i e he
                    obtain ⟨ct', q2, rfl⟩ := g2 _ j y hy
                    have := hF (i, j) q1 ct' q2
                    exact ⟨this.2.2.2.1, this.1⟩)
                  (fun i e j y he hy => by
                    obtain ⟨q1, rfl⟩ := g1' i e he
                    obtain ⟨ct', q2, rfl⟩ := g2 _ j y hy
                    exact (hF (i, j) q1 ct' q2).2.2.2.2)
                rw [l2] at this
                exact this
        split at hf
        · rename_i us hlk
          cases hf
          obtain ⟨n1, n2, n3⟩ := hN _ (lookup_mem hlk)
          exact sl 20 us _ (fun es ex h1 h2 h3 => .sref el us es ex hlk h1 h2 h3) n1 n2 n3 rfl
        · simp only [Option.bind_eq_some_iff] at hf
          obtain ⟨us, hu, hf⟩ := hf
          split at hf
          · rename_i hz
            cases hf
            exact sl k us _ (fun es ex h1 h2 h3 => .slice us es ex h1 h2 h3) hu hz.1 hz.2 rfl
          · cases hf
      · rename_i fs ht
        simp only [Option.bind_eq_some_iff] at hf
        obtain ⟨us, hu, hf⟩ := hf
        split at hf
        · rename_i hz
          cases hf
          obtain ⟨xs, n', hn, _, hcl, hxl, hx⟩ := DataW.trod_struct ht h
          cases hn
          refine ⟨by rw [hcl, hz], fun j ct hj => ?_⟩
          have := fields_open (cs := cs) (F := flatT N P k) (n := n) (fun t cs x ts h1 h2 => ih k t cs x ts h1 h2) fs.toList 0 _ hu (fun f hf => by
            obtain ⟨i, hi⟩ := List.getElem?_of_mem hf
            have hi' : fs[i]? = some f := by simpa using hi
            have hlt : i < fs.size := (Array.getElem?_eq_some_iff.1 hi').1
            have := hx i f hi'
            rw [List.getElem?_eq_getElem (by omega)] at this
            exact ⟨_, this⟩) j ct hj
          simpa using this
        · cases hf
      · rename_i m' e ht
        simp only [Option.bind_eq_some_iff] at hf
        obtain ⟨us, hu, hf⟩ := hf
        split at hf
        · rename_i hz
          obtain ⟨hz1, hz2⟩ := hz
          cases hf
          obtain ⟨xs, n', hn, hcl, hxl, hx⟩ := trod_array ht h
          cases hn
          have hlen : (List.replicate m' us).flatten.length = m' * us.length := by simp
          refine ⟨by rw [hcl, hlen, hz2], fun j ct hj => ?_⟩
          have hjl : j < m' * us.length := by rw [← hlen]; exact (List.getElem?_eq_some_iff.1 hj).1
          have hk : 0 < us.length := by
            rcases Nat.eq_zero_or_pos us.length with q | q
            · rw [q, Nat.mul_zero] at hjl; omega
            · exact q
          rw [flatten_rep us m' j hjl] at hj
          have hq : j / us.length < m' := Nat.div_lt_of_lt_mul (by rw [Nat.mul_comm]; exact hjl)
          have hxq := hx (j / us.length) hq
          rw [List.getElem?_eq_getElem (by omega)] at hxq
          obtain ⟨v, q1, q2⟩ := (ih k e _ _ us hu hxq).2 (j % us.length) ct hj
          refine ⟨v, ?_, q2⟩
          rw [List.getElem?_take] at q1
          split at q1
          · rw [List.getElem?_drop, ← hz1] at q1
            rw [← q1]; congr 1
            exact (Nat.div_add_mod' j us.length).symm
          · cases q1
        · cases hf
      · cases hf


/-- The type of an argument. -/
inductive AT where
  | c (ct : CT)
  | g (ts : List CT)

def AT.has (N : List (TypeId × List CT)) : AT → AV → Prop
  | .c ct, a => Ty N ct a
  | .g ts, a => ∃ es, a = .agg es ∧ es.length = ts.length ∧ ∀ (j : Nat) (ct : CT) (x : AV), ts[j]? = some ct → es[j]? = some x → Ty N ct x

def argT (N : List (TypeId × List CT)) (P : Program) (t : TypeId) : Option AT :=
  match P.underlying t with
  | some (.struct _) => (flatT N P 20 t).map .g
  | some (.array _ _) => (flatT N P 20 t).map .g
  | some .bool | some (.int _) | some .string | some (.slice _) => match flatT N P 20 t with | some [ct] => some (.c ct) | _ => none
  | _ => none

theorem cells_plain {t : TypeId} {base : Nat} {v : Value} (hu : P.underlying t = some .bool ∨ (∃ k, P.underlying t = some (.int k)) ∨ P.underlying t = some .string ∨ ∃ e, P.underlying t = some (.slice e)) (h : Value.okWide P W .any base t v) :
    v.cells = #[v] := by
  cases v <;> try rfl
  rcases hu with hu | ⟨k, hu⟩ | hu | ⟨e, hu⟩ <;> simp [Value.okWide, hu, Cell.okWide, Cell.ok] at h

theorem arg_open (hN : Named N P) {t : TypeId} {at_ : AT} (ha : argT N P t = some at_) {base : Nat} {v : Value} (hv : Value.okWide P W .any base t v) {d : DataW H} {p : List MemPlace} (h : DataW.Trod enc P W 0 (fun _ => true) true t v d p) :
    ∃ a a', at_.has N a ∧ VD id (fun _ => False) a a' ∧ VR ψ W (fun c => c < W.heap.size) (fun _ => (0, 0)) (fun _ => False) a' v := by
  obtain ⟨fuel, h⟩ := h
  have plain : (P.underlying t = some .bool ∨ (∃ k, P.underlying t = some (.int k)) ∨ P.underlying t = some .string ∨ ∃ e, P.underlying t = some (.slice e)) →
      (match flatT N P 20 t with | some [ct] => some (AT.c ct) | _ => none) = some at_ → ∃ a a', at_.has N a ∧ VD id (fun _ => False) a a' ∧ VR ψ W (fun c => c < W.heap.size) (fun _ => (0, 0)) (fun _ => False) a' v := by
    intro hu he
    split at he
    · rename_i ct hf
      cases he
      rw [cells_plain hu hv] at h
      obtain ⟨_, q⟩ := cells_open (ψ := ψ) hN _ _ _ _ _ _ hf h
      obtain ⟨v', q1, a, a', q2, q3, _, q4⟩ := q 0 ct rfl
      simp only [List.getElem?_cons_zero, Option.some.injEq] at q1
      subst q1
      exact ⟨a, a', q2, q3, q4⟩
    · cases he
  have whole : (∃ cs, v = .agg cs) → (flatT N P 20 t).map AT.g = some at_ → ∃ a a', at_.has N a ∧ VD id (fun _ => False) a a' ∧ VR ψ W (fun c => c < W.heap.size) (fun _ => (0, 0)) (fun _ => False) a' v := by
    rintro ⟨cs, rfl⟩ ha
    simp only [Option.map_eq_some_iff] at ha
    obtain ⟨ts, hf, rfl⟩ := ha
    obtain ⟨hl, q⟩ := cells_open (ψ := ψ) hN _ _ _ _ _ _ hf h
    simp only [Value.cells] at hl q
    have key : ∀ j : Nat, ∃ x : AV × AV, ∀ ct, ts[j]? = some ct → Ty N ct x.1 ∧ VD id (fun _ => False) x.1 x.2 ∧ x.2.cell = true ∧ ∃ v, cs.toList[j]? = some v ∧ VR ψ W (fun c => c < W.heap.size) (fun _ => (0, 0)) (fun _ => False) x.2 v := by
      intro j
      cases hj : ts[j]? with
      | none => exact ⟨default, fun _ q => by cases q⟩
      | some ct =>
        obtain ⟨v, q1, a, a', q2, q3, q4, q5⟩ := q j ct hj
        exact ⟨(a, a'), fun ct' e => by cases e; exact ⟨q2, q3, q4, v, q1, q5⟩⟩
    obtain ⟨F, hF⟩ := Classical.axiomOfChoice key
    have g2 : ∀ (G : Nat → AV) (j : Nat) (x : AV), ((List.range ts.length).map G)[j]? = some x → ∃ ct, ts[j]? = some ct ∧ x = G j := by
      intro G j x hx
      simp only [List.getElem?_map, Option.map_eq_some_iff] at hx
      obtain ⟨j', q1, q2⟩ := hx
      obtain ⟨q3, q4⟩ := List.getElem?_eq_some_iff.1 q1
      simp at q3 q4
      subst q4
      exact ⟨ts[j], List.getElem?_eq_getElem q3, q2.symm⟩
    refine ⟨.agg ((List.range ts.length).map fun j => (F j).1), .agg ((List.range ts.length).map fun j => (F j).2), ⟨_, rfl, by simp, ?_⟩, .agg _ _ (by simp) ?_, .agg _ _ ?_ ?_ ?_⟩
    · intro j ct x hct hx
      obtain ⟨ct', q1, rfl⟩ := g2 _ j x hx
      exact (hF j ct hct).1
    · intro j x x' hx hx'
      obtain ⟨ct, q1, rfl⟩ := g2 _ j x hx
      obtain ⟨_, _, rfl⟩ := g2 _ j x' hx'
      exact (hF j ct q1).2.1
    · simp only [List.length_map, List.length_range]
      rw [← hl]; simp
    · intro j x hx
      obtain ⟨ct, q1, rfl⟩ := g2 _ j x hx
      exact (hF j ct q1).2.2.1
    · intro j x hx
      obtain ⟨ct, q1, rfl⟩ := g2 _ j x hx
      obtain ⟨v, q2, q3⟩ := (hF j ct q1).2.2.2
      have e : cs[j]? = some v := by simpa using q2
      rw [Array.getD_eq_getD_getElem?, e]
      exact q3
  unfold argT at ha
  split at ha
  · rename_i fs ht
    simp only [Value.okWide, ht] at hv
    obtain ⟨cs, hv, _, _⟩ := hv
    exact whole ⟨cs, hv⟩ ha
  · rename_i m e ht
    simp only [Value.okWide, ht] at hv
    obtain ⟨cs, hv, _, _⟩ := hv
    exact whole ⟨cs, hv⟩ ha
  · rename_i ht; exact plain (.inl ht) ha
  · rename_i k ht; exact plain (.inr (.inl ⟨k, ht⟩)) ha
  · rename_i ht; exact plain (.inr (.inr (.inl ht))) ha
  · rename_i e ht; exact plain (.inr (.inr (.inr ⟨e, ht⟩))) ha
  · cases ha

def TyAll (N : List (TypeId × List CT)) : List AT → List AV → Prop
  | [], [] => True
  | a :: r, x :: s => a.has N x ∧ TyAll N r s
  | _, _ => False

theorem args_open (hN : Named N P) {base : Nat} : ∀ {ts : List TypeId} {ats : List AT} {vs : List Value} {ds : List (DataW H)} {p : List MemPlace}, ts.map (argT N P) = ats.map some →
    (∀ (j : Nat) (t : TypeId) (v : Value), ts[j]? = some t → vs[j]? = some v → Value.okWide P W .any base t v) → DataW.TrodAll enc P W 0 (fun _ => true) true ts vs ds p →
    ∃ us us', TyAll N ats us ∧ Rel2 (VD id fun _ => False) us us' ∧ us'.length = vs.length ∧ ∀ (j : Nat) (x : AV) (v : Value), us'[j]? = some x → vs[j]? = some v → VR ψ W (fun c => c < W.heap.size) (fun _ => (0, 0)) (fun _ => False) x v
  | [], [], vs, ds, p, _, _, h => by
    obtain ⟨rfl, _, _⟩ := ChangeShapes.trodAll_nil h
    exact ⟨[], [], trivial, ⟨rfl, by simp⟩, rfl, by simp⟩
  | t :: ts, at_ :: ats, _, _, _, hm, hv, h => by
    obtain ⟨v, vs1, d, ds1, p1, q1, rfl, rfl, rfl, h1, h2⟩ := ChangeShapes.trodAll_cons h
    simp only [List.map_cons, List.cons.injEq] at hm
    obtain ⟨a, a', r1, r2, r3⟩ := arg_open (ψ := ψ) hN hm.1 (hv 0 t v rfl rfl) h1
    obtain ⟨us, us', s1, s2, s3, s4⟩ := args_open hN hm.2 (fun j t v e1 e2 => hv (j + 1) t v e1 e2) h2
    refine ⟨a :: us, a' :: us', ⟨r1, s1⟩, ⟨by simp [s2.1], fun j x x' e1 e2 => ?_⟩, by simp [s3], fun j x v' e1 e2 => ?_⟩
    · cases j with
      | zero => cases e1; cases e2; exact r2
      | succ j => exact s2.2 j x x' e1 e2
    · cases j with
      | zero => cases e1; cases e2; exact r3
      | succ j => exact s4 j x v' e1 e2
  | [], _ :: _, _, _, _, hm, _, _ => by simp at hm
  | _ :: _, [], _, _, _, hm, _, _ => by simp at hm

/-- A law that says true on the second machine says true. -/
theorem law_calls {Φ : Nat → FuncId → Option Nat} {D : WProg} (hL : Linked P Φ ψ (erProg D)) (hok : okTree D.fns = true) (hN : Named N P) {f : Nat} {ts : List TypeId} {ats : List AT} (hts : ts.map (argT N P) = ats.map some)
    (core : ∀ us, TyAll N ats us → FnW D f us = some (.bool true)) {base : Nat} {args : Array Value} {ds : List (DataW H)} {p : List MemPlace}
    (hv : ∀ (j : Nat) (t : TypeId) (v : Value), ts[j]? = some t → args[j]? = some v → Value.okWide P W .any base t v) (hA : DataW.TrodAll enc P W 0 (fun _ => true) true ts args.toList ds p) :
    Calls P (ψ f) args W fun e W' => e = .returned (.bool true) ∧ (∀ c, c < W.heap.size → W'.heap[c]? = W.heap[c]?) ∧ W.heap.size ≤ W'.heap.size ∧ W'.os = W.os ∧ W'.output = W.output := by
  obtain ⟨us, us', h1, h2, h3, h4⟩ := args_open (ψ := ψ) hN hts (fun j t v e1 e2 => hv j t v e1 (by simpa using e2)) hA
  obtain ⟨n, hc⟩ := fnW_call.1 (core us h1)
  obtain ⟨v', hc', hvd⟩ := callW_ok hok h2 hc
  rw [hvd.bool_inv] at hc'
  refine (callF_ok hL hc' (w := W) (S := fun c => c < W.heap.size) (m := fun _ => (0, 0)) (cargs := args) (fun _ h => h) (by rw [h3]; simp) fun j x hx => ?_).mono ?_
  · have hj : j < args.size := by have := (List.getElem?_eq_some_iff.1 hx).1; rw [h3] at this; simpa using this
    rw [Array.getD_eq_getD_getElem?, Array.getElem?_eq_getElem hj]
    exact h4 j x _ hx (by simp [hj])
  · rintro e W' ⟨cv, S', m', rfl, hr, q1, q2, q3, q4⟩
    rw [hr.inv_bool]
    exact ⟨rfl, q1, q2, q3, q4⟩


theorem trodAll_old {W' : World} (hh : ∀ c, c < W.heap.size → W'.heap[c]? = W.heap[c]?) {base : Nat} {sp : Nat → Bool} {held : Bool} : ∀ {ts : List TypeId} {vs : List Value} {ds : List (DataW H)} {ps : List MemPlace},
    DataW.TrodAll enc P W base sp held ts vs ds ps → (∀ p ∈ ps, p.block < W.heap.size) → DataW.TrodAll enc P W' base sp held ts vs ds ps
  | [], [], [], _, h, _ => h
  | _ :: _, _ :: _, _ :: _, _, ⟨p, q, ⟨n, h1⟩, h2, e⟩, hs => ⟨p, q, ⟨n, DataW.trod_carry n _ _ _ h1 fun x hx => by
      have hlt := hs x (by rw [e]; exact List.mem_append_left _ hx)
      cases x with
      | cell b off => simp only [World.sameAt, World.cell?]; rw [hh b hlt]
      | map b => exact hh b hlt⟩, trodAll_old hh h2 (fun x hx => hs x (by rw [e]; exact List.mem_append_right _ hx)), e⟩

theorem keptBut_old {W' : World} (hh : ∀ c, c < W.heap.size → W'.heap[c]? = W.heap[c]?) (ho : W'.os = W.os) (hp : W'.output = W.output) (may : MemPlace → Prop) : W.keptBut W' may := by
  have h := World.keptBut_refl W may
  refine ⟨ho, hp, fun i hi => ?_⟩
  have := h.2.2 i hi
  rw [hh i hi]
  exact this

/-- What a law's row asks behind the call, where the law said true and all that was there before stays. -/
theorem law_post {f : Func} {s : ChangeSpec} {fresh handsOn again : Bool} {W' : World} {args : Array Value} {ds gs : List (DataW H)} {before : List MemPlace} {tb : TypeId}
    (kids : Kids P (· < P.types.size)) (full : ∀ t e, t < P.types.size → P.underlying t = some (.slice e) → 0 < P.cellsOf e)
    (hvars0 : s.vars = []) (hW : DataW.Whole enc P f.params.toList s.vars false W args.toList ds gs before) (hfn : s.fn H (ds ++ gs) = { results := [.lit (.bool true)], args := ds })
    (hps : ∀ t ∈ f.params.toList, t < P.types.size) (hr : f.resultTypes = #[tb]) (htb : P.underlying tb = some .bool)
    (hh : ∀ c, c < W.heap.size → W'.heap[c]? = W.heap[c]?) (_hsz : W.heap.size ≤ W'.heap.size) (ho : W'.os = W.os) (hp : W'.output = W.output) :
    s.post enc P f false fresh handsOn again W args (.bool true) W' := by
  have hlt : ∀ p ∈ before, p.block < W.heap.size := hW.lt
  have hW' := hW
  obtain ⟨p, q, hA, hV, rfl, hz, _⟩ := hW
  rw [hvars0] at hV
  obtain ⟨rfl, rfl⟩ := ChangeShapes.trodVars_none hV
  simp only [List.append_nil] at hlt hz hW' hfn
  have hargs : ∀ sp : Nat → Bool, (∀ x ∈ p, sp x.block = true) → DataW.TrodAll enc P W' 0 sp true f.params.toList args.toList ds p := fun sp hsp =>
    trodAll_old hh (DataW.TrodAll.respare kids full hps hA hsp) hlt
  have hvars : ∀ sp : Nat → Bool, DataW.TrodVars enc P W' sp s.vars [] [] := fun sp => by rw [hvars0]; rfl
  have hres : ∀ (b : Nat) (sp : Nat → Bool) (hd : Bool), DataW.TrodAll enc P W' b sp hd f.resultTypes.toList ((Value.bool true).resultList f.resultTypes.size) [.lit (.bool true)] [] := fun b sp hd => by
    rw [hr]; exact ChangeShapes.trodAll_mk1 (RowKit.shut_bool htb true)
  have hok : ∀ (j : Nat) (t : TypeId) (r : Value), f.resultTypes[j]? = some t → ((Value.bool true).resultList f.resultTypes.size)[j]? = some r → Value.okWide P W' .any 0 t r :=
    RowKit.ok_one hr rfl (by simp [Value.okWide, htb, Cell.okWide, Cell.ok])
  have hold : ∀ x ∈ p, (fun b => decide (b < W.heap.size)) x.block = true := fun x hx => by simpa using hlt x hx
  refine ⟨ds, [], p, [], p, [], hW', ?_, ?_, ?_, keptBut_old hh ho hp _, fun _ => ⟨hok, [.lit (.bool true)] ++ ds, [], ([] ++ p) ++ [], ⟨[] ++ p, [], ?_, hvars _, rfl, ?_, fun h => by cases h⟩, ?_⟩⟩
  · rw [List.append_nil, hfn]; exact hres _ _ _
  · rw [List.append_nil, hfn]; exact hargs _ hold
  · rw [List.append_nil, hfn]; exact hvars _
  · exact ChangeShapes.trodAll_append (hargs _ fun _ _ => rfl) (hres _ _ _)
  · intro b off hb
    simp only [List.nil_append, List.append_nil] at hb
    have := hz b off hb
    unfold World.frozen? at this ⊢
    rw [hh b (hlt _ hb)]
    exact this
  · intro x hx _
    simpa using hx

theorem trodAll_len {base : Nat} {sp : Nat → Bool} {held : Bool} : ∀ {ts : List TypeId} {vs : List Value} {ds : List (DataW H)} {ps : List MemPlace}, DataW.TrodAll enc P W base sp held ts vs ds ps → ds.length = ts.length
  | [], [], [], _, _ => rfl
  | _ :: _, _ :: _, _ :: _, _, ⟨_, _, _, h2, _⟩ => by simp [trodAll_len h2]

def isTrue : Option AV → Bool
  | some (.bool true) => true
  | _ => false
theorem isTrue_eq {o : Option AV} (h : isTrue o = true) : o = some (.bool true) := by
  unfold isTrue at h
  split at h
  · rfl
  · cases h

theorem ty_slice1 {ct : CT} {a : AV} (h : Ty N (.slice [ct]) a) : ∃ (xs : List AV) (e : Bool), a = .ro 1 (xs.map fun x => [x]) e ∧ xs.length < 2 ^ 63 ∧ ∀ x ∈ xs, Ty N ct x := by
  cases h with
  | slice ts es ex hn hw h =>
    have one : ∀ e ∈ es, e = [e.headD .undef] ∧ Ty N ct (e.headD .undef) := by
      intro e he
      obtain ⟨i, hi⟩ := List.getElem?_of_mem he
      have hl := hw i e hi
      match e, hl with
      | [x], _ => exact ⟨rfl, h i [x] 0 ct x hi rfl rfl⟩
    refine ⟨es.map fun e => e.headD .undef, ex, ?_, by simpa using hn, ?_⟩
    · simp only [List.map_map, List.length_cons, List.length_nil, Nat.zero_add, AV.ro.injEq, true_and, and_true]
      have : es.map ((fun x => [x]) ∘ fun e => e.headD AV.undef) = es.map id := List.map_congr_left fun e he => by simpa using (one e he).1.symm
      rw [this, List.map_id]
    · intro x hx
      obtain ⟨e, he, rfl⟩ := List.mem_map.1 hx
      exact (one e he).2

theorem ty_map {α : Type} {ct : CT} {g : α → AV} (h : ∀ a, Ty N ct a → ∃ x, a = g x) : ∀ (xs : List AV), (∀ x ∈ xs, Ty N ct x) → ∃ ys : List α, xs = ys.map g := by
  intro xs
  induction xs with
  | nil => intro _; exact ⟨[], rfl⟩
  | cons a r ih =>
    intro hx
    obtain ⟨y, rfl⟩ := h a (hx a (by simp))
    obtain ⟨ys, rfl⟩ := ih fun x q => hx x (by simp [q])
    exact ⟨y :: ys, rfl⟩

end
end Go.Pw
end

section
set_option linter.unusedSimpArgs false
set_option linter.unusedVariables false
/- From the type of an argument to lists: small things. No conditions beyond those that each theorem names. -/
namespace Go.Pw
open Go Go.Pav
variable {N : List (TypeId × List CT)}

theorem ty_map2 {α : Type} {g : α → List AV} {Q : List AV → Prop} {R : α → Prop} (h : ∀ a, Q a → ∃ x, a = g x ∧ R x) : ∀ (xs : List (List AV)), (∀ x ∈ xs, Q x) → ∃ ys : List α, xs = ys.map g ∧ ∀ y ∈ ys, R y := by
  intro xs
  induction xs with
  | nil => intro _; exact ⟨[], rfl, by simp⟩
  | cons a r ih =>
    intro hx
    obtain ⟨y, rfl, hy⟩ := h a (hx a (by simp))
    obtain ⟨ys, rfl, hys⟩ := ih fun x q => hx x (by simp [q])
    exact ⟨y :: ys, rfl, by simpa using ⟨hy, hys⟩⟩

theorem ty_slice {ts : List CT} {a : AV} (h : Ty N (.slice ts) a) : ∃ (es : List (List AV)) (e : Bool), a = .ro ts.length es e ∧ es.length < 2 ^ 63 ∧ ∀ x ∈ es, x.length = ts.length ∧ ∀ (j : Nat) (ct : CT) (v : AV), ts[j]? = some ct → x[j]? = some v → Ty N ct v := by
  cases h with
  | slice ts es ex hn hw h =>
    refine ⟨es, ex, rfl, hn, fun x hx => ?_⟩
    obtain ⟨i, hi⟩ := List.getElem?_of_mem hx
    exact ⟨hw i x hi, fun j ct v e1 e2 => h i x j ct v hi e1 e2⟩

theorem ty_u8 {v : AV} (h : Ty N (.int .u8) v) : ∃ n : Int, v = .int .u8 n ∧ 0 ≤ n ∧ n ≤ 255 := by
  cases h with
  | int k n h1 h2 => exact ⟨n, rfl, h1, h2⟩
theorem ty_u64 {v : AV} (h : Ty N (.int .u64) v) : ∃ n : Int, v = .int .u64 n ∧ 0 ≤ n ∧ n ≤ 18446744073709551615 := by
  cases h with
  | int k n h1 h2 => exact ⟨n, rfl, h1, h2⟩
theorem ty_i64 {v : AV} (h : Ty N (.int .i64) v) : ∃ n : Int, v = .int .i64 n ∧ -9223372036854775808 ≤ n ∧ n ≤ 9223372036854775807 := by
  cases h with
  | int k n h1 h2 => exact ⟨n, rfl, h1, h2⟩
theorem ty_str {v : AV} (h : Ty N .str v) : ∃ s : List UInt8, v = .str s ∧ s.length < 9223372036854775808 := by
  cases h with
  | str s h => exact ⟨s, rfl, h⟩
theorem ty_bool {v : AV} (h : Ty N .bool v) : ∃ b : Bool, v = .bool b := by
  cases h with
  | bool b => exact ⟨b, rfl⟩

theorem ty_ints {a : AV} (h : Ty N (.slice [.int .i64]) a) : ∃ xs e, a = L1 xs e := by
  obtain ⟨es, e, rfl, _, hx⟩ := ty_slice h
  obtain ⟨xs, rfl, _⟩ := ty_map2 (g := eI) (R := fun _ => True) (fun l q => by
    obtain ⟨q1, q2⟩ := q
    match l, q1 with
    | [v], _ =>
      obtain ⟨n, rfl, _⟩ := ty_i64 (q2 0 _ v rfl rfl)
      exact ⟨n, rfl, trivial⟩) es hx
  exact ⟨xs, e, rfl⟩

theorem ty_bytes {a : AV} (h : Ty N (.slice [.int .u8]) a) : ∃ (xs : List Int) (e : Bool), a = .ro 1 (xs.map eU8) e ∧ ∀ x ∈ xs, 0 ≤ x ∧ x ≤ 255 := by
  obtain ⟨es, e, rfl, _, hx⟩ := ty_slice h
  obtain ⟨xs, rfl, hr⟩ := ty_map2 (g := eU8) (R := fun x : Int => 0 ≤ x ∧ x ≤ 255) (fun l q => by
    obtain ⟨q1, q2⟩ := q
    match l, q1 with
    | [v], _ =>
      obtain ⟨n, rfl, h1⟩ := ty_u8 (q2 0 _ v rfl rfl)
      exact ⟨n, rfl, h1⟩) es hx
  exact ⟨xs, e, rfl, hr⟩

end Go.Pw
end

section
set_option linter.unusedSimpArgs false
set_option linter.unusedVariables false
/- What all rows of this chapter share. No conditions. -/
namespace Go.Proofs.YthbahjhkhkiddaaGreat
open Go.ChangeShapes Go.WideShapes Go.ChangeAt Go.RowKit Go.Pav Go.Pw P

theorem own_ : ownKnob Tryz.prog.godebug = none := by kernel_rfl
theorem kids_ : Kids Tryz.prog (· < Tryz.prog.types.size) := kids_rows (by kernel_rfl) (by kernel_rfl)
theorem full_ : ∀ t e, t < Tryz.prog.types.size → Tryz.prog.underlying t = some (.slice e) → 0 < Tryz.prog.cellsOf e := slices_full_of Tryz.prog (by kernel_rfl)

theorem has_ : Go.D.HasG prog := { f561 := rfl, f517 := rfl, f557 := rfl, f556 := rfl, f511 := rfl, f510 := rfl, f560 := rfl, f545 := rfl, f578 := rfl, f543 := rfl, f495 := rfl, f516 := rfl, f500 := rfl, inl := rfl, pp := rfl, f434 := rfl, f519 := rfl, f518 := rfl, f562 := rfl, f433 := rfl, f282 := rfl, f140 := rfl, f439 := rfl, f581 := rfl, f579 := rfl, f585 := rfl, f549 := rfl, f502 := rfl, f503 := rfl, f548 := rfl, f404 := rfl, f231 := rfl, f594 := rfl, f586 := rfl, f550 := rfl, f505 := rfl, f408 := rfl, f398 := rfl, f424 := rfl, f494 := rfl, f496 := rfl, f497 := rfl, f498 := rfl, f499 := rfl, f544 := rfl, f546 := rfl, f580 := rfl, f512 := rfl, f584 := rfl, f558 := rfl, f559 := rfl, f592 := rfl, f582 := rfl, f583 := rfl, f593 := rfl, f563 := rfl, f520 := rfl, f442 := rfl, f441 := rfl, f547 := rfl, f513 := rfl, f501 := rfl, f425 := rfl, f225 := rfl, f111 := rfl, f227 := rfl, f403 := rfl, f402 := rfl, f224 := rfl, f460 := rfl, f459 := rfl, f340 := rfl, f226 := rfl, f221 := rfl, f400 := rfl, f219 := rfl, f504 := rfl, f407 := rfl, f239 := rfl, f406 := rfl, f240 := rfl, f410 := rfl, f172 := rfl, f112 := rfl, f423 := rfl, f399 := rfl, f230 := rfl, f405 := rfl, f232 := rfl, f115 := rfl, f236 := rfl, f271 := rfl, f223 := rfl, f235 := rfl, f532 := rfl, f216 := rfl, f222 := rfl, f409 := rfl, f228 := rfl, f229 := rfl, f110 := rfl, f237 := rfl, f114 := rfl, f241 := rfl, f242 := rfl, f243 := rfl, f422 := rfl, f270 := rfl, f126 := rfl, f130 := rfl }
theorem lives_ : FnW prog 119 [] = some (.bool true) := fnW_call.2 ⟨400, isTrue_eq (by kernel_rfl)⟩

end Go.Proofs.YthbahjhkhkiddaaGreat
end

section
set_option linter.unusedSimpArgs false
set_option linter.unusedVariables false
/- few: which items a law takes. No conditions beyond those that each theorem names. -/
namespace Go.D
open Go Go.Pav Go.Pw P
set_option maxRecDepth 10000
set_option maxHeartbeats 4000000
set_option linter.unusedSimpArgs false
set_option linter.unusedVariables false
attribute [-simp] List.getElem_cons_drop
variable {C : WProg}

structure HasF (C : WProg) : Prop extends HasG C where
  f234 : C.fns.get 234 = some w234

def fewM (m : List Bs) : Bool := m.all fun s => decide (s.length ≤ 20)
def fewI (x : It) : Bool := decide (x.x.length ≤ 70) && decide (x.m.length ≤ 12) && fewM x.m
def fewB (l : List It) : Bool := decide (l.length ≤ 20) && l.all fewI

theorem few_in (H : HasF C) (l : List It) (e : Bool) (V : Int) (i : Nat) (hi : i < l.length) (hl : l.length ≤ 20) (hm : l[i].m.length ≤ 12)
    (hV : w234_K0 C ⟨[(3, .int .i64 ((i : Int) + 1)), (0, .ro 4 (l.map cIt) e)], [], 0⟩ = some (.int .i64 V)) : ∀ n k, n + k = l[i].m.length →
    w234_K1 C ⟨[(4, .int .i64 k), (3, .int .i64 i), (0, .ro 4 (l.map cIt) e)], [], 0⟩ = some (.int .i64 (if fewM (l[i].m.drop k) = true then V else 0)) := by
  intro n
  induction n with
  | zero =>
    intro k hk
    have h1 : l[i].m.drop k = [] := List.drop_eq_nil_of_le (by omega)
    have h3 : ¬ k < l[i].m.length := by omega
    simp only [w234_K0] at hV
    simp only [w234_K1]; rw [ck_unf w234_B1.eq_1]
    simp (disch := omega) [ck_unf w234_c1.eq_1, hi, h1, h3, fewM, hV, wI64]
  | succ n ih =>
    intro k hk
    have h1 : k < l[i].m.length := by omega
    have this := ih (k + 1) (by omega)
    have hf : fewM (l[i].m.drop k) = (decide (l[i].m[k].length ≤ 20) && fewM (l[i].m.drop (k + 1))) := by
      rw [drop_cons h1]; rfl
    by_cases c : l[i].m[k].length ≤ 20
    · have c' : ¬ (20 : Int) < (l[i].m[k].length : Int) := by omega
      rw [decide_eq_true c, Bool.true_and] at hf
      rw [hf]
      generalize (if fewM (l[i].m.drop (k + 1)) = true then V else 0) = Z at *
      simp only [w234_K1] at this ⊢; rw [ck_unf w234_B1.eq_1]
      simp at this
      simp (disch := omega) [hi, h1, c, c', wI64, this]
    · have c' : (20 : Int) < (l[i].m[k].length : Int) := by omega
      rw [decide_eq_false c, Bool.false_and] at hf
      rw [hf]
      simp only [w234_K1]; rw [ck_unf w234_B1.eq_1]
      simp (disch := omega) [hi, h1, c, c', wI64]

theorem few_loop (H : HasF C) (l : List It) (e : Bool) (hl : l.length ≤ 20) : ∀ n i, n + i = l.length →
    w234_K0 C ⟨[(3, .int .i64 i), (0, .ro 4 (l.map cIt) e)], [], 0⟩ = some (.int .i64 (if (l.drop i).all fewI = true then 1 else 0)) := by
  intro n
  induction n with
  | zero =>
    intro i hi
    have h1 : l.drop i = [] := List.drop_eq_nil_of_le (by omega)
    have h3 : ¬ i < l.length := by omega
    simp only [w234_K0]; rw [ck_unf w234_B0.eq_1]
    simp (disch := omega) [ck_unf w234_c0.eq_1, h1, h3]
  | succ n ih =>
    intro i hi
    have h1 : i < l.length := by omega
    have this := ih (i + 1) (by omega)
    rw [drop_cons h1, List.all_cons]
    by_cases c1 : l[i].x.length ≤ 70
    · have c1' : ¬ (70 : Int) < (l[i].x.length : Int) := by omega
      by_cases c2 : l[i].m.length ≤ 12
      · have c2' : ¬ (12 : Int) < (l[i].m.length : Int) := by omega
        generalize (l.drop (i + 1)).all fewI = B at *
        have hin := few_in H l e _ i h1 hl c2 (by simpa using this) l[i].m.length 0 (by simp)
        rw [List.drop_zero] at hin
        have hf : fewI l[i] = fewM l[i].m := by unfold fewI; simp [c1, c2]
        rw [hf]
        have hE : (if (fewM l[i].m && B) = true then (1 : Int) else 0) = (if fewM l[i].m = true then (if B = true then 1 else 0) else 0) := by
          cases fewM l[i].m <;> simp
        rw [hE]
        generalize (if fewM l[i].m = true then (if B = true then (1 : Int) else 0) else 0) = Z at *
        simp only [w234_K1] at hin
        simp only [w234_K0]; rw [ck_unf w234_B0.eq_1]
        simp at hin
        simp (disch := omega) [h1, c1, c1', c2, c2', wI64, hin]
      · have c2' : (12 : Int) < (l[i].m.length : Int) := by omega
        have hf : fewI l[i] = false := by unfold fewI; simp [c2]
        rw [hf]
        simp only [w234_K0]; rw [ck_unf w234_B0.eq_1]
        simp (disch := omega) [h1, c1, c1', c2, c2', wI64]
    · have c1' : (70 : Int) < (l[i].x.length : Int) := by omega
      have hf : fewI l[i] = false := by unfold fewI; simp [c1]
      rw [hf]
      simp only [w234_K0]; rw [ck_unf w234_B0.eq_1]
      simp (disch := omega) [h1, c1, c1', wI64]

theorem few_ok (H : HasF C) (l : List It) (e : Bool) : FnW C 234 [.ro 4 (l.map cIt) e] = some (.int .i64 (if fewB l = true then 1 else 0)) := by
  rw [fnW_eq H.f234 rfl]
  by_cases c : l.length ≤ 20
  · have c' : ¬ (20 : Int) < (l.length : Int) := by omega
    have h := few_loop H l e c l.length 0 (by simp)
    rw [List.drop_zero] at h
    have hf : fewB l = l.all fewI := by unfold fewB; simp [c]
    rw [hf]
    generalize (if l.all fewI = true then (1 : Int) else 0) = Z at *
    simp only [w234_K0] at h
    simp at h
    simp (disch := omega) [w234, c, c', h]
  · have c' : (20 : Int) < (l.length : Int) := by omega
    have hf : fewB l = false := by unfold fewB; simp [c]
    rw [hf]
    simp (disch := omega) [w234, c, c']
end Go.D
end

section
set_option linter.unusedSimpArgs false
set_option linter.unusedVariables false
/- Lists: moving, changing; Remove, Move and Change. No conditions beyond those that each theorem names. -/
namespace Go.D
open Go Go.Pav Go.Pw P
set_option maxRecDepth 10000
set_option maxHeartbeats 4000000
set_option linter.unusedSimpArgs false
set_option linter.unusedVariables false
attribute [-simp] List.getElem_cons_drop
variable {C : WProg}

theorem spl_in {α : Type} {Q : α → Prop} {l x : List α} (a c : Nat) (hl : ∀ y ∈ l, Q y) (hx : ∀ y ∈ x, Q y) : ∀ y ∈ spl l a c x, Q y := fun y q => by
  simp only [spl, List.mem_append] at q
  rcases q with (q | q) | q
  · exact hl y (List.mem_of_mem_take q)
  · exact hx y q
  · exact hl y (List.mem_of_mem_drop q)
theorem EnIn.ow {e : En} (h : EnIn e) : EnIn e.own := ⟨⟨h.i.k, h.i.t, h.i.m⟩, h.s⟩

theorem do_move (H : HasO C) (ks : List Kd) (ke : Bool) (cap : Int) (hr : RuIn ks) (l : List En) (e : Bool) (hl : l.length ≤ 1000000) (hs : ∀ x ∈ l, EnIn x) (ins : Bool) (a c t : Int) (hin : ins = true → inR a c l.length = true ∧ inR t 0 (l.length - c) = true) :
    FnW C 216 [aR ks ke cap, aL l e, .agg [.bool ins, .int .i64 0, .ro 4 [] true, .nilf, .fn 409 [.rop [.ro 6 (l.map eEn) e], .rop [.int .i64 a], .rop [.int .i64 c], .rop [.int .i64 t]]]] =
      some (if ckE ks cap l ≠ 0 then errL (ckE ks cap l) else if ins = false then errL 4 else outL (spl (spl l a.toNat c.toNat []) t.toNat 0 ((l.take (a.toNat + c.toNat)).drop a.toNat))) := by
  have hc := lcheck_ok H.toHasK ks ke cap hr l e hl hs
  rw [fnW_eq H.f216 rfl]
  unfold errL
  by_cases c1 : ckE ks cap l = 0
  · rw [if_neg (by simpa using c1)]
    rw [c1] at hc
    cases ins
    · simp [w216, hc, H.inl, inlB, H.pp, ppB]
    · rw [if_neg (by simp)]
      have hq := hin rfl
      unfold inR at hq
      simp at hq
      obtain ⟨a', rfl⟩ : ∃ a' : Nat, a = a' := ⟨a.toNat, by omega⟩
      obtain ⟨c', rfl⟩ : ∃ c' : Nat, c = c' := ⟨c.toNat, by omega⟩
      obtain ⟨t', rfl⟩ : ∃ t' : Nat, t = t' := ⟨t.toNat, by omega⟩
      have hac : a' + c' ≤ l.length := by omega
      have ht' : t' ≤ l.length - c' := by omega
      have hf := fresh_ok H.toHasK ks ke cap [] true (by simp) (by simp)
      have hm := mk409_ok H (.ro 6 [] true) ⟨_, _, rfl⟩ l e a' c' t' hl hac ht'
      simp only [Int.toNat_natCast]
      have hm2 : ∀ x ∈ spl (spl l a' c' []) t' 0 ((l.take (a' + c')).drop a'), EnIn x :=
        spl_in _ _ (spl_in _ _ hs (by simp)) fun y q => hs y (List.mem_of_mem_take (List.mem_of_mem_drop q))
      have hlen := spl_len l [] a' c' hac
      have hlen2 : (spl (spl l a' c' []) t' 0 ((l.take (a' + c')).drop a')).length ≤ 1000000 := by
        rw [spl_len _ _ _ _ (by rw [hlen]; simp; omega), hlen]; simp; omega
      generalize spl (spl l a' c' []) t' 0 ((l.take (a' + c')).drop a') = R at *
      have ho := own_ok H.toHasL R true hlen2 (fun x q => (hm2 x q).i.m)
      have ht := total_ok H.toHasL (R.map En.own) true (by simpa using hlen2) (fun x q => by
        obtain ⟨y, hy, rfl⟩ := List.mem_map.1 q
        exact (hm2 y hy).ow)
      unfold outL errL
      generalize R.map En.own = R' at *
      simp only [List.map_nil] at hf
      by_cases c2 : ovE R' = 0
      · rw [c2] at ht
        simp [w216, ck_unf w216_B0.eq_1, ck_unf w216_c0.eq_1, hc, hf, hm, ho, ht, c2, H.inl, inlB, H.pp, ppB]
      · simp [w216, ck_unf w216_B0.eq_1, ck_unf w216_c0.eq_1, hc, hf, hm, ho, ht, c2, H.inl, inlB, H.pp, ppB]
  · rw [if_pos c1]
    simp [w216, hc, c1, H.inl, inlB, H.pp, ppB]

theorem remove_ok (H : HasO C) (ks : List Kd) (ke : Bool) (cap : Int) (hr : RuIn ks) (l : List En) (e : Bool) (hl : l.length ≤ 1000000) (hs : ∀ x ∈ l, EnIn x) (a c : Int) :
    FnW C 110 [aR ks ke cap, aL l e, .int .i64 a, .int .i64 c] =
      some (if ckE ks cap l ≠ 0 then errL (ckE ks cap l) else if inR a c l.length = false then errL 4 else outL (spl l a.toNat c.toNat [])) := by
  have h := do_remove H ks ke cap hr l e hl hs (inR a c l.length) a c id
  have hw := within_ok H.toHasL a c l.length (by omega)
  rw [fnW_eq H.f110 rfl]
  generalize inR a c l.length = ins at *
  have hR : ∃ R n, (if ckE ks cap l ≠ 0 then errL (ckE ks cap l) else if ins = false then errL 4 else outL (spl l a.toNat c.toNat [])) = .tup [.agg [.ro 6 R true], .int .i64 n] := by
    unfold outL errL; split
    · exact ⟨_, _, rfl⟩
    · split
      · exact ⟨_, _, rfl⟩
      · split <;> exact ⟨_, _, rfl⟩
  obtain ⟨R, n, hR⟩ := hR
  rw [hR] at h ⊢
  simp [w110, hw, h, H.inl, inlB, H.pp, ppB]

theorem move_ok (H : HasO C) (ks : List Kd) (ke : Bool) (cap : Int) (hr : RuIn ks) (l : List En) (e : Bool) (hl : l.length ≤ 1000000) (hs : ∀ x ∈ l, EnIn x) (a c t : Int) :
    FnW C 237 [aR ks ke cap, aL l e, .int .i64 a, .int .i64 c, .int .i64 t] =
      some (if ckE ks cap l ≠ 0 then errL (ckE ks cap l) else if (inR a c l.length && inR t 0 (l.length - c)) = false then errL 4 else outL (spl (spl l a.toNat c.toNat []) t.toNat 0 ((l.take (a.toNat + c.toNat)).drop a.toNat))) := by
  have h := do_move H ks ke cap hr l e hl hs (inR a c l.length && inR t 0 (l.length - c)) a c t (by simp)
  have hw := within_ok H.toHasL a c l.length (by omega)
  rw [fnW_eq H.f237 rfl]
  have hR : ∀ ins, ∃ R n, (if ckE ks cap l ≠ 0 then errL (ckE ks cap l) else if ins = false then errL 4 else outL (spl (spl l a.toNat c.toNat []) t.toNat 0 ((l.take (a.toNat + c.toNat)).drop a.toNat))) = .tup [.agg [.ro 6 R true], .int .i64 n] := by
    intro ins
    unfold outL errL; split
    · exact ⟨_, _, rfl⟩
    · split
      · exact ⟨_, _, rfl⟩
      · split <;> exact ⟨_, _, rfl⟩
  obtain ⟨R, n, hR⟩ := hR (inR a c l.length && inR t 0 (l.length - c))
  rw [hR] at h ⊢
  cases c1 : inR a c l.length
  · rw [c1] at hw h
    simp at h
    simp (disch := omega) [w237, wI64, hw, h, H.inl, inlB, H.pp, ppB]
  · have hq := c1
    unfold inR at hq
    simp at hq
    have hw2 := within_ok H.toHasL t 0 (l.length - c) (by omega)
    rw [c1] at hw h
    rw [Bool.true_and] at h
    generalize inR t 0 (l.length - c) = ins at *
    simp (disch := omega) [w237, wI64, hw, hw2, h, H.inl, inlB, H.pp, ppB]

/-- The error of a change. -/
def keyAt (l : List En) (j : Nat) : Int := ((l[j]?).map fun e => e.i.k).getD 0
def chgE (ks : List Kd) (cap : Int) (l : List En) : Nat → List It → Int
  | _, [] => 0
  | j, x :: r => if itOk ks.length x = false then 6 else if keyAt l j ≠ x.k then 9 else if rndE (kdAt ks x.t).p x cap ≠ 0 then rndE (kdAt ks x.t).p x cap else chgE ks cap l (j + 1) r

theorem dochg_loop (H : HasO C) (ks : List Kd) (ke : Bool) (cap : Int) (hr : RuIn ks) (l : List En) (e : Bool) (hl : l.length ≤ 1000000) (hs : ∀ x ∈ l, EnIn x) (a : Nat) (x : List It) (xe : Bool) (hx : ∀ y ∈ x, ItIn y) (hxl : a + x.length ≤ l.length)
    (hb : ∀ y ∈ x, itOk ks.length y = true → -9223372036854775808 ≤ (kdAt ks y.t).b ∧ (kdAt ks y.t).b ≤ 9223372036854775807) : ∀ n i, n + i = x.length → (∀ y ∈ x.take i, itOk ks.length y = true) →
    w216_K0 C ⟨[(34, .int .i64 i), (33, .int .i64 x.length), (32, .ro 4 (x.map cIt) xe), (6, .ptr 0 0 0), (5, .ptr 1 0 0), (3, .ptr 2 0 0)], [(0, .cells 1 [[.ro 6 [] true]] true true),
      (1, .cells 5 [[.bool true, .int .i64 0, .ro 4 (x.map cIt) xe, .fn 228 [.rop [.ro 6 (l.map eEn) e], .rop [.int .i64 a]], .fn 229 [.rop [.ro 6 (l.map eEn) e], .rop [.int .i64 a], .rop [.ro 4 (x.map cIt) xe]]]] true false), (2, .cells 2 [[.ro 9 (ks.map eKd) ke, .int .i64 cap]] true true)], 3⟩ =
      some (if chgE ks cap l (a + i) (x.drop i) ≠ 0 then errL (chgE ks cap l (a + i) (x.drop i)) else outL (spl l a x.length (x.map (fre ks)))) := by
  intro n
  induction n with
  | zero =>
    intro i hi hok
    have h1 : x.drop i = [] := List.drop_eq_nil_of_le (by omega)
    have h3 : ¬ i < x.length := by omega
    rw [List.take_of_length_le (by omega)] at hok
    have hf := fresh_ok H.toHasK ks ke cap x xe (by omega) (fun y q => ⟨hx y q, itOk_t (hok y q)⟩)
    have hm := mk229_ok H (x.map (fre ks)) true x xe (by simp; omega) (by simp) l e a hl (by simpa using hxl)
    have hm2 : ∀ y ∈ spl l a x.length (x.map (fre ks)), EnIn y := spl_in _ _ hs fun y q => by
      obtain ⟨z, hz, rfl⟩ := List.mem_map.1 q
      exact ⟨hx z hz, hb z hz (hok z hz)⟩
    have hlen := spl_len l (x.map (fre ks)) a x.length hxl
    simp only [List.length_map] at hm hlen
    have hlen2 : (spl l a x.length (x.map (fre ks))).length ≤ 1000000 := by rw [hlen]; omega
    rw [h1, chgE, if_neg (by simp)]
    generalize spl l a x.length (x.map (fre ks)) = R at *
    have ho := own_ok H.toHasL R true hlen2 (fun x q => (hm2 x q).i.m)
    have ht := total_ok H.toHasL (R.map En.own) true (by simpa using hlen2) (fun x q => by
      obtain ⟨y, hy, rfl⟩ := List.mem_map.1 q
      exact (hm2 y hy).ow)
    unfold outL errL
    generalize R.map En.own = R' at *
    generalize x.map (fre ks) = X at *
    simp only [w216_K0]; rw [ck_unf w216_B0.eq_1]
    by_cases c2 : ovE R' = 0
    · rw [c2] at ht
      simp [ck_unf w216_c0.eq_1, h3, hf, hm, ho, ht, c2, H.inl, inlB, H.pp, ppB]
    · simp [ck_unf w216_c0.eq_1, h3, hf, hm, ho, ht, c2, H.inl, inlB, H.pp, ppB]
  | succ n ih =>
    intro i hi hok
    have h1 : i < x.length := by omega
    have hxi := hx _ (List.getElem_mem h1)
    have hai : a + i < l.length := by omega
    have hc := icheck_ok H.toHasI x[i] ks.length hxi.t
    have hk := key228_ok H i x[i] l e a (a + i) rfl hl hai
    have hkA : keyAt l (a + i) = l[a + i].i.k := by unfold keyAt; simp [hai]
    rw [drop_cons h1]
    have hch : chgE ks cap l (a + i) (x[i] :: x.drop (i + 1)) = if itOk ks.length x[i] = false then 6 else if l[a + i].i.k ≠ x[i].k then 9 else if rndE (kdAt ks x[i].t).p x[i] cap ≠ 0 then rndE (kdAt ks x[i].t).p x[i] cap else chgE ks cap l (a + i + 1) (x.drop (i + 1)) := by
      rw [chgE, hkA]
    generalize hO : outL (spl l a x.length (x.map (fre ks))) = O at *
    unfold errL
    cases c1 : itOk ks.length x[i]
    · rw [c1] at hc
      simp at hc
      rw [hch, c1]
      simp only [w216_K0]; rw [ck_unf w216_B0.eq_1]
      simp (disch := omega) [h1, hc, H.inl, inlB, H.pp, ppB]
    · rw [c1] at hc
      simp at hc
      by_cases c2 : l[a + i].i.k = x[i].k
      · rw [if_pos c2] at hk
        have ht := itOk_t c1
        have hre := rrender_ok H.toHasK ks ke cap x[i] hxi ht hr
        simp only [aR, eIt] at hre hc hk
        have this := ih (i + 1) (by omega) (fun y q => by
          rw [List.take_succ_eq_append_getElem h1] at q
          rcases List.mem_append.1 q with q | q
          · exact hok y q
          · simp at q; rw [q]; exact c1)
        rw [← Nat.add_assoc] at this
        unfold errL at this
        generalize rndN (kdAt ks x[i].t).p x[i] cap = N at *
        generalize rndE (kdAt ks x[i].t).p x[i] cap = E at *
        by_cases c3 : E = 0
        · subst c3
          have hV : chgE ks cap l (a + i) (x[i] :: x.drop (i + 1)) = chgE ks cap l (a + i + 1) (x.drop (i + 1)) := by
            rw [hch, if_neg (by simp [c1]), if_neg (by simpa using c2), if_neg (by simp)]
          rw [hV]
          generalize (if chgE ks cap l (a + i + 1) (List.drop (i + 1) x) ≠ 0 then AV.tup [aL [] true, .int .i64 (chgE ks cap l (a + i + 1) (List.drop (i + 1) x))] else O) = Z at *
          simp only [w216_K0] at this ⊢; rw [ck_unf w216_B0.eq_1]
          simp at this
          simp (disch := omega) [h1, hc, hk, hre, wI64, H.inl, inlB, H.pp, ppB, this]
        · have hV : chgE ks cap l (a + i) (x[i] :: x.drop (i + 1)) = E := by
            rw [hch, if_neg (by simp [c1]), if_neg (by simpa using c2), if_pos c3]
          rw [hV, if_pos c3]
          simp only [w216_K0]; rw [ck_unf w216_B0.eq_1]
          simp (disch := omega) [h1, hc, hk, hre, c3, H.inl, inlB, H.pp, ppB]
      · rw [if_neg c2] at hk
        simp only [eIt] at hc hk
        have hV : chgE ks cap l (a + i) (x[i] :: x.drop (i + 1)) = 9 := by
          rw [hch, if_neg (by simp [c1]), if_pos c2]
        rw [hV, if_pos (by simp)]
        simp only [w216_K0]; rw [ck_unf w216_B0.eq_1]
        simp (disch := omega) [h1, hc, hk, H.inl, inlB, H.pp, ppB]

theorem change_ok (H : HasO C) (ks : List Kd) (ke : Bool) (cap : Int) (hr : RuIn ks) (l : List En) (e : Bool) (hl : l.length ≤ 1000000) (hs : ∀ x ∈ l, EnIn x) (a : Int) (x : List It) (xe : Bool) (hxl : x.length ≤ 1000000) (hx : ∀ y ∈ x, ItIn y)
    (hb : ∀ y ∈ x, itOk ks.length y = true → -9223372036854775808 ≤ (kdAt ks y.t).b ∧ (kdAt ks y.t).b ≤ 9223372036854775807) :
    FnW C 114 [aR ks ke cap, aL l e, .int .i64 a, .ro 4 (x.map cIt) xe] =
      some (if ckE ks cap l ≠ 0 then errL (ckE ks cap l) else if inR a x.length l.length = false then errL 4 else
        if chgE ks cap l a.toNat x ≠ 0 then errL (chgE ks cap l a.toNat x) else outL (spl l a.toNat x.length (x.map (fre ks)))) := by
  have hc := lcheck_ok H.toHasK ks ke cap hr l e hl hs
  have hw := within_ok H.toHasL a x.length l.length (by omega)
  have key : ∀ ins, ins = inR a x.length l.length → FnW C 216 [aR ks ke cap, aL l e, .agg [.bool ins, .int .i64 0, .ro 4 (x.map cIt) xe, .fn 228 [.rop [.ro 6 (l.map eEn) e], .rop [.int .i64 a]], .fn 229 [.rop [.ro 6 (l.map eEn) e], .rop [.int .i64 a], .rop [.ro 4 (x.map cIt) xe]]]] =
      some (if ckE ks cap l ≠ 0 then errL (ckE ks cap l) else if ins = false then errL 4 else
        if chgE ks cap l a.toNat x ≠ 0 then errL (chgE ks cap l a.toNat x) else outL (spl l a.toNat x.length (x.map (fre ks)))) := by
    intro ins hins
    rw [fnW_eq H.f216 rfl]
    by_cases c1 : ckE ks cap l = 0
    · rw [if_neg (by simpa using c1)]
      rw [c1] at hc
      cases ins
      · unfold errL
        simp [w216, hc, H.inl, inlB, H.pp, ppB]
      · rw [if_neg (by simp)]
        have hq := hins.symm
        unfold inR at hq
        simp at hq
        obtain ⟨a', rfl⟩ : ∃ a' : Nat, a = a' := ⟨a.toNat, by omega⟩
        have h := dochg_loop H ks ke cap hr l e hl hs a' x xe hx (by omega) hb x.length 0 (by simp) (by simp)
        rw [Nat.add_zero, List.drop_zero] at h
        simp only [Int.toNat_natCast]
        generalize (if chgE ks cap l a' x ≠ 0 then errL (chgE ks cap l a' x) else outL (spl l a' x.length (x.map (fre ks)))) = Z at *
        simp only [w216_K0] at h
        simp at h
        simp [w216, hc, h, H.inl, inlB, H.pp, ppB]
    · rw [if_pos c1]
      unfold errL
      simp [w216, hc, c1, H.inl, inlB, H.pp, ppB]
  have h := key _ rfl
  rw [fnW_eq H.f114 rfl]
  generalize inR a x.length l.length = ins at *
  have hR : ∃ R n, (if ckE ks cap l ≠ 0 then errL (ckE ks cap l) else if ins = false then errL 4 else
        if chgE ks cap l a.toNat x ≠ 0 then errL (chgE ks cap l a.toNat x) else outL (spl l a.toNat x.length (x.map (fre ks)))) = .tup [.agg [.ro 6 R true], .int .i64 n] := by
    unfold outL errL
    repeat (first | exact ⟨_, _, rfl⟩ | split)
  obtain ⟨R, n, hR⟩ := hR
  rw [hR] at h ⊢
  simp [w114, hw, h, H.inl, inlB, H.pp, ppB]
end Go.D
end

section
set_option linter.unusedSimpArgs false
set_option linter.unusedVariables false
/- Lists: keys that were seen; inserting and resetting. No conditions beyond those that each theorem names. -/
namespace Go.D
open Go Go.Pav Go.Pw P
set_option maxRecDepth 10000
set_option maxHeartbeats 4000000
set_option linter.unusedSimpArgs false
set_option linter.unusedVariables false
attribute [-simp] List.getElem_cons_drop
variable {C : WProg}

structure HasU2 (C : WProg) : Prop extends HasO C where
  f217 : C.fns.get 217 = some w217
  f401 : C.fns.get 401 = some w401
  f220 : C.fns.get 220 = some w220
  f218 : C.fns.get 218 = some w218
  f109 : C.fns.get 109 = some w109
  f108 : C.fns.get 108 = some w108

theorem ckE_ru {ks : List Kd} {cap : Int} {l : List En} (h : ckE ks cap l = 0) : ruOk ks cap = true := by
  unfold ckE at h
  cases c : ruOk ks cap
  · rw [if_pos c] at h; cases h
  · rfl
theorem itOk_2 {n : Int} {x : It} (h : itOk n x = true) : itOk2 x = true := by
  unfold itOk at h; unfold itOk2; simp at h ⊢; exact ⟨⟨h.1.1.1, h.1.2⟩, h.2⟩
theorem rnd14 {ks : List Kd} {cap : Int} (h : ruOk ks cap = true) {x : It} (hx : itOk ks.length x = true) (ht : 0 ≤ x.t) : rndE (kdAt ks x.t).p x cap = 0 ∨ rndE (kdAt ks x.t).p x cap = 14 := by
  have h2 := itOk_2 hx
  have h3 := itOk_t hx
  unfold ruOk at h
  simp only [Bool.and_eq_true, decide_eq_true_eq] at h
  unfold rndE
  rw [if_neg (by omega)]
  split
  · exact .inr rfl
  · rw [if_neg (by simp [h2])]
    split
    · exact .inr rfl
    · exact .inl rfl

@[simp] theorem oldRefs_zero : ∀ h : WHeap, oldRefs 0 h = []
  | [] => rfl
  | (b, o) :: r => by rw [oldRefs, if_neg (by omega), oldRefs_zero r]
@[simp] theorem renOld_zero (π : Nat → Option Nat) : ∀ h : WHeap, renOld 0 π h = some []
  | [] => rfl
  | (b, o) :: r => by rw [renOld, if_neg (by omega), renOld_zero π r]
/-- What an operation comes to: its value, and the result's block as it was. -/
def DoR (v : AV) (o : Option (AV × WHeap × Nat)) : Prop := ∃ h' n', o = some (v, h', n') ∧ Pav.get h' 0 = some (.cells 1 [[.ro 6 [] true]] true true)

/-- A key more among those that were seen. -/
def addK (s : List Int) (k : Int) : List Int := if s.contains k = true then s else s ++ [k]
def seenK (s : List Int) : List En → List Int
  | [] => s
  | e :: r => seenK (addK s e.i.k) r
theorem addK_has (s : List Int) (k j : Int) : (addK s k).contains j = (s ++ [k]).contains j := by
  unfold addK
  split
  · rename_i h
    simp only [List.contains_eq_mem, decide_eq_true_eq] at h
    by_cases c : j = k
    · subst c; simp [h]
    · simp [c]
  · rfl
theorem seenK_has : ∀ (l : List En) (s : List Int) (j : Int), (seenK s l).contains j = (s ++ keysE l).contains j
  | [], s, j => by rw [seenK]; simp [keysE]
  | e :: r, s, j => by
    rw [seenK, seenK_has r]
    have := addK_has s e.i.k j
    simp only [List.contains_eq_mem, List.mem_append, List.mem_cons, List.not_mem_nil, or_false, decide_eq_decide, keysE, List.map_cons] at this ⊢
    rw [this, or_assoc]
theorem kmap_add (k : Int) : ∀ s : List Int, mapPut (kmap s) (.int .u64 k) (.bool true) = some (kmap (addK s k)) := by
  intro s
  unfold addK
  cases c : s.contains k
  · rw [if_neg (by simp)]; exact kmap_put k s c
  · rw [if_pos rfl]
    induction s with
    | nil => simp at c
    | cons a r ih =>
      unfold kmap at ih ⊢
      rw [List.map_cons, mapPut]
      simp only [eqCell, if_true, ob]
      by_cases d : k = a
      · subst d; simp
      · have : r.contains k = true := by simpa [d] using c
        simp [d, ih this, om]

theorem incE_congr (ks : List Kd) (cap : Int) : ∀ (x : List It) (s t : List Int), (∀ j, s.contains j = t.contains j) → incE ks cap s x = incE ks cap t x
  | [], s, t, _ => rfl
  | x :: r, s, t, h => by
    rw [incE, incE, h, incE_congr ks cap r (s ++ [x.k]) (t ++ [x.k]) (fun j => by
      have := h j
      simp only [List.contains_eq_mem, List.mem_append, decide_eq_decide] at this ⊢
      rw [this])]


theorem unseen_loop_ins (H : HasU2 C) (l : List En) (e : Bool) (hl : l.length ≤ 1000000) : ∀ n i, n + i = l.length → ∀ s : List Int,
    CK C 25 (fnEndW [.tmp 2]) [.sq w217_L0, .bk 0 ⟨true, [3], []⟩, .sq w217_c0] w217_B0 ⟨[(9, .int .i64 i), (8, .int .i64 l.length), (7, .ro 6 (l.map eEn) e), (3, .ptr 25 0 0)], [(0, .cells 1 [[.ro 6 [] true]] true true), (25, .cells 1 [[.map 26]] true false), (26, .map (kmap s))], 27⟩ =
      some (.fn 401 [.ptr 25 0 0], [(0, .cells 1 [[.ro 6 [] true]] true true), (25, .cells 1 [[.map 26]] true false), (26, .map (kmap (seenK s (l.drop i))))], 29) := by
  intro n
  induction n with
  | zero =>
    intro i hi s
    have h1 : l.drop i = [] := List.drop_eq_nil_of_le (by omega)
    have h3 : ¬ i < l.length := by omega
    rw [ck_unf w217_B0.eq_1]
    simp (disch := omega) [ck_unf w217_c0.eq_1, h1, h3, seenK]
  | succ n ih =>
    intro i hi s
    have h1 : i < l.length := by omega
    have hp := kmap_add l[i].i.k s
    have this := ih (i + 1) (by omega) (addK s l[i].i.k)
    rw [drop_cons h1, seenK]
    rw [ck_unf w217_B0.eq_1]
    simp at this
    simp (disch := omega) [h1, wI64, hp, this]

theorem unseen_ins (H : HasU2 C) (l : List En) (e : Bool) (hl : l.length ≤ 1000000) :
    RnW C 217 [.ro 6 (l.map eEn) e] [(0, .cells 1 [[.ro 6 [] true]] true true)] 25 = some (.fn 401 [.ptr 25 0 0], [(0, .cells 1 [[.ro 6 [] true]] true true), (25, .cells 1 [[.map 26]] true false), (26, .map (kmap (seenK [] l)))], 29) := by
  have h := unseen_loop_ins H l e hl l.length 0 (by simp) []
  rw [List.drop_zero, kmap_nil] at h
  rw [rnW_eq (args := [.ro 6 (l.map eEn) e]) H.f217 rfl [(0, .cells 1 [[.ro 6 [] true]] true true)] 25]
  simp at h
  simp [w217, h]

theorem doins_loop (H : HasU2 C) (ks : List Kd) (ke : Bool) (cap : Int) (hr : RuIn ks) (hru : ruOk ks cap = true) (l : List En) (e : Bool) (hl : l.length ≤ 1000000) (hs : ∀ x ∈ l, EnIn x) (a : Nat) (ha : a ≤ l.length) (x : List It) (xe : Bool) (hx : ∀ y ∈ x, ItIn y) (hxl : x.length ≤ 1000000) (ins : Bool) (cnt : Int)
    (hb : ∀ y ∈ x, itOk ks.length y = true → -9223372036854775808 ≤ (kdAt ks y.t).b ∧ (kdAt ks y.t).b ≤ 9223372036854775807) (hsum : l.length + x.length ≤ 1000000) : ∀ n i, n + i = x.length → (∀ y ∈ x.take i, itOk ks.length y = true) → ∀ s : List Int,
    DoR (if incE ks cap s (x.drop i) ≠ 0 then errL (incE ks cap s (x.drop i)) else outL (spl l a 0 (x.map (fre ks)))) (CK C 29 (fnEndW [.cell 6 1 true, .tmp 7]) [.sq w216_L0, .bk 1 ⟨true, [6, 5, 3], []⟩, .sq w216_c0] w216_B0 ⟨[(34, .int .i64 i), (33, .int .i64 x.length), (32, .ro 4 (x.map cIt) xe), (6, .ptr 29 0 0), (5, .ptr 30 0 0), (3, .ptr 31 0 0)], [(0, .cells 1 [[.ro 6 [] true]] true true), (25, .cells 1 [[.map 26]] true false), (26, .map (kmap s)), (29, .cells 1 [[.ro 6 [] true]] true true),
      (30, .cells 5 [[.bool ins, .int .i64 cnt, .ro 4 (x.map cIt) xe, .fn 401 [.ptr 25 0 0], .fn 220 [.rop [.ro 6 (l.map eEn) e], .rop [.int .i64 a]]]] true false), (31, .cells 2 [[.ro 9 (ks.map eKd) ke, .int .i64 cap]] true true)], 32⟩) := by
  intro n
  induction n with
  | zero =>
    intro i hi hok s
    have h1 : x.drop i = [] := List.drop_eq_nil_of_le (by omega)
    have h3 : ¬ i < x.length := by omega
    rw [List.take_of_length_le (by omega)] at hok
    have hf := fresh_ok H.toHasK ks ke cap x xe (by omega) (fun y q => ⟨hx y q, itOk_t (hok y q)⟩)
    have hm : FnW C 220 [.ro 6 ((x.map (fre ks)).map eEn) true, .rop [.ro 6 (l.map eEn) e], .rop [.int .i64 a]] = some (.ro 6 ((spl l a 0 (x.map (fre ks))).map eEn) true) := by
      have h := splice_ok H.toHasL l (x.map (fre ks)) e true a 0 hl (by simpa using hxl) (by omega)
      rw [fnW_eq H.f220 rfl]
      generalize spl l a 0 (x.map (fre ks)) = R at *
      generalize x.map (fre ks) = X at *
      simp at h
      simp [w220, h, H.inl, inlB, H.pp, ppB]
    have hm2 : ∀ y ∈ spl l a 0 (x.map (fre ks)), EnIn y := spl_in _ _ hs fun y q => by
      obtain ⟨z, hz, rfl⟩ := List.mem_map.1 q
      exact ⟨hx z hz, hb z hz (hok z hz)⟩
    have hlen2 : (spl l a 0 (x.map (fre ks))).length ≤ 1000000 := by rw [spl_len _ _ _ _ (by omega)]; simp; omega
    rw [h1, incE, if_neg (by simp)]
    generalize spl l a 0 (x.map (fre ks)) = R at *
    have ho := own_ok H.toHasL R true hlen2 (fun x q => (hm2 x q).i.m)
    have ht := total_ok H.toHasL (R.map En.own) true (by simpa using hlen2) (fun x q => by
      obtain ⟨y, hy, rfl⟩ := List.mem_map.1 q
      exact (hm2 y hy).ow)
    unfold outL errL
    generalize R.map En.own = R' at *
    generalize x.map (fre ks) = X at *
    by_cases c2 : ovE R' = 0
    · rw [c2] at ht
      rw [ck_unf w216_B0.eq_1]
      simp [ck_unf w216_c0.eq_1, h3, hf, hm, ho, ht, c2, H.inl, inlB, H.pp, ppB]
      exact ⟨_, _, rfl, rfl⟩
    · rw [ck_unf w216_B0.eq_1]
      simp [ck_unf w216_c0.eq_1, h3, hf, hm, ho, ht, c2, H.inl, inlB, H.pp, ppB]
      exact ⟨_, _, rfl, rfl⟩
  | succ n ih =>
    intro i hi hok s
    have h1 : i < x.length := by omega
    have hxi := hx _ (List.getElem_mem h1)
    have hc := icheck_ok H.toHasI x[i] ks.length hxi.t
    have hg := fun a b c h n => rnW_eq (args := [a, b, c]) H.f401 rfl h n
    have hkg := kmap_get x[i].k s
    rw [drop_cons h1, incE]
    generalize hO : outL (spl l a 0 (x.map (fre ks))) = O at *
    unfold errL
    cases c1 : itOk ks.length x[i]
    · have hE : itE ks cap x[i] (s.contains x[i].k) = 6 := by unfold itE; simp [c1]
      rw [hE, if_pos (by simp), if_pos (by simp)]
      rw [c1] at hc
      simp at hc
      rw [ck_unf w216_B0.eq_1]
      simp (disch := omega) [h1, hc, H.inl, inlB, H.pp, ppB]
      exact ⟨_, _, rfl, rfl⟩
    · rw [c1] at hc
      simp at hc
      cases c2 : s.contains x[i].k
      · have ht := itOk_t c1
        have hre := rrender_ok H.toHasK ks ke cap x[i] hxi ht hr
        have h14 := rnd14 hru c1 hxi.t.1
        have hp := kmap_put x[i].k s c2
        rw [c2] at hkg
        simp only [aR, eIt] at hre hc
        have this := ih (i + 1) (by omega) (fun y q => by
          rw [List.take_succ_eq_append_getElem h1] at q
          rcases List.mem_append.1 q with q | q
          · exact hok y q
          · simp at q; rw [q]; exact c1) (s ++ [x[i].k])
        unfold errL at this
        have hE : itE ks cap x[i] false = if rndE (kdAt ks x[i].t).p x[i] cap = 0 then 0 else 14 := by unfold itE; simp [c1]
        generalize rndN (kdAt ks x[i].t).p x[i] cap = N at *
        generalize rndE (kdAt ks x[i].t).p x[i] cap = E at *
        by_cases c3 : E = 0
        · subst c3
          have hV : itE ks cap x[i] false = 0 := by rw [hE]; simp
          rw [hV]
          simp only [ne_eq, not_true_eq_false, if_false]
          generalize (if incE ks cap (s ++ [x[i].k]) (List.drop (i + 1) x) ≠ 0 then AV.tup [aL [] true, .int .i64 (incE ks cap (s ++ [x[i].k]) (List.drop (i + 1) x))] else O) = Z at *
          rw [ck_unf w216_B0.eq_1]
          simp at this
          simp (disch := omega) [h1, hc, hg, w401, hkg, hp, hre, wI64, H.inl, inlB, H.pp, ppB]
          exact this
        · have c4 : E = 14 := by rcases h14 with q | q; exact absurd q c3; exact q
          subst c4
          have hV : itE ks cap x[i] false = 14 := by rw [hE]; simp
          rw [hV, if_pos (by simp), if_pos (by simp)]
          rw [ck_unf w216_B0.eq_1]
          simp (disch := omega) [h1, hc, hg, w401, hkg, hp, hre, H.inl, inlB, H.pp, ppB]
          exact ⟨_, _, rfl, rfl⟩
      · have hE : itE ks cap x[i] true = 8 := by unfold itE; simp [c1]
        rw [hE, if_pos (by simp), if_pos (by simp)]
        rw [c2] at hkg
        simp only [eIt] at hc
        rw [ck_unf w216_B0.eq_1]
        simp (disch := omega) [h1, hc, hg, w401, hkg, H.inl, inlB, H.pp, ppB]
        exact ⟨_, _, rfl, rfl⟩

theorem unseen_loop_res (H : HasU2 C) (l : List En) (e : Bool) (hl : l.length ≤ 1000000) : ∀ n i, n + i = l.length → ∀ s : List Int,
    CK C 13 (fnEndW [.tmp 2]) [.sq w217_L0, .bk 0 ⟨true, [3], []⟩, .sq w217_c0] w217_B0 ⟨[(9, .int .i64 i), (8, .int .i64 l.length), (7, .ro 6 (l.map eEn) e), (3, .ptr 13 0 0)], [(0, .cells 1 [[.ro 6 [] true]] true true), (13, .cells 1 [[.map 14]] true false), (14, .map (kmap s))], 15⟩ =
      some (.fn 401 [.ptr 13 0 0], [(0, .cells 1 [[.ro 6 [] true]] true true), (13, .cells 1 [[.map 14]] true false), (14, .map (kmap (seenK s (l.drop i))))], 17) := by
  intro n
  induction n with
  | zero =>
    intro i hi s
    have h1 : l.drop i = [] := List.drop_eq_nil_of_le (by omega)
    have h3 : ¬ i < l.length := by omega
    rw [ck_unf w217_B0.eq_1]
    simp (disch := omega) [ck_unf w217_c0.eq_1, h1, h3, seenK]
  | succ n ih =>
    intro i hi s
    have h1 : i < l.length := by omega
    have hp := kmap_add l[i].i.k s
    have this := ih (i + 1) (by omega) (addK s l[i].i.k)
    rw [drop_cons h1, seenK]
    rw [ck_unf w217_B0.eq_1]
    simp at this
    simp (disch := omega) [h1, wI64, hp, this]

theorem unseen_res (H : HasU2 C) (l : List En) (e : Bool) (hl : l.length ≤ 1000000) :
    RnW C 217 [.ro 6 (l.map eEn) e] [(0, .cells 1 [[.ro 6 [] true]] true true)] 13 = some (.fn 401 [.ptr 13 0 0], [(0, .cells 1 [[.ro 6 [] true]] true true), (13, .cells 1 [[.map 14]] true false), (14, .map (kmap (seenK [] l)))], 17) := by
  have h := unseen_loop_res H l e hl l.length 0 (by simp) []
  rw [List.drop_zero, kmap_nil] at h
  rw [rnW_eq (args := [.ro 6 (l.map eEn) e]) H.f217 rfl [(0, .cells 1 [[.ro 6 [] true]] true true)] 13]
  simp at h
  simp [w217, h]

theorem dores_loop (H : HasU2 C) (ks : List Kd) (ke : Bool) (cap : Int) (hr : RuIn ks) (hru : ruOk ks cap = true)  (x : List It) (xe : Bool) (hx : ∀ y ∈ x, ItIn y) (hxl : x.length ≤ 1000000) (ins : Bool) (cnt : Int)
    (hb : ∀ y ∈ x, itOk ks.length y = true → -9223372036854775808 ≤ (kdAt ks y.t).b ∧ (kdAt ks y.t).b ≤ 9223372036854775807)  : ∀ n i, n + i = x.length → (∀ y ∈ x.take i, itOk ks.length y = true) → ∀ s : List Int,
    DoR (if incE ks cap s (x.drop i) ≠ 0 then errL (incE ks cap s (x.drop i)) else outL (x.map (fre ks))) (CK C 17 (fnEndW [.cell 6 1 true, .tmp 7]) [.sq w216_L0, .bk 1 ⟨true, [6, 5, 3], []⟩, .sq w216_c0] w216_B0 ⟨[(34, .int .i64 i), (33, .int .i64 x.length), (32, .ro 4 (x.map cIt) xe), (6, .ptr 17 0 0), (5, .ptr 18 0 0), (3, .ptr 19 0 0)], [(0, .cells 1 [[.ro 6 [] true]] true true), (13, .cells 1 [[.map 14]] true false), (14, .map (kmap s)), (17, .cells 1 [[.ro 6 [] true]] true true),
      (18, .cells 5 [[.bool ins, .int .i64 cnt, .ro 4 (x.map cIt) xe, .fn 401 [.ptr 13 0 0], .fn 218 []]] true false), (19, .cells 2 [[.ro 9 (ks.map eKd) ke, .int .i64 cap]] true true)], 20⟩) := by
  intro n
  induction n with
  | zero =>
    intro i hi hok s
    have h1 : x.drop i = [] := List.drop_eq_nil_of_le (by omega)
    have h3 : ¬ i < x.length := by omega
    rw [List.take_of_length_le (by omega)] at hok
    have hf := fresh_ok H.toHasK ks ke cap x xe (by omega) (fun y q => ⟨hx y q, itOk_t (hok y q)⟩)
    have hm : FnW C 218 [.ro 6 ((x.map (fre ks)).map eEn) true] = some (.ro 6 ((x.map (fre ks)).map eEn) true) := by
      rw [fnW_eq H.f218 rfl]
      generalize x.map (fre ks) = X at *
      simp [w218]
    have hm2 : ∀ y ∈ x.map (fre ks), EnIn y := fun y q => by
      obtain ⟨z, hz, rfl⟩ := List.mem_map.1 q
      exact ⟨hx z hz, hb z hz (hok z hz)⟩
    have hlen2 : (x.map (fre ks)).length ≤ 1000000 := by simpa using hxl
    rw [h1, incE, if_neg (by simp)]
    generalize x.map (fre ks) = R at *
    have ho := own_ok H.toHasL R true hlen2 (fun x q => (hm2 x q).i.m)
    have ht := total_ok H.toHasL (R.map En.own) true (by simpa using hlen2) (fun x q => by
      obtain ⟨y, hy, rfl⟩ := List.mem_map.1 q
      exact (hm2 y hy).ow)
    unfold outL errL
    generalize R.map En.own = R' at *
    
    by_cases c2 : ovE R' = 0
    · rw [c2] at ht
      rw [ck_unf w216_B0.eq_1]
      simp [ck_unf w216_c0.eq_1, h3, hf, hm, ho, ht, c2, H.inl, inlB, H.pp, ppB]
      exact ⟨_, _, rfl, rfl⟩
    · rw [ck_unf w216_B0.eq_1]
      simp [ck_unf w216_c0.eq_1, h3, hf, hm, ho, ht, c2, H.inl, inlB, H.pp, ppB]
      exact ⟨_, _, rfl, rfl⟩
  | succ n ih =>
    intro i hi hok s
    have h1 : i < x.length := by omega
    have hxi := hx _ (List.getElem_mem h1)
    have hc := icheck_ok H.toHasI x[i] ks.length hxi.t
    have hg := fun a b c h n => rnW_eq (args := [a, b, c]) H.f401 rfl h n
    have hkg := kmap_get x[i].k s
    rw [drop_cons h1, incE]
    generalize hO : outL (x.map (fre ks)) = O at *
    unfold errL
    cases c1 : itOk ks.length x[i]
    · have hE : itE ks cap x[i] (s.contains x[i].k) = 6 := by unfold itE; simp [c1]
      rw [hE, if_pos (by simp), if_pos (by simp)]
      rw [c1] at hc
      simp at hc
      rw [ck_unf w216_B0.eq_1]
      simp (disch := omega) [h1, hc, H.inl, inlB, H.pp, ppB]
      exact ⟨_, _, rfl, rfl⟩
    · rw [c1] at hc
      simp at hc
      cases c2 : s.contains x[i].k
      · have ht := itOk_t c1
        have hre := rrender_ok H.toHasK ks ke cap x[i] hxi ht hr
        have h14 := rnd14 hru c1 hxi.t.1
        have hp := kmap_put x[i].k s c2
        rw [c2] at hkg
        simp only [aR, eIt] at hre hc
        have this := ih (i + 1) (by omega) (fun y q => by
          rw [List.take_succ_eq_append_getElem h1] at q
          rcases List.mem_append.1 q with q | q
          · exact hok y q
          · simp at q; rw [q]; exact c1) (s ++ [x[i].k])
        unfold errL at this
        have hE : itE ks cap x[i] false = if rndE (kdAt ks x[i].t).p x[i] cap = 0 then 0 else 14 := by unfold itE; simp [c1]
        generalize rndN (kdAt ks x[i].t).p x[i] cap = N at *
        generalize rndE (kdAt ks x[i].t).p x[i] cap = E at *
        by_cases c3 : E = 0
        · subst c3
          have hV : itE ks cap x[i] false = 0 := by rw [hE]; simp
          rw [hV]
          simp only [ne_eq, not_true_eq_false, if_false]
          generalize (if incE ks cap (s ++ [x[i].k]) (List.drop (i + 1) x) ≠ 0 then AV.tup [aL [] true, .int .i64 (incE ks cap (s ++ [x[i].k]) (List.drop (i + 1) x))] else O) = Z at *
          rw [ck_unf w216_B0.eq_1]
          simp at this
          simp (disch := omega) [h1, hc, hg, w401, hkg, hp, hre, wI64, H.inl, inlB, H.pp, ppB]
          exact this
        · have c4 : E = 14 := by rcases h14 with q | q; exact absurd q c3; exact q
          subst c4
          have hV : itE ks cap x[i] false = 14 := by rw [hE]; simp
          rw [hV, if_pos (by simp), if_pos (by simp)]
          rw [ck_unf w216_B0.eq_1]
          simp (disch := omega) [h1, hc, hg, w401, hkg, hp, hre, H.inl, inlB, H.pp, ppB]
          exact ⟨_, _, rfl, rfl⟩
      · have hE : itE ks cap x[i] true = 8 := by unfold itE; simp [c1]
        rw [hE, if_pos (by simp), if_pos (by simp)]
        rw [c2] at hkg
        simp only [eIt] at hc
        rw [ck_unf w216_B0.eq_1]
        simp (disch := omega) [h1, hc, hg, w401, hkg, H.inl, inlB, H.pp, ppB]
        exact ⟨_, _, rfl, rfl⟩

end Go.D
end

section
set_option linter.unusedSimpArgs false
set_option linter.unusedVariables false
/- Lists: Insert and Reset. No conditions beyond those that each theorem names. -/
namespace Go.D
open Go Go.Pav Go.Pw P
set_option maxRecDepth 10000
set_option maxHeartbeats 4000000
set_option linter.unusedSimpArgs false
set_option linter.unusedVariables false
attribute [-simp] List.getElem_cons_drop
variable {C : WProg}


theorem do_ins (H : HasU2 C) (ks : List Kd) (ke : Bool) (cap : Int) (hr : RuIn ks) (l : List En) (e : Bool) (hl : l.length ≤ 1000000) (hs : ∀ x ∈ l, EnIn x) (a : Int) (x : List It) (xe : Bool) (hx : ∀ y ∈ x, ItIn y) (hxl : x.length ≤ 1000000) (ins : Bool) (cnt : Int)
    (hb : ∀ y ∈ x, itOk ks.length y = true → -9223372036854775808 ≤ (kdAt ks y.t).b ∧ (kdAt ks y.t).b ≤ 9223372036854775807) (hsum : l.length + x.length ≤ 1000000) (hin : ins = true → 0 ≤ a ∧ a ≤ l.length) :
    DoR (if ckE ks cap l ≠ 0 then errL (ckE ks cap l) else if ins = false then errL 4 else if 1024 < cnt then errL 3 else if incE ks cap (keysE l) x ≠ 0 then errL (incE ks cap (keysE l) x) else outL (spl l a.toNat 0 (x.map (fre ks)))) (RnW C 216 [aR ks ke cap, aL l e, .agg [.bool ins, .int .i64 cnt, .ro 4 (x.map cIt) xe, .fn 401 [.ptr 25 0 0], .fn 220 [.rop [.ro 6 (l.map eEn) e], .rop [.int .i64 a]]]] [(0, .cells 1 [[.ro 6 [] true]] true true), (25, .cells 1 [[.map 26]] true false), (26, .map (kmap (seenK [] l)))] 29) := by
  have hc := lcheck_ok H.toHasK ks ke cap hr l e hl hs
  rw [rnW_eq (args := [aR ks ke cap, aL l e, .agg [.bool ins, .int .i64 cnt, .ro 4 (x.map cIt) xe, .fn 401 [.ptr 25 0 0], .fn 220 [.rop [.ro 6 (l.map eEn) e], .rop [.int .i64 a]]]]) H.f216 rfl [(0, .cells 1 [[.ro 6 [] true]] true true), (25, .cells 1 [[.map 26]] true false), (26, .map (kmap (seenK [] l)))] 29]
  by_cases c1 : ckE ks cap l = 0
  · have hru := ckE_ru c1
    rw [c1] at hc
    rw [if_neg (by simpa using c1)]
    cases ins
    · rw [if_pos rfl]
      unfold errL
      simp [w216, hc, H.inl, inlB, H.pp, ppB]
      exact ⟨_, _, rfl, rfl⟩
    · rw [if_neg (by simp)]
      obtain ⟨ha1, ha2⟩ := hin rfl
      obtain ⟨a', rfl⟩ : ∃ a' : Nat, a = a' := ⟨a.toNat, by omega⟩
      by_cases c2 : 1024 < cnt
      · rw [if_pos c2]
        unfold errL
        simp [w216, hc, c2, H.inl, inlB, H.pp, ppB]
        exact ⟨_, _, rfl, rfl⟩
      · rw [if_neg c2]
        have h := doins_loop H ks ke cap hr hru l e hl hs a' (by omega) x xe hx hxl true cnt hb hsum x.length 0 (by simp) (by simp) (seenK [] l)
        rw [List.drop_zero] at h
        rw [incE_congr ks cap x (seenK [] l) (keysE l) (fun j => by rw [seenK_has]; simp)] at h
        simp only [Int.toNat_natCast]
        generalize (if incE ks cap (keysE l) x ≠ 0 then errL (incE ks cap (keysE l) x) else outL (spl l a' 0 (x.map (fre ks)))) = Z at *
        simp at h
        simp [w216, hc, c2, H.inl, inlB, H.pp, ppB]
        exact h
  · rw [if_pos c1]
    unfold errL
    simp [w216, hc, c1, H.inl, inlB, H.pp, ppB]
    exact ⟨_, _, rfl, rfl⟩

theorem do_res (H : HasU2 C) (ks : List Kd) (ke : Bool) (cap : Int) (hr : RuIn ks) (l : List En) (e : Bool) (hl : l.length ≤ 1000000) (hs : ∀ x ∈ l, EnIn x)  (x : List It) (xe : Bool) (hx : ∀ y ∈ x, ItIn y) (hxl : x.length ≤ 1000000)  (cnt : Int)
    (hb : ∀ y ∈ x, itOk ks.length y = true → -9223372036854775808 ≤ (kdAt ks y.t).b ∧ (kdAt ks y.t).b ≤ 9223372036854775807)  :
    DoR (if ckE ks cap l ≠ 0 then errL (ckE ks cap l) else if 1024 < cnt then errL 3 else if incE ks cap [] x ≠ 0 then errL (incE ks cap [] x) else outL (x.map (fre ks))) (RnW C 216 [aR ks ke cap, aL l e, .agg [.bool true, .int .i64 cnt, .ro 4 (x.map cIt) xe, .fn 401 [.ptr 13 0 0], .fn 218 []]] [(0, .cells 1 [[.ro 6 [] true]] true true), (13, .cells 1 [[.map 14]] true false), (14, .map (kmap (seenK [] [])))] 17) := by
  have hc := lcheck_ok H.toHasK ks ke cap hr l e hl hs
  rw [rnW_eq (args := [aR ks ke cap, aL l e, .agg [.bool true, .int .i64 cnt, .ro 4 (x.map cIt) xe, .fn 401 [.ptr 13 0 0], .fn 218 []]]) H.f216 rfl [(0, .cells 1 [[.ro 6 [] true]] true true), (13, .cells 1 [[.map 14]] true false), (14, .map (kmap (seenK [] [])))] 17]
  by_cases c1 : ckE ks cap l = 0
  · have hru := ckE_ru c1
    rw [c1] at hc
    rw [if_neg (by simpa using c1)]
    by_cases c2 : 1024 < cnt
    · rw [if_pos c2]
      unfold errL
      simp [w216, hc, c2, H.inl, inlB, H.pp, ppB]
      exact ⟨_, _, rfl, rfl⟩
    · rw [if_neg c2]
      have h := dores_loop H ks ke cap hr hru x xe hx hxl true cnt hb x.length 0 (by simp) (by simp) (seenK [] [])
      rw [List.drop_zero] at h
      simp only [seenK] at h ⊢
      simp [w216, hc, c2, H.inl, inlB, H.pp, ppB]
      by_cases c3 : incE ks cap [] x = 0
      · simp [c3] at h ⊢
        exact h
      · simp [c3] at h ⊢
        exact h
  · rw [if_pos c1]
    unfold errL
    simp [w216, hc, c1, H.inl, inlB, H.pp, ppB]
    exact ⟨_, _, rfl, rfl⟩

@[simp] theorem getp (h : WHeap) (n : Nat) (o : WObj) (k : Nat) : Pav.get (Pav.put h n o) k = if n = k then some o else Pav.get h k := get_put h n o k

theorem insert_ok (H : HasU2 C) (ks : List Kd) (ke : Bool) (cap : Int) (hr : RuIn ks) (l : List En) (e : Bool) (hl : l.length ≤ 1000000) (hs : ∀ x ∈ l, EnIn x) (a : Int) (x : List It) (xe : Bool) (hx : ∀ y ∈ x, ItIn y) (hxl : x.length ≤ 1000000)
    (hb : ∀ y ∈ x, itOk ks.length y = true → -9223372036854775808 ≤ (kdAt ks y.t).b ∧ (kdAt ks y.t).b ≤ 9223372036854775807) (hsum : l.length + x.length ≤ 1000000) :
    FnW C 109 [aR ks ke cap, aL l e, .int .i64 a, .ro 4 (x.map cIt) xe] =
      some (if ckE ks cap l ≠ 0 then errL (ckE ks cap l) else if inR a 0 l.length = false then errL 4 else if 1024 < (l.length : Int) + x.length then errL 3 else if incE ks cap (keysE l) x ≠ 0 then errL (incE ks cap (keysE l) x) else outL (spl l a.toNat 0 (x.map (fre ks)))) := by
  have hw := within_ok H.toHasL a 0 l.length (by omega)
  have hu := unseen_ins H l e hl
  obtain ⟨h', n', hd, hB⟩ := do_ins H ks ke cap hr l e hl hs a x xe hx hxl (inR a 0 l.length) ((l.length : Int) + x.length) hb hsum (fun q => by unfold inR at q; simp at q; omega)
  have hR : ∃ R n, (if ckE ks cap l ≠ 0 then errL (ckE ks cap l) else if inR a 0 l.length = false then errL 4 else if 1024 < (l.length : Int) + x.length then errL 3 else if incE ks cap (keysE l) x ≠ 0 then errL (incE ks cap (keysE l) x) else outL (spl l a.toNat 0 (x.map (fre ks)))) = .tup [.agg [.ro 6 R true], .int .i64 n] := by
    unfold outL errL
    repeat (first | exact ⟨_, _, rfl⟩ | split)
  obtain ⟨R, n, hR⟩ := hR
  rw [hR] at hd ⊢
  rw [fnW_eq H.f109 rfl]
  generalize inR a 0 l.length = ins at *
  try simp at hd
  simp (disch := omega) [w109, wI64, hw, hu, hd, hB, H.inl, inlB, H.pp, ppB]

theorem reset_ok (H : HasU2 C) (ks : List Kd) (ke : Bool) (cap : Int) (hr : RuIn ks) (l : List En) (e : Bool) (hl : l.length ≤ 1000000) (hs : ∀ x ∈ l, EnIn x) (x : List It) (xe : Bool) (hx : ∀ y ∈ x, ItIn y) (hxl : x.length ≤ 1000000)
    (hb : ∀ y ∈ x, itOk ks.length y = true → -9223372036854775808 ≤ (kdAt ks y.t).b ∧ (kdAt ks y.t).b ≤ 9223372036854775807) :
    FnW C 108 [aR ks ke cap, aL l e, .ro 4 (x.map cIt) xe] =
      some (if ckE ks cap l ≠ 0 then errL (ckE ks cap l) else if 1024 < (x.length : Int) then errL 3 else if incE ks cap [] x ≠ 0 then errL (incE ks cap [] x) else outL (x.map (fre ks))) := by
  have hu := unseen_res H [] true (by simp)
  obtain ⟨h', n', hd, hB⟩ := do_res H ks ke cap hr l e hl hs x xe hx hxl (x.length : Int) hb
  have hR : ∃ R n, (if ckE ks cap l ≠ 0 then errL (ckE ks cap l) else if 1024 < (x.length : Int) then errL 3 else if incE ks cap [] x ≠ 0 then errL (incE ks cap [] x) else outL (x.map (fre ks))) = .tup [.agg [.ro 6 R true], .int .i64 n] := by
    unfold outL errL
    repeat (first | exact ⟨_, _, rfl⟩ | split)
  obtain ⟨R, n, hR⟩ := hR
  rw [hR] at hd ⊢
  rw [fnW_eq H.f108 rfl]
  simp at hd hu
  simp (disch := omega) [w108, wI64, hu, hd, hB, H.inl, inlB, H.pp, ppB]
end Go.D
end

section
set_option linter.unusedSimpArgs false
set_option linter.unusedVariables false
/- The law ListsCheck: its count of parts; errors of the functions. No conditions beyond those that each theorem names. -/
namespace Go.D
open Go Go.Pav Go.Pw P
set_option maxRecDepth 10000
set_option maxHeartbeats 4000000
set_option linter.unusedSimpArgs false
set_option linter.unusedVariables false
attribute [-simp] List.getElem_cons_drop
variable {C : WProg}

structure HasH (C : WProg) : Prop extends HasF C, HasU2 C where
  f113 : C.fns.get 113 = some w113
  f233 : C.fns.get 233 = some w233
  f238 : C.fns.get 238 = some w238
  f116 : C.fns.get 116 = some w116

theorem parts_loop (H : HasH C) (m : Nat) (hm : m ≤ 1000) (p : Pt) (hl : p.ch.length ≤ 9223372036854775807)
    (ih : ∀ k, k < m → ∀ c ∈ p.ch, ∃ n : Nat, 1 ≤ n ∧ n ≤ k + 1 ∧ FnW C 233 [.agg c.c, .int .i64 k] = some (.int .i64 n)) : ∀ j i, j + i = p.ch.length → ∀ n : Nat, 1 ≤ n → n ≤ m + 1 →
    ∃ n' : Nat, 1 ≤ n' ∧ n' ≤ m + 1 ∧ w233_K0 C ⟨[(6, .int .i64 i), (5, .int .i64 n), (2, .ptr 0 0 0), (1, .int .i64 m)], [(0, .cells 6 [p.c] true true)], 1⟩ = some (.int .i64 n') := by
  intro j
  induction j with
  | zero =>
    intro i hi n h1 h2
    have h3 : ¬ i < p.ch.length := by omega
    refine ⟨n, h1, h2, ?_⟩
    simp only [w233_K0]; rw [ck_unf w233_B0.eq_1]
    simp [ck_unf w233_c0.eq_1, h3]
  | succ j ihj =>
    intro i hi n hn1 hn2
    have h1 : i < p.ch.length := by omega
    by_cases c : n ≤ m
    · by_cases c2 : n < m + 1
      · obtain ⟨r, r1, r2, hr⟩ := ih (m - n) (by omega) _ (List.getElem_mem h1)
        rw [Int.natCast_sub c] at hr
        obtain ⟨n', q1, q2, this⟩ := ihj (i + 1) (by omega) (n + r) (by omega) (by omega)
        refine ⟨n', q1, q2, ?_⟩
        have c' : (n : Int) ≤ m := by omega
        simp only [w233_K0] at this ⊢; rw [ck_unf w233_B0.eq_1]
        simp at this
        simp (disch := omega) [h1, c, c', wI64, hr, H.inl, inlB, H.pp, ppB, this]
      · omega
    · have c' : ¬ (n : Int) ≤ m := by omega
      refine ⟨n, hn1, hn2, ?_⟩
      simp only [w233_K0]; rw [ck_unf w233_B0.eq_1]
      simp (disch := omega) [ck_unf w233_c0.eq_1, h1, c, c', wI64]

theorem parts_ok (H : HasH C) : ∀ (M m : Nat), m ≤ M → M ≤ 1000 → ∀ p : Pt, FitsAll p → ∃ n : Nat, 1 ≤ n ∧ n ≤ m + 1 ∧ FnW C 233 [.agg p.c, .int .i64 m] = some (.int .i64 n) := by
  intro M
  induction M with
  | zero =>
    intro m hm hM p hp
    have hf : Fits p := by cases hp; assumption
    have hc : ∀ m ∈ p.ch, FitsAll m := by cases hp; assumption
    obtain ⟨n, h1, h2, h⟩ := parts_loop H m (by omega) p hf.c (fun k hk => absurd hk (by omega)) p.ch.length 0 (by simp) 1 (by omega) (by omega)
    refine ⟨n, h1, h2, ?_⟩
    rw [fnW_eq H.f233 rfl]
    simp only [w233_K0] at h
    simp at h
    simp [w233, h, H.inl, inlB, H.pp, ppB]
  | succ M ih =>
    intro m hm hM p hp
    have hf : Fits p := by cases hp; assumption
    have hc : ∀ m ∈ p.ch, FitsAll m := by cases hp; assumption
    obtain ⟨n, h1, h2, h⟩ := parts_loop H m (by omega) p hf.c (fun k hk c hcc => ih k (by omega) (by omega) c (hc c hcc)) p.ch.length 0 (by simp) 1 (by omega) (by omega)
    refine ⟨n, h1, h2, ?_⟩
    rw [fnW_eq H.f233 rfl]
    simp only [w233_K0] at h
    simp at h
    simp [w233, h, H.inl, inlB, H.pp, ppB]

theorem set_bad (H : HasH C) (ks : List Kd) (ke : Bool) (cap : Int) (hr : RuIn ks) (l : List En) (e : Bool) (hl : l.length ≤ 10000) (hs : ∀ x ∈ l, EnIn x) (k s : Int) (hck : ckE ks cap l ≠ 0) :
    FnW C 113 [aR ks ke cap, aL l e, .int .u64 k, .int .i64 s] = some (errL (ckE ks cap l)) := by
  have hc := lcheck_ok H.toHasK ks ke cap hr l e (by omega) hs
  rw [fnW_eq H.f113 rfl]
  unfold errL
  generalize ckE ks cap l = E at *
  simp (disch := omega) [w113, hc, hck, H.inl, inlB, H.pp, ppB]

theorem tree_bad (H : HasH C) (ks : List Kd) (ke : Bool) (cap : Int) (hr : RuIn ks) (l : List En) (e : Bool) (hl : l.length ≤ 10000) (hs : ∀ x ∈ l, EnIn x) (a : Int) (hck : ckE ks cap l ≠ 0) :
    FnW C 238 [aR ks ke cap, aL l e, .int .i64 a] = some (.tup [.agg [.int .u8 0, .str [], .str [], .ro 2 [] true, .str [], .ro 6 [] true], .int .i64 (ckE ks cap l)]) := by
  have hc := lcheck_ok H.toHasK ks ke cap hr l e (by omega) hs
  rw [fnW_eq H.f238 rfl]
  generalize ckE ks cap l = E at *
  simp (disch := omega) [w238, hc, hck, H.inl, inlB, H.pp, ppB]

def all21 (l : List En) : List It := (l.take 21).map En.i

/-- What the calls of the law ListsCheck answer. -/
structure CkS (C : WProg) (ks : List Kd) (ke : Bool) (cap : Int) (l : List En) (le : Bool) : Prop where
  lives : FnW C 119 [] = some (.bool true)
  few : ∀ e, FnW C 234 [.ro 4 ((all21 l).map cIt) e] = some (.int .i64 (if fewB (all21 l) = true then 1 else 0))
  all : ks.length ≤ 10 → fewB (all21 l) = true → ∃ (w v : Int), FnW C 235 [aR ks ke cap, .ro 6 (l.map eEn) le] = some (.int .i64 w) ∧ FnW C 115 [aR ks ke cap] = some (.int .i64 v) ∧ FnW C 236 [aR ks ke cap] = some (.int .i64 v) ∧ FnW C 223 [aR ks ke cap, aL l le] = some (.int .i64 w) ∧
    (w ≠ 0 → FnW C 109 [aR ks ke cap, aL l le, .int .i64 0, .ro 4 [] true] = some (.tup [aL [] true, .int .i64 w]) ∧ FnW C 110 [aR ks ke cap, aL l le, .int .i64 0, .int .i64 0] = some (.tup [aL [] true, .int .i64 w]) ∧
      FnW C 237 [aR ks ke cap, aL l le, .int .i64 0, .int .i64 0, .int .i64 0] = some (.tup [aL [] true, .int .i64 w]) ∧ FnW C 114 [aR ks ke cap, aL l le, .int .i64 0, .ro 4 [] true] = some (.tup [aL [] true, .int .i64 w]) ∧
      FnW C 108 [aR ks ke cap, aL l le, .ro 4 [] true] = some (.tup [aL [] true, .int .i64 w]) ∧ FnW C 113 [aR ks ke cap, aL l le, .int .u64 1, .int .i64 1] = some (.tup [aL [] true, .int .i64 w]) ∧
      FnW C 238 [aR ks ke cap, aL l le, .int .i64 0] = some (.tup [.agg [.int .u8 0, .str [], .str [], .ro 2 [] true, .str [], .ro 6 [] true], .int .i64 w]))
theorem check0 (H : HasH C) (ks : List Kd) (ke : Bool) (cap : Int) (l : List En) (le : Bool) (hl : l.length ≤ 9223372036854775807) (S : CkS C ks ke cap l le) (n : Int) : ∀ j i, j + i = min l.length 21 → ∀ G : List It, G = (l.take i).map En.i → G.length = i →
    w116_K0 C ⟨[(8, .int .i64 i), (7, .sl 0 4 0 G.length G.length false), (5, .int .i64 n), (3, .ptr 1 0 0), (2, .ptr 2 0 0)], [(0, .cells 4 (G.map cIt) true true), (1, .cells 1 [[.ro 6 (l.map eEn) le]] true true), (2, .cells 2 [[.ro 9 (ks.map eKd) ke, .int .i64 cap]] true true)], 3⟩ = some (.bool true) := by
  have hlives := S.lives
  intro j
  induction j with
  | zero =>
    intro i hi G hG hGl
    have hGa : G = all21 l := by
      rw [hG]; unfold all21
      by_cases c : l.length ≤ 21
      · rw [List.take_of_length_le (by omega), List.take_of_length_le (by omega)]
      · rw [show i = 21 by omega]
    have h6 : List.take G.length (List.map cIt G) = List.map cIt G := List.take_of_length_le (by simp)
    have hf := S.few false
    rw [← hGa] at hf
    have hall := S.all
    rw [← hGa] at hall
    have stop : ¬ (i < l.length ∧ (i : Int) < 21) := by omega
    by_cases k1 : ks.length ≤ 10
    · have k1' : ¬ (10 : Int) < (ks.length : Int) := by omega
      by_cases k2 : n ≤ 80
      · have k2' : ¬ 80 < n := by omega
        by_cases k3 : fewB G = true
        · rw [if_pos k3] at hf
          obtain ⟨w, v, a1, a2, a3, a4, a5⟩ := hall k1 k3
          by_cases k4 : w = 0
          · subst k4
            by_cases s1 : i < l.length
            · have s2 : ¬ (i : Int) < 21 := by omega
              simp only [w116_K0]; rw [ck_unf w116_B0.eq_1]
              simp (disch := omega) [ck_unf w116_c0.eq_1, s1, s2, h6, k1, k1', k2, k2', hf, a1, a2, a3, a4, hlives, H.inl, inlB, H.pp, ppB]
            · simp only [w116_K0]; rw [ck_unf w116_B0.eq_1]
              simp (disch := omega) [ck_unf w116_c0.eq_1, s1, h6, k1, k1', k2, k2', hf, a1, a2, a3, a4, hlives, H.inl, inlB, H.pp, ppB]
          · obtain ⟨b1, b2, b3, b4, b5, b6, b7⟩ := a5 k4
            by_cases s1 : i < l.length
            · have s2 : ¬ (i : Int) < 21 := by omega
              simp only [w116_K0]; rw [ck_unf w116_B0.eq_1]
              simp (disch := omega) [ck_unf w116_c0.eq_1, s1, s2, h6, k1, k1', k2, k2', k4, hf, a1, a2, a3, a4, b1, b2, b3, b4, b5, b6, b7, hlives, wI64, H.inl, inlB, H.pp, ppB]
            · simp only [w116_K0]; rw [ck_unf w116_B0.eq_1]
              simp (disch := omega) [ck_unf w116_c0.eq_1, s1, h6, k1, k1', k2, k2', k4, hf, a1, a2, a3, a4, b1, b2, b3, b4, b5, b6, b7, hlives, wI64, H.inl, inlB, H.pp, ppB]
        · rw [if_neg k3] at hf
          by_cases s1 : i < l.length
          · have s2 : ¬ (i : Int) < 21 := by omega
            simp only [w116_K0]; rw [ck_unf w116_B0.eq_1]
            simp (disch := omega) [ck_unf w116_c0.eq_1, s1, s2, h6, k1, k1', k2, k2', hf, hlives, H.inl, inlB, H.pp, ppB]
          · simp only [w116_K0]; rw [ck_unf w116_B0.eq_1]
            simp (disch := omega) [ck_unf w116_c0.eq_1, s1, h6, k1, k1', k2, k2', hf, hlives, H.inl, inlB, H.pp, ppB]
      · have k2' : 80 < n := by omega
        by_cases s1 : i < l.length
        · have s2 : ¬ (i : Int) < 21 := by omega
          simp only [w116_K0]; rw [ck_unf w116_B0.eq_1]
          simp (disch := omega) [ck_unf w116_c0.eq_1, s1, s2, h6, k1, k1', k2, k2', hlives, H.inl, inlB, H.pp, ppB]
        · simp only [w116_K0]; rw [ck_unf w116_B0.eq_1]
          simp (disch := omega) [ck_unf w116_c0.eq_1, s1, h6, k1, k1', k2, k2', hlives, H.inl, inlB, H.pp, ppB]
    · have k1' : (10 : Int) < (ks.length : Int) := by omega
      by_cases s1 : i < l.length
      · have s2 : ¬ (i : Int) < 21 := by omega
        simp only [w116_K0]; rw [ck_unf w116_B0.eq_1]
        simp (disch := omega) [ck_unf w116_c0.eq_1, s1, s2, h6, k1, k1', hlives, H.inl, inlB, H.pp, ppB]
      · simp only [w116_K0]; rw [ck_unf w116_B0.eq_1]
        simp (disch := omega) [ck_unf w116_c0.eq_1, s1, h6, k1, k1', hlives, H.inl, inlB, H.pp, ppB]
  | succ j ih =>
    intro i hi G hG hGl
    have h1 : i < l.length := by omega
    have h2 : (i : Int) < 21 := by omega
    have hfit : (G.length + 1) * 57 ≤ 35184372088832 := by omega
    have := ih (i + 1) (by omega) (G ++ [l[i].i]) (by rw [List.take_add_one, List.getElem?_eq_getElem h1, hG, List.map_append]; rfl) (by simp; omega)
    simp only [w116_K0] at this ⊢; rw [ck_unf w116_B0.eq_1]
    simp at this
    simp (disch := omega) [h1, h2, hfit, wI64, H.inl, inlB, H.pp, ppB, this]

theorem check1 (H : HasH C) (ks : List Kd) (ke : Bool) (cap : Int) (l : List En) (le : Bool) (hl : l.length ≤ 9223372036854775807) (hr : ∀ k ∈ ks, FitsAll k.p) (S : CkS C ks ke cap l le) : ∀ j i, j + i = min ks.length 11 → ∀ n : Nat, n ≤ 81 * i →
    w116_K1 C ⟨[(6, .int .i64 i), (5, .int .i64 n), (3, .ptr 0 0 0), (2, .ptr 1 0 0)], [(0, .cells 1 [[.ro 6 (l.map eEn) le]] true true), (1, .cells 2 [[.ro 9 (ks.map eKd) ke, .int .i64 cap]] true true)], 2⟩ = some (.bool true) := by
  intro j
  induction j with
  | zero =>
    intro i hi n hn
    have h := check0 H ks ke cap l le hl S n (min l.length 21) 0 (by simp) [] (by simp) rfl
    simp only [w116_K0] at h
    simp at h
    by_cases s1 : i < ks.length
    · have s2 : ¬ (i : Int) < 11 := by omega
      simp only [w116_K1]; rw [ck_unf w116_B1.eq_1]
      simp (disch := omega) [ck_unf w116_c1.eq_1, s1, s2, h, H.inl, inlB, H.pp, ppB]
    · simp only [w116_K1]; rw [ck_unf w116_B1.eq_1]
      simp (disch := omega) [ck_unf w116_c1.eq_1, s1, h, H.inl, inlB, H.pp, ppB]
  | succ j ih =>
    intro i hi n hn
    have h1 : i < ks.length := by omega
    have h2 : (i : Int) < 11 := by omega
    obtain ⟨r, r1, r2, hp⟩ := parts_ok H 80 80 (by omega) (by omega) ks[i].p (hr _ (List.getElem_mem h1))
    have := ih (i + 1) (by omega) (n + r) (by omega)
    simp only [w116_K1] at this ⊢; rw [ck_unf w116_B1.eq_1]
    rw [Pt.c_eq] at hp
    simp at this hp
    simp (disch := omega) [h1, h2, hp, wI64, H.inl, inlB, H.pp, ppB, this]

theorem checklaw_ok (H : HasH C) (ks : List Kd) (ke : Bool) (cap : Int) (l : List En) (le : Bool) (hl : l.length ≤ 9223372036854775807) (hkl : ks.length ≤ 9223372036854775807) (hr : ∀ k ∈ ks, FitsAll k.p) (hlives : FnW C 119 [] = some (.bool true))
    (hen : ∀ e ∈ l, (0 ≤ e.i.k ∧ e.i.k < 18446744073709551616) ∧ (0 ≤ e.i.t ∧ e.i.t ≤ 255) ∧ -9223372036854775808 ≤ e.s ∧ e.s ≤ 9223372036854775807) :
    FnW C 116 [aR ks ke cap, aL l le] = some (.bool true) := by
  have S : CkS C ks ke cap l le := by
    refine ⟨hlives, fun e => few_ok H.toHasF _ e, fun h10 hfew => ?_⟩
    have hru : RuIn ks := ⟨by omega, hr⟩
    unfold fewB all21 at hfew
    simp only [Bool.and_eq_true, decide_eq_true_eq, List.all_eq_true, List.length_map, List.length_take] at hfew
    have hl20 : l.length ≤ 20 := by omega
    have htk : l.take 21 = l := List.take_of_length_le (by omega)
    rw [htk] at hfew
    have hin : ∀ x ∈ l, EnIn x := by
      intro x hx
      have h1 := hen x hx
      have h2 := hfew.2 x.i (List.mem_map_of_mem hx)
      unfold fewI at h2
      simp only [Bool.and_eq_true, decide_eq_true_eq] at h2
      exact ⟨⟨h1.1, h1.2.1, by omega⟩, h1.2.2⟩
    refine ⟨ckE ks cap l, _, rlcheck_ok H.toHasK ks ke cap hru l le (by omega) hin, valid_ok H.toHasK ks ke cap hru, rvalid_ok H.toHasK ks ke cap hru, lcheck_ok H.toHasK ks ke cap hru l le (by omega) hin, fun hw => ?_⟩
    have c1 := insert_ok H.toHasU2 ks ke cap hru l le (by omega) hin 0 [] true (by simp) (by simp) (by simp) (by simp; omega)
    have c2 := remove_ok H.toHasQ.toHasO ks ke cap hru l le (by omega) hin 0 0
    have c3 := move_ok H.toHasQ.toHasO ks ke cap hru l le (by omega) hin 0 0 0
    have c4 := change_ok H.toHasQ.toHasO ks ke cap hru l le (by omega) hin 0 [] true (by simp) (by simp) (by simp)
    have c5 := reset_ok H.toHasU2 ks ke cap hru l le (by omega) hin [] true (by simp) (by simp) (by simp)
    have c6 := set_bad H ks ke cap hru l le (by omega) hin 1 1 hw
    have c7 := tree_bad H ks ke cap hru l le (by omega) hin 0 hw
    rw [if_pos hw] at c1 c2 c3 c4 c5
    exact ⟨c1, c2, c3, c4, c5, c6, c7⟩
  have h := check1 H ks ke cap l le hl hr S (min ks.length 11) 0 (by simp) 0 (by omega)
  rw [fnW_eq H.f116 rfl]
  simp only [w116_K1] at h
  simp at h
  simp (disch := omega) [w116, h, H.inl, inlB, H.pp, ppB]
end Go.D
end

