/- Part of the theory that the claims of this work use: E13, E14. No conditions of its own. -/
import Derived.Test.YthlmjbfkkkdkoaaT4
section
set_option linter.unusedSimpArgs false
set_option linter.unusedVariables false
namespace Go.D
open Go Go.Pav Go.Pw P
set_option maxRecDepth 10000
set_option maxHeartbeats 4000000
set_option linter.unusedSimpArgs false
set_option linter.unusedVariables false
attribute [-simp] List.getElem_cons_drop
variable {C : WProg}
theorem eqa_loop (H : HasEq C) (a b : List (Bs × Bs)) (e f : Bool) (hl : a.length = b.length) (hm : a.length ≤ 9223372036854775807) : ∀ n i, n + i = a.length →
 w551_K0 C ⟨[(13, .int .i64 i), (12, .int .i64 a.length), (1, .ro 2 (b.map eA) f), (0, .ro 2 (a.map eA) e)], [], 0⟩ = some (.bool (decide (a.drop i = b.drop i))) := by
 intro n
 induction n with
 | zero =>
  intro i hi
  have h1 : a.drop i = [] := List.drop_eq_nil_of_le (by omega)
  have h2 : b.drop i = [] := List.drop_eq_nil_of_le (by omega)
  have h3 : ¬ i < a.length := by omega
  simp only [w551_K0]; rw [ck_unf w551_B0.eq_1]
  simp (disch := omega) [ck_unf w551_c0.eq_1, h1, h2, h3]
 | succ n ih =>
  intro i hi
  have h1 : i < a.length := by omega
  have h2 : i < b.length := by omega
  have this := ih (i + 1) (by omega)
  rw [drop_cons h1, drop_cons h2]
  by_cases c1 : a[i].1 = b[i].1
  · by_cases c2 : a[i].2 = b[i].2
    · have c : a[i] = b[i] := Prod.ext c1 c2
      have hq : decide (a[i] :: a.drop (i + 1) = b[i] :: b.drop (i + 1)) = decide (a.drop (i + 1) = b.drop (i + 1)) := by simp [c]
      rw [hq]
      generalize decide (a.drop (i + 1) = b.drop (i + 1)) = X at *
      simp only [w551_K0] at this ⊢; rw [ck_unf w551_B0.eq_1]
      simp at this
      simp (disch := omega) [h1, h2, eq_true c1, eq_true c2, wI64, this]
    · have hq : decide (a[i] :: a.drop (i + 1) = b[i] :: b.drop (i + 1)) = false := by
       rw [decide_eq_false_iff_not]; intro q; exact c2 (congrArg Prod.snd (List.cons.inj q).1)
      rw [hq]
      simp only [w551_K0]; rw [ck_unf w551_B0.eq_1]
      simp (disch := omega) [h1, h2, eq_true c1, c2, wI64]
  · have hq : decide (a[i] :: a.drop (i + 1) = b[i] :: b.drop (i + 1)) = false := by
     rw [decide_eq_false_iff_not]; intro q; exact c1 (congrArg Prod.fst (List.cons.inj q).1)
    rw [hq]
    simp only [w551_K0]; rw [ck_unf w551_B0.eq_1]
    simp (disch := omega) [h1, h2, c1, wI64]
theorem eqa_ok (H : HasEq C) (a b : List (Bs × Bs)) (e f : Bool) (hm : a.length ≤ 9223372036854775807) : FnW C 551 [.ro 2 (a.map eA) e, .ro 2 (b.map eA) f] = some (.bool (decide (a = b))) := by
 rw [fnW_eq H.f551 rfl]
 by_cases c : a.length = b.length
 · have h := eqa_loop H a b e f c hm a.length 0 (by simp)
   rw [List.drop_zero, List.drop_zero] at h
   generalize decide (a = b) = X at *
   simp only [w551_K0] at h
   simp at h
   simp [w551, eq_true c, h]
 · have c2 : decide (a = b) = false := by
    simp; intro q; exact c (by rw [q])
   rw [c2]
   simp [w551, c]
theorem eqc_loop (H : HasEq C) (a b : List Nd) (e f : Bool) (hl : a.length = b.length) (hm : a.length ≤ 9223372036854775807) (ih : ∀ c ∈ a, ∀ m : Nd, FnW C 506 [.agg c.c, .agg m.c] = some (.bool (eqN c m))) : ∀ n i, n + i = a.length →
 w552_K0 C ⟨[(17, .int .i64 i), (16, .int .i64 a.length), (15, .ro 6 (a.map Nd.c) e), (2, .fn 506 []), (1, .ro 6 (b.map Nd.c) f)], [], 0⟩ = some (.bool (eqNs (a.drop i) (b.drop i))) := by
 intro n
 induction n with
 | zero =>
  intro i hi
  have h1 : a.drop i = [] := List.drop_eq_nil_of_le (by omega)
  have h2 : b.drop i = [] := List.drop_eq_nil_of_le (by omega)
  have h3 : ¬ i < a.length := by omega
  simp only [w552_K0]; rw [ck_unf w552_B0.eq_1]
  simp (disch := omega) [ck_unf w552_c0.eq_1, h1, h2, h3, eqNs]
 | succ n ihn =>
  intro i hi
  have h1 : i < a.length := by omega
  have h2 : i < b.length := by omega
  have this := ihn (i + 1) (by omega)
  have hs := ih a[i] (List.getElem_mem h1) b[i]
  rw [drop_cons h1, drop_cons h2, eqNs]
  generalize eqNs (a.drop (i + 1)) (b.drop (i + 1)) = X at *
  cases c : eqN a[i] b[i]
  · rw [c] at hs
    simp only [w552_K0]; rw [ck_unf w552_B0.eq_1]
    simp (disch := omega) [h1, h2, hs, wI64, H.inl, inlB, H.pp, ppB]
  · rw [c] at hs
    simp only [w552_K0] at this ⊢; rw [ck_unf w552_B0.eq_1]
    simp at this
    simp (disch := omega) [h1, h2, hs, wI64, H.inl, inlB, H.pp, ppB, this]
theorem equal_ok (H : HasEq C) {a : Nd} (ha : NdIn a) : ∀ b : Nd, FnW C 506 [.agg a.c, .agg b.c] = some (.bool (eqN a b)) := by
 induction ha with
 | mk a h1 h2 h ih =>
  intro b
  have k1 := eqa_ok H a.a b.a a.ae b.ae h1
  have k2 : FnW C 552 [.ro 6 (a.ch.map Nd.c) a.ce, .ro 6 (b.ch.map Nd.c) b.ce, .fn 506 []] = some (.bool (eqNs a.ch b.ch)) := by
   rw [fnW_eq H.f552 rfl]
   by_cases c : a.ch.length = b.ch.length
   · have k := eqc_loop H a.ch b.ch a.ce b.ce c h2 ih a.ch.length 0 (by simp)
     rw [List.drop_zero, List.drop_zero] at k
     generalize eqNs a.ch b.ch = X at *
     simp only [w552_K0] at k
     simp at k
     simp [w552, eq_true c, k]
   · have hq : eqNs a.ch b.ch = false := by
      cases q : eqNs a.ch b.ch
      · rfl
      · exact absurd (eqNs_len _ _ q) c
     rw [hq]
     simp [w552, c]
  rw [fnW_eq H.f506 rfl, eqN_eq]
  generalize eqNs a.ch b.ch = X at *
  by_cases c1 : a.k = b.k
  · by_cases c2 : a.t = b.t
    · by_cases c3 : a.y = b.y
      · by_cases c4 : a.x = b.x
        · by_cases c5 : a.a = b.a
          · rw [decide_eq_true c5] at k1
            simp (disch := omega) [w506, eq_true c1, eq_true c2, eq_true c3, eq_true c4, eq_true c5, k1, k2, H.inl, inlB, H.pp, ppB]
          · rw [decide_eq_false c5] at k1
            simp (disch := omega) [w506, eq_true c1, eq_true c2, eq_true c3, eq_true c4, c5, k1, H.inl, inlB, H.pp, ppB]
        · simp (disch := omega) [w506, eq_true c1, eq_true c2, eq_true c3, c4]
      · simp (disch := omega) [w506, eq_true c1, eq_true c2, c3]
    · simp (disch := omega) [w506, eq_true c1, c2]
  · simp (disch := omega) [w506, c1]
structure Rw where
 k : Int
 t : Int
 s : Int
 n : Nd
@[simp] def eRw (r : Rw) : List AV := [.int .u64 r.k, .int .i64 r.t, .int .i64 r.s, .int .u8 r.n.k, .str r.n.t, .str r.n.y, .ro 2 (r.n.a.map eA) r.n.ae, .str r.n.x, .ro 6 (r.n.ch.map Nd.c) r.n.ce]
structure Sc where
 o : Int
 r : List Rw
 e : Bool
 p : Bool
 h : Rw
@[simp] def eSc (x : Sc) : List AV := [.int .i64 x.o, .ro 9 (x.r.map eRw) x.e, .bool x.p, .int .u64 x.h.k, .int .i64 x.h.t, .int .i64 x.h.s, .int .u8 x.h.n.k, .str x.h.n.t, .str x.h.n.y, .ro 2 (x.h.n.a.map eA) x.h.n.ae, .str x.h.n.x, .ro 6 (x.h.n.ch.map Nd.c) x.h.n.ce]
def eqRw (a b : Rw) : Bool := decide (a.k = b.k) && decide (a.t = b.t) && decide (a.s = b.s) && eqN a.n b.n
def eqRs : List Rw → List Rw → Bool
 | [], [] => true
 | a :: r, b :: s => eqRw a b && eqRs r s
 | _, _ => false
def eqSc (a b : Sc) : Bool := decide (a.o = b.o) && decide (a.p = b.p) && eqRw a.h b.h && eqRs a.r b.r
theorem eqRs_len : ∀ (l r : List Rw), eqRs l r = true → l.length = r.length
 | [], [], _ => rfl
 | n :: l, m :: r, h => by
  rw [eqRs, Bool.and_eq_true] at h
  simp [eqRs_len l r h.2]
 | [], _ :: _, h => by simp [eqRs] at h
 | _ :: _, [], h => by simp [eqRs] at h
theorem rwsame_ok (H : HasEq C) (a b : Rw) (ha : NdIn a.n) : FnW C 413 [.agg (eRw a), .agg (eRw b)] = some (.bool (eqRw a b)) := by
 have k := equal_ok H ha b.n
 rw [Nd.c_eq, Nd.c_eq] at k
 rw [fnW_eq H.f413 rfl]
 unfold eqRw
 generalize eqN a.n b.n = X at *
 by_cases c1 : a.k = b.k
 · by_cases c2 : a.t = b.t
   · by_cases c3 : a.s = b.s
     · simp (disch := omega) [w413, eq_true c1, eq_true c2, eq_true c3, k, H.inl, inlB, H.pp, ppB]
     · simp (disch := omega) [w413, eq_true c1, eq_true c2, c3]
   · simp (disch := omega) [w413, eq_true c1, c2]
 · simp (disch := omega) [w413, c1]
theorem rrwsame_ok (H : HasEq C) (a b : Rw) (ha : NdIn a.n) : FnW C 260 [.agg (eRw a), .agg (eRw b)] = some (.int .i64 (if eqRw a b = true then 1 else 0)) := by
 have k := stree_ok H ha b.n
 rw [Nd.c_eq, Nd.c_eq] at k
 rw [fnW_eq H.f260 rfl]
 unfold eqRw
 by_cases c1 : a.k = b.k
 · by_cases c2 : a.t = b.t
   · by_cases c3 : a.s = b.s
     · rw [decide_eq_true c1, decide_eq_true c2, decide_eq_true c3]
       simp only [Bool.true_and]
       generalize (if eqN a.n b.n = true then (1 : Int) else 0) = X at *
       simp (disch := omega) [w260, eq_true c1, eq_true c2, eq_true c3, k, H.inl, inlB, H.pp, ppB]
     · simp (disch := omega) [w260, eq_true c1, eq_true c2, c3]
   · simp (disch := omega) [w260, eq_true c1, c2]
 · simp (disch := omega) [w260, c1]
theorem rws_loop (H : HasEq C) (a b : List Rw) (e f : Bool) (hl : a.length = b.length) (hm : a.length ≤ 9223372036854775807) (ha : ∀ r ∈ a, NdIn r.n) : ∀ n i, n + i = a.length →
 w414_K0 C ⟨[(17, .int .i64 i), (16, .int .i64 a.length), (15, .ro 9 (a.map eRw) e), (2, .fn 413 []), (1, .ro 9 (b.map eRw) f)], [], 0⟩ = some (.bool (eqRs (a.drop i) (b.drop i))) := by
 intro n
 induction n with
 | zero =>
  intro i hi
  have h1 : a.drop i = [] := List.drop_eq_nil_of_le (by omega)
  have h2 : b.drop i = [] := List.drop_eq_nil_of_le (by omega)
  have h3 : ¬ i < a.length := by omega
  simp only [w414_K0]; rw [ck_unf w414_B0.eq_1]
  simp (disch := omega) [ck_unf w414_c0.eq_1, h1, h2, h3, eqRs]
 | succ n ihn =>
  intro i hi
  have h1 : i < a.length := by omega
  have h2 : i < b.length := by omega
  have this := ihn (i + 1) (by omega)
  have hs := rwsame_ok H a[i] b[i] (ha _ (List.getElem_mem h1))
  rw [drop_cons h1, drop_cons h2, eqRs]
  simp only [eRw] at hs
  generalize eqRs (a.drop (i + 1)) (b.drop (i + 1)) = X at *
  cases c : eqRw a[i] b[i]
  · rw [c] at hs
    simp only [w414_K0]; rw [ck_unf w414_B0.eq_1]
    simp (disch := omega) [h1, h2, hs, wI64, H.inl, inlB, H.pp, ppB]
  · rw [c] at hs
    simp only [w414_K0] at this ⊢; rw [ck_unf w414_B0.eq_1]
    simp at this
    simp (disch := omega) [h1, h2, hs, wI64, H.inl, inlB, H.pp, ppB, this]
structure ScIn (x : Sc) : Prop where
 l : x.r.length ≤ 9223372036854775807
 r : ∀ r ∈ x.r, NdIn r.n
 h : NdIn x.h.n
theorem scsame_ok (H : HasEq C) (a b : Sc) (ha : ScIn a) : FnW C 258 [.agg (eSc a), .agg (eSc b)] = some (.bool (eqSc a b)) := by
 have k1 := rwsame_ok H a.h b.h ha.h
 have k2 : FnW C 414 [.ro 9 (a.r.map eRw) a.e, .ro 9 (b.r.map eRw) b.e, .fn 413 []] = some (.bool (eqRs a.r b.r)) := by
  rw [fnW_eq H.f414 rfl]
  by_cases c : a.r.length = b.r.length
  · have k := rws_loop H a.r b.r a.e b.e c ha.l ha.r a.r.length 0 (by simp)
    rw [List.drop_zero, List.drop_zero] at k
    generalize eqRs a.r b.r = X at *
    simp only [w414_K0] at k
    simp at k
    simp [w414, eq_true c, k]
  · have hq : eqRs a.r b.r = false := by
     cases q : eqRs a.r b.r
     · rfl
     · exact absurd (eqRs_len _ _ q) c
    rw [hq]
    simp [w414, c]
 rw [fnW_eq H.f258 rfl]
 unfold eqSc
 simp only [eRw] at k1
 generalize eqRs a.r b.r = X at *
 by_cases c1 : a.o = b.o
 · by_cases c2 : a.p = b.p
   · cases c3 : eqRw a.h b.h
     · rw [c3] at k1
       simp (disch := omega) [w258, eq_true c1, eq_true c2, k1, H.inl, inlB, H.pp, ppB]
     · rw [c3] at k1
       simp (disch := omega) [w258, eq_true c1, eq_true c2, k1, k2, H.inl, inlB, H.pp, ppB]
   · simp (disch := omega) [w258, eq_true c1, c2]
 · simp (disch := omega) [w258, c1]
theorem rsc_loop (H : HasEq C) (a b : Sc) (ha : ScIn a) (hl : a.r.length = b.r.length) : ∀ n i, n + i = a.r.length →
 w127_K0 C ⟨[(5, .int .i64 i), (3, .ptr 0 0 0), (2, .ptr 1 0 0)], [(0, .cells 12 [eSc b] true true), (1, .cells 12 [eSc a] true true)], 2⟩ = some (.int .i64 (if (eqRs (a.r.drop i) (b.r.drop i) && eqRw a.h b.h) = true then 1 else 0)) := by
 have hm := ha.l
 intro n
 induction n with
 | zero =>
  intro i hi
  have h1 : a.r.drop i = [] := List.drop_eq_nil_of_le (by omega)
  have h2 : b.r.drop i = [] := List.drop_eq_nil_of_le (by omega)
  have h3 : ¬ i < a.r.length := by omega
  have k := rrwsame_ok H a.h b.h ha.h
  simp only [eRw] at k
  rw [h1, h2]
  simp only [eqRs, Bool.true_and]
  generalize (if eqRw a.h b.h = true then (1 : Int) else 0) = X at *
  simp only [w127_K0]; rw [ck_unf w127_B0.eq_1]
  simp (disch := omega) [ck_unf w127_c0.eq_1, h3, k, H.inl, inlB, H.pp, ppB]
 | succ n ihn =>
  intro i hi
  have h1 : i < a.r.length := by omega
  have h2 : i < b.r.length := by omega
  have this := ihn (i + 1) (by omega)
  have hs := rrwsame_ok H a.r[i] b.r[i] (ha.r _ (List.getElem_mem h1))
  rw [drop_cons h1, drop_cons h2, eqRs]
  simp only [eRw] at hs
  cases c : eqRw a.r[i] b.r[i]
  · rw [c] at hs
    simp at hs
    simp only [w127_K0]; rw [ck_unf w127_B0.eq_1]
    simp (disch := omega) [h1, h2, hs, wI64, H.inl, inlB, H.pp, ppB]
  · rw [c] at hs
    simp at hs
    rw [Bool.true_and]
    generalize (if (eqRs (a.r.drop (i + 1)) (b.r.drop (i + 1)) && eqRw a.h b.h) = true then (1 : Int) else 0) = X at *
    simp only [w127_K0] at this ⊢; rw [ck_unf w127_B0.eq_1]
    simp at this
    simp (disch := omega) [h1, h2, hs, wI64, H.inl, inlB, H.pp, ppB, this]
theorem rscsame_ok (H : HasEq C) (a b : Sc) (ha : ScIn a) : FnW C 127 [.agg (eSc a), .agg (eSc b)] = some (.int .i64 (if eqSc a b = true then 1 else 0)) := by
 rw [fnW_eq H.f127 rfl]
 unfold eqSc
 by_cases c1 : a.o = b.o
 · by_cases c2 : a.p = b.p
   · by_cases c3 : a.r.length = b.r.length
     · have k := rsc_loop H a b ha c3 a.r.length 0 (by simp)
       rw [List.drop_zero, List.drop_zero] at k
       have hq : (decide (a.o = b.o) && decide (a.p = b.p) && eqRw a.h b.h && eqRs a.r b.r) = (eqRs a.r b.r && eqRw a.h b.h) := by
        rw [decide_eq_true c1, decide_eq_true c2]; cases eqRw a.h b.h <;> cases eqRs a.r b.r <;> rfl
       rw [hq]
       generalize (if (eqRs a.r b.r && eqRw a.h b.h) = true then (1 : Int) else 0) = X at *
       simp only [w127_K0] at k
       simp at k
       simp (disch := omega) [w127, eq_true c1, eq_true c2, c3, k]
     · have hq : eqRs a.r b.r = false := by
        cases q : eqRs a.r b.r
        · rfl
        · exact absurd (eqRs_len _ _ q) c3
       rw [hq]
       simp (disch := omega) [w127, eq_true c1, eq_true c2, c3]
   · simp (disch := omega) [w127, eq_true c1, c2]
 · simp (disch := omega) [w127, c1]
end Go.D
end
section
set_option linter.unusedSimpArgs false
set_option linter.unusedVariables false
namespace Go.D
open Go Go.Pav Go.Pw P
set_option maxRecDepth 10000
set_option maxHeartbeats 4000000
set_option linter.unusedSimpArgs false
set_option linter.unusedVariables false
attribute [-simp] List.getElem_cons_drop
variable {C : WProg}
structure HasRm (C : WProg) : Prop extends HasEq C where
 f606 : C.fns.get 606 = some w606
 f604 : C.fns.get 604 = some w604
theorem nsize_loop (H : HasRm C) (m : Nat) (hm : m ≤ 1000) (p : Nd) (hl : p.ch.length ≤ 9223372036854775807)
 (ih : ∀ k, k < m → ∀ c ∈ p.ch, ∃ n : Nat, 1 ≤ n ∧ n ≤ k + 1 ∧ FnW C 606 [.agg c.c, .int .i64 k] = some (.int .i64 n)) : ∀ j i, j + i = p.ch.length → ∀ n : Nat, 1 ≤ n → n ≤ m + 1 →
 ∃ n' : Nat, 1 ≤ n' ∧ n' ≤ m + 1 ∧ w606_K0 C ⟨[(6, .int .i64 i), (5, .int .i64 n), (2, .ptr 0 0 0), (1, .int .i64 m)], [(0, .cells 6 [p.c] true true)], 1⟩ = some (.int .i64 n') := by
 intro j
 induction j with
 | zero =>
  intro i hi n h1 h2
  have h3 : ¬ i < p.ch.length := by omega
  refine ⟨n, h1, h2, ?_⟩
  simp only [w606_K0]; rw [ck_unf w606_B0.eq_1]
  simp [ck_unf w606_c0.eq_1, h3]
 | succ j ihj =>
  intro i hi n hn1 hn2
  have h1 : i < p.ch.length := by omega
  by_cases c : n ≤ m
  · obtain ⟨r, r1, r2, hr⟩ := ih (m - n) (by omega) _ (List.getElem_mem h1)
    rw [Int.natCast_sub c] at hr
    obtain ⟨n', q1, q2, this⟩ := ihj (i + 1) (by omega) (n + r) (by omega) (by omega)
    refine ⟨n', q1, q2, ?_⟩
    have c' : (n : Int) ≤ m := by omega
    simp only [w606_K0] at this ⊢; rw [ck_unf w606_B0.eq_1]
    simp at this
    simp (disch := omega) [h1, c, c', wI64, hr, H.inl, inlB, H.pp, ppB, this]
  · have c' : ¬ (n : Int) ≤ m := by omega
    refine ⟨n, hn1, hn2, ?_⟩
    simp only [w606_K0]; rw [ck_unf w606_B0.eq_1]
    simp (disch := omega) [ck_unf w606_c0.eq_1, h1, c, c', wI64]
theorem nsize_ok (H : HasRm C) : ∀ (M m : Nat), m ≤ M → M ≤ 1000 → ∀ p : Nd, NdIn p → ∃ n : Nat, 1 ≤ n ∧ n ≤ m + 1 ∧ FnW C 606 [.agg p.c, .int .i64 m] = some (.int .i64 n) := by
 intro M
 induction M with
 | zero =>
  intro m hm hM p hp
  have hf : p.ch.length ≤ 9223372036854775807 := by cases hp; assumption
  obtain ⟨n, h1, h2, h⟩ := nsize_loop H m (by omega) p hf (fun k hk => absurd hk (by omega)) p.ch.length 0 (by simp) 1 (by omega) (by omega)
  refine ⟨n, h1, h2, ?_⟩
  rw [fnW_eq H.f606 rfl]
  simp only [w606_K0] at h
  simp at h
  simp [w606, h, H.inl, inlB, H.pp, ppB]
 | succ M ih =>
  intro m hm hM p hp
  have hf : p.ch.length ≤ 9223372036854775807 := by cases hp; assumption
  have hc : ∀ m ∈ p.ch, NdIn m := by cases hp; assumption
  obtain ⟨n, h1, h2, h⟩ := nsize_loop H m (by omega) p hf (fun k hk c hcc => ih k (by omega) (by omega) c (hc c hcc)) p.ch.length 0 (by simp) 1 (by omega) (by omega)
  refine ⟨n, h1, h2, ?_⟩
  rw [fnW_eq H.f606 rfl]
  simp only [w606_K0] at h
  simp at h
  simp [w606, h, H.inl, inlB, H.pp, ppB]
mutual
theorem eqN_rfl : ∀ n : Nd, eqN n n = true
 | ⟨k, t, y, a, ae, x, ch, ce⟩ => by rw [eqN, eqNs_rfl ch]; simp
theorem eqNs_rfl : ∀ l : List Nd, eqNs l l = true
 | [] => rfl
 | n :: r => by rw [eqNs, eqN_rfl n, eqNs_rfl r]; rfl
end
theorem eqRs_rfl : ∀ l : List Rw, eqRs l l = true
 | [] => rfl
 | n :: r => by rw [eqRs, eqRs_rfl r]; simp [eqRw, eqN_rfl]
theorem eqSc_rfl (x : Sc) : eqSc x x = true := by simp [eqSc, eqRw, eqN_rfl, eqRs_rfl]
abbrev rmH (a b : Sc) : WHeap := [(0, .cells 12 [eSc a, eSc b] true true), (1, .cells 12 [eSc b] true true), (2, .cells 12 [eSc a] true true)]
theorem rm_end (H : HasRm C) (hlives : FnW C 128 [] = some (.bool true)) (a b : Sc) (ha : ScIn a) (hb : ScIn b) :
 w604_K0 C ⟨[(23, .int .i64 2), (22, .int .i64 2), (21, .sl 0 12 0 2 2 true), (3, .ptr 1 0 0), (2, .ptr 2 0 0)], rmH a b, 3⟩ = some (.bool true) := by
 have q1 := scsame_ok H.toHasEq a b ha
 have q2 := rscsame_ok H.toHasEq a b ha
 have q3 := scsame_ok H.toHasEq a a ha
 have q4 := scsame_ok H.toHasEq b b hb
 rw [eqSc_rfl] at q3 q4
 simp only [eSc] at q1 q2 q3 q4
 cases c : eqSc a b
 · rw [c] at q1 q2
   simp at q2
   simp only [w604_K0, rmH]; rw [ck_unf w604_B0.eq_1]
   simp (disch := omega) [ck_unf w604_c0.eq_1, q1, q2, q3, q4, hlives, H.inl, inlB, H.pp, ppB]
 · rw [c] at q1 q2
   simp at q2
   simp only [w604_K0, rmH]; rw [ck_unf w604_B0.eq_1]
   simp (disch := omega) [ck_unf w604_c0.eq_1, q1, q2, q3, q4, hlives, H.inl, inlB, H.pp, ppB]
theorem rm_in (H : HasRm C) (hlives : FnW C 128 [] = some (.bool true)) (a b x : Sc) (hx : ScIn x) (iv : Int) (hiv : 0 ≤ iv ∧ iv ≤ 1)
 (hnext : w604_K0 C ⟨[(23, .int .i64 (iv + 1)), (22, .int .i64 2), (21, .sl 0 12 0 2 2 true), (3, .ptr 1 0 0), (2, .ptr 2 0 0)], rmH a b, 3⟩ = some (.bool true)) : ∀ n j, n + j = x.r.length →
 w604_K1 C ⟨[(23, .int .i64 iv), (22, .int .i64 2), (21, .sl 0 12 0 2 2 true), (7, .int .i64 j), (6, .ptr 1 0 0), (3, .ptr 2 0 0), (2, .ptr 3 0 0)], [(0, .cells 12 [eSc a, eSc b] true true), (1, .cells 12 [eSc x] true true), (2, .cells 12 [eSc b] true true), (3, .cells 12 [eSc a] true true)], 4⟩ = some (.bool true) := by
 have hl := hx.l
 intro n
 induction n with
 | zero =>
  intro j hj
  have h3 : ¬ j < x.r.length := by omega
  obtain ⟨m, _, _, q⟩ := nsize_ok H 40 40 (by omega) (by omega) x.h.n hx.h
  rw [Nd.c_eq] at q
  simp only [w604_K0, rmH] at hnext
  try simp at hnext
  by_cases c : 40 < m
  · simp only [w604_K1]; rw [ck_unf w604_B1.eq_1]
    simp at q
    simp (disch := omega) [ck_unf w604_c2.eq_1, h3, q, c, hlives, H.inl, inlB, H.pp, ppB]
  · simp only [w604_K1]; rw [ck_unf w604_B1.eq_1]
    simp at q
    simp (disch := omega) [ck_unf w604_c2.eq_1, ck_unf w604_c1.eq_1, h3, q, c, wI64, hnext, H.inl, inlB, H.pp, ppB]
 | succ n ih =>
  intro j hj
  have h1 : j < x.r.length := by omega
  have this := ih (j + 1) (by omega)
  obtain ⟨m, _, _, q⟩ := nsize_ok H 40 40 (by omega) (by omega) x.r[j].n (hx.r _ (List.getElem_mem h1))
  rw [Nd.c_eq] at q
  simp at q
  by_cases c : 40 < m
  · simp only [w604_K1]; rw [ck_unf w604_B1.eq_1]
    simp (disch := omega) [h1, q, c, hlives, H.inl, inlB, H.pp, ppB]
  · simp only [w604_K1] at this ⊢; rw [ck_unf w604_B1.eq_1]
    simp at this
    simp (disch := omega) [h1, q, c, wI64, this, H.inl, inlB, H.pp, ppB]
theorem rm_1 (H : HasRm C) (hlives : FnW C 128 [] = some (.bool true)) (a b : Sc) (ha : ScIn a) (hb : ScIn b) :
 w604_K0 C ⟨[(23, .int .i64 1), (22, .int .i64 2), (21, .sl 0 12 0 2 2 true), (3, .ptr 1 0 0), (2, .ptr 2 0 0)], rmH a b, 3⟩ = some (.bool true) := by
 have k := rm_in H hlives a b b hb 1 (by omega) (rm_end H hlives a b ha hb) b.r.length 0 (by simp)
 simp only [w604_K1] at k
 try simp at k
 simp only [w604_K0, rmH]; rw [ck_unf w604_B0.eq_1]
 simp (disch := omega) [k, H.inl, inlB, H.pp, ppB]
theorem rm_0 (H : HasRm C) (hlives : FnW C 128 [] = some (.bool true)) (a b : Sc) (ha : ScIn a) (hb : ScIn b) :
 w604_K0 C ⟨[(23, .int .i64 0), (22, .int .i64 2), (21, .sl 0 12 0 2 2 true), (3, .ptr 1 0 0), (2, .ptr 2 0 0)], rmH a b, 3⟩ = some (.bool true) := by
 have k := rm_in H hlives a b a ha 0 (by omega) (rm_1 H hlives a b ha hb) a.r.length 0 (by simp)
 simp only [w604_K1] at k
 try simp at k
 simp only [w604_K0, rmH]; rw [ck_unf w604_B0.eq_1]
 simp (disch := omega) [k, H.inl, inlB, H.pp, ppB]
theorem rmlaw_ok (H : HasRm C) (hlives : FnW C 128 [] = some (.bool true)) (a b : Sc) (ha : ScIn a) (hb : ScIn b) : FnW C 604 [.agg (eSc a), .agg (eSc b)] = some (.bool true) := by
 have k := rm_0 H hlives a b ha hb
 simp only [w604_K0, rmH] at k
 try simp at k
 rw [fnW_eq H.f604 rfl]
 by_cases c1 : a.r.length ≤ 10
 · have c1' : ¬ (10 : Int) < a.r.length := by omega
   by_cases c2 : b.r.length ≤ 10
   · have c2' : ¬ (10 : Int) < b.r.length := by omega
     simp (disch := omega) [w604, c1, c1', c2, c2', k, H.inl, inlB, H.pp, ppB]
   · have c2' : (10 : Int) < b.r.length := by omega
     simp (disch := omega) [w604, c1, c1', c2, c2', hlives, H.inl, inlB, H.pp, ppB]
 · have c1' : (10 : Int) < a.r.length := by omega
   simp (disch := omega) [w604, c1, c1', hlives, H.inl, inlB, H.pp, ppB]
end Go.D
end
