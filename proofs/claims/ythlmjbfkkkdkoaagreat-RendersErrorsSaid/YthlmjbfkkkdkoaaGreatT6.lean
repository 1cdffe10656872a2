/- Part of the theory that the claims of this work use: G01, E12, E13, E07, E09, D46, E15, E16, E10, E11, D30, D31, D38, D40, V600, D47, D48, D49, E17, E18, E19, E20, E21, E22, E23, V612, E24, E25, E26, E27. No conditions of its own. -/
import Derived.Test.YthlmjbfkkkdkoaaGreatT5
section
set_option linter.unusedSimpArgs false
set_option linter.unusedVariables false
namespace Go.Proofs.YthlmjbfkkkdkoaaGreat
open Go.ChangeShapes Go.WideShapes Go.ChangeAt Go.RowKit Go.Pav Go.Pw P Go.D
theorem has_ : HasG prog := { f561 := rfl, f517 := rfl, f557 := rfl, f556 := rfl, f511 := rfl, f510 := rfl, f560 := rfl, f545 := rfl, f578 := rfl, f543 := rfl, f495 := rfl, f516 := rfl, f500 := rfl, inl := rfl, pp := rfl, f434 := rfl, f519 := rfl, f518 := rfl, f562 := rfl, f433 := rfl, f282 := rfl, f140 := rfl, f439 := rfl, f581 := rfl, f579 := rfl, f585 := rfl, f549 := rfl, f502 := rfl, f503 := rfl, f548 := rfl, f404 := rfl, f231 := rfl, f594 := rfl, f586 := rfl, f550 := rfl, f505 := rfl, f408 := rfl, f398 := rfl, f424 := rfl, f494 := rfl, f496 := rfl, f497 := rfl, f498 := rfl, f499 := rfl, f544 := rfl, f546 := rfl, f580 := rfl, f512 := rfl, f584 := rfl, f558 := rfl, f559 := rfl, f592 := rfl, f582 := rfl, f583 := rfl, f593 := rfl, f563 := rfl, f520 := rfl, f442 := rfl, f441 := rfl, f547 := rfl, f513 := rfl, f501 := rfl, f425 := rfl, f225 := rfl, f111 := rfl, f227 := rfl, f402 := rfl, f504 := rfl, f407 := rfl, f239 := rfl, f406 := rfl, f240 := rfl, f423 := rfl, f399 := rfl, f230 := rfl, f405 := rfl, f232 := rfl, f115 := rfl, f236 := rfl, f271 := rfl, f223 := rfl, f235 := rfl, f422 := rfl, f270 := rfl, f126 := rfl }
theorem ty_four {a : AV} (h : Ty (.slice [.int .u8, .int .u8, .int .u8, .int .u8]) a) : ∃ (xs : List Q4) (e : Bool), a = .ro 4 (xs.map eQ) e ∧ ∀ s ∈ xs, QIn s := by
 obtain ⟨es, e, rfl, _, hx⟩ := ty_slice h
 obtain ⟨xs, rfl, hr⟩ := ty_map2 (g := eQ) (R := QIn) (fun l q => by
  obtain ⟨q1, q2⟩ := q
  match l, q1 with
  | [u, v, w, x], _ =>
   obtain ⟨n1, rfl, h1⟩ := ty_u8 (q2 0 _ u rfl rfl)
   obtain ⟨n2, rfl, h2⟩ := ty_u8 (q2 1 _ v rfl rfl)
   obtain ⟨n3, rfl, h3⟩ := ty_u8 (q2 2 _ w rfl rfl)
   obtain ⟨n4, rfl, h4⟩ := ty_u8 (q2 3 _ x rfl rfl)
   exact ⟨⟨n1, n2, n3, n4⟩, rfl, h1, h2, h3, h4⟩) es hx
 exact ⟨xs, e, rfl, hr⟩
theorem ty_bytes2 {a : AV} (h : Ty (.slice [.int .u8]) a) : ∃ (xs : List Int) (e : Bool), a = .ro 1 (xs.map eU8) e ∧ (∀ x ∈ xs, 0 ≤ x ∧ x ≤ 255) ∧ xs.length < 9223372036854775808 := by
 obtain ⟨es, e, rfl, hl, hx⟩ := ty_slice h
 obtain ⟨xs, rfl, hr⟩ := ty_map2 (g := eU8) (R := fun x : Int => 0 ≤ x ∧ x ≤ 255) (fun l q => by
  obtain ⟨q1, q2⟩ := q
  match l, q1 with
  | [v], _ =>
   obtain ⟨n, rfl, h1⟩ := ty_u8 (q2 0 _ v rfl rfl)
   exact ⟨n, rfl, h1⟩) es hx
 exact ⟨xs, e, rfl, hr, by simpa using hl⟩
end Go.Proofs.YthlmjbfkkkdkoaaGreat
end
section
set_option linter.unusedSimpArgs false
set_option linter.unusedVariables false
namespace Go.D
open Go Go.Pav Go.Pw P
set_option maxRecDepth 10000
set_option maxHeartbeats 4000000
set_option linter.unusedSimpArgs false
set_option linter.unusedVariables false
attribute [-simp] List.getElem_cons_drop
variable {C : WProg}
structure HasEq (C : WProg) : Prop extends HasS C where
 f415 : C.fns.get 415 = some w415
 f260 : C.fns.get 260 = some w260
 f127 : C.fns.get 127 = some w127
mutual
/-- Are two trees equal? -/
def eqN : Nd → Nd → Bool
 | ⟨k, t, y, a, _, x, ch, _⟩, ⟨k', t', y', a', _, x', ch', _⟩ => decide (k = k') && decide (t = t') && decide (y = y') && decide (x = x') && decide (a = a') && eqNs ch ch'
def eqNs : List Nd → List Nd → Bool
 | [], [] => true
 | n :: r, m :: s => eqN n m && eqNs r s
 | _, _ => false
end
theorem eqN_eq (n m : Nd) : eqN n m = (decide (n.k = m.k) && decide (n.t = m.t) && decide (n.y = m.y) && decide (n.x = m.x) && decide (n.a = m.a) && eqNs n.ch m.ch) := by
 cases n; cases m; rw [eqN]
theorem eqNs_len : ∀ (l r : List Nd), eqNs l r = true → l.length = r.length
 | [], [], _ => rfl
 | n :: l, m :: r, h => by
  rw [eqNs, Bool.and_eq_true] at h
  simp [eqNs_len l r h.2]
 | [], _ :: _, h => by simp [eqNs] at h
 | _ :: _, [], h => by simp [eqNs] at h
inductive NdIn : Nd → Prop
 | mk (n : Nd) (h1 : n.a.length ≤ 9223372036854775807) (h2 : n.ch.length ≤ 9223372036854775807) (h : ∀ m ∈ n.ch, NdIn m) : NdIn n
theorem st_ch (H : HasEq C) (a b : Nd) (hl : a.ch.length = b.ch.length) (h2 : a.ch.length ≤ 9223372036854775807)
 (ih : ∀ c ∈ a.ch, ∀ m : Nd, FnW C 415 [.agg c.c, .agg m.c] = some (.int .i64 (if eqN c m = true then 1 else 0))) : ∀ n i, n + i = a.ch.length →
 w415_K0 C ⟨[(6, .int .i64 i), (3, .ptr 0 0 0), (2, .ptr 1 0 0)], [(0, .cells 6 [b.c] true true), (1, .cells 6 [a.c] true true)], 2⟩ = some (.int .i64 (if eqNs (a.ch.drop i) (b.ch.drop i) = true then 1 else 0)) := by
 intro n
 induction n with
 | zero =>
  intro i hi
  have h3 : ¬ i < a.ch.length := by omega
  have e1 : a.ch.drop i = [] := List.drop_eq_nil_of_le (by omega)
  have e2 : b.ch.drop i = [] := List.drop_eq_nil_of_le (by omega)
  simp only [w415_K0]; rw [ck_unf w415_B0.eq_1]
  simp (disch := omega) [ck_unf w415_c0.eq_1, h3, e1, e2, eqNs]
 | succ n ihn =>
  intro i hi
  have h1 : i < a.ch.length := by omega
  have h1' : i < b.ch.length := by omega
  have this := ihn (i + 1) (by omega)
  have hs := ih a.ch[i] (List.getElem_mem h1) b.ch[i]
  rw [drop_cons h1, drop_cons h1', eqNs]
  cases c : eqN a.ch[i] b.ch[i]
  · rw [c] at hs
    simp at hs
    simp only [w415_K0]; rw [ck_unf w415_B0.eq_1]
    simp (disch := omega) [h1, h1', hs, wI64, H.inl, inlB, H.pp, ppB]
  · rw [c] at hs
    simp at hs
    rw [Bool.true_and]
    generalize (if eqNs (a.ch.drop (i + 1)) (b.ch.drop (i + 1)) = true then (1 : Int) else 0) = R at *
    simp only [w415_K0] at this ⊢; rw [ck_unf w415_B0.eq_1]
    simp at this
    simp (disch := omega) [h1, h1', hs, wI64, H.inl, inlB, H.pp, ppB, this]
theorem st_at (H : HasEq C) (a b : Nd) (hl : a.a.length = b.a.length) (h1 : a.a.length ≤ 9223372036854775807) (X : Int)
 (h0 : w415_K0 C ⟨[(6, .int .i64 0), (3, .ptr 0 0 0), (2, .ptr 1 0 0)], [(0, .cells 6 [b.c] true true), (1, .cells 6 [a.c] true true)], 2⟩ = some (.int .i64 X)) : ∀ n i, n + i = a.a.length →
 w415_K1 C ⟨[(5, .int .i64 i), (3, .ptr 0 0 0), (2, .ptr 1 0 0)], [(0, .cells 6 [b.c] true true), (1, .cells 6 [a.c] true true)], 2⟩ = some (.int .i64 (if a.a.drop i = b.a.drop i then X else 0)) := by
 intro n
 induction n with
 | zero =>
  intro i hi
  have h3 : ¬ i < a.a.length := by omega
  have e1 : a.a.drop i = [] := List.drop_eq_nil_of_le (by omega)
  have e2 : b.a.drop i = [] := List.drop_eq_nil_of_le (by omega)
  rw [e1, e2, if_pos rfl]
  simp only [w415_K0] at h0
  try simp at h0
  simp only [w415_K1]; rw [ck_unf w415_B1.eq_1]
  simp (disch := omega) [ck_unf w415_c1.eq_1, h3, h0]
 | succ n ihn =>
  intro i hi
  have hi1 : i < a.a.length := by omega
  have hi2 : i < b.a.length := by omega
  have this := ihn (i + 1) (by omega)
  rw [drop_cons hi1, drop_cons hi2]
  by_cases c1 : a.a[i].1 = b.a[i].1
  · by_cases c2 : a.a[i].2 = b.a[i].2
    · have c : a.a[i] = b.a[i] := Prod.ext c1 c2
      have hq : (if a.a[i] :: a.a.drop (i + 1) = b.a[i] :: b.a.drop (i + 1) then X else 0) = if a.a.drop (i + 1) = b.a.drop (i + 1) then X else 0 := by simp [c]
      rw [hq]
      generalize (if a.a.drop (i + 1) = b.a.drop (i + 1) then X else 0) = R at *
      simp only [w415_K1] at this ⊢; rw [ck_unf w415_B1.eq_1]
      simp at this
      simp (disch := omega) [hi1, hi2, eq_true c1, eq_true c2, wI64, H.inl, inlB, H.pp, ppB, this]
    · have hq : (if a.a[i] :: a.a.drop (i + 1) = b.a[i] :: b.a.drop (i + 1) then X else 0) = 0 := by
       rw [if_neg]; intro q; exact c2 (congrArg Prod.snd (List.cons.inj q).1)
      rw [hq]
      simp only [w415_K1]; rw [ck_unf w415_B1.eq_1]
      simp (disch := omega) [hi1, hi2, eq_true c1, c2, wI64, H.inl, inlB, H.pp, ppB]
  · have hq : (if a.a[i] :: a.a.drop (i + 1) = b.a[i] :: b.a.drop (i + 1) then X else 0) = 0 := by
     rw [if_neg]; intro q; exact c1 (congrArg Prod.fst (List.cons.inj q).1)
    rw [hq]
    simp only [w415_K1]; rw [ck_unf w415_B1.eq_1]
    simp (disch := omega) [hi1, hi2, c1, wI64, H.inl, inlB, H.pp, ppB]
theorem stree_ok (H : HasEq C) {a : Nd} (ha : NdIn a) : ∀ b : Nd, FnW C 415 [.agg a.c, .agg b.c] = some (.int .i64 (if eqN a b = true then 1 else 0)) := by
 induction ha with
 | mk a h1 h2 h ih =>
  intro b
  rw [fnW_eq H.f415 rfl, eqN_eq]
  by_cases c1 : a.k = b.k
  · by_cases c2 : a.t = b.t
    · by_cases c3 : a.y = b.y
      · by_cases c4 : a.x = b.x
        · by_cases c5 : a.a.length = b.a.length
          · by_cases c6 : a.ch.length = b.ch.length
            · have k0 := st_ch H a b c6 h2 ih a.ch.length 0 (by simp)
              rw [List.drop_zero, List.drop_zero] at k0
              have k1 := st_at H a b c5 h1 _ k0 a.a.length 0 (by simp)
              rw [List.drop_zero, List.drop_zero] at k1
              have hq : (if (decide (a.k = b.k) && decide (a.t = b.t) && decide (a.y = b.y) && decide (a.x = b.x) && decide (a.a = b.a) && eqNs a.ch b.ch) = true then (1 : Int) else 0) = if a.a = b.a then (if eqNs a.ch b.ch = true then 1 else 0) else 0 := by
               by_cases q : a.a = b.a <;> simp [c1, c2, c3, c4, q]
              rw [hq]
              generalize (if a.a = b.a then (if eqNs a.ch b.ch = true then (1 : Int) else 0) else 0) = R at *
              simp only [w415_K1] at k1
              simp at k1
              simp (disch := omega) [w415, eq_true c1, eq_true c2, eq_true c3, eq_true c4, c5, c6, k1]
            · have hq : eqNs a.ch b.ch = false := by
               cases q : eqNs a.ch b.ch
               · rfl
               · exact absurd (eqNs_len _ _ q) c6
              simp (disch := omega) [w415, eq_true c1, eq_true c2, eq_true c3, eq_true c4, c5, c6, hq]
          · have hq : ¬ a.a = b.a := fun q => c5 (by rw [q])
            simp (disch := omega) [w415, eq_true c1, eq_true c2, eq_true c3, eq_true c4, c5, hq]
        · simp (disch := omega) [w415, eq_true c1, eq_true c2, eq_true c3, c4]
      · simp (disch := omega) [w415, eq_true c1, eq_true c2, c3]
    · simp (disch := omega) [w415, eq_true c1, c2]
  · simp (disch := omega) [w415, c1]
end Go.D
end
section
set_option linter.unusedSimpArgs false
set_option linter.unusedVariables false
namespace Go.D
open Go Go.Pav Go.Pw P
set_option maxRecDepth 10000
set_option maxHeartbeats 4000000
set_option linter.unusedSimpArgs false
set_option linter.unusedVariables false
attribute [-simp] List.getElem_cons_drop
variable {C : WProg}
structure Rw where
 k : Int
 t : Int
 s : Int
 n : Nd
@[simp] def eRw (r : Rw) : List AV := [.int .u64 r.k, .int .i64 r.t, .int .i64 r.s, .int .u8 r.n.k, .str r.n.t, .str r.n.y, .ro 2 (r.n.a.map eA) r.n.ae, .str r.n.x, .ro 6 (r.n.ch.map Nd.c) r.n.ce]
structure Sc where
 o : Int
 r : List Rw
 e : Bool
 p : Bool
 h : Rw
@[simp] def eSc (x : Sc) : List AV := [.int .i64 x.o, .ro 9 (x.r.map eRw) x.e, .bool x.p, .int .u64 x.h.k, .int .i64 x.h.t, .int .i64 x.h.s, .int .u8 x.h.n.k, .str x.h.n.t, .str x.h.n.y, .ro 2 (x.h.n.a.map eA) x.h.n.ae, .str x.h.n.x, .ro 6 (x.h.n.ch.map Nd.c) x.h.n.ce]
def eqRw (a b : Rw) : Bool := decide (a.k = b.k) && decide (a.t = b.t) && decide (a.s = b.s) && eqN a.n b.n
def eqRs : List Rw → List Rw → Bool
 | [], [] => true
 | a :: r, b :: s => eqRw a b && eqRs r s
 | _, _ => false
def eqSc (a b : Sc) : Bool := decide (a.o = b.o) && decide (a.p = b.p) && eqRw a.h b.h && eqRs a.r b.r
theorem eqRs_len : ∀ (l r : List Rw), eqRs l r = true → l.length = r.length
 | [], [], _ => rfl
 | n :: l, m :: r, h => by
  rw [eqRs, Bool.and_eq_true] at h
  simp [eqRs_len l r h.2]
 | [], _ :: _, h => by simp [eqRs] at h
 | _ :: _, [], h => by simp [eqRs] at h
theorem rrwsame_ok (H : HasEq C) (a b : Rw) (ha : NdIn a.n) : FnW C 260 [.agg (eRw a), .agg (eRw b)] = some (.int .i64 (if eqRw a b = true then 1 else 0)) := by
 have k := stree_ok H ha b.n
 rw [Nd.c_eq, Nd.c_eq] at k
 rw [fnW_eq H.f260 rfl]
 unfold eqRw
 by_cases c1 : a.k = b.k
 · by_cases c2 : a.t = b.t
   · by_cases c3 : a.s = b.s
     · rw [decide_eq_true c1, decide_eq_true c2, decide_eq_true c3]
       simp only [Bool.true_and]
       generalize (if eqN a.n b.n = true then (1 : Int) else 0) = X at *
       simp (disch := omega) [w260, eq_true c1, eq_true c2, eq_true c3, k, H.inl, inlB, H.pp, ppB]
     · simp (disch := omega) [w260, eq_true c1, eq_true c2, c3]
   · simp (disch := omega) [w260, eq_true c1, c2]
 · simp (disch := omega) [w260, c1]
structure ScIn (x : Sc) : Prop where
 l : x.r.length ≤ 9223372036854775807
 r : ∀ r ∈ x.r, NdIn r.n
 h : NdIn x.h.n
theorem rsc_loop (H : HasEq C) (a b : Sc) (ha : ScIn a) (hl : a.r.length = b.r.length) : ∀ n i, n + i = a.r.length →
 w127_K0 C ⟨[(5, .int .i64 i), (3, .ptr 0 0 0), (2, .ptr 1 0 0)], [(0, .cells 12 [eSc b] true true), (1, .cells 12 [eSc a] true true)], 2⟩ = some (.int .i64 (if (eqRs (a.r.drop i) (b.r.drop i) && eqRw a.h b.h) = true then 1 else 0)) := by
 have hm := ha.l
 intro n
 induction n with
 | zero =>
  intro i hi
  have h1 : a.r.drop i = [] := List.drop_eq_nil_of_le (by omega)
  have h2 : b.r.drop i = [] := List.drop_eq_nil_of_le (by omega)
  have h3 : ¬ i < a.r.length := by omega
  have k := rrwsame_ok H a.h b.h ha.h
  simp only [eRw] at k
  rw [h1, h2]
  simp only [eqRs, Bool.true_and]
  generalize (if eqRw a.h b.h = true then (1 : Int) else 0) = X at *
  simp only [w127_K0]; rw [ck_unf w127_B0.eq_1]
  simp (disch := omega) [ck_unf w127_c0.eq_1, h3, k, H.inl, inlB, H.pp, ppB]
 | succ n ihn =>
  intro i hi
  have h1 : i < a.r.length := by omega
  have h2 : i < b.r.length := by omega
  have this := ihn (i + 1) (by omega)
  have hs := rrwsame_ok H a.r[i] b.r[i] (ha.r _ (List.getElem_mem h1))
  rw [drop_cons h1, drop_cons h2, eqRs]
  simp only [eRw] at hs
  cases c : eqRw a.r[i] b.r[i]
  · rw [c] at hs
    simp at hs
    simp only [w127_K0]; rw [ck_unf w127_B0.eq_1]
    simp (disch := omega) [h1, h2, hs, wI64, H.inl, inlB, H.pp, ppB]
  · rw [c] at hs
    simp at hs
    rw [Bool.true_and]
    generalize (if (eqRs (a.r.drop (i + 1)) (b.r.drop (i + 1)) && eqRw a.h b.h) = true then (1 : Int) else 0) = X at *
    simp only [w127_K0] at this ⊢; rw [ck_unf w127_B0.eq_1]
    simp at this
    simp (disch := omega) [h1, h2, hs, wI64, H.inl, inlB, H.pp, ppB, this]
theorem rscsame_ok (H : HasEq C) (a b : Sc) (ha : ScIn a) : FnW C 127 [.agg (eSc a), .agg (eSc b)] = some (.int .i64 (if eqSc a b = true then 1 else 0)) := by
 rw [fnW_eq H.f127 rfl]
 unfold eqSc
 by_cases c1 : a.o = b.o
 · by_cases c2 : a.p = b.p
   · by_cases c3 : a.r.length = b.r.length
     · have k := rsc_loop H a b ha c3 a.r.length 0 (by simp)
       rw [List.drop_zero, List.drop_zero] at k
       have hq : (decide (a.o = b.o) && decide (a.p = b.p) && eqRw a.h b.h && eqRs a.r b.r) = (eqRs a.r b.r && eqRw a.h b.h) := by
        rw [decide_eq_true c1, decide_eq_true c2]; cases eqRw a.h b.h <;> cases eqRs a.r b.r <;> rfl
       rw [hq]
       generalize (if (eqRs a.r b.r && eqRw a.h b.h) = true then (1 : Int) else 0) = X at *
       simp only [w127_K0] at k
       simp at k
       simp (disch := omega) [w127, eq_true c1, eq_true c2, c3, k]
     · have hq : eqRs a.r b.r = false := by
        cases q : eqRs a.r b.r
        · rfl
        · exact absurd (eqRs_len _ _ q) c3
       rw [hq]
       simp (disch := omega) [w127, eq_true c1, eq_true c2, c3]
   · simp (disch := omega) [w127, eq_true c1, c2]
 · simp (disch := omega) [w127, c1]
end Go.D
end
section
set_option linter.unusedSimpArgs false
set_option linter.unusedVariables false
namespace Go.D
open Go Go.Pav Go.Pw P
set_option maxRecDepth 10000
set_option maxHeartbeats 4000000
set_option linter.unusedSimpArgs false
set_option linter.unusedVariables false
attribute [-simp] List.getElem_cons_drop
variable {C : WProg}
end Go.D
end
section
set_option linter.unusedSimpArgs false
set_option linter.unusedVariables false
namespace Go.D
open Go Go.Pav Go.Pw P
set_option maxRecDepth 10000
set_option maxHeartbeats 4000000
set_option linter.unusedSimpArgs false
set_option linter.unusedVariables false
attribute [-simp] List.getElem_cons_drop
variable {C : WProg}
end Go.D
end
section
set_option linter.unusedSimpArgs false
set_option linter.unusedVariables false
namespace Go.D
open Go Go.Pav Go.Pw P
set_option maxRecDepth 10000
set_option maxHeartbeats 4000000
set_option linter.unusedSimpArgs false
set_option linter.unusedVariables false
attribute [-simp] List.getElem_cons_drop
variable {C : WProg}
structure HasTr (C : WProg) : Prop extends HasG C where
 f238 : C.fns.get 238 = some w238
theorem tree_at (H : HasTr C) (ks : List Kd) (ke : Bool) (cap : Int) (hr : RuIn ks) (l : List En) (e : Bool) (hl : l.length ≤ 10000) (hs : ∀ x ∈ l, EnIn x) (hck : ckE ks cap l = 0) (a : Nat) (ha : a < l.length) (ht : l[a].i.t < ks.length) :
 FnW C 238 [aR ks ke cap, aL l e, .int .i64 a] = some (.tup [.agg (rndN (kdAt ks l[a].i.t).p l[a].i cap).c, .int .i64 (rndE (kdAt ks l[a].i.t).p l[a].i cap)]) := by
 have hc := lcheck_ok H.toHasK ks ke cap hr l e (by omega) hs
 rw [hck] at hc
 have h := rrender_ok H.toHasK ks ke cap l[a].i (hs _ (List.getElem_mem ha)).i ht hr
 rw [fnW_eq H.f238 rfl]
 generalize rndN (kdAt ks l[a].i.t).p l[a].i cap = N at *
 generalize rndE (kdAt ks l[a].i.t).p l[a].i cap = E at *
 rw [Nd.c_eq] at h ⊢
 simp only [aR, eIt] at h
 have a1 : ¬ (a : Int) < 0 := by omega
 have a2 : ¬ (l.length : Int) ≤ a := by omega
 simp (disch := omega) [w238, hc, h, ha, a1, a2, H.inl, inlB, H.pp, ppB]
end Go.D
end
section
set_option linter.unusedSimpArgs false
set_option linter.unusedVariables false
namespace Go.D
open Go Go.Pav Go.Pw P
set_option maxRecDepth 10000
set_option maxHeartbeats 4000000
set_option linter.unusedSimpArgs false
set_option linter.unusedVariables false
attribute [-simp] List.getElem_cons_drop
variable {C : WProg}
structure HasCp (C : WProg) : Prop extends HasEq C, HasTr C, HasAt C where
 f507 : C.fns.get 507 = some w507
 f554 : C.fns.get 554 = some w554
 f553 : C.fns.get 553 = some w553
 f418 : C.fns.get 418 = some w418
 f416 : C.fns.get 416 = some w416
mutual
/-- A tree without its keys; all memory its own. -/
def strN : Nd → Nd
 | ⟨k, t, y, a, ae, x, ch, ce⟩ => ⟨k, t, [], a, true, x, strNs ch, true⟩
def strNs : List Nd → List Nd
 | [] => []
 | n :: r => strN n :: strNs r
end
theorem strNs_eq : ∀ l : List Nd, strNs l = l.map strN
 | [] => rfl
 | n :: r => by rw [strNs, strNs_eq r]; rfl
theorem strN_eq (n : Nd) : strN n = ⟨n.k, n.t, [], n.a, true, n.x, n.ch.map strN, true⟩ := by cases n; rw [strN, strNs_eq]
theorem cloneA_ok (H : HasCp C) (l : List (Bs × Bs)) (e : Bool) (hl : l.length ≤ 1000000) : FnW C 554 [.ro 2 (l.map eA) e] = some (.ro 2 (l.map eA) l.isEmpty) := by
 rw [fnW_eq H.f554 rfl]
 cases l with
 | nil => simp [w554, ck_cln]
 | cons a r =>
  simp only [List.length_cons] at hl
  have h1 : (r.length + 1) * 33 ≤ 35184372088832 := by omega
  have h2 : List.take r.length (List.map eA r) = List.map eA r := List.take_of_length_le (by simp)
  simp [w554, ck_cln2, clnC, isEmptyRo, h1, h2]
theorem clipA_ok (H : HasCp C) (l : List (Bs × Bs)) (e : Bool) : FnW C 553 [.ro 2 (l.map eA) e] = some (.ro 2 (l.map eA) true) := by
 have h : List.take l.length (List.map eA l) = List.map eA l := List.take_of_length_le (by simp)
 rw [fnW_eq H.f553 rfl]
 simp [w553, h]
theorem gr_get {α β : Type} (f : α → β) (G : List α) (z : β) (m : Nat) : (G.map f ++ List.replicate (m + 1) z)[G.length]? = some z := by
 rw [List.getElem?_append_right (by simp)]; simp
theorem gr_set {α β : Type} (f : α → β) (G : List α) (z : β) (m : Nat) (y : α) : (G.map f ++ List.replicate (m + 1) z).set G.length (f y) = (G ++ [y]).map f ++ List.replicate m z := by
 rw [List.set_append_right _ _ (by simp)]; simp [List.replicate_succ]
theorem cp_loop (H : HasCp C) (n : Nd) (hl : n.ch.length ≤ 16) (ih : ∀ c ∈ n.ch, FnW C 507 [.agg c.c, .bool false] = some (.agg (strN c).c)) : ∀ m i, m + i = n.ch.length → ∀ G : List Nd, G.length = i → G = (n.ch.take i).map strN →
 w507_K0 C ⟨[(23, .int .i64 i), (22, .int .i64 n.ch.length), (21, .ro 6 (n.ch.map Nd.c) n.ce), (5, .sl 0 6 0 n.ch.length n.ch.length true), (4, .ptr 1 0 0), (2, .ptr 2 0 0), (1, .bool false)],
  [(0, .cells 6 (G.map Nd.c ++ List.replicate m [.int .u8 0, .str [], .str [], .ro 2 [] true, .str [], .ro 6 [] true]) true true), (1, .cells 6 [[.int .u8 0, .str [], .str [], .ro 2 [] true, .str [], .ro 6 [] true]] true true),
   (2, .cells 6 [[.int .u8 n.k, .str n.t, .str [], .ro 2 (n.a.map eA) true, .str n.x, .ro 6 (n.ch.map Nd.c) n.ce]] true true)], 3⟩ = some (.agg (strN n).c) := by
 intro m
 induction m with
 | zero =>
  intro i hi G hG hGe
  have h3 : ¬ i < n.ch.length := by omega
  have e1 : n.ch.take i = n.ch := List.take_of_length_le (by omega)
  have e2 : List.take n.ch.length (List.map Nd.c G) = List.map Nd.c G := List.take_of_length_le (by simp; omega)
  rw [Nd.c_eq (strN n), strN_eq]
  rw [e1] at hGe
  rw [← hGe]
  simp only [w507_K0]; rw [ck_unf w507_B0.eq_1]
  have e3 : G.length = n.ch.length := by omega
  simp (disch := omega) [ck_unf w507_c0.eq_1, h3, e2, e3]
 | succ m ihm =>
  intro i hi G hG hGe
  have h1 : i < n.ch.length := by omega
  have this := ihm (i + 1) (by omega) (G ++ [strN n.ch[i]]) (by simp [hG]) (by rw [hGe, List.take_add_one, List.getElem?_eq_getElem h1, List.map_append]; rfl)
  have hs := ih n.ch[i] (List.getElem_mem h1)
  have g1 := gr_get Nd.c G [.int .u8 0, .str [], .str [], .ro 2 [] true, .str [], .ro 6 [] true] m
  have g2 := gr_set Nd.c G [.int .u8 0, .str [], .str [], .ro 2 [] true, .str [], .ro 6 [] true] m (strN n.ch[i])
  rw [hG] at g1 g2
  simp only [w507_K0] at this ⊢; rw [ck_unf w507_B0.eq_1]
  simp at this
  simp at g2
  simp (disch := omega) [h1, hs, wI64, H.inl, inlB, H.pp, ppB, g1, g2, this]
theorem copied_step (H : HasCp C) (n : Nd) (ha : n.a.length ≤ 8) (hl : n.ch.length ≤ 16) (ih : ∀ c ∈ n.ch, FnW C 507 [.agg c.c, .bool false] = some (.agg (strN c).c)) : FnW C 507 [.agg n.c, .bool false] = some (.agg (strN n).c) := by
 have h1 := cloneA_ok H n.a n.ae (by omega)
 have h2 := clipA_ok H n.a n.a.isEmpty
 have h3 := cp_loop H n hl ih n.ch.length 0 (by omega) [] rfl rfl
 rw [fnW_eq H.f507 rfl, Nd.c_eq n]
 simp only [w507_K0] at h3
 simp at h3
 have h4 : n.ch.length * 105 ≤ 35184372088832 := by omega
 simp (disch := omega) [w507, h1, h2, h3, h4, H.inl, inlB, H.pp, ppB]
theorem rcs_bd : ∀ (l : List Nd) (lv c : Nat), rcs l lv c ≤ 64 → ∀ m ∈ l, rc m lv ≤ 64
 | [], _, _, _, m, hm => by cases hm
 | n :: r, lv, c, h, m, hm => by
  rw [rcs] at h
  by_cases q : c ≤ 64
  · rw [if_pos q] at h
    have h1 := rcs_ge r lv (c + rc n lv)
    rcases List.mem_cons.1 hm with e | e
    · subst e; omega
    · exact rcs_bd r lv _ h m e
  · rw [if_neg q] at h; omega
mutual
theorem rc_up : ∀ (n : Nd) (lv : Nat), rc n lv ≤ 64 → rc n (lv + 1) = rc n lv
 | ⟨k, t, y, a, ae, x, ch, ce⟩, 0, h => by rw [rc] at h; omega
 | ⟨k, t, y, a, ae, x, ch, ce⟩, lv + 1, h => by
  rw [rc] at h ⊢
  rw [rc]
  by_cases q : alone ⟨k, t, y, a, ae, x, ch, ce⟩ = true
  · rw [if_pos q] at h
    rw [if_pos q, if_pos q]
    exact rcs_up ch lv 1 h
  · rw [if_neg q] at h; omega
theorem rcs_up : ∀ (l : List Nd) (lv c : Nat), rcs l lv c ≤ 64 → rcs l (lv + 1) c = rcs l lv c
 | [], lv, c, h => by rw [rcs, rcs]
 | n :: r, lv, c, h => by
  rw [rcs] at h ⊢
  rw [rcs]
  by_cases q : c ≤ 64
  · rw [if_pos q] at h
    rw [if_pos q, if_pos q]
    have h1 := rcs_ge r lv (c + rc n lv)
    have e := rc_up n lv (by omega)
    rw [e]
    exact rcs_up r lv _ h
  · rw [if_neg q] at h; omega
end
inductive NdV : Nd → Prop
 | mk (n : Nd) (hc : cnt n ≠ 0) (h1 : n.a.length ≤ 8) (h2 : n.ch.length ≤ 16) (h : ∀ m ∈ n.ch, NdV m) : NdV n
theorem ndv_rc : ∀ (lv : Nat), lv ≤ 6 → ∀ n : Nd, rc n lv ≤ 64 → NdV n
 | 0, _, n, h => by rw [rc_z] at h; omega
 | lv + 1, hlv, n, h => by
  have hup : ∀ j, lv + 1 + j ≤ 6 → rc n (lv + 1 + j) = rc n (lv + 1) := by
   intro j
   induction j with
   | zero => intro _; rfl
   | succ j ih =>
    intro hj
    have := ih (by omega)
    rw [← Nat.add_assoc, rc_up n _ (by omega)]
    exact this
  have h6 := hup (5 - lv) (by omega)
  have e6 : lv + 1 + (5 - lv) = 6 := by omega
  rw [e6] at h6
  have hge := rc_ge n (lv + 1)
  have hc : cnt n ≠ 0 := by rw [cnt_rc, h6, if_neg (by omega)]; omega
  rw [rc_s] at h
  by_cases q : alone n = true
  · rw [if_pos q] at h
    have hb := rcs_bd _ _ _ h
    have hq : n.a.length ≤ 8 ∧ n.ch.length ≤ 16 := by
     unfold alone at q
     by_cases d : n.k = 2
     · rw [if_pos d] at q; simp at q; obtain ⟨⟨_, q1⟩, q2⟩ := q; rw [q1, q2]; simp
     · rw [if_neg d] at q; simp at q; exact ⟨q.1.1.1.2, q.1.1.2⟩
    exact .mk n hc hq.1 hq.2 fun m hm => ndv_rc lv (by omega) m (hb m hm)
  · rw [if_neg q] at h; omega
theorem ndv_of {n : Nd} (h : cnt n ≠ 0) : NdV n := by
 refine ndv_rc 6 (by omega) n ?_
 rw [cnt_rc] at h
 by_cases c : 64 < rc n 6
 · rw [if_pos c] at h; exact absurd rfl h
 · omega
theorem copied_ok (H : HasCp C) {n : Nd} (h : NdV n) : FnW C 507 [.agg n.c, .bool false] = some (.agg (strN n).c) := by
 induction h with
 | mk n hc h1 h2 h ih => exact copied_step H n h1 h2 ih
theorem strip_ok (H : HasCp C) {n : Nd} (h : cnt n ≠ 0) : FnW C 418 [.agg n.c] = some (.agg (strN n).c) := by
 have h1 := check_ok H.toHasM n
 have h2 := copied_ok H (ndv_of h)
 rw [if_neg h] at h1
 rw [fnW_eq H.f418 rfl]
 rw [Nd.c_eq (strN n)] at *
 simp (disch := omega) [w418, h1, h2, H.inl, inlB, H.pp, ppB]
end Go.D
end
section
set_option linter.unusedSimpArgs false
set_option linter.unusedVariables false
namespace Go.D
open Go Go.Pav Go.Pw P
set_option maxRecDepth 10000
set_option maxHeartbeats 4000000
set_option linter.unusedSimpArgs false
set_option linter.unusedVariables false
attribute [-simp] List.getElem_cons_drop
variable {C : WProg}
mutual
/-- The specification's tree without keys. -/
def rsN : Nd → Nd
 | ⟨k, t, y, a, ae, x, ch, ce⟩ => ⟨k, t, [], a, a.isEmpty, x, rsNs ch, ch.isEmpty⟩
def rsNs : List Nd → List Nd
 | [] => []
 | n :: r => rsN n :: rsNs r
end
theorem rsNs_eq : ∀ l : List Nd, rsNs l = l.map rsN
 | [] => rfl
 | n :: r => by rw [rsNs, rsNs_eq r]; rfl
theorem rsN_eq (n : Nd) : rsN n = ⟨n.k, n.t, [], n.a, n.a.isEmpty, n.x, n.ch.map rsN, n.ch.isEmpty⟩ := by cases n; rw [rsN, rsNs_eq]
mutual
theorem rsN_z : ∀ n : Nd, (rsN n).z = (strN n).z
 | ⟨k, t, y, a, ae, x, ch, ce⟩ => by
  rw [rsN, strN, Nd.z, Nd.z, rsNs_z ch]
theorem rsNs_z : ∀ l : List Nd, Nd.zs (rsNs l) = Nd.zs (strNs l)
 | [] => rfl
 | n :: r => by rw [rsNs, strNs, Nd.zs, Nd.zs, rsN_z n, rsNs_z r]
end
theorem rs_chn (H : HasCp C) (n : Nd) (hA : n.a = []) (hl : n.ch.length ≤ 16) (ih : ∀ c ∈ n.ch, FnW C 416 [.agg c.c] = some (.agg (rsN c).c)) : ∀ m i, m + i = n.ch.length → ∀ G : List Nd, G.length = i → G = (n.ch.take i).map rsN →
 w416_K0 C ⟨[(5, .int .i64 i), (3, .ptr 0 0 0), (2, .ptr 2 0 0), (1, .ptr 3 0 0)], [(0, .cells 6 [[.int .u8 n.k, .str n.t, .str [], .ro 2 [] true, .str n.x, .sl 1 6 0 G.length G.length false]] true false), (1, .cells 6 (G.map Nd.c) true true), (2, .cells 6 [[.int .u8 0, .str [], .str [], .ro 2 [] true, .str [], .ro 6 [] true]] true true), (3, .cells 6 [n.c] true true)], 4⟩ = some (.agg [.int .u8 n.k, .str n.t, .str [], .ro 2 [] true, .str n.x, .ro 6 ((n.ch.map rsN).map Nd.c) false]) := by
 intro m
 induction m with
 | zero =>
  intro i hi G hG hGe
  have h3 : ¬ i < n.ch.length := by omega
  have e1 : n.ch.take i = n.ch := List.take_of_length_le (by omega)
  rw [e1] at hGe
  rw [← hGe]
  have e2 : List.take G.length (List.map Nd.c G) = List.map Nd.c G := List.take_of_length_le (by simp)
  have e3 : List.take n.a.length (List.map eA n.a) = List.map eA n.a := List.take_of_length_le (by simp)
  simp only [w416_K0]; rw [ck_unf w416_B0.eq_1]
  simp (disch := omega) [ck_unf w416_c0.eq_1, h3, e2, e3]
 | succ m ihm =>
  intro i hi G hG hGe
  have h1 : i < n.ch.length := by omega
  have this := ihm (i + 1) (by omega) (G ++ [rsN n.ch[i]]) (by simp [hG]) (by rw [hGe, List.take_add_one, List.getElem?_eq_getElem h1, List.map_append]; rfl)
  have hs := ih n.ch[i] (List.getElem_mem h1)
  have hfit : (G.length + 1) * 105 ≤ 35184372088832 := by omega
  simp only [w416_K0] at this ⊢; rw [ck_unf w416_B0.eq_1]
  simp at this
  simp (disch := omega) [h1, hs, wI64, hfit, H.inl, inlB, H.pp, ppB, this]
theorem rs_c0n (H : HasCp C) (n : Nd) (hA : n.a = []) (hl : n.ch.length ≤ 16) (ih : ∀ c ∈ n.ch, FnW C 416 [.agg c.c] = some (.agg (rsN c).c)) :
 w416_K0 C ⟨[(5, .int .i64 0), (3, .ptr 0 0 0), (2, .ptr 1 0 0), (1, .ptr 2 0 0)], [(0, .cells 6 [[.int .u8 n.k, .str n.t, .str [], .ro 2 [] true, .str n.x, .ro 6 [] true]] true true), (1, .cells 6 [[.int .u8 0, .str [], .str [], .ro 2 [] true, .str [], .ro 6 [] true]] true true), (2, .cells 6 [n.c] true true)], 3⟩ = some (.agg [.int .u8 n.k, .str n.t, .str [], .ro 2 [] true, .str n.x, .ro 6 ((n.ch.map rsN).map Nd.c) n.ch.isEmpty]) := by
 have e3 : List.take n.a.length (List.map eA n.a) = List.map eA n.a := List.take_of_length_le (by simp)
 by_cases hch : n.ch = []
 · have h3 : n.ch.length = 0 := by simp [hch]
   simp only [w416_K0]; rw [ck_unf w416_B0.eq_1]
   simp (disch := omega) [ck_unf w416_c0.eq_1, hch, e3]
 · have h1 : 0 < n.ch.length := List.length_pos_iff.2 hch
   have this := rs_chn H n hA hl ih (n.ch.length - 1) 1 (by omega) [rsN n.ch[0]] rfl (by rw [show (1 : Nat) = 0 + 1 from rfl, List.take_add_one, List.getElem?_eq_getElem h1]; simp)
   have hs := ih n.ch[0] (List.getElem_mem h1)
   have hemp : n.ch.isEmpty = false := by simp [hch]
   rw [hemp]
   simp only [w416_K0] at this ⊢; rw [ck_unf w416_B0.eq_1]
   simp at this
   simp (disch := omega) [h1, hs, wI64, H.inl, inlB, H.pp, ppB, this]
theorem rs_chs (H : HasCp C) (n : Nd) (hA : n.a.length ≤ 8) (hl : n.ch.length ≤ 16) (ih : ∀ c ∈ n.ch, FnW C 416 [.agg c.c] = some (.agg (rsN c).c)) : ∀ m i, m + i = n.ch.length → ∀ G : List Nd, G.length = i → G = (n.ch.take i).map rsN →
 w416_K0 C ⟨[(5, .int .i64 i), (3, .ptr 0 0 0), (2, .ptr 3 0 0), (1, .ptr 4 0 0)], [(0, .cells 6 [[.int .u8 n.k, .str n.t, .str [], .sl 1 2 0 n.a.length n.a.length false, .str n.x, .sl 2 6 0 G.length G.length false]] true false), (1, .cells 2 (n.a.map eA) true true), (2, .cells 6 (G.map Nd.c) true true), (3, .cells 6 [[.int .u8 0, .str [], .str [], .ro 2 [] true, .str [], .ro 6 [] true]] true true), (4, .cells 6 [n.c] true true)], 5⟩ = some (.agg [.int .u8 n.k, .str n.t, .str [], .ro 2 (n.a.map eA) false, .str n.x, .ro 6 ((n.ch.map rsN).map Nd.c) false]) := by
 intro m
 induction m with
 | zero =>
  intro i hi G hG hGe
  have h3 : ¬ i < n.ch.length := by omega
  have e1 : n.ch.take i = n.ch := List.take_of_length_le (by omega)
  rw [e1] at hGe
  rw [← hGe]
  have e2 : List.take G.length (List.map Nd.c G) = List.map Nd.c G := List.take_of_length_le (by simp)
  have e3 : List.take n.a.length (List.map eA n.a) = List.map eA n.a := List.take_of_length_le (by simp)
  simp only [w416_K0]; rw [ck_unf w416_B0.eq_1]
  simp (disch := omega) [ck_unf w416_c0.eq_1, h3, e2, e3]
 | succ m ihm =>
  intro i hi G hG hGe
  have h1 : i < n.ch.length := by omega
  have this := ihm (i + 1) (by omega) (G ++ [rsN n.ch[i]]) (by simp [hG]) (by rw [hGe, List.take_add_one, List.getElem?_eq_getElem h1, List.map_append]; rfl)
  have hs := ih n.ch[i] (List.getElem_mem h1)
  have hfit : (G.length + 1) * 105 ≤ 35184372088832 := by omega
  simp only [w416_K0] at this ⊢; rw [ck_unf w416_B0.eq_1]
  simp at this
  simp (disch := omega) [h1, hs, wI64, hfit, H.inl, inlB, H.pp, ppB, this]
theorem rs_c0s (H : HasCp C) (n : Nd) (hA : n.a.length ≤ 8) (hl : n.ch.length ≤ 16) (ih : ∀ c ∈ n.ch, FnW C 416 [.agg c.c] = some (.agg (rsN c).c)) :
 w416_K0 C ⟨[(5, .int .i64 0), (3, .ptr 0 0 0), (2, .ptr 2 0 0), (1, .ptr 3 0 0)], [(0, .cells 6 [[.int .u8 n.k, .str n.t, .str [], .sl 1 2 0 n.a.length n.a.length false, .str n.x, .ro 6 [] true]] true false), (1, .cells 2 (n.a.map eA) true true), (2, .cells 6 [[.int .u8 0, .str [], .str [], .ro 2 [] true, .str [], .ro 6 [] true]] true true), (3, .cells 6 [n.c] true true)], 4⟩ = some (.agg [.int .u8 n.k, .str n.t, .str [], .ro 2 (n.a.map eA) false, .str n.x, .ro 6 ((n.ch.map rsN).map Nd.c) n.ch.isEmpty]) := by
 have e3 : List.take n.a.length (List.map eA n.a) = List.map eA n.a := List.take_of_length_le (by simp)
 by_cases hch : n.ch = []
 · have h3 : n.ch.length = 0 := by simp [hch]
   simp only [w416_K0]; rw [ck_unf w416_B0.eq_1]
   simp (disch := omega) [ck_unf w416_c0.eq_1, hch, e3]
 · have h1 : 0 < n.ch.length := List.length_pos_iff.2 hch
   have this := rs_chs H n hA hl ih (n.ch.length - 1) 1 (by omega) [rsN n.ch[0]] rfl (by rw [show (1 : Nat) = 0 + 1 from rfl, List.take_add_one, List.getElem?_eq_getElem h1]; simp)
   have hs := ih n.ch[0] (List.getElem_mem h1)
   have hemp : n.ch.isEmpty = false := by simp [hch]
   rw [hemp]
   simp only [w416_K0] at this ⊢; rw [ck_unf w416_B0.eq_1]
   simp at this
   simp (disch := omega) [h1, hs, wI64, H.inl, inlB, H.pp, ppB, this]
theorem rs_at (H : HasCp C) (n : Nd) (hA : n.a.length ≤ 8) (R : AV)
 (hnext : w416_K0 C ⟨[(5, .int .i64 0), (3, .ptr 0 0 0), (2, .ptr 2 0 0), (1, .ptr 3 0 0)], [(0, .cells 6 [[.int .u8 n.k, .str n.t, .str [], .sl 1 2 0 n.a.length n.a.length false, .str n.x, .ro 6 [] true]] true false), (1, .cells 2 (n.a.map eA) true true), (2, .cells 6 [[.int .u8 0, .str [], .str [], .ro 2 [] true, .str [], .ro 6 [] true]] true true), (3, .cells 6 [n.c] true true)], 4⟩ = some R) : ∀ m i, m + i = n.a.length → ∀ G : List (Bs × Bs), G.length = i → G = n.a.take i →
 w416_K1 C ⟨[(4, .int .i64 i), (3, .ptr 0 0 0), (2, .ptr 2 0 0), (1, .ptr 3 0 0)], [(0, .cells 6 [[.int .u8 n.k, .str n.t, .str [], .sl 1 2 0 G.length G.length false, .str n.x, .ro 6 [] true]] true false), (1, .cells 2 (G.map eA) true true), (2, .cells 6 [[.int .u8 0, .str [], .str [], .ro 2 [] true, .str [], .ro 6 [] true]] true true), (3, .cells 6 [n.c] true true)], 4⟩ = some R := by
 intro m
 induction m with
 | zero =>
  intro i hi G hG hGe
  have h3 : ¬ i < n.a.length := by omega
  have e1 : n.a.take i = n.a := List.take_of_length_le (by omega)
  rw [e1] at hGe
  subst hGe
  simp only [w416_K0] at hnext
  try simp at hnext
  simp only [w416_K1]; rw [ck_unf w416_B1.eq_1]
  simp (disch := omega) [ck_unf w416_c1.eq_1, h3, hnext]
 | succ m ihm =>
  intro i hi G hG hGe
  have h1 : i < n.a.length := by omega
  have this := ihm (i + 1) (by omega) (G ++ [n.a[i]]) (by simp [hG]) (by rw [hGe, List.take_add_one, List.getElem?_eq_getElem h1]; rfl)
  have hfit : (G.length + 1) * 33 ≤ 35184372088832 := by omega
  simp only [w416_K1] at this ⊢; rw [ck_unf w416_B1.eq_1]
  simp at this
  simp (disch := omega) [h1, wI64, hfit, H.inl, inlB, H.pp, ppB, this]
theorem rs_at0 (H : HasCp C) (n : Nd) (hA : n.a.length ≤ 8) (hl : n.ch.length ≤ 16) (ih : ∀ c ∈ n.ch, FnW C 416 [.agg c.c] = some (.agg (rsN c).c)) :
 w416_K1 C ⟨[(4, .int .i64 0), (3, .ptr 0 0 0), (2, .ptr 1 0 0), (1, .ptr 2 0 0)], [(0, .cells 6 [[.int .u8 n.k, .str n.t, .str [], .ro 2 [] true, .str n.x, .ro 6 [] true]] true true), (1, .cells 6 [[.int .u8 0, .str [], .str [], .ro 2 [] true, .str [], .ro 6 [] true]] true true), (2, .cells 6 [n.c] true true)], 3⟩ = some (.agg (rsN n).c) := by
 rw [Nd.c_eq (rsN n), rsN_eq]
 by_cases ha : n.a = []
 · have h3 : n.a.length = 0 := by simp [ha]
   have k := rs_c0n H n ha hl ih
   simp only [w416_K0] at k
   try simp at k
   simp only [w416_K1]; rw [ck_unf w416_B1.eq_1]
   simp (disch := omega) [ck_unf w416_c1.eq_1, ha, k]
 · have h1 : 0 < n.a.length := List.length_pos_iff.2 ha
   have this := rs_at H n hA _ (rs_c0s H n hA hl ih) (n.a.length - 1) 1 (by omega) [n.a[0]] rfl (by rw [show (1 : Nat) = 0 + 1 from rfl, List.take_add_one, List.getElem?_eq_getElem h1]; simp)
   have hemp : n.a.isEmpty = false := by simp [ha]
   rw [hemp]
   simp only [w416_K1] at this ⊢; rw [ck_unf w416_B1.eq_1]
   simp at this
   simp (disch := omega) [h1, wI64, H.inl, inlB, H.pp, ppB, this]
theorem rstrip_step (H : HasCp C) (n : Nd) (hc : cnt n ≠ 0) (hA : n.a.length ≤ 8) (hl : n.ch.length ≤ 16) (ih : ∀ c ∈ n.ch, FnW C 416 [.agg c.c] = some (.agg (rsN c).c)) : FnW C 416 [.agg n.c] = some (.agg (rsN n).c) := by
 have h1 := rCheck_ok H.toHasR n
 rw [if_neg hc] at h1
 have k := rs_at0 H n hA hl ih
 simp only [w416_K1] at k
 try simp at k
 rw [fnW_eq H.f416 rfl]
 simp (disch := omega) [w416, h1, k, H.inl, inlB, H.pp, ppB]
theorem rstrip_ok (H : HasCp C) {n : Nd} (h : cnt n ≠ 0) : FnW C 416 [.agg n.c] = some (.agg (rsN n).c) := by
 have hv := ndv_of h
 clear h
 induction hv with
 | mk n hc h1 h2 h ih => exact rstrip_step H n hc h1 h2 ih
end Go.D
end
section
set_option linter.unusedSimpArgs false
set_option linter.unusedVariables false
namespace Go.D
open Go Go.Pav Go.Pw P
set_option maxRecDepth 10000
set_option maxHeartbeats 4000000
set_option linter.unusedSimpArgs false
set_option linter.unusedVariables false
attribute [-simp] List.getElem_cons_drop
variable {C : WProg}
end Go.D
end
section
set_option linter.unusedSimpArgs false
set_option linter.unusedVariables false
namespace Go.D
open Go Go.Pav Go.Pw P
set_option maxRecDepth 10000
set_option maxHeartbeats 4000000
set_option linter.unusedSimpArgs false
set_option linter.unusedVariables false
attribute [-simp] List.getElem_cons_drop
variable {C : WProg}
end Go.D
end
section
set_option linter.unusedSimpArgs false
set_option linter.unusedVariables false
namespace Go.D
open Go Go.Pav Go.Pw P
set_option maxRecDepth 10000
set_option maxHeartbeats 4000000
set_option linter.unusedSimpArgs false
set_option linter.unusedVariables false
attribute [-simp] List.getElem_cons_drop
variable {C : WProg}
end Go.D
end
section
set_option linter.unusedSimpArgs false
set_option linter.unusedVariables false
namespace Go.D
open Go Go.Pav Go.Pw P
set_option maxRecDepth 10000
set_option maxHeartbeats 4000000
set_option linter.unusedSimpArgs false
set_option linter.unusedVariables false
attribute [-simp] List.getElem_cons_drop
variable {C : WProg}
@[simp] theorem oldRefs_zero : ∀ h : WHeap, oldRefs 0 h = []
 | [] => rfl
 | (b, o) :: r => by rw [oldRefs, if_neg (by omega), oldRefs_zero r]
@[simp] theorem renOld_zero (π : Nat → Option Nat) : ∀ h : WHeap, renOld 0 π h = some []
 | [] => rfl
 | (b, o) :: r => by rw [renOld, if_neg (by omega), renOld_zero π r]
end Go.D
end
section
set_option linter.unusedSimpArgs false
set_option linter.unusedVariables false
namespace Go.D
open Go Go.Pav Go.Pw P
set_option maxRecDepth 10000
set_option maxHeartbeats 4000000
set_option linter.unusedSimpArgs false
set_option linter.unusedVariables false
attribute [-simp] List.getElem_cons_drop
variable {C : WProg}
@[simp] theorem getp (h : WHeap) (n : Nat) (o : WObj) (k : Nat) : Pav.get (Pav.put h n o) k = if n = k then some o else Pav.get h k := get_put h n o k
end Go.D
end
section
set_option linter.unusedSimpArgs false
set_option linter.unusedVariables false
namespace Go.D
open Go Go.Pav Go.Pw P
set_option maxRecDepth 10000
set_option linter.unusedSimpArgs false
set_option linter.unusedVariables false
attribute [-simp] List.getElem_cons_drop
variable {C : WProg} {α β : Type}
theorem itE_rnd {ks : List Kd} {x : It} (h : itE ks 12 x false = 0) : itOk ks.length x = true ∧ rndE (kdAt ks x.t).p x 12 = 0 := by
 unfold itE at h
 cases c : itOk ks.length x
 · rw [c] at h; simp at h
 · rw [c] at h
   by_cases d : rndE (kdAt ks x.t).p x 12 = 0
   · exact ⟨rfl, d⟩
   · simp [d] at h
end Go.D
end
section
set_option linter.unusedSimpArgs false
set_option linter.unusedVariables false
end
section
set_option linter.unusedSimpArgs false
set_option linter.unusedVariables false
namespace Go.D
open Go Go.Pav Go.Pw P
set_option maxRecDepth 10000
set_option maxHeartbeats 4000000
set_option linter.unusedSimpArgs false
set_option linter.unusedVariables false
attribute [-simp] List.getElem_cons_drop
variable {C : WProg}
end Go.D
end
section
set_option linter.unusedSimpArgs false
set_option linter.unusedVariables false
namespace Go.D
open Go Go.Pav Go.Pw P
set_option maxRecDepth 10000
set_option maxHeartbeats 4000000
set_option linter.unusedSimpArgs false
set_option linter.unusedVariables false
attribute [-simp] List.getElem_cons_drop
variable {C : WProg}
end Go.D
end
section
set_option linter.unusedSimpArgs false
set_option linter.unusedVariables false
namespace Go.D
open Go Go.Pav Go.Pw P
set_option maxRecDepth 10000
set_option maxHeartbeats 4000000
set_option linter.unusedSimpArgs false
set_option linter.unusedVariables false
attribute [-simp] List.getElem_cons_drop
variable {C : WProg}
end Go.D
end
section
set_option linter.unusedSimpArgs false
set_option linter.unusedVariables false
namespace Go.D
open Go Go.Pav Go.Pw P
set_option maxRecDepth 10000
set_option maxHeartbeats 4000000
set_option linter.unusedSimpArgs false
set_option linter.unusedVariables false
attribute [-simp] List.getElem_cons_drop
variable {C : WProg}
structure HasRo (C : WProg) : Prop extends HasCp C where
 f263 : C.fns.get 263 = some w263
 f417 : C.fns.get 417 = some w417
 f261 : C.fns.get 261 = some w261
structure LG (r : Int) (l : List En) : Prop where
 hr : 0 ≤ r ∧ r ≤ 255
 hl : l.length ≤ 12
 z : Szd l
 en : ∀ x ∈ l, EnIn x
 ck : ckE (kindsOf r) 12 l = 0
 ck1 : ∀ x ∈ l, ckE (kindsOf r) 12 [x] = 0
 t : ∀ x ∈ l, 0 ≤ x.i.t ∧ x.i.t < (kindsOf r).length
 rE : ∀ x ∈ l, rndE (kdAt (kindsOf r) x.i.t).p x.i 12 = 0
def trP (ks : List Kd) (x : En) : Nd := strN (rndN (kdAt ks x.i.t).p x.i 12)
def trR (ks : List Kd) (x : En) : Nd := rsN (rndR (kdAt ks x.i.t).p x.i 12)
theorem fits_kd {ks : List Kd} (h : RuIn ks) {t : Int} (h0 : 0 ≤ t ∧ t < ks.length) : FitsAll (kdAt ks t).p := by
 obtain ⟨n, rfl⟩ : ∃ n : Nat, t = n := ⟨t.toNat, by omega⟩
 rw [kdAt_get (by omega : n < ks.length)]
 exact h.f _ (List.getElem_mem _)
theorem cnt_rnd {p : Pt} {x : It} (h : rndE p x 12 = 0) : cnt (rndN p x 12) ≠ 0 := by
 unfold rndN
 rw [if_pos h]
 unfold rndE at h
 intro c
 rw [if_neg (by omega)] at h
 split at h
 · cases h
 · split at h
   · cases h
   · rw [if_pos (.inl c)] at h; cases h
mutual
theorem strN_z : ∀ n : Nd, strN n.z = strN n
 | ⟨k, t, y, a, ae, x, ch, ce⟩ => by rw [Nd.z, strN, strN, strNs_z ch]
theorem strNs_z : ∀ l : List Nd, strNs (Nd.zs l) = strNs l
 | [] => rfl
 | n :: r => by rw [Nd.zs, strNs, strNs, strN_z n, strNs_z r]
end
theorem tr_z (ks : List Kd) (hr : RuIn ks) (x : En) (ht : 0 ≤ x.i.t ∧ x.i.t < ks.length) : (trP ks x).z = (trR ks x).z := by
 unfold trP trR
 rw [rsN_z, ← strN_z (rndN _ _ _), rnd_z _ (fits_kd hr ht), strN_z]
mutual
theorem eqN_z : ∀ n m : Nd, n.z = m.z → eqN n m = true
 | ⟨k, t, y, a, ae, x, ch, ce⟩, ⟨k', t', y', a', ae', x', ch', ce'⟩, h => by
  rw [Nd.z, Nd.z] at h
  simp only [Nd.mk.injEq, true_and, and_true] at h
  obtain ⟨h1, h2, h3, h4, h5, h6⟩ := h
  rw [eqN, eqNs_z ch ch' h6]
  simp [h1, h2, h3, h4, h5]
theorem eqNs_z : ∀ l r : List Nd, Nd.zs l = Nd.zs r → eqNs l r = true
 | [], [], _ => by rw [eqNs]
 | n :: l, m :: r, h => by
  rw [Nd.zs, Nd.zs] at h
  simp only [List.cons.injEq] at h
  rw [eqNs, eqN_z n m h.1, eqNs_z l r h.2]; rfl
 | [], _ :: _, h => by rw [Nd.zs, Nd.zs] at h; cases h
 | _ :: _, [], h => by rw [Nd.zs, Nd.zs] at h; cases h
end
theorem ndin_str {n : Nd} (h : NdV n) : NdIn (strN n) := by
 induction h with
 | mk n hc h1 h2 h ih =>
  rw [strN_eq]
  refine .mk _ (by simp only; omega) (by simp only [List.length_map]; omega) fun m hm => ?_
  simp only [List.mem_map] at hm
  obtain ⟨q, hq, rfl⟩ := hm
  exact ih q hq
section
variable {r : Int} {l : List En} (L : LG r l)
theorem LG.trIn (L : LG r l) {x : En} (hx : x ∈ l) : NdIn (trP (kindsOf r) x) := ndin_str (ndv_of (cnt_rnd (L.rE _ hx)))
theorem LG.eqT (L : LG r l) {x : En} (hx : x ∈ l) : eqN (trP (kindsOf r) x) (trR (kindsOf r) x) = true := eqN_z _ _ (tr_z _ (ru_in r) x (L.t x hx))
theorem ptree_ok (H : HasRo C) (L : LG r l) {x : En} (hx : x ∈ l) (e : Bool) : ∃ N : Nd, FnW C 238 [aR (kindsOf r) true 12, aL [x] e, .int .i64 0] = some (.tup [.agg N.c, .int .i64 0]) ∧ FnW C 418 [.agg N.c] = some (.agg (trP (kindsOf r) x).c) := by
 have h1 : ckE (kindsOf r) 12 [x] = 0 := L.ck1 x hx
 have h2 := tree_at H.toHasTr (kindsOf r) true 12 (ru_in r) [x] e (by simp) (by intro y hy; rw [List.mem_singleton] at hy; subst hy; exact L.en _ hx) h1 0 (by simp) (L.t x hx).2
 simp only [List.getElem_cons_zero] at h2
 rw [L.rE _ hx] at h2
 exact ⟨_, h2, strip_ok H.toHasCp (cnt_rnd (L.rE _ hx))⟩
theorem rtree_ok (H : HasRo C) (L : LG r l) (f : Bool) (i : Nat) (hi : i < l.length) : ∃ N : Nd, FnW C 417 [aR (kindsOf r) true 12, .ro 6 (l.map eEn) f, .int .i64 i] = some (.agg N.c) ∧ FnW C 416 [.agg N.c] = some (.agg (trR (kindsOf r) l[i]).c) := by
 have hx := List.getElem_mem hi
 have ht := L.t _ hx
 obtain ⟨tn, htn⟩ : ∃ tn : Nat, l[i].i.t = tn := ⟨l[i].i.t.toNat, by omega⟩
 have htl : tn < (kindsOf r).length := by omega
 have hz0 := L.rE _ hx
 have h2 := rRender_ok H.toHasZ (kdAt (kindsOf r) l[i].i.t).p (fits_kd (ru_in r) ht) l[i].i (L.en _ hx).i.k 12
 have h3 := rstrip_ok H.toHasCp (n := rndR (kdAt (kindsOf r) l[i].i.t).p l[i].i 12) (by
  rw [← cnt_z, ← rnd_z _ (fits_kd (ru_in r) ht), cnt_z]; exact cnt_rnd hz0)
 refine ⟨_, ?_, h3⟩
 rw [hz0, htn, kdAt_get htl] at h2
 rw [htn, kdAt_get htl]
 generalize rndR (kindsOf r)[tn].p l[i].i 12 = N at *
 rw [Pt.c_eq, Nd.c_eq] at h2
 rw [Nd.c_eq]
 simp only [eIt, htn] at h2
 rw [fnW_eq H.f417 rfl]
 generalize kindsOf r = ks at *
 simp (disch := omega) [w417, h2, hi, htn, htl, H.inl, inlB, H.pp, ppB]
def rowP (ks : List Kd) (l : List En) (i : Nat) : Rw := match l[i]? with | some x => ⟨x.i.k, top l i, x.s, trP ks x⟩ | none => ⟨0, 0, 0, zN⟩
def rowR (ks : List Kd) (l : List En) (i : Nat) : Rw := match l[i]? with | some x => ⟨x.i.k, top l i, x.s, trR ks x⟩ | none => ⟨0, 0, 0, zN⟩
theorem rowP_get {ks : List Kd} {l : List En} {i : Nat} (h : i < l.length) : rowP ks l i = ⟨l[i].i.k, top l i, l[i].s, trP ks l[i]⟩ := by unfold rowP; rw [List.getElem?_eq_getElem h]
theorem rowR_get {ks : List Kd} {l : List En} {i : Nat} (h : i < l.length) : rowR ks l i = ⟨l[i].i.k, top l i, l[i].s, trR ks l[i]⟩ := by unfold rowR; rw [List.getElem?_eq_getElem h]
theorem row_ok (H : HasRo C) (L : LG r l) (f : Bool) (i : Nat) (hi : i < l.length) : FnW C 261 [aR (kindsOf r) true 12, .ro 6 (l.map eEn) f, .int .i64 i] = some (.agg (eRw (rowR (kindsOf r) l i))) := by
 obtain ⟨N, h1, h2⟩ := rtree_ok H L f i hi
 have h3 := rtop_ok H.toHasSz l f L.z i (by omega)
 rw [rowR_get hi]
 generalize trR (kindsOf r) l[i] = T at *
 rw [Nd.c_eq] at h1 h2
 rw [Nd.c_eq] at h2
 simp only [aR] at h1
 rw [fnW_eq H.f261 rfl]
 generalize kindsOf r = ks at *
 simp (disch := omega) [w261, h1, h2, h3, hi, H.inl, inlB, H.pp, ppB]
def rowsP (ks : List Kd) (l : List En) (a n : Nat) : List Rw := (List.range n).map fun k => rowP ks l (a + k)
theorem rowsP_succ (ks : List Kd) (l : List En) (a n : Nat) : rowsP ks l a (n + 1) = rowsP ks l a n ++ [rowP ks l (a + n)] := by unfold rowsP; rw [List.range_succ, List.map_append]; rfl
theorem rowsP_len (ks : List Kd) (l : List En) (a n : Nat) : (rowsP ks l a n).length = n := by simp [rowsP]
theorem rows_loop (H : HasRo C) (L : LG r l) (f : Bool) (a n : Nat) (hab : a + n ≤ l.length) : ∀ m k, k + m = n → ∀ G : List Rw, G.length = k → G = rowsP (kindsOf r) l a k →
 w263_K0 C ⟨[(31, .int .i64 k), (30, .int .i64 n), (11, .sl 0 9 0 n n true), (9, .ro 1 ((tps l).map eI) true), (5, .ptr 1 0 0), (4, .ptr 2 0 0), (2, .int .i64 a)],
  [(0, .cells 9 (G.map eRw ++ List.replicate m [.int .u64 0, .int .i64 0, .int .i64 0, .int .u8 0, .str [], .str [], .ro 2 [] true, .str [], .ro 6 [] true]) true true), (1, .cells 1 [[.ro 6 (l.map eEn) f]] true true), (2, .cells 2 [[.ro 9 ((kindsOf r).map eKd) true, .int .i64 12]] true true)], 3⟩
  = some (.ro 9 ((rowsP (kindsOf r) l a n).map eRw) true) := by
 have hl := L.hl
 intro m
 induction m with
 | zero =>
  intro k hk G hG hGe
  have h3 : ¬ k < n := by omega
  have e : k = n := by omega
  subst e
  rw [← hGe]
  have e2 : List.take k (List.map eRw G) = List.map eRw G := List.take_of_length_le (by simp; omega)
  simp only [w263_K0]; rw [ck_unf w263_B0.eq_1]
  simp (disch := omega) [ck_unf w263_c0.eq_1, e2, hG]
 | succ m ihm =>
  intro k hk G hG hGe
  have h1 : k < n := by omega
  have hi : a + k < l.length := by omega
  have this := ihm (k + 1) (by omega) (G ++ [rowP (kindsOf r) l (a + k)]) (by simp [hG]) (by rw [hGe, rowsP_succ])
  obtain ⟨N, t1, t2⟩ := ptree_ok H L (List.getElem_mem hi) true
  have g1 := gr_get eRw G [.int .u64 0, .int .i64 0, .int .i64 0, .int .u8 0, .str [], .str [], .ro 2 [] true, .str [], .ro 6 [] true] m
  have g2 := gr_set eRw G [.int .u64 0, .int .i64 0, .int .i64 0, .int .u8 0, .str [], .str [], .ro 2 [] true, .str [], .ro 6 [] true] m (rowP (kindsOf r) l (a + k))
  have hz := L.z
  have htp := hz.small (a + k)
  have tp : (tps l)[a + k]? = some (top l (a + k)) := by
   have h : a + k < (tps l).length := by rw [tps_len]; omega
   rw [List.getElem?_eq_getElem h, tps_get]
  rw [hG] at g1 g2
  rw [rowP_get hi] at g2 this
  generalize trP (kindsOf r) l[a + k] = T at *
  rw [Nd.c_eq] at t1 t2
  rw [Nd.c_eq] at t2
  simp only [aR, aL, List.map_cons, List.map_nil, eEn] at t1
  generalize kindsOf r = ks at *
  simp only [w263_K0] at this ⊢; rw [ck_unf w263_B0.eq_1]
  simp at this
  simp at g2 t1 g1
  simp (disch := omega) [h1, hi, tp, t1, t2, wI64, H.inl, inlB, H.pp, ppB, g1, g2, this]
theorem rows_ok (H : HasRo C) (L : LG r l) (f : Bool) (a b : Nat) (hab : a ≤ b) (hb : b ≤ l.length) :
 FnW C 263 [aR (kindsOf r) true 12, aL l f, .int .i64 a, .int .i64 b] = some (.ro 9 ((rowsP (kindsOf r) l a (b - a)).map eRw) true) := by
 have h1 := tops_ok H.toHasSz l f L.z
 have hl := L.hl
 obtain ⟨n, rfl⟩ : ∃ n, b = a + n := ⟨b - a, by omega⟩
 have e : a + n - a = n := by omega
 have ei : ((a + n : Nat) : Int) - a = n := by omega
 rw [e]
 have k := rows_loop H L f a n hb n 0 (by omega) [] rfl rfl
 generalize hQ : rowsP (kindsOf r) l a n = Q at *
 generalize kindsOf r = ks at *
 rw [fnW_eq H.f263 rfl]
 by_cases c : n = 0
 · subst c
   have hq : Q = [] := by rw [← hQ]; rfl
   subst hq
   simp (disch := omega) [w263, H.inl, inlB, H.pp, ppB]
 · have c1 : ¬ (a : Int) = a + n := by omega
   have hfit : n * 129 ≤ 35184372088832 := by omega
   simp only [w263_K0] at k
   try simp at k
   simp at ei
   simp (disch := omega) [w263, h1, c1, ei, k, hfit, wI64, H.inl, inlB, H.pp, ppB]
   done
end
end Go.D
end
section
set_option linter.unusedSimpArgs false
set_option linter.unusedVariables false
namespace Go.D
open Go Go.Pav Go.Pw P
set_option maxRecDepth 10000
set_option maxHeartbeats 4000000
set_option linter.unusedSimpArgs false
set_option linter.unusedVariables false
attribute [-simp] List.getElem_cons_drop
variable {C : WProg}
structure HasHd (C : WProg) : Prop extends HasRo C where
 f262 : C.fns.get 262 = some w262
 f149 : C.fns.get 149 = some w149
 f151 : C.fns.get 151 = some w151
 f304 : C.fns.get 304 = some w304
def stk (ks : List Kd) (l : List En) (i : Nat) : Bool := match l[i]? with | some x => (kdAt ks x.i.t).st | none => false
theorem stk_get {ks : List Kd} {l : List En} {i : Nat} (h : i < l.length) : stk ks l i = (kdAt ks l[i].i.t).st := by unfold stk; rw [List.getElem?_eq_getElem h]
def szI (l : List En) (i : Int) : Int := match l[i.toNat]? with | some x => x.s | none => 0
theorem szI_get {l : List En} {i : Nat} (h : i < l.length) : szI l i = l[i].s := by unfold szI; rw [show (i : Int).toNat = i from rfl, List.getElem?_eq_getElem h]
def hpF (ks : List Kd) (l : List En) (s : Int) : Nat → Nat → Int → Int × Int
 | 0, _, a => (a, 0)
 | n + 1, i, a => if stk ks l i = true then (if s < top l i then (a, if 0 ≤ a then imin 0 (top l i - s - szI l a) else 0) else hpF ks l s n (i + 1) i) else hpF ks l s n (i + 1) a
def hrF (ks : List Kd) (l : List En) (s : Int) : Nat → Nat → Int → Int
 | 0, _, a => a
 | n + 1, i, a => hrF ks l s n (i + 1) (if stk ks l i = true ∧ top l i ≤ s then (i : Int) else a)
def plF (ks : List Kd) (l : List En) (s z : Int) : Nat → Nat → Int
 | 0, _ => 0
 | n + 1, j => if stk ks l j = true then (if top l j - s - z < 0 then top l j - s - z else 0) else plF ks l s z n (j + 1)
def hrA (ks : List Kd) (l : List En) (s : Int) : Int := hrF ks l s l.length 0 (-1)
def plA (ks : List Kd) (l : List En) (s : Int) (h : Nat) : Int := plF ks l s (szI l h) (l.length - (h + 1)) (h + 1)
theorem hrF_stop {ks : List Kd} {l : List En} (hz : Szd l) {s : Int} : ∀ (n i : Nat) (a : Int), n + i = l.length → s < top l i → hrF ks l s n i a = a := by
 intro n
 induction n with
 | zero => intro i a _ _; rfl
 | succ n ih =>
  intro i a hi h
  have := hz.lt (i := i) (by omega)
  rw [hrF, if_neg (by omega)]
  exact ih (i + 1) a (by omega) (by omega)
theorem hrF_bd (ks : List Kd) (l : List En) (s : Int) : ∀ (n i : Nat) (a : Int), n + i = l.length → -1 ≤ a ∧ a < i → -1 ≤ hrF ks l s n i a ∧ hrF ks l s n i a < l.length := by
 intro n
 induction n with
 | zero => intro i a hi h; rw [hrF]; omega
 | succ n ih =>
  intro i a hi h
  rw [hrF]
  refine ih (i + 1) _ (by omega) ?_
  split <;> omega
theorem hpF_eq {ks : List Kd} {l : List En} (hz : Szd l) {s : Int} : ∀ (n i : Nat) (a : Int), n + i = l.length → -1 ≤ a ∧ a < i →
 (0 ≤ a → plF ks l s (szI l a) (l.length - (a.toNat + 1)) (a.toNat + 1) = plF ks l s (szI l a) n i) →
 hpF ks l s n i a = (hrF ks l s n i a, if 0 ≤ hrF ks l s n i a then plF ks l s (szI l (hrF ks l s n i a)) (l.length - ((hrF ks l s n i a).toNat + 1)) ((hrF ks l s n i a).toNat + 1) else 0) := by
 intro n
 induction n with
 | zero =>
  intro i a hi ha h
  rw [hpF, hrF]
  by_cases c : 0 ≤ a
  · rw [if_pos c, h c, plF]
  · rw [if_neg c]
 | succ n ih =>
  intro i a hi ha h
  rw [hpF, hrF]
  by_cases c : stk ks l i = true
  · rw [if_pos c]
    by_cases d : s < top l i
    · have hc : ¬ (stk ks l i = true ∧ top l i ≤ s) := by rintro ⟨_, q⟩; omega
      rw [if_pos d, if_neg hc, hrF_stop hz n (i + 1) a (by omega) (by have := hz.lt (i := i) (by omega); omega)]
      by_cases e : 0 ≤ a
      · rw [if_pos e, if_pos e, h e, plF, if_pos c]
        unfold imin
        congr 1
      · rw [if_neg e, if_neg e]
    · rw [if_neg d, if_pos ⟨c, by omega⟩]
      refine ih (i + 1) i (by omega) (by omega) fun _ => ?_
      rw [show (i : Int).toNat = i from rfl, show l.length - (i + 1) = n by omega]
  · rw [if_neg c, if_neg (by rintro ⟨q, _⟩; exact c q)]
    refine ih (i + 1) a (by omega) (by omega) fun q => ?_
    rw [h q, plF, if_neg c]
theorem head_loop (H : HasHd C) (ks : List Kd) (ke : Bool) (cap : Int) (l : List En) (e : Bool) (s : Int) (hs : 0 ≤ s ∧ s ≤ 4611686018427387904) (hz : Szd l) (ht : ∀ x ∈ l, 0 ≤ x.i.t ∧ x.i.t < ks.length) : ∀ n i, n + i = l.length → ∀ a : Int, -1 ≤ a ∧ a < i →
 w262_K0 C ⟨[(20, .int .i64 i), (19, .int .i64 l.length), (18, .ro 6 (l.map eEn) e), (8, .ro 1 ((tps l).map eI) true), (7, .int .i64 0), (6, .int .i64 a), (4, .ptr 0 0 0), (3, .ptr 1 0 0), (2, .int .i64 s)], [(0, .cells 1 [[.ro 6 (l.map eEn) e]] true true), (1, .cells 2 [[.ro 9 (ks.map eKd) ke, .int .i64 cap]] true true)], 2⟩
  = some (.tup [.int .i64 (hpF ks l s n i a).1, .int .i64 (hpF ks l s n i a).2]) := by
 intro n
 induction n with
 | zero =>
  intro i hi a ha
  have h3 : ¬ i < l.length := by omega
  simp only [w262_K0]; rw [ck_unf w262_B0.eq_1]
  simp (disch := omega) [ck_unf w262_c0.eq_1, h3, hpF]
 | succ n ih =>
  intro i hi a ha
  have h1 : i < l.length := by omega
  have hn := hz.n
  have h2 : i < (tps l).length := by rw [tps_len]; omega
  have q2 := tps_get l h2
  have hx := ht _ (List.getElem_mem h1)
  obtain ⟨t, hT⟩ : ∃ t : Nat, l[i].i.t = t := ⟨l[i].i.t.toNat, by omega⟩
  have h4 : t < ks.length := by omega
  have htp := hz.small i
  have htp0 := hz.rng i
  rw [hpF, stk_get h1]
  simp only [hT, kdAt_get h4]
  cases c2 : ks[t].st
  · have this := ih (i + 1) (by omega) a (by omega)
    rw [if_neg (by simp)]
    generalize hpF ks l s n (i + 1) a = R at *
    simp only [w262_K0] at this ⊢; rw [ck_unf w262_B0.eq_1]
    simp at this
    simp (disch := omega) [h1, h2, q2, hT, h4, c2, wI64, this]
  · rw [if_pos rfl]
    by_cases c1 : s < top l i
    · rw [if_pos c1]
      by_cases c3 : 0 ≤ a
      · obtain ⟨b, rfl⟩ : ∃ b : Nat, a = b := ⟨a.toNat, by omega⟩
        have hb : b < l.length := by omega
        have hsb := hz.s _ (List.getElem_mem hb)
        rw [if_pos c3, szI_get hb]
        simp only [w262_K0]; rw [ck_unf w262_B0.eq_1]
        simp (disch := omega) [ck_unf w262_c0.eq_1, h1, h2, q2, hT, h4, c2, c1, c3, hb, wI64]
      · rw [if_neg c3]
        simp only [w262_K0]; rw [ck_unf w262_B0.eq_1]
        simp (disch := omega) [ck_unf w262_c0.eq_1, h1, h2, q2, hT, h4, c2, c1, c3, wI64]
    · rw [if_neg c1]
      have this := ih (i + 1) (by omega) i (by omega)
      generalize hpF ks l s n (i + 1) i = R at *
      simp only [w262_K0] at this ⊢; rw [ck_unf w262_B0.eq_1]
      simp at this
      simp (disch := omega) [h1, h2, q2, c1, hT, h4, c2, wI64, this]
theorem head_ok (H : HasHd C) (ks : List Kd) (ke : Bool) (cap : Int) (l : List En) (e : Bool) (s : Int) (hs : 0 ≤ s ∧ s ≤ 4611686018427387904) (hz : Szd l) (ht : ∀ x ∈ l, 0 ≤ x.i.t ∧ x.i.t < ks.length) :
 FnW C 262 [aR ks ke cap, aL l e, .int .i64 s] = some (.tup [.int .i64 (hrA ks l s), .int .i64 (if 0 ≤ hrA ks l s then plA ks l s (hrA ks l s).toNat else 0)]) := by
 have hn := hz.n
 have h := head_loop H ks ke cap l e s hs hz ht l.length 0 (by simp) (-1) (by omega)
 rw [hpF_eq hz l.length 0 (-1) (by simp) (by omega) (by omega)] at h
 have hbd := hrF_bd ks l s l.length 0 (-1) (by simp) (by omega)
 have h1 := tops_ok H.toHasSz l e hz
 unfold plA
 change _ = some (AV.tup [.int .i64 (hrF ks l s l.length 0 (-1)), .int .i64 (if 0 ≤ hrF ks l s l.length 0 (-1) then plF ks l s (szI l ((hrF ks l s l.length 0 (-1)).toNat : Nat)) (l.length - ((hrF ks l s l.length 0 (-1)).toNat + 1)) ((hrF ks l s l.length 0 (-1)).toNat + 1) else 0)])
 have e3 : 0 ≤ hrF ks l s l.length 0 (-1) → szI l ((hrF ks l s l.length 0 (-1)).toNat : Nat) = szI l (hrF ks l s l.length 0 (-1)) := fun q => by rw [Int.toNat_of_nonneg q]
 have e4 : (if 0 ≤ hrF ks l s l.length 0 (-1) then plF ks l s (szI l ((hrF ks l s l.length 0 (-1)).toNat : Nat)) (l.length - ((hrF ks l s l.length 0 (-1)).toNat + 1)) ((hrF ks l s l.length 0 (-1)).toNat + 1) else 0) = (if 0 ≤ hrF ks l s l.length 0 (-1) then plF ks l s (szI l (hrF ks l s l.length 0 (-1))) (l.length - ((hrF ks l s l.length 0 (-1)).toNat + 1)) ((hrF ks l s l.length 0 (-1)).toNat + 1) else 0) := by
  split
  · rw [e3 ‹_›]
  · rfl
 rw [e4]
 simp only at h
 generalize (if 0 ≤ hrF ks l s l.length 0 (-1) then plF ks l s (szI l (hrF ks l s l.length 0 (-1))) (l.length - ((hrF ks l s l.length 0 (-1)).toNat + 1)) ((hrF ks l s l.length 0 (-1)).toNat + 1) else 0) = P at *
 generalize hrF ks l s l.length 0 (-1) = Q at *
 rw [fnW_eq H.f262 rfl]
 simp only [w262_K0] at h
 try simp at h
 simp [w262, h1, h, H.inl, inlB, H.pp, ppB]
theorem sticky_ok (H : HasHd C) (ks : List Kd) (ke : Bool) (cap : Int) (x : En) (ht : 0 ≤ x.i.t ∧ x.i.t < ks.length) : FnW C 304 [aR ks ke cap, .agg (eEn x)] = some (.int .i64 (if (kdAt ks x.i.t).st = true then 1 else 0)) := by
 obtain ⟨t, hT⟩ : ∃ t : Nat, x.i.t = t := ⟨x.i.t.toNat, by omega⟩
 have h4 : t < ks.length := by omega
 rw [hT, kdAt_get h4, fnW_eq H.f304 rfl]
 cases c : ks[t].st <;> simp (disch := omega) [w304, hT, h4, c, H.inl, inlB, H.pp, ppB]
theorem rhead_loop (H : HasHd C) (ks : List Kd) (ke : Bool) (cap : Int) (l : List En) (e : Bool) (s : Int) (hz : Szd l) (ht : ∀ x ∈ l, 0 ≤ x.i.t ∧ x.i.t < ks.length) : ∀ n i, n + i = l.length → ∀ a : Int,
 w149_K0 C ⟨[(8, .int .i64 i), (7, .int .i64 a), (3, .ptr 0 0 0), (2, .int .i64 s), (1, .ro 6 (l.map eEn) e)], [(0, .cells 2 [[.ro 9 (ks.map eKd) ke, .int .i64 cap]] true true)], 1⟩ = some (.int .i64 (hrF ks l s n i a)) := by
 intro n
 induction n with
 | zero =>
  intro i hi a
  have h3 : ¬ i < l.length := by omega
  simp only [w149_K0]; rw [ck_unf w149_B0.eq_1]
  simp (disch := omega) [ck_unf w149_c0.eq_1, h3, hrF]
 | succ n ih =>
  intro i hi a
  have h1 : i < l.length := by omega
  have hn := hz.n
  have hs := sticky_ok H ks ke cap l[i] (ht _ (List.getElem_mem h1))
  have htp := rtop_ok H.toHasSz l e hz i (by omega)
  rw [hrF, stk_get h1]
  simp only [aR, eEn] at hs
  cases c : (kdAt ks l[i].i.t).st
  · rw [if_neg (by simp)]
    have this := ih (i + 1) (by omega) a
    rw [c] at hs
    generalize hrF ks l s n (i + 1) a = R at *
    simp only [w149_K0] at this ⊢; rw [ck_unf w149_B0.eq_1]
    simp at this hs
    simp (disch := omega) [h1, hs, wI64, H.inl, inlB, H.pp, ppB, this]
  · rw [c] at hs
    by_cases d : top l i ≤ s
    · rw [if_pos ⟨rfl, d⟩]
      have this := ih (i + 1) (by omega) i
      generalize hrF ks l s n (i + 1) i = R at *
      simp only [w149_K0] at this ⊢; rw [ck_unf w149_B0.eq_1]
      simp at this hs
      simp (disch := omega) [h1, hs, htp, d, wI64, H.inl, inlB, H.pp, ppB, this]
    · rw [if_neg (by rintro ⟨_, q⟩; exact d q)]
      have this := ih (i + 1) (by omega) a
      generalize hrF ks l s n (i + 1) a = R at *
      simp only [w149_K0] at this ⊢; rw [ck_unf w149_B0.eq_1]
      simp at this hs
      simp (disch := omega) [h1, hs, htp, d, wI64, H.inl, inlB, H.pp, ppB, this]
theorem rhead_ok (H : HasHd C) (ks : List Kd) (ke : Bool) (cap : Int) (l : List En) (e : Bool) (s : Int) (hz : Szd l) (ht : ∀ x ∈ l, 0 ≤ x.i.t ∧ x.i.t < ks.length) : FnW C 149 [aR ks ke cap, .ro 6 (l.map eEn) e, .int .i64 s] = some (.int .i64 (hrA ks l s)) := by
 have h := rhead_loop H ks ke cap l e s hz ht l.length 0 (by simp) (-1)
 rw [fnW_eq H.f149 rfl]
 unfold hrA
 generalize hrF ks l s l.length 0 (-1) = R at *
 simp only [w149_K0] at h
 try simp at h
 simp [w149, h, H.inl, inlB, H.pp, ppB]
theorem place_loop (H : HasHd C) (ks : List Kd) (ke : Bool) (cap : Int) (l : List En) (e : Bool) (s : Int) (hs : 0 ≤ s ∧ s ≤ 4611686018427387904) (hz : Szd l) (ht : ∀ x ∈ l, 0 ≤ x.i.t ∧ x.i.t < ks.length) (h : Nat) (hh : h < l.length) : ∀ n j, n + j = l.length →
 w151_K0 C ⟨[(9, .int .i64 j), (4, .ptr 0 0 0), (3, .int .i64 h), (2, .int .i64 s), (1, .ro 6 (l.map eEn) e)], [(0, .cells 2 [[.ro 9 (ks.map eKd) ke, .int .i64 cap]] true true)], 1⟩ = some (.int .i64 (plF ks l s (szI l h) n j)) := by
 intro n
 induction n with
 | zero =>
  intro i hi
  have h3 : ¬ i < l.length := by omega
  simp only [w151_K0]; rw [ck_unf w151_B0.eq_1]
  simp (disch := omega) [ck_unf w151_c0.eq_1, h3, plF]
 | succ n ih =>
  intro i hi
  have h1 : i < l.length := by omega
  have hn := hz.n
  have hst := sticky_ok H ks ke cap l[i] (ht _ (List.getElem_mem h1))
  have htp := rtop_ok H.toHasSz l e hz i (by omega)
  have hb1 := hz.rng i
  have hb2 := hz.small i
  have hsb := hz.s _ (List.getElem_mem hh)
  rw [plF, stk_get h1]
  simp only [aR, eEn] at hst
  cases c : (kdAt ks l[i].i.t).st
  · rw [if_neg (by simp)]
    have this := ih (i + 1) (by omega)
    rw [c] at hst
    generalize plF ks l s (szI l h) n (i + 1) = R at *
    simp only [w151_K0] at this ⊢; rw [ck_unf w151_B0.eq_1]
    simp at this hst
    simp (disch := omega) [h1, hst, wI64, H.inl, inlB, H.pp, ppB, this]
  · rw [c] at hst
    rw [if_pos rfl, szI_get hh]
    by_cases d : top l i - s - l[h].s < 0
    · rw [if_pos d]
      simp only [w151_K0]; rw [ck_unf w151_B0.eq_1]
      simp at hst
      simp (disch := omega) [h1, hh, hst, htp, d, wI64, H.inl, inlB, H.pp, ppB]
    · rw [if_neg d]
      simp only [w151_K0]; rw [ck_unf w151_B0.eq_1]
      simp at hst
      simp (disch := omega) [h1, hh, hst, htp, d, wI64, H.inl, inlB, H.pp, ppB]
theorem place_ok (H : HasHd C) (ks : List Kd) (ke : Bool) (cap : Int) (l : List En) (e : Bool) (s : Int) (hs : 0 ≤ s ∧ s ≤ 4611686018427387904) (hz : Szd l) (ht : ∀ x ∈ l, 0 ≤ x.i.t ∧ x.i.t < ks.length) (h : Nat) (hh : h < l.length) :
 FnW C 151 [aR ks ke cap, .ro 6 (l.map eEn) e, .int .i64 s, .int .i64 h] = some (.int .i64 (plA ks l s h)) := by
 have hn := hz.n
 have k := place_loop H ks ke cap l e s hs hz ht h hh (l.length - (h + 1)) (h + 1) (by omega)
 rw [fnW_eq H.f151 rfl]
 unfold plA
 generalize plF ks l s (szI l h) (l.length - (h + 1)) (h + 1) = R at *
 simp only [w151_K0] at k
 try simp at k
 simp (disch := omega) [w151, k, wI64, H.inl, inlB, H.pp, ppB]
end Go.D
end
section
set_option linter.unusedSimpArgs false
set_option linter.unusedVariables false
namespace Go.D
open Go Go.Pav Go.Pw P
set_option maxRecDepth 10000
set_option maxHeartbeats 4000000
set_option linter.unusedSimpArgs false
set_option linter.unusedVariables false
attribute [-simp] List.getElem_cons_drop
variable {C : WProg}
structure HasSc (C : WProg) : Prop extends HasHd C where
 f265 : C.fns.get 265 = some w265
 f264 : C.fns.get 264 = some w264
 f125 : C.fns.get 125 = some w125
 f259 : C.fns.get 259 = some w259
 f257 : C.fns.get 257 = some w257
theorem cloneR_ok (H : HasSc C) (l : List Rw) (e : Bool) (hl : l.length ≤ 1000000) : FnW C 265 [.ro 9 (l.map eRw) e] = some (.ro 9 (l.map eRw) l.isEmpty) := by
 rw [fnW_eq H.f265 rfl]
 cases l with
 | nil => simp [w265, ck_cln]
 | cons a r =>
  simp only [List.length_cons] at hl
  have h1 : (r.length + 1) * 129 ≤ 35184372088832 := by omega
  have h2 : List.take r.length (List.map eRw r) = List.map eRw r := List.take_of_length_le (by simp)
  simp [w265, ck_cln2, clnC, isEmptyRo, h1, h2]
theorem clipR_ok (H : HasSc C) (l : List Rw) (e : Bool) : FnW C 264 [.ro 9 (l.map eRw) e] = some (.ro 9 (l.map eRw) true) := by
 have h : List.take l.length (List.map eRw l) = List.map eRw l := List.take_of_length_le (by simp)
 rw [fnW_eq H.f264 rfl]
 simp [w264, h]
def slQ (s at_ : Int) : List Rw → Nat → List Rw
 | [], _ => []
 | q :: r, i => if (i : Int) = at_ then slQ s at_ r (i + 1) else ⟨q.k, q.t - s, q.s, q.n⟩ :: slQ s at_ r (i + 1)
theorem sl_sl (H : HasSc C) (Q : List Rw) (hQ : Q.length ≤ 1024) (s at_ : Int) (hs : 0 ≤ s ∧ s ≤ 4611686018427387904) (hq : ∀ q ∈ Q, 0 ≤ q.t ∧ q.t ≤ 4611686018427387904) (a : Nat) (ha : a ≤ 1024) (p : Bool) (h : Rw) : ∀ m k, m + k = Q.length → ∀ G : List Rw, G ≠ [] → G.length ≤ k →
 w125_K0 C ⟨[(68, .int .i64 k), (67, .int .i64 Q.length), (66, .ro 9 (Q.map eRw) true), (15, .int .i64 at_), (14, .ptr 0 0 0), (11, .int .i64 a), (8, .ptr 2 0 0), (2, .int .i64 s)], [(0, .cells 12 [[.int .i64 s, .sl 1 9 0 G.length G.length false, .bool p, .int .u64 h.k, .int .i64 h.t, .int .i64 h.s, .int .u8 h.n.k, .str h.n.t, .str h.n.y, .ro 2 (h.n.a.map eA) h.n.ae, .str h.n.x, .ro 6 (h.n.ch.map Nd.c) h.n.ce]] true false), (1, .cells 9 (G.map eRw) true true), (2, .cells 12 [[.int .i64 0, .ro 9 [] true, .bool false, .int .u64 0, .int .i64 0, .int .i64 0, .int .u8 0, .str [], .str [], .ro 2 [] true, .str [], .ro 6 [] true]] true true)], 3⟩ = some (.tup [.agg (eSc ⟨s, G ++ slQ s at_ (Q.drop k) (a + k), true, p, h⟩), .int .i64 0]) := by
 intro m
 induction m with
 | zero =>
  intro k hk G hG hGl
  have h3 : ¬ k < Q.length := by omega
  have e1 : Q.drop k = [] := List.drop_eq_nil_of_le (by omega)
  rw [e1, slQ, List.append_nil]
  have e2 : List.take G.length (List.map eRw G) = List.map eRw G := List.take_of_length_le (by simp)
  have c1 := cloneR_ok H G false (by omega)
  have c2 := clipR_ok H G G.isEmpty
  simp only [w125_K0]; rw [ck_unf w125_B0.eq_1]
  simp (disch := omega) [ck_unf w125_c0.eq_1, h3, e2, c1, c2, H.inl, inlB, H.pp, ppB]
 | succ m ih =>
  intro k hk G hG hGl
  have h1 : k < Q.length := by omega
  have hb := hq _ (List.getElem_mem h1)
  have hfit : (G.length + 1) * 129 ≤ 35184372088832 := by omega
  rw [drop_cons h1, slQ]
  by_cases c : (a : Int) + k = at_
  · rw [if_pos (by omega)]
    have this := ih (k + 1) (by omega) G hG (by omega)
    rw [← Nat.add_assoc] at this
    simp only [w125_K0] at this ⊢; rw [ck_unf w125_B0.eq_1]
    simp at this
    simp (disch := omega) [h1, c, wI64, H.inl, inlB, H.pp, ppB, this]
  · rw [if_neg (by omega)]
    have this := ih (k + 1) (by omega) (G ++ [⟨Q[k].k, Q[k].t - s, Q[k].s, Q[k].n⟩]) (by simp) (by simp; omega)
    rw [← Nat.add_assoc, List.append_assoc] at this
    simp only [w125_K0] at this ⊢; rw [ck_unf w125_B0.eq_1]
    simp at this
    simp (disch := omega) [h1, c, hfit, wI64, H.inl, inlB, H.pp, ppB, this]
theorem sl_nil (H : HasSc C) (Q : List Rw) (hQ : Q.length ≤ 1024) (s at_ : Int) (hs : 0 ≤ s ∧ s ≤ 4611686018427387904) (hq : ∀ q ∈ Q, 0 ≤ q.t ∧ q.t ≤ 4611686018427387904) (a : Nat) (ha : a ≤ 1024) (p : Bool) (h : Rw) : ∀ m k, m + k = Q.length →
 w125_K0 C ⟨[(68, .int .i64 k), (67, .int .i64 Q.length), (66, .ro 9 (Q.map eRw) true), (15, .int .i64 at_), (14, .ptr 0 0 0), (11, .int .i64 a), (8, .ptr 1 0 0), (2, .int .i64 s)], [(0, .cells 12 [[.int .i64 s, .ro 9 [] true, .bool p, .int .u64 h.k, .int .i64 h.t, .int .i64 h.s, .int .u8 h.n.k, .str h.n.t, .str h.n.y, .ro 2 (h.n.a.map eA) h.n.ae, .str h.n.x, .ro 6 (h.n.ch.map Nd.c) h.n.ce]] true true), (1, .cells 12 [[.int .i64 0, .ro 9 [] true, .bool false, .int .u64 0, .int .i64 0, .int .i64 0, .int .u8 0, .str [], .str [], .ro 2 [] true, .str [], .ro 6 [] true]] true true)], 2⟩ = some (.tup [.agg (eSc ⟨s, slQ s at_ (Q.drop k) (a + k), true, p, h⟩), .int .i64 0]) := by
 intro m
 induction m with
 | zero =>
  intro k hk
  have h3 : ¬ k < Q.length := by omega
  have e1 : Q.drop k = [] := List.drop_eq_nil_of_le (by omega)
  rw [e1, slQ]
  have c1 := cloneR_ok H [] true (by simp)
  have c2 := clipR_ok H [] true
  simp at c1 c2
  simp only [w125_K0]; rw [ck_unf w125_B0.eq_1]
  simp (disch := omega) [ck_unf w125_c0.eq_1, h3, c1, c2, H.inl, inlB, H.pp, ppB]
 | succ m ih =>
  intro k hk
  have h1 : k < Q.length := by omega
  have hb := hq _ (List.getElem_mem h1)
  rw [drop_cons h1, slQ]
  by_cases c : (a : Int) + k = at_
  · rw [if_pos (by omega)]
    have this := ih (k + 1) (by omega)
    rw [← Nat.add_assoc] at this
    simp only [w125_K0] at this ⊢; rw [ck_unf w125_B0.eq_1]
    simp at this
    simp (disch := omega) [h1, c, wI64, H.inl, inlB, H.pp, ppB, this]
  · rw [if_neg (by omega)]
    have this := sl_sl H Q hQ s at_ hs hq a ha p h m (k + 1) (by omega) [⟨Q[k].k, Q[k].t - s, Q[k].s, Q[k].n⟩] (by simp) (by simp)
    rw [← Nat.add_assoc] at this
    simp only [w125_K0] at this ⊢; rw [ck_unf w125_B0.eq_1]
    simp at this
    simp (disch := omega) [h1, c, wI64, H.inl, inlB, H.pp, ppB, this]
theorem Vp.visR {l : List En} {s v : Int} (h : Vp l s v) : ∃ a b : Nat, visF l s v = a ∧ visT l s v = b ∧ a ≤ b ∧ b ≤ l.length ∧ (∀ i, i < l.length → ((top l i < s + v ∧ s < top l (i + 1)) ↔ (a ≤ i ∧ i < b))) ∧
 (0 < l.length → a < b ∧ top l a ≤ s ∧ s < top l (a + 1) ∧ (s + v ≤ top l b ∨ b = l.length)) := by
 unfold visF visT
 by_cases c : l.length = 0
 · rw [if_pos c, if_pos c]
   exact ⟨0, 0, rfl, rfl, by omega, by omega, fun i hi => by omega, fun q => by omega⟩
 · rw [if_neg c, if_neg c]
   obtain ⟨p, q, p1, q1, hpq, a, b⟩ := h.ends (by omega)
   refine ⟨p, q + 1, h.rowA_eq p1 a.1 a.2, by rw [h.rowA_eq q1 b.1 b.2]; rfl, by omega, by omega, fun i hi => ?_, fun _ => ⟨by omega, a.1, a.2, ?_⟩⟩
   · rw [h.seen p1 q1 a b hi]; omega
   · by_cases d : q + 1 = l.length
     · exact .inr d
     · left
       have := h.mono (i := q + 1) (j := l.length) (by omega) (by omega)
       rw [top_len] at this
       unfold imin at b
       split at b <;> omega
section
variable {r : Int} {l : List En}
theorem rowsP_t (L : LG r l) (a n : Nat) (h : a + n ≤ l.length) : ∀ q ∈ rowsP (kindsOf r) l a n, 0 ≤ q.t ∧ q.t ≤ 4611686018427387904 := by
 intro q hq
 unfold rowsP at hq
 simp only [List.mem_map, List.mem_range] at hq
 obtain ⟨k, hk, rfl⟩ := hq
 rw [rowP_get (by omega)]
 have h1 := L.z.rng (a + k)
 have h2 := L.z.t
 exact ⟨h1.1, by simp only; omega⟩
def hdR (row : Nat → Rw) (ks : List Kd) (l : List En) (s : Int) : Rw := if 0 ≤ hrA ks l s then ⟨(row (hrA ks l s).toNat).k, plA ks l s (hrA ks l s).toNat, (row (hrA ks l s).toNat).s, (row (hrA ks l s).toNat).n⟩ else ⟨0, 0, 0, zN⟩
theorem slice_ok (H : HasSc C) (L : LG r l) (f : Bool) (s v : Int) (hp : Vp l s v) (a b : Nat) (ha : visF l s v = a) (hb : visT l s v = b) (hab : a ≤ b) (hbl : b ≤ l.length) :
 FnW C 125 [aR (kindsOf r) true 12, aL l f, .int .i64 s, .int .i64 v] =
  some (.tup [.agg (eSc ⟨s, slQ s (hrA (kindsOf r) l s) (rowsP (kindsOf r) l a (b - a)) a, true, decide (0 ≤ hrA (kindsOf r) l s), hdR (rowP (kindsOf r) l) (kindsOf r) l s⟩), .int .i64 0]) := by
 have hl := L.hl
 have hv0 := hp.v0
 have hs0 : 0 ≤ s ∧ s ≤ 4611686018427387904 := by
  have h1 := hp.s0
  have h2 := hp.t
  have h3 := hp.nn
  unfold mostS at h1; split at h1 <;> omega
 have h1 := lcheck_ok H.toHasK (kindsOf r) true 12 (ru_in r) l f (by omega) L.en
 rw [L.ck] at h1
 have h2 := visible_ok H.toHasSz l f (by omega) (fun x hx => by have := (L.en x hx).s; omega) s v (by omega) (by omega)
 rw [vpE_of hp, if_neg (by simp), ha, hb] at h2
 have h3 := head_ok H.toHasHd (kindsOf r) true 12 l f s hs0 L.z L.t
 have h4 := rows_ok H.toHasRo L f a b hab hbl
 have hql := rowsP_len (kindsOf r) l a (b - a)
 have k := fun p h => sl_nil H (rowsP (kindsOf r) l a (b - a)) (by omega) s (hrA (kindsOf r) l s) hs0 (rowsP_t L a (b - a) (by omega)) a (by omega) p h (b - a) 0 (by omega)
 have hbd := hrF_bd (kindsOf r) l s l.length 0 (-1) (by simp) (by omega)
 change -1 ≤ hrA (kindsOf r) l s ∧ hrA (kindsOf r) l s < l.length at hbd
 unfold hdR
 by_cases c : 0 ≤ hrA (kindsOf r) l s
 · obtain ⟨h, hh⟩ : ∃ h : Nat, hrA (kindsOf r) l s = h := ⟨(hrA (kindsOf r) l s).toNat, by omega⟩
   have h5 := rows_ok H.toHasRo L f h (h + 1) (by omega) (by omega)
   have e5 : rowsP (kindsOf r) l h (h + 1 - h) = [rowP (kindsOf r) l h] := by rw [show h + 1 - h = 1 by omega]; rfl
   rw [e5] at h5
   rw [if_pos c] at h3 ⊢
   rw [hh] at h3 k ⊢
   have hd : decide (0 ≤ (h : Int)) = true := by simp
   rw [hd]
   rw [show (h : Int).toNat = h from rfl] at h3 ⊢
   have k := k true ⟨(rowP (kindsOf r) l h).k, plA (kindsOf r) l s h, (rowP (kindsOf r) l h).s, (rowP (kindsOf r) l h).n⟩
   generalize rowP (kindsOf r) l h = R at *
   generalize plA (kindsOf r) l s h = P at *
   generalize rowsP (kindsOf r) l a (b - a) = Q at *
   generalize kindsOf r = ks at *
   have hh1 : (h : Int) + 1 = ((h + 1 : Nat) : Int) := by omega
   rw [fnW_eq H.f125 rfl]
   simp only [w125_K0] at k
   try simp at k
   simp at h5
   simp (disch := omega) [w125, h1, h2, h3, h4, h5, k, wI64, H.inl, inlB, H.pp, ppB]
   done
 · have hm : hrA (kindsOf r) l s = -1 := by omega
   rw [if_neg c] at h3 ⊢
   rw [hm] at h3 k ⊢
   have hd : decide (0 ≤ (-1 : Int)) = false := rfl
   rw [hd]
   have k := k false ⟨0, 0, 0, zN⟩
   generalize rowsP (kindsOf r) l a (b - a) = Q at *
   generalize kindsOf r = ks at *
   rw [fnW_eq H.f125 rfl]
   simp only [w125_K0] at k
   try simp [zN] at k
   simp (disch := omega) [w125, h1, h2, h3, h4, k, zN, wI64, H.inl, inlB, H.pp, ppB]
   done
theorem full_ok2 (H : HasSc C) (L : LG r l) (f : Bool) : FnW C 259 [aR (kindsOf r) true 12, aL l f] = some (.tup [.ro 9 ((rowsP (kindsOf r) l 0 l.length).map eRw) true, .int .i64 0]) := by
 have hl := L.hl
 have h1 := lcheck_ok H.toHasK (kindsOf r) true 12 (ru_in r) l f (by omega) L.en
 rw [L.ck] at h1
 have h4 := rows_ok H.toHasRo L f 0 l.length (by omega) (by omega)
 rw [Nat.sub_zero] at h4
 generalize rowsP (kindsOf r) l 0 l.length = Q at *
 generalize kindsOf r = ks at *
 rw [fnW_eq H.f259 rfl]
 simp at h4
 simp (disch := omega) [w259, h1, h4, H.inl, inlB, H.pp, ppB]
end
end Go.D
end
section
set_option linter.unusedSimpArgs false
set_option linter.unusedVariables false
namespace Go.D
open Go Go.Pav Go.Pw P
set_option maxRecDepth 10000
set_option maxHeartbeats 4000000
set_option linter.unusedSimpArgs false
set_option linter.unusedVariables false
attribute [-simp] List.getElem_cons_drop
variable {C : WProg}
def srF (row : Nat → Rw) (l : List En) (s v at_ : Int) : Nat → Nat → List Rw
 | 0, _ => []
 | n + 1, i => if (i : Int) ≠ at_ ∧ (top l i < s + v ∧ s < top l (i + 1)) then ⟨(row i).k, (row i).t - s, (row i).s, (row i).n⟩ :: srF row l s v at_ n (i + 1) else srF row l s v at_ n (i + 1)
section
variable {r : Int} {l : List En}
theorem rsl_sl (H : HasSc C) (L : LG r l) (f : Bool) (s v : Int) (hp : Vp l s v) (hs0 : 0 ≤ s ∧ s ≤ 4611686018427387904) : ∀ m i, m + i = l.length → ∀ G : List Rw, G ≠ [] → G.length ≤ i →
 w257_K0 C ⟨[(11, .int .i64 i), (10, .int .i64 (hrA (kindsOf r) l s)), (9, .ptr 0 0 0), (8, .ptr 2 0 0), (4, .ptr 3 0 0), (3, .int .i64 v), (2, .int .i64 s), (1, .ro 6 (l.map eEn) f)], [(0, .cells 12 [[.int .i64 s, .sl 1 9 0 G.length G.length false, .bool false, .int .u64 0, .int .i64 0, .int .i64 0, .int .u8 0, .str [], .str [], .ro 2 [] true, .str [], .ro 6 [] true]] true false), (1, .cells 9 (G.map eRw) true true), (2, .cells 12 [[.int .i64 0, .ro 9 [] true, .bool false, .int .u64 0, .int .i64 0, .int .i64 0, .int .u8 0, .str [], .str [], .ro 2 [] true, .str [], .ro 6 [] true]] true true), (3, .cells 2 [[.ro 9 ((kindsOf r).map eKd) true, .int .i64 12]] true true)], 4⟩ = some (.agg (eSc ⟨s, G ++ srF (rowR (kindsOf r) l) l s v (hrA (kindsOf r) l s) m i, false, decide (0 ≤ hrA (kindsOf r) l s), hdR (rowR (kindsOf r) l) (kindsOf r) l s⟩)) := by
 have hl := L.hl
 have hn := L.z.n
 have hbd := hrF_bd (kindsOf r) l s l.length 0 (-1) (by simp) (by omega)
 change -1 ≤ hrA (kindsOf r) l s ∧ hrA (kindsOf r) l s < l.length at hbd
 intro m
 induction m with
 | zero =>
  intro i hi G hG hGl
  have h3 : ¬ i < l.length := by omega
  have e2 : List.take G.length (List.map eRw G) = List.map eRw G := List.take_of_length_le (by simp)
  rw [srF, List.append_nil, hdR]
  by_cases c : 0 ≤ hrA (kindsOf r) l s
  · obtain ⟨h, hh⟩ : ∃ h : Nat, hrA (kindsOf r) l s = h := ⟨(hrA (kindsOf r) l s).toNat, by omega⟩
    have r1 := row_ok H.toHasRo L f h (by omega)
    have r2 := place_ok H.toHasHd (kindsOf r) true 12 l f s hs0 L.z L.t h (by omega)
    rw [if_pos c]
    rw [hh] at c ⊢
    have hd : decide (0 ≤ (h : Int)) = true := by simp
    rw [hd]
    rw [show (h : Int).toNat = h from rfl]
    generalize rowR (kindsOf r) l h = R at *
    generalize plA (kindsOf r) l s h = P at *
    generalize kindsOf r = ks at *
    simp only [w257_K0]; rw [ck_unf w257_B0.eq_1]
    simp at r1
    simp (disch := omega) [ck_unf w257_c0.eq_1, h3, e2, r1, r2, H.inl, inlB, H.pp, ppB]
  · have hm : hrA (kindsOf r) l s = -1 := by omega
    rw [if_neg c]
    rw [hm]
    have hd : decide (0 ≤ (-1 : Int)) = false := rfl
    rw [hd]
    generalize kindsOf r = ks at *
    simp only [w257_K0]; rw [ck_unf w257_B0.eq_1]
    simp (disch := omega) [ck_unf w257_c0.eq_1, h3, e2, zN, H.inl, inlB, H.pp, ppB]
 | succ m ih =>
  intro i hi G hG hGl
  have h1 : i < l.length := by omega
  have hfit : (G.length + 1) * 129 ≤ 35184372088832 := by omega
  have r1 := row_ok H.toHasRo L f i h1
  have r2 := rseen_ok H.toHasSz l f s v hp i h1
  have hrt : 0 ≤ (rowR (kindsOf r) l i).t ∧ (rowR (kindsOf r) l i).t ≤ 4611686018427387904 := by
   rw [rowR_get h1]
   have q1 := L.z.rng i
   have q2 := L.z.t
   exact ⟨q1.1, by simp only; omega⟩
  rw [srF]
  by_cases c : (i : Int) = hrA (kindsOf r) l s
  · rw [if_neg (by rintro ⟨q, _⟩; exact q c)]
    have this := ih (i + 1) (by omega) G hG (by omega)
    generalize srF (rowR (kindsOf r) l) l s v (hrA (kindsOf r) l s) m (i + 1) = S at *
    generalize hdR (rowR (kindsOf r) l) (kindsOf r) l s = D at *
    rw [← c] at this ⊢
    generalize kindsOf r = ks at *
    simp only [w257_K0] at this ⊢; rw [ck_unf w257_B0.eq_1]
    simp at this
    simp (disch := omega) [h1, wI64, H.inl, inlB, H.pp, ppB, this]
  · by_cases d : top l i < s + v ∧ s < top l (i + 1)
    · rw [if_pos ⟨c, d⟩]
      rw [if_pos d] at r2
      have this := ih (i + 1) (by omega) (G ++ [⟨(rowR (kindsOf r) l i).k, (rowR (kindsOf r) l i).t - s, (rowR (kindsOf r) l i).s, (rowR (kindsOf r) l i).n⟩]) (by simp) (by simp; omega)
      rw [List.append_assoc] at this
      generalize srF (rowR (kindsOf r) l) l s v (hrA (kindsOf r) l s) m (i + 1) = S at *
      generalize hdR (rowR (kindsOf r) l) (kindsOf r) l s = D at *
      generalize rowR (kindsOf r) l i = R at *
      generalize hrA (kindsOf r) l s = A at *
      generalize kindsOf r = ks at *
      simp only [w257_K0] at this ⊢; rw [ck_unf w257_B0.eq_1]
      simp at this r1
      simp (disch := omega) [h1, c, r1, r2, hfit, wI64, H.inl, inlB, H.pp, ppB, this]
    · rw [if_neg (by rintro ⟨_, q⟩; exact d q)]
      rw [if_neg d] at r2
      have this := ih (i + 1) (by omega) G hG (by omega)
      generalize srF (rowR (kindsOf r) l) l s v (hrA (kindsOf r) l s) m (i + 1) = S at *
      generalize hdR (rowR (kindsOf r) l) (kindsOf r) l s = D at *
      generalize hrA (kindsOf r) l s = A at *
      generalize kindsOf r = ks at *
      simp only [w257_K0] at this ⊢; rw [ck_unf w257_B0.eq_1]
      simp at this
      simp (disch := omega) [h1, c, r2, wI64, H.inl, inlB, H.pp, ppB, this]
theorem rsl_nil (H : HasSc C) (L : LG r l) (f : Bool) (s v : Int) (hp : Vp l s v) (hs0 : 0 ≤ s ∧ s ≤ 4611686018427387904) : ∀ m i, m + i = l.length →
 w257_K0 C ⟨[(11, .int .i64 i), (10, .int .i64 (hrA (kindsOf r) l s)), (9, .ptr 0 0 0), (8, .ptr 1 0 0), (4, .ptr 2 0 0), (3, .int .i64 v), (2, .int .i64 s), (1, .ro 6 (l.map eEn) f)], [(0, .cells 12 [[.int .i64 s, .ro 9 [] true, .bool false, .int .u64 0, .int .i64 0, .int .i64 0, .int .u8 0, .str [], .str [], .ro 2 [] true, .str [], .ro 6 [] true]] true true), (1, .cells 12 [[.int .i64 0, .ro 9 [] true, .bool false, .int .u64 0, .int .i64 0, .int .i64 0, .int .u8 0, .str [], .str [], .ro 2 [] true, .str [], .ro 6 [] true]] true true), (2, .cells 2 [[.ro 9 ((kindsOf r).map eKd) true, .int .i64 12]] true true)], 3⟩ = some (.agg (eSc ⟨s, srF (rowR (kindsOf r) l) l s v (hrA (kindsOf r) l s) m i, (srF (rowR (kindsOf r) l) l s v (hrA (kindsOf r) l s) m i).isEmpty, decide (0 ≤ hrA (kindsOf r) l s), hdR (rowR (kindsOf r) l) (kindsOf r) l s⟩)) := by
 have hl := L.hl
 have hn := L.z.n
 have hbd := hrF_bd (kindsOf r) l s l.length 0 (-1) (by simp) (by omega)
 change -1 ≤ hrA (kindsOf r) l s ∧ hrA (kindsOf r) l s < l.length at hbd
 intro m
 induction m with
 | zero =>
  intro i hi
  have h3 : ¬ i < l.length := by omega
  rw [srF, hdR]
  by_cases c : 0 ≤ hrA (kindsOf r) l s
  · obtain ⟨h, hh⟩ : ∃ h : Nat, hrA (kindsOf r) l s = h := ⟨(hrA (kindsOf r) l s).toNat, by omega⟩
    have r1 := row_ok H.toHasRo L f h (by omega)
    have r2 := place_ok H.toHasHd (kindsOf r) true 12 l f s hs0 L.z L.t h (by omega)
    rw [if_pos c]
    rw [hh] at c ⊢
    have hd : decide (0 ≤ (h : Int)) = true := by simp
    rw [hd]
    rw [show (h : Int).toNat = h from rfl]
    generalize rowR (kindsOf r) l h = R at *
    generalize plA (kindsOf r) l s h = P at *
    generalize kindsOf r = ks at *
    simp only [w257_K0]; rw [ck_unf w257_B0.eq_1]
    simp at r1
    simp (disch := omega) [ck_unf w257_c0.eq_1, h3, r1, r2, H.inl, inlB, H.pp, ppB]
  · have hm : hrA (kindsOf r) l s = -1 := by omega
    rw [if_neg c]
    rw [hm]
    have hd : decide (0 ≤ (-1 : Int)) = false := rfl
    rw [hd]
    generalize kindsOf r = ks at *
    simp only [w257_K0]; rw [ck_unf w257_B0.eq_1]
    simp (disch := omega) [ck_unf w257_c0.eq_1, h3, zN, H.inl, inlB, H.pp, ppB]
 | succ m ih =>
  intro i hi
  have h1 : i < l.length := by omega
  have r1 := row_ok H.toHasRo L f i h1
  have r2 := rseen_ok H.toHasSz l f s v hp i h1
  have hrt : 0 ≤ (rowR (kindsOf r) l i).t ∧ (rowR (kindsOf r) l i).t ≤ 4611686018427387904 := by
   rw [rowR_get h1]
   have q1 := L.z.rng i
   have q2 := L.z.t
   exact ⟨q1.1, by simp only; omega⟩
  rw [srF]
  by_cases c : (i : Int) = hrA (kindsOf r) l s
  · rw [if_neg (by rintro ⟨q, _⟩; exact q c)]
    have this := ih (i + 1) (by omega)
    generalize srF (rowR (kindsOf r) l) l s v (hrA (kindsOf r) l s) m (i + 1) = S at *
    generalize hdR (rowR (kindsOf r) l) (kindsOf r) l s = D at *
    rw [← c] at this ⊢
    generalize kindsOf r = ks at *
    simp only [w257_K0] at this ⊢; rw [ck_unf w257_B0.eq_1]
    simp at this
    simp (disch := omega) [h1, wI64, H.inl, inlB, H.pp, ppB, this]
  · by_cases d : top l i < s + v ∧ s < top l (i + 1)
    · rw [if_pos ⟨c, d⟩]
      rw [if_pos d] at r2
      have this := rsl_sl H L f s v hp hs0 m (i + 1) (by omega) [⟨(rowR (kindsOf r) l i).k, (rowR (kindsOf r) l i).t - s, (rowR (kindsOf r) l i).s, (rowR (kindsOf r) l i).n⟩] (by simp) (by simp)
      generalize srF (rowR (kindsOf r) l) l s v (hrA (kindsOf r) l s) m (i + 1) = S at *
      generalize hdR (rowR (kindsOf r) l) (kindsOf r) l s = D at *
      generalize rowR (kindsOf r) l i = R at *
      generalize hrA (kindsOf r) l s = A at *
      generalize kindsOf r = ks at *
      simp only [w257_K0] at this ⊢; rw [ck_unf w257_B0.eq_1]
      simp at this r1
      simp (disch := omega) [h1, c, r1, r2, wI64, H.inl, inlB, H.pp, ppB, this]
    · rw [if_neg (by rintro ⟨_, q⟩; exact d q)]
      rw [if_neg d] at r2
      have this := ih (i + 1) (by omega)
      generalize srF (rowR (kindsOf r) l) l s v (hrA (kindsOf r) l s) m (i + 1) = S at *
      generalize hdR (rowR (kindsOf r) l) (kindsOf r) l s = D at *
      generalize hrA (kindsOf r) l s = A at *
      generalize kindsOf r = ks at *
      simp only [w257_K0] at this ⊢; rw [ck_unf w257_B0.eq_1]
      simp at this
      simp (disch := omega) [h1, c, r2, wI64, H.inl, inlB, H.pp, ppB, this]
end
end Go.D
end
section
set_option linter.unusedSimpArgs false
set_option linter.unusedVariables false
namespace Go.D
open Go Go.Pav Go.Pw P
set_option maxRecDepth 10000
set_option maxHeartbeats 4000000
set_option linter.unusedSimpArgs false
set_option linter.unusedVariables false
attribute [-simp] List.getElem_cons_drop
variable {C : WProg}
section
variable {r : Int} {l : List En}
theorem Vp.sb {s v : Int} (hp : Vp l s v) : 0 ≤ s ∧ s ≤ 4611686018427387904 := by
 have h1 := hp.s0
 have h0 := hp.v0
 have h2 := hp.t
 have h3 := hp.nn
 unfold mostS at h1; split at h1 <;> omega
def outP (r : Int) (l : List En) (s : Int) (a b : Nat) : Sc := ⟨s, slQ s (hrA (kindsOf r) l s) (rowsP (kindsOf r) l a (b - a)) a, true, decide (0 ≤ hrA (kindsOf r) l s), hdR (rowP (kindsOf r) l) (kindsOf r) l s⟩
def outR (r : Int) (l : List En) (s v : Int) : Sc := ⟨s, srF (rowR (kindsOf r) l) l s v (hrA (kindsOf r) l s) l.length 0, (srF (rowR (kindsOf r) l) l s v (hrA (kindsOf r) l s) l.length 0).isEmpty, decide (0 ≤ hrA (kindsOf r) l s), hdR (rowR (kindsOf r) l) (kindsOf r) l s⟩
theorem rslice_ok (H : HasSc C) (L : LG r l) (f : Bool) (s v : Int) (hp : Vp l s v) :
 FnW C 257 [aR (kindsOf r) true 12, .ro 6 (l.map eEn) f, .int .i64 s, .int .i64 v] = some (.agg (eSc (outR r l s v))) := by
 have hl := L.hl
 have h1 := rhead_ok H.toHasHd (kindsOf r) true 12 l f s L.z L.t
 have k := rsl_nil H L f s v hp hp.sb l.length 0 (by simp)
 unfold outR
 generalize srF (rowR (kindsOf r) l) l s v (hrA (kindsOf r) l s) l.length 0 = S at *
 generalize hdR (rowR (kindsOf r) l) (kindsOf r) l s = D at *
 generalize hrA (kindsOf r) l s = A at *
 generalize kindsOf r = ks at *
 rw [fnW_eq H.f257 rfl]
 simp only [w257_K0] at k
 try simp at k
 simp (disch := omega) [w257, h1, k, wI64, H.inl, inlB, H.pp, ppB]
theorem rowsP_cons (ks : List Kd) (l : List En) (i m : Nat) : rowsP ks l i (m + 1) = rowP ks l i :: rowsP ks l (i + 1) m := by
 unfold rowsP
 rw [List.range_succ_eq_map, List.map_cons, List.map_map]
 simp only [Nat.add_zero, List.cons.injEq, true_and]
 apply List.map_congr_left
 intro k _
 simp only [Function.comp]
 congr 1
 omega
theorem eqRow (L : LG r l) {i : Nat} (h : i < l.length) (t : Int) : eqRw ⟨(rowP (kindsOf r) l i).k, t, (rowP (kindsOf r) l i).s, (rowP (kindsOf r) l i).n⟩ ⟨(rowR (kindsOf r) l i).k, t, (rowR (kindsOf r) l i).s, (rowR (kindsOf r) l i).n⟩ = true := by
 rw [rowP_get h, rowR_get h]
 unfold eqRw
 simp only [L.eqT (List.getElem_mem h)]
 simp
theorem rowIn (L : LG r l) {i : Nat} (h : i < l.length) : NdIn (rowP (kindsOf r) l i).n := by
 rw [rowP_get h]; exact L.trIn (List.getElem_mem h)
theorem eqRw_rfl (a : Rw) : eqRw a a = true := by unfold eqRw; rw [eqN_z _ _ rfl]; simp
theorem eqRs_rfl : ∀ a : List Rw, eqRs a a = true
 | [] => rfl
 | x :: r => by rw [eqRs, eqRw_rfl, eqRs_rfl r]; rfl
theorem eqSc_rfl (a : Sc) : eqSc a a = true := by unfold eqSc; rw [eqRw_rfl, eqRs_rfl]; simp
theorem srF_no {row : Nat → Rw} {s v at_ : Int} {a b : Nat} (hv : ∀ i, i < l.length → ((top l i < s + v ∧ s < top l (i + 1)) ↔ (a ≤ i ∧ i < b))) : ∀ n i, n + i = l.length → b ≤ i → srF row l s v at_ n i = [] := by
 intro n
 induction n with
 | zero => intro i _ _; rfl
 | succ n ih =>
  intro i hi h
  rw [srF, if_neg (by rintro ⟨_, q⟩; have := (hv i (by omega)).1 q; omega)]
  exact ih (i + 1) (by omega) (by omega)
theorem srF_pre {row : Nat → Rw} {s v at_ : Int} {a b : Nat} (hv : ∀ i, i < l.length → ((top l i < s + v ∧ s < top l (i + 1)) ↔ (a ≤ i ∧ i < b))) (hal : a ≤ l.length) : ∀ n i, n + i = l.length → i ≤ a → srF row l s v at_ n i = srF row l s v at_ (l.length - a) a := by
 intro n
 induction n with
 | zero => intro i hi h; have : i = a := by omega
           subst this; rw [show l.length - i = 0 by omega]
 | succ n ih =>
  intro i hi h
  by_cases c : i = a
  · subst c; rw [show l.length - i = n + 1 by omega]
  · rw [srF, if_neg (by rintro ⟨_, q⟩; have := (hv i (by omega)).1 q; omega)]
    exact ih (i + 1) (by omega) (by omega)
theorem sl_eq (L : LG r l) {s v at_ : Int} {a b : Nat} (hbl : b ≤ l.length) (hv : ∀ i, i < l.length → ((top l i < s + v ∧ s < top l (i + 1)) ↔ (a ≤ i ∧ i < b))) : ∀ m i, i + m = b → a ≤ i →
 eqRs (slQ s at_ (rowsP (kindsOf r) l i m) i) (srF (rowR (kindsOf r) l) l s v at_ (l.length - i) i) = true := by
 intro m
 induction m with
 | zero =>
  intro i hi ha
  rw [srF_no hv _ i (by omega) (by omega)]
  rfl
 | succ m ih =>
  intro i hi ha
  have h1 := ih (i + 1) (by omega) (by omega)
  rw [rowsP_cons, slQ, show l.length - i = (l.length - (i + 1)) + 1 by omega, srF]
  by_cases c : (i : Int) = at_
  · rw [if_pos c, if_neg (by rintro ⟨q, _⟩; exact q c)]
    exact h1
  · rw [if_neg c, if_pos ⟨c, (hv i (by omega)).2 (by omega)⟩, eqRs, h1]
    have e : (rowP (kindsOf r) l i).t = (rowR (kindsOf r) l i).t := by rw [rowP_get (by omega), rowR_get (by omega)]
    rw [e, eqRow L (by omega)]
    rfl
theorem hrA_bd (ks : List Kd) (l : List En) (s : Int) : -1 ≤ hrA ks l s ∧ hrA ks l s < l.length := hrF_bd ks l s l.length 0 (-1) (by simp) (by omega)
theorem hd_eq (L : LG r l) (s : Int) : eqRw (hdR (rowP (kindsOf r) l) (kindsOf r) l s) (hdR (rowR (kindsOf r) l) (kindsOf r) l s) = true := by
 have hb := hrA_bd (kindsOf r) l s
 unfold hdR
 by_cases c : 0 ≤ hrA (kindsOf r) l s
 · rw [if_pos c, if_pos c]
   exact eqRow L (by omega) _
 · rw [if_neg c, if_neg c]
   exact eqRw_rfl _
theorem out_eq (L : LG r l) {s v : Int} {a b : Nat} (hab : a ≤ b) (hbl : b ≤ l.length) (hv : ∀ i, i < l.length → ((top l i < s + v ∧ s < top l (i + 1)) ↔ (a ≤ i ∧ i < b))) : eqSc (outP r l s a b) (outR r l s v) = true := by
 have h := sl_eq L (at_ := hrA (kindsOf r) l s) hbl hv (b - a) a (by omega) (by omega)
 unfold eqSc outP outR
 simp only
 rw [hd_eq L, srF_pre hv (by omega) l.length 0 (by simp) (by omega), h]
 simp
theorem ndin_z : NdIn zN := .mk _ (by simp [zN]) (by simp [zN]) (by simp [zN])
theorem slQ_in {s at_ : Int} : ∀ (Q : List Rw) (i : Nat), (∀ q ∈ Q, NdIn q.n) → (∀ q ∈ slQ s at_ Q i, NdIn q.n) ∧ (slQ s at_ Q i).length ≤ Q.length
 | [], i, h => ⟨fun q hq => by simp [slQ] at hq, by simp [slQ]⟩
 | x :: r, i, h => by
  have h1 := slQ_in (s := s) (at_ := at_) r (i + 1) fun q hq => h q (by simp [hq])
  rw [slQ]
  split
  · exact ⟨h1.1, by simp only [List.length_cons]; omega⟩
  · refine ⟨fun q hq => ?_, by simp only [List.length_cons]; omega⟩
    rcases List.mem_cons.1 hq with e | e
    · subst e; exact h x (by simp)
    · exact h1.1 q e
theorem rowsP_in (L : LG r l) (a n : Nat) (h : a + n ≤ l.length) : ∀ q ∈ rowsP (kindsOf r) l a n, NdIn q.n := by
 intro q hq
 unfold rowsP at hq
 simp only [List.mem_map, List.mem_range] at hq
 obtain ⟨k, hk, rfl⟩ := hq
 exact rowIn L (by omega)
theorem out_in (L : LG r l) (s : Int) {a b : Nat} (hab : a ≤ b) (hbl : b ≤ l.length) : ScIn (outP r l s a b) := by
 have hl := L.hl
 have h1 := slQ_in (s := s) (at_ := hrA (kindsOf r) l s) _ a (rowsP_in L a (b - a) (by omega))
 rw [rowsP_len] at h1
 have hb := hrA_bd (kindsOf r) l s
 refine ⟨by unfold outP; simp only; omega, h1.1, ?_⟩
 unfold outP hdR
 simp only
 split
 · exact rowIn L (by omega)
 · exact ndin_z
end
end Go.D
end
section
set_option linter.unusedSimpArgs false
set_option linter.unusedVariables false
namespace Go.D
open Go Go.Pav Go.Pw P
set_option maxRecDepth 10000
set_option maxHeartbeats 4000000
set_option linter.unusedSimpArgs false
set_option linter.unusedVariables false
attribute [-simp] List.getElem_cons_drop
variable {C : WProg}
section
variable {r : Int} {l : List En}
end
end Go.D
end
section
set_option linter.unusedSimpArgs false
set_option linter.unusedVariables false
namespace Go.D
open Go Go.Pav Go.Pw P
set_option maxRecDepth 10000
set_option maxHeartbeats 4000000
set_option linter.unusedSimpArgs false
set_option linter.unusedVariables false
attribute [-simp] List.getElem_cons_drop
variable {C : WProg}
end Go.D
end
section
set_option linter.unusedSimpArgs false
set_option linter.unusedVariables false
end
section
set_option linter.unusedSimpArgs false
set_option linter.unusedVariables false
namespace Go.D
open Go Go.Pav Go.Pw P
set_option maxRecDepth 10000
set_option maxHeartbeats 4000000
set_option linter.unusedSimpArgs false
set_option linter.unusedVariables false
attribute [-simp] List.getElem_cons_drop
variable {C : WProg}
structure HasL9 (C : WProg) : Prop extends HasG C where
 f2003 : C.fns.get 2003 = some w130
def LofR (ks : List Kd) (E0 E1 E2 : List (List AV)) (x : Option (AV × WHeap × Nat)) (R : List En) : Prop :=
 (R = [] ∧ x = some (.tup [aR ks true 12, .agg [.ro 6 [] true]], [(0, .cells 2 E0 true true), (1, .cells 6 E1 true true), (2, .cells 3 E2 true true), (5, .cells 1 [[.ro 6 [] true]] true true), (6, .cells 2 [[.ro 9 (ks.map eKd) true, .int .i64 12]] true true),
  (7, .cells 1 [[.ro 6 [] true]] true true), (8, .cells 2 [[.ro 9 (ks.map eKd) true, .int .i64 12]] true true)], 13)) ∨
 (R ≠ [] ∧ x = some (.tup [aR ks true 12, .agg [.sl 6 6 0 R.length R.length false]], [(0, .cells 2 E0 true true), (1, .cells 6 E1 true true), (2, .cells 3 E2 true true), (5, .cells 1 [[.sl 6 6 0 R.length R.length false]] true false), (6, .cells 6 (R.map eEn) true true),
  (7, .cells 2 [[.ro 9 (ks.map eKd) true, .int .i64 12]] true true), (8, .cells 1 [[.sl 6 6 0 R.length R.length false]] true false), (9, .cells 2 [[.ro 9 (ks.map eKd) true, .int .i64 12]] true true)], 14))
theorem lofH_sl (H : HasL9 C) (E0 E1 E2 : List (List AV)) (ks : List Kd) (hks : KsIn ks) (l : List It) (le : Bool) (hl : l.length ≤ 12) (hg : ∀ x ∈ l, Good x) (q : List Q4) (qe : Bool) (z : List Int) (ze : Bool) (hz : ∀ s ∈ z, 0 ≤ s ∧ s ≤ 255) (hzl : z.length < 9223372036854775808) (r : Int) : ∀ n i, n + i = l.length →
 ∀ G : List En, G ≠ [] → G.length ≤ i → (∀ x ∈ G, GoodE ks x) → (keysE G ++ (l.drop i).map It.k).Nodup →
 ∃ R : List En, LofR ks E0 E1 E2 (CK C 5 (fnEndW [.cell 2 2 true, .cell 3 1 true]) [.sq w130_L0, .bk 0 ⟨true, [6, 4, 3, 2], []⟩, .sq w130_c0] w130_B0 ⟨[(7, .int .i64 i), (6, .ptr 5 0 0), (5, .ro 4 (l.map cIt) le), (4, .ptr 7 0 0), (3, .ptr 8 0 0), (2, .ptr 9 0 0), (1, .ptr 10 0 0)], [(0, .cells 2 E0 true true), (1, .cells 6 E1 true true), (2, .cells 3 E2 true true), (5, .cells 1 [[.sl 6 6 0 G.length G.length false]] true false), (6, .cells 6 (G.map eEn) true true), (7, .cells 2 [[.ro 9 (ks.map eKd) true, .int .i64 12]] true true), (8, .cells 1 [[.ro 6 [] true]] true true), (9, .cells 2 [[.ro 9 [] true, .int .i64 0]] true true), (10, .cells 3 [[.ro 4 (q.map eQ) qe, .ro 1 (z.map eU8) ze, .int .u8 r]] true true)], 11⟩) R ∧ R.length ≤ 12 ∧ (∀ e ∈ R, GoodE ks e) ∧ (keysE R).Nodup := by
 intro n
 induction n with
 | zero =>
  intro i hi G hne hG hge hn
  have h1 : l.drop i = [] := List.drop_eq_nil_of_le (by omega)
  have h3 : ¬ i < l.length := by omega
  have h6 : List.take G.length (List.map eEn G) = List.map eEn G := List.take_of_length_le (by simp)
  refine ⟨G, ?_, by omega, hge, by rw [h1] at hn; simpa using hn⟩
  rw [ck_unf w130_B0.eq_1]
  simp [ck_unf w130_c0.eq_1, h3, h6, LofR, hne]
 | succ n ih =>
  intro i hi G hne hG hge hn
  have h1 : i < l.length := by omega
  have gx := hg _ (List.getElem_mem h1)
  have hii := ritem_ok H.toHasG.toHasK ks true 12 l[i] gx.it hks.r false
  have hfr := rfresh_ok H.toHasG.toHasK ks true 12 l[i] gx.it (by have := gx.t; have := hks.l; omega)
  have hbase := hks.b l[i].t gx.t.1 gx.t.2
  rw [drop_cons h1, List.map_cons] at hn
  have hfit : (G.length + 1) * 73 ≤ 35184372088832 := by omega
  simp only [aR, eIt, Bool.false_eq_true, if_false] at hii
  simp only [aR, eIt, aE, eEn, fre] at hfr
  have hE0 : 0 ≤ itE ks 12 l[i] false := by unfold itE; repeat (first | omega | split)
  by_cases c1 : itE ks 12 l[i] false = 0
  · have step : ∀ e : En, e.i = l[i] → GoodE ks e → ∃ R : List En, LofR ks E0 E1 E2 (CK C 5 (fnEndW [.cell 2 2 true, .cell 3 1 true]) [.sq w130_L0, .bk 0 ⟨true, [6, 4, 3, 2], []⟩, .sq w130_c0] w130_B0 ⟨[(7, .int .i64 ((i : Int) + 1)), (6, .ptr 5 0 0), (5, .ro 4 (l.map cIt) le), (4, .ptr 7 0 0), (3, .ptr 8 0 0), (2, .ptr 9 0 0), (1, .ptr 10 0 0)], [(0, .cells 2 E0 true true), (1, .cells 6 E1 true true), (2, .cells 3 E2 true true), (5, .cells 1 [[.sl 6 6 0 (G.length + 1) (G.length + 1) false]] true false), (6, .cells 6 (G.map eEn ++ [eEn e]) true true), (7, .cells 2 [[.ro 9 (ks.map eKd) true, .int .i64 12]] true true), (8, .cells 1 [[.ro 6 [] true]] true true), (9, .cells 2 [[.ro 9 [] true, .int .i64 0]] true true), (10, .cells 3 [[.ro 4 (q.map eQ) qe, .ro 1 (z.map eU8) ze, .int .u8 r]] true true)], 11⟩) R ∧ R.length ≤ 12 ∧ (∀ e ∈ R, GoodE ks e) ∧ (keysE R).Nodup := by
     intro e he hge2
     have := ih (i + 1) (by omega) (G ++ [e]) (by simp) (by simp; omega) (by
      intro y hy
      rcases List.mem_append.1 hy with q | q
      · exact hge y q
      · simp at q; rw [q]; exact hge2) (by simpa [keysE, he] using hn)
     simpa using this
    by_cases c2 : G.length < z.length
    · by_cases c3 : (0 : Int) < z[G.length]
      · have hzz := hz _ (List.getElem_mem c2)
        have hm : z[G.length].tmod 40 = z[G.length] % 40 := Int.tmod_eq_emod_of_nonneg hzz.1
        have hm1 : (0 : Int) ≤ z[G.length] % 40 := Int.emod_nonneg _ (by omega)
        have hm2 : z[G.length] % 40 < 40 := Int.emod_lt_of_pos _ (by omega)
        obtain ⟨R, this, hR⟩ := step ⟨l[i], 1 + z[G.length] % 40, true⟩ rfl ⟨gx, c1, by simp only; omega, .inl rfl⟩
        refine ⟨R, ?_, hR⟩
        rw [c1] at hii
        generalize z[G.length] % 40 = M at *
        rw [ck_unf w130_B0.eq_1]
        simp at this
        simp (disch := omega) [h1, c2, c3, hm, hii, hfr, hfit, wI64, wU8, H.inl, inlB, H.pp, ppB, this]
      · obtain ⟨R, this, hR⟩ := step (fre ks l[i]) rfl ⟨gx, c1, by unfold fre; simp only; omega, .inr rfl⟩
        refine ⟨R, ?_, hR⟩
        rw [c1] at hii
        simp only [fre] at this
        rw [ck_unf w130_B0.eq_1]
        simp at this
        simp (disch := omega) [h1, c2, c3, hii, hfr, hfit, wI64, wU8, H.inl, inlB, H.pp, ppB, this]
    · obtain ⟨R, this, hR⟩ := step (fre ks l[i]) rfl ⟨gx, c1, by unfold fre; simp only; omega, .inr rfl⟩
      refine ⟨R, ?_, hR⟩
      rw [c1] at hii
      simp only [fre] at this
      rw [ck_unf w130_B0.eq_1]
      simp at this
      simp (disch := omega) [h1, c2, hii, hfr, hfit, wI64, wU8, H.inl, inlB, H.pp, ppB, this]
  · have c1' : 0 < itE ks 12 l[i] false := by omega
    obtain ⟨R, this, hR⟩ := ih (i + 1) (by omega) G hne (by omega) hge (by
     refine List.Nodup.sublist ?_ hn; exact List.Sublist.append (List.Sublist.refl _) (List.sublist_cons_self _ _))
    refine ⟨R, ?_, hR⟩
    generalize itE ks 12 l[i] false = E at *
    rw [ck_unf w130_B0.eq_1]
    simp at this
    simp (disch := omega) [h1, c1', hii, wI64, H.inl, inlB, H.pp, ppB, this]
theorem lofH_nil (H : HasL9 C) (E0 E1 E2 : List (List AV)) (ks : List Kd) (hks : KsIn ks) (l : List It) (le : Bool) (hl : l.length ≤ 12) (hg : ∀ x ∈ l, Good x) (q : List Q4) (qe : Bool) (z : List Int) (ze : Bool) (hz : ∀ s ∈ z, 0 ≤ s ∧ s ≤ 255) (hzl : z.length < 9223372036854775808) (r : Int) : ∀ n i, n + i = l.length →
 (keysE [] ++ (l.drop i).map It.k).Nodup →
 ∃ R : List En, LofR ks E0 E1 E2 (CK C 5 (fnEndW [.cell 2 2 true, .cell 3 1 true]) [.sq w130_L0, .bk 0 ⟨true, [6, 4, 3, 2], []⟩, .sq w130_c0] w130_B0 ⟨[(7, .int .i64 i), (6, .ptr 5 0 0), (5, .ro 4 (l.map cIt) le), (4, .ptr 6 0 0), (3, .ptr 7 0 0), (2, .ptr 8 0 0), (1, .ptr 9 0 0)], [(0, .cells 2 E0 true true), (1, .cells 6 E1 true true), (2, .cells 3 E2 true true), (5, .cells 1 [[.ro 6 [] true]] true true), (6, .cells 2 [[.ro 9 (ks.map eKd) true, .int .i64 12]] true true), (7, .cells 1 [[.ro 6 [] true]] true true), (8, .cells 2 [[.ro 9 [] true, .int .i64 0]] true true), (9, .cells 3 [[.ro 4 (q.map eQ) qe, .ro 1 (z.map eU8) ze, .int .u8 r]] true true)], 10⟩) R ∧ R.length ≤ 12 ∧ (∀ e ∈ R, GoodE ks e) ∧ (keysE R).Nodup := by
 intro n
 induction n with
 | zero =>
  intro i hi  hn
  have h1 : l.drop i = [] := List.drop_eq_nil_of_le (by omega)
  have h3 : ¬ i < l.length := by omega
  refine ⟨[], ?_, by simp, by simp, by simp⟩
  rw [ck_unf w130_B0.eq_1]
  simp [ck_unf w130_c0.eq_1, h3, LofR]
 | succ n ih =>
  intro i hi  hn
  have h1 : i < l.length := by omega
  have gx := hg _ (List.getElem_mem h1)
  have hii := ritem_ok H.toHasG.toHasK ks true 12 l[i] gx.it hks.r false
  have hfr := rfresh_ok H.toHasG.toHasK ks true 12 l[i] gx.it (by have := gx.t; have := hks.l; omega)
  have hbase := hks.b l[i].t gx.t.1 gx.t.2
  rw [drop_cons h1, List.map_cons] at hn
  simp only [aR, eIt, Bool.false_eq_true, if_false] at hii
  simp only [aR, eIt, aE, eEn, fre] at hfr
  have hE0 : 0 ≤ itE ks 12 l[i] false := by unfold itE; repeat (first | omega | split)
  by_cases c1 : itE ks 12 l[i] false = 0
  · have step : ∀ e : En, e.i = l[i] → GoodE ks e → ∃ R : List En, LofR ks E0 E1 E2 (CK C 5 (fnEndW [.cell 2 2 true, .cell 3 1 true]) [.sq w130_L0, .bk 0 ⟨true, [6, 4, 3, 2], []⟩, .sq w130_c0] w130_B0 ⟨[(7, .int .i64 ((i : Int) + 1)), (6, .ptr 5 0 0), (5, .ro 4 (l.map cIt) le), (4, .ptr 7 0 0), (3, .ptr 8 0 0), (2, .ptr 9 0 0), (1, .ptr 10 0 0)], [(0, .cells 2 E0 true true), (1, .cells 6 E1 true true), (2, .cells 3 E2 true true), (5, .cells 1 [[.sl 6 6 0 1 1 false]] true false), (6, .cells 6 [eEn e] true true), (7, .cells 2 [[.ro 9 (ks.map eKd) true, .int .i64 12]] true true), (8, .cells 1 [[.ro 6 [] true]] true true), (9, .cells 2 [[.ro 9 [] true, .int .i64 0]] true true), (10, .cells 3 [[.ro 4 (q.map eQ) qe, .ro 1 (z.map eU8) ze, .int .u8 r]] true true)], 11⟩) R ∧ R.length ≤ 12 ∧ (∀ e ∈ R, GoodE ks e) ∧ (keysE R).Nodup := by
     intro e he hge2
     have := lofH_sl H E0 E1 E2 ks hks l le hl hg q qe z ze hz hzl r n (i + 1) (by omega) [e] (by simp) (by simp) (by simpa using hge2) (by simpa [keysE, he] using hn)
     simpa using this
    by_cases c2 : 0 < z.length
    · by_cases c3 : (0 : Int) < z[0]
      · have hzz := hz _ (List.getElem_mem c2)
        have hm : z[0].tmod 40 = z[0] % 40 := Int.tmod_eq_emod_of_nonneg hzz.1
        have hm1 : (0 : Int) ≤ z[0] % 40 := Int.emod_nonneg _ (by omega)
        have hm2 : z[0] % 40 < 40 := Int.emod_lt_of_pos _ (by omega)
        obtain ⟨R, this, hR⟩ := step ⟨l[i], 1 + z[0] % 40, true⟩ rfl ⟨gx, c1, by simp only; omega, .inl rfl⟩
        refine ⟨R, ?_, hR⟩
        rw [c1] at hii
        generalize z[0] % 40 = M at *
        rw [ck_unf w130_B0.eq_1]
        simp at this
        simp (disch := omega) [h1, c2, c3, hm, hii, hfr, wI64, wU8, H.inl, inlB, H.pp, ppB, this]
      · obtain ⟨R, this, hR⟩ := step (fre ks l[i]) rfl ⟨gx, c1, by unfold fre; simp only; omega, .inr rfl⟩
        refine ⟨R, ?_, hR⟩
        rw [c1] at hii
        simp only [fre] at this
        rw [ck_unf w130_B0.eq_1]
        simp at this
        simp (disch := omega) [h1, c2, c3, hii, hfr, wI64, wU8, H.inl, inlB, H.pp, ppB, this]
    · obtain ⟨R, this, hR⟩ := step (fre ks l[i]) rfl ⟨gx, c1, by unfold fre; simp only; omega, .inr rfl⟩
      refine ⟨R, ?_, hR⟩
      rw [c1] at hii
      simp only [fre] at this
      rw [ck_unf w130_B0.eq_1]
      simp at this
      simp (disch := omega) [h1, c2, hii, hfr, wI64, wU8, H.inl, inlB, H.pp, ppB, this]
  · have c1' : 0 < itE ks 12 l[i] false := by omega
    obtain ⟨R, this, hR⟩ := ih (i + 1) (by omega) (by
     simp only [keysE, List.map_nil, List.nil_append] at hn ⊢; exact (List.nodup_cons.1 hn).2)
    refine ⟨R, ?_, hR⟩
    generalize itE ks 12 l[i] false = E at *
    rw [ck_unf w130_B0.eq_1]
    simp at this
    simp (disch := omega) [h1, c1', hii, wI64, H.inl, inlB, H.pp, ppB, this]
theorem lofH_ok (H : HasL9 C) (hone : ∀ q : Q4, QIn q → ∃ i : It, FnW C 422 [.agg (eQ q)] = some (eIt i) ∧ Good i) (E0 E1 E2 : List (List AV)) (q : List Q4) (qe : Bool) (hq : ∀ x ∈ q, QIn x) (z : List Int) (ze : Bool) (hz : ∀ s ∈ z, 0 ≤ s ∧ s ≤ 255) (hzl : z.length < 9223372036854775808) (r : Int) (hr : 0 ≤ r ∧ r ≤ 255) :
 ∃ R : List En, LofR (kindsOf r) E0 E1 E2 (RnW C 2003 [.agg [.ro 4 (q.map eQ) qe, .ro 1 (z.map eU8) ze, .int .u8 r]] [(0, .cells 2 E0 true true), (1, .cells 6 E1 true true), (2, .cells 3 E2 true true)] 5) R ∧ R.length ≤ 12 ∧ (∀ e ∈ R, GoodE (kindsOf r) e) ∧ (keysE R).Nodup := by
 obtain ⟨I, hI, l1, l2, l3⟩ := items_ok H.toHasG hone q qe hq
 have hk := kinds_ok H.toHasG r hr
 obtain ⟨R, h, hR⟩ := lofH_nil H E0 E1 E2 (kindsOf r) (ks_in r hr) I false l1 l2 q qe z ze hz hzl r I.length 0 (by simp) (by simpa [keysE] using l3)
 refine ⟨R, ?_, hR⟩
 rw [rnW_eq (args := [.agg [.ro 4 (q.map eQ) qe, .ro 1 (z.map eU8) ze, .int .u8 r]]) H.f2003 rfl]
 generalize kindsOf r = ks at *
 simp at h
 simp [w130, hI, hk, H.inl, inlB, H.pp, ppB]
 exact h
theorem chk_all (ks : List Kd) : ∀ (l : List En) (s : List Int), chk ks 12 s l = 0 → ∀ e ∈ l, itE ks 12 e.i false = 0 ∧ hOk e.s = true ∧ (e.kn = true ∨ e.s = (kdAt ks e.i.t).b)
 | [], _, _, e, he => by cases he
 | x :: r, s, h, e, he => by
  rw [chk] at h
  by_cases c : enE ks 12 x (s.contains x.i.k) = 0
  · rw [if_neg (by simpa using c)] at h
    rcases List.mem_cons.1 he with q | q
    · subst q
      unfold enE at c
      by_cases d : itE ks 12 e.i (s.contains e.i.k) = 0
      · rw [if_neg (by simpa using d)] at c
        have hd : itE ks 12 e.i false = 0 := by
         unfold itE at d ⊢
         split at d
         · cases d
         · rename_i g
           rw [if_neg g, if_neg (by simp)]
           split at d
           · cases d
           · exact d
        by_cases g : hOk e.s = true ∧ (e.kn = true ∨ e.s = (kdAt ks e.i.t).b)
        · exact ⟨hd, g⟩
        · rw [if_neg g] at c; cases c
      · rw [if_pos d] at c; exact absurd c d
    · exact chk_all ks r _ h e q
  · rw [if_pos c] at h; exact absurd h c
end Go.D
end
section
set_option linter.unusedSimpArgs false
set_option linter.unusedVariables false
namespace Go.D
open Go Go.Pav Go.Pw P
set_option maxRecDepth 10000
set_option maxHeartbeats 4000000
set_option linter.unusedSimpArgs false
set_option linter.unusedVariables false
attribute [-simp] List.getElem_cons_drop
variable {C : WProg}
structure HasRe (C : WProg) : Prop extends HasSc C, HasL9 C where
 f612 : C.fns.get 612 = some w612
theorem chk_one (ks : List Kd) (x : En) (h1 : itE ks 12 x.i false = 0) (h2 : hOk x.s = true) (h3 : x.kn = true ∨ x.s = (kdAt ks x.i.t).b) : chk ks 12 [] [x] = 0 := by
 have : enE ks 12 x false = 0 := by
  unfold enE
  rw [h1]
  simp [h2, h3]
 rw [chk]
 simp [this, chk]
theorem LG.of_ck {r : Int} {l : List En} (hr : 0 ≤ r ∧ r ≤ 255) (hl : l.length ≤ 12) (hs : ∀ x ∈ l, EnIn x) (h : ckE (kindsOf r) 12 l = 0) : LG r l := by
 have hru := ru_ok r hr
 have h2 : chk (kindsOf r) 12 [] l = 0 ∧ ovE l = 0 := by
  unfold ckE at h
  rw [hru, if_neg (by simp), if_neg (by omega)] at h
  by_cases c : chk (kindsOf r) 12 [] l = 0
  · rw [if_neg (by simpa using c)] at h; exact ⟨c, h⟩
  · rw [if_pos c] at h; exact absurd h c
 have hall := chk_all (kindsOf r) l [] h2.1
 have hsz : Szd l := by
  refine szd_of ?_
  unfold szE
  rw [if_neg (by omega), if_neg, h2.2]
  intro q
  obtain ⟨x, hx, q⟩ := List.any_eq_true.1 q
  rw [(hall x hx).2.1] at q
  cases q
 refine ⟨hr, hl, hsz, hs, h, fun x hx => ?_, fun x hx => ?_, fun x hx => ?_⟩
 · obtain ⟨a1, a2, a3⟩ := hall x hx
   have hb := (hOk_iff x.s).1 a2
   have h3 : ovE [x] = 0 := by
    have hq : Szd [x] := ⟨by simp, fun y hy => by rw [List.mem_singleton] at hy; subst hy; exact hb, by simp only [sm]; omega⟩
    unfold ovE
    rw [hq.tot, if_neg (by simp only [sm]; omega)]
   unfold ckE
   rw [hru, if_neg (by simp), if_neg (by simp), chk_one _ x a1 a2 a3, if_neg (by simp), h3]
 · have q := itOk_t (itE_rnd (hall x hx).1).1
   have := (hs x hx).i.t
   omega
 · exact (itE_rnd (hall x hx).1).2
def noSc : Sc := ⟨0, [], true, false, ⟨0, 0, 0, zN⟩⟩
theorem full_bad (H : HasRe C) (r : Int) (hr : 0 ≤ r ∧ r ≤ 255) (l : List En) (f : Bool) (hl : l.length ≤ 12) (hs : ∀ x ∈ l, EnIn x) (h : ckE (kindsOf r) 12 l ≠ 0) :
 FnW C 259 [aR (kindsOf r) true 12, aL l f] = some (.tup [.ro 9 [] true, .int .i64 (ckE (kindsOf r) 12 l)]) := by
 have h1 := lcheck_ok H.toHasG.toHasK (kindsOf r) true 12 (ru_in r) l f (by omega) hs
 generalize ckE (kindsOf r) 12 l = B at *
 generalize kindsOf r = ks at *
 rw [fnW_eq H.f259 rfl]
 simp (disch := omega) [w259, h1, h, H.inl, inlB, H.pp, ppB]
theorem slice_bad (H : HasRe C) (r : Int) (hr : 0 ≤ r ∧ r ≤ 255) (l : List En) (f : Bool) (hl : l.length ≤ 12) (hs : ∀ x ∈ l, EnIn x) (s v : Int) (h : ckE (kindsOf r) 12 l ≠ 0) :
 FnW C 125 [aR (kindsOf r) true 12, aL l f, .int .i64 s, .int .i64 v] = some (.tup [.agg (eSc noSc), .int .i64 (ckE (kindsOf r) 12 l)]) := by
 have h1 := lcheck_ok H.toHasG.toHasK (kindsOf r) true 12 (ru_in r) l f (by omega) hs
 generalize ckE (kindsOf r) 12 l = B at *
 generalize kindsOf r = ks at *
 rw [fnW_eq H.f125 rfl]
 simp (disch := omega) [w125, h1, h, noSc, zN, H.inl, inlB, H.pp, ppB]
theorem slice_bad2 (H : HasRe C) (r : Int) (hr : 0 ≤ r ∧ r ≤ 255) (l : List En) (f : Bool) (hl : l.length ≤ 12) (hs : ∀ x ∈ l, EnIn x) (s v : Int) (hsb : -9223372036854775808 ≤ s ∧ s ≤ 9223372036854775807) (hv : -9223372036854775808 ≤ v ∧ v ≤ 9223372036854775807)
 (h : ckE (kindsOf r) 12 l = 0) (h2 : vpE l s v ≠ 0) :
 FnW C 125 [aR (kindsOf r) true 12, aL l f, .int .i64 s, .int .i64 v] = some (.tup [.agg (eSc noSc), .int .i64 (vpE l s v)]) := by
 have h1 := lcheck_ok H.toHasG.toHasK (kindsOf r) true 12 (ru_in r) l f (by omega) hs
 rw [h] at h1
 have h3 := visible_ok H.toHasSz l f (by omega) (fun x hx => (hs x hx).s) s v hsb hv
 rw [if_pos h2] at h3
 generalize vpE l s v = B at *
 generalize kindsOf r = ks at *
 rw [fnW_eq H.f125 rfl]
 simp (disch := omega) [w125, h1, h3, h2, noSc, zN, H.inl, inlB, H.pp, ppB]
structure ErS (C : WProg) (ks : List Kd) (X : List En) (f : Bool) (s v : Int) (B B2 : Int) (F : List Rw) (G W : Sc) : Prop where
 c235 : FnW C 235 [aR ks true 12, .ro 6 (X.map eEn) f] = some (.int .i64 B)
 c259 : FnW C 259 [aR ks true 12, aL X f] = some (.tup [.ro 9 (F.map eRw) true, .int .i64 B])
 nf : B ≠ 0 → F = []
 c252 : B = 0 → FnW C 252 [.ro 6 (X.map eEn) f, .int .i64 s, .int .i64 v] = some (.int .i64 B2)
 b2 : B ≠ 0 → B2 = B
 c125 : FnW C 125 [aR ks true 12, aL X f, .int .i64 s, .int .i64 v] = some (.tup [.agg (eSc G), .int .i64 B2])
 c257 : B2 = 0 → FnW C 257 [aR ks true 12, .ro 6 (X.map eEn) f, .int .i64 s, .int .i64 v] = some (.agg (eSc W))
 w0 : B2 ≠ 0 → W = noSc
 c127 : FnW C 127 [.agg (eSc G), .agg (eSc W)] = some (.int .i64 1)
theorem ers_ok (H : HasRe C) (r : Int) (hr : 0 ≤ r ∧ r ≤ 255) (l : List En) (f : Bool) (hl : l.length ≤ 12) (hs : ∀ x ∈ l, EnIn x) (s v : Int) (hsb : -9223372036854775808 ≤ s ∧ s ≤ 9223372036854775807) (hv : -9223372036854775808 ≤ v ∧ v ≤ 9223372036854775807) :
 ∃ (B B2 : Int) (F : List Rw) (G W : Sc), ErS C (kindsOf r) l f s v B B2 F G W := by
 have hno : FnW C 127 [.agg (eSc noSc), .agg (eSc noSc)] = some (.int .i64 1) := by
  have := rscsame_ok H.toHasEq noSc noSc ⟨by simp [noSc], by simp [noSc], ndin_z⟩
  rw [eqSc_rfl, if_pos rfl] at this
  exact this
 have c0 := rlcheck_ok H.toHasG.toHasK (kindsOf r) true 12 (ru_in r) l f (by omega) hs
 by_cases h : ckE (kindsOf r) 12 l = 0
 · have L := LG.of_ck hr hl hs h
   have c1 := full_ok2 H.toHasSc L f
   have c2 := rviewport_ok H.toHasSz l f (by omega) (fun x hx => (hs x hx).s) s v hsb hv
   by_cases h2 : vpE l s v = 0
   · have hp := vp_of h2
     obtain ⟨a, b, ha, hb, hab, hbl, hvi, hwn⟩ := hp.visR
     have c3 := slice_ok H.toHasSc L f s v hp a b ha hb hab hbl
     have c4 := rslice_ok H.toHasSc L f s v hp
     have c5 := rscsame_ok H.toHasEq (outP r l s a b) (outR r l s v) (out_in L s hab hbl)
     rw [out_eq L hab hbl hvi, if_pos rfl] at c5
     rw [h] at c0
     rw [h2] at c2
     exact ⟨0, 0, _, outP r l s a b, outR r l s v, c0, c1, fun q => absurd rfl q, fun _ => c2, fun q => absurd rfl q, c3, fun _ => c4, fun q => absurd rfl q, c5⟩
   · rw [h] at c0
     exact ⟨0, vpE l s v, _, noSc, noSc, c0, c1, fun q => absurd rfl q, fun _ => c2, fun q => absurd rfl q, slice_bad2 H r hr l f hl hs s v hsb hv h h2, fun q => absurd q h2, fun _ => rfl, hno⟩
 · exact ⟨_, _, [], noSc, noSc, c0, full_bad H r hr l f hl hs h, fun _ => rfl, fun q => absurd q h, fun _ => rfl, slice_bad H r hr l f hl hs s v h, fun q => absurd q h, fun _ => rfl, hno⟩
end Go.D
end
section
set_option linter.unusedSimpArgs false
set_option linter.unusedVariables false
namespace Go.D
open Go Go.Pav Go.Pw P
set_option maxRecDepth 10000
set_option maxHeartbeats 4000000
set_option linter.unusedSimpArgs false
set_option linter.unusedVariables false
attribute [-simp] List.getElem_cons_drop
variable {C : WProg}
theorem re_end (H : HasRe C) (hone : ∀ q : Q4, QIn q → ∃ i : It, FnW C 422 [.agg (eQ q)] = some (eIt i) ∧ Good i) (hlives : FnW C 128 [] = some (.bool true))
 (q : List Q4) (qe : Bool) (hq : ∀ x ∈ q, QIn x) (z : List Int) (ze : Bool) (hz : ∀ s ∈ z, 0 ≤ s ∧ s ≤ 255) (hzl : z.length < 9223372036854775808) (r : Int) (hr : 0 ≤ r ∧ r ≤ 255)
 (e : En) (he : EnIn e) (s v : Int) (hsb : -9223372036854775808 ≤ s ∧ s ≤ 9223372036854775807) (hv : -9223372036854775808 ≤ v ∧ v ≤ 9223372036854775807) :
 CK C 0 (pureFin [.tmp 6]) [] w612_c0 ⟨[(5, .ptr 0 0 0), (4, .ptr 1 0 0), (3, .ptr 2 0 0)], [(0, .cells 2 [[.int .i64 s, .int .i64 v]] true true), (1, .cells 6 [eEn e] true true), (2, .cells 3 [[.ro 4 (q.map eQ) qe, .ro 1 (z.map eU8) ze, .int .u8 r]] true true)], 3⟩ = some (.bool true) := by
 obtain ⟨R, hR, hl, hg, hn⟩ := lofH_ok H.toHasL9 hone [[.int .i64 s, .int .i64 v]] [eEn e] [[.ro 4 (q.map eQ) qe, .ro 1 (z.map eU8) ze, .int .u8 r]] q qe hq z ze hz hzl r hr
 rcases hR with ⟨rfl, hR⟩ | ⟨hne, hR⟩
 · obtain ⟨B, B2, F, G, W, E⟩ := ers_ok H r hr [] true (by simp) (by simp) s v hsb hv
   obtain ⟨k1, k2, k3, k4, k5, k6, k7, k8, k9⟩ := E
   generalize kindsOf r = ks at *
   rw [ck_unf w612_c0.eq_1]
   simp only [eEn, aR] at hR
   simp only [aL, aR, List.map_nil] at k1 k2 k4 k6 k7
   simp at k1 k2 k4 k6 k7 k9
   by_cases c : B = 0
   · have k4 := k4 c
     by_cases c2 : B2 = 0
     · have k7 := k7 c2
       simp (disch := omega) [hR, k1, k2, k4, k6, k7, k9, c, c2, hlives, wI64, H.inl, inlB, H.pp, ppB]
       done
     · have k8 := k8 c2
       subst k8
       simp [noSc, zN] at k6 k9
       simp (disch := omega) [hR, k1, k2, k4, k6, k9, c, c2, noSc, zN, hlives, wI64, H.inl, inlB, H.pp, ppB]
       done
   · have k3 := k3 c
     have k5 := k5 c
     have k8 := k8 (by rw [k5]; exact c)
     subst k3; subst k5; subst k8
     simp [noSc, zN] at k2 k6 k9
     simp (disch := omega) [hR, k1, k2, k6, k9, c, noSc, zN, hlives, wI64, H.inl, inlB, H.pp, ppB]
     done
 · have hpos : 0 < R.length := List.length_pos_iff.2 hne
   have hmid : R.length / 2 < R.length := by omega
   obtain ⟨B, B2, F, G, W, E⟩ := ers_ok H r hr (R.set (R.length / 2) e) false (by simpa using hl) (by
    intro x hx
    rcases List.mem_or_eq_of_mem_set hx with h | h
    · exact (hg x h).en
    · subst h; exact he) s v hsb hv
   obtain ⟨k1, k2, k3, k4, k5, k6, k7, k8, k9⟩ := E
   generalize kindsOf r = ks at *
   have hlen : (R.set (R.length / 2) e).length = R.length := by simp
   have hset : (R.map eEn).set (R.length / 2) [.int .u64 e.i.k, .int .u8 e.i.t, .str e.i.x, .ro 1 (e.i.m.map eS) e.i.e, .int .i64 e.s, .bool e.kn] = (R.set (R.length / 2) e).map eEn := by
    rw [List.map_set]; rfl
   have htk : List.take R.length ((R.set (R.length / 2) e).map eEn) = (R.set (R.length / 2) e).map eEn := List.take_of_length_le (by simp)
   have hq2 : (R.length : Int).tdiv 2 = ((R.length / 2 : Nat) : Int) := by
    rw [Int.tdiv_eq_ediv_of_nonneg (by omega)]; omega
   generalize R.set (R.length / 2) e = X at *
   generalize R.length / 2 = mid at *
   rw [ck_unf w612_c0.eq_1]
   simp only [eEn, aR] at hR
   simp only [aL, aR] at k1 k2 k4 k6 k7
   simp at k1 k2 k4 k6 k7 k9
   by_cases c : B = 0
   · have k4 := k4 c
     by_cases c2 : B2 = 0
     · have k7 := k7 c2
       simp (disch := omega) [hR, hpos, hmid, hlen, hset, htk, hq2, k1, k2, k4, k6, k7, k9, c, c2, hlives, wI64, H.inl, inlB, H.pp, ppB]
       done
     · have k8 := k8 c2
       subst k8
       simp [noSc, zN] at k6 k9
       simp (disch := omega) [hR, hpos, hmid, hlen, hset, htk, hq2, k1, k2, k4, k6, k9, c, c2, noSc, zN, hlives, wI64, H.inl, inlB, H.pp, ppB]
       done
   · have k3 := k3 c
     have k5 := k5 c
     have k8 := k8 (by rw [k5]; exact c)
     subst k3; subst k5; subst k8
     simp [noSc, zN] at k2 k6 k9
     simp (disch := omega) [hR, hpos, hmid, hlen, hset, htk, hq2, k1, k2, k6, k9, c, noSc, zN, hlives, wI64, H.inl, inlB, H.pp, ppB]
     done
end Go.D
end
section
set_option linter.unusedSimpArgs false
set_option linter.unusedVariables false
namespace Go.D
open Go Go.Pav Go.Pw P
set_option maxRecDepth 10000
set_option maxHeartbeats 4000000
set_option linter.unusedSimpArgs false
set_option linter.unusedVariables false
attribute [-simp] List.getElem_cons_drop
variable {C : WProg}
theorem re_loop (H : HasRe C) (hlives : FnW C 128 [] = some (.bool true)) (E2 : List (List AV)) (e : En) (hm : e.i.m.length ≤ 12) (s v : Int)
 (hnext : CK C 0 (pureFin [.tmp 6]) [] w612_c0 ⟨[(5, .ptr 0 0 0), (4, .ptr 1 0 0), (3, .ptr 2 0 0)], [(0, .cells 2 [[.int .i64 s, .int .i64 v]] true true), (1, .cells 6 [eEn e] true true), (2, .cells 3 E2 true true)], 3⟩ = some (.bool true)) : ∀ n i, n + i = e.i.m.length →
 w612_K0 C ⟨[(7, .int .i64 i), (5, .ptr 0 0 0), (4, .ptr 1 0 0), (3, .ptr 2 0 0)], [(0, .cells 2 [[.int .i64 s, .int .i64 v]] true true), (1, .cells 6 [eEn e] true true), (2, .cells 3 E2 true true)], 3⟩ = some (.bool true) := by
 intro n
 induction n with
 | zero =>
  intro i hi
  have h3 : ¬ i < e.i.m.length := by omega
  try simp at hnext
  simp only [w612_K0]; rw [ck_unf w612_B0.eq_1]
  simp (disch := omega) [h3, hnext]
 | succ n ih =>
  intro i hi
  have h1 : i < e.i.m.length := by omega
  have this := ih (i + 1) (by omega)
  by_cases c : (20 : Int) < e.i.m[i].length
  · simp only [w612_K0]; rw [ck_unf w612_B0.eq_1]
    simp (disch := omega) [h1, c, hlives, wI64, H.inl, inlB, H.pp, ppB]
  · simp only [w612_K0] at this ⊢; rw [ck_unf w612_B0.eq_1]
    simp at this
    simp (disch := omega) [h1, c, wI64, H.inl, inlB, H.pp, ppB, this]
theorem relaw_ok (H : HasRe C) (hone : ∀ q : Q4, QIn q → ∃ i : It, FnW C 422 [.agg (eQ q)] = some (eIt i) ∧ Good i) (hlives : FnW C 128 [] = some (.bool true))
 (q : List Q4) (qe : Bool) (hq : ∀ x ∈ q, QIn x) (z : List Int) (ze : Bool) (hz : ∀ s ∈ z, 0 ≤ s ∧ s ≤ 255) (hzl : z.length < 9223372036854775808) (r : Int) (hr : 0 ≤ r ∧ r ≤ 255)
 (e : En) (hk : 0 ≤ e.i.k ∧ e.i.k < 18446744073709551616) (ht : 0 ≤ e.i.t ∧ e.i.t ≤ 255) (hes : -9223372036854775808 ≤ e.s ∧ e.s ≤ 9223372036854775807)
 (s v : Int) (hsb : -9223372036854775808 ≤ s ∧ s ≤ 9223372036854775807) (hv : -9223372036854775808 ≤ v ∧ v ≤ 9223372036854775807) :
 FnW C 612 [.agg [.ro 4 (q.map eQ) qe, .ro 1 (z.map eU8) ze, .int .u8 r], .agg (eEn e), .agg [.int .i64 s, .int .i64 v]] = some (.bool true) := by
 rw [fnW_eq H.f612 rfl]
 by_cases c1 : (70 : Int) < e.i.x.length
 · simp (disch := omega) [w612, c1, hlives, wI64, H.inl, inlB, H.pp, ppB]
 · by_cases c2 : (12 : Int) < e.i.m.length
   · simp (disch := omega) [w612, c1, c2, hlives, wI64, H.inl, inlB, H.pp, ppB]
   · have k := re_loop H hlives [[.ro 4 (q.map eQ) qe, .ro 1 (z.map eU8) ze, .int .u8 r]] e (by omega) s v (re_end H hone hlives q qe hq z ze hz hzl r hr e ⟨⟨hk, ht, by omega⟩, hes⟩ s v hsb hv) e.i.m.length 0 (by simp)
     simp only [w612_K0] at k
     try simp at k
     simp (disch := omega) [w612, c1, c2, k, wI64, H.inl, inlB, H.pp, ppB]
end Go.D
end
