/- Part of the theory that the claims of this work use: E10, E11. No conditions of its own. -/
import Derived.Test.YthlmjbfkkkdkoaaGreatT5
section
set_option linter.unusedSimpArgs false
set_option linter.unusedVariables false
namespace Go.D
open Go Go.Pav Go.Pw P
set_option maxRecDepth 10000
set_option maxHeartbeats 4000000
set_option linter.unusedSimpArgs false
set_option linter.unusedVariables false
attribute [-simp] List.getElem_cons_drop
variable {C : WProg}
theorem sm_bd : ∀ (l : List En), (∀ x ∈ l, 1 ≤ x.s ∧ x.s ≤ 40) → sm l ≤ 40 * l.length
 | [], _ => by simp [sm]
 | e :: r, h => by
  have h1 := h e (by simp)
  have h2 := sm_bd r fun x hx => h x (by simp [hx])
  rw [sm]; simp only [List.length_cons]; omega
theorem szd_good {ks : List Kd} {l : List En} (hl : l.length ≤ 12) (hg : ∀ e ∈ l, GoodE ks e) : Szd l := by
 have := sm_bd l fun x hx => (hg x hx).s
 exact ⟨by omega, fun x hx => by have := (hg x hx).s; omega, by omega⟩
theorem wof_ok (H : HasAt C) (l : List En) (e : Bool) (hz : Szd l) (a b : Int) (ha : 0 ≤ a ∧ a ≤ 255) (hb : 0 ≤ b ∧ b ≤ 65535) : ∃ o v : Int, FnW C 256 [.agg [.int .u8 a, .int .u16 b], aL l e] = some (.tup [.int .i64 o, .int .i64 v]) ∧ Vp l o v := by
 have hn := hz.n
 have ht := hz.t
 have hnn := hz.nn
 have h1 : a.tmod 200 = a % 200 := Int.tmod_eq_emod_of_nonneg ha.1
 have h2 : 0 ≤ a % 200 ∧ a % 200 < 200 := ⟨Int.emod_nonneg _ (by omega), Int.emod_lt_of_pos _ (by omega)⟩
 obtain ⟨v, hv⟩ : ∃ v, v = 1 + a % 200 := ⟨_, rfl⟩
 have hv2 : 1 + a % 200 = v := hv.symm
 have hm := rmost_ok H.toHasSz l e hz v (by omega)
 have hm0 : 0 ≤ mostS l v ∧ mostS l v ≤ 4611686018427387904 := by unfold mostS; split <;> omega
 generalize hM : mostS l v = M at *
 have h3 : b.tmod (M + 1) = b % (M + 1) := Int.tmod_eq_emod_of_nonneg hb.1
 have h4 : 0 ≤ b % (M + 1) ∧ b % (M + 1) < M + 1 := ⟨Int.emod_nonneg _ (by omega), Int.emod_lt_of_pos _ (by omega)⟩
 have h5 : ¬ M + 1 = 0 := by omega
 refine ⟨b % (M + 1), v, ?_, ⟨hz, by omega, by rw [hM]; omega⟩⟩
 rw [fnW_eq H.f256 rfl]
 simp (disch := omega) [w256, h1, hv2, hm, h3, h5, wI64, H.inl, inlB, H.pp, ppB]
end Go.D
end
section
set_option linter.unusedSimpArgs false
set_option linter.unusedVariables false
namespace Go.D
open Go Go.Pav Go.Pw P
set_option maxRecDepth 10000
set_option maxHeartbeats 4000000
set_option linter.unusedSimpArgs false
set_option linter.unusedVariables false
attribute [-simp] List.getElem_cons_drop
variable {C : WProg}
def lmin : Int → List En → Int
 | a, [] => a
 | a, e :: r => lmin (imin a e.s) r
theorem lmin_le : ∀ (l : List En) (a : Int), lmin a l ≤ a ∧ ∀ x ∈ l, lmin a l ≤ x.s
 | [], a => ⟨Int.le_refl _, by simp⟩
 | e :: r, a => by
  obtain ⟨h1, h2⟩ := lmin_le r (imin a e.s)
  rw [lmin]
  have h3 : imin a e.s ≤ a ∧ imin a e.s ≤ e.s := by unfold imin; split <;> omega
  refine ⟨by omega, fun x hx => ?_⟩
  rcases List.mem_cons.1 hx with rfl | hx
  · omega
  · exact h2 x hx
theorem lmin_ge : ∀ (l : List En) (a m : Int), m ≤ a → (∀ x ∈ l, m ≤ x.s) → m ≤ lmin a l
 | [], _, _, h, _ => h
 | e :: r, a, m, h, hs => by
  rw [lmin]
  exact lmin_ge r _ m (by unfold imin; have := hs e (by simp); split <;> omega) fun x hx => hs x (by simp [hx])
theorem top_steps {l : List En} (m : Int) (hm : ∀ x ∈ l, m ≤ x.s) (i : Nat) : ∀ d : Nat, i + d ≤ l.length → top l i + d * m ≤ top l (i + d) := by
 intro d
 induction d with
 | zero => intro _; simp
 | succ d ih =>
  intro h
  have h1 : i + d < l.length := by omega
  have := ih (by omega)
  have h2 := hm _ (List.getElem_mem h1)
  rw [← Nat.add_assoc, top_succ h1]
  have e : ((d + 1 : Nat) : Int) * m = d * m + m := by rw [Int.natCast_add, Int.add_mul]; simp
  rw [e]; omega
theorem seen_count {l : List En} {o v : Int} (hp : Vp l o v) (m : Int) (h1 : 1 ≤ m) (hm : ∀ x ∈ l, m ≤ x.s) {p q : Nat} (hq : q < l.length) (hpq : p ≤ q)
 (hs : ∀ i, i < l.length → ((top l i < o + v ∧ o < top l (i + 1)) ↔ (p ≤ i ∧ i ≤ q))) : (q : Int) - p ≤ ceilD v m := by
 have hv := hp.v0
 obtain ⟨e1, e2, e3, e4, e5, e6⟩ := div_facts hv.1 h1
 have e7 : v % m < m := Int.emod_lt_of_pos _ (by omega)
 unfold ceilD
 by_cases c : p = q
 · subst c
   split <;> omega
 · have a := ((hs p (by omega)).2 ⟨Nat.le_refl _, hpq⟩).2
   have b := ((hs q hq).2 ⟨hpq, Nat.le_refl _⟩).1
   obtain ⟨d, hd⟩ : ∃ d, q = p + 1 + d := ⟨q - p - 1, by omega⟩
   have t := top_steps m hm (p + 1) d (by omega)
   rw [← hd] at t
   have t2 : (d : Int) * m < v / m * m + v % m := by omega
   have key : (d : Int) < v / m + (if 0 < v % m then 1 else 0) := by
    by_cases c2 : 0 < v % m
    · rw [if_pos c2]
      have : (d : Int) * m < (v / m + 1) * m := by rw [Int.add_mul]; omega
      exact Int.lt_of_mul_lt_mul_right this (by omega)
    · rw [if_neg c2]
      have : (d : Int) * m < (v / m) * m := by omega
      have := Int.lt_of_mul_lt_mul_right this (by omega)
      omega
   omega
structure HasBd (C : WProg) : Prop extends HasAt C where
 f610 : C.fns.get 610 = some w610
theorem bd_last (H : HasBd C) (hlives : FnW C 129 [] = some (.bool true)) (A : List Int) (a b : Int) (hl : A.length ≤ 1025) (hA : ∀ (i : Nat) (h : i < A.length), A[i] < b ∧ (a ≤ A[i] ∨ i = 0)) : ∀ n i, n + i = A.length →
 w610_K0 C ⟨[(21, .int .i64 i), (16, .ptr 0 0 0), (14, .ro 1 (A.map eI) true)], [(0, .cells 2 [[.int .i64 a, .int .i64 b]] true true)], 1⟩ = some (.bool true) := by
 intro n
 induction n with
 | zero =>
  intro i hi
  have h3 : ¬ i < A.length := by omega
  simp only [w610_K0]; rw [ck_unf w610_B0.eq_1]
  simp (disch := omega) [ck_unf w610_c0.eq_1, h3, hlives, H.inl, inlB, H.pp, ppB]
 | succ n ih =>
  intro i hi
  have h1 : i < A.length := by omega
  have this := ih (i + 1) (by omega)
  obtain ⟨q1, q2⟩ := hA i h1
  have q1' : ¬ b ≤ A[i] := by omega
  rcases q2 with q2 | q2
  · have q2' : ¬ A[i] < a := by omega
    simp only [w610_K0] at this ⊢; rw [ck_unf w610_B0.eq_1]
    simp at this
    simp (disch := omega) [h1, q1, q1', q2, q2', wI64, this]
  · subst q2
    simp only [w610_K0] at this ⊢; rw [ck_unf w610_B0.eq_1]
    try simp at this
    by_cases c : A[0] < a
    · simp (disch := omega) [h1, q1, q1', c, wI64, this]
    · simp (disch := omega) [h1, q1, q1', c, wI64, this]
theorem bd_seen (H : HasBd C) (l : List En) (e : Bool) (o v : Int) (hp : Vp l o v) (A : List Int) (a b : Int) (hl : A.length ≤ 1025) (hA : ∀ i : Nat, i < l.length → (top l i < o + v ∧ o < top l (i + 1)) → (i : Int) ∈ A)
 (hnext : w610_K0 C ⟨[(21, .int .i64 0), (16, .ptr 0 0 0), (14, .ro 1 (A.map eI) true)], [(0, .cells 2 [[.int .i64 a, .int .i64 b]] true true)], 1⟩ = some (.bool true)) : ∀ n i, n + i = l.length →
 w610_K1 C ⟨[(20, .int .i64 i), (16, .ptr 0 0 0), (14, .ro 1 (A.map eI) true), (10, .int .i64 v), (9, .int .i64 o), (8, .ptr 1 0 0)], [(0, .cells 2 [[.int .i64 a, .int .i64 b]] true true), (1, .cells 1 [[.ro 6 (l.map eEn) e]] true true)], 2⟩ = some (.bool true) := by
 intro n
 induction n with
 | zero =>
  intro i hi
  have h3 : ¬ i < l.length := by omega
  simp only [w610_K0] at hnext
  try simp at hnext
  simp only [w610_K1]; rw [ck_unf w610_B1.eq_1]
  simp (disch := omega) [ck_unf w610_c1.eq_1, h3, hnext]
 | succ n ih =>
  intro i hi
  have h1 : i < l.length := by omega
  have hn := hp.n
  have this := ih (i + 1) (by omega)
  have q1 := rseen_ok H.toHasSz l e o v hp i h1
  have q2 := has_ok H.toHasWn A true i (by omega)
  by_cases c : top l i < o + v ∧ o < top l (i + 1)
  · rw [if_pos c] at q1
    rw [if_pos (hA i h1 c)] at q2
    simp only [w610_K1] at this ⊢; rw [ck_unf w610_B1.eq_1]
    simp at this
    simp (disch := omega) [h1, q1, q2, wI64, H.inl, inlB, H.pp, ppB, this]
  · rw [if_neg c] at q1
    simp only [w610_K1] at this ⊢; rw [ck_unf w610_B1.eq_1]
    simp at this
    simp (disch := omega) [h1, q1, wI64, H.inl, inlB, H.pp, ppB, this]
theorem boundlaw_ok (H : HasBd C) (hone : ∀ q : Q4, QIn q → ∃ i : It, FnW C 422 [.agg (eQ q)] = some (eIt i) ∧ Good i) (hlives : FnW C 129 [] = some (.bool true))
 (q : List Q4) (qe : Bool) (hq : ∀ x ∈ q, QIn x) (z : List Int) (ze : Bool) (hz : ∀ s ∈ z, 0 ≤ s ∧ s ≤ 255) (hzl : z.length < 9223372036854775808) (r : Int) (hr : 0 ≤ r ∧ r ≤ 255)
 (a b : Int) (ha : 0 ≤ a ∧ a ≤ 255) (hb : 0 ≤ b ∧ b ≤ 65535) (c : Int) (hc : 0 ≤ c ∧ c ≤ 255) :
 FnW C 610 [.agg [.ro 4 (q.map eQ) qe, .ro 1 (z.map eU8) ze, .int .u8 r], .agg [.int .u8 a, .int .u16 b], .int .u8 c] = some (.bool true) := by
 obtain ⟨R, f, hof, hl, hg, hn⟩ := lof_ok H.toHasG hone q qe hq z ze hz hzl r hr
 have hck := ck_good r hr R (by omega) hg hn
 have hin : ∀ x ∈ R, EnIn x := fun x hx => (hg x hx).en
 have hru := ru_in r
 have hzd := szd_good hl hg
 obtain ⟨o, v, hw, hp⟩ := wof_ok H.toHasAt R f hzd a b ha hb
 have hv0 := hp.v0
 have h1 : c.tmod 17 = c % 17 := Int.tmod_eq_emod_of_nonneg hc.1
 obtain ⟨k, hk⟩ : ∃ k, k = c % 17 := ⟨_, rfl⟩
 have hk2 : 0 ≤ k ∧ k ≤ 16 := by rw [hk]; exact ⟨Int.emod_nonneg _ (by omega), by have := Int.emod_lt_of_pos c (show (0 : Int) < 17 by omega); omega⟩
 have ht : ∀ x ∈ R, 0 ≤ x.i.t ∧ x.i.t < (kindsOf r).length := fun x hx => by
  have := (hg x hx).i.t; rw [(ks_in r hr).l]; omega
 have q1 := attached_ok H.toHasAt (kindsOf r) true 12 hru R f hin hck ht o v k hp hk2
 have q2 := window_ok H.toHasAt R f o v k hp hk2
 have r1 := ris_att (ks := kindsOf r) hp hk2
 have q3 := rrising_ok H.toHasWn (attL (kindsOf r) R o v k) true (by have := (att_len (ks := kindsOf r) hp hk2).1; omega)
 rw [if_pos r1] at q3
 obtain ⟨la, lb, lc⟩ := att_len (ks := kindsOf r) hp hk2
 obtain ⟨a1, b1, ea, eb, hab, hbn⟩ := hp.win k hk2
 have hA0 : ∀ x, x ∈ attL (kindsOf r) R o v k ↔ _ := fun x => mem_att (ks := kindsOf r) hp hk2 x
 have hm1 := lmin_le R 2305843009213693952
 have hm2 := lmin_ge R 2305843009213693952 1 (by omega) (fun x hx => (hg x hx).s.1)
 have q4 := bound_ok H.toHasWn v (lmin 2305843009213693952 R) k
 unfold bdR at q4
 rw [if_neg (by unfold bdBad; omega)] at q4
 have hbd : ((attL (kindsOf r) R o v k).length : Int) ≤ ceilD v (lmin 2305843009213693952 R) + 2 * k + 2 := by
  have hc0 : 0 ≤ ceilD v (lmin 2305843009213693952 R) := by
   obtain ⟨e1, e2, e3, e4, e5, e6⟩ := div_facts (v := v) (least := lmin 2305843009213693952 R) (by omega) (by omega)
   unfold ceilD; split <;> omega
  rcases hp.vis with ⟨x1, x2, x3⟩ | ⟨p, q, p1, q1, hpq, x2, x3, _, hs⟩
  · omega
  · have := seen_count hp _ hm2 hm1.2 q1 hpq hs
    have f1 : (p : Int) - k ≤ wF R o v k := by unfold wF imax; rw [x2]; split <;> omega
    have f2 : wT R o v k ≤ (q : Int) + 1 + k := by unfold wT imin; rw [x3]; split <;> omega
    omega
 have hsn : ∀ i : Nat, i < R.length → (top R i < o + v ∧ o < top R (i + 1)) → (i : Int) ∈ attL (kindsOf r) R o v k := by
  intro i hi hsi
  rw [hA0]
  right
  rcases hp.vis with ⟨x1, x2, x3⟩ | ⟨p, q, p1, q1, hpq, x2, x3, _, hs⟩
  · omega
  · have := (hs i hi).1 hsi
    unfold wF wT imax imin
    rw [x2, x3]
    constructor
    · split <;> omega
    · split <;> omega
 have hlast : ∀ (i : Nat) (h : i < (attL (kindsOf r) R o v k).length), (attL (kindsOf r) R o v k)[i] < (b1 : Int) ∧ ((a1 : Int) ≤ (attL (kindsOf r) R o v k)[i] ∨ i = 0) := by
  intro i hi
  have hm := (hA0 _).1 (List.getElem_mem hi)
  rw [ea, eb] at hm
  refine ⟨by omega, ?_⟩
  by_cases c0 : i = 0
  · exact .inr c0
  · left
    rcases hm with hm | hm
    · -- the head comes first
      exfalso
      have hlt := (risB_get _ _ r1 i hi).2 0 (by omega)
      have hm0 := (hA0 _).1 (List.getElem_mem (show 0 < (attL (kindsOf r) R o v k).length by omega))
      rw [ea, eb] at hm0
      omega
    · exact hm.1
 rw [ea, eb] at q2 lb lc
 generalize attL (kindsOf r) R o v k = A at *
 have k0 := bd_last H hlives A a1 b1 la hlast A.length 0 (by simp)
 have k1 := bd_seen H R f o v hp A a1 b1 la hsn k0 R.length 0 (by simp)
 generalize hD : ceilD v (lmin 2305843009213693952 R) + 2 * k + 2 = D at *
 have k2 : ∀ n i acc, n + i = R.length → lmin acc (R.drop i) = lmin 2305843009213693952 R →
  w610_K2 C ⟨[(13, .int .i64 i), (12, .int .i64 acc), (11, .int .i64 k), (10, .int .i64 v), (9, .int .i64 o), (8, .ptr 0 0 0), (7, .ptr 1 0 0)], [(0, .cells 1 [[.ro 6 (R.map eEn) f]] true true), (1, .cells 2 [[.ro 9 ((kindsOf r).map eKd) true, .int .i64 12]] true true)], 2⟩ = some (.bool true) := by
  intro n
  induction n with
  | zero =>
   intro i acc hi hacc
   have h3 : ¬ i < R.length := by omega
   rw [List.drop_eq_nil_of_le (by omega), lmin] at hacc
   subst hacc
   generalize lmin 2305843009213693952 R = M at *
   generalize kindsOf r = ks at *
   simp only [w610_K1] at k1
   try simp at k1
   have c1 : ¬ (D : Int) < A.length := by omega
   have c2 : ¬ (A.length : Int) < (b1 : Int) - a1 := by omega
   have c3 : ¬ (b1 : Int) - a1 + 1 < A.length := by omega
   simp only [w610_K2]; rw [ck_unf w610_B2.eq_1]
   simp (disch := omega) [ck_unf w610_c2.eq_1, h3, q1, q2, q3, q4, c1, c2, c3, wI64, k1, H.inl, inlB, H.pp, ppB]
  | succ n ih =>
   intro i acc hi hacc
   have h1 : i < R.length := by omega
   rw [drop_cons h1, lmin] at hacc
   have this := ih (i + 1) (imin acc R[i].s) (by omega) hacc
   simp only [w610_K2] at this ⊢; rw [ck_unf w610_B2.eq_1]
   simp at this
   simp (disch := omega) [h1, wI64, this]
 have k3 := k2 R.length 0 2305843009213693952 (by simp) (by rw [List.drop_zero])
 rw [fnW_eq H.f610 rfl]
 generalize kindsOf r = ks at *
 simp only [w610_K2] at k3
 try simp at k3
 simp (disch := omega) [w610, wI64, hof, hw, h1, hk.symm, k3, H.inl, inlB, H.pp, ppB]
end Go.D
end
