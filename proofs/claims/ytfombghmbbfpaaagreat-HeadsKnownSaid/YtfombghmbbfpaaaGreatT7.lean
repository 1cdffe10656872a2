/- Part of the theory that the claims of this work use: E18, E19, E31, E32, E33, H02, H03, H04, H05, H06, H07, H09, H10, H11, E34, E35, E36, E37, E38, E39, H12, H13, E20, E21, H14, PwOrc, H15, H16. No conditions of its own. -/
import Derived.Test.YtfombghmbbfpaaaGreatT6
section
set_option linter.unusedSimpArgs false
set_option linter.unusedVariables false
namespace Go.D
open Go Go.Pav Go.Pw P
set_option maxRecDepth 10000
set_option maxHeartbeats 4000000
set_option linter.unusedSimpArgs false
set_option linter.unusedVariables false
attribute [-simp] List.getElem_cons_drop
variable {C : WProg}
structure HasHd (C : WProg) : Prop extends HasRo C where
 f262 : C.fns.get 262 = some w262
 f149 : C.fns.get 149 = some w149
 f151 : C.fns.get 151 = some w151
 f304 : C.fns.get 304 = some w304
def stk (ks : List Kd) (l : List En) (i : Nat) : Bool := match l[i]? with | some x => (kdAt ks x.i.t).st | none => false
theorem stk_get {ks : List Kd} {l : List En} {i : Nat} (h : i < l.length) : stk ks l i = (kdAt ks l[i].i.t).st := by unfold stk; rw [List.getElem?_eq_getElem h]
def szI (l : List En) (i : Int) : Int := match l[i.toNat]? with | some x => x.s | none => 0
theorem szI_get {l : List En} {i : Nat} (h : i < l.length) : szI l i = l[i].s := by unfold szI; rw [show (i : Int).toNat = i from rfl, List.getElem?_eq_getElem h]
def hpF (ks : List Kd) (l : List En) (s : Int) : Nat → Nat → Int → Int × Int
 | 0, _, a => (a, 0)
 | n + 1, i, a => if stk ks l i = true then (if s < top l i then (a, if 0 ≤ a then imin 0 (top l i - s - szI l a) else 0) else hpF ks l s n (i + 1) i) else hpF ks l s n (i + 1) a
def hrF (ks : List Kd) (l : List En) (s : Int) : Nat → Nat → Int → Int
 | 0, _, a => a
 | n + 1, i, a => hrF ks l s n (i + 1) (if stk ks l i = true ∧ top l i ≤ s then (i : Int) else a)
def plF (ks : List Kd) (l : List En) (s z : Int) : Nat → Nat → Int
 | 0, _ => 0
 | n + 1, j => if stk ks l j = true then (if top l j - s - z < 0 then top l j - s - z else 0) else plF ks l s z n (j + 1)
def hrA (ks : List Kd) (l : List En) (s : Int) : Int := hrF ks l s l.length 0 (-1)
def plA (ks : List Kd) (l : List En) (s : Int) (h : Nat) : Int := plF ks l s (szI l h) (l.length - (h + 1)) (h + 1)
theorem hrF_stop {ks : List Kd} {l : List En} (hz : Szd l) {s : Int} : ∀ (n i : Nat) (a : Int), n + i = l.length → s < top l i → hrF ks l s n i a = a := by
 intro n
 induction n with
 | zero => intro i a _ _; rfl
 | succ n ih =>
  intro i a hi h
  have := hz.lt (i := i) (by omega)
  rw [hrF, if_neg (by omega)]
  exact ih (i + 1) a (by omega) (by omega)
theorem hrF_bd (ks : List Kd) (l : List En) (s : Int) : ∀ (n i : Nat) (a : Int), n + i = l.length → -1 ≤ a ∧ a < i → -1 ≤ hrF ks l s n i a ∧ hrF ks l s n i a < l.length := by
 intro n
 induction n with
 | zero => intro i a hi h; rw [hrF]; omega
 | succ n ih =>
  intro i a hi h
  rw [hrF]
  refine ih (i + 1) _ (by omega) ?_
  split <;> omega
theorem hpF_eq {ks : List Kd} {l : List En} (hz : Szd l) {s : Int} : ∀ (n i : Nat) (a : Int), n + i = l.length → -1 ≤ a ∧ a < i →
 (0 ≤ a → plF ks l s (szI l a) (l.length - (a.toNat + 1)) (a.toNat + 1) = plF ks l s (szI l a) n i) →
 hpF ks l s n i a = (hrF ks l s n i a, if 0 ≤ hrF ks l s n i a then plF ks l s (szI l (hrF ks l s n i a)) (l.length - ((hrF ks l s n i a).toNat + 1)) ((hrF ks l s n i a).toNat + 1) else 0) := by
 intro n
 induction n with
 | zero =>
  intro i a hi ha h
  rw [hpF, hrF]
  by_cases c : 0 ≤ a
  · rw [if_pos c, h c, plF]
  · rw [if_neg c]
 | succ n ih =>
  intro i a hi ha h
  rw [hpF, hrF]
  by_cases c : stk ks l i = true
  · rw [if_pos c]
    by_cases d : s < top l i
    · have hc : ¬ (stk ks l i = true ∧ top l i ≤ s) := by rintro ⟨_, q⟩; omega
      rw [if_pos d, if_neg hc, hrF_stop hz n (i + 1) a (by omega) (by have := hz.lt (i := i) (by omega); omega)]
      by_cases e : 0 ≤ a
      · rw [if_pos e, if_pos e, h e, plF, if_pos c]
        unfold imin
        congr 1
      · rw [if_neg e, if_neg e]
    · rw [if_neg d, if_pos ⟨c, by omega⟩]
      refine ih (i + 1) i (by omega) (by omega) fun _ => ?_
      rw [show (i : Int).toNat = i from rfl, show l.length - (i + 1) = n by omega]
  · rw [if_neg c, if_neg (by rintro ⟨q, _⟩; exact c q)]
    refine ih (i + 1) a (by omega) (by omega) fun q => ?_
    rw [h q, plF, if_neg c]
theorem head_loop (H : HasHd C) (ks : List Kd) (ke : Bool) (cap : Int) (l : List En) (e : Bool) (s : Int) (hs : 0 ≤ s ∧ s ≤ 4611686018427387904) (hz : Szd l) (ht : ∀ x ∈ l, 0 ≤ x.i.t ∧ x.i.t < ks.length) : ∀ n i, n + i = l.length → ∀ a : Int, -1 ≤ a ∧ a < i →
 w262_K0 C ⟨[(20, .int .i64 i), (19, .int .i64 l.length), (18, .ro 6 (l.map eEn) e), (8, .ro 1 ((tps l).map eI) true), (7, .int .i64 0), (6, .int .i64 a), (4, .ptr 0 0 0), (3, .ptr 1 0 0), (2, .int .i64 s)], [(0, .cells 1 [[.ro 6 (l.map eEn) e]] true true), (1, .cells 2 [[.ro 9 (ks.map eKd) ke, .int .i64 cap]] true true)], 2⟩
  = some (.tup [.int .i64 (hpF ks l s n i a).1, .int .i64 (hpF ks l s n i a).2]) := by
 intro n
 induction n with
 | zero =>
  intro i hi a ha
  have h3 : ¬ i < l.length := by omega
  simp only [w262_K0]; rw [ck_unf w262_B0.eq_1]
  simp (disch := omega) [ck_unf w262_c0.eq_1, h3, hpF]
 | succ n ih =>
  intro i hi a ha
  have h1 : i < l.length := by omega
  have hn := hz.n
  have h2 : i < (tps l).length := by rw [tps_len]; omega
  have q2 := tps_get l h2
  have hx := ht _ (List.getElem_mem h1)
  obtain ⟨t, hT⟩ : ∃ t : Nat, l[i].i.t = t := ⟨l[i].i.t.toNat, by omega⟩
  have h4 : t < ks.length := by omega
  have htp := hz.small i
  have htp0 := hz.rng i
  rw [hpF, stk_get h1]
  simp only [hT, kdAt_get h4]
  cases c2 : ks[t].st
  · have this := ih (i + 1) (by omega) a (by omega)
    rw [if_neg (by simp)]
    generalize hpF ks l s n (i + 1) a = R at *
    simp only [w262_K0] at this ⊢; rw [ck_unf w262_B0.eq_1]
    simp at this
    simp (disch := omega) [h1, h2, q2, hT, h4, c2, wI64, this]
  · rw [if_pos rfl]
    by_cases c1 : s < top l i
    · rw [if_pos c1]
      by_cases c3 : 0 ≤ a
      · obtain ⟨b, rfl⟩ : ∃ b : Nat, a = b := ⟨a.toNat, by omega⟩
        have hb : b < l.length := by omega
        have hsb := hz.s _ (List.getElem_mem hb)
        rw [if_pos c3, szI_get hb]
        simp only [w262_K0]; rw [ck_unf w262_B0.eq_1]
        simp (disch := omega) [ck_unf w262_c0.eq_1, h1, h2, q2, hT, h4, c2, c1, c3, hb, wI64]
      · rw [if_neg c3]
        simp only [w262_K0]; rw [ck_unf w262_B0.eq_1]
        simp (disch := omega) [ck_unf w262_c0.eq_1, h1, h2, q2, hT, h4, c2, c1, c3, wI64]
    · rw [if_neg c1]
      have this := ih (i + 1) (by omega) i (by omega)
      generalize hpF ks l s n (i + 1) i = R at *
      simp only [w262_K0] at this ⊢; rw [ck_unf w262_B0.eq_1]
      simp at this
      simp (disch := omega) [h1, h2, q2, c1, hT, h4, c2, wI64, this]
theorem head_ok (H : HasHd C) (ks : List Kd) (ke : Bool) (cap : Int) (l : List En) (e : Bool) (s : Int) (hs : 0 ≤ s ∧ s ≤ 4611686018427387904) (hz : Szd l) (ht : ∀ x ∈ l, 0 ≤ x.i.t ∧ x.i.t < ks.length) :
 FnW C 262 [aR ks ke cap, aL l e, .int .i64 s] = some (.tup [.int .i64 (hrA ks l s), .int .i64 (if 0 ≤ hrA ks l s then plA ks l s (hrA ks l s).toNat else 0)]) := by
 have hn := hz.n
 have h := head_loop H ks ke cap l e s hs hz ht l.length 0 (by simp) (-1) (by omega)
 rw [hpF_eq hz l.length 0 (-1) (by simp) (by omega) (by omega)] at h
 have hbd := hrF_bd ks l s l.length 0 (-1) (by simp) (by omega)
 have h1 := tops_ok H.toHasSz l e hz
 unfold plA
 change _ = some (AV.tup [.int .i64 (hrF ks l s l.length 0 (-1)), .int .i64 (if 0 ≤ hrF ks l s l.length 0 (-1) then plF ks l s (szI l ((hrF ks l s l.length 0 (-1)).toNat : Nat)) (l.length - ((hrF ks l s l.length 0 (-1)).toNat + 1)) ((hrF ks l s l.length 0 (-1)).toNat + 1) else 0)])
 have e3 : 0 ≤ hrF ks l s l.length 0 (-1) → szI l ((hrF ks l s l.length 0 (-1)).toNat : Nat) = szI l (hrF ks l s l.length 0 (-1)) := fun q => by rw [Int.toNat_of_nonneg q]
 have e4 : (if 0 ≤ hrF ks l s l.length 0 (-1) then plF ks l s (szI l ((hrF ks l s l.length 0 (-1)).toNat : Nat)) (l.length - ((hrF ks l s l.length 0 (-1)).toNat + 1)) ((hrF ks l s l.length 0 (-1)).toNat + 1) else 0) = (if 0 ≤ hrF ks l s l.length 0 (-1) then plF ks l s (szI l (hrF ks l s l.length 0 (-1))) (l.length - ((hrF ks l s l.length 0 (-1)).toNat + 1)) ((hrF ks l s l.length 0 (-1)).toNat + 1) else 0) := by
  split
  · rw [e3 ‹_›]
  · rfl
 rw [e4]
 simp only at h
 generalize (if 0 ≤ hrF ks l s l.length 0 (-1) then plF ks l s (szI l (hrF ks l s l.length 0 (-1))) (l.length - ((hrF ks l s l.length 0 (-1)).toNat + 1)) ((hrF ks l s l.length 0 (-1)).toNat + 1) else 0) = P at *
 generalize hrF ks l s l.length 0 (-1) = Q at *
 rw [fnW_eq H.f262 rfl]
 simp only [w262_K0] at h
 try simp at h
 simp [w262, h1, h, H.inl, inlB, H.pp, ppB]
theorem sticky_ok (H : HasHd C) (ks : List Kd) (ke : Bool) (cap : Int) (x : En) (ht : 0 ≤ x.i.t ∧ x.i.t < ks.length) : FnW C 304 [aR ks ke cap, .agg (eEn x)] = some (.int .i64 (if (kdAt ks x.i.t).st = true then 1 else 0)) := by
 obtain ⟨t, hT⟩ : ∃ t : Nat, x.i.t = t := ⟨x.i.t.toNat, by omega⟩
 have h4 : t < ks.length := by omega
 rw [hT, kdAt_get h4, fnW_eq H.f304 rfl]
 cases c : ks[t].st <;> simp (disch := omega) [w304, hT, h4, c, H.inl, inlB, H.pp, ppB]
theorem rhead_loop (H : HasHd C) (ks : List Kd) (ke : Bool) (cap : Int) (l : List En) (e : Bool) (s : Int) (hz : Szd l) (ht : ∀ x ∈ l, 0 ≤ x.i.t ∧ x.i.t < ks.length) : ∀ n i, n + i = l.length → ∀ a : Int,
 w149_K0 C ⟨[(8, .int .i64 i), (7, .int .i64 a), (3, .ptr 0 0 0), (2, .int .i64 s), (1, .ro 6 (l.map eEn) e)], [(0, .cells 2 [[.ro 9 (ks.map eKd) ke, .int .i64 cap]] true true)], 1⟩ = some (.int .i64 (hrF ks l s n i a)) := by
 intro n
 induction n with
 | zero =>
  intro i hi a
  have h3 : ¬ i < l.length := by omega
  simp only [w149_K0]; rw [ck_unf w149_B0.eq_1]
  simp (disch := omega) [ck_unf w149_c0.eq_1, h3, hrF]
 | succ n ih =>
  intro i hi a
  have h1 : i < l.length := by omega
  have hn := hz.n
  have hs := sticky_ok H ks ke cap l[i] (ht _ (List.getElem_mem h1))
  have htp := rtop_ok H.toHasSz l e hz i (by omega)
  rw [hrF, stk_get h1]
  simp only [aR, eEn] at hs
  cases c : (kdAt ks l[i].i.t).st
  · rw [if_neg (by simp)]
    have this := ih (i + 1) (by omega) a
    rw [c] at hs
    generalize hrF ks l s n (i + 1) a = R at *
    simp only [w149_K0] at this ⊢; rw [ck_unf w149_B0.eq_1]
    simp at this hs
    simp (disch := omega) [h1, hs, wI64, H.inl, inlB, H.pp, ppB, this]
  · rw [c] at hs
    by_cases d : top l i ≤ s
    · rw [if_pos ⟨rfl, d⟩]
      have this := ih (i + 1) (by omega) i
      generalize hrF ks l s n (i + 1) i = R at *
      simp only [w149_K0] at this ⊢; rw [ck_unf w149_B0.eq_1]
      simp at this hs
      simp (disch := omega) [h1, hs, htp, d, wI64, H.inl, inlB, H.pp, ppB, this]
    · rw [if_neg (by rintro ⟨_, q⟩; exact d q)]
      have this := ih (i + 1) (by omega) a
      generalize hrF ks l s n (i + 1) a = R at *
      simp only [w149_K0] at this ⊢; rw [ck_unf w149_B0.eq_1]
      simp at this hs
      simp (disch := omega) [h1, hs, htp, d, wI64, H.inl, inlB, H.pp, ppB, this]
theorem rhead_ok (H : HasHd C) (ks : List Kd) (ke : Bool) (cap : Int) (l : List En) (e : Bool) (s : Int) (hz : Szd l) (ht : ∀ x ∈ l, 0 ≤ x.i.t ∧ x.i.t < ks.length) : FnW C 149 [aR ks ke cap, .ro 6 (l.map eEn) e, .int .i64 s] = some (.int .i64 (hrA ks l s)) := by
 have h := rhead_loop H ks ke cap l e s hz ht l.length 0 (by simp) (-1)
 rw [fnW_eq H.f149 rfl]
 unfold hrA
 generalize hrF ks l s l.length 0 (-1) = R at *
 simp only [w149_K0] at h
 try simp at h
 simp [w149, h, H.inl, inlB, H.pp, ppB]
theorem place_loop (H : HasHd C) (ks : List Kd) (ke : Bool) (cap : Int) (l : List En) (e : Bool) (s : Int) (hs : 0 ≤ s ∧ s ≤ 4611686018427387904) (hz : Szd l) (ht : ∀ x ∈ l, 0 ≤ x.i.t ∧ x.i.t < ks.length) (h : Nat) (hh : h < l.length) : ∀ n j, n + j = l.length →
 w151_K0 C ⟨[(9, .int .i64 j), (4, .ptr 0 0 0), (3, .int .i64 h), (2, .int .i64 s), (1, .ro 6 (l.map eEn) e)], [(0, .cells 2 [[.ro 9 (ks.map eKd) ke, .int .i64 cap]] true true)], 1⟩ = some (.int .i64 (plF ks l s (szI l h) n j)) := by
 intro n
 induction n with
 | zero =>
  intro i hi
  have h3 : ¬ i < l.length := by omega
  simp only [w151_K0]; rw [ck_unf w151_B0.eq_1]
  simp (disch := omega) [ck_unf w151_c0.eq_1, h3, plF]
 | succ n ih =>
  intro i hi
  have h1 : i < l.length := by omega
  have hn := hz.n
  have hst := sticky_ok H ks ke cap l[i] (ht _ (List.getElem_mem h1))
  have htp := rtop_ok H.toHasSz l e hz i (by omega)
  have hb1 := hz.rng i
  have hb2 := hz.small i
  have hsb := hz.s _ (List.getElem_mem hh)
  rw [plF, stk_get h1]
  simp only [aR, eEn] at hst
  cases c : (kdAt ks l[i].i.t).st
  · rw [if_neg (by simp)]
    have this := ih (i + 1) (by omega)
    rw [c] at hst
    generalize plF ks l s (szI l h) n (i + 1) = R at *
    simp only [w151_K0] at this ⊢; rw [ck_unf w151_B0.eq_1]
    simp at this hst
    simp (disch := omega) [h1, hst, wI64, H.inl, inlB, H.pp, ppB, this]
  · rw [c] at hst
    rw [if_pos rfl, szI_get hh]
    by_cases d : top l i - s - l[h].s < 0
    · rw [if_pos d]
      simp only [w151_K0]; rw [ck_unf w151_B0.eq_1]
      simp at hst
      simp (disch := omega) [h1, hh, hst, htp, d, wI64, H.inl, inlB, H.pp, ppB]
    · rw [if_neg d]
      simp only [w151_K0]; rw [ck_unf w151_B0.eq_1]
      simp at hst
      simp (disch := omega) [h1, hh, hst, htp, d, wI64, H.inl, inlB, H.pp, ppB]
theorem place_ok (H : HasHd C) (ks : List Kd) (ke : Bool) (cap : Int) (l : List En) (e : Bool) (s : Int) (hs : 0 ≤ s ∧ s ≤ 4611686018427387904) (hz : Szd l) (ht : ∀ x ∈ l, 0 ≤ x.i.t ∧ x.i.t < ks.length) (h : Nat) (hh : h < l.length) :
 FnW C 151 [aR ks ke cap, .ro 6 (l.map eEn) e, .int .i64 s, .int .i64 h] = some (.int .i64 (plA ks l s h)) := by
 have hn := hz.n
 have k := place_loop H ks ke cap l e s hs hz ht h hh (l.length - (h + 1)) (h + 1) (by omega)
 rw [fnW_eq H.f151 rfl]
 unfold plA
 generalize plF ks l s (szI l h) (l.length - (h + 1)) (h + 1) = R at *
 simp only [w151_K0] at k
 try simp at k
 simp (disch := omega) [w151, k, wI64, H.inl, inlB, H.pp, ppB]
end Go.D
end
section
set_option linter.unusedSimpArgs false
set_option linter.unusedVariables false
namespace Go.D
open Go Go.Pav Go.Pw P
set_option maxRecDepth 10000
set_option maxHeartbeats 4000000
set_option linter.unusedSimpArgs false
set_option linter.unusedVariables false
attribute [-simp] List.getElem_cons_drop
variable {C : WProg}
structure HasSc (C : WProg) : Prop extends HasHd C where
 f265 : C.fns.get 265 = some w265
 f264 : C.fns.get 264 = some w264
 f125 : C.fns.get 125 = some w125
theorem cloneR_ok (H : HasSc C) (l : List Rw) (e : Bool) (hl : l.length ≤ 1000000) : FnW C 265 [.ro 9 (l.map eRw) e] = some (.ro 9 (l.map eRw) l.isEmpty) := by
 rw [fnW_eq H.f265 rfl]
 cases l with
 | nil => simp [w265, ck_cln]
 | cons a r =>
  simp only [List.length_cons] at hl
  have h1 : (r.length + 1) * 129 ≤ 35184372088832 := by omega
  have h2 : List.take r.length (List.map eRw r) = List.map eRw r := List.take_of_length_le (by simp)
  simp [w265, ck_cln2, clnC, isEmptyRo, h1, h2]
theorem clipR_ok (H : HasSc C) (l : List Rw) (e : Bool) : FnW C 264 [.ro 9 (l.map eRw) e] = some (.ro 9 (l.map eRw) true) := by
 have h : List.take l.length (List.map eRw l) = List.map eRw l := List.take_of_length_le (by simp)
 rw [fnW_eq H.f264 rfl]
 simp [w264, h]
def slQ (s at_ : Int) : List Rw → Nat → List Rw
 | [], _ => []
 | q :: r, i => if (i : Int) = at_ then slQ s at_ r (i + 1) else ⟨q.k, q.t - s, q.s, q.n⟩ :: slQ s at_ r (i + 1)
theorem sl_sl (H : HasSc C) (Q : List Rw) (hQ : Q.length ≤ 1024) (s at_ : Int) (hs : 0 ≤ s ∧ s ≤ 4611686018427387904) (hq : ∀ q ∈ Q, 0 ≤ q.t ∧ q.t ≤ 4611686018427387904) (a : Nat) (ha : a ≤ 1024) (p : Bool) (h : Rw) : ∀ m k, m + k = Q.length → ∀ G : List Rw, G ≠ [] → G.length ≤ k →
 w125_K0 C ⟨[(68, .int .i64 k), (67, .int .i64 Q.length), (66, .ro 9 (Q.map eRw) true), (15, .int .i64 at_), (14, .ptr 0 0 0), (11, .int .i64 a), (8, .ptr 2 0 0), (2, .int .i64 s)], [(0, .cells 12 [[.int .i64 s, .sl 1 9 0 G.length G.length false, .bool p, .int .u64 h.k, .int .i64 h.t, .int .i64 h.s, .int .u8 h.n.k, .str h.n.t, .str h.n.y, .ro 2 (h.n.a.map eA) h.n.ae, .str h.n.x, .ro 6 (h.n.ch.map Nd.c) h.n.ce]] true false), (1, .cells 9 (G.map eRw) true true), (2, .cells 12 [[.int .i64 0, .ro 9 [] true, .bool false, .int .u64 0, .int .i64 0, .int .i64 0, .int .u8 0, .str [], .str [], .ro 2 [] true, .str [], .ro 6 [] true]] true true)], 3⟩ = some (.tup [.agg (eSc ⟨s, G ++ slQ s at_ (Q.drop k) (a + k), true, p, h⟩), .int .i64 0]) := by
 intro m
 induction m with
 | zero =>
  intro k hk G hG hGl
  have h3 : ¬ k < Q.length := by omega
  have e1 : Q.drop k = [] := List.drop_eq_nil_of_le (by omega)
  rw [e1, slQ, List.append_nil]
  have e2 : List.take G.length (List.map eRw G) = List.map eRw G := List.take_of_length_le (by simp)
  have c1 := cloneR_ok H G false (by omega)
  have c2 := clipR_ok H G G.isEmpty
  simp only [w125_K0]; rw [ck_unf w125_B0.eq_1]
  simp (disch := omega) [ck_unf w125_c0.eq_1, h3, e2, c1, c2, H.inl, inlB, H.pp, ppB]
 | succ m ih =>
  intro k hk G hG hGl
  have h1 : k < Q.length := by omega
  have hb := hq _ (List.getElem_mem h1)
  have hfit : (G.length + 1) * 129 ≤ 35184372088832 := by omega
  rw [drop_cons h1, slQ]
  by_cases c : (a : Int) + k = at_
  · rw [if_pos (by omega)]
    have this := ih (k + 1) (by omega) G hG (by omega)
    rw [← Nat.add_assoc] at this
    simp only [w125_K0] at this ⊢; rw [ck_unf w125_B0.eq_1]
    simp at this
    simp (disch := omega) [h1, c, wI64, H.inl, inlB, H.pp, ppB, this]
  · rw [if_neg (by omega)]
    have this := ih (k + 1) (by omega) (G ++ [⟨Q[k].k, Q[k].t - s, Q[k].s, Q[k].n⟩]) (by simp) (by simp; omega)
    rw [← Nat.add_assoc, List.append_assoc] at this
    simp only [w125_K0] at this ⊢; rw [ck_unf w125_B0.eq_1]
    simp at this
    simp (disch := omega) [h1, c, hfit, wI64, H.inl, inlB, H.pp, ppB, this]
theorem sl_nil (H : HasSc C) (Q : List Rw) (hQ : Q.length ≤ 1024) (s at_ : Int) (hs : 0 ≤ s ∧ s ≤ 4611686018427387904) (hq : ∀ q ∈ Q, 0 ≤ q.t ∧ q.t ≤ 4611686018427387904) (a : Nat) (ha : a ≤ 1024) (p : Bool) (h : Rw) : ∀ m k, m + k = Q.length →
 w125_K0 C ⟨[(68, .int .i64 k), (67, .int .i64 Q.length), (66, .ro 9 (Q.map eRw) true), (15, .int .i64 at_), (14, .ptr 0 0 0), (11, .int .i64 a), (8, .ptr 1 0 0), (2, .int .i64 s)], [(0, .cells 12 [[.int .i64 s, .ro 9 [] true, .bool p, .int .u64 h.k, .int .i64 h.t, .int .i64 h.s, .int .u8 h.n.k, .str h.n.t, .str h.n.y, .ro 2 (h.n.a.map eA) h.n.ae, .str h.n.x, .ro 6 (h.n.ch.map Nd.c) h.n.ce]] true true), (1, .cells 12 [[.int .i64 0, .ro 9 [] true, .bool false, .int .u64 0, .int .i64 0, .int .i64 0, .int .u8 0, .str [], .str [], .ro 2 [] true, .str [], .ro 6 [] true]] true true)], 2⟩ = some (.tup [.agg (eSc ⟨s, slQ s at_ (Q.drop k) (a + k), true, p, h⟩), .int .i64 0]) := by
 intro m
 induction m with
 | zero =>
  intro k hk
  have h3 : ¬ k < Q.length := by omega
  have e1 : Q.drop k = [] := List.drop_eq_nil_of_le (by omega)
  rw [e1, slQ]
  have c1 := cloneR_ok H [] true (by simp)
  have c2 := clipR_ok H [] true
  simp at c1 c2
  simp only [w125_K0]; rw [ck_unf w125_B0.eq_1]
  simp (disch := omega) [ck_unf w125_c0.eq_1, h3, c1, c2, H.inl, inlB, H.pp, ppB]
 | succ m ih =>
  intro k hk
  have h1 : k < Q.length := by omega
  have hb := hq _ (List.getElem_mem h1)
  rw [drop_cons h1, slQ]
  by_cases c : (a : Int) + k = at_
  · rw [if_pos (by omega)]
    have this := ih (k + 1) (by omega)
    rw [← Nat.add_assoc] at this
    simp only [w125_K0] at this ⊢; rw [ck_unf w125_B0.eq_1]
    simp at this
    simp (disch := omega) [h1, c, wI64, H.inl, inlB, H.pp, ppB, this]
  · rw [if_neg (by omega)]
    have this := sl_sl H Q hQ s at_ hs hq a ha p h m (k + 1) (by omega) [⟨Q[k].k, Q[k].t - s, Q[k].s, Q[k].n⟩] (by simp) (by simp)
    rw [← Nat.add_assoc] at this
    simp only [w125_K0] at this ⊢; rw [ck_unf w125_B0.eq_1]
    simp at this
    simp (disch := omega) [h1, c, wI64, H.inl, inlB, H.pp, ppB, this]
theorem Vp.visR {l : List En} {s v : Int} (h : Vp l s v) : ∃ a b : Nat, visF l s v = a ∧ visT l s v = b ∧ a ≤ b ∧ b ≤ l.length ∧ (∀ i, i < l.length → ((top l i < s + v ∧ s < top l (i + 1)) ↔ (a ≤ i ∧ i < b))) ∧
 (0 < l.length → a < b ∧ top l a ≤ s ∧ s < top l (a + 1) ∧ (s + v ≤ top l b ∨ b = l.length)) := by
 unfold visF visT
 by_cases c : l.length = 0
 · rw [if_pos c, if_pos c]
   exact ⟨0, 0, rfl, rfl, by omega, by omega, fun i hi => by omega, fun q => by omega⟩
 · rw [if_neg c, if_neg c]
   obtain ⟨p, q, p1, q1, hpq, a, b⟩ := h.ends (by omega)
   refine ⟨p, q + 1, h.rowA_eq p1 a.1 a.2, by rw [h.rowA_eq q1 b.1 b.2]; rfl, by omega, by omega, fun i hi => ?_, fun _ => ⟨by omega, a.1, a.2, ?_⟩⟩
   · rw [h.seen p1 q1 a b hi]; omega
   · by_cases d : q + 1 = l.length
     · exact .inr d
     · left
       have := h.mono (i := q + 1) (j := l.length) (by omega) (by omega)
       rw [top_len] at this
       unfold imin at b
       split at b <;> omega
section
variable {r : Int} {l : List En}
theorem rowsP_t (L : LG r l) (a n : Nat) (h : a + n ≤ l.length) : ∀ q ∈ rowsP (kindsOf r) l a n, 0 ≤ q.t ∧ q.t ≤ 4611686018427387904 := by
 intro q hq
 unfold rowsP at hq
 simp only [List.mem_map, List.mem_range] at hq
 obtain ⟨k, hk, rfl⟩ := hq
 rw [rowP_get (by omega)]
 have h1 := L.z.rng (a + k)
 have h2 := L.z.t
 exact ⟨h1.1, by simp only; omega⟩
def hdR (row : Nat → Rw) (ks : List Kd) (l : List En) (s : Int) : Rw := if 0 ≤ hrA ks l s then ⟨(row (hrA ks l s).toNat).k, plA ks l s (hrA ks l s).toNat, (row (hrA ks l s).toNat).s, (row (hrA ks l s).toNat).n⟩ else ⟨0, 0, 0, zN⟩
theorem slice_ok (H : HasSc C) (L : LG r l) (f : Bool) (s v : Int) (hp : Vp l s v) (a b : Nat) (ha : visF l s v = a) (hb : visT l s v = b) (hab : a ≤ b) (hbl : b ≤ l.length) :
 FnW C 125 [aR (kindsOf r) true 12, aL l f, .int .i64 s, .int .i64 v] =
  some (.tup [.agg (eSc ⟨s, slQ s (hrA (kindsOf r) l s) (rowsP (kindsOf r) l a (b - a)) a, true, decide (0 ≤ hrA (kindsOf r) l s), hdR (rowP (kindsOf r) l) (kindsOf r) l s⟩), .int .i64 0]) := by
 have hl := L.hl
 have hv0 := hp.v0
 have hs0 : 0 ≤ s ∧ s ≤ 4611686018427387904 := by
  have h1 := hp.s0
  have h2 := hp.t
  have h3 := hp.nn
  unfold mostS at h1; split at h1 <;> omega
 have h1 := lcheck_ok H.toHasK (kindsOf r) true 12 (ru_in r) l f (by omega) L.en
 rw [L.ck] at h1
 have h2 := visible_ok H.toHasSz l f (by omega) (fun x hx => by have := (L.en x hx).s; omega) s v (by omega) (by omega)
 rw [vpE_of hp, if_neg (by simp), ha, hb] at h2
 have h3 := head_ok H.toHasHd (kindsOf r) true 12 l f s hs0 L.z L.t
 have h4 := rows_ok H.toHasRo L f a b hab hbl
 have hql := rowsP_len (kindsOf r) l a (b - a)
 have k := fun p h => sl_nil H (rowsP (kindsOf r) l a (b - a)) (by omega) s (hrA (kindsOf r) l s) hs0 (rowsP_t L a (b - a) (by omega)) a (by omega) p h (b - a) 0 (by omega)
 have hbd := hrF_bd (kindsOf r) l s l.length 0 (-1) (by simp) (by omega)
 change -1 ≤ hrA (kindsOf r) l s ∧ hrA (kindsOf r) l s < l.length at hbd
 unfold hdR
 by_cases c : 0 ≤ hrA (kindsOf r) l s
 · obtain ⟨h, hh⟩ : ∃ h : Nat, hrA (kindsOf r) l s = h := ⟨(hrA (kindsOf r) l s).toNat, by omega⟩
   have h5 := rows_ok H.toHasRo L f h (h + 1) (by omega) (by omega)
   have e5 : rowsP (kindsOf r) l h (h + 1 - h) = [rowP (kindsOf r) l h] := by rw [show h + 1 - h = 1 by omega]; rfl
   rw [e5] at h5
   rw [if_pos c] at h3 ⊢
   rw [hh] at h3 k ⊢
   have hd : decide (0 ≤ (h : Int)) = true := by simp
   rw [hd]
   rw [show (h : Int).toNat = h from rfl] at h3 ⊢
   have k := k true ⟨(rowP (kindsOf r) l h).k, plA (kindsOf r) l s h, (rowP (kindsOf r) l h).s, (rowP (kindsOf r) l h).n⟩
   generalize rowP (kindsOf r) l h = R at *
   generalize plA (kindsOf r) l s h = P at *
   generalize rowsP (kindsOf r) l a (b - a) = Q at *
   generalize kindsOf r = ks at *
   have hh1 : (h : Int) + 1 = ((h + 1 : Nat) : Int) := by omega
   rw [fnW_eq H.f125 rfl]
   simp only [w125_K0] at k
   try simp at k
   simp at h5
   simp (disch := omega) [w125, h1, h2, h3, h4, h5, k, wI64, H.inl, inlB, H.pp, ppB]
   done
 · have hm : hrA (kindsOf r) l s = -1 := by omega
   rw [if_neg c] at h3 ⊢
   rw [hm] at h3 k ⊢
   have hd : decide (0 ≤ (-1 : Int)) = false := rfl
   rw [hd]
   have k := k false ⟨0, 0, 0, zN⟩
   generalize rowsP (kindsOf r) l a (b - a) = Q at *
   generalize kindsOf r = ks at *
   rw [fnW_eq H.f125 rfl]
   simp only [w125_K0] at k
   try simp [zN] at k
   simp (disch := omega) [w125, h1, h2, h3, h4, k, zN, wI64, H.inl, inlB, H.pp, ppB]
   done
end
end Go.D
end
section
set_option linter.unusedSimpArgs false
set_option linter.unusedVariables false
namespace Go.D
open Go Go.Pav Go.Pw P
set_option maxRecDepth 10000
set_option maxHeartbeats 4000000
set_option linter.unusedSimpArgs false
set_option linter.unusedVariables false
attribute [-simp] List.getElem_cons_drop
variable {C : WProg}
structure HasWo (C : WProg) : Prop extends HasHd C
end Go.D
end
section
set_option linter.unusedSimpArgs false
set_option linter.unusedVariables false
namespace Go.D
open Go Go.Pav Go.Pw P
set_option maxRecDepth 10000
set_option maxHeartbeats 4000000
set_option linter.unusedSimpArgs false
set_option linter.unusedVariables false
attribute [-simp] List.getElem_cons_drop
variable {C : WProg}
theorem hrA_bd' (ks : List Kd) (l : List En) (s : Int) : -1 ≤ hrA ks l s ∧ hrA ks l s < l.length := hrF_bd ks l s l.length 0 (-1) (by simp) (by omega)
end Go.D
end
section
set_option linter.unusedSimpArgs false
set_option linter.unusedVariables false
namespace Go.D
open Go Go.Pav Go.Pw P
set_option maxRecDepth 10000
set_option maxHeartbeats 4000000
set_option linter.unusedSimpArgs false
set_option linter.unusedVariables false
attribute [-simp] List.getElem_cons_drop
variable {C : WProg}
end Go.D
end
section
set_option linter.unusedSimpArgs false
set_option linter.unusedVariables false
namespace Go.D
open Go Go.Pav Go.Pw P
set_option maxRecDepth 10000
set_option maxHeartbeats 4000000
set_option linter.unusedSimpArgs false
set_option linter.unusedVariables false
attribute [-simp] List.getElem_cons_drop
variable {C : WProg}
structure HasH30 (C : WProg) : Prop extends HasWo C, HasA30 C where
 f305 : C.fns.get 305 = some w305
 f448 : C.fns.get 448 = some w448
 f308 : C.fns.get 308 = some w308
 f306 : C.fns.get 306 = some w306
def hdI (ks : List Kd) : List En → Nat → List Int
 | [], _ => []
 | x :: r, i => if (kdAt ks x.i.t).st = true then (i : Int) :: hdI ks r (i + 1) else hdI ks r (i + 1)
theorem hdI_mem (ks : List Kd) : ∀ (l : List En) (i : Nat) (x : Int), x ∈ hdI ks l i ↔ ∃ k : Nat, x = ((i + k : Nat) : Int) ∧ ∃ h : k < l.length, (kdAt ks l[k].i.t).st = true := by
 intro l
 induction l with
 | nil => intro i x; simp [hdI]
 | cons y r ih =>
  intro i x
  have key : (x ∈ hdI ks (y :: r) i) ↔ ((kdAt ks y.i.t).st = true ∧ x = i) ∨ x ∈ hdI ks r (i + 1) := by
   rw [hdI]
   by_cases c : (kdAt ks y.i.t).st = true
   · rw [if_pos c]; simp [c]
   · rw [if_neg c]; simp [c]
  rw [key, ih (i + 1) x]
  constructor
  · rintro (⟨q1, q2⟩ | ⟨k, q1, q2, q3⟩)
    · exact ⟨0, by simpa using q2, by simp, by simpa using q1⟩
    · exact ⟨k + 1, by rw [q1]; congr 1; omega, by simpa using q2, by simpa using q3⟩
  · rintro ⟨k, q1, q2, q3⟩
    cases k with
    | zero => exact .inl ⟨by simpa using q3, by simpa using q1⟩
    | succ k => exact .inr ⟨k, by rw [q1]; congr 1; omega, by simpa using q2, by simpa using q3⟩
theorem hdI_ris (ks : List Kd) : ∀ (l : List En) (i : Nat) (p : Int), p < i → risB p (hdI ks l i) = true := by
 intro l
 induction l with
 | nil => intro i p _; rfl
 | cons y r ih =>
  intro i p hp
  rw [hdI]
  split
  · rw [risB, ih (i + 1) i (by omega)]; simp [hp]
  · exact ih (i + 1) p (by omega)
theorem hdI_len (ks : List Kd) : ∀ (l : List En) (i : Nat), (hdI ks l i).length ≤ l.length := by
 intro l
 induction l with
 | nil => intro i; simp [hdI]
 | cons y r ih =>
  intro i
  have := ih (i + 1)
  rw [hdI]
  split <;> simp only [List.length_cons] <;> omega
theorem ex448_ok (H : HasH30 C) (a : List Int) (e : Bool) (hl : a.length ≤ 1000000) : FnW C 448 [.ro 1 (a.map eI) e] = some (.ro 1 (a.map eI) true) := by
 rw [fnW_eq H.f448 rfl]
 by_cases c : a = []
 · subst c; simp [w448]
 · have h2 : a.length * 9 ≤ 35184372088832 := by omega
   have h3 : ¬ a.length = 0 := fun q => c (List.eq_nil_of_length_eq_zero q)
   have h4 : List.take a.length (a.map eI) = a.map eI := List.take_of_length_le (by simp)
   simp (disch := omega) [w448, c, h2, h3, h4]
theorem ex306_ok (H : HasH30 C) (a : List Se) (e : Bool) (hl : a.length ≤ 1000000) : FnW C 306 [.ro 4 (a.map eSe) e] = some (.ro 4 (a.map eSe) true) := by
 rw [fnW_eq H.f306 rfl]
 by_cases c : a = []
 · subst c; simp [w306]
 · have h2 : a.length * 33 ≤ 35184372088832 := by omega
   have h3 : ¬ a.length = 0 := fun q => c (List.eq_nil_of_length_eq_zero q)
   have h4 : List.take a.length (a.map eSe) = a.map eSe := List.take_of_length_le (by simp)
   simp (disch := omega) [w306, c, h2, h3, h4]
theorem hdr_loop (H : HasH30 C) (ks : List Kd) (ke : Bool) (cap : Int) (l : List En) (e : Bool) (hl : l.length ≤ 1024) (ht : ∀ x ∈ l, 0 ≤ x.i.t ∧ x.i.t < ks.length) : ∀ n i, n + i = l.length → ∀ G : List Int, G.length ≤ i →
 w305_K0 C ⟨[(19, .int .i64 i), (18, .int .i64 l.length), (17, .ro 6 (l.map eEn) e), (7, .sl 0 1 0 G.length G.length false), (2, .ptr 1 0 0)], [(0, .cells 1 (G.map eI) true true), (1, .cells 2 [[.ro 9 (ks.map eKd) ke, .int .i64 cap]] true true)], 2⟩ = some (.tup [.ro 1 ((G ++ hdI ks (l.drop i) i).map eI) true, .int .i64 0]) := by
 intro n
 induction n with
 | zero =>
  intro i hi G hG
  have h3 : ¬ i < l.length := by omega
  have h1 : l.drop i = [] := List.drop_eq_nil_of_le (by omega)
  have h4 : List.take G.length (G.map eI) = G.map eI := List.take_of_length_le (by simp)
  have hx := ex448_ok H G false (by omega)
  rw [h1, hdI, List.append_nil]
  simp only [w305_K0]; rw [ck_unf w305_B0.eq_1]
  simp (disch := omega) [ck_unf w305_c0.eq_1, h3, h4, hx, H.inl, inlB, H.pp, ppB]
 | succ n ih =>
  intro i hi G hG
  have h1 : i < l.length := by omega
  have hx := ht _ (List.getElem_mem h1)
  obtain ⟨t, hT⟩ : ∃ t : Nat, l[i].i.t = t := ⟨l[i].i.t.toNat, by omega⟩
  have h4 : t < ks.length := by omega
  have hfit : (G.length + 1) * 9 ≤ 35184372088832 := by omega
  rw [drop_cons h1, hdI]
  simp only [hT, kdAt_get h4]
  cases c : ks[t].st
  · rw [if_neg (by simp)]
    have this := ih (i + 1) (by omega) G (by omega)
    generalize hdI ks (l.drop (i + 1)) (i + 1) = R at *
    simp only [w305_K0] at this ⊢; rw [ck_unf w305_B0.eq_1]
    simp at this
    simp (disch := omega) [h1, hT, h4, c, wI64, H.inl, inlB, H.pp, ppB, this]
  · rw [if_pos rfl]
    have this := ih (i + 1) (by omega) (G ++ [(i : Int)]) (by simp; omega)
    rw [show G ++ (i : Int) :: hdI ks (l.drop (i + 1)) (i + 1) = (G ++ [(i : Int)]) ++ hdI ks (l.drop (i + 1)) (i + 1) by simp]
    generalize (G ++ [(i : Int)]) ++ hdI ks (l.drop (i + 1)) (i + 1) = R at *
    simp only [w305_K0] at this ⊢; rw [ck_unf w305_B0.eq_1]
    simp at this
    simp (disch := omega) [h1, hT, h4, c, hfit, wI64, H.inl, inlB, H.pp, ppB, this]
theorem headers_ok (H : HasH30 C) (ks : List Kd) (ke : Bool) (cap : Int) (hr : RuIn ks) (l : List En) (e : Bool) (hl : l.length ≤ 1024) (hs : ∀ x ∈ l, EnIn x) (ht : ckE ks cap l = 0 → ∀ x ∈ l, 0 ≤ x.i.t ∧ x.i.t < ks.length) :
 FnW C 305 [aR ks ke cap, aL l e] = some (.tup [.ro 1 ((if ckE ks cap l = 0 then hdI ks l 0 else []).map eI) true, .int .i64 (ckE ks cap l)]) := by
 have h1 := lcheck_ok H.toHasK ks ke cap hr l e (by omega) hs
 rw [fnW_eq H.f305 rfl]
 by_cases c : ckE ks cap l = 0
 · have k := hdr_loop H ks ke cap l e hl (ht c) l.length 0 (by simp) [] (by simp)
   rw [List.drop_zero, List.nil_append] at k
   rw [c] at h1
   rw [if_pos c, c]
   generalize hdI ks l 0 = R at *
   simp only [w305_K0] at k
   try simp at k
   simp (disch := omega) [w305, h1, k, H.inl, inlB, H.pp, ppB]
 · rw [if_neg c]
   generalize ckE ks cap l = B at *
   simp (disch := omega) [w305, h1, c, H.inl, inlB, H.pp, ppB]
theorem rhdr_loop (H : HasH30 C) (ks : List Kd) (ke : Bool) (cap : Int) (l : List En) (e : Bool) (hl : l.length ≤ 1024) (ht : ∀ x ∈ l, 0 ≤ x.i.t ∧ x.i.t < ks.length) : ∀ n i, n + i = l.length → ∀ G : List Int, G.length ≤ i →
 w308_K0 C ⟨[(6, .int .i64 i), (5, .sl 0 1 0 G.length G.length false), (2, .ptr 1 0 0), (1, .ro 6 (l.map eEn) e)], [(0, .cells 1 (G.map eI) true true), (1, .cells 2 [[.ro 9 (ks.map eKd) ke, .int .i64 cap]] true true)], 2⟩ = some (.ro 1 ((G ++ hdI ks (l.drop i) i).map eI) false) := by
 intro n
 induction n with
 | zero =>
  intro i hi G hG
  have h3 : ¬ i < l.length := by omega
  have h1 : l.drop i = [] := List.drop_eq_nil_of_le (by omega)
  have h4 : List.take G.length (G.map eI) = G.map eI := List.take_of_length_le (by simp)
  rw [h1, hdI, List.append_nil]
  simp only [w308_K0]; rw [ck_unf w308_B0.eq_1]
  simp (disch := omega) [ck_unf w308_c0.eq_1, h3, h4, H.inl, inlB, H.pp, ppB]
 | succ n ih =>
  intro i hi G hG
  have h1 : i < l.length := by omega
  have hx := ht _ (List.getElem_mem h1)
  have hfit : (G.length + 1) * 9 ≤ 35184372088832 := by omega
  have hst := sticky_ok H.toHasHd ks ke cap l[i] hx
  simp only [aR, eEn] at hst
  rw [drop_cons h1, hdI]
  cases c : (kdAt ks l[i].i.t).st
  · rw [if_neg (by simp)]
    rw [c] at hst
    have this := ih (i + 1) (by omega) G (by omega)
    generalize hdI ks (l.drop (i + 1)) (i + 1) = R at *
    simp only [w308_K0] at this ⊢; rw [ck_unf w308_B0.eq_1]
    simp at this
    simp (disch := omega) [h1, hst, wI64, H.inl, inlB, H.pp, ppB, this]
  · rw [if_pos rfl]
    rw [c] at hst
    have this := ih (i + 1) (by omega) (G ++ [(i : Int)]) (by simp; omega)
    rw [show G ++ (i : Int) :: hdI ks (l.drop (i + 1)) (i + 1) = (G ++ [(i : Int)]) ++ hdI ks (l.drop (i + 1)) (i + 1) by simp]
    generalize (G ++ [(i : Int)]) ++ hdI ks (l.drop (i + 1)) (i + 1) = R at *
    simp only [w308_K0] at this ⊢; rw [ck_unf w308_B0.eq_1]
    simp at this
    simp (disch := omega) [h1, hst, hfit, wI64, H.inl, inlB, H.pp, ppB, this]
theorem rheaders_ok (H : HasH30 C) (ks : List Kd) (ke : Bool) (cap : Int) (l : List En) (e : Bool) (hl : l.length ≤ 1024) (ht : ∀ x ∈ l, 0 ≤ x.i.t ∧ x.i.t < ks.length) :
 FnW C 308 [aR ks ke cap, .ro 6 (l.map eEn) e] = some (.ro 1 ((hdI ks l 0).map eI) false) := by
 have k := rhdr_loop H ks ke cap l e hl ht l.length 0 (by simp) [] (by simp)
 rw [List.drop_zero, List.nil_append] at k
 generalize hdI ks l 0 = R at *
 rw [fnW_eq H.f308 rfl]
 simp only [w308_K0] at k
 try simp at k
 simp (disch := omega) [w308, k, H.inl, inlB, H.pp, ppB]
end Go.D
end
section
set_option linter.unusedSimpArgs false
set_option linter.unusedVariables false
namespace Go.D
open Go Go.Pav Go.Pw P
set_option maxRecDepth 10000
set_option maxHeartbeats 4000000
set_option linter.unusedSimpArgs false
set_option linter.unusedVariables false
attribute [-simp] List.getElem_cons_drop
variable {C : WProg}
structure HasS30 (C : WProg) : Prop extends HasH30 C where
 f307 : C.fns.get 307 = some w307
 f449 : C.fns.get 449 = some w449
 f152 : C.fns.get 152 = some w152
 f303 : C.fns.get 303 = some w303
 f148 : C.fns.get 148 = some w148
 f310 : C.fns.get 310 = some w310
 f150 : C.fns.get 150 = some w150
def secF (ks : List Kd) (l : List En) (tot : Int) : Nat → Nat → Int → Int → List Se
 | 0, _, h, f => [⟨h, f, tot, tot⟩]
 | n + 1, i, h, f => if stk ks l i = true then ⟨h, f, top l i, if 0 ≤ h then top l i - szI l h + 1 else top l i⟩ :: secF ks l tot n (i + 1) i (top l i) else secF ks l tot n (i + 1) h f
def secA (ks : List Kd) (l : List En) : List Se :=
 if l.length = 0 then [] else secF ks l (top l l.length) (l.length - 1) 1 (if stk ks l 0 = true then 0 else -1) 0
theorem se_get (A : List Se) (c : List AV) : (List.map eSe A ++ [c])[A.length]? = some c := by
 rw [List.getElem?_append_right (by simp)]; simp
theorem se_set (A : List Se) (c d : List AV) : (List.map eSe A ++ [c]).set A.length d = List.map eSe A ++ [d] := by
 rw [List.set_append, if_neg (by simp)]; simp
theorem stk_mem (ks : List Kd) (l : List En) (i : Nat) (h : i < l.length) : ((i : Int) ∈ hdI ks l 0) ↔ stk ks l i = true := by
 rw [hdI_mem, stk_get h]
 constructor
 · rintro ⟨k, q1, q2, q3⟩
   have : k = i := by omega
   subst this; exact q3
 · intro q; exact ⟨i, by simp, h, q⟩
theorem top_b {l : List En} (hz : Szd l) (i : Nat) (hi : i ≤ l.length) : 0 ≤ top l i ∧ top l i ≤ 4611686018427387904 := by
 have h1 := hz.mono (i := 0) (j := i) (by omega) hi
 have h2 := hz.mono (i := i) (j := l.length) hi (by omega)
 have h3 := hz.t
 have h4 : top l l.length = sm l := by unfold top; rw [List.take_of_length_le (by omega)]
 rw [top_0] at h1
 omega
theorem clos_ok (H : HasS30 C) (l : List En) (hz : Szd l) (A : List Se) (hA : A.length ≤ 1024) (h f : Int) :
 RnW C 449 [.ptr 0 0 0, .ptr 2 0 0] [(0, .cells 1 [[.sl 1 4 0 (A.length + 1) (A.length + 1) false]] true false), (1, .cells 4 (A.map eSe ++ [eSe ⟨h, f, 0, 0⟩]) true true), (2, .cells 1 [[.ro 1 ((tps l).map eI) true]] true true)] 4 =
  some (.tup [], [(0, .cells 1 [[.sl 1 4 0 (A.length + 1) (A.length + 1) false]] true false), (1, .cells 4 (A.map eSe ++ [eSe ⟨h, f, top l l.length, top l l.length⟩]) true true), (2, .cells 1 [[.ro 1 ((tps l).map eI) true]] true true)], 25) := by
 have hn := hz.n
 have hg := se_get A
 have hs := se_set A
 have h5 : l.length < (tps l).length := by rw [tps_len]; omega
 have h6 := tps_get l h5
 have h8 : (tps l).length = l.length + 1 := tps_len l
 rw [rnW_eq (args := [.ptr 0 0 0, .ptr 2 0 0]) H.f449 rfl]
 simp only [eSe]
 simp (disch := omega) [w449, hg, hs, h6, h8, wI64, H.inl, inlB, H.pp, ppB]
theorem sec_loop (H : HasS30 C) (ks : List Kd) (l : List En) (e : Bool) (hz : Szd l) : ∀ n i, n + i = l.length → ∀ (A : List Se) (h f : Int), A.length ≤ i → (h < 0 ∨ (0 ≤ h ∧ h < l.length)) →
 w307_K0 C ⟨[(21, .int .i64 i), (20, .int .i64 l.length), (17, .fn 449 [.ptr 0 0 0, .ptr 2 0 0]), (5, .ptr 2 0 0), (4, .ptr 0 0 0), (2, .rop [.ro 6 (l.map eEn) e]), (1, .ro 1 ((hdI ks l 0).map eI) true)],
  [(0, .cells 1 [[.sl 1 4 0 (A.length + 1) (A.length + 1) false]] true false), (1, .cells 4 (A.map eSe ++ [eSe ⟨h, f, 0, 0⟩]) true true), (2, .cells 1 [[.ro 1 ((tps l).map eI) true]] true true)], 3⟩ = some (.ro 4 ((A ++ secF ks l (top l l.length) n i h f).map eSe) false) := by
 have hn := hz.n
 intro n
 induction n with
 | zero =>
  intro i hi A h f hA hh
  have h3 : ¬ i < l.length := by omega
  have hg := se_get A
  have hs := se_set A
  have h5 : l.length < (tps l).length := by rw [tps_len]; omega
  have h6 := tps_get l h5
  have h7 : List.take (A.length + 1) (A.map eSe ++ [eSe ⟨h, f, top l l.length, top l l.length⟩]) = A.map eSe ++ [eSe ⟨h, f, top l l.length, top l l.length⟩] := List.take_of_length_le (by simp)
  have h8 : (tps l).length = l.length + 1 := tps_len l
  rw [secF]
  simp only [eSe] at h7 ⊢
  simp only [w307_K0]; rw [ck_unf w307_B0.eq_1]
  have hcl := clos_ok H l hz A (by omega) h f
  simp only [eSe] at hcl
  simp (disch := omega) [ck_unf w307_c0.eq_1, hcl, h3, h7, eSe, wI64, H.inl, inlB, H.pp, ppB]
 | succ n ih =>
  intro i hi A h f hA hh
  have h1 : i < l.length := by omega
  obtain ⟨r, hb⟩ := bs_ok H.toHasWn (hdI ks l 0) true i (by have := hdI_len ks l 0; omega) (hdI_ris ks l 0 (-1) (by omega))
  have hdec : decide ((i : Int) ∈ hdI ks l 0) = stk ks l i := by
   have := stk_mem ks l i h1
   cases c : stk ks l i
   · rw [c] at this; simpa using this
   · rw [c] at this; simpa using this
  rw [hdec] at hb
  have hg := se_get A
  have hs := se_set A
  have h5 : i < (tps l).length := by rw [tps_len]; omega
  have h6 := tps_get l h5
  have hfit : (A.length + 1 + 1) * 33 ≤ 35184372088832 := by omega
  have htb := top_b hz i (by omega)
  rw [secF]
  cases c : stk ks l i
  · rw [if_neg (by simp)]
    rw [c] at hb
    have this := ih (i + 1) (by omega) A h f (by omega) hh
    generalize A ++ secF ks l (top l l.length) n (i + 1) h f = R at *
    simp only [eSe] at this ⊢
    simp only [w307_K0] at this ⊢; rw [ck_unf w307_B0.eq_1]
    simp at this
    simp (disch := omega) [h1, hb, wI64, H.inl, inlB, H.pp, ppB, this]
  · rw [if_pos rfl]
    rw [c] at hb
    by_cases d : 0 ≤ h
    · rw [if_pos d]
      obtain ⟨t, rfl⟩ : ∃ t : Nat, h = t := ⟨h.toNat, by omega⟩
      have htl : t < l.length := by omega
      have hst := hz.s _ (List.getElem_mem htl)
      have hsz := szI_get (l := l) htl
      have this := ih (i + 1) (by omega) (A ++ [⟨t, f, top l i, top l i - szI l t + 1⟩]) i (top l i) (by simp; omega) (.inr ⟨by omega, by omega⟩)
      rw [show A ++ (⟨t, f, top l i, top l i - szI l t + 1⟩ : Se) :: secF ks l (top l l.length) n (i + 1) i (top l i) = (A ++ [⟨t, f, top l i, top l i - szI l t + 1⟩]) ++ secF ks l (top l l.length) n (i + 1) i (top l i) by simp]
      generalize (A ++ [(⟨t, f, top l i, top l i - szI l t + 1⟩ : Se)]) ++ secF ks l (top l l.length) n (i + 1) i (top l i) = R at *
      rw [hsz] at this
      simp only [eSe] at this ⊢
      simp only [w307_K0] at this ⊢; rw [ck_unf w307_B0.eq_1]
      simp [eSe] at this
      simp (disch := omega) [h1, hb, hg, hs, h5, h6, htl, hfit, wI64, H.inl, inlB, H.pp, ppB, this]
    · rw [if_neg d]
      have this := ih (i + 1) (by omega) (A ++ [⟨h, f, top l i, top l i⟩]) i (top l i) (by simp; omega) (.inr ⟨by omega, by omega⟩)
      rw [show A ++ (⟨h, f, top l i, top l i⟩ : Se) :: secF ks l (top l l.length) n (i + 1) i (top l i) = (A ++ [⟨h, f, top l i, top l i⟩]) ++ secF ks l (top l l.length) n (i + 1) i (top l i) by simp]
      generalize (A ++ [(⟨h, f, top l i, top l i⟩ : Se)]) ++ secF ks l (top l l.length) n (i + 1) i (top l i) = R at *
      simp only [eSe] at this ⊢
      simp only [w307_K0] at this ⊢; rw [ck_unf w307_B0.eq_1]
      simp [eSe] at this
      simp (disch := omega) [h1, hb, hg, hs, h5, h6, d, hfit, wI64, H.inl, inlB, H.pp, ppB, this]
end Go.D
end
section
set_option linter.unusedSimpArgs false
set_option linter.unusedVariables false
namespace Go.D
open Go Go.Pav Go.Pw P
set_option maxRecDepth 10000
set_option maxHeartbeats 4000000
set_option linter.unusedSimpArgs false
set_option linter.unusedVariables false
attribute [-simp] List.getElem_cons_drop
variable {C : WProg}
structure HasR30 (C : WProg) : Prop extends HasS30 C where
 f154 : C.fns.get 154 = some w154
def fillS (l : List En) (tot : Int) : List (Int × Int) → List Se
 | [] => []
 | [(h, f)] => [⟨h, f, tot, tot⟩]
 | (h, f) :: (h2, f2) :: r => ⟨h, f, f2, if 0 ≤ h then f2 - szI l h + 1 else f2⟩ :: fillS l tot ((h2, f2) :: r)
def hdP (l : List En) (a : List Int) : List (Int × Int) := a.map fun x => (x, top l x.toNat)
theorem fill_sec (ks : List Kd) (l : List En) : ∀ n i, n + i = l.length → ∀ h f, fillS l (top l l.length) ((h, f) :: hdP l (hdI ks (l.drop i) i)) = secF ks l (top l l.length) n i h f := by
 intro n
 induction n with
 | zero =>
  intro i hi h f
  have h1 : l.drop i = [] := List.drop_eq_nil_of_le (by omega)
  rw [h1, secF]; rfl
 | succ n ih =>
  intro i hi h f
  have h1 : i < l.length := by omega
  rw [drop_cons h1, hdI, secF, stk_get h1]
  by_cases c : (kdAt ks l[i].i.t).st = true
  · rw [if_pos c, if_pos c]
    have := ih (i + 1) (by omega) i (top l i)
    unfold hdP at this ⊢
    rw [List.map_cons, show ((i : Int)).toNat = i from rfl, fillS, this]
  · rw [if_neg c, if_neg c]
    exact ih (i + 1) (by omega) h f
def hdQ (ks : List Kd) (l : List En) : List (Int × Int) := (if stk ks l 0 = true then [] else [(-1, 0)]) ++ hdP l (hdI ks l 0)
theorem hdQ_sec (ks : List Kd) (l : List En) (hl : 0 < l.length) : fillS l (top l l.length) (hdQ ks l) = secA ks l := by
 unfold secA hdQ
 rw [if_neg (show ¬ l.length = 0 by omega)]
 have key := fill_sec ks l (l.length - 1) 1 (by omega)
 have h0 : l = l[0] :: l.drop 1 := by
  have := drop_cons hl
  simpa using this
 have h1 : hdI ks l 0 = if stk ks l 0 = true then (0 : Int) :: hdI ks (l.drop 1) 1 else hdI ks (l.drop 1) 1 := by
  rw [stk_get hl]
  conv => lhs; rw [h0]
  rw [hdI]; rfl
 rw [h1]
 by_cases c : stk ks l 0 = true
 · rw [if_pos c, if_pos c, if_pos c, List.nil_append]
   exact key 0 0
 · rw [if_neg c, if_neg c, if_neg c, List.singleton_append]
   exact key (-1) 0
def opS (q : List (Int × Int)) : List Se := q.map fun x => ⟨x.1, x.2, 0, 0⟩
theorem rs_heads (H : HasR30 C) (ks : List Kd) (l : List En) (e : Bool) (hz : Szd l) (R : AV) (hnext : ∀ B : List (Int × Int), B = hdQ ks l → CK C 0 (pureFin [.tmp 4]) [] w154_c1 ⟨[(6, .sl 0 4 0 B.length B.length false), (1, .ro 6 (l.map eEn) e)], [(0, .cells 4 ((opS B).map eSe) true true)], 1⟩ = some R) :
 ∀ n i, n + i = (hdI ks l 0).length → ∀ Q : List (Int × Int), Q.length ≤ i + 1 → Q ++ hdP l ((hdI ks l 0).drop i) = hdQ ks l →
 w154_K1 C ⟨[(7, .int .i64 i), (6, .sl 0 4 0 Q.length Q.length false), (5, .ro 1 ((hdI ks l 0).map eI) false), (1, .ro 6 (l.map eEn) e)], [(0, .cells 4 ((opS Q).map eSe) true true)], 1⟩ = some R := by
 have hn := hz.n
 have hll := hdI_len ks l 0
 intro n
 induction n with
 | zero =>
  intro i hi Q hQ hq
  have h3 : ¬ i < (hdI ks l 0).length := by omega
  have h1 : (hdI ks l 0).drop i = [] := List.drop_eq_nil_of_le (by omega)
  rw [h1] at hq
  have hnext := hnext Q (by simpa [hdP] using hq)
  try simp at hnext
  simp only [w154_K1]; rw [ck_unf w154_B1.eq_1]
  simp (disch := omega) [h3, hnext]
 | succ n ih =>
  intro i hi Q hQ hq
  have h1 : i < (hdI ks l 0).length := by omega
  have hm := (hdI_mem ks l 0 (hdI ks l 0)[i]).1 (List.getElem_mem h1)
  obtain ⟨t, hT, htl, _⟩ := hm
  rw [Nat.zero_add] at hT
  have htop := rtop_ok H.toHasSz l e hz t (by omega)
  have hfit : (Q.length + 1) * 33 ≤ 35184372088832 := by omega
  rw [drop_cons h1] at hq
  have this := ih (i + 1) (by omega) (Q ++ [((t : Int), top l t)]) (by simp; omega) (by
   rw [← hq]; unfold hdP; rw [List.map_cons, hT]; simp)
  simp only [w154_K1] at this ⊢; rw [ck_unf w154_B1.eq_1]
  simp [opS, eSe] at this
  simp (disch := omega) [h1, hT, htop, hfit, opS, eSe, wI64, H.inl, inlB, H.pp, ppB, this]
theorem rs_fill (H : HasR30 C) (ks : List Kd) (l : List En) (e : Bool) (hz : Szd l) (N : Nat) (hN : N ≤ 1030) : ∀ (r : List (Int × Int)) (A : List Se), A.length + r.length = N → (∀ x ∈ r, x.1 < 0 ∨ (0 ≤ x.1 ∧ x.1 < l.length)) → (∀ x ∈ r, 0 ≤ x.2 ∧ x.2 ≤ 4611686018427387904) →
 w154_K0 C ⟨[(8, .int .i64 A.length), (6, .sl 0 4 0 N N false), (1, .ro 6 (l.map eEn) e)], [(0, .cells 4 (A.map eSe ++ (opS r).map eSe) true true)], 1⟩ = some (.ro 4 ((A ++ fillS l (top l l.length) r).map eSe) false) := by
 have hn := hz.n
 have htt := rtop_ok H.toHasSz l e hz l.length (Nat.le_refl _)
 intro r
 induction r with
 | nil =>
  intro A hA _ _
  have hA2 : A.length = N := by simpa using hA
  have h4 : List.take N (A.map eSe) = A.map eSe := List.take_of_length_le (by simp; omega)
  have h5 : ¬ A.length < N := by omega
  have h6 : N ≤ A.length := by omega
  simp only [fillS, opS, List.map_nil, List.append_nil]
  simp only [w154_K0]; rw [ck_unf w154_B0.eq_1]
  simp (disch := omega) [ck_unf w154_c0.eq_1, hA2, h4, h5, h6, H.inl, inlB, H.pp, ppB]
 | cons x r ih =>
  intro A hA hr hr2
  obtain ⟨h, f⟩ := x
  have hh := hr (h, f) (by simp)
  have g1 : ∀ (c : List AV) (d : List (List AV)), (List.map eSe A ++ c :: d)[A.length]? = some c := fun c d => by rw [List.getElem?_append_right (by simp)]; simp
  have g2 : ∀ (c d2 : List AV) (d : List (List AV)), (List.map eSe A ++ c :: d).set A.length d2 = List.map eSe A ++ d2 :: d := fun c d2 d => by rw [List.set_append, if_neg (by simp)]; simp
  have g3 : ∀ (c c2 : List AV) (d : List (List AV)), (List.map eSe A ++ c :: c2 :: d)[A.length + 1]? = some c2 := fun c c2 d => by rw [List.getElem?_append_right (by simp)]; simp
  simp only [List.length_cons] at hA
  have h1 : A.length < N := by omega
  have h1i : (A.length : Int) < N := by omega
  cases r with
  | nil =>
   have h2i : ¬ (A.length : Int) + 1 < N := by simp at hA; omega
   have this := ih (A ++ [⟨h, f, top l l.length, top l l.length⟩]) (by simp at hA ⊢; omega) (by simp) (by simp)
   simp [fillS, opS, eSe] at this ⊢
   simp only [w154_K0] at this ⊢; rw [ck_unf w154_B0.eq_1]
   simp (disch := omega) [h1, h1i, h2i, g1, g2, htt, wI64, H.inl, inlB, H.pp, ppB, this]
  | cons y r =>
   obtain ⟨h2, f2⟩ := y
   have hf2 := hr2 (h2, f2) (by simp)
   simp only [List.length_cons] at hA
   have h3 : A.length + 1 < N := by omega
   have h3i : (A.length : Int) + 1 < N := by omega
   by_cases d : 0 ≤ h
   · obtain ⟨t, rfl⟩ : ∃ t : Nat, h = t := ⟨h.toNat, by omega⟩
     have htl : t < l.length := by omega
     have hst := hz.s _ (List.getElem_mem htl)
     have hsz := szI_get (l := l) htl
     have this := ih (A ++ [⟨t, f, f2, f2 - szI l t + 1⟩]) (by simp; omega) (fun x hx => hr x (List.mem_cons_of_mem _ hx)) (fun x hx => hr2 x (List.mem_cons_of_mem _ hx))
     rw [hsz] at this
     rw [fillS, if_pos d, hsz]
     generalize fillS l (top l l.length) ((h2, f2) :: r) = F at *
     simp [opS, eSe] at this ⊢
     simp only [w154_K0] at this ⊢; rw [ck_unf w154_B0.eq_1]
     simp (disch := omega) [h1, h1i, h3, h3i, g1, g2, g3, htt, htl, d, wI64, H.inl, inlB, H.pp, ppB, this]
   · have this := ih (A ++ [⟨h, f, f2, f2⟩]) (by simp; omega) (fun x hx => hr x (List.mem_cons_of_mem _ hx)) (fun x hx => hr2 x (List.mem_cons_of_mem _ hx))
     rw [fillS, if_neg d]
     generalize fillS l (top l l.length) ((h2, f2) :: r) = F at *
     simp [opS, eSe] at this ⊢
     simp only [w154_K0] at this ⊢; rw [ck_unf w154_B0.eq_1]
     simp (disch := omega) [h1, h1i, h3, h3i, g1, g2, g3, htt, d, wI64, H.inl, inlB, H.pp, ppB, this]
theorem hdQ_len (ks : List Kd) (l : List En) : (hdQ ks l).length ≤ l.length + 1 := by
 have := hdI_len ks l 0
 unfold hdQ hdP
 rw [List.length_append, List.length_map]
 split <;> simp <;> omega
theorem hdQ_bd (ks : List Kd) (l : List En) (hz : Szd l) : ∀ x ∈ hdQ ks l, (x.1 < 0 ∨ (0 ≤ x.1 ∧ x.1 < l.length)) ∧ (0 ≤ x.2 ∧ x.2 ≤ 4611686018427387904) := by
 intro x hx
 unfold hdQ hdP at hx
 rcases List.mem_append.1 hx with q | q
 · split at q
   · cases q
   · rw [List.mem_singleton] at q; subst q; exact ⟨.inl (by simp), by simp⟩
 · obtain ⟨y, hy, rfl⟩ := List.mem_map.1 q
   obtain ⟨k, q1, q2, _⟩ := (hdI_mem ks l 0 y).1 hy
   rw [Nat.zero_add] at q1
   subst q1
   exact ⟨.inr ⟨by simp only; omega, by simp only; omega⟩, top_b hz k (by omega)⟩
theorem rsections_ok (H : HasR30 C) (ks : List Kd) (ke : Bool) (cap : Int) (l : List En) (e : Bool) (hz : Szd l) (ht : ∀ x ∈ l, 0 ≤ x.i.t ∧ x.i.t < ks.length) :
 ∃ fl, FnW C 154 [aR ks ke cap, .ro 6 (l.map eEn) e] = some (.ro 4 ((secA ks l).map eSe) fl) := by
 have hn := hz.n
 rw [fnW_eq H.f154 rfl]
 by_cases c : l.length = 0
 · have hnil : l = [] := List.eq_nil_of_length_eq_zero c
   subst hnil
   refine ⟨true, ?_⟩
   simp (disch := omega) [w154, secA, H.inl, inlB, H.pp, ppB]
 · refine ⟨false, ?_⟩
   have h0 : 0 < l.length := by omega
   have hl0 : ¬ l = [] := fun q => c (by rw [q]; rfl)
   have h1 := rheaders_ok H.toHasH30 ks ke cap l e hn ht
   have hq := hdQ_len ks l
   have hqb := hdQ_bd ks l hz
   have k := rs_heads H ks l e hz (.ro 4 ((secA ks l).map eSe) false) (by
    intro B hB
    subst hB
    have k2 := rs_fill H ks l e hz (hdQ ks l).length (by omega) (hdQ ks l) [] (by simp) (fun x hx => (hqb x hx).1) (fun x hx => (hqb x hx).2)
    rw [hdQ_sec ks l h0] at k2
    generalize hdQ ks l = Q at *
    simp only [w154_K0] at k2
    simp at k2
    rw [ck_unf w154_c1.eq_1]
    simp (disch := omega) [k2]) (hdI ks l 0).length 0 (by simp) (if stk ks l 0 = true then [] else [(-1, 0)]) (by split <;> simp) (by rw [List.drop_zero]; rfl)
   have hsplit : (stk ks l 0 = true → 0 < (hdI ks l 0).length ∧ ∀ h : 0 < (hdI ks l 0).length, (hdI ks l 0)[0] = 0) ∧ (stk ks l 0 = false → (hdI ks l 0).length = 0 ∨ ∀ h : 0 < (hdI ks l 0).length, 0 < (hdI ks l 0)[0]) := by
    constructor
    · intro q
      have hm := (stk_mem ks l 0 h0).2 q
      have hp : 0 < (hdI ks l 0).length := List.length_pos_of_mem hm
      refine ⟨hp, fun h => ?_⟩
      have hlc : l = l[0] :: l.drop 1 := by
       have := drop_cons h0
       simpa using this
      have hst := q
      rw [stk_get h0] at hst
      have : hdI ks l 0 = 0 :: hdI ks (l.drop 1) 1 := by
       conv => lhs; rw [hlc]
       rw [hdI, if_pos hst]; rfl
      simp only [this, List.getElem_cons_zero]
    · intro q
      by_cases g : (hdI ks l 0).length = 0
      · exact .inl g
      · refine .inr fun h => ?_
        obtain ⟨t, q1, q2, _⟩ := (hdI_mem ks l 0 _).1 (List.getElem_mem h)
        rw [Nat.zero_add] at q1
        have : t ≠ 0 := by
         intro z
         subst z
         have hm : ((0 : Nat) : Int) ∈ hdI ks l 0 := by rw [← q1]; exact List.getElem_mem h
         have := (stk_mem ks l 0 h0).1 hm
         rw [q] at this; cases this
        omega
   cases d : stk ks l 0
   · rw [if_neg (by rw [d]; simp)] at k
     have hs := hsplit.2 d
     generalize hdI ks l 0 = D at *
     generalize secA ks l = S at *
     simp only [w154_K1] at k
     simp [opS, eSe] at k
     by_cases g : D.length = 0
     · have gn : D = [] := List.eq_nil_of_length_eq_zero g
       subst gn
       simp at k h1
       simp (disch := omega) [w154, hl0, h0, h1, k, wI64, eSe, H.inl, inlB, H.pp, ppB]
     · have g0 : 0 < D.length := by omega
       have g1 : (0 : Int) < D[0] := (hs.resolve_left g) g0
       have g2 : ¬ D = [] := fun q => g (by rw [q]; rfl)
       simp (disch := omega) [w154, hl0, h0, h1, g0, g1, g2, k, wI64, eSe, H.inl, inlB, H.pp, ppB]
   · rw [if_pos d] at k
     obtain ⟨g0, g1⟩ := hsplit.1 d
     have g1 : (hdI ks l 0)[0] = (0 : Int) := g1 g0
     generalize hdI ks l 0 = D at *
     generalize secA ks l = S at *
     have g2 : ¬ D = [] := fun q => by rw [q] at g0; simp at g0
     simp only [w154_K1] at k
     simp [opS, eSe] at k
     simp (disch := omega) [w154, hl0, h0, h1, g0, g1, g2, k, wI64, eSe, H.inl, inlB, H.pp, ppB]
end Go.D
end
section
set_option linter.unusedSimpArgs false
set_option linter.unusedVariables false
namespace Go.D
open Go Go.Pav Go.Pw P
set_option maxRecDepth 10000
set_option maxHeartbeats 4000000
set_option linter.unusedSimpArgs false
set_option linter.unusedVariables false
attribute [-simp] List.getElem_cons_drop
variable {C : WProg}
def secL (ks : List Kd) (l : List En) (tot s : Int) : Nat → Nat → Int → Int × Int × Int
 | 0, _, h => (h, tot, -1)
 | n + 1, i, h => if stk ks l i = true then (if s < top l i then (h, (if 0 ≤ h then top l i - szI l h + 1 else top l i), (i : Int)) else secL ks l tot s n (i + 1) i) else secL ks l tot s n (i + 1) h
def nxF (ks : List Kd) (l : List En) (s : Int) : Nat → Nat → Int
 | 0, _ => -1
 | n + 1, i => if stk ks l i = true ∧ s < top l i then (i : Int) else nxF ks l s n (i + 1)
theorem secF_pos (ks : List Kd) (l : List En) (tot : Int) : ∀ n i (h f : Int), 0 < (secF ks l tot n i h f).length := by
 intro n
 induction n with
 | zero => intro i h f; simp [secF]
 | succ n ih => intro i h f; rw [secF]; split <;> simp [ih]
theorem sec_at (ks : List Kd) (l : List En) (hz : Szd l) (s : Int) (hs : s < top l l.length) : ∀ n i, n + i = l.length → ∀ (h f : Int) (j : Nat), f ≤ s →
 ∃ (k : Nat) (hk : k < (secF ks l (top l l.length) n i h f).length), atS s (secF ks l (top l l.length) n i h f) j = ((j + k : Nat) : Int) ∧ (secF ks l (top l l.length) n i h f)[k].h = (secL ks l (top l l.length) s n i h).1 ∧
  (secF ks l (top l l.length) n i h f)[k].p = (secL ks l (top l l.length) s n i h).2.1 ∧
  (((secL ks l (top l l.length) s n i h).2.2 = -1 ∧ k + 1 = (secF ks l (top l l.length) n i h f).length) ∨
   (0 ≤ (secL ks l (top l l.length) s n i h).2.2 ∧ ∃ h2 : k + 1 < (secF ks l (top l l.length) n i h f).length, (secF ks l (top l l.length) n i h f)[k + 1].h = (secL ks l (top l l.length) s n i h).2.2)) := by
 intro n
 induction n with
 | zero =>
  intro i hi h f j hf
  refine ⟨0, by simp [secF], ?_, rfl, rfl, .inl ⟨rfl, rfl⟩⟩
  have : inSe s ⟨h, f, top l l.length, top l l.length⟩ = true := by unfold inSe; simp; omega
  rw [secF, atS, if_pos this]; rfl
 | succ n ih =>
  intro i hi h f j hf
  rw [secF, secL]
  by_cases c : stk ks l i = true
  · rw [if_pos c, if_pos c]
    by_cases d : s < top l i
    · rw [if_pos d]
      have hne : 0 < (secF ks l (top l l.length) n (i + 1) i (top l i)).length := secF_pos ..
      have hfst : ∀ n i (h f : Int), n + i = l.length → ∃ h3 : 0 < (secF ks l (top l l.length) n i h f).length, (secF ks l (top l l.length) n i h f)[0].h = h := by
       intro n
       induction n with
       | zero => intro i h f _; exact ⟨by simp [secF], rfl⟩
       | succ n ih =>
        intro i h f hi
        by_cases e : stk ks l i = true
        · have q : secF ks l (top l l.length) (n + 1) i h f = ⟨h, f, top l i, if 0 ≤ h then top l i - szI l h + 1 else top l i⟩ :: secF ks l (top l l.length) n (i + 1) i (top l i) := by rw [secF, if_pos e]
          rw [q]; exact ⟨by simp, rfl⟩
        · have q : secF ks l (top l l.length) (n + 1) i h f = secF ks l (top l l.length) n (i + 1) h f := by rw [secF, if_neg e]
          rw [q]; exact ih (i + 1) h f (by omega)
      obtain ⟨h3, h4⟩ := hfst n (i + 1) i (top l i) (by omega)
      refine ⟨0, by simp, ?_, rfl, rfl, .inr ⟨by simp only; omega, by simpa using hne, by simpa using h4⟩⟩
      have : inSe s ⟨h, f, top l i, if 0 ≤ h then top l i - szI l h + 1 else top l i⟩ = true := by unfold inSe; simp; omega
      rw [atS, if_pos this]; rfl
    · rw [if_neg d]
      obtain ⟨k, hk, h1, h2, h3, h4⟩ := ih (i + 1) (by omega) i (top l i) (j + 1) (by omega)
      refine ⟨k + 1, by simpa using hk, ?_, by simpa using h2, by simpa using h3, ?_⟩
      · have : inSe s ⟨h, f, top l i, if 0 ≤ h then top l i - szI l h + 1 else top l i⟩ = false := by unfold inSe; simp; omega
        rw [atS, if_neg (by rw [this]; simp), h1]
        congr 1; omega
      · rcases h4 with ⟨q1, q2⟩ | ⟨q1, q2, q3⟩
        · exact .inl ⟨q1, by simp [q2]⟩
        · exact .inr ⟨q1, by simpa using q2, by simpa using q3⟩
  · rw [if_neg c, if_neg c]
    exact ih (i + 1) (by omega) h f j hf
theorem sec_out (ks : List Kd) (l : List En) (hz : Szd l) (s : Int) : ∀ n i, n + i = l.length → ∀ (h f : Int) (j : Nat), f ≤ top l i → (s < f ∨ top l l.length ≤ s) → atS s (secF ks l (top l l.length) n i h f) j = -1 := by
 intro n
 induction n with
 | zero =>
  intro i hi h f j hf hs
  have : inSe s ⟨h, f, top l l.length, top l l.length⟩ = false := by unfold inSe; simp; omega
  rw [secF, atS, if_neg (by rw [this]; simp), atS]
 | succ n ih =>
  intro i hi h f j hf hs
  have hm := hz.mono (i := i) (j := l.length) (by omega) (by omega)
  have hm1 := hz.mono (i := i) (j := i + 1) (by omega) (by omega)
  rw [secF]
  by_cases c : stk ks l i = true
  · rw [if_pos c]
    have : inSe s ⟨h, f, top l i, if 0 ≤ h then top l i - szI l h + 1 else top l i⟩ = false := by unfold inSe; simp; omega
    rw [atS, if_neg (by rw [this]; simp)]
    exact ih (i + 1) (by omega) i (top l i) (j + 1) (by omega) (by omega)
  · rw [if_neg c]
    exact ih (i + 1) (by omega) h f j (by omega) hs
theorem secL_head (ks : List Kd) (l : List En) (hz : Szd l) (tot s : Int) : ∀ n i, n + i = l.length → ∀ h, (secL ks l tot s n i h).1 = hrF ks l s n i h := by
 intro n
 induction n with
 | zero => intro i hi h; rfl
 | succ n ih =>
  intro i hi h
  have hil : i < l.length := by omega
  rw [secL]
  by_cases c : stk ks l i = true
  · rw [if_pos c]
    by_cases d : s < top l i
    · rw [if_pos d, hrF_stop hz (n + 1) i h hi d]
    · rw [if_neg d, hrF, if_pos ⟨c, by omega⟩]; exact ih (i + 1) (by omega) i
  · rw [if_neg c, hrF, if_neg (by rintro ⟨q, _⟩; exact c q)]; exact ih (i + 1) (by omega) h
theorem secL_next (ks : List Kd) (l : List En) (hz : Szd l) (tot s : Int) : ∀ n i, n + i = l.length → ∀ h, (secL ks l tot s n i h).2.2 = nxF ks l s n i := by
 intro n
 induction n with
 | zero => intro i hi h; rfl
 | succ n ih =>
  intro i hi h
  rw [secL, nxF]
  by_cases c : stk ks l i = true
  · rw [if_pos c]
    by_cases d : s < top l i
    · rw [if_pos d]; simp only; rw [if_pos ⟨c, d⟩]
    · rw [if_neg d, if_neg (by rintro ⟨_, q⟩; exact d q)]; exact ih (i + 1) (by omega) i
  · rw [if_neg c, if_neg (by rintro ⟨q, _⟩; exact c q)]; exact ih (i + 1) (by omega) h
theorem secL_place (ks : List Kd) (l : List En) (hz : Szd l) (s : Int) (hs : s < top l l.length) : ∀ n i, n + i = l.length → ∀ (h0 : Int) (pl : Int), (0 ≤ h0 → pl = plF ks l s (szI l h0) n i) → 0 ≤ (secL ks l (top l l.length) s n i h0).1 →
 ∃ t : Nat, (secL ks l (top l l.length) s n i h0).1 = t ∧ (((t : Int) = h0 ∧ imin 0 ((secL ks l (top l l.length) s n i h0).2.1 - 1 - s) = pl) ∨ (i ≤ t ∧ t < l.length ∧ imin 0 ((secL ks l (top l l.length) s n i h0).2.1 - 1 - s) = plA ks l s t)) := by
 intro n
 induction n with
 | zero =>
  intro i hi h0 pl hp hh
  simp only [secL] at hh ⊢
  refine ⟨h0.toNat, by omega, .inl ⟨by omega, ?_⟩⟩
  rw [hp hh, plF]
  unfold imin; split <;> omega
 | succ n ih =>
  intro i hi h0 pl hp hh
  have hil : i < l.length := by omega
  rw [secL] at hh ⊢
  by_cases c : stk ks l i = true
  · rw [if_pos c] at hh ⊢
    by_cases d : s < top l i
    · rw [if_pos d] at hh ⊢
      simp only at hh ⊢
      refine ⟨h0.toNat, by omega, .inl ⟨by omega, ?_⟩⟩
      rw [hp hh, plF, if_pos c, if_pos hh]
      unfold imin; split <;> split <;> omega
    · rw [if_neg d] at hh ⊢
      obtain ⟨t, q1, q2⟩ := ih (i + 1) (by omega) i (plA ks l s i) (by
       intro _
       unfold plA
       rw [show l.length - (i + 1) = n by omega]) hh
      refine ⟨t, q1, .inr ?_⟩
      rcases q2 with ⟨q2, q3⟩ | ⟨q2, q3, q4⟩
      · have : t = i := by omega
        subst this
        exact ⟨Nat.le_refl _, hil, q3⟩
      · exact ⟨by omega, q3, q4⟩
  · rw [if_neg c] at hh ⊢
    obtain ⟨t, q1, q2⟩ := ih (i + 1) (by omega) h0 pl (by
     intro q
     rw [hp q, plF, if_neg c]) hh
    refine ⟨t, q1, ?_⟩
    rcases q2 with q2 | ⟨q2, q3, q4⟩
    · exact .inl q2
    · exact .inr ⟨by omega, q3, q4⟩
end Go.D
end
section
set_option linter.unusedSimpArgs false
set_option linter.unusedVariables false
namespace Go.D
open Go Go.Pav Go.Pw P
set_option maxRecDepth 10000
set_option maxHeartbeats 4000000
set_option linter.unusedSimpArgs false
set_option linter.unusedVariables false
attribute [-simp] List.getElem_cons_drop
variable {C : WProg}
structure HasO30 (C : WProg) : Prop extends HasR30 C where
 f147 : C.fns.get 147 = some w147
 f311 : C.fns.get 311 = some w311
 f153 : C.fns.get 153 = some w153
theorem sec_first (H : HasS30 C) (ks : List Kd) (l : List En) (e : Bool) (hz : Szd l) (h0 : 0 < l.length) :
 w307_K0 C ⟨[(21, .int .i64 0), (20, .int .i64 l.length), (17, .fn 449 [.ptr 0 0 0, .ptr 1 0 0]), (5, .ptr 1 0 0), (4, .ptr 0 0 0), (2, .rop [.ro 6 (l.map eEn) e]), (1, .ro 1 ((hdI ks l 0).map eI) true)],
  [(0, .cells 1 [[.ro 4 [] true]] true true), (1, .cells 1 [[.ro 1 ((tps l).map eI) true]] true true)], 2⟩ = some (.ro 4 ((secA ks l).map eSe) false) := by
 have hn := hz.n
 have c : ¬ l.length = 0 := by omega
 obtain ⟨r, hb⟩ := bs_ok H.toHasWn (hdI ks l 0) true 0 (by have := hdI_len ks l 0; omega) (hdI_ris ks l 0 (-1) (by omega))
 have hdec : decide ((0 : Int) ∈ hdI ks l 0) = stk ks l 0 := by
  have := stk_mem ks l 0 h0
  cases c : stk ks l 0
  · rw [c] at this; simpa using this
  · rw [c] at this; simpa using this
 rw [hdec] at hb
 have h5 : 0 < (tps l).length := by rw [tps_len]; omega
 have h6 := tps_get l h5
 rw [top_0] at h6
 unfold secA
 rw [if_neg c]
 cases d : stk ks l 0
 · rw [d] at hb
   have k := sec_loop H ks l e hz (l.length - 1) 1 (by omega) [] (-1) 0 (by simp) (.inl (by omega))
   rw [if_neg (by simp)]
   rw [List.nil_append] at k
   generalize secF ks l (top l l.length) (l.length - 1) 1 (-1) 0 = R at *
   simp only [w307_K0] at k ⊢
   rw [ck_unf w307_B0.eq_1]
   simp [eSe] at k
   simp (disch := omega) [h0, hb, h5, h6, k, wI64, H.inl, inlB, H.pp, ppB]
 · rw [d] at hb
   have k := sec_loop H ks l e hz (l.length - 1) 1 (by omega) [] 0 0 (by simp) (.inr ⟨by omega, by omega⟩)
   rw [if_pos rfl]
   rw [List.nil_append] at k
   generalize secF ks l (top l l.length) (l.length - 1) 1 0 0 = R at *
   simp only [w307_K0] at k ⊢
   rw [ck_unf w307_B0.eq_1]
   simp [eSe] at k
   simp (disch := omega) [h0, hb, h5, h6, k, wI64, H.inl, inlB, H.pp, ppB]
theorem secs_ok (H : HasS30 C) (ks : List Kd) (l : List En) (e : Bool) (hz : Szd l) : ∃ fl, FnW C 307 [aL l e, .ro 1 ((hdI ks l 0).map eI) true] = some (.ro 4 ((secA ks l).map eSe) fl) := by
 have hn := hz.n
 have h1 := tops_ok H.toHasSz l e hz
 rw [fnW_eq H.f307 rfl]
 by_cases c : l.length = 0
 · have hnil : l = [] := List.eq_nil_of_length_eq_zero c
   subst hnil
   refine ⟨true, ?_⟩
   have hc : RnW C 449 [.ptr 0 0 0, .ptr 1 0 0] [(0, .cells 1 [[.ro 4 [] true]] true true), (1, .cells 1 [[.ro 1 ((tps []).map eI) true]] true true)] 3 = some (.tup [], [(0, .cells 1 [[.ro 4 [] true]] true true), (1, .cells 1 [[.ro 1 ((tps []).map eI) true]] true true)], 5) := by
    rw [rnW_eq (args := [.ptr 0 0 0, .ptr 1 0 0]) H.f449 rfl]
    simp (disch := omega) [w449, wI64, H.inl, inlB, H.pp, ppB]
   unfold secA
   generalize tps [] = T at *
   simp [aL] at h1
   simp (disch := omega) [w307, ck_unf w307_B0.eq_1, ck_unf w307_c0.eq_1, ck_unf w307_c1.eq_1, hc, h1, wI64, H.inl, inlB, H.pp, ppB]
 · refine ⟨false, ?_⟩
   have k := sec_first H ks l e hz (by omega)
   generalize secA ks l = R at *
   generalize hdI ks l 0 = D at *
   generalize tps l = T at *
   simp only [w307_K0] at k
   try simp at k
   simp (disch := omega) [w307, ck_unf w307_c1.eq_1, h1, k, wI64, H.inl, inlB, H.pp, ppB]
theorem secF_len (ks : List Kd) (l : List En) (tot : Int) : ∀ n i (h f : Int), (secF ks l tot n i h f).length ≤ n + 1 := by
 intro n
 induction n with
 | zero => intro i h f; simp [secF]
 | succ n ih =>
  intro i h f
  rw [secF]
  split
  · have := ih (i + 1) i (top l i); simp only [List.length_cons]; omega
  · have := ih (i + 1) h f; omega
theorem secA_len (ks : List Kd) (l : List En) : (secA ks l).length ≤ l.length := by
 unfold secA
 split
 · simp
 · have := secF_len ks l (top l l.length) (l.length - 1) 1 (if stk ks l 0 = true then 0 else -1) 0; omega
def secE (ks : List Kd) (cap : Int) (l : List En) : List Se := if ckE ks cap l = 0 then secA ks l else []
theorem sections_ok (H : HasS30 C) (ks : List Kd) (ke : Bool) (cap : Int) (hr : RuIn ks) (l : List En) (e : Bool) (hl : l.length ≤ 1024) (hs : ∀ x ∈ l, EnIn x) (ht : ckE ks cap l = 0 → Szd l ∧ ∀ x ∈ l, 0 ≤ x.i.t ∧ x.i.t < ks.length) :
 FnW C 152 [aR ks ke cap, aL l e] = some (.tup [.ro 4 ((secE ks cap l).map eSe) true, .int .i64 (ckE ks cap l)]) := by
 have h1 := headers_ok H.toHasH30 ks ke cap hr l e hl hs (fun q => (ht q).2)
 rw [fnW_eq H.f152 rfl]
 unfold secE
 by_cases c : ckE ks cap l = 0
 · obtain ⟨fl, h2⟩ := secs_ok H ks l e (ht c).1
   have h3 := ex306_ok H.toHasH30 (secA ks l) fl (by have := secA_len ks l; omega)
   rw [if_pos c] at h1 ⊢
   rw [c] at h1 ⊢
   generalize secA ks l = S at *
   generalize hdI ks l 0 = D at *
   simp (disch := omega) [w152, h1, h2, h3, H.inl, inlB, H.pp, ppB]
 · rw [if_neg c] at h1 ⊢
   generalize ckE ks cap l = B at *
   simp (disch := omega) [w152, h1, c, H.inl, inlB, H.pp, ppB]
def offE (ks : List Kd) (cap : Int) (l : List En) (s : Int) : Int :=
 if ckE ks cap l ≠ 0 then ckE ks cap l else if s < 0 ∨ (top l l.length ≤ s ∧ (0 < s ∨ 0 < l.length)) then 4 else 0
theorem rerror_ok (H : HasO30 C) (ks : List Kd) (ke : Bool) (cap : Int) (hr : RuIn ks) (l : List En) (e : Bool) (hl : l.length ≤ 1024) (hs : ∀ x ∈ l, EnIn x) (ht : ckE ks cap l = 0 → Szd l ∧ ∀ x ∈ l, 0 ≤ x.i.t ∧ x.i.t < ks.length) (hnn : 0 ≤ ckE ks cap l) (s : Int) :
 FnW C 147 [aR ks ke cap, .ro 6 (l.map eEn) e, .int .i64 s] = some (.int .i64 (offE ks cap l s)) := by
 have h1 := rlcheck_ok H.toHasK ks ke cap hr l e (by omega) hs
 rw [fnW_eq H.f147 rfl]
 unfold offE
 by_cases c : ckE ks cap l = 0
 · have hz := (ht c).1
   have h2 := rtop_ok H.toHasSz l e hz l.length (Nat.le_refl _)
   rw [c] at h1
   rw [if_neg (by simpa using c)]
   generalize top l l.length = T at *
   by_cases d1 : s < 0
   · rw [if_pos (.inl d1)]
     simp (disch := omega) [w147, h1, d1, H.inl, inlB, H.pp, ppB]
   · by_cases d2 : T ≤ s
     · by_cases d3 : 0 < s
       · rw [if_pos (.inr ⟨d2, .inl d3⟩)]
         simp (disch := omega) [w147, h1, h2, d1, d2, d3, H.inl, inlB, H.pp, ppB]
       · by_cases d4 : 0 < l.length
         · rw [if_pos (.inr ⟨d2, .inr d4⟩)]
           simp (disch := omega) [w147, h1, h2, d1, d2, d3, d4, H.inl, inlB, H.pp, ppB]
         · rw [if_neg (by omega)]
           simp (disch := omega) [w147, h1, h2, d1, d2, d3, d4, H.inl, inlB, H.pp, ppB]
     · rw [if_neg (by omega)]
       simp (disch := omega) [w147, h1, h2, d1, d2, H.inl, inlB, H.pp, ppB]
 · rw [if_pos c]
   generalize ckE ks cap l = B at *
   have hb : 0 < B := by omega
   simp (disch := omega) [w147, h1, hb, H.inl, inlB, H.pp, ppB]
theorem sec303_ok (H : HasS30 C) (ks : List Kd) (ke : Bool) (cap : Int) (hr : RuIn ks) (l : List En) (e : Bool) (hl : l.length ≤ 1024) (hs : ∀ x ∈ l, EnIn x) (ht : ckE ks cap l = 0 → Szd l ∧ ∀ x ∈ l, 0 ≤ x.i.t ∧ x.i.t < ks.length) (s : Int) (B : Int) (hB : B = offE ks cap l s) (hat : ckE ks cap l = 0 → (atS s (secA ks l) 0 < 0 ∧ (s ≠ 0 ∨ 0 < (secA ks l).length) ↔ B ≠ 0)) :
 FnW C 303 [aR ks ke cap, aL l e, .int .i64 s] = some (.tup [.ro 4 ((if B = 0 then secA ks l else []).map eSe) true, .int .i64 (if B = 0 then atS s (secA ks l) 0 else -1), .int .i64 B]) := by
 have h1 := sections_ok H ks ke cap hr l e hl hs ht
 unfold secE at h1
 have hlen := secA_len ks l
 rw [fnW_eq H.f303 rfl]
 by_cases c : ckE ks cap l = 0
 · have hat := hat c
   rw [if_pos c, c] at h1
   have h2 := ixs_ok H.toHasA30 447 (in447 H.toHasA30) rfl rfl (secA ks l) true (by omega) s
   by_cases d : B = 0
   · rw [if_pos d, if_pos d, d]
     have hn : ¬ (atS s (secA ks l) 0 < 0 ∧ (s ≠ 0 ∨ 0 < (secA ks l).length)) := fun q => (hat.1 q) d
     generalize secA ks l = S at *
     generalize atS s S 0 = K at *
     by_cases d1 : K < 0
     · have d2 : s = 0 := by omega
       have d3 : S.length = 0 := by omega
       have d4 : S = [] := List.eq_nil_of_length_eq_zero d3
       subst d4; subst d2
       simp at h1 h2
       simp (disch := omega) [w303, h1, h2, d1, H.inl, inlB, H.pp, ppB]
     · simp (disch := omega) [w303, h1, h2, d1, H.inl, inlB, H.pp, ppB]
   · rw [if_neg d, if_neg d]
     have hy := hat.2 d
     have hB4 : B = 4 := by
      rw [hB]; unfold offE at hB ⊢
      rw [if_neg (by simpa using c)] at hB ⊢
      split at hB
      · rename_i q; rw [if_pos q]
      · exact absurd hB d
     subst hB4
     generalize secA ks l = S at *
     generalize atS s S 0 = K at *
     by_cases d2 : s = 0
     · subst d2
       have d3 : 0 < S.length := by omega
       simp (disch := omega) [w303, h1, h2, hy.1, d3, H.inl, inlB, H.pp, ppB]
     · simp (disch := omega) [w303, h1, h2, hy.1, d2, H.inl, inlB, H.pp, ppB]
 · rw [if_neg c] at h1
   have hBe : B = ckE ks cap l := by rw [hB]; unfold offE; rw [if_pos c]
   rw [← hBe] at h1 c
   rw [if_neg c, if_neg c]
   simp (disch := omega) [w303, h1, c, H.inl, inlB, H.pp, ppB]
end Go.D
end
section
set_option linter.unusedSimpArgs false
set_option linter.unusedVariables false
namespace Go.D
open Go Go.Pav Go.Pw P
set_option maxRecDepth 10000
set_option maxHeartbeats 4000000
set_option linter.unusedSimpArgs false
set_option linter.unusedVariables false
attribute [-simp] List.getElem_cons_drop
variable {C : WProg}
structure AtO (ks : List Kd) (l : List En) (s : Int) (k : Nat) : Prop where
 lt : k < (secA ks l).length
 at_ : atS s (secA ks l) 0 = k
 hd : ∀ h : k < (secA ks l).length, (secA ks l)[k].h = hrA ks l s
 pl : ∀ h : k < (secA ks l).length, 0 ≤ hrA ks l s → ∃ t : Nat, hrA ks l s = t ∧ t < l.length ∧ imin 0 ((secA ks l)[k].p - 1 - s) = plA ks l s t
 nx : (nxF ks l s l.length 0 = -1 ∧ k + 1 = (secA ks l).length) ∨ (0 ≤ nxF ks l s l.length 0 ∧ ∃ h2 : k + 1 < (secA ks l).length, (secA ks l)[k + 1].h = nxF ks l s l.length 0)
 pb : ∀ h : k < (secA ks l).length, 0 ≤ hrA ks l s → -4611686018427387904 ≤ (secA ks l)[k].p ∧ (secA ks l)[k].p ≤ 4611686018427387905
theorem secL_pb (ks : List Kd) (l : List En) (hz : Szd l) (s : Int) : ∀ n i, n + i = l.length → ∀ h : Int, (h < 0 ∨ h < l.length) → -4611686018427387904 ≤ (secL ks l (top l l.length) s n i h).2.1 ∧ (secL ks l (top l l.length) s n i h).2.1 ≤ 4611686018427387905 := by
 intro n
 induction n with
 | zero => intro i hi h hh; have := top_b hz l.length (Nat.le_refl _); simp only [secL]; omega
 | succ n ih =>
  intro i hi h hh
  have := top_b hz i (by omega)
  rw [secL]
  by_cases c : stk ks l i = true
  · rw [if_pos c]
    by_cases d : s < top l i
    · rw [if_pos d]
      by_cases e : 0 ≤ h
      · obtain ⟨t, rfl⟩ : ∃ t : Nat, h = t := ⟨h.toNat, by omega⟩
        have htl : t < l.length := by omega
        have := hz.s _ (List.getElem_mem htl)
        have h2 := szI_get (l := l) htl
        simp only [if_pos e, h2]; omega
      · simp only [if_neg e]; omega
    · rw [if_neg d]; exact ih (i + 1) (by omega) i (by omega)
  · rw [if_neg c]; exact ih (i + 1) (by omega) h hh
theorem atO_ok (ks : List Kd) (l : List En) (hz : Szd l) (s : Int) (hn : 0 < l.length) (h0 : 0 ≤ s) (hs : s < top l l.length) : ∃ k, AtO ks l s k := by
 have hl : ¬ l.length = 0 := by omega
 obtain ⟨k, hk, h1, h2, h3, h4⟩ := sec_at ks l hz s hs (l.length - 1) 1 (by omega) (if stk ks l 0 = true then 0 else -1) 0 0 h0
 have e1 := secL_head ks l hz (top l l.length) s (l.length - 1) 1 (by omega) (if stk ks l 0 = true then 0 else -1)
 have e2 := secL_next ks l hz (top l l.length) s (l.length - 1) 1 (by omega) (if stk ks l 0 = true then 0 else -1)
 have e3 := secL_place ks l hz s hs (l.length - 1) 1 (by omega) (if stk ks l 0 = true then 0 else -1) (plA ks l s 0) (by
  intro q
  have : (if stk ks l 0 = true then (0 : Int) else -1) = 0 := by
   split at q
   · rename_i c; rw [if_pos c]
   · omega
  rw [this]; unfold plA; rfl)
 have e4 := secL_pb ks l hz s (l.length - 1) 1 (by omega) (if stk ks l 0 = true then 0 else -1) (by split <;> omega)
 have hA : secA ks l = secF ks l (top l l.length) (l.length - 1) 1 (if stk ks l 0 = true then 0 else -1) 0 := by unfold secA; rw [if_neg hl]
 have hH : hrA ks l s = hrF ks l s (l.length - 1) 1 (if stk ks l 0 = true then 0 else -1) := by
  unfold hrA
  obtain ⟨m, hm⟩ : ∃ m, l.length = m + 1 := ⟨l.length - 1, by omega⟩
  rw [hm, hrF]
  congr 1
  by_cases c : stk ks l 0 = true
  · rw [if_pos ⟨c, by rw [top_0]; exact h0⟩, if_pos c]; rfl
  · rw [if_neg (by rintro ⟨q, _⟩; exact c q), if_neg c]
 have hX : nxF ks l s l.length 0 = nxF ks l s (l.length - 1) 1 := by
  obtain ⟨m, hm⟩ : ∃ m, l.length = m + 1 := ⟨l.length - 1, by omega⟩
  rw [hm, nxF, if_neg (by rw [top_0]; omega)]; rfl
 refine ⟨k, ?_⟩
 rw [e1, ← hH] at h2
 rw [e2, ← hX] at h4
 rw [e1, ← hH] at e3
 constructor
 · rw [hA]; exact hk
 · rw [hA, h1, Nat.zero_add]
 · intro h; simp only [hA]; exact h2
 · intro h hh
   obtain ⟨t, q1, q2⟩ := e3 hh
   simp only [hA, h3]
   refine ⟨t, q1, ?_⟩
   rcases q2 with ⟨q2, q3⟩ | ⟨q2, q3, q4⟩
   · have ht : t = 0 := by
      split at q2 <;> omega
     subst ht
     exact ⟨hn, q3⟩
   · exact ⟨q3, q4⟩
 · rcases h4 with ⟨q1, q2⟩ | ⟨q1, q2, q3⟩
   · exact .inl ⟨q1, by rw [hA]; exact q2⟩
   · exact .inr ⟨q1, by rw [hA]; exact q2, by simp only [hA]; exact q3⟩
 · intro h _; simp only [hA, h3]; exact e4
theorem at_iff (ks : List Kd) (cap : Int) (l : List En) (hz : Szd l) (s : Int) (hck : ckE ks cap l = 0) : (atS s (secA ks l) 0 < 0 ∧ (s ≠ 0 ∨ 0 < (secA ks l).length)) ↔ offE ks cap l s ≠ 0 := by
 unfold offE
 rw [if_neg (by simpa using hck)]
 by_cases hn : l.length = 0
 · have hA : secA ks l = [] := by unfold secA; rw [if_pos hn]
   have ht : top l l.length = 0 := by rw [hn, top_0]
   rw [hA, ht, hn]
   simp only [atS, List.length_nil]
   constructor
   · rintro ⟨_, q⟩
     rw [if_pos (by omega)]; omega
   · intro q
     split at q
     · exact ⟨by omega, by omega⟩
     · exact absurd rfl q
 · have hl : 0 < l.length := by omega
   have hlen : 0 < (secA ks l).length := by unfold secA; rw [if_neg hn]; exact secF_pos ..
   by_cases c : s < 0 ∨ top l l.length ≤ s
   · rw [if_pos (by omega)]
     have : atS s (secA ks l) 0 = -1 := by
      unfold secA; rw [if_neg hn]
      have h1 := hz.mono (i := 0) (j := 1) (by omega) (by omega)
      rw [top_0] at h1
      exact sec_out ks l hz s (l.length - 1) 1 (by omega) _ 0 0 (by omega) c
     rw [this]
     exact ⟨fun _ => by omega, fun _ => ⟨by omega, .inr hlen⟩⟩
   · rw [if_neg (by omega)]
     obtain ⟨k, hk⟩ := atO_ok ks l hz s hl (by omega) (by omega)
     rw [hk.at_]
     constructor
     · rintro ⟨q, _⟩; omega
     · intro q; exact absurd rfl q
structure HeS (C : WProg) (ks : List Kd) (ke : Bool) (cap : Int) (l : List En) (e : Bool) (s : Int) (B a n p g : Int) (fa fn_ : Bool) : Prop where
 c148 : FnW C 148 [aR ks ke cap, aL l e, .int .i64 s] = some (.tup [.int .i64 a, .bool fa, .int .i64 B])
 c310 : FnW C 310 [aR ks ke cap, aL l e, .int .i64 s] = some (.tup [.int .i64 n, .bool fn_, .int .i64 B])
 c150 : FnW C 150 [aR ks ke cap, aL l e, .int .i64 s] = some (.tup [.int .i64 p, .int .i64 g])
theorem hes_bad (H : HasS30 C) (ks : List Kd) (ke : Bool) (cap : Int) (hr : RuIn ks) (l : List En) (e : Bool) (hl : l.length ≤ 1024) (hs : ∀ x ∈ l, EnIn x) (ht : ckE ks cap l = 0 → Szd l ∧ ∀ x ∈ l, 0 ≤ x.i.t ∧ x.i.t < ks.length) (s : Int) (h : offE ks cap l s ≠ 0) :
 HeS C ks ke cap l e s (offE ks cap l s) 0 0 0 (offE ks cap l s) false false := by
 have h1 := sec303_ok H ks ke cap hr l e hl hs ht s _ rfl (fun q => at_iff ks cap l (ht q).1 s q)
 rw [if_neg h, if_neg h] at h1
 generalize offE ks cap l s = B at *
 constructor
 · rw [fnW_eq H.f148 rfl]; simp (disch := omega) [w148, h1, h, H.inl, inlB, H.pp, ppB]
 · rw [fnW_eq H.f310 rfl]; simp (disch := omega) [w310, h1, h, H.inl, inlB, H.pp, ppB]
 · rw [fnW_eq H.f150 rfl]; simp (disch := omega) [w150, h1, h, H.inl, inlB, H.pp, ppB]
theorem hes_nil (H : HasS30 C) (ks : List Kd) (ke : Bool) (cap : Int) (hr : RuIn ks) (e : Bool) (hck : ckE ks cap [] = 0) (hz : Szd []) : HeS C ks ke cap [] e 0 0 0 0 0 11 false false := by
 have ho : offE ks cap [] 0 = 0 := by unfold offE; rw [if_neg (by simpa using hck)]; simp
 have h1 := sec303_ok H ks ke cap hr [] e (by simp) (by simp) (fun _ => ⟨hz, by simp⟩) 0 _ rfl (fun q => at_iff ks cap [] hz 0 q)
 rw [ho, if_pos rfl, if_pos rfl] at h1
 have hA : secA ks [] = [] := rfl
 rw [hA] at h1
 simp [atS, aL, aR] at h1
 constructor
 · rw [fnW_eq H.f148 rfl]; simp (disch := omega) [w148, h1, H.inl, inlB, H.pp, ppB]
 · rw [fnW_eq H.f310 rfl]; simp (disch := omega) [w310, h1, wI64, H.inl, inlB, H.pp, ppB]
 · rw [fnW_eq H.f150 rfl]; simp (disch := omega) [w150, h1, H.inl, inlB, H.pp, ppB]
theorem hes_ok (H : HasS30 C) (ks : List Kd) (ke : Bool) (cap : Int) (hr : RuIn ks) (l : List En) (e : Bool) (hl : l.length ≤ 1024) (hs : ∀ x ∈ l, EnIn x) (hck : ckE ks cap l = 0) (hz : Szd l) (ht : ∀ x ∈ l, 0 ≤ x.i.t ∧ x.i.t < ks.length) (s : Int) (hn : 0 < l.length) (h0 : 0 ≤ s) (hst : s < top l l.length) :
 HeS C ks ke cap l e s 0 (if 0 ≤ hrA ks l s then hrA ks l s else 0) (if 0 ≤ nxF ks l s l.length 0 then nxF ks l s l.length 0 else 0) (if 0 ≤ hrA ks l s then plA ks l s (hrA ks l s).toNat else 0) (if 0 ≤ hrA ks l s then 0 else 11) (decide (0 ≤ hrA ks l s)) (decide (0 ≤ nxF ks l s l.length 0)) := by
 have ho : offE ks cap l s = 0 := by unfold offE; rw [if_neg (by simpa using hck), if_neg (by omega)]
 have h1 := sec303_ok H ks ke cap hr l e hl hs (fun _ => ⟨hz, ht⟩) s _ rfl (fun q => at_iff ks cap l hz s q)
 rw [ho, if_pos rfl, if_pos rfl] at h1
 obtain ⟨k, O⟩ := atO_ok ks l hz s hn h0 hst
 obtain ⟨o1, o2, o3, o4, o5, o6⟩ := O
 have hlen := secA_len ks l
 have htb := top_b hz l.length (Nat.le_refl _)
 rw [o2] at h1
 have o3 := o3 o1
 have o4 := o4 o1
 have o6 := o6 o1
 generalize secA ks l = S at *
 generalize nxF ks l s l.length 0 = X at *
 have hk0 : ¬ (k : Int) < 0 := by omega
 constructor
 · rw [fnW_eq H.f148 rfl]
   generalize hrA ks l s = A at *
   by_cases c : 0 ≤ A
   · rw [if_pos c, decide_eq_true c]
     have c2 : ¬ A < 0 := by omega
     simp (disch := omega) [w148, h1, hk0, o1, o3, c2, eSe, H.inl, inlB, H.pp, ppB]
   · rw [if_neg c, decide_eq_false c]
     have c2 : A < 0 := by omega
     simp (disch := omega) [w148, h1, hk0, o1, o3, c2, eSe, H.inl, inlB, H.pp, ppB]
 · rw [fnW_eq H.f310 rfl]
   rcases o5 with ⟨q1, q2⟩ | ⟨q1, q2, q3⟩
   · rw [if_neg (by omega), decide_eq_false (by omega)]
     have c2 : (S.length : Int) ≤ (k : Int) + 1 := by omega
     simp (disch := omega) [w310, h1, c2, wI64, H.inl, inlB, H.pp, ppB]
   · rw [if_pos q1, decide_eq_true q1]
     have c2 : ¬ (S.length : Int) ≤ (k : Int) + 1 := by omega
     simp (disch := omega) [w310, h1, c2, q2, q3, eSe, wI64, H.inl, inlB, H.pp, ppB]
 · rw [fnW_eq H.f150 rfl]
   generalize hrA ks l s = A at *
   by_cases c : 0 ≤ A
   · obtain ⟨t, q1, q2, q3⟩ := o4 c
     have o6 := o6 c
     subst q1
     rw [if_pos c, if_pos c, show ((t : Int)).toNat = t from rfl, ← q3]
     have c2 : ¬ (t : Int) < 0 := by omega
     simp (disch := omega) [w150, h1, hk0, o1, o3, c2, eSe, wI64, imin, H.inl, inlB, H.pp, ppB]
   · rw [if_neg c, if_neg c]
     have c2 : A < 0 := by omega
     simp (disch := omega) [w150, h1, hk0, o1, o3, c2, eSe, H.inl, inlB, H.pp, ppB]
end Go.D
end
section
set_option linter.unusedSimpArgs false
set_option linter.unusedVariables false
namespace Go.D
open Go Go.Pav Go.Pw P
set_option maxRecDepth 10000
set_option maxHeartbeats 4000000
set_option linter.unusedSimpArgs false
set_option linter.unusedVariables false
attribute [-simp] List.getElem_cons_drop
variable {C : WProg}
theorem same30_loop (H : HasO30 C) (a : List Se) (e f : Bool) (hl : a.length ≤ 1000000) : ∀ n i, n + i = a.length →
 w153_K0 C ⟨[(5, .int .i64 i), (1, .ro 4 (a.map eSe) f), (0, .ro 4 (a.map eSe) e)], [], 0⟩ = some (.int .i64 1) := by
 intro n
 induction n with
 | zero =>
  intro i hi
  have h3 : ¬ i < a.length := by omega
  simp only [w153_K0]; rw [ck_unf w153_B0.eq_1]
  simp (disch := omega) [ck_unf w153_c0.eq_1, h3]
 | succ n ih =>
  intro i hi
  have h1 : i < a.length := by omega
  have this := ih (i + 1) (by omega)
  simp only [w153_K0] at this ⊢; rw [ck_unf w153_B0.eq_1]
  simp at this
  simp (disch := omega) [h1, eSe, wI64, H.inl, inlB, H.pp, ppB, this]
theorem same30_ok (H : HasO30 C) (a : List Se) (e f : Bool) (hl : a.length ≤ 1000000) : FnW C 153 [.ro 4 (a.map eSe) e, .ro 4 (a.map eSe) f] = some (.int .i64 1) := by
 have k := same30_loop H a e f hl a.length 0 (by simp)
 rw [fnW_eq H.f153 rfl]
 simp only [w153_K0] at k
 try simp at k
 simp (disch := omega) [w153, k, H.inl, inlB, H.pp, ppB]
def nxH (l : List En) (s : Int) : List Int → Int
 | [] => -1
 | x :: r => if s < top l x.toNat then x else nxH l s r
theorem nxH_eq (ks : List Kd) (l : List En) (s : Int) : ∀ n i, n + i = l.length → nxH l s (hdI ks (l.drop i) i) = nxF ks l s n i := by
 intro n
 induction n with
 | zero =>
  intro i hi
  have h1 : l.drop i = [] := List.drop_eq_nil_of_le (by omega)
  rw [h1]; rfl
 | succ n ih =>
  intro i hi
  have h1 : i < l.length := by omega
  rw [drop_cons h1, hdI, nxF, stk_get h1]
  by_cases c : (kdAt ks l[i].i.t).st = true
  · rw [if_pos c, nxH, show ((i : Int)).toNat = i from rfl]
    by_cases d : s < top l i
    · rw [if_pos d, if_pos ⟨c, d⟩]
    · rw [if_neg d, if_neg (by rintro ⟨_, q⟩; exact d q)]; exact ih (i + 1) (by omega)
  · rw [if_neg c, if_neg (by rintro ⟨q, _⟩; exact c q)]; exact ih (i + 1) (by omega)
theorem rnext_loop (H : HasO30 C) (ks : List Kd) (l : List En) (e f : Bool) (s : Int) (hz : Szd l) : ∀ n i, n + i = (hdI ks l 0).length →
 w311_K0 C ⟨[(8, .int .i64 i), (7, .ro 1 ((hdI ks l 0).map eI) f), (2, .int .i64 s), (1, .ro 6 (l.map eEn) e)], [], 0⟩ = some (.int .i64 (nxH l s ((hdI ks l 0).drop i))) := by
 have hn := hz.n
 have hll := hdI_len ks l 0
 intro n
 induction n with
 | zero =>
  intro i hi
  have h3 : ¬ i < (hdI ks l 0).length := by omega
  have h1 : (hdI ks l 0).drop i = [] := List.drop_eq_nil_of_le (by omega)
  rw [h1, nxH]
  simp only [w311_K0]; rw [ck_unf w311_B0.eq_1]
  simp (disch := omega) [ck_unf w311_c0.eq_1, h3]
 | succ n ih =>
  intro i hi
  have h1 : i < (hdI ks l 0).length := by omega
  obtain ⟨t, hT, htl, _⟩ := (hdI_mem ks l 0 (hdI ks l 0)[i]).1 (List.getElem_mem h1)
  rw [Nat.zero_add] at hT
  have htop := rtop_ok H.toHasSz l e hz t (by omega)
  rw [drop_cons h1, nxH, hT, show ((t : Int)).toNat = t from rfl]
  by_cases c : s < top l t
  · rw [if_pos c]
    simp only [w311_K0]; rw [ck_unf w311_B0.eq_1]
    simp (disch := omega) [h1, hT, htop, c, wI64, H.inl, inlB, H.pp, ppB]
  · rw [if_neg c]
    have this := ih (i + 1) (by omega)
    generalize nxH l s ((hdI ks l 0).drop (i + 1)) = R at *
    simp only [w311_K0] at this ⊢; rw [ck_unf w311_B0.eq_1]
    simp at this
    simp (disch := omega) [h1, hT, htop, c, wI64, H.inl, inlB, H.pp, ppB, this]
theorem rnext_ok (H : HasO30 C) (ks : List Kd) (ke : Bool) (cap : Int) (l : List En) (e : Bool) (s : Int) (hz : Szd l) (ht : ∀ x ∈ l, 0 ≤ x.i.t ∧ x.i.t < ks.length) :
 FnW C 311 [aR ks ke cap, .ro 6 (l.map eEn) e, .int .i64 s] = some (.int .i64 (nxF ks l s l.length 0)) := by
 have hn := hz.n
 have h1 := rheaders_ok H.toHasH30 ks ke cap l e hn ht
 have k := rnext_loop H ks l e false s hz (hdI ks l 0).length 0 (by simp)
 have h2 := nxH_eq ks l s l.length 0 (by omega)
 rw [List.drop_zero] at k h2
 rw [h2] at k
 generalize nxF ks l s l.length 0 = R at *
 generalize hdI ks l 0 = D at *
 rw [fnW_eq H.f311 rfl]
 simp only [w311_K0] at k
 try simp at k
 simp (disch := omega) [w311, h1, k, H.inl, inlB, H.pp, ppB]
end Go.D
end
section
set_option linter.unusedSimpArgs false
set_option linter.unusedVariables false
namespace Go.D
open Go Go.Pav Go.Pw P
set_option maxRecDepth 10000
set_option maxHeartbeats 4000000
set_option linter.unusedSimpArgs false
set_option linter.unusedVariables false
attribute [-simp] List.getElem_cons_drop
variable {C : WProg}
structure HasL156 (C : WProg) : Prop extends HasG C where
 f2003 : C.fns.get 2003 = some w130
def LofR156 (ks : List Kd) (E0 E1 : List (List AV)) (x : Option (AV × WHeap × Nat)) (R : List En) : Prop :=
 (R = [] ∧ x = some (.tup [aR ks true 12, .agg [.ro 6 [] true]], [(0, .cells 3 E0 true true), (1, .cells 7 E1 true true), (19, .cells 1 [[.ro 6 [] true]] true true), (20, .cells 2 [[.ro 9 (ks.map eKd) true, .int .i64 12]] true true),
  (21, .cells 1 [[.ro 6 [] true]] true true), (22, .cells 2 [[.ro 9 (ks.map eKd) true, .int .i64 12]] true true)], 27)) ∨
 (R ≠ [] ∧ x = some (.tup [aR ks true 12, .agg [.sl 20 6 0 R.length R.length false]], [(0, .cells 3 E0 true true), (1, .cells 7 E1 true true), (19, .cells 1 [[.sl 20 6 0 R.length R.length false]] true false), (20, .cells 6 (R.map eEn) true true),
  (21, .cells 2 [[.ro 9 (ks.map eKd) true, .int .i64 12]] true true), (22, .cells 1 [[.sl 20 6 0 R.length R.length false]] true false), (23, .cells 2 [[.ro 9 (ks.map eKd) true, .int .i64 12]] true true)], 28))
theorem lof156_sl (H : HasL156 C) (E0 E1 : List (List AV)) (ks : List Kd) (hks : KsIn ks) (l : List It) (le : Bool) (hl : l.length ≤ 12) (hg : ∀ x ∈ l, Good x) (q : List Q4) (qe : Bool) (z : List Int) (ze : Bool) (hz : ∀ s ∈ z, 0 ≤ s ∧ s ≤ 255) (hzl : z.length < 9223372036854775808) (r : Int) : ∀ n i, n + i = l.length →
 ∀ G : List En, G ≠ [] → G.length ≤ i → (∀ x ∈ G, GoodE ks x) → (keysE G ++ (l.drop i).map It.k).Nodup →
 ∃ R : List En, LofR156 ks E0 E1 (CK C 19 (fnEndW [.cell 2 2 true, .cell 3 1 true]) [.sq w130_L0, .bk 0 ⟨true, [6, 4, 3, 2], []⟩, .sq w130_c0] w130_B0 ⟨[(7, .int .i64 i), (6, .ptr 19 0 0), (5, .ro 4 (l.map cIt) le), (4, .ptr 21 0 0), (3, .ptr 22 0 0), (2, .ptr 23 0 0), (1, .ptr 24 0 0)], [(0, .cells 3 E0 true true), (1, .cells 7 E1 true true), (19, .cells 1 [[.sl 20 6 0 G.length G.length false]] true false), (20, .cells 6 (G.map eEn) true true), (21, .cells 2 [[.ro 9 (ks.map eKd) true, .int .i64 12]] true true), (22, .cells 1 [[.ro 6 [] true]] true true), (23, .cells 2 [[.ro 9 [] true, .int .i64 0]] true true), (24, .cells 3 [[.ro 4 (q.map eQ) qe, .ro 1 (z.map eU8) ze, .int .u8 r]] true true)], 25⟩) R ∧ R.length ≤ 12 ∧ (∀ e ∈ R, GoodE ks e) ∧ (keysE R).Nodup := by
 intro n
 induction n with
 | zero =>
  intro i hi G hne hG hge hn
  have h1 : l.drop i = [] := List.drop_eq_nil_of_le (by omega)
  have h3 : ¬ i < l.length := by omega
  have h6 : List.take G.length (List.map eEn G) = List.map eEn G := List.take_of_length_le (by simp)
  refine ⟨G, ?_, by omega, hge, by rw [h1] at hn; simpa using hn⟩
  rw [ck_unf w130_B0.eq_1]
  simp [ck_unf w130_c0.eq_1, h3, h6, LofR156, hne]
 | succ n ih =>
  intro i hi G hne hG hge hn
  have h1 : i < l.length := by omega
  have gx := hg _ (List.getElem_mem h1)
  have hii := ritem_ok H.toHasG.toHasK ks true 12 l[i] gx.it hks.r false
  have hfr := rfresh_ok H.toHasG.toHasK ks true 12 l[i] gx.it (by have := gx.t; have := hks.l; omega)
  have hbase := hks.b l[i].t gx.t.1 gx.t.2
  rw [drop_cons h1, List.map_cons] at hn
  have hfit : (G.length + 1) * 73 ≤ 35184372088832 := by omega
  simp only [aR, eIt, Bool.false_eq_true, if_false] at hii
  simp only [aR, eIt, aE, eEn, fre] at hfr
  have hE0 : 0 ≤ itE ks 12 l[i] false := by unfold itE; repeat (first | omega | split)
  by_cases c1 : itE ks 12 l[i] false = 0
  · have step : ∀ e : En, e.i = l[i] → GoodE ks e → ∃ R : List En, LofR156 ks E0 E1 (CK C 19 (fnEndW [.cell 2 2 true, .cell 3 1 true]) [.sq w130_L0, .bk 0 ⟨true, [6, 4, 3, 2], []⟩, .sq w130_c0] w130_B0 ⟨[(7, .int .i64 ((i : Int) + 1)), (6, .ptr 19 0 0), (5, .ro 4 (l.map cIt) le), (4, .ptr 21 0 0), (3, .ptr 22 0 0), (2, .ptr 23 0 0), (1, .ptr 24 0 0)], [(0, .cells 3 E0 true true), (1, .cells 7 E1 true true), (19, .cells 1 [[.sl 20 6 0 (G.length + 1) (G.length + 1) false]] true false), (20, .cells 6 (G.map eEn ++ [eEn e]) true true), (21, .cells 2 [[.ro 9 (ks.map eKd) true, .int .i64 12]] true true), (22, .cells 1 [[.ro 6 [] true]] true true), (23, .cells 2 [[.ro 9 [] true, .int .i64 0]] true true), (24, .cells 3 [[.ro 4 (q.map eQ) qe, .ro 1 (z.map eU8) ze, .int .u8 r]] true true)], 25⟩) R ∧ R.length ≤ 12 ∧ (∀ e ∈ R, GoodE ks e) ∧ (keysE R).Nodup := by
     intro e he hge2
     have := ih (i + 1) (by omega) (G ++ [e]) (by simp) (by simp; omega) (by
      intro y hy
      rcases List.mem_append.1 hy with q | q
      · exact hge y q
      · simp at q; rw [q]; exact hge2) (by simpa [keysE, he] using hn)
     simpa using this
    by_cases c2 : G.length < z.length
    · by_cases c3 : (0 : Int) < z[G.length]
      · have hzz := hz _ (List.getElem_mem c2)
        have hm : z[G.length].tmod 40 = z[G.length] % 40 := Int.tmod_eq_emod_of_nonneg hzz.1
        have hm1 : (0 : Int) ≤ z[G.length] % 40 := Int.emod_nonneg _ (by omega)
        have hm2 : z[G.length] % 40 < 40 := Int.emod_lt_of_pos _ (by omega)
        obtain ⟨R, this, hR⟩ := step ⟨l[i], 1 + z[G.length] % 40, true⟩ rfl ⟨gx, c1, by simp only; omega, .inl rfl⟩
        refine ⟨R, ?_, hR⟩
        rw [c1] at hii
        generalize z[G.length] % 40 = M at *
        rw [ck_unf w130_B0.eq_1]
        simp at this
        simp (disch := omega) [h1, c2, c3, hm, hii, hfr, hfit, wI64, wU8, H.inl, inlB, H.pp, ppB, this]
      · obtain ⟨R, this, hR⟩ := step (fre ks l[i]) rfl ⟨gx, c1, by unfold fre; simp only; omega, .inr rfl⟩
        refine ⟨R, ?_, hR⟩
        rw [c1] at hii
        simp only [fre] at this
        rw [ck_unf w130_B0.eq_1]
        simp at this
        simp (disch := omega) [h1, c2, c3, hii, hfr, hfit, wI64, wU8, H.inl, inlB, H.pp, ppB, this]
    · obtain ⟨R, this, hR⟩ := step (fre ks l[i]) rfl ⟨gx, c1, by unfold fre; simp only; omega, .inr rfl⟩
      refine ⟨R, ?_, hR⟩
      rw [c1] at hii
      simp only [fre] at this
      rw [ck_unf w130_B0.eq_1]
      simp at this
      simp (disch := omega) [h1, c2, hii, hfr, hfit, wI64, wU8, H.inl, inlB, H.pp, ppB, this]
  · have c1' : 0 < itE ks 12 l[i] false := by omega
    obtain ⟨R, this, hR⟩ := ih (i + 1) (by omega) G hne (by omega) hge (by
     refine List.Nodup.sublist ?_ hn; exact List.Sublist.append (List.Sublist.refl _) (List.sublist_cons_self _ _))
    refine ⟨R, ?_, hR⟩
    generalize itE ks 12 l[i] false = E at *
    rw [ck_unf w130_B0.eq_1]
    simp at this
    simp (disch := omega) [h1, c1', hii, wI64, H.inl, inlB, H.pp, ppB, this]
theorem lof156_nil (H : HasL156 C) (E0 E1 : List (List AV)) (ks : List Kd) (hks : KsIn ks) (l : List It) (le : Bool) (hl : l.length ≤ 12) (hg : ∀ x ∈ l, Good x) (q : List Q4) (qe : Bool) (z : List Int) (ze : Bool) (hz : ∀ s ∈ z, 0 ≤ s ∧ s ≤ 255) (hzl : z.length < 9223372036854775808) (r : Int) : ∀ n i, n + i = l.length →
 (keysE [] ++ (l.drop i).map It.k).Nodup →
 ∃ R : List En, LofR156 ks E0 E1 (CK C 19 (fnEndW [.cell 2 2 true, .cell 3 1 true]) [.sq w130_L0, .bk 0 ⟨true, [6, 4, 3, 2], []⟩, .sq w130_c0] w130_B0 ⟨[(7, .int .i64 i), (6, .ptr 19 0 0), (5, .ro 4 (l.map cIt) le), (4, .ptr 20 0 0), (3, .ptr 21 0 0), (2, .ptr 22 0 0), (1, .ptr 23 0 0)], [(0, .cells 3 E0 true true), (1, .cells 7 E1 true true), (19, .cells 1 [[.ro 6 [] true]] true true), (20, .cells 2 [[.ro 9 (ks.map eKd) true, .int .i64 12]] true true), (21, .cells 1 [[.ro 6 [] true]] true true), (22, .cells 2 [[.ro 9 [] true, .int .i64 0]] true true), (23, .cells 3 [[.ro 4 (q.map eQ) qe, .ro 1 (z.map eU8) ze, .int .u8 r]] true true)], 24⟩) R ∧ R.length ≤ 12 ∧ (∀ e ∈ R, GoodE ks e) ∧ (keysE R).Nodup := by
 intro n
 induction n with
 | zero =>
  intro i hi  hn
  have h1 : l.drop i = [] := List.drop_eq_nil_of_le (by omega)
  have h3 : ¬ i < l.length := by omega
  refine ⟨[], ?_, by simp, by simp, by simp⟩
  rw [ck_unf w130_B0.eq_1]
  simp [ck_unf w130_c0.eq_1, h3, LofR156]
 | succ n ih =>
  intro i hi  hn
  have h1 : i < l.length := by omega
  have gx := hg _ (List.getElem_mem h1)
  have hii := ritem_ok H.toHasG.toHasK ks true 12 l[i] gx.it hks.r false
  have hfr := rfresh_ok H.toHasG.toHasK ks true 12 l[i] gx.it (by have := gx.t; have := hks.l; omega)
  have hbase := hks.b l[i].t gx.t.1 gx.t.2
  rw [drop_cons h1, List.map_cons] at hn
  simp only [aR, eIt, Bool.false_eq_true, if_false] at hii
  simp only [aR, eIt, aE, eEn, fre] at hfr
  have hE0 : 0 ≤ itE ks 12 l[i] false := by unfold itE; repeat (first | omega | split)
  by_cases c1 : itE ks 12 l[i] false = 0
  · have step : ∀ e : En, e.i = l[i] → GoodE ks e → ∃ R : List En, LofR156 ks E0 E1 (CK C 19 (fnEndW [.cell 2 2 true, .cell 3 1 true]) [.sq w130_L0, .bk 0 ⟨true, [6, 4, 3, 2], []⟩, .sq w130_c0] w130_B0 ⟨[(7, .int .i64 ((i : Int) + 1)), (6, .ptr 19 0 0), (5, .ro 4 (l.map cIt) le), (4, .ptr 21 0 0), (3, .ptr 22 0 0), (2, .ptr 23 0 0), (1, .ptr 24 0 0)], [(0, .cells 3 E0 true true), (1, .cells 7 E1 true true), (19, .cells 1 [[.sl 20 6 0 1 1 false]] true false), (20, .cells 6 [eEn e] true true), (21, .cells 2 [[.ro 9 (ks.map eKd) true, .int .i64 12]] true true), (22, .cells 1 [[.ro 6 [] true]] true true), (23, .cells 2 [[.ro 9 [] true, .int .i64 0]] true true), (24, .cells 3 [[.ro 4 (q.map eQ) qe, .ro 1 (z.map eU8) ze, .int .u8 r]] true true)], 25⟩) R ∧ R.length ≤ 12 ∧ (∀ e ∈ R, GoodE ks e) ∧ (keysE R).Nodup := by
     intro e he hge2
     have := lof156_sl H E0 E1 ks hks l le hl hg q qe z ze hz hzl r n (i + 1) (by omega) [e] (by simp) (by simp) (by simpa using hge2) (by simpa [keysE, he] using hn)
     simpa using this
    by_cases c2 : 0 < z.length
    · by_cases c3 : (0 : Int) < z[0]
      · have hzz := hz _ (List.getElem_mem c2)
        have hm : z[0].tmod 40 = z[0] % 40 := Int.tmod_eq_emod_of_nonneg hzz.1
        have hm1 : (0 : Int) ≤ z[0] % 40 := Int.emod_nonneg _ (by omega)
        have hm2 : z[0] % 40 < 40 := Int.emod_lt_of_pos _ (by omega)
        obtain ⟨R, this, hR⟩ := step ⟨l[i], 1 + z[0] % 40, true⟩ rfl ⟨gx, c1, by simp only; omega, .inl rfl⟩
        refine ⟨R, ?_, hR⟩
        rw [c1] at hii
        generalize z[0] % 40 = M at *
        rw [ck_unf w130_B0.eq_1]
        simp at this
        simp (disch := omega) [h1, c2, c3, hm, hii, hfr, wI64, wU8, H.inl, inlB, H.pp, ppB, this]
      · obtain ⟨R, this, hR⟩ := step (fre ks l[i]) rfl ⟨gx, c1, by unfold fre; simp only; omega, .inr rfl⟩
        refine ⟨R, ?_, hR⟩
        rw [c1] at hii
        simp only [fre] at this
        rw [ck_unf w130_B0.eq_1]
        simp at this
        simp (disch := omega) [h1, c2, c3, hii, hfr, wI64, wU8, H.inl, inlB, H.pp, ppB, this]
    · obtain ⟨R, this, hR⟩ := step (fre ks l[i]) rfl ⟨gx, c1, by unfold fre; simp only; omega, .inr rfl⟩
      refine ⟨R, ?_, hR⟩
      rw [c1] at hii
      simp only [fre] at this
      rw [ck_unf w130_B0.eq_1]
      simp at this
      simp (disch := omega) [h1, c2, hii, hfr, wI64, wU8, H.inl, inlB, H.pp, ppB, this]
  · have c1' : 0 < itE ks 12 l[i] false := by omega
    obtain ⟨R, this, hR⟩ := ih (i + 1) (by omega) (by
     simp only [keysE, List.map_nil, List.nil_append] at hn ⊢; exact (List.nodup_cons.1 hn).2)
    refine ⟨R, ?_, hR⟩
    generalize itE ks 12 l[i] false = E at *
    rw [ck_unf w130_B0.eq_1]
    simp at this
    simp (disch := omega) [h1, c1', hii, wI64, H.inl, inlB, H.pp, ppB, this]
theorem lof156_ok (H : HasL156 C) (hone : ∀ q : Q4, QIn q → ∃ i : It, FnW C 422 [.agg (eQ q)] = some (eIt i) ∧ Good i) (E0 E1 : List (List AV)) (q : List Q4) (qe : Bool) (hq : ∀ x ∈ q, QIn x) (z : List Int) (ze : Bool) (hz : ∀ s ∈ z, 0 ≤ s ∧ s ≤ 255) (hzl : z.length < 9223372036854775808) (r : Int) (hr : 0 ≤ r ∧ r ≤ 255) :
 ∃ R : List En, LofR156 (kindsOf r) E0 E1 (RnW C 2003 [.agg [.ro 4 (q.map eQ) qe, .ro 1 (z.map eU8) ze, .int .u8 r]] [(0, .cells 3 E0 true true), (1, .cells 7 E1 true true)] 19) R ∧ R.length ≤ 12 ∧ (∀ e ∈ R, GoodE (kindsOf r) e) ∧ (keysE R).Nodup := by
 obtain ⟨I, hI, l1, l2, l3⟩ := items_ok H.toHasG hone q qe hq
 have hk := kinds_ok H.toHasG r hr
 obtain ⟨R, h, hR⟩ := lof156_nil H E0 E1 (kindsOf r) (ks_in r hr) I false l1 l2 q qe z ze hz hzl r I.length 0 (by simp) (by simpa [keysE] using l3)
 refine ⟨R, ?_, hR⟩
 rw [rnW_eq (args := [.agg [.ro 4 (q.map eQ) qe, .ro 1 (z.map eU8) ze, .int .u8 r]]) H.f2003 rfl]
 generalize kindsOf r = ks at *
 simp at h
 simp [w130, hI, hk, H.inl, inlB, H.pp, ppB]
 exact h
end Go.D
end
section
set_option linter.unusedSimpArgs false
set_option linter.unusedVariables false
namespace Go.D
open Go Go.Pav Go.Pw P
set_option maxRecDepth 10000
set_option maxHeartbeats 4000000
set_option linter.unusedSimpArgs false
set_option linter.unusedVariables false
attribute [-simp] List.getElem_cons_drop
variable {C : WProg}
structure HasHo (C : WProg) : Prop extends HasO30 C, HasL156 C where
 f156 : C.fns.get 156 = some w156
structure HoS (C : WProg) (ks : List Kd) (X : List En) (f : Bool) (s B W a n p g h x pl : Int) (fa fn_ : Bool) (D : List Int) (S : List Se) (u u2 : Bool) : Prop where
 c147 : FnW C 147 [aR ks true 12, .ro 6 (X.map eEn) f, .int .i64 s] = some (.int .i64 B)
 c148 : FnW C 148 [aR ks true 12, aL X f, .int .i64 s] = some (.tup [.int .i64 a, .bool fa, .int .i64 B])
 c310 : FnW C 310 [aR ks true 12, aL X f, .int .i64 s] = some (.tup [.int .i64 n, .bool fn_, .int .i64 B])
 c150 : FnW C 150 [aR ks true 12, aL X f, .int .i64 s] = some (.tup [.int .i64 p, .int .i64 g])
 c305 : FnW C 305 [aR ks true 12, aL X f] = some (.tup [.ro 1 (D.map eI) true, .int .i64 W])
 c152 : FnW C 152 [aR ks true 12, aL X f] = some (.tup [.ro 4 (S.map eSe) true, .int .i64 W])
 c235 : FnW C 235 [aR ks true 12, .ro 6 (X.map eEn) f] = some (.int .i64 W)
 bad1 : W ≠ 0 → B = W ∧ g = W ∧ a = 0 ∧ fa = false ∧ n = 0 ∧ fn_ = false ∧ p = 0 ∧ D = [] ∧ S = []
 c308 : W = 0 → FnW C 308 [aR ks true 12, .ro 6 (X.map eEn) f] = some (.ro 1 (D.map eI) u)
 c154 : W = 0 → FnW C 154 [aR ks true 12, .ro 6 (X.map eEn) f] = some (.ro 4 (S.map eSe) u2)
 c136 : FnW C 136 [.ro 1 (D.map eI) true, .ro 1 (D.map eI) u] = some (.int .i64 1)
 c153 : FnW C 153 [.ro 4 (S.map eSe) true, .ro 4 (S.map eSe) u2] = some (.int .i64 1)
 bad2 : W = 0 → B ≠ 0 → g = B ∧ a = 0 ∧ fa = false ∧ n = 0 ∧ fn_ = false ∧ p = 0
 c149 : W = 0 → B = 0 → FnW C 149 [aR ks true 12, .ro 6 (X.map eEn) f, .int .i64 s] = some (.int .i64 h)
 c311 : W = 0 → B = 0 → FnW C 311 [aR ks true 12, .ro 6 (X.map eEn) f, .int .i64 s] = some (.int .i64 x)
 good : W = 0 → B = 0 → (fa = decide (0 ≤ h)) ∧ a = imax h 0 ∧ fn_ = decide (0 ≤ x) ∧ n = imax x 0
 gh : W = 0 → B = 0 → h < 0 → g = 11 ∧ p = 0
 gg : W = 0 → B = 0 → 0 ≤ h → g = 0 ∧ p = pl ∧ FnW C 151 [aR ks true 12, .ro 6 (X.map eEn) f, .int .i64 s, .int .i64 h] = some (.int .i64 pl)
theorem hos_ok (H : HasHo C) (r : Int) (hr : 0 ≤ r ∧ r ≤ 255) (l : List En) (f : Bool) (hl : l.length ≤ 12) (hs : ∀ x ∈ l, EnIn x) (s : Int) (hsb : -9223372036854775808 ≤ s ∧ s ≤ 9223372036854775807)
 (hck : ckE (kindsOf r) 12 l = 0 → Szd l ∧ ∀ x ∈ l, 0 ≤ x.i.t ∧ x.i.t < (kindsOf r).length) (hnn : 0 ≤ ckE (kindsOf r) 12 l) :
 ∃ B W a n p g h x pl fa fn_ D S u u2, HoS C (kindsOf r) l f s B W a n p g h x pl fa fn_ D S u u2 := by
 have c147 := rerror_ok H.toHasO30 (kindsOf r) true 12 (ru_in r) l f (by omega) hs hck hnn s
 have c305 := headers_ok H.toHasH30 (kindsOf r) true 12 (ru_in r) l f (by omega) hs (fun q => (hck q).2)
 have c152 := sections_ok H.toHasS30 (kindsOf r) true 12 (ru_in r) l f (by omega) hs hck
 have c235 := rlcheck_ok H.toHasK (kindsOf r) true 12 (ru_in r) l f (by omega) hs
 unfold secE at c152
 have hdl := hdI_len (kindsOf r) l 0
 have hsl := secA_len (kindsOf r) l
 by_cases c : ckE (kindsOf r) 12 l = 0
 · obtain ⟨hz, ht⟩ := hck c
   rw [if_pos c, c] at c305 c152
   rw [c] at c235
   have c308 := rheaders_ok H.toHasH30 (kindsOf r) true 12 l f (by omega) ht
   obtain ⟨u2, c154⟩ := rsections_ok H.toHasR30 (kindsOf r) true 12 l f hz ht
   have s1 := intsame_ok H.toHasWn (hdI (kindsOf r) l 0) true false (by omega)
   have s2 := same30_ok H.toHasO30 (secA (kindsOf r) l) true u2 (by omega)
   by_cases d : offE (kindsOf r) 12 l s = 0
   · rw [d] at c147
     have c149 := rhead_ok H.toHasHd (kindsOf r) true 12 l f s hz ht
     have c311 := rnext_ok H.toHasO30 (kindsOf r) true 12 l f s hz ht
     have hx := d
     unfold offE at hx
     rw [if_neg (by simpa using c)] at hx
     by_cases n0 : l.length = 0
     · have hnil : l = [] := List.eq_nil_of_length_eq_zero n0
       subst hnil
       have hs0 : s = 0 := by
        split at hx
        · cases hx
        · rename_i q; simp [top_0] at q; omega
       subst hs0
       obtain ⟨k1, k2, k3⟩ := hes_nil H.toHasS30 (kindsOf r) true 12 (ru_in r) f c hz
       have e1 : hrA (kindsOf r) [] 0 = -1 := rfl
       have e2 : nxF (kindsOf r) [] 0 ([] : List En).length 0 = -1 := rfl
       rw [e1] at c149
       rw [e2] at c311
       exact ⟨0, 0, 0, 0, 0, 11, -1, -1, 0, false, false, _, _, false, u2, c147, by simpa using k1, by simpa using k2, by simpa using k3, c305, c152, c235, fun q => absurd rfl q, fun _ => c308, fun _ => c154, s1, s2, fun _ q => absurd rfl q, fun _ _ => c149, fun _ _ => c311,
        fun _ _ => ⟨by simp, by simp [imax], by simp, by simp [imax]⟩, fun _ _ _ => ⟨rfl, rfl⟩, fun _ _ q => by omega⟩
     · have hst : 0 ≤ s ∧ s < top l l.length := by
        split at hx
        · cases hx
        · omega
       have htb := top_b hz l.length (Nat.le_refl _)
       obtain ⟨k1, k2, k3⟩ := hes_ok H.toHasS30 (kindsOf r) true 12 (ru_in r) l f (by omega) hs c hz ht s (by omega) hst.1 hst.2
       have hb := hrA_bd' (kindsOf r) l s
       refine ⟨0, 0, _, _, _, _, hrA (kindsOf r) l s, nxF (kindsOf r) l s l.length 0, plA (kindsOf r) l s (hrA (kindsOf r) l s).toNat, _, _, _, _, false, u2, c147, k1, k2, k3, c305, c152, c235, fun q => absurd rfl q, fun _ => c308, fun _ => c154, s1, s2, fun _ q => absurd rfl q, fun _ _ => c149, fun _ _ => c311, fun _ _ => ⟨rfl, ?_, rfl, ?_⟩, fun _ _ q => ⟨by rw [if_neg (by omega)], by rw [if_neg (by omega)]⟩, fun _ _ q => ⟨by rw [if_pos q], by rw [if_pos q], ?_⟩⟩
       · unfold imax; split <;> split <;> omega
       · unfold imax; split <;> split <;> omega
       · obtain ⟨t, hT⟩ : ∃ t : Nat, hrA (kindsOf r) l s = t := ⟨(hrA (kindsOf r) l s).toNat, by omega⟩
         rw [hT, show ((t : Int)).toNat = t from rfl]
         exact place_ok H.toHasHd (kindsOf r) true 12 l f s (by omega) hz ht t (by omega)
   · obtain ⟨k1, k2, k3⟩ := hes_bad H.toHasS30 (kindsOf r) true 12 (ru_in r) l f (by omega) hs hck s d
     exact ⟨_, 0, 0, 0, 0, _, 0, 0, 0, false, false, _, _, false, u2, c147, k1, k2, k3, c305, c152, c235, fun q => absurd rfl q, fun _ => c308, fun _ => c154, s1, s2, fun _ _ => ⟨rfl, rfl, rfl, rfl, rfl, rfl⟩, fun _ q => absurd q d, fun _ q => absurd q d, fun _ q => absurd q d, fun _ q => absurd q d, fun _ q => absurd q d⟩
 · have hB : offE (kindsOf r) 12 l s = ckE (kindsOf r) 12 l := by unfold offE; rw [if_pos c]
   rw [if_neg c] at c305 c152
   obtain ⟨k1, k2, k3⟩ := hes_bad H.toHasS30 (kindsOf r) true 12 (ru_in r) l f (by omega) hs hck s (by rw [hB]; exact c)
   rw [hB] at k1 k2 k3 c147
   have s1 := intsame_ok H.toHasWn [] true true (by simp)
   have s2 := same30_ok H.toHasO30 [] true true (by simp)
   exact ⟨_, _, 0, 0, 0, _, 0, 0, 0, false, false, [], [], true, true, c147, k1, k2, k3, c305, c152, c235, fun _ => ⟨rfl, rfl, rfl, rfl, rfl, rfl, rfl, rfl, rfl⟩, fun q => absurd q c, fun q => absurd q c, s1, s2, fun q => absurd q c, fun q => absurd q c, fun q => absurd q c, fun q => absurd q c, fun q => absurd q c, fun q => absurd q c⟩
end Go.D
end
section
set_option linter.unusedSimpArgs false
set_option linter.unusedVariables false
namespace Go.D
open Go Go.Pav Go.Pw P
set_option maxRecDepth 10000
set_option maxHeartbeats 4000000
set_option linter.unusedSimpArgs false
set_option linter.unusedVariables false
attribute [-simp] List.getElem_cons_drop
variable {C : WProg}
end Go.D
end
section
set_option linter.unusedSimpArgs false
set_option linter.unusedVariables false
namespace Go.D
open Go Go.Pav Go.Pw P
set_option maxRecDepth 10000
set_option maxHeartbeats 4000000
set_option linter.unusedSimpArgs false
set_option linter.unusedVariables false
attribute [-simp] List.getElem_cons_drop
variable {C : WProg}
end Go.D
end
section
set_option linter.unusedSimpArgs false
set_option linter.unusedVariables false
namespace Go.D
open Go Go.Pav Go.Pw P
set_option maxRecDepth 10000
set_option maxHeartbeats 4000000
set_option linter.unusedSimpArgs false
set_option linter.unusedVariables false
attribute [-simp] List.getElem_cons_drop
variable {C : WProg}
end Go.D
end
section
set_option linter.unusedSimpArgs false
set_option linter.unusedVariables false
namespace Go.D
open Go Go.Pav Go.Pw P
set_option maxRecDepth 10000
set_option maxHeartbeats 4000000
set_option linter.unusedSimpArgs false
set_option linter.unusedVariables false
attribute [-simp] List.getElem_cons_drop
variable {C : WProg}
end Go.D
end
section
set_option linter.unusedSimpArgs false
set_option linter.unusedVariables false
namespace Go.D
open Go Go.Pav Go.Pw P
set_option maxRecDepth 10000
set_option maxHeartbeats 4000000
set_option linter.unusedSimpArgs false
set_option linter.unusedVariables false
attribute [-simp] List.getElem_cons_drop
variable {C : WProg}
theorem chk_allW (ks : List Kd) : ∀ (l : List En) (s : List Int), chk ks 12 s l = 0 → ∀ e ∈ l, itE ks 12 e.i false = 0 ∧ hOk e.s = true ∧ (e.kn = true ∨ e.s = (kdAt ks e.i.t).b)
 | [], _, _, e, he => by cases he
 | x :: r, s, h, e, he => by
  rw [chk] at h
  by_cases c : enE ks 12 x (s.contains x.i.k) = 0
  · rw [if_neg (by simpa using c)] at h
    rcases List.mem_cons.1 he with q | q
    · subst q
      unfold enE at c
      by_cases d : itE ks 12 e.i (s.contains e.i.k) = 0
      · rw [if_neg (by simpa using d)] at c
        have hd : itE ks 12 e.i false = 0 := by
         unfold itE at d ⊢
         split at d
         · cases d
         · rename_i g
           rw [if_neg g, if_neg (by simp)]
           split at d
           · cases d
           · exact d
        by_cases g : hOk e.s = true ∧ (e.kn = true ∨ e.s = (kdAt ks e.i.t).b)
        · exact ⟨hd, g⟩
        · rw [if_neg g] at c; cases c
      · rw [if_pos d] at c; exact absurd c d
    · exact chk_allW ks r _ h e q
  · rw [if_pos c] at h; exact absurd h c
end Go.D
end
section
set_option linter.unusedSimpArgs false
set_option linter.unusedVariables false
namespace Go.D
open Go Go.Pav Go.Pw P
set_option maxRecDepth 10000
set_option maxHeartbeats 4000000
set_option linter.unusedSimpArgs false
set_option linter.unusedVariables false
attribute [-simp] List.getElem_cons_drop
variable {C : WProg}
theorem enE_nn (ks : List Kd) (cap : Int) (e : En) (b : Bool) : 0 ≤ enE ks cap e b := by
 have h : ∀ b, 0 ≤ itE ks cap e.i b := by intro b; unfold itE; repeat (first | omega | split)
 have := h b
 unfold enE
 repeat (first | omega | split)
theorem chk_nn (ks : List Kd) (cap : Int) : ∀ (l : List En) (s : List Int), 0 ≤ chk ks cap s l
 | [], _ => by rw [chk]; omega
 | e :: r, s => by
  rw [chk]
  split
  · exact enE_nn ..
  · exact chk_nn ks cap r _
theorem ckE_nn (ks : List Kd) (cap : Int) (l : List En) : 0 ≤ ckE ks cap l := by
 have := chk_nn ks cap l []
 unfold ckE ovE
 repeat (first | omega | split)
theorem t_of_ck {r : Int} {l : List En} (hr : 0 ≤ r ∧ r ≤ 255) (hs : ∀ x ∈ l, EnIn x) (h : ckE (kindsOf r) 12 l = 0) : ∀ x ∈ l, 0 ≤ x.i.t ∧ x.i.t < (kindsOf r).length := by
 have hru := ru_ok r hr
 have h2 : chk (kindsOf r) 12 [] l = 0 := by
  unfold ckE at h
  rw [hru, if_neg (by simp)] at h
  split at h
  · cases h
  · by_cases c : chk (kindsOf r) 12 [] l = 0
    · exact c
    · rw [if_pos c] at h; exact absurd h c
 intro x hx
 obtain ⟨a1, a2, a3⟩ := chk_allW (kindsOf r) l [] h2 x hx
 have q := itOk_t (itE_rnd a1).1
 have := (hs x hx).i.t
 omega
end Go.D
end
section
set_option linter.unusedSimpArgs false
set_option linter.unusedVariables false
namespace Go.D
open Go Go.Pav Go.Pw P
set_option maxRecDepth 10000
set_option maxHeartbeats 8000000
set_option linter.unusedSimpArgs false
set_option linter.unusedVariables false
attribute [-simp] List.getElem_cons_drop
variable {C : WProg}
theorem ck_szd {r : Int} {l : List En} (hr : 0 ≤ r ∧ r ≤ 255) (hl : l.length ≤ 12) (hs : ∀ x ∈ l, EnIn x) (h : ckE (kindsOf r) 12 l = 0) : Szd l ∧ ∀ x ∈ l, 0 ≤ x.i.t ∧ x.i.t < (kindsOf r).length := by
 refine ⟨?_, t_of_ck hr hs h⟩
 have hru := ru_ok r hr
 have h2 : chk (kindsOf r) 12 [] l = 0 ∧ ovE l = 0 := by
  unfold ckE at h
  rw [hru, if_neg (by simp), if_neg (by omega)] at h
  by_cases c : chk (kindsOf r) 12 [] l = 0
  · rw [if_neg (by simpa using c)] at h; exact ⟨c, h⟩
  · rw [if_pos c] at h; exact absurd h c
 have hall := chk_allW (kindsOf r) l [] h2.1
 refine szd_of ?_
 unfold szE
 rw [if_neg (by omega), if_neg, h2.2]
 intro q
 obtain ⟨x, hx, q⟩ := List.any_eq_true.1 q
 rw [(hall x hx).2.1] at q
 cases q
theorem ho_end (H : HasHo C) (hone : ∀ q : Q4, QIn q → ∃ i : It, FnW C 422 [.agg (eQ q)] = some (eIt i) ∧ Good i) (hlives : FnW C 157 [] = some (.bool true))
 (q : List Q4) (qe : Bool) (hq : ∀ x ∈ q, QIn x) (z : List Int) (ze : Bool) (hz : ∀ s ∈ z, 0 ≤ s ∧ s ≤ 255) (hzl : z.length < 9223372036854775808) (r : Int) (hr : 0 ≤ r ∧ r ≤ 255)
 (e : En) (he : EnIn e) (s : Int) (bent : Bool) (hsb : -9223372036854775808 ≤ s ∧ s ≤ 9223372036854775807) (c1 : ¬ (70 : Int) < e.i.x.length) (c2 : e.i.m.length = 0) :
 FnW C 156 [.agg [.ro 4 (q.map eQ) qe, .ro 1 (z.map eU8) ze, .int .u8 r], .int .i64 s, .agg (.bool bent :: eEn e)] = some (.bool true) := by
 obtain ⟨R, hR, hl, hg, hn⟩ := lof156_ok H.toHasL156 hone [[.ro 4 (q.map eQ) qe, .ro 1 (z.map eU8) ze, .int .u8 r]] [.bool bent :: eEn e] q qe hq z ze hz hzl r hr
 rw [fnW_eq H.f156 rfl]
 have fin : ∀ (X : List En) (f : Bool), X.length ≤ 12 → (∀ x ∈ X, EnIn x) → ∃ B W a n p g h x pl fa fn_ D S u u2, HoS C (kindsOf r) X f s B W a n p g h x pl fa fn_ D S u u2 := fun X f h1 h2 => hos_ok H r hr X f h1 h2 s hsb (ck_szd hr h1 h2) (ckE_nn ..)
 have key : ∀ (X : List En) (f : Bool) (ks : List Kd), (∃ B W a n p g h x pl fa fn_ D S u u2, HoS C ks X f s B W a n p g h x pl fa fn_ D S u u2) → True := fun _ _ _ _ => trivial
 rcases hR with ⟨rfl, hR⟩ | ⟨hne, hR⟩
 · obtain ⟨B, W, a, n, p, g, h, x, pl, fa, fn_, D, S, u, u2, E⟩ := fin [] true (by simp) (by simp)
   obtain ⟨k1, k2, k3, k4, k5, k6, k7, b1, k8, k9, k10, k11, b2, k12, k13, g1, g2, g3⟩ := E
   generalize kindsOf r = ks at *
   simp only [eEn, aR] at hR
   simp only [aL, aR, List.map_nil] at k1 k2 k3 k4 k5 k6 k7 k8 k9 k12 k13 g3
   by_cases w : W = 0
   · subst w
     have k8 := k8 rfl
     have k9 := k9 rfl
     by_cases b : B = 0
     · subst b
       have k12 := k12 rfl rfl
       have k13 := k13 rfl rfl
       obtain ⟨e1, e2, e3, e4⟩ := g1 rfl rfl
       subst e1; subst e2; subst e3; subst e4
       by_cases d : h < 0
       · obtain ⟨e5, e6⟩ := g2 rfl rfl d
         subst e5; subst e6
         cases bent <;> simp (disch := omega) [w156, eEn, c1, c2, hR, k1, k2, k3, k4, k5, k6, k7, k8, k9, k10, k11, k12, k13, d, imax, hlives, wI64, H.inl, inlB, H.pp, ppB]
       · obtain ⟨e5, e6, e7⟩ := g3 rfl rfl (by omega)
         subst e5; subst e6
         cases bent <;> simp (disch := omega) [w156, eEn, c1, c2, hR, k1, k2, k3, k4, k5, k6, k7, k8, k9, k10, k11, k12, k13, d, e7, imax, hlives, wI64, H.inl, inlB, H.pp, ppB]
     · obtain ⟨e1, e2, e3, e4, e5, e6⟩ := b2 rfl b
       subst e1; subst e2; subst e3; subst e4; subst e5; subst e6
       cases bent <;> simp (disch := omega) [w156, eEn, c1, c2, hR, k1, k2, k3, k4, k5, k6, k7, k8, k9, k10, k11, b, hlives, wI64, H.inl, inlB, H.pp, ppB]
   · obtain ⟨e1, e2, e3, e4, e5, e6, e7, e8, e9⟩ := b1 w
     subst e1; subst e2; subst e3; subst e4; subst e5; subst e6; subst e7; subst e8; subst e9
     simp only [List.map_nil] at k5 k6
     cases bent <;> simp (disch := omega) [w156, eEn, c1, c2, hR, k1, k2, k3, k4, k5, k6, k7, w, hlives, wI64, H.inl, inlB, H.pp, ppB]
 · have hpos : 0 < R.length := List.length_pos_iff.2 hne
   have hmid : R.length / 2 < R.length := by omega
   have hq2 : (R.length : Int).tdiv 2 = ((R.length / 2 : Nat) : Int) := by
    rw [Int.tdiv_eq_ediv_of_nonneg (by omega)]; omega
   have hset : (R.map eEn).set (R.length / 2) [.int .u64 e.i.k, .int .u8 e.i.t, .str e.i.x, .ro 1 (e.i.m.map eS) e.i.e, .int .i64 e.s, .bool e.kn] = (R.set (R.length / 2) e).map eEn := by
    rw [List.map_set]; rfl
   obtain ⟨X, hX, hXl, hXs⟩ : ∃ X : List En, X = (if bent = true then R.set (R.length / 2) e else R) ∧ X.length = R.length ∧ ∀ x ∈ X, EnIn x := by
    refine ⟨_, rfl, by split <;> simp, fun x hx => ?_⟩
    split at hx
    · rcases List.mem_or_eq_of_mem_set hx with h | h
      · exact (hg x h).en
      · subst h; exact he
    · exact (hg x hx).en
   obtain ⟨B, W, a, n, p, g, h, x, pl, fa, fn_, D, S, u, u2, E⟩ := fin X false (by omega) hXs
   obtain ⟨k1, k2, k3, k4, k5, k6, k7, b1, k8, k9, k10, k11, b2, k12, k13, g1, g2, g3⟩ := E
   have htk : List.take R.length (X.map eEn) = X.map eEn := List.take_of_length_le (by simp; omega)
   have hcase : (bent = false ∧ X = R) ∨ (bent = true ∧ X = R.set (R.length / 2) e) := by
    cases bent
    · exact .inl ⟨rfl, by simpa using hX⟩
    · exact .inr ⟨rfl, by simpa using hX⟩
   clear hX
   generalize kindsOf r = ks at *
   simp only [eEn, aR] at hR
   simp only [aL, aR] at k1 k2 k3 k4 k5 k6 k7 k8 k9 k12 k13 g3
   generalize R.length / 2 = mid at *
   rcases hcase with ⟨rfl, hX⟩ | ⟨rfl, hX⟩
   · subst hX
     clear hset
     have hset : True := trivial
     by_cases w : W = 0
     · subst w
       have k8 := k8 rfl
       have k9 := k9 rfl
       by_cases b : B = 0
       · subst b
         have k12 := k12 rfl rfl
         have k13 := k13 rfl rfl
         obtain ⟨e1, e2, e3, e4⟩ := g1 rfl rfl
         subst e1; subst e2; subst e3; subst e4
         by_cases d : h < 0
         · obtain ⟨e5, e6⟩ := g2 rfl rfl d
           subst e5; subst e6
           simp (disch := omega) [w156, eEn, c1, c2, hR, hpos, hmid, hset, htk, hq2, k1, k2, k3, k4, k5, k6, k7, k8, k9, k10, k11, k12, k13, d, imax, hlives, wI64, H.inl, inlB, H.pp, ppB]
         · obtain ⟨e5, e6, e7⟩ := g3 rfl rfl (by omega)
           subst e5; subst e6
           simp (disch := omega) [w156, eEn, c1, c2, hR, hpos, hmid, hset, htk, hq2, k1, k2, k3, k4, k5, k6, k7, k8, k9, k10, k11, k12, k13, d, e7, imax, hlives, wI64, H.inl, inlB, H.pp, ppB]
       · obtain ⟨e1, e2, e3, e4, e5, e6⟩ := b2 rfl b
         subst e1; subst e2; subst e3; subst e4; subst e5; subst e6
         simp (disch := omega) [w156, eEn, c1, c2, hR, hpos, hmid, hset, htk, hq2, k1, k2, k3, k4, k5, k6, k7, k8, k9, k10, k11, b, hlives, wI64, H.inl, inlB, H.pp, ppB]
     · obtain ⟨e1, e2, e3, e4, e5, e6, e7, e8, e9⟩ := b1 w
       subst e1; subst e2; subst e3; subst e4; subst e5; subst e6; subst e7; subst e8; subst e9
       simp only [List.map_nil] at k5 k6
       simp (disch := omega) [w156, eEn, c1, c2, hR, hpos, hmid, hset, htk, hq2, k1, k2, k3, k4, k5, k6, k7, w, hlives, wI64, H.inl, inlB, H.pp, ppB]
   · rw [← hX] at hset
     clear hX
     by_cases w : W = 0
     · subst w
       have k8 := k8 rfl
       have k9 := k9 rfl
       by_cases b : B = 0
       · subst b
         have k12 := k12 rfl rfl
         have k13 := k13 rfl rfl
         obtain ⟨e1, e2, e3, e4⟩ := g1 rfl rfl
         subst e1; subst e2; subst e3; subst e4
         by_cases d : h < 0
         · obtain ⟨e5, e6⟩ := g2 rfl rfl d
           subst e5; subst e6
           simp (disch := omega) [w156, eEn, c1, c2, hR, hpos, hmid, hset, hXl, htk, hq2, k1, k2, k3, k4, k5, k6, k7, k8, k9, k10, k11, k12, k13, d, imax, hlives, wI64, H.inl, inlB, H.pp, ppB]
         · obtain ⟨e5, e6, e7⟩ := g3 rfl rfl (by omega)
           subst e5; subst e6
           simp (disch := omega) [w156, eEn, c1, c2, hR, hpos, hmid, hset, hXl, htk, hq2, k1, k2, k3, k4, k5, k6, k7, k8, k9, k10, k11, k12, k13, d, e7, imax, hlives, wI64, H.inl, inlB, H.pp, ppB]
       · obtain ⟨e1, e2, e3, e4, e5, e6⟩ := b2 rfl b
         subst e1; subst e2; subst e3; subst e4; subst e5; subst e6
         simp (disch := omega) [w156, eEn, c1, c2, hR, hpos, hmid, hset, hXl, htk, hq2, k1, k2, k3, k4, k5, k6, k7, k8, k9, k10, k11, b, hlives, wI64, H.inl, inlB, H.pp, ppB]
     · obtain ⟨e1, e2, e3, e4, e5, e6, e7, e8, e9⟩ := b1 w
       subst e1; subst e2; subst e3; subst e4; subst e5; subst e6; subst e7; subst e8; subst e9
       simp only [List.map_nil] at k5 k6
       simp (disch := omega) [w156, eEn, c1, c2, hR, hpos, hmid, hset, hXl, htk, hq2, k1, k2, k3, k4, k5, k6, k7, w, hlives, wI64, H.inl, inlB, H.pp, ppB]
theorem holaw_ok (H : HasHo C) (hone : ∀ q : Q4, QIn q → ∃ i : It, FnW C 422 [.agg (eQ q)] = some (eIt i) ∧ Good i) (hlives : FnW C 157 [] = some (.bool true))
 (q : List Q4) (qe : Bool) (hq : ∀ x ∈ q, QIn x) (z : List Int) (ze : Bool) (hz : ∀ s ∈ z, 0 ≤ s ∧ s ≤ 255) (hzl : z.length < 9223372036854775808) (r : Int) (hr : 0 ≤ r ∧ r ≤ 255)
 (e : En) (hk : 0 ≤ e.i.k ∧ e.i.k < 18446744073709551616) (ht : 0 ≤ e.i.t ∧ e.i.t ≤ 255) (hes : -9223372036854775808 ≤ e.s ∧ e.s ≤ 9223372036854775807)
 (s : Int) (bent : Bool) (hsb : -9223372036854775808 ≤ s ∧ s ≤ 9223372036854775807) :
 FnW C 156 [.agg [.ro 4 (q.map eQ) qe, .ro 1 (z.map eU8) ze, .int .u8 r], .int .i64 s, .agg (.bool bent :: eEn e)] = some (.bool true) := by
 by_cases c1 : (70 : Int) < e.i.x.length
 · rw [fnW_eq H.f156 rfl]
   simp (disch := omega) [w156, eEn, c1, hlives, wI64, H.inl, inlB, H.pp, ppB]
 · by_cases c2 : e.i.m.length = 0
   · exact ho_end H hone hlives q qe hq z ze hz hzl r hr e ⟨⟨hk, ht, by omega⟩, hes⟩ s bent hsb c1 c2
   · rw [fnW_eq H.f156 rfl]
     have c3 : (0 : Int) < e.i.m.length := by omega
     have c4 : ¬ e.i.m = [] := fun q => c2 (by rw [q]; rfl)
     simp (disch := omega) [w156, eEn, c1, c3, c4, hlives, wI64, H.inl, inlB, H.pp, ppB]
end Go.D
end
section
set_option linter.unusedSimpArgs false
set_option linter.unusedVariables false
namespace Go.D
open Go Go.Pav Go.Pw P
set_option maxRecDepth 10000
set_option maxHeartbeats 4000000
set_option linter.unusedSimpArgs false
set_option linter.unusedVariables false
attribute [-simp] List.getElem_cons_drop
variable {C : WProg}
def ChS (l : List En) (tot : Int) : Bool → Int → List Se → Prop
 | _, _, [] => False
 | b, f, [x] => x.f = f ∧ f < tot ∧ x.t = tot ∧ x.p = tot ∧ ((b = true ∧ x.h = -1) ∨ (0 ≤ x.h ∧ x.h < l.length))
 | b, f, x :: y :: r => x.f = f ∧ f < x.t ∧ x.t ≤ tot ∧ ((b = true ∧ x.h = -1 ∧ x.p = x.t) ∨ (0 ≤ x.h ∧ x.h < l.length ∧ f < x.p ∧ x.p ≤ x.t ∧ x.p = x.t - szI l x.h + 1)) ∧ ChS l tot false x.t (y :: r)
theorem ch_sec (ks : List Kd) (l : List En) (hz : Szd l) : ∀ n i, n + i = l.length → ∀ (h f : Int) (b : Bool), f < top l i → ((b = true ∧ h = -1) ∨ (0 ≤ h ∧ h < l.length ∧ f + szI l h ≤ top l i)) → ChS l (top l l.length) b f (secF ks l (top l l.length) n i h f) := by
 intro n
 induction n with
 | zero =>
  intro i hi h f b hf hh
  have hi' : i = l.length := by omega
  subst hi'
  rw [secF]
  refine ⟨rfl, hf, rfl, rfl, ?_⟩
  rcases hh with hh | hh
  · exact .inl hh
  · exact .inr ⟨hh.1, hh.2.1⟩
 | succ n ih =>
  intro i hi h f b hf hh
  have hil : i < l.length := by omega
  have hm := hz.mono (i := i) (j := l.length) (by omega) (by omega)
  have hm1 := hz.mono (i := i) (j := i + 1) (by omega) (by omega)
  rw [secF]
  by_cases c : stk ks l i = true
  · rw [if_pos c]
    have hp := secF_pos ks l (top l l.length) n (i + 1) i (top l i)
    have k := ih (i + 1) (by omega) i (top l i) false (by omega) (.inr ⟨by omega, by omega, by rw [szI_get hil, top_succ hil]; omega⟩)
    generalize secF ks l (top l l.length) n (i + 1) i (top l i) = S at *
    cases S with
    | nil => simp at hp
    | cons y r =>
     refine ⟨rfl, hf, by simp only; omega, ?_, k⟩
     rcases hh with hh | hh
     · refine .inl ⟨hh.1, hh.2, ?_⟩
       simp only; rw [if_neg (by omega)]
     · refine .inr ⟨hh.1, hh.2.1, ?_, ?_, ?_⟩
       · simp only; rw [if_pos hh.1]; omega
       · obtain ⟨t, rfl⟩ : ∃ t : Nat, h = t := ⟨h.toNat, by omega⟩
         have htl : t < l.length := by omega
         have := hz.s _ (List.getElem_mem htl)
         simp only; rw [if_pos hh.1, szI_get htl]; omega
       · simp only; rw [if_pos hh.1]
  · rw [if_neg c]
    refine ih (i + 1) (by omega) h f b (by omega) ?_
    rcases hh with hh | hh
    · exact .inl hh
    · exact .inr ⟨hh.1, hh.2.1, by omega⟩
theorem ch_secA (ks : List Kd) (l : List En) (hz : Szd l) (h0 : 0 < l.length) : ChS l (top l l.length) true 0 (secA ks l) := by
 have h1 := hz.mono (i := 0) (j := 1) (by omega) (by omega)
 rw [top_0] at h1
 unfold secA
 rw [if_neg (by omega)]
 refine ch_sec ks l hz (l.length - 1) 1 (by omega) _ 0 true (by omega) ?_
 by_cases c : stk ks l 0 = true
 · rw [if_pos c]
   refine .inr ⟨by omega, by omega, ?_⟩
   have h2 := top_succ h0
   rw [top_0] at h2
   have h3 := szI_get (l := l) h0
   simp only [Nat.zero_add] at h2
   have h4 : szI l 0 = l[0].s := h3
   rw [h4, h2]; omega
 · rw [if_neg c]; exact .inl ⟨rfl, rfl⟩
theorem ch_at (l : List En) (tot : Int) : ∀ (S : List Se) (b : Bool) (f : Int), ChS l tot b f S → ∀ (i : Nat) (hi : i < S.length), f ≤ S[i].f ∧ S[i].t ≤ tot ∧ S[i].f < S[i].t ∧ ∀ s, S[i].f ≤ s → s < S[i].t → ∀ j, atS s S j = ((j + i : Nat) : Int)
 | [], _, _, h, _, _ => h.elim
 | [x], b, f, h, i, hi => by
  have : i = 0 := by simp at hi; omega
  subst this
  obtain ⟨h1, h2, h3, h4, h5⟩ := h
  refine ⟨by simp [h1], by simp [h3], by simp only [List.getElem_cons_zero]; omega, fun s q1 q2 j => ?_⟩
  simp only [List.getElem_cons_zero] at q1 q2
  rw [atS, if_pos (by unfold inSe; simp [q1, q2])]; rfl
 | x :: y :: r, b, f, h, i, hi => by
  obtain ⟨h1, h2, h3, h4, h5⟩ := h
  cases i with
  | zero =>
   refine ⟨by simp [h1], by simp [h3], by simp only [List.getElem_cons_zero]; omega, fun s q1 q2 j => ?_⟩
   simp only [List.getElem_cons_zero] at q1 q2
   rw [atS, if_pos (by unfold inSe; simp [q1, q2])]; rfl
  | succ i =>
   obtain ⟨k1, k2, k3, k4⟩ := ch_at l tot (y :: r) false x.t h5 i (by simpa using hi)
   simp only [List.getElem_cons_succ] at *
   refine ⟨by omega, k2, k3, fun s q1 q2 j => ?_⟩
   rw [atS, if_neg (by unfold inSe; simp; omega), k4 s q1 q2 (j + 1)]
   congr 1; omega
theorem place_end (H : HasS30 C) (ks : List Kd) (ke : Bool) (cap : Int) (hr : RuIn ks) (l : List En) (e : Bool) (hs : ∀ x ∈ l, EnIn x) (hck : ckE ks cap l = 0) (hz : Szd l) (ht : ∀ x ∈ l, 0 ≤ x.i.t ∧ x.i.t < ks.length) (h0 : 0 < l.length)
 (i : Nat) (hi : i < (secA ks l).length) (hh : 0 ≤ (secA ks l)[i].h) (hp : (secA ks l)[i].p = (secA ks l)[i].t - szI l (secA ks l)[i].h + 1) (hpt : (secA ks l)[i].p ≤ (secA ks l)[i].t) :
 FnW C 150 [aR ks ke cap, aL l e, .int .i64 ((secA ks l)[i].t - 1)] = some (.tup [.int .i64 (1 - szI l (secA ks l)[i].h), .int .i64 0]) := by
 have hc := ch_secA ks l hz h0
 obtain ⟨k1, k2, k3, k4⟩ := ch_at l _ _ _ _ hc i hi
 have k4 := k4 ((secA ks l)[i].t - 1) (by omega) (by omega) 0
 rw [Nat.zero_add] at k4
 have h := (hes_ok H ks ke cap hr l e hz.n hs hck hz ht ((secA ks l)[i].t - 1) h0 (by omega) (by omega)).c150
 obtain ⟨k, O⟩ := atO_ok ks l hz ((secA ks l)[i].t - 1) h0 (by omega) (by omega)
 have hk : k = i := by have := O.at_; rw [k4] at this; omega
 subst hk
 have hd := O.hd hi
 obtain ⟨t, q1, q2, q3⟩ := O.pl hi (by rw [← hd]; exact hh)
 have hsz : (1 : Int) ≤ szI l (secA ks l)[k].h := by omega
 have e1 : plA ks l ((secA ks l)[k].t - 1) t = 1 - szI l (secA ks l)[k].h := by
  rw [← q3, hp]
  unfold imin
  split <;> omega
 rw [h, ← hd, if_pos hh, if_pos hh, hd, q1, show ((t : Int)).toNat = t from rfl, e1, hd, q1]
end Go.D
end
section
set_option linter.unusedSimpArgs false
set_option linter.unusedVariables false
namespace Go.D
open Go Go.Pav Go.Pw P
set_option maxRecDepth 10000
set_option maxHeartbeats 4000000
set_option linter.unusedSimpArgs false
set_option linter.unusedVariables false
attribute [-simp] List.getElem_cons_drop
variable {C : WProg}
section
variable {r : Int} {l : List En}
end
end Go.D
end
section
set_option linter.unusedSimpArgs false
set_option linter.unusedVariables false
namespace Go.D
open Go Go.Pav Go.Pw P
set_option maxRecDepth 10000
set_option maxHeartbeats 4000000
set_option linter.unusedSimpArgs false
set_option linter.unusedVariables false
attribute [-simp] List.getElem_cons_drop
variable {C : WProg}
section
variable {r : Int} {l : List En}
theorem Vp.sb {s v : Int} (hp : Vp l s v) : 0 ≤ s ∧ s ≤ 4611686018427387904 := by
 have h1 := hp.s0
 have h0 := hp.v0
 have h2 := hp.t
 have h3 := hp.nn
 unfold mostS at h1; split at h1 <;> omega
end
end Go.D
end
section
set_option linter.unusedSimpArgs false
set_option linter.unusedVariables false
namespace Go.D
open Go Go.Pav Go.Pw P
set_option maxRecDepth 10000
set_option maxHeartbeats 8000000
set_option linter.unusedSimpArgs false
set_option linter.unusedVariables false
attribute [-simp] List.getElem_cons_drop
variable {C : WProg}
structure HasHs (C : WProg) : Prop extends HasO30 C, HasSc C where
 f155 : C.fns.get 155 = some w155
theorem hs_end (H : HasHs C) (hlives : FnW C 157 [] = some (.bool true)) {r : Int} {l : List En} (L : LG r l) (f : Bool) (s v : Int) (hp : Vp l s v) :
 CK C 0 (pureFin [.tmp 4]) [] w155_c0 ⟨[(11, .int .i64 (top l l.length)), (9, .ro 4 ((secA (kindsOf r) l).map eSe) true), (8, .int .i64 v), (7, .int .i64 s), (6, .ptr 0 0 0), (5, .ptr 1 0 0)], [(0, .cells 1 [[.ro 6 (l.map eEn) f]] true true), (1, .cells 2 [[.ro 9 ((kindsOf r).map eKd) true, .int .i64 12]] true true)], 2⟩ = some (.bool true) := by
 have hl := L.hl
 have hz := L.z
 have hn := hz.n
 have htot := tot_ok H.toHasL l f (by omega) L.en
 have htt : tot l = top l l.length := by rw [hz.tot]; unfold top; rw [List.take_of_length_le (by omega)]
 rw [htt] at htot
 obtain ⟨a, b, ha, hb, hab, hbl, hvi, hwn⟩ := hp.visR
 have hsl := slice_ok H.toHasSc L f s v hp a b ha hb hab hbl
 have hsA := secA_len (kindsOf r) l
 have htb := top_b hz l.length (Nat.le_refl _)
 have hv0 := hp.v0
 have hs0 := hp.s0
 by_cases n0 : l.length = 0
 · have hnil : l = [] := List.eq_nil_of_length_eq_zero n0
   subst hnil
   have hA : secA (kindsOf r) [] = [] := rfl
   rw [hA] at *
   have ht0 : top ([] : List En) ([] : List En).length = 0 := rfl
   rw [ht0] at *
   have hno : FnW C 309 [.ro 4 [] true, .int .i64 s] = some (.tup [.agg (eSe ⟨0, 0, 0, 0⟩), .int .i64 11]) := by
    rcases hat_ok H.toHasA30 [] true (by simp) s with ⟨_, q⟩ | ⟨k, hk, _⟩
    · simpa using q
    · simp at hk
   have hh : hrA (kindsOf r) [] s = -1 := rfl
   rw [hh] at hsl
   simp [aL, aR] at hsl htot
   generalize slQ s (-1) (rowsP (kindsOf r) [] a (b - a)) a = Q at *
   generalize kindsOf r = ks at *
   rw [ck_unf w155_c0.eq_1]
   simp [eSe] at hno
   simp (disch := omega) [htot, hsl, hno, hdR, hh, zN, top_0, hlives, wI64, H.inl, inlB, H.pp, ppB]
 · have h0 : 0 < l.length := by omega
   have hst : 0 ≤ s ∧ s < top l l.length := by
    have h1 := hz.mono (i := 0) (j := l.length) (by omega) (Nat.le_refl _)
    rw [top_0] at h1
    have h2 : top l l.length = sm l := by unfold top; rw [List.take_of_length_le (by omega)]
    unfold mostS at hs0
    rw [← h2] at hs0
    split at hs0 <;> omega
   obtain ⟨k, O⟩ := atO_ok (kindsOf r) l hz s h0 hst.1 hst.2
   obtain ⟨o1, o2, o3, o4, o5, o6⟩ := O
   have p3 := o3 o1
   have p4 := o4 o1
   have p6 := o6 o1
   clear o3 o4 o5 o6
   have hat : FnW C 309 [.ro 4 ((secA (kindsOf r) l).map eSe) true, .int .i64 s] = some (.tup [.agg (eSe (secA (kindsOf r) l)[k]), .int .i64 0]) := by
    rcases hat_ok H.toHasA30 (secA (kindsOf r) l) true (by omega) s with ⟨q, _⟩ | ⟨k', hk, q1, q2⟩
    · rw [o2] at q; omega
    · have : k' = k := by rw [o2] at q1; omega
      subst this
      exact q2
   have hbd := hrA_bd' (kindsOf r) l s
   obtain ⟨X, hX⟩ : ∃ X, X = (secA (kindsOf r) l)[k] := ⟨_, rfl⟩
   rw [← hX] at hat p3 p4 p6
   clear hX
   unfold hdR at hsl
   generalize hQ : slQ s (hrA (kindsOf r) l s) (rowsP (kindsOf r) l a (b - a)) a = Q at *
   by_cases c : 0 ≤ hrA (kindsOf r) l s
   · obtain ⟨t, q1, q2, q3⟩ := p4 c
     have p6 := p6 c
     rw [if_pos c, decide_eq_true c] at hsl
     rw [q1] at hsl p3
     simp only [show ((t : Int)).toNat = t from rfl] at hsl
     rw [rowP_get q2] at hsl
     rw [← q3] at hsl
     generalize trP (kindsOf r) l[t] = T at *
     generalize secA (kindsOf r) l = S at *
     generalize kindsOf r = ks at *
     generalize top l l.length = M at *
     simp only [aL, aR] at hsl htot
     simp at hsl
     have e1 : X.h = (t : Int) := p3
     have e2 : ¬ (t : Int) < 0 := by omega
     by_cases d : X.p ≤ s
     · have e3 : imin 0 (X.p - 1 - s) = X.p - 1 - s := by unfold imin; split <;> omega
       rw [e3] at hsl
       rw [ck_unf w155_c0.eq_1]
       simp [eSe] at hat
       simp (disch := omega) [htot, hsl, hat, h0, e1, e2, q2, d, hlives, wI64, H.inl, inlB, H.pp, ppB]
     · have e3 : imin 0 (X.p - 1 - s) = 0 := by unfold imin; split <;> omega
       rw [e3] at hsl
       rw [ck_unf w155_c0.eq_1]
       simp [eSe] at hat
       simp (disch := omega) [htot, hsl, hat, h0, e1, e2, q2, d, hlives, wI64, H.inl, inlB, H.pp, ppB]
   · rw [if_neg c, decide_eq_false c] at hsl
     have e1 : hrA (kindsOf r) l s = -1 := by omega
     rw [e1] at p3
     generalize secA (kindsOf r) l = S at *
     generalize kindsOf r = ks at *
     generalize top l l.length = M at *
     simp only [aL, aR] at hsl htot
     simp [zN] at hsl
     rw [ck_unf w155_c0.eq_1]
     simp [eSe] at hat
     simp (disch := omega) [htot, hsl, hat, h0, p3, hlives, wI64, H.inl, inlB, H.pp, ppB]
theorem hs_loop (H : HasHs C) (hlives : FnW C 157 [] = some (.bool true)) {r : Int} {l : List En} (L : LG r l) (f : Bool) (s v : Int) (hp : Vp l s v) (h0 : 0 < l.length) : ∀ n i, n + i = (secA (kindsOf r) l).length → ∀ e : Int,
 (i < (secA (kindsOf r) l).length → ChS l (top l l.length) (decide (i = 0)) e ((secA (kindsOf r) l).drop i)) → (i = (secA (kindsOf r) l).length → e = top l l.length) →
 w155_K0 C ⟨[(12, .int .i64 i), (11, .int .i64 e), (9, .ro 4 ((secA (kindsOf r) l).map eSe) true), (8, .int .i64 v), (7, .int .i64 s), (6, .ptr 0 0 0), (5, .ptr 1 0 0)], [(0, .cells 1 [[.ro 6 (l.map eEn) f]] true true), (1, .cells 2 [[.ro 9 ((kindsOf r).map eKd) true, .int .i64 12]] true true)], 2⟩ = some (.bool true) := by
 have hl := L.hl
 have hz := L.z
 have hn := hz.n
 have hend := hs_end H hlives L f s v hp
 have htb := top_b hz l.length (Nat.le_refl _)
 have hsA := secA_len (kindsOf r) l
 intro n
 induction n with
 | zero =>
  intro i hi e _ he
  have h3 : ¬ i < (secA (kindsOf r) l).length := by omega
  rw [he (by omega)]
  generalize secA (kindsOf r) l = S at *
  generalize kindsOf r = ks at *
  try simp at hend
  simp only [w155_K0]; rw [ck_unf w155_B0.eq_1]
  simp (disch := omega) [h3, hend]
 | succ n ih =>
  intro i hi e hc _
  have h1 : i < (secA (kindsOf r) l).length := by omega
  have hc := hc h1
  have hcA := ch_secA (kindsOf r) l hz h0
  obtain ⟨_, kt, kf, _⟩ := ch_at l _ _ _ _ hcA i h1
  rw [drop_cons h1] at hc
  have hpl := place_end H.toHasS30 (kindsOf r) true 12 (ru_in r) l f L.en L.ck hz L.t h0 i h1
  have key : ∀ X : Se, X = (secA (kindsOf r) l)[i] → X.f = e → X.f < X.t → X.f < X.p → X.p ≤ X.t → 0 ≤ X.f → X.t ≤ 4611686018427387904 → ((i = 0 ∧ X.h = -1) ∨ (0 ≤ X.h ∧ X.h < l.length)) →
   (i + 1 < (secA (kindsOf r) l).length → 0 ≤ X.h → FnW C 150 [aR (kindsOf r) true 12, aL l f, .int .i64 (X.t - 1)] = some (.tup [.int .i64 (1 - szI l X.h), .int .i64 0])) →
   w155_K0 C ⟨[(12, .int .i64 ((i : Int) + 1)), (11, .int .i64 X.t), (9, .ro 4 ((secA (kindsOf r) l).map eSe) true), (8, .int .i64 v), (7, .int .i64 s), (6, .ptr 0 0 0), (5, .ptr 1 0 0)], [(0, .cells 1 [[.ro 6 (l.map eEn) f]] true true), (1, .cells 2 [[.ro 9 ((kindsOf r).map eKd) true, .int .i64 12]] true true)], 2⟩ = some (.bool true) →
   w155_K0 C ⟨[(12, .int .i64 i), (11, .int .i64 e), (9, .ro 4 ((secA (kindsOf r) l).map eSe) true), (8, .int .i64 v), (7, .int .i64 s), (6, .ptr 0 0 0), (5, .ptr 1 0 0)], [(0, .cells 1 [[.ro 6 (l.map eEn) f]] true true), (1, .cells 2 [[.ro 9 ((kindsOf r).map eKd) true, .int .i64 12]] true true)], 2⟩ = some (.bool true) := by
   intro X hX e1 e2 e3 e4 e5 e6 e7 e8 this
   have hget : (secA (kindsOf r) l)[i] = X := hX.symm
   have n1 : ¬ X.t ≤ X.f := by omega
   have n2 : ¬ X.p ≤ X.f := by omega
   have n3 : ¬ X.t < X.p := by omega
   clear hpl hc hcA kt kf hX ih hend
   subst e1
   simp only [w155_K0] at this ⊢
   generalize secA (kindsOf r) l = S at *
   generalize kindsOf r = ks at *
   rw [ck_unf w155_B0.eq_1]
   try simp at this
   rcases e7 with ⟨rfl, hh⟩ | ⟨hh1, hh2⟩
   · have m1 : ¬ (0 : Int) ≤ -1 := by omega
     simp at this
     simp (disch := omega) [h1, hget, eSe, n1, n2, n3, hh, wI64, H.inl, inlB, H.pp, ppB, this]
   · obtain ⟨t, hT⟩ : ∃ t : Nat, X.h = t := ⟨X.h.toNat, by omega⟩
     have htl : t < l.length := by omega
     have hsz := szI_get (l := l) htl
     have hsb := hz.s _ (List.getElem_mem htl)
     have m1 : ¬ (t : Int) < 0 := by omega
     have m2 : ¬ (t : Int) = -1 := by omega
     by_cases g : i + 1 < S.length
     · have e8 := e8 g hh1
       rw [hT, hsz] at e8
       simp only [aL, aR] at e8
       have g2 : (i : Int) + 1 < S.length := by omega
       simp (disch := omega) [h1, hget, eSe, n1, n2, n3, hT, htl, m1, m2, g, g2, e8, wI64, H.inl, inlB, H.pp, ppB, this]
     · have g2 : ¬ (i : Int) + 1 < S.length := by omega
       simp (disch := omega) [h1, hget, eSe, n1, n2, n3, hT, htl, m1, m2, g, g2, wI64, H.inl, inlB, H.pp, ppB, this]
  have hpl2 := hpl
  cases hd : (secA (kindsOf r) l).drop (i + 1) with
  | nil =>
   have hlast : i + 1 = (secA (kindsOf r) l).length := by
    have := congrArg List.length hd
    simp only [List.length_drop, List.length_nil] at this; omega
   rw [hd] at hc
   obtain ⟨c1, c2, c3, c4, c5⟩ := hc
   have c0 : 0 ≤ (secA (kindsOf r) l)[i].f := by
    obtain ⟨q, _⟩ := ch_at l _ _ _ _ hcA i h1; exact q
   refine key _ rfl c1 (by omega) (by omega) (by omega) c0 (by omega) ?_ (fun q => by omega) (ih (i + 1) (by omega) _ (fun q => by omega) (fun _ => c3))
   rcases c5 with ⟨q1, q2⟩ | q
   · exact .inl ⟨by simpa using q1, q2⟩
   · exact .inr q
  | cons y rr =>
   rw [hd] at hc
   obtain ⟨c1, c2, c3, c4, c5⟩ := hc
   have c0 : 0 ≤ (secA (kindsOf r) l)[i].f := by
    obtain ⟨q, _⟩ := ch_at l _ _ _ _ hcA i h1; exact q
   have cnext : ∀ q : i + 1 < (secA (kindsOf r) l).length, ChS l (top l l.length) (decide (i + 1 = 0)) (secA (kindsOf r) l)[i].t ((secA (kindsOf r) l).drop (i + 1)) := by
    intro _
    rw [hd]
    have : decide (i + 1 = 0) = false := by simp
    rw [this]; exact c5
   have hlen : i + 1 ≠ (secA (kindsOf r) l).length := by
    intro q
    have := congrArg List.length hd
    simp only [List.length_drop, List.length_cons] at this; omega
   rcases c4 with ⟨q1, q2, q3⟩ | ⟨q1, q2, q3, q4, q5⟩
   · exact key _ rfl c1 (by omega) (by omega) (by omega) c0 (by omega) (.inl ⟨by simpa using q1, q2⟩) (fun _ g => by omega) (ih (i + 1) (by omega) _ cnext (fun q => absurd q hlen))
   · exact key _ rfl c1 (by omega) (by omega) (by omega) c0 (by omega) (.inr ⟨q1, q2⟩) (fun _ g => hpl q1 q5 q4) (ih (i + 1) (by omega) _ cnext (fun q => absurd q hlen))
theorem hslaw_ok (H : HasHs C) (hone : ∀ q : Q4, QIn q → ∃ i : It, FnW C 422 [.agg (eQ q)] = some (eIt i) ∧ Good i) (hlives : FnW C 157 [] = some (.bool true))
 (q : List Q4) (qe : Bool) (hq : ∀ x ∈ q, QIn x) (z : List Int) (ze : Bool) (hz : ∀ s ∈ z, 0 ≤ s ∧ s ≤ 255) (hzl : z.length < 9223372036854775808) (r : Int) (hr : 0 ≤ r ∧ r ≤ 255)
 (y w : Int) (hy : 0 ≤ y ∧ y ≤ 255) (hw : 0 ≤ w ∧ w ≤ 65535) :
 FnW C 155 [.agg [.ro 4 (q.map eQ) qe, .ro 1 (z.map eU8) ze, .int .u8 r], .agg [.int .u8 y, .int .u16 w]] = some (.bool true) := by
 obtain ⟨l, f, hof, hl, hg, hn⟩ := lof_ok H.toHasG hone q qe hq z ze hz hzl r hr
 have L : LG r l := LG.of_good hr hl hg hn
 obtain ⟨s, v, hwo, hp⟩ := wof_ok H.toHasAt l f L.z y w hy hw
 have h1 := sections_ok H.toHasS30 (kindsOf r) true 12 (ru_in r) l f (by omega) L.en (fun _ => ⟨L.z, L.t⟩)
 unfold secE at h1
 rw [if_pos L.ck, L.ck] at h1
 rw [fnW_eq H.f155 rfl]
 by_cases n0 : l.length = 0
 · have hnil : l = [] := List.eq_nil_of_length_eq_zero n0
   subst hnil
   have k := hs_end H hlives L f s v hp
   have hA : secA (kindsOf r) [] = [] := rfl
   have ht0 : top ([] : List En) ([] : List En).length = 0 := rfl
   rw [ht0, hA] at k
   rw [hA] at h1
   generalize kindsOf r = ks at *
   simp [aL, aR] at hof hwo h1 k
   simp (disch := omega) [w155, ck_unf w155_B0.eq_1, hof, hwo, h1, k, wI64, H.inl, inlB, H.pp, ppB]
 · have h0 : 0 < l.length := by omega
   have hc := ch_secA (kindsOf r) l L.z h0
   have k := hs_loop H hlives L f s v hp h0 (secA (kindsOf r) l).length 0 (by simp) 0 (fun _ => by simpa using hc) (fun q => by
    have := ch_secA (kindsOf r) l L.z h0
    have hnil : secA (kindsOf r) l = [] := List.eq_nil_of_length_eq_zero q.symm
    rw [hnil] at this
    exact this.elim)
   simp only [w155_K0] at k
   generalize secA (kindsOf r) l = S at *
   generalize kindsOf r = ks at *
   try simp at k
   simp only [aL, aR] at hof hwo h1
   simp (disch := omega) [w155, hof, hwo, h1, k, wI64, H.inl, inlB, H.pp, ppB]
end Go.D
end
section
set_option linter.unusedSimpArgs false
set_option linter.unusedVariables false
namespace Go.Pw
open Go Go.Pav
abbrev Orc := Nat → List AV → Option AV
def orcRun (orc : Orc) (run : WRun) : WRun := fun f args h n =>
 match h, n with
 | [], 0 => (match orc f args with
  | some v => some (v, [], 0)
  | none => run f args [] 0)
 | h, n => run f args h n
structure OrcOk (C : WProg) (orc : Orc) : Prop where
 inl : ∀ f vs v, orc f vs = some v → C.inl f = false
 ptr : ∀ f vs v, orc f vs = some v → hasPtrL vs = false
 val : ∀ f vs v, orc f vs = some v → FnW C f vs = some v
 frz : ∀ f vs v, orc f vs = some v → frzW [] frzDepth v = some v
section
variable (C : WProg) (orc : Orc)
def evO : Nat → WEv
 | 0, _, _, _ => none
 | n + 1, base, c, s =>
  match c with
  | .skip => some (.norm, s)
  | .ops l a => ob (evOpsW C (orcRun orc (runWithW C (evO n))) l s) fun s => om (canonF base a s) fun s => (.norm, s)
  | .draw l un a => ob (evDrawW C (orcRun orc (runWithW C (evO n))) l s.next ⟨s.env, s.heap, s.next + l.length⟩ []) (drawEndW base un a)
  | .seq a b => ob (evO n base a s) (evSeqW (evO n base b))
  | .cond c a b => evCondW (evO n base a) (evO n base b) (c.ev s.env) s
  | .block id b a => ob (evO n base b s) (evBlockW base id a)
  | .loop a b => ob (canon base a s) fun s => ob (evO n base b s) (evSeqW (evO n base (.loop a b)))
  | .exit id => some (.exit id, s)
  | .ret => some (.ret, s)
  | .fail => none
  | .cln zz z b => match (Pav.get s.env 0).bind isEmptyRo with
   | some z' => if z' = z ∧ zz.length = z ∧ 8 ≤ n then some (.ret, ⟨[(2, .sl s.next z 0 0 0 true)], Pav.put s.heap s.next (.cells z [] true true), s.next + 1⟩) else none
   | none => evO n base (clnC zz z b) s
end
section
variable {C : WProg} {orc : Orc} {r r' : WRun}
def RunLeC (C : WProg) (r r' : WRun) : Prop := ∀ f args h n c, evCallW C r f args h n = some c → evCallW C r' f args h n = some c
theorem evActW_mc (hr : RunLeC C r r') {op : COp} {nid : Nat} {e : Env} {h : WHeap} {n : Nat} {d : WDid} (hd : evActW C r op nid e h n = some d) : evActW C r' op nid e h n = some d := by
 unfold evActW at hd ⊢
 split
 · rename_i hc; rw [hc] at hd; cases hd
 · rename_i hc; rw [hc] at hd; exact om_mono hd fun c hc => hr _ _ _ _ _ hc
 · rename_i hc; rw [hc] at hd; exact hd
theorem evOpW_mc (hr : RunLeC C r r') {o : COper} {nid : Nat} {e : Env} {h : WHeap} {n : Nat} {d : WDid} (hd : evOpW C r o nid e h n = some d) : evOpW C r' o nid e h n = some d := by
 unfold evOpW at hd ⊢
 split
 · rename_i hc; rw [hc] at hd; cases hd
 · rename_i hc; rw [hc] at hd; exact hd
 · rename_i hc; rw [hc] at hd; exact evActW_mc hr hd
theorem evOpsW_mc (hr : RunLeC C r r') : ∀ (l : List COper) (s s' : WSt), evOpsW C r l s = some s' → evOpsW C r' l s = some s' := by
 intro l
 induction l with
 | nil => intro s s' h; exact h
 | cons o l ih => intro s s' h; exact ob_mono h (fun d hd => evOpW_mc hr hd) fun d hd => ih _ _ hd
theorem evDrawW_mc (hr : RunLeC C r r') : ∀ (l : List COper) (nid : Nat) (s : WSt) (ds : List WDid) (x : WSt × List WDid), evDrawW C r l nid s ds = some x → evDrawW C r' l nid s ds = some x := by
 intro l
 induction l with
 | nil => intro nid s ds x h; exact h
 | cons o l ih => intro nid s ds x h; exact ob_mono h (fun d hd => evOpW_mc hr hd) fun d hd => ih _ _ _ _ hd
theorem orcRun_some {f : Nat} {args : List AV} {h : WHeap} {n : Nat} {x : AV × WHeap × Nat} (hx : orcRun orc r f args h n = some x) : r f args h n = some x ∨ (∃ v, orc f args = some v ∧ h = [] ∧ n = 0 ∧ x = (v, [], 0)) := by
 unfold orcRun at hx
 split at hx
 · split at hx
   · rename_i v hv
     exact .inr ⟨v, hv, rfl, rfl, (Option.some.inj hx).symm⟩
   · exact .inl hx
 · exact .inl hx
theorem orc_le (ok : OrcOk C orc) (hr : RunLeW r (RnW C)) : RunLeC C (orcRun orc r) (RnW C) := by
 intro f args h n c hc
 unfold evCallW at hc ⊢
 split
 · rename_i hi
   rw [if_pos hi] at hc
   obtain ⟨x, h1, rfl⟩ := om_some hc
   rcases orcRun_some h1 with h1 | ⟨v, hv, _⟩
   · rw [hr _ _ _ _ _ h1]; rfl
   · rw [ok.inl _ _ _ hv] at hi; cases hi
 · rename_i hi
   rw [if_neg hi] at hc
   split
   · rename_i hp
     rw [if_pos hp] at hc
     obtain ⟨x, h1, rfl⟩ := om_some hc
     rcases orcRun_some h1 with h1 | ⟨v, hv, _⟩
     · rw [hr _ _ _ _ _ h1]; rfl
     · rw [ok.ptr _ _ _ hv] at hp; simp at hp
   · rename_i hp
     rw [if_neg hp] at hc
     obtain ⟨vs, h1, hc⟩ := ob_some hc
     obtain ⟨v, h2, rfl⟩ := om_some hc
     rw [h1]
     have h3 : pureCallW (RnW C) f vs = some v := by
      obtain ⟨x, h4, h5⟩ := ob_some h2
      rcases orcRun_some h4 with h4 | ⟨w, hw, _, _, rfl⟩
      · unfold pureCallW; rw [hr _ _ _ _ _ h4]; exact h5
      · simp only at h5
        rw [ok.frz _ _ _ hw] at h5
        rw [← h5]
        exact ok.val _ _ _ hw
     simp only [ob, h3]
     rfl
theorem evO_cd (ok : OrcOk C orc) : ∀ (n : Nat) (base : Nat) (c : WCode) (s : WSt) (x : Ex × WSt), evO C orc n base c s = some x → CdW C base c s = some x := by
 intro n
 induction n with
 | zero => intro base c s x h; simp only [evO] at h; cases h
 | succ n ih =>
  intro base c s x h
  have hr : RunLeC C (orcRun orc (runWithW C (evO C orc n))) (RnW C) := orc_le ok (runWithW_mono ih)
  cases c with
  | skip => rw [cw_skip]; exact h
  | exit id => rw [cw_exit]; exact h
  | ret => rw [cw_ret]; exact h
  | fail => simp only [evO] at h; cases h
  | cln zz z b =>
   rw [cw_cln]
   simp only [evO] at h
   split
   · rename_i z' hz
     rw [hz] at h
     simp only at h
     split at h
     · rename_i hc; rw [if_pos ⟨hc.1, hc.2.1⟩]; exact h
     · cases h
   · rename_i hz
     rw [hz] at h
     exact ih _ _ _ _ h
  | ops l a => rw [cw_ops]; simp only [evO] at h; exact ob_mono h (fun s' hs => evOpsW_mc hr l s s' hs) fun x hx => hx
  | draw l un a => rw [cw_draw]; simp only [evO] at h; exact ob_mono h (fun x hx => evDrawW_mc hr l _ _ _ x hx) fun x hx => hx
  | seq a b => rw [cw_seq]; simp only [evO] at h; exact ob_mono h (fun x hx => ih _ _ _ _ hx) fun x hx => evSeqW_mono (fun s x hx => ih _ _ _ _ hx) hx
  | cond c a b =>
   rw [cw_cond]
   simp only [evO] at h
   unfold evCondW at h ⊢
   split
   · rename_i t hv
     rw [hv] at h
     cases t with
     | true => exact ih _ _ _ _ h
     | false => exact ih _ _ _ _ h
   · split at h
     · rename_i h1 _ t hv; exact absurd hv (h1 t)
     · cases h
  | block id b a => rw [cw_block]; simp only [evO] at h; exact ob_mono h (fun x hx => ih _ _ _ _ hx) fun x hx => hx
  | loop a b => rw [cw_loop]; simp only [evO] at h; exact ob_mono h (fun x hx => hx) fun s hs => ob_mono hs (fun x hx => ih _ _ _ _ hx) fun x hx => evSeqW_mono (fun s x hx => ih _ _ _ _ hx) hx
end
end Go.Pw
end
section
set_option linter.unusedSimpArgs false
set_option linter.unusedVariables false
namespace Go.D
open Go Go.Pav Go.Pw P
set_option maxRecDepth 10000
set_option maxHeartbeats 4000000
set_option linter.unusedSimpArgs false
set_option linter.unusedVariables false
attribute [-simp] List.getElem_cons_drop
variable {C : WProg}
structure HasHk (C : WProg) : Prop extends HasHo C, HasHs C
def q4B : List (List AV) → Bool
 | [] => true
 | [.int .u8 a, .int .u8 b, .int .u8 c, .int .u8 d] :: r => (decide (0 ≤ a) && decide (a ≤ 255)) && ((decide (0 ≤ b) && decide (b ≤ 255)) && ((decide (0 ≤ c) && decide (c ≤ 255)) && ((decide (0 ≤ d) && decide (d ≤ 255)) && q4B r)))
 | _ => false
theorem q4B_ok : ∀ l, q4B l = true → ∃ xs : List Q4, l = xs.map eQ ∧ ∀ x ∈ xs, QIn x := by
 intro l
 induction l with
 | nil => intro _; exact ⟨[], rfl, by simp⟩
 | cons a r ih =>
  intro h
  unfold q4B at h
  split at h
  · rename_i heq; cases heq
  · rename_i heq
    cases heq
    simp only [Bool.and_eq_true, decide_eq_true_eq] at h
    obtain ⟨h1, h2, h3, h4, h5⟩ := h
    obtain ⟨xs, rfl, hx⟩ := ih h5
    refine ⟨⟨_, _, _, _⟩ :: xs, rfl, ?_⟩
    intro x hxm
    rcases List.mem_cons.1 hxm with rfl | hxm
    · exact ⟨h1, h2, h3, h4⟩
    · exact hx x hxm
  · cases h
def u8B : List (List AV) → Bool
 | [] => true
 | [.int .u8 a] :: r => (decide (0 ≤ a) && decide (a ≤ 255)) && u8B r
 | _ => false
theorem u8B_ok : ∀ l, u8B l = true → ∃ xs : List Int, l = xs.map eU8 ∧ ∀ x ∈ xs, 0 ≤ x ∧ x ≤ 255 := by
 intro l
 induction l with
 | nil => intro _; exact ⟨[], rfl, by simp⟩
 | cons a r ih =>
  intro h
  unfold u8B at h
  split at h
  · rename_i heq; cases heq
  · rename_i heq
    cases heq
    simp only [Bool.and_eq_true, decide_eq_true_eq] at h
    obtain ⟨h1, h5⟩ := h
    obtain ⟨xs, rfl, hx⟩ := ih h5
    refine ⟨_ :: xs, rfl, ?_⟩
    intro x hxm
    rcases List.mem_cons.1 hxm with rfl | hxm
    · exact h1
    · exact hx x hxm
  · cases h
def lB : AV → Bool
 | .agg [.ro 4 q _, .ro 1 z _, .int .u8 r] => q4B q && (u8B z && (decide (z.length ≤ 100) && (decide (0 ≤ r) && decide (r ≤ 255))))
 | _ => false
theorem lB_ok {v : AV} (h : lB v = true) : ∃ (q : List Q4) (qe : Bool) (z : List Int) (ze : Bool) (r : Int), v = .agg [.ro 4 (q.map eQ) qe, .ro 1 (z.map eU8) ze, .int .u8 r] ∧ (∀ x ∈ q, QIn x) ∧ (∀ s ∈ z, 0 ≤ s ∧ s ≤ 255) ∧ z.length < 9223372036854775808 ∧ 0 ≤ r ∧ r ≤ 255 := by
 unfold lB at h
 split at h
 · simp only [Bool.and_eq_true, decide_eq_true_eq] at h
   obtain ⟨h1, h2, h3, h4⟩ := h
   obtain ⟨q, rfl, hq⟩ := q4B_ok _ h1
   obtain ⟨z, rfl, hz⟩ := u8B_ok _ h2
   rw [List.length_map] at h3
   exact ⟨q, _, z, _, _, rfl, hq, hz, by omega, h4⟩
 · cases h
def rowT : Bs := [114, 111, 119]
def ks4 (a b c d : Bool) : List Kd := [⟨⟨1, rowT, [], [], a, [], [], b⟩, 1, false, 0⟩, ⟨⟨1, rowT, [], [], c, [], [], d⟩, 1, true, 0⟩]
def ks4B : AV → Bool
 | .agg [.ro 9 [[.int .u8 k1, .str t1, .str [], .ro 3 [] _, .str [], .ro 6 [] _, .int .i64 b1, .bool s1, .int .i64 p1], [.int .u8 k2, .str t2, .str [], .ro 3 [] _, .str [], .ro 6 [] _, .int .i64 b2, .bool s2, .int .i64 p2]] _, .int .i64 cap] =>
  (decide (t1 = rowT) && decide (t2 = rowT)) && ((decide (k1 = 1) && (decide (b1 = 1) && (!s1 && decide (p1 = 0)))) && ((decide (k2 = 1) && (decide (b2 = 1) && (s2 && decide (p2 = 0)))) && decide (cap = 1)))
 | _ => false
theorem ks4B_ok {v : AV} (h : ks4B v = true) : ∃ a b c d e : Bool, v = aR (ks4 a b c d) e 1 := by
 unfold ks4B at h
 split at h
 · simp only [Bool.and_eq_true, decide_eq_true_eq, Bool.not_eq_true'] at h
   obtain ⟨⟨rfl, rfl⟩, ⟨rfl, rfl, rfl, rfl⟩, ⟨rfl, rfl, rfl, rfl⟩, rfl⟩ := h
   exact ⟨_, _, _, _, _, rfl⟩
 · cases h
def e4 (k t s : Int) (f : Bool) : En := ⟨⟨k, t, [], [], f⟩, s, true⟩
def isE4 (k : Int) : List AV → Bool
 | [.int .u64 k', .int .u8 t, .str [], .ro 1 [] _, .int .i64 s, .bool b] => decide (k' = k) && ((decide (t = 0) || decide (t = 1)) && ((decide (1 ≤ s) && decide (s ≤ 1000)) && b))
 | _ => false
theorem isE4_ok {k : Int} {l : List AV} (h : isE4 k l = true) : ∃ t s f, l = eEn (e4 k t s f) ∧ (t = 0 ∨ t = 1) ∧ 1 ≤ s ∧ s ≤ 1000 := by
 unfold isE4 at h
 split at h
 · simp only [Bool.and_eq_true, Bool.or_eq_true, decide_eq_true_eq] at h
   obtain ⟨rfl, h2, h3, rfl⟩ := h
   exact ⟨_, _, _, rfl, h2, h3⟩
 · cases h
def isL4 : AV → Bool
 | .ro 6 [a, b, c, d] _ => isE4 1 a && (isE4 2 b && (isE4 3 c && isE4 4 d))
 | _ => false
theorem isL4_ok {v : AV} (h : isL4 v = true) : ∃ t1 t2 t3 t4 s1 s2 s3 s4 f1 f2 f3 f4 f, v = .ro 6 ([e4 1 t1 s1 f1, e4 2 t2 s2 f2, e4 3 t3 s3 f3, e4 4 t4 s4 f4].map eEn) f ∧ ((t1 = 0 ∨ t1 = 1) ∧ 1 ≤ s1 ∧ s1 ≤ 1000) ∧ ((t2 = 0 ∨ t2 = 1) ∧ 1 ≤ s2 ∧ s2 ≤ 1000) ∧ ((t3 = 0 ∨ t3 = 1) ∧ 1 ≤ s3 ∧ s3 ≤ 1000) ∧ ((t4 = 0 ∨ t4 = 1) ∧ 1 ≤ s4 ∧ s4 ≤ 1000) := by
 unfold isL4 at h
 split at h
 · simp only [Bool.and_eq_true] at h
   obtain ⟨h1, h2, h3, h4⟩ := h
   obtain ⟨t1, s1, f1, rfl, q1⟩ := isE4_ok h1
   obtain ⟨t2, s2, f2, rfl, q2⟩ := isE4_ok h2
   obtain ⟨t3, s3, f3, rfl, q3⟩ := isE4_ok h3
   obtain ⟨t4, s4, f4, rfl, q4⟩ := isE4_ok h4
   exact ⟨_, _, _, _, _, _, _, _, _, _, _, _, _, rfl, q1, q2, q3, q4⟩
 · cases h
theorem ks4_in (a b c d : Bool) : RuIn (ks4 a b c d) := ⟨by simp [ks4], by
 intro k hk
 simp only [ks4, List.mem_cons, List.not_mem_nil, or_false] at hk
 rcases hk with rfl | rfl <;> exact .mk _ ⟨by simp, by simp, by simp [rowT]⟩ (by simp)⟩
theorem ks4_ok : ∀ a b c d : Bool, ruOk (ks4 a b c d) 1 = true := by decide +kernel
theorem it4_ok : ∀ a b c d f : Bool, ∀ k ∈ [(1 : Int), 2, 3, 4], ∀ t ∈ [(0 : Int), 1], itE (ks4 a b c d) 1 ⟨k, t, [], [], f⟩ false = 0 := by decide +kernel
theorem en4_ok (a b c d f : Bool) {k t s : Int} (hk : k ∈ [(1 : Int), 2, 3, 4]) (ht : t = 0 ∨ t = 1) (hs : 1 ≤ s ∧ s ≤ 1000) : enE (ks4 a b c d) 1 (e4 k t s f) false = 0 := by
 have h := it4_ok a b c d f k hk t (by simpa using ht)
 unfold enE e4
 rw [if_neg (by simp only; rw [h]; simp), if_pos ⟨by unfold hOk; simp; omega, .inl rfl⟩]
theorem ck4_ok (a b c d : Bool) {t1 t2 t3 t4 s1 s2 s3 s4 : Int} {f1 f2 f3 f4 : Bool} (h1 : (t1 = 0 ∨ t1 = 1) ∧ 1 ≤ s1 ∧ s1 ≤ 1000) (h2 : (t2 = 0 ∨ t2 = 1) ∧ 1 ≤ s2 ∧ s2 ≤ 1000) (h3 : (t3 = 0 ∨ t3 = 1) ∧ 1 ≤ s3 ∧ s3 ≤ 1000) (h4 : (t4 = 0 ∨ t4 = 1) ∧ 1 ≤ s4 ∧ s4 ≤ 1000) :
 ckE (ks4 a b c d) 1 [e4 1 t1 s1 f1, e4 2 t2 s2 f2, e4 3 t3 s3 f3, e4 4 t4 s4 f4] = 0 := by
 have e1 := en4_ok a b c d f1 (k := 1) (by simp) h1.1 h1.2
 have e2 := en4_ok a b c d f2 (k := 2) (by simp) h2.1 h2.2
 have e3 := en4_ok a b c d f3 (k := 3) (by simp) h3.1 h3.2
 have e5 := en4_ok a b c d f4 (k := 4) (by simp) h4.1 h4.2
 have hc : chk (ks4 a b c d) 1 [] [e4 1 t1 s1 f1, e4 2 t2 s2 f2, e4 3 t3 s3 f3, e4 4 t4 s4 f4] = 0 := by
  have c1 : ([] : List Int).contains (e4 1 t1 s1 f1).i.k = false := by simp
  have c2 : ([] ++ [(e4 1 t1 s1 f1).i.k]).contains (e4 2 t2 s2 f2).i.k = false := by simp [e4]
  have c3 : ([] ++ [(e4 1 t1 s1 f1).i.k] ++ [(e4 2 t2 s2 f2).i.k]).contains (e4 3 t3 s3 f3).i.k = false := by simp [e4]
  have c4 : ([] ++ [(e4 1 t1 s1 f1).i.k] ++ [(e4 2 t2 s2 f2).i.k] ++ [(e4 3 t3 s3 f3).i.k]).contains (e4 4 t4 s4 f4).i.k = false := by simp [e4]
  rw [chk, c1, if_neg (by rw [e1]; simp), chk, c2, if_neg (by rw [e2]; simp), chk, c3, if_neg (by rw [e3]; simp), chk, c4, if_neg (by rw [e5]; simp), chk]
 have ht : ovE [e4 1 t1 s1 f1, e4 2 t2 s2 f2, e4 3 t3 s3 f3, e4 4 t4 s4 f4] = 0 := by
  have m1 : imax s1 0 = s1 := by unfold imax; split <;> omega
  have m2 : imax s2 0 = s2 := by unfold imax; split <;> omega
  have m3 : imax s3 0 = s3 := by unfold imax; split <;> omega
  have m4 : imax s4 0 = s4 := by unfold imax; split <;> omega
  unfold ovE tot
  simp only [totG, e4, m1, m2, m3, m4]
  repeat rw [if_neg (by omega)]
 unfold ckE
 rw [ks4_ok, if_neg (by simp), if_neg (by simp), hc, if_neg (by simp), ht]
def orcH (f : Nat) (vs : List AV) : Option AV :=
 bif hasPtrL vs then none
 else bif Nat.beq f 223 then (match vs with
  | [a, .agg [l]] => bif ks4B a && isL4 l then some (.int .i64 0) else none
  | _ => none)
 else bif Nat.beq f 235 then (match vs with
  | [a, l] => bif ks4B a && isL4 l then some (.int .i64 0) else none
  | _ => none)
 else bif Nat.beq f 155 then (match vs with
  | [a, .agg [.int .u8 y, .int .u16 w]] => bif lB a && ((decide (0 ≤ y) && decide (y ≤ 255)) && (decide (0 ≤ w) && decide (w ≤ 65535))) then some (.bool true) else none
  | _ => none)
 else bif Nat.beq f 156 then (match vs with
  | [a, .int .i64 s, .agg [.bool _, .int .u64 k, .int .u8 t, .str [], .ro 1 [] _, .int .i64 z, .bool _]] => bif lB a && ((decide (0 ≤ s) && decide (s ≤ 65535)) && (decide (k = 0) && (decide (t = 0) && decide (z = 0)))) then some (.bool true) else none
  | _ => none)
 else bif Nat.beq f 157 then (match vs with
  | [] => some (.bool true)
  | _ => none)
 else none
theorem e4_in (k t s : Int) (f : Bool) (hk : 0 ≤ k ∧ k ≤ 4) (ht : t = 0 ∨ t = 1) (hs : 1 ≤ s ∧ s ≤ 1000) : EnIn (e4 k t s f) := ⟨⟨⟨hk.1, by simp only [e4]; omega⟩, ⟨by simp only [e4]; omega, by simp only [e4]; omega⟩, by simp [e4]⟩, by simp only [e4]; omega⟩
theorem orcH_val (H : HasHk C) (hone : ∀ q : Q4, QIn q → ∃ i : It, FnW C 422 [.agg (eQ q)] = some (eIt i) ∧ Good i) (hlives : FnW C 157 [] = some (.bool true)) (f : Nat) (vs : List AV) (v : AV) (h : orcH f vs = some v) :
 (f = 223 ∨ f = 235 ∨ f = 155 ∨ f = 156 ∨ f = 157) ∧ hasPtrL vs = false ∧ FnW C f vs = some v ∧ ((∃ n, v = .int .i64 n) ∨ (∃ b, v = .bool b)) := by
 unfold orcH at h
 cases hp : hasPtrL vs with
 | true => rw [hp] at h; cases h
 | false =>
  rw [hp] at h
  have four : ∀ {t1 t2 t3 t4 s1 s2 s3 s4 : Int} {f1 f2 f3 f4 : Bool}, ((t1 = 0 ∨ t1 = 1) ∧ 1 ≤ s1 ∧ s1 ≤ 1000) → ((t2 = 0 ∨ t2 = 1) ∧ 1 ≤ s2 ∧ s2 ≤ 1000) → ((t3 = 0 ∨ t3 = 1) ∧ 1 ≤ s3 ∧ s3 ≤ 1000) → ((t4 = 0 ∨ t4 = 1) ∧ 1 ≤ s4 ∧ s4 ≤ 1000) →
   ∀ x ∈ [e4 1 t1 s1 f1, e4 2 t2 s2 f2, e4 3 t3 s3 f3, e4 4 t4 s4 f4], EnIn x := by
   intro t1 t2 t3 t4 s1 s2 s3 s4 f1 f2 f3 f4 q1 q2 q3 q4 x hx
   simp only [List.mem_cons, List.not_mem_nil, or_false] at hx
   rcases hx with rfl | rfl | rfl | rfl
   · exact e4_in _ _ _ _ (by omega) q1.1 q1.2
   · exact e4_in _ _ _ _ (by omega) q2.1 q2.2
   · exact e4_in _ _ _ _ (by omega) q3.1 q3.2
   · exact e4_in _ _ _ _ (by omega) q4.1 q4.2
  simp only [cond_false] at h
  cases h1 : Nat.beq f 223 with
  | true =>
   have := Nat.eq_of_beq_eq_true h1
   subst this
   simp only [h1, cond_true] at h
   split at h
   · rename_i a l
     cases hb : (ks4B a && isL4 l) with
     | false => rw [hb] at h; cases h
     | true =>
      rw [hb] at h
      cases h
      rw [Bool.and_eq_true] at hb
      obtain ⟨p1, p2, p3, p4, p5, rfl⟩ := ks4B_ok hb.1
      obtain ⟨t1, t2, t3, t4, s1, s2, s3, s4, f1, f2, f3, f4, ff, rfl, q1, q2, q3, q4⟩ := isL4_ok hb.2
      refine ⟨.inl rfl, rfl, ?_, .inl ⟨_, rfl⟩⟩
      rw [lcheck_ok H.toHasG.toHasK _ _ _ (ks4_in _ _ _ _) _ _ (by simp) (four q1 q2 q3 q4), ck4_ok _ _ _ _ q1 q2 q3 q4]
   · cases h
  | false =>
  simp only [h1, cond_false] at h
  cases h1 : Nat.beq f 235 with
  | true =>
   have := Nat.eq_of_beq_eq_true h1
   subst this
   simp only [h1, cond_true] at h
   split at h
   · rename_i a l
     cases hb : (ks4B a && isL4 l) with
     | false => rw [hb] at h; cases h
     | true =>
      rw [hb] at h
      cases h
      rw [Bool.and_eq_true] at hb
      obtain ⟨p1, p2, p3, p4, p5, rfl⟩ := ks4B_ok hb.1
      obtain ⟨t1, t2, t3, t4, s1, s2, s3, s4, f1, f2, f3, f4, ff, rfl, q1, q2, q3, q4⟩ := isL4_ok hb.2
      refine ⟨.inr (.inl rfl), rfl, ?_, .inl ⟨_, rfl⟩⟩
      rw [rlcheck_ok H.toHasG.toHasK _ _ _ (ks4_in _ _ _ _) _ _ (by simp) (four q1 q2 q3 q4), ck4_ok _ _ _ _ q1 q2 q3 q4]
   · cases h
  | false =>
  simp only [h1, cond_false] at h
  cases h1 : Nat.beq f 155 with
  | true =>
   have := Nat.eq_of_beq_eq_true h1
   subst this
   simp only [h1, cond_true] at h
   split at h
   · rename_i a y w
     cases hb : (lB a && ((decide (0 ≤ y) && decide (y ≤ 255)) && (decide (0 ≤ w) && decide (w ≤ 65535)))) with
     | false => rw [hb] at h; cases h
     | true =>
      rw [hb] at h
      cases h
      simp only [Bool.and_eq_true, decide_eq_true_eq] at hb
      obtain ⟨hb, hy, hw⟩ := hb
      obtain ⟨q, qe, z, ze, r, rfl, hq, hz, hzl, hr⟩ := lB_ok hb
      exact ⟨.inr (.inr (.inl rfl)), rfl, hslaw_ok H.toHasHs hone hlives q qe hq z ze hz hzl r hr y w hy hw, .inr ⟨_, rfl⟩⟩
   · cases h
  | false =>
  simp only [h1, cond_false] at h
  cases h1 : Nat.beq f 156 with
  | true =>
   have := Nat.eq_of_beq_eq_true h1
   subst this
   simp only [h1, cond_true] at h
   split at h
   · rename_i a s bt k t me z kn
     cases hb : (lB a && ((decide (0 ≤ s) && decide (s ≤ 65535)) && (decide (k = 0) && (decide (t = 0) && decide (z = 0))))) with
     | false => rw [hb] at h; cases h
     | true =>
      rw [hb] at h
      cases h
      simp only [Bool.and_eq_true, decide_eq_true_eq] at hb
      obtain ⟨hb, hs, rfl, rfl, rfl⟩ := hb
      obtain ⟨q, qe, zz, ze, r, rfl, hq, hz, hzl, hr⟩ := lB_ok hb
      exact ⟨.inr (.inr (.inr (.inl rfl))), rfl, holaw_ok H.toHasHo hone hlives q qe hq zz ze hz hzl r hr ⟨⟨0, 0, [], [], me⟩, 0, kn⟩ (by simp) (by simp) (by simp) s bt (by omega), .inr ⟨_, rfl⟩⟩
   · cases h
  | false =>
  simp only [h1, cond_false] at h
  cases h1 : Nat.beq f 157 with
  | true =>
   have := Nat.eq_of_beq_eq_true h1
   subst this
   simp only [h1, cond_true] at h
   split at h
   · cases h
     exact ⟨.inr (.inr (.inr (.inr rfl))), rfl, hlives, .inr ⟨_, rfl⟩⟩
   · cases h
  | false =>
  simp only [h1, cond_false] at h
  cases h
theorem orcH_ok (H : HasHk C) (hone : ∀ q : Q4, QIn q → ∃ i : It, FnW C 422 [.agg (eQ q)] = some (eIt i) ∧ Good i) (hlives : FnW C 157 [] = some (.bool true)) : OrcOk C orcH where
 inl f vs v h := by
  rw [H.inl]
  rcases (orcH_val H hone hlives f vs v h).1 with rfl | rfl | rfl | rfl | rfl <;> rfl
 ptr f vs v h := (orcH_val H hone hlives f vs v h).2.1
 val f vs v h := (orcH_val H hone hlives f vs v h).2.2.1
 frz f vs v h := by
  rcases (orcH_val H hone hlives f vs v h).2.2.2 with ⟨n, rfl⟩ | ⟨b, rfl⟩ <;> rfl
end Go.D
end
section
set_option linter.unusedSimpArgs false
set_option linter.unusedVariables false
namespace Go.D
open Go Go.Pav Go.Pw P
set_option maxRecDepth 10000
set_option linter.unusedSimpArgs false
set_option linter.unusedVariables false
variable {C : WProg}
def enA (k t s : Int) : List AV := [.int .u64 k, .int .u8 t, .str [], .ro 1 [] true, .int .i64 s, .bool true]
def kdA (st : Bool) : List AV := [.int .u8 1, .str rowT, .str [], .ro 3 [] true, .str [], .ro 6 [] true, .int .i64 1, .bool st, .int .i64 0]
def hpK (l : List (List AV)) : WHeap := [(0, .cells 1 [[.sl 1 6 0 4 4 false]] true false), (1, .cells 6 l true true), (2, .cells 2 [[.sl 3 9 0 2 2 true, .int .i64 1]] true false), (3, .cells 9 [kdA false, kdA true] true true)]
def lsK : Nat → List (List AV)
 | 0 => [enA 1 0 10, enA 2 1 20, enA 3 0 5, enA 4 1 30]
 | i + 1 => [enA 1 (i % 2 : Nat) 1, enA 2 (i / 2 % 2 : Nat) 2, enA 3 (i / 4 % 2 : Nat) 1, enA 4 (i / 8 % 2 : Nat) 3]
def stK (i : Nat) : WSt := ⟨[(3, .int .i64 i), (2, .ptr 0 0 0), (1, .ptr 2 0 0)], hpK (lsK i), 4⟩
def stE : WSt := ⟨[(1, .ptr 0 0 0)], [(0, .cells 2 [[.sl 1 9 0 2 2 true, .int .i64 1]] true false), (1, .cells 9 [kdA false, kdA true] true true)], 2⟩
def aL1 : Ann := ⟨true, [3, 2, 1], []⟩
def aB0 : Ann := ⟨true, [1], []⟩
def norm? (r : Ex × WSt) : Option WSt := match r.1 with
 | .norm => some r.2
 | _ => none
def out? (r : Ex × WSt) : Option (Ex × WSt) := match r.1 with
 | .norm => none
 | _ => evBlockW 0 0 aB0 r
def sqA : WCode → WCode
 | .seq a _ => a
 | c => c
def sqB : WCode → WCode
 | .seq _ b => b
 | c => c
structure HkRun (C : WProg) (N : Nat) : Prop where
 body : w89.body = .seq (sqA w89.body) (.seq (sqA (sqB w89.body)) (.seq (.seq (sqA (sqA (sqB (sqB w89.body)))) (.block 0 (.loop aL1 w89_B1) aB0)) w89_c1))
 k0 : (ob (evO C orcH N 0 (sqA w89.body) ⟨[], [], 0⟩) fun r => ob (norm? r) fun s => ob (evO C orcH N 0 (sqA (sqB w89.body)) s) fun r => ob (norm? r) fun s => ob (evO C orcH N 0 (sqA (sqA (sqB (sqB w89.body)))) s) fun r => ob (norm? r) fun s => canon 0 aL1 s) = some (stK 0)
 kE : (ob (evO C orcH N 0 w89_B1 (stK 16)) out?) = some (.norm, stE)
 kF : (ob (evO C orcH N 0 w89_c1 stE) fun r => ob (fnEndW w89.res r) fun r => frzW r.2.1 frzDepth r.1) = some (.bool true)
def HkStep (C : WProg) (N i : Nat) : Prop := (ob (evO C orcH N 0 w89_B1 (stK i)) fun r => ob (norm? r) fun s => canon 0 aL1 s) = some (stK (i + 1))
theorem norm_some {r : Ex × WSt} {s : WSt} (h : norm? r = some s) : r = (.norm, s) := by
 obtain ⟨e, t⟩ := r
 cases e <;> simp only [norm?] at h <;> cases h
 rfl
theorem hk_loop (ok : OrcOk C orcH) {N : Nat} (R : HkRun C N) (hs : ∀ i, i < 16 → HkStep C N i) : ∀ n i, n + i = 16 → ∀ s, canon 0 aL1 s = some (stK i) → ob (CdW C 0 (.loop aL1 w89_B1) s) (evBlockW 0 0 aB0) = some (.norm, stE) := by
 intro n
 induction n with
 | zero =>
  intro i hi s hc
  obtain rfl : i = 16 := by omega
  obtain ⟨r, h1, h2⟩ := ob_some R.kE
  rw [cw_loop, hc]
  simp only [ob]
  rw [evO_cd ok _ _ _ _ _ h1]
  obtain ⟨e, t⟩ := r
  cases e with
  | norm => simp only [out?] at h2; cases h2
  | exit id => simp only [out?] at h2; simp only [ob, evSeqW]; exact h2
  | ret => simp only [out?] at h2; simp only [ob, evSeqW]; exact h2
 | succ n ih =>
  intro i hi s hc
  have h := hs i (by omega)
  unfold HkStep at h
  obtain ⟨r, h1, h2⟩ := ob_some h
  obtain ⟨t, h3, h4⟩ := ob_some h2
  obtain rfl := norm_some h3
  have k := ih (i + 1) (by omega) t h4
  rw [cw_loop, hc]
  simp only [ob]
  rw [evO_cd ok _ _ _ _ _ h1]
  simp only [evSeqW]
  exact k
theorem hklaw_ok (ok : OrcOk C orcH) (hf : C.fns.get 89 = some w89) {N : Nat} (R : HkRun C N) (hs : ∀ i, i < 16 → HkStep C N i) : FnW C 89 [] = some (.bool true) := by
 obtain ⟨r1, a1, h⟩ := ob_some R.k0
 obtain ⟨s1, b1, h⟩ := ob_some h
 obtain ⟨r2, a2, h⟩ := ob_some h
 obtain ⟨s2, b2, h⟩ := ob_some h
 obtain ⟨r3, a3, h⟩ := ob_some h
 obtain ⟨s3, b3, h⟩ := ob_some h
 obtain rfl := norm_some b1
 obtain rfl := norm_some b2
 obtain rfl := norm_some b3
 have k := hk_loop ok R hs 16 0 rfl s3 h
 obtain ⟨r4, a4, h4⟩ := ob_some R.kF
 have hb : CdW C 0 w89.body ⟨[], [], 0⟩ = some r4 := by
  rw [R.body, cw_seq, evO_cd ok _ _ _ _ _ a1]
  simp only [ob, evSeqW]
  rw [cw_seq, evO_cd ok _ _ _ _ _ a2]
  simp only [ob, evSeqW]
  rw [cw_seq, cw_seq, evO_cd ok _ _ _ _ _ a3]
  simp only [ob, evSeqW]
  rw [cw_block]
  unfold ob at k ⊢
  rw [k]
  simp only [evSeqW]
  exact evO_cd ok _ _ _ _ _ a4
 unfold FnW pureCallW RnW runWithW
 rw [hf]
 have hn : ([] : List AV).length = w89.np := rfl
 simp only [ob]
 rw [if_pos hn]
 have ha : (⟨argW 0 [] [], [], 0⟩ : WSt) = ⟨[], [], 0⟩ := rfl
 rw [ha, hb]
 exact h4
end Go.D
end
