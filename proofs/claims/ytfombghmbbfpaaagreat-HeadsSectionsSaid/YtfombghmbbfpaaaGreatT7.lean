/- Part of the theory that the claims of this work use: E33, H02, H03, H04, H05, H06, H07, H09, H13, E20, E21, H14. No conditions of its own. -/
import Derived.Test.YtfombghmbbfpaaaGreatT6
section
set_option linter.unusedSimpArgs false
set_option linter.unusedVariables false
namespace Go.D
open Go Go.Pav Go.Pw P
set_option maxRecDepth 10000
set_option maxHeartbeats 4000000
set_option linter.unusedSimpArgs false
set_option linter.unusedVariables false
attribute [-simp] List.getElem_cons_drop
variable {C : WProg}
end Go.D
end
section
set_option linter.unusedSimpArgs false
set_option linter.unusedVariables false
namespace Go.D
open Go Go.Pav Go.Pw P
set_option maxRecDepth 10000
set_option maxHeartbeats 4000000
set_option linter.unusedSimpArgs false
set_option linter.unusedVariables false
attribute [-simp] List.getElem_cons_drop
variable {C : WProg}
structure HasH30 (C : WProg) : Prop extends HasWo C, HasA30 C where
 f305 : C.fns.get 305 = some w305
 f448 : C.fns.get 448 = some w448
 f306 : C.fns.get 306 = some w306
def hdI (ks : List Kd) : List En → Nat → List Int
 | [], _ => []
 | x :: r, i => if (kdAt ks x.i.t).st = true then (i : Int) :: hdI ks r (i + 1) else hdI ks r (i + 1)
theorem hdI_mem (ks : List Kd) : ∀ (l : List En) (i : Nat) (x : Int), x ∈ hdI ks l i ↔ ∃ k : Nat, x = ((i + k : Nat) : Int) ∧ ∃ h : k < l.length, (kdAt ks l[k].i.t).st = true := by
 intro l
 induction l with
 | nil => intro i x; simp [hdI]
 | cons y r ih =>
  intro i x
  have key : (x ∈ hdI ks (y :: r) i) ↔ ((kdAt ks y.i.t).st = true ∧ x = i) ∨ x ∈ hdI ks r (i + 1) := by
   rw [hdI]
   by_cases c : (kdAt ks y.i.t).st = true
   · rw [if_pos c]; simp [c]
   · rw [if_neg c]; simp [c]
  rw [key, ih (i + 1) x]
  constructor
  · rintro (⟨q1, q2⟩ | ⟨k, q1, q2, q3⟩)
    · exact ⟨0, by simpa using q2, by simp, by simpa using q1⟩
    · exact ⟨k + 1, by rw [q1]; congr 1; omega, by simpa using q2, by simpa using q3⟩
  · rintro ⟨k, q1, q2, q3⟩
    cases k with
    | zero => exact .inl ⟨by simpa using q3, by simpa using q1⟩
    | succ k => exact .inr ⟨k, by rw [q1]; congr 1; omega, by simpa using q2, by simpa using q3⟩
theorem hdI_ris (ks : List Kd) : ∀ (l : List En) (i : Nat) (p : Int), p < i → risB p (hdI ks l i) = true := by
 intro l
 induction l with
 | nil => intro i p _; rfl
 | cons y r ih =>
  intro i p hp
  rw [hdI]
  split
  · rw [risB, ih (i + 1) i (by omega)]; simp [hp]
  · exact ih (i + 1) p (by omega)
theorem hdI_len (ks : List Kd) : ∀ (l : List En) (i : Nat), (hdI ks l i).length ≤ l.length := by
 intro l
 induction l with
 | nil => intro i; simp [hdI]
 | cons y r ih =>
  intro i
  have := ih (i + 1)
  rw [hdI]
  split <;> simp only [List.length_cons] <;> omega
theorem ex448_ok (H : HasH30 C) (a : List Int) (e : Bool) (hl : a.length ≤ 1000000) : FnW C 448 [.ro 1 (a.map eI) e] = some (.ro 1 (a.map eI) true) := by
 rw [fnW_eq H.f448 rfl]
 by_cases c : a = []
 · subst c; simp [w448]
 · have h2 : a.length * 9 ≤ 35184372088832 := by omega
   have h3 : ¬ a.length = 0 := fun q => c (List.eq_nil_of_length_eq_zero q)
   have h4 : List.take a.length (a.map eI) = a.map eI := List.take_of_length_le (by simp)
   simp (disch := omega) [w448, c, h2, h3, h4]
theorem ex306_ok (H : HasH30 C) (a : List Se) (e : Bool) (hl : a.length ≤ 1000000) : FnW C 306 [.ro 4 (a.map eSe) e] = some (.ro 4 (a.map eSe) true) := by
 rw [fnW_eq H.f306 rfl]
 by_cases c : a = []
 · subst c; simp [w306]
 · have h2 : a.length * 33 ≤ 35184372088832 := by omega
   have h3 : ¬ a.length = 0 := fun q => c (List.eq_nil_of_length_eq_zero q)
   have h4 : List.take a.length (a.map eSe) = a.map eSe := List.take_of_length_le (by simp)
   simp (disch := omega) [w306, c, h2, h3, h4]
theorem hdr_loop (H : HasH30 C) (ks : List Kd) (ke : Bool) (cap : Int) (l : List En) (e : Bool) (hl : l.length ≤ 1024) (ht : ∀ x ∈ l, 0 ≤ x.i.t ∧ x.i.t < ks.length) : ∀ n i, n + i = l.length → ∀ G : List Int, G.length ≤ i →
 w305_K0 C ⟨[(19, .int .i64 i), (18, .int .i64 l.length), (17, .ro 6 (l.map eEn) e), (7, .sl 0 1 0 G.length G.length false), (2, .ptr 1 0 0)], [(0, .cells 1 (G.map eI) true true), (1, .cells 2 [[.ro 9 (ks.map eKd) ke, .int .i64 cap]] true true)], 2⟩ = some (.tup [.ro 1 ((G ++ hdI ks (l.drop i) i).map eI) true, .int .i64 0]) := by
 intro n
 induction n with
 | zero =>
  intro i hi G hG
  have h3 : ¬ i < l.length := by omega
  have h1 : l.drop i = [] := List.drop_eq_nil_of_le (by omega)
  have h4 : List.take G.length (G.map eI) = G.map eI := List.take_of_length_le (by simp)
  have hx := ex448_ok H G false (by omega)
  rw [h1, hdI, List.append_nil]
  simp only [w305_K0]; rw [ck_unf w305_B0.eq_1]
  simp (disch := omega) [ck_unf w305_c0.eq_1, h3, h4, hx, H.inl, inlB, H.pp, ppB]
 | succ n ih =>
  intro i hi G hG
  have h1 : i < l.length := by omega
  have hx := ht _ (List.getElem_mem h1)
  obtain ⟨t, hT⟩ : ∃ t : Nat, l[i].i.t = t := ⟨l[i].i.t.toNat, by omega⟩
  have h4 : t < ks.length := by omega
  have hfit : (G.length + 1) * 9 ≤ 35184372088832 := by omega
  rw [drop_cons h1, hdI]
  simp only [hT, kdAt_get h4]
  cases c : ks[t].st
  · rw [if_neg (by simp)]
    have this := ih (i + 1) (by omega) G (by omega)
    generalize hdI ks (l.drop (i + 1)) (i + 1) = R at *
    simp only [w305_K0] at this ⊢; rw [ck_unf w305_B0.eq_1]
    simp at this
    simp (disch := omega) [h1, hT, h4, c, wI64, H.inl, inlB, H.pp, ppB, this]
  · rw [if_pos rfl]
    have this := ih (i + 1) (by omega) (G ++ [(i : Int)]) (by simp; omega)
    rw [show G ++ (i : Int) :: hdI ks (l.drop (i + 1)) (i + 1) = (G ++ [(i : Int)]) ++ hdI ks (l.drop (i + 1)) (i + 1) by simp]
    generalize (G ++ [(i : Int)]) ++ hdI ks (l.drop (i + 1)) (i + 1) = R at *
    simp only [w305_K0] at this ⊢; rw [ck_unf w305_B0.eq_1]
    simp at this
    simp (disch := omega) [h1, hT, h4, c, hfit, wI64, H.inl, inlB, H.pp, ppB, this]
theorem headers_ok (H : HasH30 C) (ks : List Kd) (ke : Bool) (cap : Int) (hr : RuIn ks) (l : List En) (e : Bool) (hl : l.length ≤ 1024) (hs : ∀ x ∈ l, EnIn x) (ht : ckE ks cap l = 0 → ∀ x ∈ l, 0 ≤ x.i.t ∧ x.i.t < ks.length) :
 FnW C 305 [aR ks ke cap, aL l e] = some (.tup [.ro 1 ((if ckE ks cap l = 0 then hdI ks l 0 else []).map eI) true, .int .i64 (ckE ks cap l)]) := by
 have h1 := lcheck_ok H.toHasK ks ke cap hr l e (by omega) hs
 rw [fnW_eq H.f305 rfl]
 by_cases c : ckE ks cap l = 0
 · have k := hdr_loop H ks ke cap l e hl (ht c) l.length 0 (by simp) [] (by simp)
   rw [List.drop_zero, List.nil_append] at k
   rw [c] at h1
   rw [if_pos c, c]
   generalize hdI ks l 0 = R at *
   simp only [w305_K0] at k
   try simp at k
   simp (disch := omega) [w305, h1, k, H.inl, inlB, H.pp, ppB]
 · rw [if_neg c]
   generalize ckE ks cap l = B at *
   simp (disch := omega) [w305, h1, c, H.inl, inlB, H.pp, ppB]
end Go.D
end
section
set_option linter.unusedSimpArgs false
set_option linter.unusedVariables false
namespace Go.D
open Go Go.Pav Go.Pw P
set_option maxRecDepth 10000
set_option maxHeartbeats 4000000
set_option linter.unusedSimpArgs false
set_option linter.unusedVariables false
attribute [-simp] List.getElem_cons_drop
variable {C : WProg}
structure HasS30 (C : WProg) : Prop extends HasH30 C where
 f307 : C.fns.get 307 = some w307
 f449 : C.fns.get 449 = some w449
 f152 : C.fns.get 152 = some w152
 f303 : C.fns.get 303 = some w303
 f148 : C.fns.get 148 = some w148
 f310 : C.fns.get 310 = some w310
 f150 : C.fns.get 150 = some w150
def secF (ks : List Kd) (l : List En) (tot : Int) : Nat → Nat → Int → Int → List Se
 | 0, _, h, f => [⟨h, f, tot, tot⟩]
 | n + 1, i, h, f => if stk ks l i = true then ⟨h, f, top l i, if 0 ≤ h then top l i - szI l h + 1 else top l i⟩ :: secF ks l tot n (i + 1) i (top l i) else secF ks l tot n (i + 1) h f
def secA (ks : List Kd) (l : List En) : List Se :=
 if l.length = 0 then [] else secF ks l (top l l.length) (l.length - 1) 1 (if stk ks l 0 = true then 0 else -1) 0
theorem se_get (A : List Se) (c : List AV) : (List.map eSe A ++ [c])[A.length]? = some c := by
 rw [List.getElem?_append_right (by simp)]; simp
theorem se_set (A : List Se) (c d : List AV) : (List.map eSe A ++ [c]).set A.length d = List.map eSe A ++ [d] := by
 rw [List.set_append, if_neg (by simp)]; simp
theorem stk_mem (ks : List Kd) (l : List En) (i : Nat) (h : i < l.length) : ((i : Int) ∈ hdI ks l 0) ↔ stk ks l i = true := by
 rw [hdI_mem, stk_get h]
 constructor
 · rintro ⟨k, q1, q2, q3⟩
   have : k = i := by omega
   subst this; exact q3
 · intro q; exact ⟨i, by simp, h, q⟩
theorem top_b {l : List En} (hz : Szd l) (i : Nat) (hi : i ≤ l.length) : 0 ≤ top l i ∧ top l i ≤ 4611686018427387904 := by
 have h1 := hz.mono (i := 0) (j := i) (by omega) hi
 have h2 := hz.mono (i := i) (j := l.length) hi (by omega)
 have h3 := hz.t
 have h4 : top l l.length = sm l := by unfold top; rw [List.take_of_length_le (by omega)]
 rw [top_0] at h1
 omega
theorem clos_ok (H : HasS30 C) (l : List En) (hz : Szd l) (A : List Se) (hA : A.length ≤ 1024) (h f : Int) :
 RnW C 449 [.ptr 0 0 0, .ptr 2 0 0] [(0, .cells 1 [[.sl 1 4 0 (A.length + 1) (A.length + 1) false]] true false), (1, .cells 4 (A.map eSe ++ [eSe ⟨h, f, 0, 0⟩]) true true), (2, .cells 1 [[.ro 1 ((tps l).map eI) true]] true true)] 4 =
  some (.tup [], [(0, .cells 1 [[.sl 1 4 0 (A.length + 1) (A.length + 1) false]] true false), (1, .cells 4 (A.map eSe ++ [eSe ⟨h, f, top l l.length, top l l.length⟩]) true true), (2, .cells 1 [[.ro 1 ((tps l).map eI) true]] true true)], 25) := by
 have hn := hz.n
 have hg := se_get A
 have hs := se_set A
 have h5 : l.length < (tps l).length := by rw [tps_len]; omega
 have h6 := tps_get l h5
 have h8 : (tps l).length = l.length + 1 := tps_len l
 rw [rnW_eq (args := [.ptr 0 0 0, .ptr 2 0 0]) H.f449 rfl]
 simp only [eSe]
 simp (disch := omega) [w449, hg, hs, h6, h8, wI64, H.inl, inlB, H.pp, ppB]
theorem sec_loop (H : HasS30 C) (ks : List Kd) (l : List En) (e : Bool) (hz : Szd l) : ∀ n i, n + i = l.length → ∀ (A : List Se) (h f : Int), A.length ≤ i → (h < 0 ∨ (0 ≤ h ∧ h < l.length)) →
 w307_K0 C ⟨[(21, .int .i64 i), (20, .int .i64 l.length), (17, .fn 449 [.ptr 0 0 0, .ptr 2 0 0]), (5, .ptr 2 0 0), (4, .ptr 0 0 0), (2, .rop [.ro 6 (l.map eEn) e]), (1, .ro 1 ((hdI ks l 0).map eI) true)],
  [(0, .cells 1 [[.sl 1 4 0 (A.length + 1) (A.length + 1) false]] true false), (1, .cells 4 (A.map eSe ++ [eSe ⟨h, f, 0, 0⟩]) true true), (2, .cells 1 [[.ro 1 ((tps l).map eI) true]] true true)], 3⟩ = some (.ro 4 ((A ++ secF ks l (top l l.length) n i h f).map eSe) false) := by
 have hn := hz.n
 intro n
 induction n with
 | zero =>
  intro i hi A h f hA hh
  have h3 : ¬ i < l.length := by omega
  have hg := se_get A
  have hs := se_set A
  have h5 : l.length < (tps l).length := by rw [tps_len]; omega
  have h6 := tps_get l h5
  have h7 : List.take (A.length + 1) (A.map eSe ++ [eSe ⟨h, f, top l l.length, top l l.length⟩]) = A.map eSe ++ [eSe ⟨h, f, top l l.length, top l l.length⟩] := List.take_of_length_le (by simp)
  have h8 : (tps l).length = l.length + 1 := tps_len l
  rw [secF]
  simp only [eSe] at h7 ⊢
  simp only [w307_K0]; rw [ck_unf w307_B0.eq_1]
  have hcl := clos_ok H l hz A (by omega) h f
  simp only [eSe] at hcl
  simp (disch := omega) [ck_unf w307_c0.eq_1, hcl, h3, h7, eSe, wI64, H.inl, inlB, H.pp, ppB]
 | succ n ih =>
  intro i hi A h f hA hh
  have h1 : i < l.length := by omega
  obtain ⟨r, hb⟩ := bs_ok H.toHasWn (hdI ks l 0) true i (by have := hdI_len ks l 0; omega) (hdI_ris ks l 0 (-1) (by omega))
  have hdec : decide ((i : Int) ∈ hdI ks l 0) = stk ks l i := by
   have := stk_mem ks l i h1
   cases c : stk ks l i
   · rw [c] at this; simpa using this
   · rw [c] at this; simpa using this
  rw [hdec] at hb
  have hg := se_get A
  have hs := se_set A
  have h5 : i < (tps l).length := by rw [tps_len]; omega
  have h6 := tps_get l h5
  have hfit : (A.length + 1 + 1) * 33 ≤ 35184372088832 := by omega
  have htb := top_b hz i (by omega)
  rw [secF]
  cases c : stk ks l i
  · rw [if_neg (by simp)]
    rw [c] at hb
    have this := ih (i + 1) (by omega) A h f (by omega) hh
    generalize A ++ secF ks l (top l l.length) n (i + 1) h f = R at *
    simp only [eSe] at this ⊢
    simp only [w307_K0] at this ⊢; rw [ck_unf w307_B0.eq_1]
    simp at this
    simp (disch := omega) [h1, hb, wI64, H.inl, inlB, H.pp, ppB, this]
  · rw [if_pos rfl]
    rw [c] at hb
    by_cases d : 0 ≤ h
    · rw [if_pos d]
      obtain ⟨t, rfl⟩ : ∃ t : Nat, h = t := ⟨h.toNat, by omega⟩
      have htl : t < l.length := by omega
      have hst := hz.s _ (List.getElem_mem htl)
      have hsz := szI_get (l := l) htl
      have this := ih (i + 1) (by omega) (A ++ [⟨t, f, top l i, top l i - szI l t + 1⟩]) i (top l i) (by simp; omega) (.inr ⟨by omega, by omega⟩)
      rw [show A ++ (⟨t, f, top l i, top l i - szI l t + 1⟩ : Se) :: secF ks l (top l l.length) n (i + 1) i (top l i) = (A ++ [⟨t, f, top l i, top l i - szI l t + 1⟩]) ++ secF ks l (top l l.length) n (i + 1) i (top l i) by simp]
      generalize (A ++ [(⟨t, f, top l i, top l i - szI l t + 1⟩ : Se)]) ++ secF ks l (top l l.length) n (i + 1) i (top l i) = R at *
      rw [hsz] at this
      simp only [eSe] at this ⊢
      simp only [w307_K0] at this ⊢; rw [ck_unf w307_B0.eq_1]
      simp [eSe] at this
      simp (disch := omega) [h1, hb, hg, hs, h5, h6, htl, hfit, wI64, H.inl, inlB, H.pp, ppB, this]
    · rw [if_neg d]
      have this := ih (i + 1) (by omega) (A ++ [⟨h, f, top l i, top l i⟩]) i (top l i) (by simp; omega) (.inr ⟨by omega, by omega⟩)
      rw [show A ++ (⟨h, f, top l i, top l i⟩ : Se) :: secF ks l (top l l.length) n (i + 1) i (top l i) = (A ++ [⟨h, f, top l i, top l i⟩]) ++ secF ks l (top l l.length) n (i + 1) i (top l i) by simp]
      generalize (A ++ [(⟨h, f, top l i, top l i⟩ : Se)]) ++ secF ks l (top l l.length) n (i + 1) i (top l i) = R at *
      simp only [eSe] at this ⊢
      simp only [w307_K0] at this ⊢; rw [ck_unf w307_B0.eq_1]
      simp [eSe] at this
      simp (disch := omega) [h1, hb, hg, hs, h5, h6, d, hfit, wI64, H.inl, inlB, H.pp, ppB, this]
end Go.D
end
section
set_option linter.unusedSimpArgs false
set_option linter.unusedVariables false
namespace Go.D
open Go Go.Pav Go.Pw P
set_option maxRecDepth 10000
set_option maxHeartbeats 4000000
set_option linter.unusedSimpArgs false
set_option linter.unusedVariables false
attribute [-simp] List.getElem_cons_drop
variable {C : WProg}
structure HasR30 (C : WProg) : Prop extends HasS30 C
def fillS (l : List En) (tot : Int) : List (Int × Int) → List Se
 | [] => []
 | [(h, f)] => [⟨h, f, tot, tot⟩]
 | (h, f) :: (h2, f2) :: r => ⟨h, f, f2, if 0 ≤ h then f2 - szI l h + 1 else f2⟩ :: fillS l tot ((h2, f2) :: r)
end Go.D
end
section
set_option linter.unusedSimpArgs false
set_option linter.unusedVariables false
namespace Go.D
open Go Go.Pav Go.Pw P
set_option maxRecDepth 10000
set_option maxHeartbeats 4000000
set_option linter.unusedSimpArgs false
set_option linter.unusedVariables false
attribute [-simp] List.getElem_cons_drop
variable {C : WProg}
def secL (ks : List Kd) (l : List En) (tot s : Int) : Nat → Nat → Int → Int × Int × Int
 | 0, _, h => (h, tot, -1)
 | n + 1, i, h => if stk ks l i = true then (if s < top l i then (h, (if 0 ≤ h then top l i - szI l h + 1 else top l i), (i : Int)) else secL ks l tot s n (i + 1) i) else secL ks l tot s n (i + 1) h
def nxF (ks : List Kd) (l : List En) (s : Int) : Nat → Nat → Int
 | 0, _ => -1
 | n + 1, i => if stk ks l i = true ∧ s < top l i then (i : Int) else nxF ks l s n (i + 1)
theorem secF_pos (ks : List Kd) (l : List En) (tot : Int) : ∀ n i (h f : Int), 0 < (secF ks l tot n i h f).length := by
 intro n
 induction n with
 | zero => intro i h f; simp [secF]
 | succ n ih => intro i h f; rw [secF]; split <;> simp [ih]
theorem sec_at (ks : List Kd) (l : List En) (hz : Szd l) (s : Int) (hs : s < top l l.length) : ∀ n i, n + i = l.length → ∀ (h f : Int) (j : Nat), f ≤ s →
 ∃ (k : Nat) (hk : k < (secF ks l (top l l.length) n i h f).length), atS s (secF ks l (top l l.length) n i h f) j = ((j + k : Nat) : Int) ∧ (secF ks l (top l l.length) n i h f)[k].h = (secL ks l (top l l.length) s n i h).1 ∧
  (secF ks l (top l l.length) n i h f)[k].p = (secL ks l (top l l.length) s n i h).2.1 ∧
  (((secL ks l (top l l.length) s n i h).2.2 = -1 ∧ k + 1 = (secF ks l (top l l.length) n i h f).length) ∨
   (0 ≤ (secL ks l (top l l.length) s n i h).2.2 ∧ ∃ h2 : k + 1 < (secF ks l (top l l.length) n i h f).length, (secF ks l (top l l.length) n i h f)[k + 1].h = (secL ks l (top l l.length) s n i h).2.2)) := by
 intro n
 induction n with
 | zero =>
  intro i hi h f j hf
  refine ⟨0, by simp [secF], ?_, rfl, rfl, .inl ⟨rfl, rfl⟩⟩
  have : inSe s ⟨h, f, top l l.length, top l l.length⟩ = true := by unfold inSe; simp; omega
  rw [secF, atS, if_pos this]; rfl
 | succ n ih =>
  intro i hi h f j hf
  rw [secF, secL]
  by_cases c : stk ks l i = true
  · rw [if_pos c, if_pos c]
    by_cases d : s < top l i
    · rw [if_pos d]
      have hne : 0 < (secF ks l (top l l.length) n (i + 1) i (top l i)).length := secF_pos ..
      have hfst : ∀ n i (h f : Int), n + i = l.length → ∃ h3 : 0 < (secF ks l (top l l.length) n i h f).length, (secF ks l (top l l.length) n i h f)[0].h = h := by
       intro n
       induction n with
       | zero => intro i h f _; exact ⟨by simp [secF], rfl⟩
       | succ n ih =>
        intro i h f hi
        by_cases e : stk ks l i = true
        · have q : secF ks l (top l l.length) (n + 1) i h f = ⟨h, f, top l i, if 0 ≤ h then top l i - szI l h + 1 else top l i⟩ :: secF ks l (top l l.length) n (i + 1) i (top l i) := by rw [secF, if_pos e]
          rw [q]; exact ⟨by simp, rfl⟩
        · have q : secF ks l (top l l.length) (n + 1) i h f = secF ks l (top l l.length) n (i + 1) h f := by rw [secF, if_neg e]
          rw [q]; exact ih (i + 1) h f (by omega)
      obtain ⟨h3, h4⟩ := hfst n (i + 1) i (top l i) (by omega)
      refine ⟨0, by simp, ?_, rfl, rfl, .inr ⟨by simp only; omega, by simpa using hne, by simpa using h4⟩⟩
      have : inSe s ⟨h, f, top l i, if 0 ≤ h then top l i - szI l h + 1 else top l i⟩ = true := by unfold inSe; simp; omega
      rw [atS, if_pos this]; rfl
    · rw [if_neg d]
      obtain ⟨k, hk, h1, h2, h3, h4⟩ := ih (i + 1) (by omega) i (top l i) (j + 1) (by omega)
      refine ⟨k + 1, by simpa using hk, ?_, by simpa using h2, by simpa using h3, ?_⟩
      · have : inSe s ⟨h, f, top l i, if 0 ≤ h then top l i - szI l h + 1 else top l i⟩ = false := by unfold inSe; simp; omega
        rw [atS, if_neg (by rw [this]; simp), h1]
        congr 1; omega
      · rcases h4 with ⟨q1, q2⟩ | ⟨q1, q2, q3⟩
        · exact .inl ⟨q1, by simp [q2]⟩
        · exact .inr ⟨q1, by simpa using q2, by simpa using q3⟩
  · rw [if_neg c, if_neg c]
    exact ih (i + 1) (by omega) h f j hf
theorem sec_out (ks : List Kd) (l : List En) (hz : Szd l) (s : Int) : ∀ n i, n + i = l.length → ∀ (h f : Int) (j : Nat), f ≤ top l i → (s < f ∨ top l l.length ≤ s) → atS s (secF ks l (top l l.length) n i h f) j = -1 := by
 intro n
 induction n with
 | zero =>
  intro i hi h f j hf hs
  have : inSe s ⟨h, f, top l l.length, top l l.length⟩ = false := by unfold inSe; simp; omega
  rw [secF, atS, if_neg (by rw [this]; simp), atS]
 | succ n ih =>
  intro i hi h f j hf hs
  have hm := hz.mono (i := i) (j := l.length) (by omega) (by omega)
  have hm1 := hz.mono (i := i) (j := i + 1) (by omega) (by omega)
  rw [secF]
  by_cases c : stk ks l i = true
  · rw [if_pos c]
    have : inSe s ⟨h, f, top l i, if 0 ≤ h then top l i - szI l h + 1 else top l i⟩ = false := by unfold inSe; simp; omega
    rw [atS, if_neg (by rw [this]; simp)]
    exact ih (i + 1) (by omega) i (top l i) (j + 1) (by omega) (by omega)
  · rw [if_neg c]
    exact ih (i + 1) (by omega) h f j (by omega) hs
theorem secL_head (ks : List Kd) (l : List En) (hz : Szd l) (tot s : Int) : ∀ n i, n + i = l.length → ∀ h, (secL ks l tot s n i h).1 = hrF ks l s n i h := by
 intro n
 induction n with
 | zero => intro i hi h; rfl
 | succ n ih =>
  intro i hi h
  have hil : i < l.length := by omega
  rw [secL]
  by_cases c : stk ks l i = true
  · rw [if_pos c]
    by_cases d : s < top l i
    · rw [if_pos d, hrF_stop hz (n + 1) i h hi d]
    · rw [if_neg d, hrF, if_pos ⟨c, by omega⟩]; exact ih (i + 1) (by omega) i
  · rw [if_neg c, hrF, if_neg (by rintro ⟨q, _⟩; exact c q)]; exact ih (i + 1) (by omega) h
theorem secL_next (ks : List Kd) (l : List En) (hz : Szd l) (tot s : Int) : ∀ n i, n + i = l.length → ∀ h, (secL ks l tot s n i h).2.2 = nxF ks l s n i := by
 intro n
 induction n with
 | zero => intro i hi h; rfl
 | succ n ih =>
  intro i hi h
  rw [secL, nxF]
  by_cases c : stk ks l i = true
  · rw [if_pos c]
    by_cases d : s < top l i
    · rw [if_pos d]; simp only; rw [if_pos ⟨c, d⟩]
    · rw [if_neg d, if_neg (by rintro ⟨_, q⟩; exact d q)]; exact ih (i + 1) (by omega) i
  · rw [if_neg c, if_neg (by rintro ⟨q, _⟩; exact c q)]; exact ih (i + 1) (by omega) h
theorem secL_place (ks : List Kd) (l : List En) (hz : Szd l) (s : Int) (hs : s < top l l.length) : ∀ n i, n + i = l.length → ∀ (h0 : Int) (pl : Int), (0 ≤ h0 → pl = plF ks l s (szI l h0) n i) → 0 ≤ (secL ks l (top l l.length) s n i h0).1 →
 ∃ t : Nat, (secL ks l (top l l.length) s n i h0).1 = t ∧ (((t : Int) = h0 ∧ imin 0 ((secL ks l (top l l.length) s n i h0).2.1 - 1 - s) = pl) ∨ (i ≤ t ∧ t < l.length ∧ imin 0 ((secL ks l (top l l.length) s n i h0).2.1 - 1 - s) = plA ks l s t)) := by
 intro n
 induction n with
 | zero =>
  intro i hi h0 pl hp hh
  simp only [secL] at hh ⊢
  refine ⟨h0.toNat, by omega, .inl ⟨by omega, ?_⟩⟩
  rw [hp hh, plF]
  unfold imin; split <;> omega
 | succ n ih =>
  intro i hi h0 pl hp hh
  have hil : i < l.length := by omega
  rw [secL] at hh ⊢
  by_cases c : stk ks l i = true
  · rw [if_pos c] at hh ⊢
    by_cases d : s < top l i
    · rw [if_pos d] at hh ⊢
      simp only at hh ⊢
      refine ⟨h0.toNat, by omega, .inl ⟨by omega, ?_⟩⟩
      rw [hp hh, plF, if_pos c, if_pos hh]
      unfold imin; split <;> split <;> omega
    · rw [if_neg d] at hh ⊢
      obtain ⟨t, q1, q2⟩ := ih (i + 1) (by omega) i (plA ks l s i) (by
       intro _
       unfold plA
       rw [show l.length - (i + 1) = n by omega]) hh
      refine ⟨t, q1, .inr ?_⟩
      rcases q2 with ⟨q2, q3⟩ | ⟨q2, q3, q4⟩
      · have : t = i := by omega
        subst this
        exact ⟨Nat.le_refl _, hil, q3⟩
      · exact ⟨by omega, q3, q4⟩
  · rw [if_neg c] at hh ⊢
    obtain ⟨t, q1, q2⟩ := ih (i + 1) (by omega) h0 pl (by
     intro q
     rw [hp q, plF, if_neg c]) hh
    refine ⟨t, q1, ?_⟩
    rcases q2 with q2 | ⟨q2, q3, q4⟩
    · exact .inl q2
    · exact .inr ⟨by omega, q3, q4⟩
end Go.D
end
section
set_option linter.unusedSimpArgs false
set_option linter.unusedVariables false
namespace Go.D
open Go Go.Pav Go.Pw P
set_option maxRecDepth 10000
set_option maxHeartbeats 4000000
set_option linter.unusedSimpArgs false
set_option linter.unusedVariables false
attribute [-simp] List.getElem_cons_drop
variable {C : WProg}
structure HasO30 (C : WProg) : Prop extends HasR30 C
theorem sec_first (H : HasS30 C) (ks : List Kd) (l : List En) (e : Bool) (hz : Szd l) (h0 : 0 < l.length) :
 w307_K0 C ⟨[(21, .int .i64 0), (20, .int .i64 l.length), (17, .fn 449 [.ptr 0 0 0, .ptr 1 0 0]), (5, .ptr 1 0 0), (4, .ptr 0 0 0), (2, .rop [.ro 6 (l.map eEn) e]), (1, .ro 1 ((hdI ks l 0).map eI) true)],
  [(0, .cells 1 [[.ro 4 [] true]] true true), (1, .cells 1 [[.ro 1 ((tps l).map eI) true]] true true)], 2⟩ = some (.ro 4 ((secA ks l).map eSe) false) := by
 have hn := hz.n
 have c : ¬ l.length = 0 := by omega
 obtain ⟨r, hb⟩ := bs_ok H.toHasWn (hdI ks l 0) true 0 (by have := hdI_len ks l 0; omega) (hdI_ris ks l 0 (-1) (by omega))
 have hdec : decide ((0 : Int) ∈ hdI ks l 0) = stk ks l 0 := by
  have := stk_mem ks l 0 h0
  cases c : stk ks l 0
  · rw [c] at this; simpa using this
  · rw [c] at this; simpa using this
 rw [hdec] at hb
 have h5 : 0 < (tps l).length := by rw [tps_len]; omega
 have h6 := tps_get l h5
 rw [top_0] at h6
 unfold secA
 rw [if_neg c]
 cases d : stk ks l 0
 · rw [d] at hb
   have k := sec_loop H ks l e hz (l.length - 1) 1 (by omega) [] (-1) 0 (by simp) (.inl (by omega))
   rw [if_neg (by simp)]
   rw [List.nil_append] at k
   generalize secF ks l (top l l.length) (l.length - 1) 1 (-1) 0 = R at *
   simp only [w307_K0] at k ⊢
   rw [ck_unf w307_B0.eq_1]
   simp [eSe] at k
   simp (disch := omega) [h0, hb, h5, h6, k, wI64, H.inl, inlB, H.pp, ppB]
 · rw [d] at hb
   have k := sec_loop H ks l e hz (l.length - 1) 1 (by omega) [] 0 0 (by simp) (.inr ⟨by omega, by omega⟩)
   rw [if_pos rfl]
   rw [List.nil_append] at k
   generalize secF ks l (top l l.length) (l.length - 1) 1 0 0 = R at *
   simp only [w307_K0] at k ⊢
   rw [ck_unf w307_B0.eq_1]
   simp [eSe] at k
   simp (disch := omega) [h0, hb, h5, h6, k, wI64, H.inl, inlB, H.pp, ppB]
theorem secs_ok (H : HasS30 C) (ks : List Kd) (l : List En) (e : Bool) (hz : Szd l) : ∃ fl, FnW C 307 [aL l e, .ro 1 ((hdI ks l 0).map eI) true] = some (.ro 4 ((secA ks l).map eSe) fl) := by
 have hn := hz.n
 have h1 := tops_ok H.toHasSz l e hz
 rw [fnW_eq H.f307 rfl]
 by_cases c : l.length = 0
 · have hnil : l = [] := List.eq_nil_of_length_eq_zero c
   subst hnil
   refine ⟨true, ?_⟩
   have hc : RnW C 449 [.ptr 0 0 0, .ptr 1 0 0] [(0, .cells 1 [[.ro 4 [] true]] true true), (1, .cells 1 [[.ro 1 ((tps []).map eI) true]] true true)] 3 = some (.tup [], [(0, .cells 1 [[.ro 4 [] true]] true true), (1, .cells 1 [[.ro 1 ((tps []).map eI) true]] true true)], 5) := by
    rw [rnW_eq (args := [.ptr 0 0 0, .ptr 1 0 0]) H.f449 rfl]
    simp (disch := omega) [w449, wI64, H.inl, inlB, H.pp, ppB]
   unfold secA
   generalize tps [] = T at *
   simp [aL] at h1
   simp (disch := omega) [w307, ck_unf w307_B0.eq_1, ck_unf w307_c0.eq_1, ck_unf w307_c1.eq_1, hc, h1, wI64, H.inl, inlB, H.pp, ppB]
 · refine ⟨false, ?_⟩
   have k := sec_first H ks l e hz (by omega)
   generalize secA ks l = R at *
   generalize hdI ks l 0 = D at *
   generalize tps l = T at *
   simp only [w307_K0] at k
   try simp at k
   simp (disch := omega) [w307, ck_unf w307_c1.eq_1, h1, k, wI64, H.inl, inlB, H.pp, ppB]
theorem secF_len (ks : List Kd) (l : List En) (tot : Int) : ∀ n i (h f : Int), (secF ks l tot n i h f).length ≤ n + 1 := by
 intro n
 induction n with
 | zero => intro i h f; simp [secF]
 | succ n ih =>
  intro i h f
  rw [secF]
  split
  · have := ih (i + 1) i (top l i); simp only [List.length_cons]; omega
  · have := ih (i + 1) h f; omega
theorem secA_len (ks : List Kd) (l : List En) : (secA ks l).length ≤ l.length := by
 unfold secA
 split
 · simp
 · have := secF_len ks l (top l l.length) (l.length - 1) 1 (if stk ks l 0 = true then 0 else -1) 0; omega
def secE (ks : List Kd) (cap : Int) (l : List En) : List Se := if ckE ks cap l = 0 then secA ks l else []
theorem sections_ok (H : HasS30 C) (ks : List Kd) (ke : Bool) (cap : Int) (hr : RuIn ks) (l : List En) (e : Bool) (hl : l.length ≤ 1024) (hs : ∀ x ∈ l, EnIn x) (ht : ckE ks cap l = 0 → Szd l ∧ ∀ x ∈ l, 0 ≤ x.i.t ∧ x.i.t < ks.length) :
 FnW C 152 [aR ks ke cap, aL l e] = some (.tup [.ro 4 ((secE ks cap l).map eSe) true, .int .i64 (ckE ks cap l)]) := by
 have h1 := headers_ok H.toHasH30 ks ke cap hr l e hl hs (fun q => (ht q).2)
 rw [fnW_eq H.f152 rfl]
 unfold secE
 by_cases c : ckE ks cap l = 0
 · obtain ⟨fl, h2⟩ := secs_ok H ks l e (ht c).1
   have h3 := ex306_ok H.toHasH30 (secA ks l) fl (by have := secA_len ks l; omega)
   rw [if_pos c] at h1 ⊢
   rw [c] at h1 ⊢
   generalize secA ks l = S at *
   generalize hdI ks l 0 = D at *
   simp (disch := omega) [w152, h1, h2, h3, H.inl, inlB, H.pp, ppB]
 · rw [if_neg c] at h1 ⊢
   generalize ckE ks cap l = B at *
   simp (disch := omega) [w152, h1, c, H.inl, inlB, H.pp, ppB]
def offE (ks : List Kd) (cap : Int) (l : List En) (s : Int) : Int :=
 if ckE ks cap l ≠ 0 then ckE ks cap l else if s < 0 ∨ (top l l.length ≤ s ∧ (0 < s ∨ 0 < l.length)) then 4 else 0
theorem sec303_ok (H : HasS30 C) (ks : List Kd) (ke : Bool) (cap : Int) (hr : RuIn ks) (l : List En) (e : Bool) (hl : l.length ≤ 1024) (hs : ∀ x ∈ l, EnIn x) (ht : ckE ks cap l = 0 → Szd l ∧ ∀ x ∈ l, 0 ≤ x.i.t ∧ x.i.t < ks.length) (s : Int) (B : Int) (hB : B = offE ks cap l s) (hat : ckE ks cap l = 0 → (atS s (secA ks l) 0 < 0 ∧ (s ≠ 0 ∨ 0 < (secA ks l).length) ↔ B ≠ 0)) :
 FnW C 303 [aR ks ke cap, aL l e, .int .i64 s] = some (.tup [.ro 4 ((if B = 0 then secA ks l else []).map eSe) true, .int .i64 (if B = 0 then atS s (secA ks l) 0 else -1), .int .i64 B]) := by
 have h1 := sections_ok H ks ke cap hr l e hl hs ht
 unfold secE at h1
 have hlen := secA_len ks l
 rw [fnW_eq H.f303 rfl]
 by_cases c : ckE ks cap l = 0
 · have hat := hat c
   rw [if_pos c, c] at h1
   have h2 := ixs_ok H.toHasA30 447 (in447 H.toHasA30) rfl rfl (secA ks l) true (by omega) s
   by_cases d : B = 0
   · rw [if_pos d, if_pos d, d]
     have hn : ¬ (atS s (secA ks l) 0 < 0 ∧ (s ≠ 0 ∨ 0 < (secA ks l).length)) := fun q => (hat.1 q) d
     generalize secA ks l = S at *
     generalize atS s S 0 = K at *
     by_cases d1 : K < 0
     · have d2 : s = 0 := by omega
       have d3 : S.length = 0 := by omega
       have d4 : S = [] := List.eq_nil_of_length_eq_zero d3
       subst d4; subst d2
       simp at h1 h2
       simp (disch := omega) [w303, h1, h2, d1, H.inl, inlB, H.pp, ppB]
     · simp (disch := omega) [w303, h1, h2, d1, H.inl, inlB, H.pp, ppB]
   · rw [if_neg d, if_neg d]
     have hy := hat.2 d
     have hB4 : B = 4 := by
      rw [hB]; unfold offE at hB ⊢
      rw [if_neg (by simpa using c)] at hB ⊢
      split at hB
      · rename_i q; rw [if_pos q]
      · exact absurd hB d
     subst hB4
     generalize secA ks l = S at *
     generalize atS s S 0 = K at *
     by_cases d2 : s = 0
     · subst d2
       have d3 : 0 < S.length := by omega
       simp (disch := omega) [w303, h1, h2, hy.1, d3, H.inl, inlB, H.pp, ppB]
     · simp (disch := omega) [w303, h1, h2, hy.1, d2, H.inl, inlB, H.pp, ppB]
 · rw [if_neg c] at h1
   have hBe : B = ckE ks cap l := by rw [hB]; unfold offE; rw [if_pos c]
   rw [← hBe] at h1 c
   rw [if_neg c, if_neg c]
   simp (disch := omega) [w303, h1, c, H.inl, inlB, H.pp, ppB]
end Go.D
end
section
set_option linter.unusedSimpArgs false
set_option linter.unusedVariables false
namespace Go.D
open Go Go.Pav Go.Pw P
set_option maxRecDepth 10000
set_option maxHeartbeats 4000000
set_option linter.unusedSimpArgs false
set_option linter.unusedVariables false
attribute [-simp] List.getElem_cons_drop
variable {C : WProg}
structure AtO (ks : List Kd) (l : List En) (s : Int) (k : Nat) : Prop where
 lt : k < (secA ks l).length
 at_ : atS s (secA ks l) 0 = k
 hd : ∀ h : k < (secA ks l).length, (secA ks l)[k].h = hrA ks l s
 pl : ∀ h : k < (secA ks l).length, 0 ≤ hrA ks l s → ∃ t : Nat, hrA ks l s = t ∧ t < l.length ∧ imin 0 ((secA ks l)[k].p - 1 - s) = plA ks l s t
 nx : (nxF ks l s l.length 0 = -1 ∧ k + 1 = (secA ks l).length) ∨ (0 ≤ nxF ks l s l.length 0 ∧ ∃ h2 : k + 1 < (secA ks l).length, (secA ks l)[k + 1].h = nxF ks l s l.length 0)
 pb : ∀ h : k < (secA ks l).length, 0 ≤ hrA ks l s → -4611686018427387904 ≤ (secA ks l)[k].p ∧ (secA ks l)[k].p ≤ 4611686018427387905
theorem secL_pb (ks : List Kd) (l : List En) (hz : Szd l) (s : Int) : ∀ n i, n + i = l.length → ∀ h : Int, (h < 0 ∨ h < l.length) → -4611686018427387904 ≤ (secL ks l (top l l.length) s n i h).2.1 ∧ (secL ks l (top l l.length) s n i h).2.1 ≤ 4611686018427387905 := by
 intro n
 induction n with
 | zero => intro i hi h hh; have := top_b hz l.length (Nat.le_refl _); simp only [secL]; omega
 | succ n ih =>
  intro i hi h hh
  have := top_b hz i (by omega)
  rw [secL]
  by_cases c : stk ks l i = true
  · rw [if_pos c]
    by_cases d : s < top l i
    · rw [if_pos d]
      by_cases e : 0 ≤ h
      · obtain ⟨t, rfl⟩ : ∃ t : Nat, h = t := ⟨h.toNat, by omega⟩
        have htl : t < l.length := by omega
        have := hz.s _ (List.getElem_mem htl)
        have h2 := szI_get (l := l) htl
        simp only [if_pos e, h2]; omega
      · simp only [if_neg e]; omega
    · rw [if_neg d]; exact ih (i + 1) (by omega) i (by omega)
  · rw [if_neg c]; exact ih (i + 1) (by omega) h hh
theorem atO_ok (ks : List Kd) (l : List En) (hz : Szd l) (s : Int) (hn : 0 < l.length) (h0 : 0 ≤ s) (hs : s < top l l.length) : ∃ k, AtO ks l s k := by
 have hl : ¬ l.length = 0 := by omega
 obtain ⟨k, hk, h1, h2, h3, h4⟩ := sec_at ks l hz s hs (l.length - 1) 1 (by omega) (if stk ks l 0 = true then 0 else -1) 0 0 h0
 have e1 := secL_head ks l hz (top l l.length) s (l.length - 1) 1 (by omega) (if stk ks l 0 = true then 0 else -1)
 have e2 := secL_next ks l hz (top l l.length) s (l.length - 1) 1 (by omega) (if stk ks l 0 = true then 0 else -1)
 have e3 := secL_place ks l hz s hs (l.length - 1) 1 (by omega) (if stk ks l 0 = true then 0 else -1) (plA ks l s 0) (by
  intro q
  have : (if stk ks l 0 = true then (0 : Int) else -1) = 0 := by
   split at q
   · rename_i c; rw [if_pos c]
   · omega
  rw [this]; unfold plA; rfl)
 have e4 := secL_pb ks l hz s (l.length - 1) 1 (by omega) (if stk ks l 0 = true then 0 else -1) (by split <;> omega)
 have hA : secA ks l = secF ks l (top l l.length) (l.length - 1) 1 (if stk ks l 0 = true then 0 else -1) 0 := by unfold secA; rw [if_neg hl]
 have hH : hrA ks l s = hrF ks l s (l.length - 1) 1 (if stk ks l 0 = true then 0 else -1) := by
  unfold hrA
  obtain ⟨m, hm⟩ : ∃ m, l.length = m + 1 := ⟨l.length - 1, by omega⟩
  rw [hm, hrF]
  congr 1
  by_cases c : stk ks l 0 = true
  · rw [if_pos ⟨c, by rw [top_0]; exact h0⟩, if_pos c]; rfl
  · rw [if_neg (by rintro ⟨q, _⟩; exact c q), if_neg c]
 have hX : nxF ks l s l.length 0 = nxF ks l s (l.length - 1) 1 := by
  obtain ⟨m, hm⟩ : ∃ m, l.length = m + 1 := ⟨l.length - 1, by omega⟩
  rw [hm, nxF, if_neg (by rw [top_0]; omega)]; rfl
 refine ⟨k, ?_⟩
 rw [e1, ← hH] at h2
 rw [e2, ← hX] at h4
 rw [e1, ← hH] at e3
 constructor
 · rw [hA]; exact hk
 · rw [hA, h1, Nat.zero_add]
 · intro h; simp only [hA]; exact h2
 · intro h hh
   obtain ⟨t, q1, q2⟩ := e3 hh
   simp only [hA, h3]
   refine ⟨t, q1, ?_⟩
   rcases q2 with ⟨q2, q3⟩ | ⟨q2, q3, q4⟩
   · have ht : t = 0 := by
      split at q2 <;> omega
     subst ht
     exact ⟨hn, q3⟩
   · exact ⟨q3, q4⟩
 · rcases h4 with ⟨q1, q2⟩ | ⟨q1, q2, q3⟩
   · exact .inl ⟨q1, by rw [hA]; exact q2⟩
   · exact .inr ⟨q1, by rw [hA]; exact q2, by simp only [hA]; exact q3⟩
 · intro h _; simp only [hA, h3]; exact e4
theorem at_iff (ks : List Kd) (cap : Int) (l : List En) (hz : Szd l) (s : Int) (hck : ckE ks cap l = 0) : (atS s (secA ks l) 0 < 0 ∧ (s ≠ 0 ∨ 0 < (secA ks l).length)) ↔ offE ks cap l s ≠ 0 := by
 unfold offE
 rw [if_neg (by simpa using hck)]
 by_cases hn : l.length = 0
 · have hA : secA ks l = [] := by unfold secA; rw [if_pos hn]
   have ht : top l l.length = 0 := by rw [hn, top_0]
   rw [hA, ht, hn]
   simp only [atS, List.length_nil]
   constructor
   · rintro ⟨_, q⟩
     rw [if_pos (by omega)]; omega
   · intro q
     split at q
     · exact ⟨by omega, by omega⟩
     · exact absurd rfl q
 · have hl : 0 < l.length := by omega
   have hlen : 0 < (secA ks l).length := by unfold secA; rw [if_neg hn]; exact secF_pos ..
   by_cases c : s < 0 ∨ top l l.length ≤ s
   · rw [if_pos (by omega)]
     have : atS s (secA ks l) 0 = -1 := by
      unfold secA; rw [if_neg hn]
      have h1 := hz.mono (i := 0) (j := 1) (by omega) (by omega)
      rw [top_0] at h1
      exact sec_out ks l hz s (l.length - 1) 1 (by omega) _ 0 0 (by omega) c
     rw [this]
     exact ⟨fun _ => by omega, fun _ => ⟨by omega, .inr hlen⟩⟩
   · rw [if_neg (by omega)]
     obtain ⟨k, hk⟩ := atO_ok ks l hz s hl (by omega) (by omega)
     rw [hk.at_]
     constructor
     · rintro ⟨q, _⟩; omega
     · intro q; exact absurd rfl q
structure HeS (C : WProg) (ks : List Kd) (ke : Bool) (cap : Int) (l : List En) (e : Bool) (s : Int) (B a n p g : Int) (fa fn_ : Bool) : Prop where
 c148 : FnW C 148 [aR ks ke cap, aL l e, .int .i64 s] = some (.tup [.int .i64 a, .bool fa, .int .i64 B])
 c310 : FnW C 310 [aR ks ke cap, aL l e, .int .i64 s] = some (.tup [.int .i64 n, .bool fn_, .int .i64 B])
 c150 : FnW C 150 [aR ks ke cap, aL l e, .int .i64 s] = some (.tup [.int .i64 p, .int .i64 g])
theorem hes_ok (H : HasS30 C) (ks : List Kd) (ke : Bool) (cap : Int) (hr : RuIn ks) (l : List En) (e : Bool) (hl : l.length ≤ 1024) (hs : ∀ x ∈ l, EnIn x) (hck : ckE ks cap l = 0) (hz : Szd l) (ht : ∀ x ∈ l, 0 ≤ x.i.t ∧ x.i.t < ks.length) (s : Int) (hn : 0 < l.length) (h0 : 0 ≤ s) (hst : s < top l l.length) :
 HeS C ks ke cap l e s 0 (if 0 ≤ hrA ks l s then hrA ks l s else 0) (if 0 ≤ nxF ks l s l.length 0 then nxF ks l s l.length 0 else 0) (if 0 ≤ hrA ks l s then plA ks l s (hrA ks l s).toNat else 0) (if 0 ≤ hrA ks l s then 0 else 11) (decide (0 ≤ hrA ks l s)) (decide (0 ≤ nxF ks l s l.length 0)) := by
 have ho : offE ks cap l s = 0 := by unfold offE; rw [if_neg (by simpa using hck), if_neg (by omega)]
 have h1 := sec303_ok H ks ke cap hr l e hl hs (fun _ => ⟨hz, ht⟩) s _ rfl (fun q => at_iff ks cap l hz s q)
 rw [ho, if_pos rfl, if_pos rfl] at h1
 obtain ⟨k, O⟩ := atO_ok ks l hz s hn h0 hst
 obtain ⟨o1, o2, o3, o4, o5, o6⟩ := O
 have hlen := secA_len ks l
 have htb := top_b hz l.length (Nat.le_refl _)
 rw [o2] at h1
 have o3 := o3 o1
 have o4 := o4 o1
 have o6 := o6 o1
 generalize secA ks l = S at *
 generalize nxF ks l s l.length 0 = X at *
 have hk0 : ¬ (k : Int) < 0 := by omega
 constructor
 · rw [fnW_eq H.f148 rfl]
   generalize hrA ks l s = A at *
   by_cases c : 0 ≤ A
   · rw [if_pos c, decide_eq_true c]
     have c2 : ¬ A < 0 := by omega
     simp (disch := omega) [w148, h1, hk0, o1, o3, c2, eSe, H.inl, inlB, H.pp, ppB]
   · rw [if_neg c, decide_eq_false c]
     have c2 : A < 0 := by omega
     simp (disch := omega) [w148, h1, hk0, o1, o3, c2, eSe, H.inl, inlB, H.pp, ppB]
 · rw [fnW_eq H.f310 rfl]
   rcases o5 with ⟨q1, q2⟩ | ⟨q1, q2, q3⟩
   · rw [if_neg (by omega), decide_eq_false (by omega)]
     have c2 : (S.length : Int) ≤ (k : Int) + 1 := by omega
     simp (disch := omega) [w310, h1, c2, wI64, H.inl, inlB, H.pp, ppB]
   · rw [if_pos q1, decide_eq_true q1]
     have c2 : ¬ (S.length : Int) ≤ (k : Int) + 1 := by omega
     simp (disch := omega) [w310, h1, c2, q2, q3, eSe, wI64, H.inl, inlB, H.pp, ppB]
 · rw [fnW_eq H.f150 rfl]
   generalize hrA ks l s = A at *
   by_cases c : 0 ≤ A
   · obtain ⟨t, q1, q2, q3⟩ := o4 c
     have o6 := o6 c
     subst q1
     rw [if_pos c, if_pos c, show ((t : Int)).toNat = t from rfl, ← q3]
     have c2 : ¬ (t : Int) < 0 := by omega
     simp (disch := omega) [w150, h1, hk0, o1, o3, c2, eSe, wI64, imin, H.inl, inlB, H.pp, ppB]
   · rw [if_neg c, if_neg c]
     have c2 : A < 0 := by omega
     simp (disch := omega) [w150, h1, hk0, o1, o3, c2, eSe, H.inl, inlB, H.pp, ppB]
end Go.D
end
section
set_option linter.unusedSimpArgs false
set_option linter.unusedVariables false
namespace Go.D
open Go Go.Pav Go.Pw P
set_option maxRecDepth 10000
set_option maxHeartbeats 4000000
set_option linter.unusedSimpArgs false
set_option linter.unusedVariables false
attribute [-simp] List.getElem_cons_drop
variable {C : WProg}
end Go.D
end
section
set_option linter.unusedSimpArgs false
set_option linter.unusedVariables false
namespace Go.D
open Go Go.Pav Go.Pw P
set_option maxRecDepth 10000
set_option maxHeartbeats 4000000
set_option linter.unusedSimpArgs false
set_option linter.unusedVariables false
attribute [-simp] List.getElem_cons_drop
variable {C : WProg}
def ChS (l : List En) (tot : Int) : Bool → Int → List Se → Prop
 | _, _, [] => False
 | b, f, [x] => x.f = f ∧ f < tot ∧ x.t = tot ∧ x.p = tot ∧ ((b = true ∧ x.h = -1) ∨ (0 ≤ x.h ∧ x.h < l.length))
 | b, f, x :: y :: r => x.f = f ∧ f < x.t ∧ x.t ≤ tot ∧ ((b = true ∧ x.h = -1 ∧ x.p = x.t) ∨ (0 ≤ x.h ∧ x.h < l.length ∧ f < x.p ∧ x.p ≤ x.t ∧ x.p = x.t - szI l x.h + 1)) ∧ ChS l tot false x.t (y :: r)
theorem ch_sec (ks : List Kd) (l : List En) (hz : Szd l) : ∀ n i, n + i = l.length → ∀ (h f : Int) (b : Bool), f < top l i → ((b = true ∧ h = -1) ∨ (0 ≤ h ∧ h < l.length ∧ f + szI l h ≤ top l i)) → ChS l (top l l.length) b f (secF ks l (top l l.length) n i h f) := by
 intro n
 induction n with
 | zero =>
  intro i hi h f b hf hh
  have hi' : i = l.length := by omega
  subst hi'
  rw [secF]
  refine ⟨rfl, hf, rfl, rfl, ?_⟩
  rcases hh with hh | hh
  · exact .inl hh
  · exact .inr ⟨hh.1, hh.2.1⟩
 | succ n ih =>
  intro i hi h f b hf hh
  have hil : i < l.length := by omega
  have hm := hz.mono (i := i) (j := l.length) (by omega) (by omega)
  have hm1 := hz.mono (i := i) (j := i + 1) (by omega) (by omega)
  rw [secF]
  by_cases c : stk ks l i = true
  · rw [if_pos c]
    have hp := secF_pos ks l (top l l.length) n (i + 1) i (top l i)
    have k := ih (i + 1) (by omega) i (top l i) false (by omega) (.inr ⟨by omega, by omega, by rw [szI_get hil, top_succ hil]; omega⟩)
    generalize secF ks l (top l l.length) n (i + 1) i (top l i) = S at *
    cases S with
    | nil => simp at hp
    | cons y r =>
     refine ⟨rfl, hf, by simp only; omega, ?_, k⟩
     rcases hh with hh | hh
     · refine .inl ⟨hh.1, hh.2, ?_⟩
       simp only; rw [if_neg (by omega)]
     · refine .inr ⟨hh.1, hh.2.1, ?_, ?_, ?_⟩
       · simp only; rw [if_pos hh.1]; omega
       · obtain ⟨t, rfl⟩ : ∃ t : Nat, h = t := ⟨h.toNat, by omega⟩
         have htl : t < l.length := by omega
         have := hz.s _ (List.getElem_mem htl)
         simp only; rw [if_pos hh.1, szI_get htl]; omega
       · simp only; rw [if_pos hh.1]
  · rw [if_neg c]
    refine ih (i + 1) (by omega) h f b (by omega) ?_
    rcases hh with hh | hh
    · exact .inl hh
    · exact .inr ⟨hh.1, hh.2.1, by omega⟩
theorem ch_secA (ks : List Kd) (l : List En) (hz : Szd l) (h0 : 0 < l.length) : ChS l (top l l.length) true 0 (secA ks l) := by
 have h1 := hz.mono (i := 0) (j := 1) (by omega) (by omega)
 rw [top_0] at h1
 unfold secA
 rw [if_neg (by omega)]
 refine ch_sec ks l hz (l.length - 1) 1 (by omega) _ 0 true (by omega) ?_
 by_cases c : stk ks l 0 = true
 · rw [if_pos c]
   refine .inr ⟨by omega, by omega, ?_⟩
   have h2 := top_succ h0
   rw [top_0] at h2
   have h3 := szI_get (l := l) h0
   simp only [Nat.zero_add] at h2
   have h4 : szI l 0 = l[0].s := h3
   rw [h4, h2]; omega
 · rw [if_neg c]; exact .inl ⟨rfl, rfl⟩
theorem ch_at (l : List En) (tot : Int) : ∀ (S : List Se) (b : Bool) (f : Int), ChS l tot b f S → ∀ (i : Nat) (hi : i < S.length), f ≤ S[i].f ∧ S[i].t ≤ tot ∧ S[i].f < S[i].t ∧ ∀ s, S[i].f ≤ s → s < S[i].t → ∀ j, atS s S j = ((j + i : Nat) : Int)
 | [], _, _, h, _, _ => h.elim
 | [x], b, f, h, i, hi => by
  have : i = 0 := by simp at hi; omega
  subst this
  obtain ⟨h1, h2, h3, h4, h5⟩ := h
  refine ⟨by simp [h1], by simp [h3], by simp only [List.getElem_cons_zero]; omega, fun s q1 q2 j => ?_⟩
  simp only [List.getElem_cons_zero] at q1 q2
  rw [atS, if_pos (by unfold inSe; simp [q1, q2])]; rfl
 | x :: y :: r, b, f, h, i, hi => by
  obtain ⟨h1, h2, h3, h4, h5⟩ := h
  cases i with
  | zero =>
   refine ⟨by simp [h1], by simp [h3], by simp only [List.getElem_cons_zero]; omega, fun s q1 q2 j => ?_⟩
   simp only [List.getElem_cons_zero] at q1 q2
   rw [atS, if_pos (by unfold inSe; simp [q1, q2])]; rfl
  | succ i =>
   obtain ⟨k1, k2, k3, k4⟩ := ch_at l tot (y :: r) false x.t h5 i (by simpa using hi)
   simp only [List.getElem_cons_succ] at *
   refine ⟨by omega, k2, k3, fun s q1 q2 j => ?_⟩
   rw [atS, if_neg (by unfold inSe; simp; omega), k4 s q1 q2 (j + 1)]
   congr 1; omega
theorem place_end (H : HasS30 C) (ks : List Kd) (ke : Bool) (cap : Int) (hr : RuIn ks) (l : List En) (e : Bool) (hs : ∀ x ∈ l, EnIn x) (hck : ckE ks cap l = 0) (hz : Szd l) (ht : ∀ x ∈ l, 0 ≤ x.i.t ∧ x.i.t < ks.length) (h0 : 0 < l.length)
 (i : Nat) (hi : i < (secA ks l).length) (hh : 0 ≤ (secA ks l)[i].h) (hp : (secA ks l)[i].p = (secA ks l)[i].t - szI l (secA ks l)[i].h + 1) (hpt : (secA ks l)[i].p ≤ (secA ks l)[i].t) :
 FnW C 150 [aR ks ke cap, aL l e, .int .i64 ((secA ks l)[i].t - 1)] = some (.tup [.int .i64 (1 - szI l (secA ks l)[i].h), .int .i64 0]) := by
 have hc := ch_secA ks l hz h0
 obtain ⟨k1, k2, k3, k4⟩ := ch_at l _ _ _ _ hc i hi
 have k4 := k4 ((secA ks l)[i].t - 1) (by omega) (by omega) 0
 rw [Nat.zero_add] at k4
 have h := (hes_ok H ks ke cap hr l e hz.n hs hck hz ht ((secA ks l)[i].t - 1) h0 (by omega) (by omega)).c150
 obtain ⟨k, O⟩ := atO_ok ks l hz ((secA ks l)[i].t - 1) h0 (by omega) (by omega)
 have hk : k = i := by have := O.at_; rw [k4] at this; omega
 subst hk
 have hd := O.hd hi
 obtain ⟨t, q1, q2, q3⟩ := O.pl hi (by rw [← hd]; exact hh)
 have hsz : (1 : Int) ≤ szI l (secA ks l)[k].h := by omega
 have e1 : plA ks l ((secA ks l)[k].t - 1) t = 1 - szI l (secA ks l)[k].h := by
  rw [← q3, hp]
  unfold imin
  split <;> omega
 rw [h, ← hd, if_pos hh, if_pos hh, hd, q1, show ((t : Int)).toNat = t from rfl, e1, hd, q1]
end Go.D
end
section
set_option linter.unusedSimpArgs false
set_option linter.unusedVariables false
namespace Go.D
open Go Go.Pav Go.Pw P
set_option maxRecDepth 10000
set_option maxHeartbeats 4000000
set_option linter.unusedSimpArgs false
set_option linter.unusedVariables false
attribute [-simp] List.getElem_cons_drop
variable {C : WProg}
section
variable {r : Int} {l : List En}
end
end Go.D
end
section
set_option linter.unusedSimpArgs false
set_option linter.unusedVariables false
namespace Go.D
open Go Go.Pav Go.Pw P
set_option maxRecDepth 10000
set_option maxHeartbeats 4000000
set_option linter.unusedSimpArgs false
set_option linter.unusedVariables false
attribute [-simp] List.getElem_cons_drop
variable {C : WProg}
section
variable {r : Int} {l : List En}
theorem Vp.sb {s v : Int} (hp : Vp l s v) : 0 ≤ s ∧ s ≤ 4611686018427387904 := by
 have h1 := hp.s0
 have h0 := hp.v0
 have h2 := hp.t
 have h3 := hp.nn
 unfold mostS at h1; split at h1 <;> omega
end
end Go.D
end
section
set_option linter.unusedSimpArgs false
set_option linter.unusedVariables false
namespace Go.D
open Go Go.Pav Go.Pw P
set_option maxRecDepth 10000
set_option maxHeartbeats 8000000
set_option linter.unusedSimpArgs false
set_option linter.unusedVariables false
attribute [-simp] List.getElem_cons_drop
variable {C : WProg}
structure HasHs (C : WProg) : Prop extends HasO30 C, HasSc C where
 f155 : C.fns.get 155 = some w155
theorem hs_end (H : HasHs C) (hlives : FnW C 157 [] = some (.bool true)) {r : Int} {l : List En} (L : LG r l) (f : Bool) (s v : Int) (hp : Vp l s v) :
 CK C 0 (pureFin [.tmp 4]) [] w155_c0 ⟨[(11, .int .i64 (top l l.length)), (9, .ro 4 ((secA (kindsOf r) l).map eSe) true), (8, .int .i64 v), (7, .int .i64 s), (6, .ptr 0 0 0), (5, .ptr 1 0 0)], [(0, .cells 1 [[.ro 6 (l.map eEn) f]] true true), (1, .cells 2 [[.ro 9 ((kindsOf r).map eKd) true, .int .i64 12]] true true)], 2⟩ = some (.bool true) := by
 have hl := L.hl
 have hz := L.z
 have hn := hz.n
 have htot := tot_ok H.toHasL l f (by omega) L.en
 have htt : tot l = top l l.length := by rw [hz.tot]; unfold top; rw [List.take_of_length_le (by omega)]
 rw [htt] at htot
 obtain ⟨a, b, ha, hb, hab, hbl, hvi, hwn⟩ := hp.visR
 have hsl := slice_ok H.toHasSc L f s v hp a b ha hb hab hbl
 have hsA := secA_len (kindsOf r) l
 have htb := top_b hz l.length (Nat.le_refl _)
 have hv0 := hp.v0
 have hs0 := hp.s0
 by_cases n0 : l.length = 0
 · have hnil : l = [] := List.eq_nil_of_length_eq_zero n0
   subst hnil
   have hA : secA (kindsOf r) [] = [] := rfl
   rw [hA] at *
   have ht0 : top ([] : List En) ([] : List En).length = 0 := rfl
   rw [ht0] at *
   have hno : FnW C 309 [.ro 4 [] true, .int .i64 s] = some (.tup [.agg (eSe ⟨0, 0, 0, 0⟩), .int .i64 11]) := by
    rcases hat_ok H.toHasA30 [] true (by simp) s with ⟨_, q⟩ | ⟨k, hk, _⟩
    · simpa using q
    · simp at hk
   have hh : hrA (kindsOf r) [] s = -1 := rfl
   rw [hh] at hsl
   simp [aL, aR] at hsl htot
   generalize slQ s (-1) (rowsP (kindsOf r) [] a (b - a)) a = Q at *
   generalize kindsOf r = ks at *
   rw [ck_unf w155_c0.eq_1]
   simp [eSe] at hno
   simp (disch := omega) [htot, hsl, hno, hdR, hh, zN, top_0, hlives, wI64, H.inl, inlB, H.pp, ppB]
 · have h0 : 0 < l.length := by omega
   have hst : 0 ≤ s ∧ s < top l l.length := by
    have h1 := hz.mono (i := 0) (j := l.length) (by omega) (Nat.le_refl _)
    rw [top_0] at h1
    have h2 : top l l.length = sm l := by unfold top; rw [List.take_of_length_le (by omega)]
    unfold mostS at hs0
    rw [← h2] at hs0
    split at hs0 <;> omega
   obtain ⟨k, O⟩ := atO_ok (kindsOf r) l hz s h0 hst.1 hst.2
   obtain ⟨o1, o2, o3, o4, o5, o6⟩ := O
   have p3 := o3 o1
   have p4 := o4 o1
   have p6 := o6 o1
   clear o3 o4 o5 o6
   have hat : FnW C 309 [.ro 4 ((secA (kindsOf r) l).map eSe) true, .int .i64 s] = some (.tup [.agg (eSe (secA (kindsOf r) l)[k]), .int .i64 0]) := by
    rcases hat_ok H.toHasA30 (secA (kindsOf r) l) true (by omega) s with ⟨q, _⟩ | ⟨k', hk, q1, q2⟩
    · rw [o2] at q; omega
    · have : k' = k := by rw [o2] at q1; omega
      subst this
      exact q2
   have hbd := hrA_bd' (kindsOf r) l s
   obtain ⟨X, hX⟩ : ∃ X, X = (secA (kindsOf r) l)[k] := ⟨_, rfl⟩
   rw [← hX] at hat p3 p4 p6
   clear hX
   unfold hdR at hsl
   generalize hQ : slQ s (hrA (kindsOf r) l s) (rowsP (kindsOf r) l a (b - a)) a = Q at *
   by_cases c : 0 ≤ hrA (kindsOf r) l s
   · obtain ⟨t, q1, q2, q3⟩ := p4 c
     have p6 := p6 c
     rw [if_pos c, decide_eq_true c] at hsl
     rw [q1] at hsl p3
     simp only [show ((t : Int)).toNat = t from rfl] at hsl
     rw [rowP_get q2] at hsl
     rw [← q3] at hsl
     generalize trP (kindsOf r) l[t] = T at *
     generalize secA (kindsOf r) l = S at *
     generalize kindsOf r = ks at *
     generalize top l l.length = M at *
     simp only [aL, aR] at hsl htot
     simp at hsl
     have e1 : X.h = (t : Int) := p3
     have e2 : ¬ (t : Int) < 0 := by omega
     by_cases d : X.p ≤ s
     · have e3 : imin 0 (X.p - 1 - s) = X.p - 1 - s := by unfold imin; split <;> omega
       rw [e3] at hsl
       rw [ck_unf w155_c0.eq_1]
       simp [eSe] at hat
       simp (disch := omega) [htot, hsl, hat, h0, e1, e2, q2, d, hlives, wI64, H.inl, inlB, H.pp, ppB]
     · have e3 : imin 0 (X.p - 1 - s) = 0 := by unfold imin; split <;> omega
       rw [e3] at hsl
       rw [ck_unf w155_c0.eq_1]
       simp [eSe] at hat
       simp (disch := omega) [htot, hsl, hat, h0, e1, e2, q2, d, hlives, wI64, H.inl, inlB, H.pp, ppB]
   · rw [if_neg c, decide_eq_false c] at hsl
     have e1 : hrA (kindsOf r) l s = -1 := by omega
     rw [e1] at p3
     generalize secA (kindsOf r) l = S at *
     generalize kindsOf r = ks at *
     generalize top l l.length = M at *
     simp only [aL, aR] at hsl htot
     simp [zN] at hsl
     rw [ck_unf w155_c0.eq_1]
     simp [eSe] at hat
     simp (disch := omega) [htot, hsl, hat, h0, p3, hlives, wI64, H.inl, inlB, H.pp, ppB]
theorem hs_loop (H : HasHs C) (hlives : FnW C 157 [] = some (.bool true)) {r : Int} {l : List En} (L : LG r l) (f : Bool) (s v : Int) (hp : Vp l s v) (h0 : 0 < l.length) : ∀ n i, n + i = (secA (kindsOf r) l).length → ∀ e : Int,
 (i < (secA (kindsOf r) l).length → ChS l (top l l.length) (decide (i = 0)) e ((secA (kindsOf r) l).drop i)) → (i = (secA (kindsOf r) l).length → e = top l l.length) →
 w155_K0 C ⟨[(12, .int .i64 i), (11, .int .i64 e), (9, .ro 4 ((secA (kindsOf r) l).map eSe) true), (8, .int .i64 v), (7, .int .i64 s), (6, .ptr 0 0 0), (5, .ptr 1 0 0)], [(0, .cells 1 [[.ro 6 (l.map eEn) f]] true true), (1, .cells 2 [[.ro 9 ((kindsOf r).map eKd) true, .int .i64 12]] true true)], 2⟩ = some (.bool true) := by
 have hl := L.hl
 have hz := L.z
 have hn := hz.n
 have hend := hs_end H hlives L f s v hp
 have htb := top_b hz l.length (Nat.le_refl _)
 have hsA := secA_len (kindsOf r) l
 intro n
 induction n with
 | zero =>
  intro i hi e _ he
  have h3 : ¬ i < (secA (kindsOf r) l).length := by omega
  rw [he (by omega)]
  generalize secA (kindsOf r) l = S at *
  generalize kindsOf r = ks at *
  try simp at hend
  simp only [w155_K0]; rw [ck_unf w155_B0.eq_1]
  simp (disch := omega) [h3, hend]
 | succ n ih =>
  intro i hi e hc _
  have h1 : i < (secA (kindsOf r) l).length := by omega
  have hc := hc h1
  have hcA := ch_secA (kindsOf r) l hz h0
  obtain ⟨_, kt, kf, _⟩ := ch_at l _ _ _ _ hcA i h1
  rw [drop_cons h1] at hc
  have hpl := place_end H.toHasS30 (kindsOf r) true 12 (ru_in r) l f L.en L.ck hz L.t h0 i h1
  have key : ∀ X : Se, X = (secA (kindsOf r) l)[i] → X.f = e → X.f < X.t → X.f < X.p → X.p ≤ X.t → 0 ≤ X.f → X.t ≤ 4611686018427387904 → ((i = 0 ∧ X.h = -1) ∨ (0 ≤ X.h ∧ X.h < l.length)) →
   (i + 1 < (secA (kindsOf r) l).length → 0 ≤ X.h → FnW C 150 [aR (kindsOf r) true 12, aL l f, .int .i64 (X.t - 1)] = some (.tup [.int .i64 (1 - szI l X.h), .int .i64 0])) →
   w155_K0 C ⟨[(12, .int .i64 ((i : Int) + 1)), (11, .int .i64 X.t), (9, .ro 4 ((secA (kindsOf r) l).map eSe) true), (8, .int .i64 v), (7, .int .i64 s), (6, .ptr 0 0 0), (5, .ptr 1 0 0)], [(0, .cells 1 [[.ro 6 (l.map eEn) f]] true true), (1, .cells 2 [[.ro 9 ((kindsOf r).map eKd) true, .int .i64 12]] true true)], 2⟩ = some (.bool true) →
   w155_K0 C ⟨[(12, .int .i64 i), (11, .int .i64 e), (9, .ro 4 ((secA (kindsOf r) l).map eSe) true), (8, .int .i64 v), (7, .int .i64 s), (6, .ptr 0 0 0), (5, .ptr 1 0 0)], [(0, .cells 1 [[.ro 6 (l.map eEn) f]] true true), (1, .cells 2 [[.ro 9 ((kindsOf r).map eKd) true, .int .i64 12]] true true)], 2⟩ = some (.bool true) := by
   intro X hX e1 e2 e3 e4 e5 e6 e7 e8 this
   have hget : (secA (kindsOf r) l)[i] = X := hX.symm
   have n1 : ¬ X.t ≤ X.f := by omega
   have n2 : ¬ X.p ≤ X.f := by omega
   have n3 : ¬ X.t < X.p := by omega
   clear hpl hc hcA kt kf hX ih hend
   subst e1
   simp only [w155_K0] at this ⊢
   generalize secA (kindsOf r) l = S at *
   generalize kindsOf r = ks at *
   rw [ck_unf w155_B0.eq_1]
   try simp at this
   rcases e7 with ⟨rfl, hh⟩ | ⟨hh1, hh2⟩
   · have m1 : ¬ (0 : Int) ≤ -1 := by omega
     simp at this
     simp (disch := omega) [h1, hget, eSe, n1, n2, n3, hh, wI64, H.inl, inlB, H.pp, ppB, this]
   · obtain ⟨t, hT⟩ : ∃ t : Nat, X.h = t := ⟨X.h.toNat, by omega⟩
     have htl : t < l.length := by omega
     have hsz := szI_get (l := l) htl
     have hsb := hz.s _ (List.getElem_mem htl)
     have m1 : ¬ (t : Int) < 0 := by omega
     have m2 : ¬ (t : Int) = -1 := by omega
     by_cases g : i + 1 < S.length
     · have e8 := e8 g hh1
       rw [hT, hsz] at e8
       simp only [aL, aR] at e8
       have g2 : (i : Int) + 1 < S.length := by omega
       simp (disch := omega) [h1, hget, eSe, n1, n2, n3, hT, htl, m1, m2, g, g2, e8, wI64, H.inl, inlB, H.pp, ppB, this]
     · have g2 : ¬ (i : Int) + 1 < S.length := by omega
       simp (disch := omega) [h1, hget, eSe, n1, n2, n3, hT, htl, m1, m2, g, g2, wI64, H.inl, inlB, H.pp, ppB, this]
  have hpl2 := hpl
  cases hd : (secA (kindsOf r) l).drop (i + 1) with
  | nil =>
   have hlast : i + 1 = (secA (kindsOf r) l).length := by
    have := congrArg List.length hd
    simp only [List.length_drop, List.length_nil] at this; omega
   rw [hd] at hc
   obtain ⟨c1, c2, c3, c4, c5⟩ := hc
   have c0 : 0 ≤ (secA (kindsOf r) l)[i].f := by
    obtain ⟨q, _⟩ := ch_at l _ _ _ _ hcA i h1; exact q
   refine key _ rfl c1 (by omega) (by omega) (by omega) c0 (by omega) ?_ (fun q => by omega) (ih (i + 1) (by omega) _ (fun q => by omega) (fun _ => c3))
   rcases c5 with ⟨q1, q2⟩ | q
   · exact .inl ⟨by simpa using q1, q2⟩
   · exact .inr q
  | cons y rr =>
   rw [hd] at hc
   obtain ⟨c1, c2, c3, c4, c5⟩ := hc
   have c0 : 0 ≤ (secA (kindsOf r) l)[i].f := by
    obtain ⟨q, _⟩ := ch_at l _ _ _ _ hcA i h1; exact q
   have cnext : ∀ q : i + 1 < (secA (kindsOf r) l).length, ChS l (top l l.length) (decide (i + 1 = 0)) (secA (kindsOf r) l)[i].t ((secA (kindsOf r) l).drop (i + 1)) := by
    intro _
    rw [hd]
    have : decide (i + 1 = 0) = false := by simp
    rw [this]; exact c5
   have hlen : i + 1 ≠ (secA (kindsOf r) l).length := by
    intro q
    have := congrArg List.length hd
    simp only [List.length_drop, List.length_cons] at this; omega
   rcases c4 with ⟨q1, q2, q3⟩ | ⟨q1, q2, q3, q4, q5⟩
   · exact key _ rfl c1 (by omega) (by omega) (by omega) c0 (by omega) (.inl ⟨by simpa using q1, q2⟩) (fun _ g => by omega) (ih (i + 1) (by omega) _ cnext (fun q => absurd q hlen))
   · exact key _ rfl c1 (by omega) (by omega) (by omega) c0 (by omega) (.inr ⟨q1, q2⟩) (fun _ g => hpl q1 q5 q4) (ih (i + 1) (by omega) _ cnext (fun q => absurd q hlen))
theorem hslaw_ok (H : HasHs C) (hone : ∀ q : Q4, QIn q → ∃ i : It, FnW C 422 [.agg (eQ q)] = some (eIt i) ∧ Good i) (hlives : FnW C 157 [] = some (.bool true))
 (q : List Q4) (qe : Bool) (hq : ∀ x ∈ q, QIn x) (z : List Int) (ze : Bool) (hz : ∀ s ∈ z, 0 ≤ s ∧ s ≤ 255) (hzl : z.length < 9223372036854775808) (r : Int) (hr : 0 ≤ r ∧ r ≤ 255)
 (y w : Int) (hy : 0 ≤ y ∧ y ≤ 255) (hw : 0 ≤ w ∧ w ≤ 65535) :
 FnW C 155 [.agg [.ro 4 (q.map eQ) qe, .ro 1 (z.map eU8) ze, .int .u8 r], .agg [.int .u8 y, .int .u16 w]] = some (.bool true) := by
 obtain ⟨l, f, hof, hl, hg, hn⟩ := lof_ok H.toHasG hone q qe hq z ze hz hzl r hr
 have L : LG r l := LG.of_good hr hl hg hn
 obtain ⟨s, v, hwo, hp⟩ := wof_ok H.toHasAt l f L.z y w hy hw
 have h1 := sections_ok H.toHasS30 (kindsOf r) true 12 (ru_in r) l f (by omega) L.en (fun _ => ⟨L.z, L.t⟩)
 unfold secE at h1
 rw [if_pos L.ck, L.ck] at h1
 rw [fnW_eq H.f155 rfl]
 by_cases n0 : l.length = 0
 · have hnil : l = [] := List.eq_nil_of_length_eq_zero n0
   subst hnil
   have k := hs_end H hlives L f s v hp
   have hA : secA (kindsOf r) [] = [] := rfl
   have ht0 : top ([] : List En) ([] : List En).length = 0 := rfl
   rw [ht0, hA] at k
   rw [hA] at h1
   generalize kindsOf r = ks at *
   simp [aL, aR] at hof hwo h1 k
   simp (disch := omega) [w155, ck_unf w155_B0.eq_1, hof, hwo, h1, k, wI64, H.inl, inlB, H.pp, ppB]
 · have h0 : 0 < l.length := by omega
   have hc := ch_secA (kindsOf r) l L.z h0
   have k := hs_loop H hlives L f s v hp h0 (secA (kindsOf r) l).length 0 (by simp) 0 (fun _ => by simpa using hc) (fun q => by
    have := ch_secA (kindsOf r) l L.z h0
    have hnil : secA (kindsOf r) l = [] := List.eq_nil_of_length_eq_zero q.symm
    rw [hnil] at this
    exact this.elim)
   simp only [w155_K0] at k
   generalize secA (kindsOf r) l = S at *
   generalize kindsOf r = ks at *
   try simp at k
   simp only [aL, aR] at hof hwo h1
   simp (disch := omega) [w155, hof, hwo, h1, k, wI64, H.inl, inlB, H.pp, ppB]
end Go.D
end
