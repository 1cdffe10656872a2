/- Part of the theory that the claims of this work use: E32, E33, H02, H03, H04, H05, H06, H07, H09, H10, H11, E34, E35, E36, E37, E38, E39, H12. No conditions of its own. -/
import Derived.Test.YtfombghmbbfpaaaGreatT6
section
set_option linter.unusedSimpArgs false
set_option linter.unusedVariables false
namespace Go.D
open Go Go.Pav Go.Pw P
set_option maxRecDepth 10000
set_option maxHeartbeats 4000000
set_option linter.unusedSimpArgs false
set_option linter.unusedVariables false
attribute [-simp] List.getElem_cons_drop
variable {C : WProg}
theorem hrA_bd' (ks : List Kd) (l : List En) (s : Int) : -1 ≤ hrA ks l s ∧ hrA ks l s < l.length := hrF_bd ks l s l.length 0 (-1) (by simp) (by omega)
end Go.D
end
section
set_option linter.unusedSimpArgs false
set_option linter.unusedVariables false
namespace Go.D
open Go Go.Pav Go.Pw P
set_option maxRecDepth 10000
set_option maxHeartbeats 4000000
set_option linter.unusedSimpArgs false
set_option linter.unusedVariables false
attribute [-simp] List.getElem_cons_drop
variable {C : WProg}
end Go.D
end
section
set_option linter.unusedSimpArgs false
set_option linter.unusedVariables false
namespace Go.D
open Go Go.Pav Go.Pw P
set_option maxRecDepth 10000
set_option maxHeartbeats 4000000
set_option linter.unusedSimpArgs false
set_option linter.unusedVariables false
attribute [-simp] List.getElem_cons_drop
variable {C : WProg}
structure HasH30 (C : WProg) : Prop extends HasWo C, HasA30 C where
 f305 : C.fns.get 305 = some w305
 f448 : C.fns.get 448 = some w448
 f308 : C.fns.get 308 = some w308
 f306 : C.fns.get 306 = some w306
def hdI (ks : List Kd) : List En → Nat → List Int
 | [], _ => []
 | x :: r, i => if (kdAt ks x.i.t).st = true then (i : Int) :: hdI ks r (i + 1) else hdI ks r (i + 1)
theorem hdI_mem (ks : List Kd) : ∀ (l : List En) (i : Nat) (x : Int), x ∈ hdI ks l i ↔ ∃ k : Nat, x = ((i + k : Nat) : Int) ∧ ∃ h : k < l.length, (kdAt ks l[k].i.t).st = true := by
 intro l
 induction l with
 | nil => intro i x; simp [hdI]
 | cons y r ih =>
  intro i x
  have key : (x ∈ hdI ks (y :: r) i) ↔ ((kdAt ks y.i.t).st = true ∧ x = i) ∨ x ∈ hdI ks r (i + 1) := by
   rw [hdI]
   by_cases c : (kdAt ks y.i.t).st = true
   · rw [if_pos c]; simp [c]
   · rw [if_neg c]; simp [c]
  rw [key, ih (i + 1) x]
  constructor
  · rintro (⟨q1, q2⟩ | ⟨k, q1, q2, q3⟩)
    · exact ⟨0, by simpa using q2, by simp, by simpa using q1⟩
    · exact ⟨k + 1, by rw [q1]; congr 1; omega, by simpa using q2, by simpa using q3⟩
  · rintro ⟨k, q1, q2, q3⟩
    cases k with
    | zero => exact .inl ⟨by simpa using q3, by simpa using q1⟩
    | succ k => exact .inr ⟨k, by rw [q1]; congr 1; omega, by simpa using q2, by simpa using q3⟩
theorem hdI_ris (ks : List Kd) : ∀ (l : List En) (i : Nat) (p : Int), p < i → risB p (hdI ks l i) = true := by
 intro l
 induction l with
 | nil => intro i p _; rfl
 | cons y r ih =>
  intro i p hp
  rw [hdI]
  split
  · rw [risB, ih (i + 1) i (by omega)]; simp [hp]
  · exact ih (i + 1) p (by omega)
theorem hdI_len (ks : List Kd) : ∀ (l : List En) (i : Nat), (hdI ks l i).length ≤ l.length := by
 intro l
 induction l with
 | nil => intro i; simp [hdI]
 | cons y r ih =>
  intro i
  have := ih (i + 1)
  rw [hdI]
  split <;> simp only [List.length_cons] <;> omega
theorem ex448_ok (H : HasH30 C) (a : List Int) (e : Bool) (hl : a.length ≤ 1000000) : FnW C 448 [.ro 1 (a.map eI) e] = some (.ro 1 (a.map eI) true) := by
 rw [fnW_eq H.f448 rfl]
 by_cases c : a = []
 · subst c; simp [w448]
 · have h2 : a.length * 9 ≤ 35184372088832 := by omega
   have h3 : ¬ a.length = 0 := fun q => c (List.eq_nil_of_length_eq_zero q)
   have h4 : List.take a.length (a.map eI) = a.map eI := List.take_of_length_le (by simp)
   simp (disch := omega) [w448, c, h2, h3, h4]
theorem ex306_ok (H : HasH30 C) (a : List Se) (e : Bool) (hl : a.length ≤ 1000000) : FnW C 306 [.ro 4 (a.map eSe) e] = some (.ro 4 (a.map eSe) true) := by
 rw [fnW_eq H.f306 rfl]
 by_cases c : a = []
 · subst c; simp [w306]
 · have h2 : a.length * 33 ≤ 35184372088832 := by omega
   have h3 : ¬ a.length = 0 := fun q => c (List.eq_nil_of_length_eq_zero q)
   have h4 : List.take a.length (a.map eSe) = a.map eSe := List.take_of_length_le (by simp)
   simp (disch := omega) [w306, c, h2, h3, h4]
theorem hdr_loop (H : HasH30 C) (ks : List Kd) (ke : Bool) (cap : Int) (l : List En) (e : Bool) (hl : l.length ≤ 1024) (ht : ∀ x ∈ l, 0 ≤ x.i.t ∧ x.i.t < ks.length) : ∀ n i, n + i = l.length → ∀ G : List Int, G.length ≤ i →
 w305_K0 C ⟨[(19, .int .i64 i), (18, .int .i64 l.length), (17, .ro 6 (l.map eEn) e), (7, .sl 0 1 0 G.length G.length false), (2, .ptr 1 0 0)], [(0, .cells 1 (G.map eI) true true), (1, .cells 2 [[.ro 9 (ks.map eKd) ke, .int .i64 cap]] true true)], 2⟩ = some (.tup [.ro 1 ((G ++ hdI ks (l.drop i) i).map eI) true, .int .i64 0]) := by
 intro n
 induction n with
 | zero =>
  intro i hi G hG
  have h3 : ¬ i < l.length := by omega
  have h1 : l.drop i = [] := List.drop_eq_nil_of_le (by omega)
  have h4 : List.take G.length (G.map eI) = G.map eI := List.take_of_length_le (by simp)
  have hx := ex448_ok H G false (by omega)
  rw [h1, hdI, List.append_nil]
  simp only [w305_K0]; rw [ck_unf w305_B0.eq_1]
  simp (disch := omega) [ck_unf w305_c0.eq_1, h3, h4, hx, H.inl, inlB, H.pp, ppB]
 | succ n ih =>
  intro i hi G hG
  have h1 : i < l.length := by omega
  have hx := ht _ (List.getElem_mem h1)
  obtain ⟨t, hT⟩ : ∃ t : Nat, l[i].i.t = t := ⟨l[i].i.t.toNat, by omega⟩
  have h4 : t < ks.length := by omega
  have hfit : (G.length + 1) * 9 ≤ 35184372088832 := by omega
  rw [drop_cons h1, hdI]
  simp only [hT, kdAt_get h4]
  cases c : ks[t].st
  · rw [if_neg (by simp)]
    have this := ih (i + 1) (by omega) G (by omega)
    generalize hdI ks (l.drop (i + 1)) (i + 1) = R at *
    simp only [w305_K0] at this ⊢; rw [ck_unf w305_B0.eq_1]
    simp at this
    simp (disch := omega) [h1, hT, h4, c, wI64, H.inl, inlB, H.pp, ppB, this]
  · rw [if_pos rfl]
    have this := ih (i + 1) (by omega) (G ++ [(i : Int)]) (by simp; omega)
    rw [show G ++ (i : Int) :: hdI ks (l.drop (i + 1)) (i + 1) = (G ++ [(i : Int)]) ++ hdI ks (l.drop (i + 1)) (i + 1) by simp]
    generalize (G ++ [(i : Int)]) ++ hdI ks (l.drop (i + 1)) (i + 1) = R at *
    simp only [w305_K0] at this ⊢; rw [ck_unf w305_B0.eq_1]
    simp at this
    simp (disch := omega) [h1, hT, h4, c, hfit, wI64, H.inl, inlB, H.pp, ppB, this]
theorem headers_ok (H : HasH30 C) (ks : List Kd) (ke : Bool) (cap : Int) (hr : RuIn ks) (l : List En) (e : Bool) (hl : l.length ≤ 1024) (hs : ∀ x ∈ l, EnIn x) (ht : ckE ks cap l = 0 → ∀ x ∈ l, 0 ≤ x.i.t ∧ x.i.t < ks.length) :
 FnW C 305 [aR ks ke cap, aL l e] = some (.tup [.ro 1 ((if ckE ks cap l = 0 then hdI ks l 0 else []).map eI) true, .int .i64 (ckE ks cap l)]) := by
 have h1 := lcheck_ok H.toHasK ks ke cap hr l e (by omega) hs
 rw [fnW_eq H.f305 rfl]
 by_cases c : ckE ks cap l = 0
 · have k := hdr_loop H ks ke cap l e hl (ht c) l.length 0 (by simp) [] (by simp)
   rw [List.drop_zero, List.nil_append] at k
   rw [c] at h1
   rw [if_pos c, c]
   generalize hdI ks l 0 = R at *
   simp only [w305_K0] at k
   try simp at k
   simp (disch := omega) [w305, h1, k, H.inl, inlB, H.pp, ppB]
 · rw [if_neg c]
   generalize ckE ks cap l = B at *
   simp (disch := omega) [w305, h1, c, H.inl, inlB, H.pp, ppB]
theorem rhdr_loop (H : HasH30 C) (ks : List Kd) (ke : Bool) (cap : Int) (l : List En) (e : Bool) (hl : l.length ≤ 1024) (ht : ∀ x ∈ l, 0 ≤ x.i.t ∧ x.i.t < ks.length) : ∀ n i, n + i = l.length → ∀ G : List Int, G.length ≤ i →
 w308_K0 C ⟨[(6, .int .i64 i), (5, .sl 0 1 0 G.length G.length false), (2, .ptr 1 0 0), (1, .ro 6 (l.map eEn) e)], [(0, .cells 1 (G.map eI) true true), (1, .cells 2 [[.ro 9 (ks.map eKd) ke, .int .i64 cap]] true true)], 2⟩ = some (.ro 1 ((G ++ hdI ks (l.drop i) i).map eI) false) := by
 intro n
 induction n with
 | zero =>
  intro i hi G hG
  have h3 : ¬ i < l.length := by omega
  have h1 : l.drop i = [] := List.drop_eq_nil_of_le (by omega)
  have h4 : List.take G.length (G.map eI) = G.map eI := List.take_of_length_le (by simp)
  rw [h1, hdI, List.append_nil]
  simp only [w308_K0]; rw [ck_unf w308_B0.eq_1]
  simp (disch := omega) [ck_unf w308_c0.eq_1, h3, h4, H.inl, inlB, H.pp, ppB]
 | succ n ih =>
  intro i hi G hG
  have h1 : i < l.length := by omega
  have hx := ht _ (List.getElem_mem h1)
  have hfit : (G.length + 1) * 9 ≤ 35184372088832 := by omega
  have hst := sticky_ok H.toHasHd ks ke cap l[i] hx
  simp only [aR, eEn] at hst
  rw [drop_cons h1, hdI]
  cases c : (kdAt ks l[i].i.t).st
  · rw [if_neg (by simp)]
    rw [c] at hst
    have this := ih (i + 1) (by omega) G (by omega)
    generalize hdI ks (l.drop (i + 1)) (i + 1) = R at *
    simp only [w308_K0] at this ⊢; rw [ck_unf w308_B0.eq_1]
    simp at this
    simp (disch := omega) [h1, hst, wI64, H.inl, inlB, H.pp, ppB, this]
  · rw [if_pos rfl]
    rw [c] at hst
    have this := ih (i + 1) (by omega) (G ++ [(i : Int)]) (by simp; omega)
    rw [show G ++ (i : Int) :: hdI ks (l.drop (i + 1)) (i + 1) = (G ++ [(i : Int)]) ++ hdI ks (l.drop (i + 1)) (i + 1) by simp]
    generalize (G ++ [(i : Int)]) ++ hdI ks (l.drop (i + 1)) (i + 1) = R at *
    simp only [w308_K0] at this ⊢; rw [ck_unf w308_B0.eq_1]
    simp at this
    simp (disch := omega) [h1, hst, hfit, wI64, H.inl, inlB, H.pp, ppB, this]
theorem rheaders_ok (H : HasH30 C) (ks : List Kd) (ke : Bool) (cap : Int) (l : List En) (e : Bool) (hl : l.length ≤ 1024) (ht : ∀ x ∈ l, 0 ≤ x.i.t ∧ x.i.t < ks.length) :
 FnW C 308 [aR ks ke cap, .ro 6 (l.map eEn) e] = some (.ro 1 ((hdI ks l 0).map eI) false) := by
 have k := rhdr_loop H ks ke cap l e hl ht l.length 0 (by simp) [] (by simp)
 rw [List.drop_zero, List.nil_append] at k
 generalize hdI ks l 0 = R at *
 rw [fnW_eq H.f308 rfl]
 simp only [w308_K0] at k
 try simp at k
 simp (disch := omega) [w308, k, H.inl, inlB, H.pp, ppB]
end Go.D
end
section
set_option linter.unusedSimpArgs false
set_option linter.unusedVariables false
namespace Go.D
open Go Go.Pav Go.Pw P
set_option maxRecDepth 10000
set_option maxHeartbeats 4000000
set_option linter.unusedSimpArgs false
set_option linter.unusedVariables false
attribute [-simp] List.getElem_cons_drop
variable {C : WProg}
structure HasS30 (C : WProg) : Prop extends HasH30 C where
 f307 : C.fns.get 307 = some w307
 f449 : C.fns.get 449 = some w449
 f152 : C.fns.get 152 = some w152
 f303 : C.fns.get 303 = some w303
 f148 : C.fns.get 148 = some w148
 f310 : C.fns.get 310 = some w310
 f150 : C.fns.get 150 = some w150
def secF (ks : List Kd) (l : List En) (tot : Int) : Nat → Nat → Int → Int → List Se
 | 0, _, h, f => [⟨h, f, tot, tot⟩]
 | n + 1, i, h, f => if stk ks l i = true then ⟨h, f, top l i, if 0 ≤ h then top l i - szI l h + 1 else top l i⟩ :: secF ks l tot n (i + 1) i (top l i) else secF ks l tot n (i + 1) h f
def secA (ks : List Kd) (l : List En) : List Se :=
 if l.length = 0 then [] else secF ks l (top l l.length) (l.length - 1) 1 (if stk ks l 0 = true then 0 else -1) 0
theorem se_get (A : List Se) (c : List AV) : (List.map eSe A ++ [c])[A.length]? = some c := by
 rw [List.getElem?_append_right (by simp)]; simp
theorem se_set (A : List Se) (c d : List AV) : (List.map eSe A ++ [c]).set A.length d = List.map eSe A ++ [d] := by
 rw [List.set_append, if_neg (by simp)]; simp
theorem stk_mem (ks : List Kd) (l : List En) (i : Nat) (h : i < l.length) : ((i : Int) ∈ hdI ks l 0) ↔ stk ks l i = true := by
 rw [hdI_mem, stk_get h]
 constructor
 · rintro ⟨k, q1, q2, q3⟩
   have : k = i := by omega
   subst this; exact q3
 · intro q; exact ⟨i, by simp, h, q⟩
theorem top_b {l : List En} (hz : Szd l) (i : Nat) (hi : i ≤ l.length) : 0 ≤ top l i ∧ top l i ≤ 4611686018427387904 := by
 have h1 := hz.mono (i := 0) (j := i) (by omega) hi
 have h2 := hz.mono (i := i) (j := l.length) hi (by omega)
 have h3 := hz.t
 have h4 : top l l.length = sm l := by unfold top; rw [List.take_of_length_le (by omega)]
 rw [top_0] at h1
 omega
theorem clos_ok (H : HasS30 C) (l : List En) (hz : Szd l) (A : List Se) (hA : A.length ≤ 1024) (h f : Int) :
 RnW C 449 [.ptr 0 0 0, .ptr 2 0 0] [(0, .cells 1 [[.sl 1 4 0 (A.length + 1) (A.length + 1) false]] true false), (1, .cells 4 (A.map eSe ++ [eSe ⟨h, f, 0, 0⟩]) true true), (2, .cells 1 [[.ro 1 ((tps l).map eI) true]] true true)] 4 =
  some (.tup [], [(0, .cells 1 [[.sl 1 4 0 (A.length + 1) (A.length + 1) false]] true false), (1, .cells 4 (A.map eSe ++ [eSe ⟨h, f, top l l.length, top l l.length⟩]) true true), (2, .cells 1 [[.ro 1 ((tps l).map eI) true]] true true)], 25) := by
 have hn := hz.n
 have hg := se_get A
 have hs := se_set A
 have h5 : l.length < (tps l).length := by rw [tps_len]; omega
 have h6 := tps_get l h5
 have h8 : (tps l).length = l.length + 1 := tps_len l
 rw [rnW_eq (args := [.ptr 0 0 0, .ptr 2 0 0]) H.f449 rfl]
 simp only [eSe]
 simp (disch := omega) [w449, hg, hs, h6, h8, wI64, H.inl, inlB, H.pp, ppB]
theorem sec_loop (H : HasS30 C) (ks : List Kd) (l : List En) (e : Bool) (hz : Szd l) : ∀ n i, n + i = l.length → ∀ (A : List Se) (h f : Int), A.length ≤ i → (h < 0 ∨ (0 ≤ h ∧ h < l.length)) →
 w307_K0 C ⟨[(21, .int .i64 i), (20, .int .i64 l.length), (17, .fn 449 [.ptr 0 0 0, .ptr 2 0 0]), (5, .ptr 2 0 0), (4, .ptr 0 0 0), (2, .rop [.ro 6 (l.map eEn) e]), (1, .ro 1 ((hdI ks l 0).map eI) true)],
  [(0, .cells 1 [[.sl 1 4 0 (A.length + 1) (A.length + 1) false]] true false), (1, .cells 4 (A.map eSe ++ [eSe ⟨h, f, 0, 0⟩]) true true), (2, .cells 1 [[.ro 1 ((tps l).map eI) true]] true true)], 3⟩ = some (.ro 4 ((A ++ secF ks l (top l l.length) n i h f).map eSe) false) := by
 have hn := hz.n
 intro n
 induction n with
 | zero =>
  intro i hi A h f hA hh
  have h3 : ¬ i < l.length := by omega
  have hg := se_get A
  have hs := se_set A
  have h5 : l.length < (tps l).length := by rw [tps_len]; omega
  have h6 := tps_get l h5
  have h7 : List.take (A.length + 1) (A.map eSe ++ [eSe ⟨h, f, top l l.length, top l l.length⟩]) = A.map eSe ++ [eSe ⟨h, f, top l l.length, top l l.length⟩] := List.take_of_length_le (by simp)
  have h8 : (tps l).length = l.length + 1 := tps_len l
  rw [secF]
  simp only [eSe] at h7 ⊢
  simp only [w307_K0]; rw [ck_unf w307_B0.eq_1]
  have hcl := clos_ok H l hz A (by omega) h f
  simp only [eSe] at hcl
  simp (disch := omega) [ck_unf w307_c0.eq_1, hcl, h3, h7, eSe, wI64, H.inl, inlB, H.pp, ppB]
 | succ n ih =>
  intro i hi A h f hA hh
  have h1 : i < l.length := by omega
  obtain ⟨r, hb⟩ := bs_ok H.toHasWn (hdI ks l 0) true i (by have := hdI_len ks l 0; omega) (hdI_ris ks l 0 (-1) (by omega))
  have hdec : decide ((i : Int) ∈ hdI ks l 0) = stk ks l i := by
   have := stk_mem ks l i h1
   cases c : stk ks l i
   · rw [c] at this; simpa using this
   · rw [c] at this; simpa using this
  rw [hdec] at hb
  have hg := se_get A
  have hs := se_set A
  have h5 : i < (tps l).length := by rw [tps_len]; omega
  have h6 := tps_get l h5
  have hfit : (A.length + 1 + 1) * 33 ≤ 35184372088832 := by omega
  have htb := top_b hz i (by omega)
  rw [secF]
  cases c : stk ks l i
  · rw [if_neg (by simp)]
    rw [c] at hb
    have this := ih (i + 1) (by omega) A h f (by omega) hh
    generalize A ++ secF ks l (top l l.length) n (i + 1) h f = R at *
    simp only [eSe] at this ⊢
    simp only [w307_K0] at this ⊢; rw [ck_unf w307_B0.eq_1]
    simp at this
    simp (disch := omega) [h1, hb, wI64, H.inl, inlB, H.pp, ppB, this]
  · rw [if_pos rfl]
    rw [c] at hb
    by_cases d : 0 ≤ h
    · rw [if_pos d]
      obtain ⟨t, rfl⟩ : ∃ t : Nat, h = t := ⟨h.toNat, by omega⟩
      have htl : t < l.length := by omega
      have hst := hz.s _ (List.getElem_mem htl)
      have hsz := szI_get (l := l) htl
      have this := ih (i + 1) (by omega) (A ++ [⟨t, f, top l i, top l i - szI l t + 1⟩]) i (top l i) (by simp; omega) (.inr ⟨by omega, by omega⟩)
      rw [show A ++ (⟨t, f, top l i, top l i - szI l t + 1⟩ : Se) :: secF ks l (top l l.length) n (i + 1) i (top l i) = (A ++ [⟨t, f, top l i, top l i - szI l t + 1⟩]) ++ secF ks l (top l l.length) n (i + 1) i (top l i) by simp]
      generalize (A ++ [(⟨t, f, top l i, top l i - szI l t + 1⟩ : Se)]) ++ secF ks l (top l l.length) n (i + 1) i (top l i) = R at *
      rw [hsz] at this
      simp only [eSe] at this ⊢
      simp only [w307_K0] at this ⊢; rw [ck_unf w307_B0.eq_1]
      simp [eSe] at this
      simp (disch := omega) [h1, hb, hg, hs, h5, h6, htl, hfit, wI64, H.inl, inlB, H.pp, ppB, this]
    · rw [if_neg d]
      have this := ih (i + 1) (by omega) (A ++ [⟨h, f, top l i, top l i⟩]) i (top l i) (by simp; omega) (.inr ⟨by omega, by omega⟩)
      rw [show A ++ (⟨h, f, top l i, top l i⟩ : Se) :: secF ks l (top l l.length) n (i + 1) i (top l i) = (A ++ [⟨h, f, top l i, top l i⟩]) ++ secF ks l (top l l.length) n (i + 1) i (top l i) by simp]
      generalize (A ++ [(⟨h, f, top l i, top l i⟩ : Se)]) ++ secF ks l (top l l.length) n (i + 1) i (top l i) = R at *
      simp only [eSe] at this ⊢
      simp only [w307_K0] at this ⊢; rw [ck_unf w307_B0.eq_1]
      simp [eSe] at this
      simp (disch := omega) [h1, hb, hg, hs, h5, h6, d, hfit, wI64, H.inl, inlB, H.pp, ppB, this]
end Go.D
end
section
set_option linter.unusedSimpArgs false
set_option linter.unusedVariables false
namespace Go.D
open Go Go.Pav Go.Pw P
set_option maxRecDepth 10000
set_option maxHeartbeats 4000000
set_option linter.unusedSimpArgs false
set_option linter.unusedVariables false
attribute [-simp] List.getElem_cons_drop
variable {C : WProg}
structure HasR30 (C : WProg) : Prop extends HasS30 C where
 f154 : C.fns.get 154 = some w154
def fillS (l : List En) (tot : Int) : List (Int × Int) → List Se
 | [] => []
 | [(h, f)] => [⟨h, f, tot, tot⟩]
 | (h, f) :: (h2, f2) :: r => ⟨h, f, f2, if 0 ≤ h then f2 - szI l h + 1 else f2⟩ :: fillS l tot ((h2, f2) :: r)
def hdP (l : List En) (a : List Int) : List (Int × Int) := a.map fun x => (x, top l x.toNat)
theorem fill_sec (ks : List Kd) (l : List En) : ∀ n i, n + i = l.length → ∀ h f, fillS l (top l l.length) ((h, f) :: hdP l (hdI ks (l.drop i) i)) = secF ks l (top l l.length) n i h f := by
 intro n
 induction n with
 | zero =>
  intro i hi h f
  have h1 : l.drop i = [] := List.drop_eq_nil_of_le (by omega)
  rw [h1, secF]; rfl
 | succ n ih =>
  intro i hi h f
  have h1 : i < l.length := by omega
  rw [drop_cons h1, hdI, secF, stk_get h1]
  by_cases c : (kdAt ks l[i].i.t).st = true
  · rw [if_pos c, if_pos c]
    have := ih (i + 1) (by omega) i (top l i)
    unfold hdP at this ⊢
    rw [List.map_cons, show ((i : Int)).toNat = i from rfl, fillS, this]
  · rw [if_neg c, if_neg c]
    exact ih (i + 1) (by omega) h f
def hdQ (ks : List Kd) (l : List En) : List (Int × Int) := (if stk ks l 0 = true then [] else [(-1, 0)]) ++ hdP l (hdI ks l 0)
theorem hdQ_sec (ks : List Kd) (l : List En) (hl : 0 < l.length) : fillS l (top l l.length) (hdQ ks l) = secA ks l := by
 unfold secA hdQ
 rw [if_neg (show ¬ l.length = 0 by omega)]
 have key := fill_sec ks l (l.length - 1) 1 (by omega)
 have h0 : l = l[0] :: l.drop 1 := by
  have := drop_cons hl
  simpa using this
 have h1 : hdI ks l 0 = if stk ks l 0 = true then (0 : Int) :: hdI ks (l.drop 1) 1 else hdI ks (l.drop 1) 1 := by
  rw [stk_get hl]
  conv => lhs; rw [h0]
  rw [hdI]; rfl
 rw [h1]
 by_cases c : stk ks l 0 = true
 · rw [if_pos c, if_pos c, if_pos c, List.nil_append]
   exact key 0 0
 · rw [if_neg c, if_neg c, if_neg c, List.singleton_append]
   exact key (-1) 0
def opS (q : List (Int × Int)) : List Se := q.map fun x => ⟨x.1, x.2, 0, 0⟩
theorem rs_heads (H : HasR30 C) (ks : List Kd) (l : List En) (e : Bool) (hz : Szd l) (R : AV) (hnext : ∀ B : List (Int × Int), B = hdQ ks l → CK C 0 (pureFin [.tmp 4]) [] w154_c1 ⟨[(6, .sl 0 4 0 B.length B.length false), (1, .ro 6 (l.map eEn) e)], [(0, .cells 4 ((opS B).map eSe) true true)], 1⟩ = some R) :
 ∀ n i, n + i = (hdI ks l 0).length → ∀ Q : List (Int × Int), Q.length ≤ i + 1 → Q ++ hdP l ((hdI ks l 0).drop i) = hdQ ks l →
 w154_K1 C ⟨[(7, .int .i64 i), (6, .sl 0 4 0 Q.length Q.length false), (5, .ro 1 ((hdI ks l 0).map eI) false), (1, .ro 6 (l.map eEn) e)], [(0, .cells 4 ((opS Q).map eSe) true true)], 1⟩ = some R := by
 have hn := hz.n
 have hll := hdI_len ks l 0
 intro n
 induction n with
 | zero =>
  intro i hi Q hQ hq
  have h3 : ¬ i < (hdI ks l 0).length := by omega
  have h1 : (hdI ks l 0).drop i = [] := List.drop_eq_nil_of_le (by omega)
  rw [h1] at hq
  have hnext := hnext Q (by simpa [hdP] using hq)
  try simp at hnext
  simp only [w154_K1]; rw [ck_unf w154_B1.eq_1]
  simp (disch := omega) [h3, hnext]
 | succ n ih =>
  intro i hi Q hQ hq
  have h1 : i < (hdI ks l 0).length := by omega
  have hm := (hdI_mem ks l 0 (hdI ks l 0)[i]).1 (List.getElem_mem h1)
  obtain ⟨t, hT, htl, _⟩ := hm
  rw [Nat.zero_add] at hT
  have htop := rtop_ok H.toHasSz l e hz t (by omega)
  have hfit : (Q.length + 1) * 33 ≤ 35184372088832 := by omega
  rw [drop_cons h1] at hq
  have this := ih (i + 1) (by omega) (Q ++ [((t : Int), top l t)]) (by simp; omega) (by
   rw [← hq]; unfold hdP; rw [List.map_cons, hT]; simp)
  simp only [w154_K1] at this ⊢; rw [ck_unf w154_B1.eq_1]
  simp [opS, eSe] at this
  simp (disch := omega) [h1, hT, htop, hfit, opS, eSe, wI64, H.inl, inlB, H.pp, ppB, this]
theorem rs_fill (H : HasR30 C) (ks : List Kd) (l : List En) (e : Bool) (hz : Szd l) (N : Nat) (hN : N ≤ 1030) : ∀ (r : List (Int × Int)) (A : List Se), A.length + r.length = N → (∀ x ∈ r, x.1 < 0 ∨ (0 ≤ x.1 ∧ x.1 < l.length)) → (∀ x ∈ r, 0 ≤ x.2 ∧ x.2 ≤ 4611686018427387904) →
 w154_K0 C ⟨[(8, .int .i64 A.length), (6, .sl 0 4 0 N N false), (1, .ro 6 (l.map eEn) e)], [(0, .cells 4 (A.map eSe ++ (opS r).map eSe) true true)], 1⟩ = some (.ro 4 ((A ++ fillS l (top l l.length) r).map eSe) false) := by
 have hn := hz.n
 have htt := rtop_ok H.toHasSz l e hz l.length (Nat.le_refl _)
 intro r
 induction r with
 | nil =>
  intro A hA _ _
  have hA2 : A.length = N := by simpa using hA
  have h4 : List.take N (A.map eSe) = A.map eSe := List.take_of_length_le (by simp; omega)
  have h5 : ¬ A.length < N := by omega
  have h6 : N ≤ A.length := by omega
  simp only [fillS, opS, List.map_nil, List.append_nil]
  simp only [w154_K0]; rw [ck_unf w154_B0.eq_1]
  simp (disch := omega) [ck_unf w154_c0.eq_1, hA2, h4, h5, h6, H.inl, inlB, H.pp, ppB]
 | cons x r ih =>
  intro A hA hr hr2
  obtain ⟨h, f⟩ := x
  have hh := hr (h, f) (by simp)
  have g1 : ∀ (c : List AV) (d : List (List AV)), (List.map eSe A ++ c :: d)[A.length]? = some c := fun c d => by rw [List.getElem?_append_right (by simp)]; simp
  have g2 : ∀ (c d2 : List AV) (d : List (List AV)), (List.map eSe A ++ c :: d).set A.length d2 = List.map eSe A ++ d2 :: d := fun c d2 d => by rw [List.set_append, if_neg (by simp)]; simp
  have g3 : ∀ (c c2 : List AV) (d : List (List AV)), (List.map eSe A ++ c :: c2 :: d)[A.length + 1]? = some c2 := fun c c2 d => by rw [List.getElem?_append_right (by simp)]; simp
  simp only [List.length_cons] at hA
  have h1 : A.length < N := by omega
  have h1i : (A.length : Int) < N := by omega
  cases r with
  | nil =>
   have h2i : ¬ (A.length : Int) + 1 < N := by simp at hA; omega
   have this := ih (A ++ [⟨h, f, top l l.length, top l l.length⟩]) (by simp at hA ⊢; omega) (by simp) (by simp)
   simp [fillS, opS, eSe] at this ⊢
   simp only [w154_K0] at this ⊢; rw [ck_unf w154_B0.eq_1]
   simp (disch := omega) [h1, h1i, h2i, g1, g2, htt, wI64, H.inl, inlB, H.pp, ppB, this]
  | cons y r =>
   obtain ⟨h2, f2⟩ := y
   have hf2 := hr2 (h2, f2) (by simp)
   simp only [List.length_cons] at hA
   have h3 : A.length + 1 < N := by omega
   have h3i : (A.length : Int) + 1 < N := by omega
   by_cases d : 0 ≤ h
   · obtain ⟨t, rfl⟩ : ∃ t : Nat, h = t := ⟨h.toNat, by omega⟩
     have htl : t < l.length := by omega
     have hst := hz.s _ (List.getElem_mem htl)
     have hsz := szI_get (l := l) htl
     have this := ih (A ++ [⟨t, f, f2, f2 - szI l t + 1⟩]) (by simp; omega) (fun x hx => hr x (List.mem_cons_of_mem _ hx)) (fun x hx => hr2 x (List.mem_cons_of_mem _ hx))
     rw [hsz] at this
     rw [fillS, if_pos d, hsz]
     generalize fillS l (top l l.length) ((h2, f2) :: r) = F at *
     simp [opS, eSe] at this ⊢
     simp only [w154_K0] at this ⊢; rw [ck_unf w154_B0.eq_1]
     simp (disch := omega) [h1, h1i, h3, h3i, g1, g2, g3, htt, htl, d, wI64, H.inl, inlB, H.pp, ppB, this]
   · have this := ih (A ++ [⟨h, f, f2, f2⟩]) (by simp; omega) (fun x hx => hr x (List.mem_cons_of_mem _ hx)) (fun x hx => hr2 x (List.mem_cons_of_mem _ hx))
     rw [fillS, if_neg d]
     generalize fillS l (top l l.length) ((h2, f2) :: r) = F at *
     simp [opS, eSe] at this ⊢
     simp only [w154_K0] at this ⊢; rw [ck_unf w154_B0.eq_1]
     simp (disch := omega) [h1, h1i, h3, h3i, g1, g2, g3, htt, d, wI64, H.inl, inlB, H.pp, ppB, this]
theorem hdQ_len (ks : List Kd) (l : List En) : (hdQ ks l).length ≤ l.length + 1 := by
 have := hdI_len ks l 0
 unfold hdQ hdP
 rw [List.length_append, List.length_map]
 split <;> simp <;> omega
theorem hdQ_bd (ks : List Kd) (l : List En) (hz : Szd l) : ∀ x ∈ hdQ ks l, (x.1 < 0 ∨ (0 ≤ x.1 ∧ x.1 < l.length)) ∧ (0 ≤ x.2 ∧ x.2 ≤ 4611686018427387904) := by
 intro x hx
 unfold hdQ hdP at hx
 rcases List.mem_append.1 hx with q | q
 · split at q
   · cases q
   · rw [List.mem_singleton] at q; subst q; exact ⟨.inl (by simp), by simp⟩
 · obtain ⟨y, hy, rfl⟩ := List.mem_map.1 q
   obtain ⟨k, q1, q2, _⟩ := (hdI_mem ks l 0 y).1 hy
   rw [Nat.zero_add] at q1
   subst q1
   exact ⟨.inr ⟨by simp only; omega, by simp only; omega⟩, top_b hz k (by omega)⟩
theorem rsections_ok (H : HasR30 C) (ks : List Kd) (ke : Bool) (cap : Int) (l : List En) (e : Bool) (hz : Szd l) (ht : ∀ x ∈ l, 0 ≤ x.i.t ∧ x.i.t < ks.length) :
 ∃ fl, FnW C 154 [aR ks ke cap, .ro 6 (l.map eEn) e] = some (.ro 4 ((secA ks l).map eSe) fl) := by
 have hn := hz.n
 rw [fnW_eq H.f154 rfl]
 by_cases c : l.length = 0
 · have hnil : l = [] := List.eq_nil_of_length_eq_zero c
   subst hnil
   refine ⟨true, ?_⟩
   simp (disch := omega) [w154, secA, H.inl, inlB, H.pp, ppB]
 · refine ⟨false, ?_⟩
   have h0 : 0 < l.length := by omega
   have hl0 : ¬ l = [] := fun q => c (by rw [q]; rfl)
   have h1 := rheaders_ok H.toHasH30 ks ke cap l e hn ht
   have hq := hdQ_len ks l
   have hqb := hdQ_bd ks l hz
   have k := rs_heads H ks l e hz (.ro 4 ((secA ks l).map eSe) false) (by
    intro B hB
    subst hB
    have k2 := rs_fill H ks l e hz (hdQ ks l).length (by omega) (hdQ ks l) [] (by simp) (fun x hx => (hqb x hx).1) (fun x hx => (hqb x hx).2)
    rw [hdQ_sec ks l h0] at k2
    generalize hdQ ks l = Q at *
    simp only [w154_K0] at k2
    simp at k2
    rw [ck_unf w154_c1.eq_1]
    simp (disch := omega) [k2]) (hdI ks l 0).length 0 (by simp) (if stk ks l 0 = true then [] else [(-1, 0)]) (by split <;> simp) (by rw [List.drop_zero]; rfl)
   have hsplit : (stk ks l 0 = true → 0 < (hdI ks l 0).length ∧ ∀ h : 0 < (hdI ks l 0).length, (hdI ks l 0)[0] = 0) ∧ (stk ks l 0 = false → (hdI ks l 0).length = 0 ∨ ∀ h : 0 < (hdI ks l 0).length, 0 < (hdI ks l 0)[0]) := by
    constructor
    · intro q
      have hm := (stk_mem ks l 0 h0).2 q
      have hp : 0 < (hdI ks l 0).length := List.length_pos_of_mem hm
      refine ⟨hp, fun h => ?_⟩
      have hlc : l = l[0] :: l.drop 1 := by
       have := drop_cons h0
       simpa using this
      have hst := q
      rw [stk_get h0] at hst
      have : hdI ks l 0 = 0 :: hdI ks (l.drop 1) 1 := by
       conv => lhs; rw [hlc]
       rw [hdI, if_pos hst]; rfl
      simp only [this, List.getElem_cons_zero]
    · intro q
      by_cases g : (hdI ks l 0).length = 0
      · exact .inl g
      · refine .inr fun h => ?_
        obtain ⟨t, q1, q2, _⟩ := (hdI_mem ks l 0 _).1 (List.getElem_mem h)
        rw [Nat.zero_add] at q1
        have : t ≠ 0 := by
         intro z
         subst z
         have hm : ((0 : Nat) : Int) ∈ hdI ks l 0 := by rw [← q1]; exact List.getElem_mem h
         have := (stk_mem ks l 0 h0).1 hm
         rw [q] at this; cases this
        omega
   cases d : stk ks l 0
   · rw [if_neg (by rw [d]; simp)] at k
     have hs := hsplit.2 d
     generalize hdI ks l 0 = D at *
     generalize secA ks l = S at *
     simp only [w154_K1] at k
     simp [opS, eSe] at k
     by_cases g : D.length = 0
     · have gn : D = [] := List.eq_nil_of_length_eq_zero g
       subst gn
       simp at k h1
       simp (disch := omega) [w154, hl0, h0, h1, k, wI64, eSe, H.inl, inlB, H.pp, ppB]
     · have g0 : 0 < D.length := by omega
       have g1 : (0 : Int) < D[0] := (hs.resolve_left g) g0
       have g2 : ¬ D = [] := fun q => g (by rw [q]; rfl)
       simp (disch := omega) [w154, hl0, h0, h1, g0, g1, g2, k, wI64, eSe, H.inl, inlB, H.pp, ppB]
   · rw [if_pos d] at k
     obtain ⟨g0, g1⟩ := hsplit.1 d
     have g1 : (hdI ks l 0)[0] = (0 : Int) := g1 g0
     generalize hdI ks l 0 = D at *
     generalize secA ks l = S at *
     have g2 : ¬ D = [] := fun q => by rw [q] at g0; simp at g0
     simp only [w154_K1] at k
     simp [opS, eSe] at k
     simp (disch := omega) [w154, hl0, h0, h1, g0, g1, g2, k, wI64, eSe, H.inl, inlB, H.pp, ppB]
end Go.D
end
section
set_option linter.unusedSimpArgs false
set_option linter.unusedVariables false
namespace Go.D
open Go Go.Pav Go.Pw P
set_option maxRecDepth 10000
set_option maxHeartbeats 4000000
set_option linter.unusedSimpArgs false
set_option linter.unusedVariables false
attribute [-simp] List.getElem_cons_drop
variable {C : WProg}
def secL (ks : List Kd) (l : List En) (tot s : Int) : Nat → Nat → Int → Int × Int × Int
 | 0, _, h => (h, tot, -1)
 | n + 1, i, h => if stk ks l i = true then (if s < top l i then (h, (if 0 ≤ h then top l i - szI l h + 1 else top l i), (i : Int)) else secL ks l tot s n (i + 1) i) else secL ks l tot s n (i + 1) h
def nxF (ks : List Kd) (l : List En) (s : Int) : Nat → Nat → Int
 | 0, _ => -1
 | n + 1, i => if stk ks l i = true ∧ s < top l i then (i : Int) else nxF ks l s n (i + 1)
theorem secF_pos (ks : List Kd) (l : List En) (tot : Int) : ∀ n i (h f : Int), 0 < (secF ks l tot n i h f).length := by
 intro n
 induction n with
 | zero => intro i h f; simp [secF]
 | succ n ih => intro i h f; rw [secF]; split <;> simp [ih]
theorem sec_at (ks : List Kd) (l : List En) (hz : Szd l) (s : Int) (hs : s < top l l.length) : ∀ n i, n + i = l.length → ∀ (h f : Int) (j : Nat), f ≤ s →
 ∃ (k : Nat) (hk : k < (secF ks l (top l l.length) n i h f).length), atS s (secF ks l (top l l.length) n i h f) j = ((j + k : Nat) : Int) ∧ (secF ks l (top l l.length) n i h f)[k].h = (secL ks l (top l l.length) s n i h).1 ∧
  (secF ks l (top l l.length) n i h f)[k].p = (secL ks l (top l l.length) s n i h).2.1 ∧
  (((secL ks l (top l l.length) s n i h).2.2 = -1 ∧ k + 1 = (secF ks l (top l l.length) n i h f).length) ∨
   (0 ≤ (secL ks l (top l l.length) s n i h).2.2 ∧ ∃ h2 : k + 1 < (secF ks l (top l l.length) n i h f).length, (secF ks l (top l l.length) n i h f)[k + 1].h = (secL ks l (top l l.length) s n i h).2.2)) := by
 intro n
 induction n with
 | zero =>
  intro i hi h f j hf
  refine ⟨0, by simp [secF], ?_, rfl, rfl, .inl ⟨rfl, rfl⟩⟩
  have : inSe s ⟨h, f, top l l.length, top l l.length⟩ = true := by unfold inSe; simp; omega
  rw [secF, atS, if_pos this]; rfl
 | succ n ih =>
  intro i hi h f j hf
  rw [secF, secL]
  by_cases c : stk ks l i = true
  · rw [if_pos c, if_pos c]
    by_cases d : s < top l i
    · rw [if_pos d]
      have hne : 0 < (secF ks l (top l l.length) n (i + 1) i (top l i)).length := secF_pos ..
      have hfst : ∀ n i (h f : Int), n + i = l.length → ∃ h3 : 0 < (secF ks l (top l l.length) n i h f).length, (secF ks l (top l l.length) n i h f)[0].h = h := by
       intro n
       induction n with
       | zero => intro i h f _; exact ⟨by simp [secF], rfl⟩
       | succ n ih =>
        intro i h f hi
        by_cases e : stk ks l i = true
        · have q : secF ks l (top l l.length) (n + 1) i h f = ⟨h, f, top l i, if 0 ≤ h then top l i - szI l h + 1 else top l i⟩ :: secF ks l (top l l.length) n (i + 1) i (top l i) := by rw [secF, if_pos e]
          rw [q]; exact ⟨by simp, rfl⟩
        · have q : secF ks l (top l l.length) (n + 1) i h f = secF ks l (top l l.length) n (i + 1) h f := by rw [secF, if_neg e]
          rw [q]; exact ih (i + 1) h f (by omega)
      obtain ⟨h3, h4⟩ := hfst n (i + 1) i (top l i) (by omega)
      refine ⟨0, by simp, ?_, rfl, rfl, .inr ⟨by simp only; omega, by simpa using hne, by simpa using h4⟩⟩
      have : inSe s ⟨h, f, top l i, if 0 ≤ h then top l i - szI l h + 1 else top l i⟩ = true := by unfold inSe; simp; omega
      rw [atS, if_pos this]; rfl
    · rw [if_neg d]
      obtain ⟨k, hk, h1, h2, h3, h4⟩ := ih (i + 1) (by omega) i (top l i) (j + 1) (by omega)
      refine ⟨k + 1, by simpa using hk, ?_, by simpa using h2, by simpa using h3, ?_⟩
      · have : inSe s ⟨h, f, top l i, if 0 ≤ h then top l i - szI l h + 1 else top l i⟩ = false := by unfold inSe; simp; omega
        rw [atS, if_neg (by rw [this]; simp), h1]
        congr 1; omega
      · rcases h4 with ⟨q1, q2⟩ | ⟨q1, q2, q3⟩
        · exact .inl ⟨q1, by simp [q2]⟩
        · exact .inr ⟨q1, by simpa using q2, by simpa using q3⟩
  · rw [if_neg c, if_neg c]
    exact ih (i + 1) (by omega) h f j hf
theorem sec_out (ks : List Kd) (l : List En) (hz : Szd l) (s : Int) : ∀ n i, n + i = l.length → ∀ (h f : Int) (j : Nat), f ≤ top l i → (s < f ∨ top l l.length ≤ s) → atS s (secF ks l (top l l.length) n i h f) j = -1 := by
 intro n
 induction n with
 | zero =>
  intro i hi h f j hf hs
  have : inSe s ⟨h, f, top l l.length, top l l.length⟩ = false := by unfold inSe; simp; omega
  rw [secF, atS, if_neg (by rw [this]; simp), atS]
 | succ n ih =>
  intro i hi h f j hf hs
  have hm := hz.mono (i := i) (j := l.length) (by omega) (by omega)
  have hm1 := hz.mono (i := i) (j := i + 1) (by omega) (by omega)
  rw [secF]
  by_cases c : stk ks l i = true
  · rw [if_pos c]
    have : inSe s ⟨h, f, top l i, if 0 ≤ h then top l i - szI l h + 1 else top l i⟩ = false := by unfold inSe; simp; omega
    rw [atS, if_neg (by rw [this]; simp)]
    exact ih (i + 1) (by omega) i (top l i) (j + 1) (by omega) (by omega)
  · rw [if_neg c]
    exact ih (i + 1) (by omega) h f j (by omega) hs
theorem secL_head (ks : List Kd) (l : List En) (hz : Szd l) (tot s : Int) : ∀ n i, n + i = l.length → ∀ h, (secL ks l tot s n i h).1 = hrF ks l s n i h := by
 intro n
 induction n with
 | zero => intro i hi h; rfl
 | succ n ih =>
  intro i hi h
  have hil : i < l.length := by omega
  rw [secL]
  by_cases c : stk ks l i = true
  · rw [if_pos c]
    by_cases d : s < top l i
    · rw [if_pos d, hrF_stop hz (n + 1) i h hi d]
    · rw [if_neg d, hrF, if_pos ⟨c, by omega⟩]; exact ih (i + 1) (by omega) i
  · rw [if_neg c, hrF, if_neg (by rintro ⟨q, _⟩; exact c q)]; exact ih (i + 1) (by omega) h
theorem secL_next (ks : List Kd) (l : List En) (hz : Szd l) (tot s : Int) : ∀ n i, n + i = l.length → ∀ h, (secL ks l tot s n i h).2.2 = nxF ks l s n i := by
 intro n
 induction n with
 | zero => intro i hi h; rfl
 | succ n ih =>
  intro i hi h
  rw [secL, nxF]
  by_cases c : stk ks l i = true
  · rw [if_pos c]
    by_cases d : s < top l i
    · rw [if_pos d]; simp only; rw [if_pos ⟨c, d⟩]
    · rw [if_neg d, if_neg (by rintro ⟨_, q⟩; exact d q)]; exact ih (i + 1) (by omega) i
  · rw [if_neg c, if_neg (by rintro ⟨q, _⟩; exact c q)]; exact ih (i + 1) (by omega) h
theorem secL_place (ks : List Kd) (l : List En) (hz : Szd l) (s : Int) (hs : s < top l l.length) : ∀ n i, n + i = l.length → ∀ (h0 : Int) (pl : Int), (0 ≤ h0 → pl = plF ks l s (szI l h0) n i) → 0 ≤ (secL ks l (top l l.length) s n i h0).1 →
 ∃ t : Nat, (secL ks l (top l l.length) s n i h0).1 = t ∧ (((t : Int) = h0 ∧ imin 0 ((secL ks l (top l l.length) s n i h0).2.1 - 1 - s) = pl) ∨ (i ≤ t ∧ t < l.length ∧ imin 0 ((secL ks l (top l l.length) s n i h0).2.1 - 1 - s) = plA ks l s t)) := by
 intro n
 induction n with
 | zero =>
  intro i hi h0 pl hp hh
  simp only [secL] at hh ⊢
  refine ⟨h0.toNat, by omega, .inl ⟨by omega, ?_⟩⟩
  rw [hp hh, plF]
  unfold imin; split <;> omega
 | succ n ih =>
  intro i hi h0 pl hp hh
  have hil : i < l.length := by omega
  rw [secL] at hh ⊢
  by_cases c : stk ks l i = true
  · rw [if_pos c] at hh ⊢
    by_cases d : s < top l i
    · rw [if_pos d] at hh ⊢
      simp only at hh ⊢
      refine ⟨h0.toNat, by omega, .inl ⟨by omega, ?_⟩⟩
      rw [hp hh, plF, if_pos c, if_pos hh]
      unfold imin; split <;> split <;> omega
    · rw [if_neg d] at hh ⊢
      obtain ⟨t, q1, q2⟩ := ih (i + 1) (by omega) i (plA ks l s i) (by
       intro _
       unfold plA
       rw [show l.length - (i + 1) = n by omega]) hh
      refine ⟨t, q1, .inr ?_⟩
      rcases q2 with ⟨q2, q3⟩ | ⟨q2, q3, q4⟩
      · have : t = i := by omega
        subst this
        exact ⟨Nat.le_refl _, hil, q3⟩
      · exact ⟨by omega, q3, q4⟩
  · rw [if_neg c] at hh ⊢
    obtain ⟨t, q1, q2⟩ := ih (i + 1) (by omega) h0 pl (by
     intro q
     rw [hp q, plF, if_neg c]) hh
    refine ⟨t, q1, ?_⟩
    rcases q2 with q2 | ⟨q2, q3, q4⟩
    · exact .inl q2
    · exact .inr ⟨by omega, q3, q4⟩
end Go.D
end
section
set_option linter.unusedSimpArgs false
set_option linter.unusedVariables false
namespace Go.D
open Go Go.Pav Go.Pw P
set_option maxRecDepth 10000
set_option maxHeartbeats 4000000
set_option linter.unusedSimpArgs false
set_option linter.unusedVariables false
attribute [-simp] List.getElem_cons_drop
variable {C : WProg}
structure HasO30 (C : WProg) : Prop extends HasR30 C where
 f147 : C.fns.get 147 = some w147
 f311 : C.fns.get 311 = some w311
 f153 : C.fns.get 153 = some w153
theorem sec_first (H : HasS30 C) (ks : List Kd) (l : List En) (e : Bool) (hz : Szd l) (h0 : 0 < l.length) :
 w307_K0 C ⟨[(21, .int .i64 0), (20, .int .i64 l.length), (17, .fn 449 [.ptr 0 0 0, .ptr 1 0 0]), (5, .ptr 1 0 0), (4, .ptr 0 0 0), (2, .rop [.ro 6 (l.map eEn) e]), (1, .ro 1 ((hdI ks l 0).map eI) true)],
  [(0, .cells 1 [[.ro 4 [] true]] true true), (1, .cells 1 [[.ro 1 ((tps l).map eI) true]] true true)], 2⟩ = some (.ro 4 ((secA ks l).map eSe) false) := by
 have hn := hz.n
 have c : ¬ l.length = 0 := by omega
 obtain ⟨r, hb⟩ := bs_ok H.toHasWn (hdI ks l 0) true 0 (by have := hdI_len ks l 0; omega) (hdI_ris ks l 0 (-1) (by omega))
 have hdec : decide ((0 : Int) ∈ hdI ks l 0) = stk ks l 0 := by
  have := stk_mem ks l 0 h0
  cases c : stk ks l 0
  · rw [c] at this; simpa using this
  · rw [c] at this; simpa using this
 rw [hdec] at hb
 have h5 : 0 < (tps l).length := by rw [tps_len]; omega
 have h6 := tps_get l h5
 rw [top_0] at h6
 unfold secA
 rw [if_neg c]
 cases d : stk ks l 0
 · rw [d] at hb
   have k := sec_loop H ks l e hz (l.length - 1) 1 (by omega) [] (-1) 0 (by simp) (.inl (by omega))
   rw [if_neg (by simp)]
   rw [List.nil_append] at k
   generalize secF ks l (top l l.length) (l.length - 1) 1 (-1) 0 = R at *
   simp only [w307_K0] at k ⊢
   rw [ck_unf w307_B0.eq_1]
   simp [eSe] at k
   simp (disch := omega) [h0, hb, h5, h6, k, wI64, H.inl, inlB, H.pp, ppB]
 · rw [d] at hb
   have k := sec_loop H ks l e hz (l.length - 1) 1 (by omega) [] 0 0 (by simp) (.inr ⟨by omega, by omega⟩)
   rw [if_pos rfl]
   rw [List.nil_append] at k
   generalize secF ks l (top l l.length) (l.length - 1) 1 0 0 = R at *
   simp only [w307_K0] at k ⊢
   rw [ck_unf w307_B0.eq_1]
   simp [eSe] at k
   simp (disch := omega) [h0, hb, h5, h6, k, wI64, H.inl, inlB, H.pp, ppB]
theorem secs_ok (H : HasS30 C) (ks : List Kd) (l : List En) (e : Bool) (hz : Szd l) : ∃ fl, FnW C 307 [aL l e, .ro 1 ((hdI ks l 0).map eI) true] = some (.ro 4 ((secA ks l).map eSe) fl) := by
 have hn := hz.n
 have h1 := tops_ok H.toHasSz l e hz
 rw [fnW_eq H.f307 rfl]
 by_cases c : l.length = 0
 · have hnil : l = [] := List.eq_nil_of_length_eq_zero c
   subst hnil
   refine ⟨true, ?_⟩
   have hc : RnW C 449 [.ptr 0 0 0, .ptr 1 0 0] [(0, .cells 1 [[.ro 4 [] true]] true true), (1, .cells 1 [[.ro 1 ((tps []).map eI) true]] true true)] 3 = some (.tup [], [(0, .cells 1 [[.ro 4 [] true]] true true), (1, .cells 1 [[.ro 1 ((tps []).map eI) true]] true true)], 5) := by
    rw [rnW_eq (args := [.ptr 0 0 0, .ptr 1 0 0]) H.f449 rfl]
    simp (disch := omega) [w449, wI64, H.inl, inlB, H.pp, ppB]
   unfold secA
   generalize tps [] = T at *
   simp [aL] at h1
   simp (disch := omega) [w307, ck_unf w307_B0.eq_1, ck_unf w307_c0.eq_1, ck_unf w307_c1.eq_1, hc, h1, wI64, H.inl, inlB, H.pp, ppB]
 · refine ⟨false, ?_⟩
   have k := sec_first H ks l e hz (by omega)
   generalize secA ks l = R at *
   generalize hdI ks l 0 = D at *
   generalize tps l = T at *
   simp only [w307_K0] at k
   try simp at k
   simp (disch := omega) [w307, ck_unf w307_c1.eq_1, h1, k, wI64, H.inl, inlB, H.pp, ppB]
theorem secF_len (ks : List Kd) (l : List En) (tot : Int) : ∀ n i (h f : Int), (secF ks l tot n i h f).length ≤ n + 1 := by
 intro n
 induction n with
 | zero => intro i h f; simp [secF]
 | succ n ih =>
  intro i h f
  rw [secF]
  split
  · have := ih (i + 1) i (top l i); simp only [List.length_cons]; omega
  · have := ih (i + 1) h f; omega
theorem secA_len (ks : List Kd) (l : List En) : (secA ks l).length ≤ l.length := by
 unfold secA
 split
 · simp
 · have := secF_len ks l (top l l.length) (l.length - 1) 1 (if stk ks l 0 = true then 0 else -1) 0; omega
def secE (ks : List Kd) (cap : Int) (l : List En) : List Se := if ckE ks cap l = 0 then secA ks l else []
theorem sections_ok (H : HasS30 C) (ks : List Kd) (ke : Bool) (cap : Int) (hr : RuIn ks) (l : List En) (e : Bool) (hl : l.length ≤ 1024) (hs : ∀ x ∈ l, EnIn x) (ht : ckE ks cap l = 0 → Szd l ∧ ∀ x ∈ l, 0 ≤ x.i.t ∧ x.i.t < ks.length) :
 FnW C 152 [aR ks ke cap, aL l e] = some (.tup [.ro 4 ((secE ks cap l).map eSe) true, .int .i64 (ckE ks cap l)]) := by
 have h1 := headers_ok H.toHasH30 ks ke cap hr l e hl hs (fun q => (ht q).2)
 rw [fnW_eq H.f152 rfl]
 unfold secE
 by_cases c : ckE ks cap l = 0
 · obtain ⟨fl, h2⟩ := secs_ok H ks l e (ht c).1
   have h3 := ex306_ok H.toHasH30 (secA ks l) fl (by have := secA_len ks l; omega)
   rw [if_pos c] at h1 ⊢
   rw [c] at h1 ⊢
   generalize secA ks l = S at *
   generalize hdI ks l 0 = D at *
   simp (disch := omega) [w152, h1, h2, h3, H.inl, inlB, H.pp, ppB]
 · rw [if_neg c] at h1 ⊢
   generalize ckE ks cap l = B at *
   simp (disch := omega) [w152, h1, c, H.inl, inlB, H.pp, ppB]
def offE (ks : List Kd) (cap : Int) (l : List En) (s : Int) : Int :=
 if ckE ks cap l ≠ 0 then ckE ks cap l else if s < 0 ∨ (top l l.length ≤ s ∧ (0 < s ∨ 0 < l.length)) then 4 else 0
theorem rerror_ok (H : HasO30 C) (ks : List Kd) (ke : Bool) (cap : Int) (hr : RuIn ks) (l : List En) (e : Bool) (hl : l.length ≤ 1024) (hs : ∀ x ∈ l, EnIn x) (ht : ckE ks cap l = 0 → Szd l ∧ ∀ x ∈ l, 0 ≤ x.i.t ∧ x.i.t < ks.length) (hnn : 0 ≤ ckE ks cap l) (s : Int) :
 FnW C 147 [aR ks ke cap, .ro 6 (l.map eEn) e, .int .i64 s] = some (.int .i64 (offE ks cap l s)) := by
 have h1 := rlcheck_ok H.toHasK ks ke cap hr l e (by omega) hs
 rw [fnW_eq H.f147 rfl]
 unfold offE
 by_cases c : ckE ks cap l = 0
 · have hz := (ht c).1
   have h2 := rtop_ok H.toHasSz l e hz l.length (Nat.le_refl _)
   rw [c] at h1
   rw [if_neg (by simpa using c)]
   generalize top l l.length = T at *
   by_cases d1 : s < 0
   · rw [if_pos (.inl d1)]
     simp (disch := omega) [w147, h1, d1, H.inl, inlB, H.pp, ppB]
   · by_cases d2 : T ≤ s
     · by_cases d3 : 0 < s
       · rw [if_pos (.inr ⟨d2, .inl d3⟩)]
         simp (disch := omega) [w147, h1, h2, d1, d2, d3, H.inl, inlB, H.pp, ppB]
       · by_cases d4 : 0 < l.length
         · rw [if_pos (.inr ⟨d2, .inr d4⟩)]
           simp (disch := omega) [w147, h1, h2, d1, d2, d3, d4, H.inl, inlB, H.pp, ppB]
         · rw [if_neg (by omega)]
           simp (disch := omega) [w147, h1, h2, d1, d2, d3, d4, H.inl, inlB, H.pp, ppB]
     · rw [if_neg (by omega)]
       simp (disch := omega) [w147, h1, h2, d1, d2, H.inl, inlB, H.pp, ppB]
 · rw [if_pos c]
   generalize ckE ks cap l = B at *
   have hb : 0 < B := by omega
   simp (disch := omega) [w147, h1, hb, H.inl, inlB, H.pp, ppB]
theorem sec303_ok (H : HasS30 C) (ks : List Kd) (ke : Bool) (cap : Int) (hr : RuIn ks) (l : List En) (e : Bool) (hl : l.length ≤ 1024) (hs : ∀ x ∈ l, EnIn x) (ht : ckE ks cap l = 0 → Szd l ∧ ∀ x ∈ l, 0 ≤ x.i.t ∧ x.i.t < ks.length) (s : Int) (B : Int) (hB : B = offE ks cap l s) (hat : ckE ks cap l = 0 → (atS s (secA ks l) 0 < 0 ∧ (s ≠ 0 ∨ 0 < (secA ks l).length) ↔ B ≠ 0)) :
 FnW C 303 [aR ks ke cap, aL l e, .int .i64 s] = some (.tup [.ro 4 ((if B = 0 then secA ks l else []).map eSe) true, .int .i64 (if B = 0 then atS s (secA ks l) 0 else -1), .int .i64 B]) := by
 have h1 := sections_ok H ks ke cap hr l e hl hs ht
 unfold secE at h1
 have hlen := secA_len ks l
 rw [fnW_eq H.f303 rfl]
 by_cases c : ckE ks cap l = 0
 · have hat := hat c
   rw [if_pos c, c] at h1
   have h2 := ixs_ok H.toHasA30 447 (in447 H.toHasA30) rfl rfl (secA ks l) true (by omega) s
   by_cases d : B = 0
   · rw [if_pos d, if_pos d, d]
     have hn : ¬ (atS s (secA ks l) 0 < 0 ∧ (s ≠ 0 ∨ 0 < (secA ks l).length)) := fun q => (hat.1 q) d
     generalize secA ks l = S at *
     generalize atS s S 0 = K at *
     by_cases d1 : K < 0
     · have d2 : s = 0 := by omega
       have d3 : S.length = 0 := by omega
       have d4 : S = [] := List.eq_nil_of_length_eq_zero d3
       subst d4; subst d2
       simp at h1 h2
       simp (disch := omega) [w303, h1, h2, d1, H.inl, inlB, H.pp, ppB]
     · simp (disch := omega) [w303, h1, h2, d1, H.inl, inlB, H.pp, ppB]
   · rw [if_neg d, if_neg d]
     have hy := hat.2 d
     have hB4 : B = 4 := by
      rw [hB]; unfold offE at hB ⊢
      rw [if_neg (by simpa using c)] at hB ⊢
      split at hB
      · rename_i q; rw [if_pos q]
      · exact absurd hB d
     subst hB4
     generalize secA ks l = S at *
     generalize atS s S 0 = K at *
     by_cases d2 : s = 0
     · subst d2
       have d3 : 0 < S.length := by omega
       simp (disch := omega) [w303, h1, h2, hy.1, d3, H.inl, inlB, H.pp, ppB]
     · simp (disch := omega) [w303, h1, h2, hy.1, d2, H.inl, inlB, H.pp, ppB]
 · rw [if_neg c] at h1
   have hBe : B = ckE ks cap l := by rw [hB]; unfold offE; rw [if_pos c]
   rw [← hBe] at h1 c
   rw [if_neg c, if_neg c]
   simp (disch := omega) [w303, h1, c, H.inl, inlB, H.pp, ppB]
end Go.D
end
section
set_option linter.unusedSimpArgs false
set_option linter.unusedVariables false
namespace Go.D
open Go Go.Pav Go.Pw P
set_option maxRecDepth 10000
set_option maxHeartbeats 4000000
set_option linter.unusedSimpArgs false
set_option linter.unusedVariables false
attribute [-simp] List.getElem_cons_drop
variable {C : WProg}
structure AtO (ks : List Kd) (l : List En) (s : Int) (k : Nat) : Prop where
 lt : k < (secA ks l).length
 at_ : atS s (secA ks l) 0 = k
 hd : ∀ h : k < (secA ks l).length, (secA ks l)[k].h = hrA ks l s
 pl : ∀ h : k < (secA ks l).length, 0 ≤ hrA ks l s → ∃ t : Nat, hrA ks l s = t ∧ t < l.length ∧ imin 0 ((secA ks l)[k].p - 1 - s) = plA ks l s t
 nx : (nxF ks l s l.length 0 = -1 ∧ k + 1 = (secA ks l).length) ∨ (0 ≤ nxF ks l s l.length 0 ∧ ∃ h2 : k + 1 < (secA ks l).length, (secA ks l)[k + 1].h = nxF ks l s l.length 0)
 pb : ∀ h : k < (secA ks l).length, 0 ≤ hrA ks l s → -4611686018427387904 ≤ (secA ks l)[k].p ∧ (secA ks l)[k].p ≤ 4611686018427387905
theorem secL_pb (ks : List Kd) (l : List En) (hz : Szd l) (s : Int) : ∀ n i, n + i = l.length → ∀ h : Int, (h < 0 ∨ h < l.length) → -4611686018427387904 ≤ (secL ks l (top l l.length) s n i h).2.1 ∧ (secL ks l (top l l.length) s n i h).2.1 ≤ 4611686018427387905 := by
 intro n
 induction n with
 | zero => intro i hi h hh; have := top_b hz l.length (Nat.le_refl _); simp only [secL]; omega
 | succ n ih =>
  intro i hi h hh
  have := top_b hz i (by omega)
  rw [secL]
  by_cases c : stk ks l i = true
  · rw [if_pos c]
    by_cases d : s < top l i
    · rw [if_pos d]
      by_cases e : 0 ≤ h
      · obtain ⟨t, rfl⟩ : ∃ t : Nat, h = t := ⟨h.toNat, by omega⟩
        have htl : t < l.length := by omega
        have := hz.s _ (List.getElem_mem htl)
        have h2 := szI_get (l := l) htl
        simp only [if_pos e, h2]; omega
      · simp only [if_neg e]; omega
    · rw [if_neg d]; exact ih (i + 1) (by omega) i (by omega)
  · rw [if_neg c]; exact ih (i + 1) (by omega) h hh
theorem atO_ok (ks : List Kd) (l : List En) (hz : Szd l) (s : Int) (hn : 0 < l.length) (h0 : 0 ≤ s) (hs : s < top l l.length) : ∃ k, AtO ks l s k := by
 have hl : ¬ l.length = 0 := by omega
 obtain ⟨k, hk, h1, h2, h3, h4⟩ := sec_at ks l hz s hs (l.length - 1) 1 (by omega) (if stk ks l 0 = true then 0 else -1) 0 0 h0
 have e1 := secL_head ks l hz (top l l.length) s (l.length - 1) 1 (by omega) (if stk ks l 0 = true then 0 else -1)
 have e2 := secL_next ks l hz (top l l.length) s (l.length - 1) 1 (by omega) (if stk ks l 0 = true then 0 else -1)
 have e3 := secL_place ks l hz s hs (l.length - 1) 1 (by omega) (if stk ks l 0 = true then 0 else -1) (plA ks l s 0) (by
  intro q
  have : (if stk ks l 0 = true then (0 : Int) else -1) = 0 := by
   split at q
   · rename_i c; rw [if_pos c]
   · omega
  rw [this]; unfold plA; rfl)
 have e4 := secL_pb ks l hz s (l.length - 1) 1 (by omega) (if stk ks l 0 = true then 0 else -1) (by split <;> omega)
 have hA : secA ks l = secF ks l (top l l.length) (l.length - 1) 1 (if stk ks l 0 = true then 0 else -1) 0 := by unfold secA; rw [if_neg hl]
 have hH : hrA ks l s = hrF ks l s (l.length - 1) 1 (if stk ks l 0 = true then 0 else -1) := by
  unfold hrA
  obtain ⟨m, hm⟩ : ∃ m, l.length = m + 1 := ⟨l.length - 1, by omega⟩
  rw [hm, hrF]
  congr 1
  by_cases c : stk ks l 0 = true
  · rw [if_pos ⟨c, by rw [top_0]; exact h0⟩, if_pos c]; rfl
  · rw [if_neg (by rintro ⟨q, _⟩; exact c q), if_neg c]
 have hX : nxF ks l s l.length 0 = nxF ks l s (l.length - 1) 1 := by
  obtain ⟨m, hm⟩ : ∃ m, l.length = m + 1 := ⟨l.length - 1, by omega⟩
  rw [hm, nxF, if_neg (by rw [top_0]; omega)]; rfl
 refine ⟨k, ?_⟩
 rw [e1, ← hH] at h2
 rw [e2, ← hX] at h4
 rw [e1, ← hH] at e3
 constructor
 · rw [hA]; exact hk
 · rw [hA, h1, Nat.zero_add]
 · intro h; simp only [hA]; exact h2
 · intro h hh
   obtain ⟨t, q1, q2⟩ := e3 hh
   simp only [hA, h3]
   refine ⟨t, q1, ?_⟩
   rcases q2 with ⟨q2, q3⟩ | ⟨q2, q3, q4⟩
   · have ht : t = 0 := by
      split at q2 <;> omega
     subst ht
     exact ⟨hn, q3⟩
   · exact ⟨q3, q4⟩
 · rcases h4 with ⟨q1, q2⟩ | ⟨q1, q2, q3⟩
   · exact .inl ⟨q1, by rw [hA]; exact q2⟩
   · exact .inr ⟨q1, by rw [hA]; exact q2, by simp only [hA]; exact q3⟩
 · intro h _; simp only [hA, h3]; exact e4
theorem at_iff (ks : List Kd) (cap : Int) (l : List En) (hz : Szd l) (s : Int) (hck : ckE ks cap l = 0) : (atS s (secA ks l) 0 < 0 ∧ (s ≠ 0 ∨ 0 < (secA ks l).length)) ↔ offE ks cap l s ≠ 0 := by
 unfold offE
 rw [if_neg (by simpa using hck)]
 by_cases hn : l.length = 0
 · have hA : secA ks l = [] := by unfold secA; rw [if_pos hn]
   have ht : top l l.length = 0 := by rw [hn, top_0]
   rw [hA, ht, hn]
   simp only [atS, List.length_nil]
   constructor
   · rintro ⟨_, q⟩
     rw [if_pos (by omega)]; omega
   · intro q
     split at q
     · exact ⟨by omega, by omega⟩
     · exact absurd rfl q
 · have hl : 0 < l.length := by omega
   have hlen : 0 < (secA ks l).length := by unfold secA; rw [if_neg hn]; exact secF_pos ..
   by_cases c : s < 0 ∨ top l l.length ≤ s
   · rw [if_pos (by omega)]
     have : atS s (secA ks l) 0 = -1 := by
      unfold secA; rw [if_neg hn]
      have h1 := hz.mono (i := 0) (j := 1) (by omega) (by omega)
      rw [top_0] at h1
      exact sec_out ks l hz s (l.length - 1) 1 (by omega) _ 0 0 (by omega) c
     rw [this]
     exact ⟨fun _ => by omega, fun _ => ⟨by omega, .inr hlen⟩⟩
   · rw [if_neg (by omega)]
     obtain ⟨k, hk⟩ := atO_ok ks l hz s hl (by omega) (by omega)
     rw [hk.at_]
     constructor
     · rintro ⟨q, _⟩; omega
     · intro q; exact absurd rfl q
structure HeS (C : WProg) (ks : List Kd) (ke : Bool) (cap : Int) (l : List En) (e : Bool) (s : Int) (B a n p g : Int) (fa fn_ : Bool) : Prop where
 c148 : FnW C 148 [aR ks ke cap, aL l e, .int .i64 s] = some (.tup [.int .i64 a, .bool fa, .int .i64 B])
 c310 : FnW C 310 [aR ks ke cap, aL l e, .int .i64 s] = some (.tup [.int .i64 n, .bool fn_, .int .i64 B])
 c150 : FnW C 150 [aR ks ke cap, aL l e, .int .i64 s] = some (.tup [.int .i64 p, .int .i64 g])
theorem hes_bad (H : HasS30 C) (ks : List Kd) (ke : Bool) (cap : Int) (hr : RuIn ks) (l : List En) (e : Bool) (hl : l.length ≤ 1024) (hs : ∀ x ∈ l, EnIn x) (ht : ckE ks cap l = 0 → Szd l ∧ ∀ x ∈ l, 0 ≤ x.i.t ∧ x.i.t < ks.length) (s : Int) (h : offE ks cap l s ≠ 0) :
 HeS C ks ke cap l e s (offE ks cap l s) 0 0 0 (offE ks cap l s) false false := by
 have h1 := sec303_ok H ks ke cap hr l e hl hs ht s _ rfl (fun q => at_iff ks cap l (ht q).1 s q)
 rw [if_neg h, if_neg h] at h1
 generalize offE ks cap l s = B at *
 constructor
 · rw [fnW_eq H.f148 rfl]; simp (disch := omega) [w148, h1, h, H.inl, inlB, H.pp, ppB]
 · rw [fnW_eq H.f310 rfl]; simp (disch := omega) [w310, h1, h, H.inl, inlB, H.pp, ppB]
 · rw [fnW_eq H.f150 rfl]; simp (disch := omega) [w150, h1, h, H.inl, inlB, H.pp, ppB]
theorem hes_nil (H : HasS30 C) (ks : List Kd) (ke : Bool) (cap : Int) (hr : RuIn ks) (e : Bool) (hck : ckE ks cap [] = 0) (hz : Szd []) : HeS C ks ke cap [] e 0 0 0 0 0 11 false false := by
 have ho : offE ks cap [] 0 = 0 := by unfold offE; rw [if_neg (by simpa using hck)]; simp
 have h1 := sec303_ok H ks ke cap hr [] e (by simp) (by simp) (fun _ => ⟨hz, by simp⟩) 0 _ rfl (fun q => at_iff ks cap [] hz 0 q)
 rw [ho, if_pos rfl, if_pos rfl] at h1
 have hA : secA ks [] = [] := rfl
 rw [hA] at h1
 simp [atS, aL, aR] at h1
 constructor
 · rw [fnW_eq H.f148 rfl]; simp (disch := omega) [w148, h1, H.inl, inlB, H.pp, ppB]
 · rw [fnW_eq H.f310 rfl]; simp (disch := omega) [w310, h1, wI64, H.inl, inlB, H.pp, ppB]
 · rw [fnW_eq H.f150 rfl]; simp (disch := omega) [w150, h1, H.inl, inlB, H.pp, ppB]
theorem hes_ok (H : HasS30 C) (ks : List Kd) (ke : Bool) (cap : Int) (hr : RuIn ks) (l : List En) (e : Bool) (hl : l.length ≤ 1024) (hs : ∀ x ∈ l, EnIn x) (hck : ckE ks cap l = 0) (hz : Szd l) (ht : ∀ x ∈ l, 0 ≤ x.i.t ∧ x.i.t < ks.length) (s : Int) (hn : 0 < l.length) (h0 : 0 ≤ s) (hst : s < top l l.length) :
 HeS C ks ke cap l e s 0 (if 0 ≤ hrA ks l s then hrA ks l s else 0) (if 0 ≤ nxF ks l s l.length 0 then nxF ks l s l.length 0 else 0) (if 0 ≤ hrA ks l s then plA ks l s (hrA ks l s).toNat else 0) (if 0 ≤ hrA ks l s then 0 else 11) (decide (0 ≤ hrA ks l s)) (decide (0 ≤ nxF ks l s l.length 0)) := by
 have ho : offE ks cap l s = 0 := by unfold offE; rw [if_neg (by simpa using hck), if_neg (by omega)]
 have h1 := sec303_ok H ks ke cap hr l e hl hs (fun _ => ⟨hz, ht⟩) s _ rfl (fun q => at_iff ks cap l hz s q)
 rw [ho, if_pos rfl, if_pos rfl] at h1
 obtain ⟨k, O⟩ := atO_ok ks l hz s hn h0 hst
 obtain ⟨o1, o2, o3, o4, o5, o6⟩ := O
 have hlen := secA_len ks l
 have htb := top_b hz l.length (Nat.le_refl _)
 rw [o2] at h1
 have o3 := o3 o1
 have o4 := o4 o1
 have o6 := o6 o1
 generalize secA ks l = S at *
 generalize nxF ks l s l.length 0 = X at *
 have hk0 : ¬ (k : Int) < 0 := by omega
 constructor
 · rw [fnW_eq H.f148 rfl]
   generalize hrA ks l s = A at *
   by_cases c : 0 ≤ A
   · rw [if_pos c, decide_eq_true c]
     have c2 : ¬ A < 0 := by omega
     simp (disch := omega) [w148, h1, hk0, o1, o3, c2, eSe, H.inl, inlB, H.pp, ppB]
   · rw [if_neg c, decide_eq_false c]
     have c2 : A < 0 := by omega
     simp (disch := omega) [w148, h1, hk0, o1, o3, c2, eSe, H.inl, inlB, H.pp, ppB]
 · rw [fnW_eq H.f310 rfl]
   rcases o5 with ⟨q1, q2⟩ | ⟨q1, q2, q3⟩
   · rw [if_neg (by omega), decide_eq_false (by omega)]
     have c2 : (S.length : Int) ≤ (k : Int) + 1 := by omega
     simp (disch := omega) [w310, h1, c2, wI64, H.inl, inlB, H.pp, ppB]
   · rw [if_pos q1, decide_eq_true q1]
     have c2 : ¬ (S.length : Int) ≤ (k : Int) + 1 := by omega
     simp (disch := omega) [w310, h1, c2, q2, q3, eSe, wI64, H.inl, inlB, H.pp, ppB]
 · rw [fnW_eq H.f150 rfl]
   generalize hrA ks l s = A at *
   by_cases c : 0 ≤ A
   · obtain ⟨t, q1, q2, q3⟩ := o4 c
     have o6 := o6 c
     subst q1
     rw [if_pos c, if_pos c, show ((t : Int)).toNat = t from rfl, ← q3]
     have c2 : ¬ (t : Int) < 0 := by omega
     simp (disch := omega) [w150, h1, hk0, o1, o3, c2, eSe, wI64, imin, H.inl, inlB, H.pp, ppB]
   · rw [if_neg c, if_neg c]
     have c2 : A < 0 := by omega
     simp (disch := omega) [w150, h1, hk0, o1, o3, c2, eSe, H.inl, inlB, H.pp, ppB]
end Go.D
end
section
set_option linter.unusedSimpArgs false
set_option linter.unusedVariables false
namespace Go.D
open Go Go.Pav Go.Pw P
set_option maxRecDepth 10000
set_option maxHeartbeats 4000000
set_option linter.unusedSimpArgs false
set_option linter.unusedVariables false
attribute [-simp] List.getElem_cons_drop
variable {C : WProg}
theorem same30_loop (H : HasO30 C) (a : List Se) (e f : Bool) (hl : a.length ≤ 1000000) : ∀ n i, n + i = a.length →
 w153_K0 C ⟨[(5, .int .i64 i), (1, .ro 4 (a.map eSe) f), (0, .ro 4 (a.map eSe) e)], [], 0⟩ = some (.int .i64 1) := by
 intro n
 induction n with
 | zero =>
  intro i hi
  have h3 : ¬ i < a.length := by omega
  simp only [w153_K0]; rw [ck_unf w153_B0.eq_1]
  simp (disch := omega) [ck_unf w153_c0.eq_1, h3]
 | succ n ih =>
  intro i hi
  have h1 : i < a.length := by omega
  have this := ih (i + 1) (by omega)
  simp only [w153_K0] at this ⊢; rw [ck_unf w153_B0.eq_1]
  simp at this
  simp (disch := omega) [h1, eSe, wI64, H.inl, inlB, H.pp, ppB, this]
theorem same30_ok (H : HasO30 C) (a : List Se) (e f : Bool) (hl : a.length ≤ 1000000) : FnW C 153 [.ro 4 (a.map eSe) e, .ro 4 (a.map eSe) f] = some (.int .i64 1) := by
 have k := same30_loop H a e f hl a.length 0 (by simp)
 rw [fnW_eq H.f153 rfl]
 simp only [w153_K0] at k
 try simp at k
 simp (disch := omega) [w153, k, H.inl, inlB, H.pp, ppB]
def nxH (l : List En) (s : Int) : List Int → Int
 | [] => -1
 | x :: r => if s < top l x.toNat then x else nxH l s r
theorem nxH_eq (ks : List Kd) (l : List En) (s : Int) : ∀ n i, n + i = l.length → nxH l s (hdI ks (l.drop i) i) = nxF ks l s n i := by
 intro n
 induction n with
 | zero =>
  intro i hi
  have h1 : l.drop i = [] := List.drop_eq_nil_of_le (by omega)
  rw [h1]; rfl
 | succ n ih =>
  intro i hi
  have h1 : i < l.length := by omega
  rw [drop_cons h1, hdI, nxF, stk_get h1]
  by_cases c : (kdAt ks l[i].i.t).st = true
  · rw [if_pos c, nxH, show ((i : Int)).toNat = i from rfl]
    by_cases d : s < top l i
    · rw [if_pos d, if_pos ⟨c, d⟩]
    · rw [if_neg d, if_neg (by rintro ⟨_, q⟩; exact d q)]; exact ih (i + 1) (by omega)
  · rw [if_neg c, if_neg (by rintro ⟨q, _⟩; exact c q)]; exact ih (i + 1) (by omega)
theorem rnext_loop (H : HasO30 C) (ks : List Kd) (l : List En) (e f : Bool) (s : Int) (hz : Szd l) : ∀ n i, n + i = (hdI ks l 0).length →
 w311_K0 C ⟨[(8, .int .i64 i), (7, .ro 1 ((hdI ks l 0).map eI) f), (2, .int .i64 s), (1, .ro 6 (l.map eEn) e)], [], 0⟩ = some (.int .i64 (nxH l s ((hdI ks l 0).drop i))) := by
 have hn := hz.n
 have hll := hdI_len ks l 0
 intro n
 induction n with
 | zero =>
  intro i hi
  have h3 : ¬ i < (hdI ks l 0).length := by omega
  have h1 : (hdI ks l 0).drop i = [] := List.drop_eq_nil_of_le (by omega)
  rw [h1, nxH]
  simp only [w311_K0]; rw [ck_unf w311_B0.eq_1]
  simp (disch := omega) [ck_unf w311_c0.eq_1, h3]
 | succ n ih =>
  intro i hi
  have h1 : i < (hdI ks l 0).length := by omega
  obtain ⟨t, hT, htl, _⟩ := (hdI_mem ks l 0 (hdI ks l 0)[i]).1 (List.getElem_mem h1)
  rw [Nat.zero_add] at hT
  have htop := rtop_ok H.toHasSz l e hz t (by omega)
  rw [drop_cons h1, nxH, hT, show ((t : Int)).toNat = t from rfl]
  by_cases c : s < top l t
  · rw [if_pos c]
    simp only [w311_K0]; rw [ck_unf w311_B0.eq_1]
    simp (disch := omega) [h1, hT, htop, c, wI64, H.inl, inlB, H.pp, ppB]
  · rw [if_neg c]
    have this := ih (i + 1) (by omega)
    generalize nxH l s ((hdI ks l 0).drop (i + 1)) = R at *
    simp only [w311_K0] at this ⊢; rw [ck_unf w311_B0.eq_1]
    simp at this
    simp (disch := omega) [h1, hT, htop, c, wI64, H.inl, inlB, H.pp, ppB, this]
theorem rnext_ok (H : HasO30 C) (ks : List Kd) (ke : Bool) (cap : Int) (l : List En) (e : Bool) (s : Int) (hz : Szd l) (ht : ∀ x ∈ l, 0 ≤ x.i.t ∧ x.i.t < ks.length) :
 FnW C 311 [aR ks ke cap, .ro 6 (l.map eEn) e, .int .i64 s] = some (.int .i64 (nxF ks l s l.length 0)) := by
 have hn := hz.n
 have h1 := rheaders_ok H.toHasH30 ks ke cap l e hn ht
 have k := rnext_loop H ks l e false s hz (hdI ks l 0).length 0 (by simp)
 have h2 := nxH_eq ks l s l.length 0 (by omega)
 rw [List.drop_zero] at k h2
 rw [h2] at k
 generalize nxF ks l s l.length 0 = R at *
 generalize hdI ks l 0 = D at *
 rw [fnW_eq H.f311 rfl]
 simp only [w311_K0] at k
 try simp at k
 simp (disch := omega) [w311, h1, k, H.inl, inlB, H.pp, ppB]
end Go.D
end
section
set_option linter.unusedSimpArgs false
set_option linter.unusedVariables false
namespace Go.D
open Go Go.Pav Go.Pw P
set_option maxRecDepth 10000
set_option maxHeartbeats 4000000
set_option linter.unusedSimpArgs false
set_option linter.unusedVariables false
attribute [-simp] List.getElem_cons_drop
variable {C : WProg}
structure HasL156 (C : WProg) : Prop extends HasG C where
 f2003 : C.fns.get 2003 = some w130
def LofR156 (ks : List Kd) (E0 E1 : List (List AV)) (x : Option (AV × WHeap × Nat)) (R : List En) : Prop :=
 (R = [] ∧ x = some (.tup [aR ks true 12, .agg [.ro 6 [] true]], [(0, .cells 3 E0 true true), (1, .cells 7 E1 true true), (19, .cells 1 [[.ro 6 [] true]] true true), (20, .cells 2 [[.ro 9 (ks.map eKd) true, .int .i64 12]] true true),
  (21, .cells 1 [[.ro 6 [] true]] true true), (22, .cells 2 [[.ro 9 (ks.map eKd) true, .int .i64 12]] true true)], 27)) ∨
 (R ≠ [] ∧ x = some (.tup [aR ks true 12, .agg [.sl 20 6 0 R.length R.length false]], [(0, .cells 3 E0 true true), (1, .cells 7 E1 true true), (19, .cells 1 [[.sl 20 6 0 R.length R.length false]] true false), (20, .cells 6 (R.map eEn) true true),
  (21, .cells 2 [[.ro 9 (ks.map eKd) true, .int .i64 12]] true true), (22, .cells 1 [[.sl 20 6 0 R.length R.length false]] true false), (23, .cells 2 [[.ro 9 (ks.map eKd) true, .int .i64 12]] true true)], 28))
theorem lof156_sl (H : HasL156 C) (E0 E1 : List (List AV)) (ks : List Kd) (hks : KsIn ks) (l : List It) (le : Bool) (hl : l.length ≤ 12) (hg : ∀ x ∈ l, Good x) (q : List Q4) (qe : Bool) (z : List Int) (ze : Bool) (hz : ∀ s ∈ z, 0 ≤ s ∧ s ≤ 255) (hzl : z.length < 9223372036854775808) (r : Int) : ∀ n i, n + i = l.length →
 ∀ G : List En, G ≠ [] → G.length ≤ i → (∀ x ∈ G, GoodE ks x) → (keysE G ++ (l.drop i).map It.k).Nodup →
 ∃ R : List En, LofR156 ks E0 E1 (CK C 19 (fnEndW [.cell 2 2 true, .cell 3 1 true]) [.sq w130_L0, .bk 0 ⟨true, [6, 4, 3, 2], []⟩, .sq w130_c0] w130_B0 ⟨[(7, .int .i64 i), (6, .ptr 19 0 0), (5, .ro 4 (l.map cIt) le), (4, .ptr 21 0 0), (3, .ptr 22 0 0), (2, .ptr 23 0 0), (1, .ptr 24 0 0)], [(0, .cells 3 E0 true true), (1, .cells 7 E1 true true), (19, .cells 1 [[.sl 20 6 0 G.length G.length false]] true false), (20, .cells 6 (G.map eEn) true true), (21, .cells 2 [[.ro 9 (ks.map eKd) true, .int .i64 12]] true true), (22, .cells 1 [[.ro 6 [] true]] true true), (23, .cells 2 [[.ro 9 [] true, .int .i64 0]] true true), (24, .cells 3 [[.ro 4 (q.map eQ) qe, .ro 1 (z.map eU8) ze, .int .u8 r]] true true)], 25⟩) R ∧ R.length ≤ 12 ∧ (∀ e ∈ R, GoodE ks e) ∧ (keysE R).Nodup := by
 intro n
 induction n with
 | zero =>
  intro i hi G hne hG hge hn
  have h1 : l.drop i = [] := List.drop_eq_nil_of_le (by omega)
  have h3 : ¬ i < l.length := by omega
  have h6 : List.take G.length (List.map eEn G) = List.map eEn G := List.take_of_length_le (by simp)
  refine ⟨G, ?_, by omega, hge, by rw [h1] at hn; simpa using hn⟩
  rw [ck_unf w130_B0.eq_1]
  simp [ck_unf w130_c0.eq_1, h3, h6, LofR156, hne]
 | succ n ih =>
  intro i hi G hne hG hge hn
  have h1 : i < l.length := by omega
  have gx := hg _ (List.getElem_mem h1)
  have hii := ritem_ok H.toHasG.toHasK ks true 12 l[i] gx.it hks.r false
  have hfr := rfresh_ok H.toHasG.toHasK ks true 12 l[i] gx.it (by have := gx.t; have := hks.l; omega)
  have hbase := hks.b l[i].t gx.t.1 gx.t.2
  rw [drop_cons h1, List.map_cons] at hn
  have hfit : (G.length + 1) * 73 ≤ 35184372088832 := by omega
  simp only [aR, eIt, Bool.false_eq_true, if_false] at hii
  simp only [aR, eIt, aE, eEn, fre] at hfr
  have hE0 : 0 ≤ itE ks 12 l[i] false := by unfold itE; repeat (first | omega | split)
  by_cases c1 : itE ks 12 l[i] false = 0
  · have step : ∀ e : En, e.i = l[i] → GoodE ks e → ∃ R : List En, LofR156 ks E0 E1 (CK C 19 (fnEndW [.cell 2 2 true, .cell 3 1 true]) [.sq w130_L0, .bk 0 ⟨true, [6, 4, 3, 2], []⟩, .sq w130_c0] w130_B0 ⟨[(7, .int .i64 ((i : Int) + 1)), (6, .ptr 19 0 0), (5, .ro 4 (l.map cIt) le), (4, .ptr 21 0 0), (3, .ptr 22 0 0), (2, .ptr 23 0 0), (1, .ptr 24 0 0)], [(0, .cells 3 E0 true true), (1, .cells 7 E1 true true), (19, .cells 1 [[.sl 20 6 0 (G.length + 1) (G.length + 1) false]] true false), (20, .cells 6 (G.map eEn ++ [eEn e]) true true), (21, .cells 2 [[.ro 9 (ks.map eKd) true, .int .i64 12]] true true), (22, .cells 1 [[.ro 6 [] true]] true true), (23, .cells 2 [[.ro 9 [] true, .int .i64 0]] true true), (24, .cells 3 [[.ro 4 (q.map eQ) qe, .ro 1 (z.map eU8) ze, .int .u8 r]] true true)], 25⟩) R ∧ R.length ≤ 12 ∧ (∀ e ∈ R, GoodE ks e) ∧ (keysE R).Nodup := by
     intro e he hge2
     have := ih (i + 1) (by omega) (G ++ [e]) (by simp) (by simp; omega) (by
      intro y hy
      rcases List.mem_append.1 hy with q | q
      · exact hge y q
      · simp at q; rw [q]; exact hge2) (by simpa [keysE, he] using hn)
     simpa using this
    by_cases c2 : G.length < z.length
    · by_cases c3 : (0 : Int) < z[G.length]
      · have hzz := hz _ (List.getElem_mem c2)
        have hm : z[G.length].tmod 40 = z[G.length] % 40 := Int.tmod_eq_emod_of_nonneg hzz.1
        have hm1 : (0 : Int) ≤ z[G.length] % 40 := Int.emod_nonneg _ (by omega)
        have hm2 : z[G.length] % 40 < 40 := Int.emod_lt_of_pos _ (by omega)
        obtain ⟨R, this, hR⟩ := step ⟨l[i], 1 + z[G.length] % 40, true⟩ rfl ⟨gx, c1, by simp only; omega, .inl rfl⟩
        refine ⟨R, ?_, hR⟩
        rw [c1] at hii
        generalize z[G.length] % 40 = M at *
        rw [ck_unf w130_B0.eq_1]
        simp at this
        simp (disch := omega) [h1, c2, c3, hm, hii, hfr, hfit, wI64, wU8, H.inl, inlB, H.pp, ppB, this]
      · obtain ⟨R, this, hR⟩ := step (fre ks l[i]) rfl ⟨gx, c1, by unfold fre; simp only; omega, .inr rfl⟩
        refine ⟨R, ?_, hR⟩
        rw [c1] at hii
        simp only [fre] at this
        rw [ck_unf w130_B0.eq_1]
        simp at this
        simp (disch := omega) [h1, c2, c3, hii, hfr, hfit, wI64, wU8, H.inl, inlB, H.pp, ppB, this]
    · obtain ⟨R, this, hR⟩ := step (fre ks l[i]) rfl ⟨gx, c1, by unfold fre; simp only; omega, .inr rfl⟩
      refine ⟨R, ?_, hR⟩
      rw [c1] at hii
      simp only [fre] at this
      rw [ck_unf w130_B0.eq_1]
      simp at this
      simp (disch := omega) [h1, c2, hii, hfr, hfit, wI64, wU8, H.inl, inlB, H.pp, ppB, this]
  · have c1' : 0 < itE ks 12 l[i] false := by omega
    obtain ⟨R, this, hR⟩ := ih (i + 1) (by omega) G hne (by omega) hge (by
     refine List.Nodup.sublist ?_ hn; exact List.Sublist.append (List.Sublist.refl _) (List.sublist_cons_self _ _))
    refine ⟨R, ?_, hR⟩
    generalize itE ks 12 l[i] false = E at *
    rw [ck_unf w130_B0.eq_1]
    simp at this
    simp (disch := omega) [h1, c1', hii, wI64, H.inl, inlB, H.pp, ppB, this]
theorem lof156_nil (H : HasL156 C) (E0 E1 : List (List AV)) (ks : List Kd) (hks : KsIn ks) (l : List It) (le : Bool) (hl : l.length ≤ 12) (hg : ∀ x ∈ l, Good x) (q : List Q4) (qe : Bool) (z : List Int) (ze : Bool) (hz : ∀ s ∈ z, 0 ≤ s ∧ s ≤ 255) (hzl : z.length < 9223372036854775808) (r : Int) : ∀ n i, n + i = l.length →
 (keysE [] ++ (l.drop i).map It.k).Nodup →
 ∃ R : List En, LofR156 ks E0 E1 (CK C 19 (fnEndW [.cell 2 2 true, .cell 3 1 true]) [.sq w130_L0, .bk 0 ⟨true, [6, 4, 3, 2], []⟩, .sq w130_c0] w130_B0 ⟨[(7, .int .i64 i), (6, .ptr 19 0 0), (5, .ro 4 (l.map cIt) le), (4, .ptr 20 0 0), (3, .ptr 21 0 0), (2, .ptr 22 0 0), (1, .ptr 23 0 0)], [(0, .cells 3 E0 true true), (1, .cells 7 E1 true true), (19, .cells 1 [[.ro 6 [] true]] true true), (20, .cells 2 [[.ro 9 (ks.map eKd) true, .int .i64 12]] true true), (21, .cells 1 [[.ro 6 [] true]] true true), (22, .cells 2 [[.ro 9 [] true, .int .i64 0]] true true), (23, .cells 3 [[.ro 4 (q.map eQ) qe, .ro 1 (z.map eU8) ze, .int .u8 r]] true true)], 24⟩) R ∧ R.length ≤ 12 ∧ (∀ e ∈ R, GoodE ks e) ∧ (keysE R).Nodup := by
 intro n
 induction n with
 | zero =>
  intro i hi  hn
  have h1 : l.drop i = [] := List.drop_eq_nil_of_le (by omega)
  have h3 : ¬ i < l.length := by omega
  refine ⟨[], ?_, by simp, by simp, by simp⟩
  rw [ck_unf w130_B0.eq_1]
  simp [ck_unf w130_c0.eq_1, h3, LofR156]
 | succ n ih =>
  intro i hi  hn
  have h1 : i < l.length := by omega
  have gx := hg _ (List.getElem_mem h1)
  have hii := ritem_ok H.toHasG.toHasK ks true 12 l[i] gx.it hks.r false
  have hfr := rfresh_ok H.toHasG.toHasK ks true 12 l[i] gx.it (by have := gx.t; have := hks.l; omega)
  have hbase := hks.b l[i].t gx.t.1 gx.t.2
  rw [drop_cons h1, List.map_cons] at hn
  simp only [aR, eIt, Bool.false_eq_true, if_false] at hii
  simp only [aR, eIt, aE, eEn, fre] at hfr
  have hE0 : 0 ≤ itE ks 12 l[i] false := by unfold itE; repeat (first | omega | split)
  by_cases c1 : itE ks 12 l[i] false = 0
  · have step : ∀ e : En, e.i = l[i] → GoodE ks e → ∃ R : List En, LofR156 ks E0 E1 (CK C 19 (fnEndW [.cell 2 2 true, .cell 3 1 true]) [.sq w130_L0, .bk 0 ⟨true, [6, 4, 3, 2], []⟩, .sq w130_c0] w130_B0 ⟨[(7, .int .i64 ((i : Int) + 1)), (6, .ptr 19 0 0), (5, .ro 4 (l.map cIt) le), (4, .ptr 21 0 0), (3, .ptr 22 0 0), (2, .ptr 23 0 0), (1, .ptr 24 0 0)], [(0, .cells 3 E0 true true), (1, .cells 7 E1 true true), (19, .cells 1 [[.sl 20 6 0 1 1 false]] true false), (20, .cells 6 [eEn e] true true), (21, .cells 2 [[.ro 9 (ks.map eKd) true, .int .i64 12]] true true), (22, .cells 1 [[.ro 6 [] true]] true true), (23, .cells 2 [[.ro 9 [] true, .int .i64 0]] true true), (24, .cells 3 [[.ro 4 (q.map eQ) qe, .ro 1 (z.map eU8) ze, .int .u8 r]] true true)], 25⟩) R ∧ R.length ≤ 12 ∧ (∀ e ∈ R, GoodE ks e) ∧ (keysE R).Nodup := by
     intro e he hge2
     have := lof156_sl H E0 E1 ks hks l le hl hg q qe z ze hz hzl r n (i + 1) (by omega) [e] (by simp) (by simp) (by simpa using hge2) (by simpa [keysE, he] using hn)
     simpa using this
    by_cases c2 : 0 < z.length
    · by_cases c3 : (0 : Int) < z[0]
      · have hzz := hz _ (List.getElem_mem c2)
        have hm : z[0].tmod 40 = z[0] % 40 := Int.tmod_eq_emod_of_nonneg hzz.1
        have hm1 : (0 : Int) ≤ z[0] % 40 := Int.emod_nonneg _ (by omega)
        have hm2 : z[0] % 40 < 40 := Int.emod_lt_of_pos _ (by omega)
        obtain ⟨R, this, hR⟩ := step ⟨l[i], 1 + z[0] % 40, true⟩ rfl ⟨gx, c1, by simp only; omega, .inl rfl⟩
        refine ⟨R, ?_, hR⟩
        rw [c1] at hii
        generalize z[0] % 40 = M at *
        rw [ck_unf w130_B0.eq_1]
        simp at this
        simp (disch := omega) [h1, c2, c3, hm, hii, hfr, wI64, wU8, H.inl, inlB, H.pp, ppB, this]
      · obtain ⟨R, this, hR⟩ := step (fre ks l[i]) rfl ⟨gx, c1, by unfold fre; simp only; omega, .inr rfl⟩
        refine ⟨R, ?_, hR⟩
        rw [c1] at hii
        simp only [fre] at this
        rw [ck_unf w130_B0.eq_1]
        simp at this
        simp (disch := omega) [h1, c2, c3, hii, hfr, wI64, wU8, H.inl, inlB, H.pp, ppB, this]
    · obtain ⟨R, this, hR⟩ := step (fre ks l[i]) rfl ⟨gx, c1, by unfold fre; simp only; omega, .inr rfl⟩
      refine ⟨R, ?_, hR⟩
      rw [c1] at hii
      simp only [fre] at this
      rw [ck_unf w130_B0.eq_1]
      simp at this
      simp (disch := omega) [h1, c2, hii, hfr, wI64, wU8, H.inl, inlB, H.pp, ppB, this]
  · have c1' : 0 < itE ks 12 l[i] false := by omega
    obtain ⟨R, this, hR⟩ := ih (i + 1) (by omega) (by
     simp only [keysE, List.map_nil, List.nil_append] at hn ⊢; exact (List.nodup_cons.1 hn).2)
    refine ⟨R, ?_, hR⟩
    generalize itE ks 12 l[i] false = E at *
    rw [ck_unf w130_B0.eq_1]
    simp at this
    simp (disch := omega) [h1, c1', hii, wI64, H.inl, inlB, H.pp, ppB, this]
theorem lof156_ok (H : HasL156 C) (hone : ∀ q : Q4, QIn q → ∃ i : It, FnW C 422 [.agg (eQ q)] = some (eIt i) ∧ Good i) (E0 E1 : List (List AV)) (q : List Q4) (qe : Bool) (hq : ∀ x ∈ q, QIn x) (z : List Int) (ze : Bool) (hz : ∀ s ∈ z, 0 ≤ s ∧ s ≤ 255) (hzl : z.length < 9223372036854775808) (r : Int) (hr : 0 ≤ r ∧ r ≤ 255) :
 ∃ R : List En, LofR156 (kindsOf r) E0 E1 (RnW C 2003 [.agg [.ro 4 (q.map eQ) qe, .ro 1 (z.map eU8) ze, .int .u8 r]] [(0, .cells 3 E0 true true), (1, .cells 7 E1 true true)] 19) R ∧ R.length ≤ 12 ∧ (∀ e ∈ R, GoodE (kindsOf r) e) ∧ (keysE R).Nodup := by
 obtain ⟨I, hI, l1, l2, l3⟩ := items_ok H.toHasG hone q qe hq
 have hk := kinds_ok H.toHasG r hr
 obtain ⟨R, h, hR⟩ := lof156_nil H E0 E1 (kindsOf r) (ks_in r hr) I false l1 l2 q qe z ze hz hzl r I.length 0 (by simp) (by simpa [keysE] using l3)
 refine ⟨R, ?_, hR⟩
 rw [rnW_eq (args := [.agg [.ro 4 (q.map eQ) qe, .ro 1 (z.map eU8) ze, .int .u8 r]]) H.f2003 rfl]
 generalize kindsOf r = ks at *
 simp at h
 simp [w130, hI, hk, H.inl, inlB, H.pp, ppB]
 exact h
end Go.D
end
section
set_option linter.unusedSimpArgs false
set_option linter.unusedVariables false
namespace Go.D
open Go Go.Pav Go.Pw P
set_option maxRecDepth 10000
set_option maxHeartbeats 4000000
set_option linter.unusedSimpArgs false
set_option linter.unusedVariables false
attribute [-simp] List.getElem_cons_drop
variable {C : WProg}
structure HasHo (C : WProg) : Prop extends HasO30 C, HasL156 C where
 f156 : C.fns.get 156 = some w156
structure HoS (C : WProg) (ks : List Kd) (X : List En) (f : Bool) (s B W a n p g h x pl : Int) (fa fn_ : Bool) (D : List Int) (S : List Se) (u u2 : Bool) : Prop where
 c147 : FnW C 147 [aR ks true 12, .ro 6 (X.map eEn) f, .int .i64 s] = some (.int .i64 B)
 c148 : FnW C 148 [aR ks true 12, aL X f, .int .i64 s] = some (.tup [.int .i64 a, .bool fa, .int .i64 B])
 c310 : FnW C 310 [aR ks true 12, aL X f, .int .i64 s] = some (.tup [.int .i64 n, .bool fn_, .int .i64 B])
 c150 : FnW C 150 [aR ks true 12, aL X f, .int .i64 s] = some (.tup [.int .i64 p, .int .i64 g])
 c305 : FnW C 305 [aR ks true 12, aL X f] = some (.tup [.ro 1 (D.map eI) true, .int .i64 W])
 c152 : FnW C 152 [aR ks true 12, aL X f] = some (.tup [.ro 4 (S.map eSe) true, .int .i64 W])
 c235 : FnW C 235 [aR ks true 12, .ro 6 (X.map eEn) f] = some (.int .i64 W)
 bad1 : W ≠ 0 → B = W ∧ g = W ∧ a = 0 ∧ fa = false ∧ n = 0 ∧ fn_ = false ∧ p = 0 ∧ D = [] ∧ S = []
 c308 : W = 0 → FnW C 308 [aR ks true 12, .ro 6 (X.map eEn) f] = some (.ro 1 (D.map eI) u)
 c154 : W = 0 → FnW C 154 [aR ks true 12, .ro 6 (X.map eEn) f] = some (.ro 4 (S.map eSe) u2)
 c136 : FnW C 136 [.ro 1 (D.map eI) true, .ro 1 (D.map eI) u] = some (.int .i64 1)
 c153 : FnW C 153 [.ro 4 (S.map eSe) true, .ro 4 (S.map eSe) u2] = some (.int .i64 1)
 bad2 : W = 0 → B ≠ 0 → g = B ∧ a = 0 ∧ fa = false ∧ n = 0 ∧ fn_ = false ∧ p = 0
 c149 : W = 0 → B = 0 → FnW C 149 [aR ks true 12, .ro 6 (X.map eEn) f, .int .i64 s] = some (.int .i64 h)
 c311 : W = 0 → B = 0 → FnW C 311 [aR ks true 12, .ro 6 (X.map eEn) f, .int .i64 s] = some (.int .i64 x)
 good : W = 0 → B = 0 → (fa = decide (0 ≤ h)) ∧ a = imax h 0 ∧ fn_ = decide (0 ≤ x) ∧ n = imax x 0
 gh : W = 0 → B = 0 → h < 0 → g = 11 ∧ p = 0
 gg : W = 0 → B = 0 → 0 ≤ h → g = 0 ∧ p = pl ∧ FnW C 151 [aR ks true 12, .ro 6 (X.map eEn) f, .int .i64 s, .int .i64 h] = some (.int .i64 pl)
theorem hos_ok (H : HasHo C) (r : Int) (hr : 0 ≤ r ∧ r ≤ 255) (l : List En) (f : Bool) (hl : l.length ≤ 12) (hs : ∀ x ∈ l, EnIn x) (s : Int) (hsb : -9223372036854775808 ≤ s ∧ s ≤ 9223372036854775807)
 (hck : ckE (kindsOf r) 12 l = 0 → Szd l ∧ ∀ x ∈ l, 0 ≤ x.i.t ∧ x.i.t < (kindsOf r).length) (hnn : 0 ≤ ckE (kindsOf r) 12 l) :
 ∃ B W a n p g h x pl fa fn_ D S u u2, HoS C (kindsOf r) l f s B W a n p g h x pl fa fn_ D S u u2 := by
 have c147 := rerror_ok H.toHasO30 (kindsOf r) true 12 (ru_in r) l f (by omega) hs hck hnn s
 have c305 := headers_ok H.toHasH30 (kindsOf r) true 12 (ru_in r) l f (by omega) hs (fun q => (hck q).2)
 have c152 := sections_ok H.toHasS30 (kindsOf r) true 12 (ru_in r) l f (by omega) hs hck
 have c235 := rlcheck_ok H.toHasK (kindsOf r) true 12 (ru_in r) l f (by omega) hs
 unfold secE at c152
 have hdl := hdI_len (kindsOf r) l 0
 have hsl := secA_len (kindsOf r) l
 by_cases c : ckE (kindsOf r) 12 l = 0
 · obtain ⟨hz, ht⟩ := hck c
   rw [if_pos c, c] at c305 c152
   rw [c] at c235
   have c308 := rheaders_ok H.toHasH30 (kindsOf r) true 12 l f (by omega) ht
   obtain ⟨u2, c154⟩ := rsections_ok H.toHasR30 (kindsOf r) true 12 l f hz ht
   have s1 := intsame_ok H.toHasWn (hdI (kindsOf r) l 0) true false (by omega)
   have s2 := same30_ok H.toHasO30 (secA (kindsOf r) l) true u2 (by omega)
   by_cases d : offE (kindsOf r) 12 l s = 0
   · rw [d] at c147
     have c149 := rhead_ok H.toHasHd (kindsOf r) true 12 l f s hz ht
     have c311 := rnext_ok H.toHasO30 (kindsOf r) true 12 l f s hz ht
     have hx := d
     unfold offE at hx
     rw [if_neg (by simpa using c)] at hx
     by_cases n0 : l.length = 0
     · have hnil : l = [] := List.eq_nil_of_length_eq_zero n0
       subst hnil
       have hs0 : s = 0 := by
        split at hx
        · cases hx
        · rename_i q; simp [top_0] at q; omega
       subst hs0
       obtain ⟨k1, k2, k3⟩ := hes_nil H.toHasS30 (kindsOf r) true 12 (ru_in r) f c hz
       have e1 : hrA (kindsOf r) [] 0 = -1 := rfl
       have e2 : nxF (kindsOf r) [] 0 ([] : List En).length 0 = -1 := rfl
       rw [e1] at c149
       rw [e2] at c311
       exact ⟨0, 0, 0, 0, 0, 11, -1, -1, 0, false, false, _, _, false, u2, c147, by simpa using k1, by simpa using k2, by simpa using k3, c305, c152, c235, fun q => absurd rfl q, fun _ => c308, fun _ => c154, s1, s2, fun _ q => absurd rfl q, fun _ _ => c149, fun _ _ => c311,
        fun _ _ => ⟨by simp, by simp [imax], by simp, by simp [imax]⟩, fun _ _ _ => ⟨rfl, rfl⟩, fun _ _ q => by omega⟩
     · have hst : 0 ≤ s ∧ s < top l l.length := by
        split at hx
        · cases hx
        · omega
       have htb := top_b hz l.length (Nat.le_refl _)
       obtain ⟨k1, k2, k3⟩ := hes_ok H.toHasS30 (kindsOf r) true 12 (ru_in r) l f (by omega) hs c hz ht s (by omega) hst.1 hst.2
       have hb := hrA_bd' (kindsOf r) l s
       refine ⟨0, 0, _, _, _, _, hrA (kindsOf r) l s, nxF (kindsOf r) l s l.length 0, plA (kindsOf r) l s (hrA (kindsOf r) l s).toNat, _, _, _, _, false, u2, c147, k1, k2, k3, c305, c152, c235, fun q => absurd rfl q, fun _ => c308, fun _ => c154, s1, s2, fun _ q => absurd rfl q, fun _ _ => c149, fun _ _ => c311, fun _ _ => ⟨rfl, ?_, rfl, ?_⟩, fun _ _ q => ⟨by rw [if_neg (by omega)], by rw [if_neg (by omega)]⟩, fun _ _ q => ⟨by rw [if_pos q], by rw [if_pos q], ?_⟩⟩
       · unfold imax; split <;> split <;> omega
       · unfold imax; split <;> split <;> omega
       · obtain ⟨t, hT⟩ : ∃ t : Nat, hrA (kindsOf r) l s = t := ⟨(hrA (kindsOf r) l s).toNat, by omega⟩
         rw [hT, show ((t : Int)).toNat = t from rfl]
         exact place_ok H.toHasHd (kindsOf r) true 12 l f s (by omega) hz ht t (by omega)
   · obtain ⟨k1, k2, k3⟩ := hes_bad H.toHasS30 (kindsOf r) true 12 (ru_in r) l f (by omega) hs hck s d
     exact ⟨_, 0, 0, 0, 0, _, 0, 0, 0, false, false, _, _, false, u2, c147, k1, k2, k3, c305, c152, c235, fun q => absurd rfl q, fun _ => c308, fun _ => c154, s1, s2, fun _ _ => ⟨rfl, rfl, rfl, rfl, rfl, rfl⟩, fun _ q => absurd q d, fun _ q => absurd q d, fun _ q => absurd q d, fun _ q => absurd q d, fun _ q => absurd q d⟩
 · have hB : offE (kindsOf r) 12 l s = ckE (kindsOf r) 12 l := by unfold offE; rw [if_pos c]
   rw [if_neg c] at c305 c152
   obtain ⟨k1, k2, k3⟩ := hes_bad H.toHasS30 (kindsOf r) true 12 (ru_in r) l f (by omega) hs hck s (by rw [hB]; exact c)
   rw [hB] at k1 k2 k3 c147
   have s1 := intsame_ok H.toHasWn [] true true (by simp)
   have s2 := same30_ok H.toHasO30 [] true true (by simp)
   exact ⟨_, _, 0, 0, 0, _, 0, 0, 0, false, false, [], [], true, true, c147, k1, k2, k3, c305, c152, c235, fun _ => ⟨rfl, rfl, rfl, rfl, rfl, rfl, rfl, rfl, rfl⟩, fun q => absurd q c, fun q => absurd q c, s1, s2, fun q => absurd q c, fun q => absurd q c, fun q => absurd q c, fun q => absurd q c, fun q => absurd q c, fun q => absurd q c⟩
end Go.D
end
section
set_option linter.unusedSimpArgs false
set_option linter.unusedVariables false
namespace Go.D
open Go Go.Pav Go.Pw P
set_option maxRecDepth 10000
set_option maxHeartbeats 4000000
set_option linter.unusedSimpArgs false
set_option linter.unusedVariables false
attribute [-simp] List.getElem_cons_drop
variable {C : WProg}
end Go.D
end
section
set_option linter.unusedSimpArgs false
set_option linter.unusedVariables false
namespace Go.D
open Go Go.Pav Go.Pw P
set_option maxRecDepth 10000
set_option maxHeartbeats 4000000
set_option linter.unusedSimpArgs false
set_option linter.unusedVariables false
attribute [-simp] List.getElem_cons_drop
variable {C : WProg}
end Go.D
end
section
set_option linter.unusedSimpArgs false
set_option linter.unusedVariables false
namespace Go.D
open Go Go.Pav Go.Pw P
set_option maxRecDepth 10000
set_option maxHeartbeats 4000000
set_option linter.unusedSimpArgs false
set_option linter.unusedVariables false
attribute [-simp] List.getElem_cons_drop
variable {C : WProg}
end Go.D
end
section
set_option linter.unusedSimpArgs false
set_option linter.unusedVariables false
namespace Go.D
open Go Go.Pav Go.Pw P
set_option maxRecDepth 10000
set_option maxHeartbeats 4000000
set_option linter.unusedSimpArgs false
set_option linter.unusedVariables false
attribute [-simp] List.getElem_cons_drop
variable {C : WProg}
end Go.D
end
section
set_option linter.unusedSimpArgs false
set_option linter.unusedVariables false
namespace Go.D
open Go Go.Pav Go.Pw P
set_option maxRecDepth 10000
set_option maxHeartbeats 4000000
set_option linter.unusedSimpArgs false
set_option linter.unusedVariables false
attribute [-simp] List.getElem_cons_drop
variable {C : WProg}
theorem chk_allW (ks : List Kd) : ∀ (l : List En) (s : List Int), chk ks 12 s l = 0 → ∀ e ∈ l, itE ks 12 e.i false = 0 ∧ hOk e.s = true ∧ (e.kn = true ∨ e.s = (kdAt ks e.i.t).b)
 | [], _, _, e, he => by cases he
 | x :: r, s, h, e, he => by
  rw [chk] at h
  by_cases c : enE ks 12 x (s.contains x.i.k) = 0
  · rw [if_neg (by simpa using c)] at h
    rcases List.mem_cons.1 he with q | q
    · subst q
      unfold enE at c
      by_cases d : itE ks 12 e.i (s.contains e.i.k) = 0
      · rw [if_neg (by simpa using d)] at c
        have hd : itE ks 12 e.i false = 0 := by
         unfold itE at d ⊢
         split at d
         · cases d
         · rename_i g
           rw [if_neg g, if_neg (by simp)]
           split at d
           · cases d
           · exact d
        by_cases g : hOk e.s = true ∧ (e.kn = true ∨ e.s = (kdAt ks e.i.t).b)
        · exact ⟨hd, g⟩
        · rw [if_neg g] at c; cases c
      · rw [if_pos d] at c; exact absurd c d
    · exact chk_allW ks r _ h e q
  · rw [if_pos c] at h; exact absurd h c
end Go.D
end
section
set_option linter.unusedSimpArgs false
set_option linter.unusedVariables false
namespace Go.D
open Go Go.Pav Go.Pw P
set_option maxRecDepth 10000
set_option maxHeartbeats 4000000
set_option linter.unusedSimpArgs false
set_option linter.unusedVariables false
attribute [-simp] List.getElem_cons_drop
variable {C : WProg}
theorem enE_nn (ks : List Kd) (cap : Int) (e : En) (b : Bool) : 0 ≤ enE ks cap e b := by
 have h : ∀ b, 0 ≤ itE ks cap e.i b := by intro b; unfold itE; repeat (first | omega | split)
 have := h b
 unfold enE
 repeat (first | omega | split)
theorem chk_nn (ks : List Kd) (cap : Int) : ∀ (l : List En) (s : List Int), 0 ≤ chk ks cap s l
 | [], _ => by rw [chk]; omega
 | e :: r, s => by
  rw [chk]
  split
  · exact enE_nn ..
  · exact chk_nn ks cap r _
theorem ckE_nn (ks : List Kd) (cap : Int) (l : List En) : 0 ≤ ckE ks cap l := by
 have := chk_nn ks cap l []
 unfold ckE ovE
 repeat (first | omega | split)
theorem t_of_ck {r : Int} {l : List En} (hr : 0 ≤ r ∧ r ≤ 255) (hs : ∀ x ∈ l, EnIn x) (h : ckE (kindsOf r) 12 l = 0) : ∀ x ∈ l, 0 ≤ x.i.t ∧ x.i.t < (kindsOf r).length := by
 have hru := ru_ok r hr
 have h2 : chk (kindsOf r) 12 [] l = 0 := by
  unfold ckE at h
  rw [hru, if_neg (by simp)] at h
  split at h
  · cases h
  · by_cases c : chk (kindsOf r) 12 [] l = 0
    · exact c
    · rw [if_pos c] at h; exact absurd h c
 intro x hx
 obtain ⟨a1, a2, a3⟩ := chk_allW (kindsOf r) l [] h2 x hx
 have q := itOk_t (itE_rnd a1).1
 have := (hs x hx).i.t
 omega
end Go.D
end
section
set_option linter.unusedSimpArgs false
set_option linter.unusedVariables false
namespace Go.D
open Go Go.Pav Go.Pw P
set_option maxRecDepth 10000
set_option maxHeartbeats 8000000
set_option linter.unusedSimpArgs false
set_option linter.unusedVariables false
attribute [-simp] List.getElem_cons_drop
variable {C : WProg}
theorem ck_szd {r : Int} {l : List En} (hr : 0 ≤ r ∧ r ≤ 255) (hl : l.length ≤ 12) (hs : ∀ x ∈ l, EnIn x) (h : ckE (kindsOf r) 12 l = 0) : Szd l ∧ ∀ x ∈ l, 0 ≤ x.i.t ∧ x.i.t < (kindsOf r).length := by
 refine ⟨?_, t_of_ck hr hs h⟩
 have hru := ru_ok r hr
 have h2 : chk (kindsOf r) 12 [] l = 0 ∧ ovE l = 0 := by
  unfold ckE at h
  rw [hru, if_neg (by simp), if_neg (by omega)] at h
  by_cases c : chk (kindsOf r) 12 [] l = 0
  · rw [if_neg (by simpa using c)] at h; exact ⟨c, h⟩
  · rw [if_pos c] at h; exact absurd h c
 have hall := chk_allW (kindsOf r) l [] h2.1
 refine szd_of ?_
 unfold szE
 rw [if_neg (by omega), if_neg, h2.2]
 intro q
 obtain ⟨x, hx, q⟩ := List.any_eq_true.1 q
 rw [(hall x hx).2.1] at q
 cases q
theorem ho_end (H : HasHo C) (hone : ∀ q : Q4, QIn q → ∃ i : It, FnW C 422 [.agg (eQ q)] = some (eIt i) ∧ Good i) (hlives : FnW C 157 [] = some (.bool true))
 (q : List Q4) (qe : Bool) (hq : ∀ x ∈ q, QIn x) (z : List Int) (ze : Bool) (hz : ∀ s ∈ z, 0 ≤ s ∧ s ≤ 255) (hzl : z.length < 9223372036854775808) (r : Int) (hr : 0 ≤ r ∧ r ≤ 255)
 (e : En) (he : EnIn e) (s : Int) (bent : Bool) (hsb : -9223372036854775808 ≤ s ∧ s ≤ 9223372036854775807) (c1 : ¬ (70 : Int) < e.i.x.length) (c2 : e.i.m.length = 0) :
 FnW C 156 [.agg [.ro 4 (q.map eQ) qe, .ro 1 (z.map eU8) ze, .int .u8 r], .int .i64 s, .agg (.bool bent :: eEn e)] = some (.bool true) := by
 obtain ⟨R, hR, hl, hg, hn⟩ := lof156_ok H.toHasL156 hone [[.ro 4 (q.map eQ) qe, .ro 1 (z.map eU8) ze, .int .u8 r]] [.bool bent :: eEn e] q qe hq z ze hz hzl r hr
 rw [fnW_eq H.f156 rfl]
 have fin : ∀ (X : List En) (f : Bool), X.length ≤ 12 → (∀ x ∈ X, EnIn x) → ∃ B W a n p g h x pl fa fn_ D S u u2, HoS C (kindsOf r) X f s B W a n p g h x pl fa fn_ D S u u2 := fun X f h1 h2 => hos_ok H r hr X f h1 h2 s hsb (ck_szd hr h1 h2) (ckE_nn ..)
 have key : ∀ (X : List En) (f : Bool) (ks : List Kd), (∃ B W a n p g h x pl fa fn_ D S u u2, HoS C ks X f s B W a n p g h x pl fa fn_ D S u u2) → True := fun _ _ _ _ => trivial
 rcases hR with ⟨rfl, hR⟩ | ⟨hne, hR⟩
 · obtain ⟨B, W, a, n, p, g, h, x, pl, fa, fn_, D, S, u, u2, E⟩ := fin [] true (by simp) (by simp)
   obtain ⟨k1, k2, k3, k4, k5, k6, k7, b1, k8, k9, k10, k11, b2, k12, k13, g1, g2, g3⟩ := E
   generalize kindsOf r = ks at *
   simp only [eEn, aR] at hR
   simp only [aL, aR, List.map_nil] at k1 k2 k3 k4 k5 k6 k7 k8 k9 k12 k13 g3
   by_cases w : W = 0
   · subst w
     have k8 := k8 rfl
     have k9 := k9 rfl
     by_cases b : B = 0
     · subst b
       have k12 := k12 rfl rfl
       have k13 := k13 rfl rfl
       obtain ⟨e1, e2, e3, e4⟩ := g1 rfl rfl
       subst e1; subst e2; subst e3; subst e4
       by_cases d : h < 0
       · obtain ⟨e5, e6⟩ := g2 rfl rfl d
         subst e5; subst e6
         cases bent <;> simp (disch := omega) [w156, eEn, c1, c2, hR, k1, k2, k3, k4, k5, k6, k7, k8, k9, k10, k11, k12, k13, d, imax, hlives, wI64, H.inl, inlB, H.pp, ppB]
       · obtain ⟨e5, e6, e7⟩ := g3 rfl rfl (by omega)
         subst e5; subst e6
         cases bent <;> simp (disch := omega) [w156, eEn, c1, c2, hR, k1, k2, k3, k4, k5, k6, k7, k8, k9, k10, k11, k12, k13, d, e7, imax, hlives, wI64, H.inl, inlB, H.pp, ppB]
     · obtain ⟨e1, e2, e3, e4, e5, e6⟩ := b2 rfl b
       subst e1; subst e2; subst e3; subst e4; subst e5; subst e6
       cases bent <;> simp (disch := omega) [w156, eEn, c1, c2, hR, k1, k2, k3, k4, k5, k6, k7, k8, k9, k10, k11, b, hlives, wI64, H.inl, inlB, H.pp, ppB]
   · obtain ⟨e1, e2, e3, e4, e5, e6, e7, e8, e9⟩ := b1 w
     subst e1; subst e2; subst e3; subst e4; subst e5; subst e6; subst e7; subst e8; subst e9
     simp only [List.map_nil] at k5 k6
     cases bent <;> simp (disch := omega) [w156, eEn, c1, c2, hR, k1, k2, k3, k4, k5, k6, k7, w, hlives, wI64, H.inl, inlB, H.pp, ppB]
 · have hpos : 0 < R.length := List.length_pos_iff.2 hne
   have hmid : R.length / 2 < R.length := by omega
   have hq2 : (R.length : Int).tdiv 2 = ((R.length / 2 : Nat) : Int) := by
    rw [Int.tdiv_eq_ediv_of_nonneg (by omega)]; omega
   have hset : (R.map eEn).set (R.length / 2) [.int .u64 e.i.k, .int .u8 e.i.t, .str e.i.x, .ro 1 (e.i.m.map eS) e.i.e, .int .i64 e.s, .bool e.kn] = (R.set (R.length / 2) e).map eEn := by
    rw [List.map_set]; rfl
   obtain ⟨X, hX, hXl, hXs⟩ : ∃ X : List En, X = (if bent = true then R.set (R.length / 2) e else R) ∧ X.length = R.length ∧ ∀ x ∈ X, EnIn x := by
    refine ⟨_, rfl, by split <;> simp, fun x hx => ?_⟩
    split at hx
    · rcases List.mem_or_eq_of_mem_set hx with h | h
      · exact (hg x h).en
      · subst h; exact he
    · exact (hg x hx).en
   obtain ⟨B, W, a, n, p, g, h, x, pl, fa, fn_, D, S, u, u2, E⟩ := fin X false (by omega) hXs
   obtain ⟨k1, k2, k3, k4, k5, k6, k7, b1, k8, k9, k10, k11, b2, k12, k13, g1, g2, g3⟩ := E
   have htk : List.take R.length (X.map eEn) = X.map eEn := List.take_of_length_le (by simp; omega)
   have hcase : (bent = false ∧ X = R) ∨ (bent = true ∧ X = R.set (R.length / 2) e) := by
    cases bent
    · exact .inl ⟨rfl, by simpa using hX⟩
    · exact .inr ⟨rfl, by simpa using hX⟩
   clear hX
   generalize kindsOf r = ks at *
   simp only [eEn, aR] at hR
   simp only [aL, aR] at k1 k2 k3 k4 k5 k6 k7 k8 k9 k12 k13 g3
   generalize R.length / 2 = mid at *
   rcases hcase with ⟨rfl, hX⟩ | ⟨rfl, hX⟩
   · subst hX
     clear hset
     have hset : True := trivial
     by_cases w : W = 0
     · subst w
       have k8 := k8 rfl
       have k9 := k9 rfl
       by_cases b : B = 0
       · subst b
         have k12 := k12 rfl rfl
         have k13 := k13 rfl rfl
         obtain ⟨e1, e2, e3, e4⟩ := g1 rfl rfl
         subst e1; subst e2; subst e3; subst e4
         by_cases d : h < 0
         · obtain ⟨e5, e6⟩ := g2 rfl rfl d
           subst e5; subst e6
           simp (disch := omega) [w156, eEn, c1, c2, hR, hpos, hmid, hset, htk, hq2, k1, k2, k3, k4, k5, k6, k7, k8, k9, k10, k11, k12, k13, d, imax, hlives, wI64, H.inl, inlB, H.pp, ppB]
         · obtain ⟨e5, e6, e7⟩ := g3 rfl rfl (by omega)
           subst e5; subst e6
           simp (disch := omega) [w156, eEn, c1, c2, hR, hpos, hmid, hset, htk, hq2, k1, k2, k3, k4, k5, k6, k7, k8, k9, k10, k11, k12, k13, d, e7, imax, hlives, wI64, H.inl, inlB, H.pp, ppB]
       · obtain ⟨e1, e2, e3, e4, e5, e6⟩ := b2 rfl b
         subst e1; subst e2; subst e3; subst e4; subst e5; subst e6
         simp (disch := omega) [w156, eEn, c1, c2, hR, hpos, hmid, hset, htk, hq2, k1, k2, k3, k4, k5, k6, k7, k8, k9, k10, k11, b, hlives, wI64, H.inl, inlB, H.pp, ppB]
     · obtain ⟨e1, e2, e3, e4, e5, e6, e7, e8, e9⟩ := b1 w
       subst e1; subst e2; subst e3; subst e4; subst e5; subst e6; subst e7; subst e8; subst e9
       simp only [List.map_nil] at k5 k6
       simp (disch := omega) [w156, eEn, c1, c2, hR, hpos, hmid, hset, htk, hq2, k1, k2, k3, k4, k5, k6, k7, w, hlives, wI64, H.inl, inlB, H.pp, ppB]
   · rw [← hX] at hset
     clear hX
     by_cases w : W = 0
     · subst w
       have k8 := k8 rfl
       have k9 := k9 rfl
       by_cases b : B = 0
       · subst b
         have k12 := k12 rfl rfl
         have k13 := k13 rfl rfl
         obtain ⟨e1, e2, e3, e4⟩ := g1 rfl rfl
         subst e1; subst e2; subst e3; subst e4
         by_cases d : h < 0
         · obtain ⟨e5, e6⟩ := g2 rfl rfl d
           subst e5; subst e6
           simp (disch := omega) [w156, eEn, c1, c2, hR, hpos, hmid, hset, hXl, htk, hq2, k1, k2, k3, k4, k5, k6, k7, k8, k9, k10, k11, k12, k13, d, imax, hlives, wI64, H.inl, inlB, H.pp, ppB]
         · obtain ⟨e5, e6, e7⟩ := g3 rfl rfl (by omega)
           subst e5; subst e6
           simp (disch := omega) [w156, eEn, c1, c2, hR, hpos, hmid, hset, hXl, htk, hq2, k1, k2, k3, k4, k5, k6, k7, k8, k9, k10, k11, k12, k13, d, e7, imax, hlives, wI64, H.inl, inlB, H.pp, ppB]
       · obtain ⟨e1, e2, e3, e4, e5, e6⟩ := b2 rfl b
         subst e1; subst e2; subst e3; subst e4; subst e5; subst e6
         simp (disch := omega) [w156, eEn, c1, c2, hR, hpos, hmid, hset, hXl, htk, hq2, k1, k2, k3, k4, k5, k6, k7, k8, k9, k10, k11, b, hlives, wI64, H.inl, inlB, H.pp, ppB]
     · obtain ⟨e1, e2, e3, e4, e5, e6, e7, e8, e9⟩ := b1 w
       subst e1; subst e2; subst e3; subst e4; subst e5; subst e6; subst e7; subst e8; subst e9
       simp only [List.map_nil] at k5 k6
       simp (disch := omega) [w156, eEn, c1, c2, hR, hpos, hmid, hset, hXl, htk, hq2, k1, k2, k3, k4, k5, k6, k7, w, hlives, wI64, H.inl, inlB, H.pp, ppB]
theorem holaw_ok (H : HasHo C) (hone : ∀ q : Q4, QIn q → ∃ i : It, FnW C 422 [.agg (eQ q)] = some (eIt i) ∧ Good i) (hlives : FnW C 157 [] = some (.bool true))
 (q : List Q4) (qe : Bool) (hq : ∀ x ∈ q, QIn x) (z : List Int) (ze : Bool) (hz : ∀ s ∈ z, 0 ≤ s ∧ s ≤ 255) (hzl : z.length < 9223372036854775808) (r : Int) (hr : 0 ≤ r ∧ r ≤ 255)
 (e : En) (hk : 0 ≤ e.i.k ∧ e.i.k < 18446744073709551616) (ht : 0 ≤ e.i.t ∧ e.i.t ≤ 255) (hes : -9223372036854775808 ≤ e.s ∧ e.s ≤ 9223372036854775807)
 (s : Int) (bent : Bool) (hsb : -9223372036854775808 ≤ s ∧ s ≤ 9223372036854775807) :
 FnW C 156 [.agg [.ro 4 (q.map eQ) qe, .ro 1 (z.map eU8) ze, .int .u8 r], .int .i64 s, .agg (.bool bent :: eEn e)] = some (.bool true) := by
 by_cases c1 : (70 : Int) < e.i.x.length
 · rw [fnW_eq H.f156 rfl]
   simp (disch := omega) [w156, eEn, c1, hlives, wI64, H.inl, inlB, H.pp, ppB]
 · by_cases c2 : e.i.m.length = 0
   · exact ho_end H hone hlives q qe hq z ze hz hzl r hr e ⟨⟨hk, ht, by omega⟩, hes⟩ s bent hsb c1 c2
   · rw [fnW_eq H.f156 rfl]
     have c3 : (0 : Int) < e.i.m.length := by omega
     have c4 : ¬ e.i.m = [] := fun q => c2 (by rw [q]; rfl)
     simp (disch := omega) [w156, eEn, c1, c3, c4, hlives, wI64, H.inl, inlB, H.pp, ppB]
end Go.D
end
