/- Part of the theory that the claims of this work use: E02, E03, E04, E06, E08, G01, H01, E12, E13, E07, E09, D46, E15, E16, E10, E11, D30, D31, D38, D40, V600, D47, D48, D49, E17, E18, E19, E31. No conditions of its own. -/
import Derived.Test.YtfombghmbbfpaaaGreatT5
section
set_option linter.unusedSimpArgs false
set_option linter.unusedVariables false
namespace Go.D
open Go Go.Pav Go.Pw P
set_option maxRecDepth 10000
set_option maxHeartbeats 4000000
set_option linter.unusedSimpArgs false
set_option linter.unusedVariables false
attribute [-simp] List.getElem_cons_drop
variable {C : WProg}
structure HasSz (C : WProg) : Prop extends HasL C where
 f122 : C.fns.get 122 = some w122
 f249 : C.fns.get 249 = some w249
 f250 : C.fns.get 250 = some w250
 f246 : C.fns.get 246 = some w246
 f253 : C.fns.get 253 = some w253
def SzB (l : List En) : Prop := ∀ x ∈ l, -9223372036854775808 ≤ x.s ∧ x.s ≤ 9223372036854775807
def szF : Nat → List En → Int
 | _, [] => -1
 | i, e :: r => if hOk e.s = true then szF (i + 1) r else i
theorem szF_any : ∀ (l : List En) (i : Nat), decide (0 ≤ szF i l) = l.any (fun e => !hOk e.s)
 | [], i => by simp [szF]
 | e :: r, i => by
  rw [szF, List.any_cons]
  cases c : hOk e.s
  · simp
  · simp [szF_any r (i + 1)]
theorem szbad_ok (H : HasSz C) (x : En) : FnW C 250 [aE x] = some (.bool (!hOk x.s)) := by
 rw [fnW_eq H.f250 rfl]
 unfold hOk
 by_cases c1 : 1 ≤ x.s
 · have c1' : ¬ x.s < 1 := by omega
   by_cases c2 : x.s ≤ 2305843009213693952
   · have c2' : ¬ 2305843009213693952 < x.s := by omega
     simp [w250, c1, c1', c2, c2']
   · have c2' : 2305843009213693952 < x.s := by omega
     simp [w250, c1, c1', c2, c2']
 · have c1' : x.s < 1 := by omega
   simp [w250, c1, c1']
theorem szidx_loop (H : HasSz C) (l : List En) (e : Bool) (hl : l.length ≤ 1000000) : ∀ n i, n + i = l.length →
 w402_K0 C ⟨[(8, .int .i64 i), (7, .int .i64 l.length), (1, .fn 250 []), (0, .ro 6 (l.map eEn) e)], [], 0⟩ = some (.int .i64 (szF i (l.drop i))) := by
 intro n
 induction n with
 | zero =>
  intro i hi
  simp only [w402_K0]; rw [ck_unf w402_B0.eq_1]
  have h1 : l.drop i = [] := List.drop_eq_nil_of_le (by omega)
  have h3 : ¬ i < l.length := by omega
  simp (disch := omega) [ck_unf w402_c0.eq_1, h1, h3, szF]
 | succ n ih =>
  intro i hi
  have h1 : i < l.length := by omega
  have hf := szbad_ok H l[i]
  have := ih (i + 1) (by omega)
  rw [drop_cons h1, szF]
  simp only [aE, eEn] at hf
  cases c : hOk l[i].s
  · rw [if_neg (by simp)]
    simp [c] at hf
    simp only [w402_K0]; rw [ck_unf w402_B0.eq_1]
    simp (disch := omega) [h1, wI64, hf, H.inl, inlB, H.pp, ppB]
  · rw [if_pos rfl]
    simp [c] at hf
    simp only [w402_K0] at this ⊢; rw [ck_unf w402_B0.eq_1]
    simp at this
    simp (disch := omega) [h1, wI64, hf, H.inl, inlB, H.pp, ppB, this]
theorem szcon_ok (H : HasSz C) (l : List En) (e : Bool) (hl : l.length ≤ 1000000) : FnW C 249 [.ro 6 (l.map eEn) e, .fn 250 []] = some (.bool (l.any fun e => !hOk e.s)) := by
 have h := szidx_loop H l e hl l.length 0 (by simp)
 have key : FnW C 402 [.ro 6 (l.map eEn) e, .fn 250 []] = some (.int .i64 (szF 0 l)) := by
  simp only [w402_K0] at h
  simp at h
  rw [fnW_eq H.f402 rfl]
  simp [w402, h]
 have h2 := szF_any l 0
 rw [fnW_eq H.f249 rfl, ← h2]
 simp [w249, key, H.inl, inlB, H.pp, ppB]
theorem sized_ok (H : HasSz C) (l : List En) (e : Bool) (hl : l.length ≤ 1000000) (hs : SzB l) : FnW C 122 [aL l e] = some (.int .i64 (szE l)) := by
 have h1 := szcon_ok H l e hl
 have h2 := totW_ok H.toHasL l e hl hs
 rw [fnW_eq H.f122 rfl]
 unfold szE ovE
 generalize tot l = T at *
 by_cases c1 : 1024 < l.length
 · simp [w122, c1]
 · cases c2 : l.any fun e => !hOk e.s
   · rw [c2] at h1
     by_cases c3 : 4611686018427387904 < T <;> simp [w122, c1, h1, h2, c3, H.inl, inlB, H.pp, ppB]
   · rw [c2] at h1
     simp [w122, c1, h1, h2, H.inl, inlB, H.pp, ppB]
def tps (l : List En) : List Int := (List.range (l.length + 1)).map (top l)
theorem tps_len (l : List En) : (tps l).length = l.length + 1 := by simp [tps]
theorem tps_get (l : List En) {i : Nat} (h : i < (tps l).length) : (tps l)[i] = top l i := by simp [tps]
theorem tops_loop (H : HasSz C) (l : List En) (e : Bool) (hz : Szd l) : ∀ n i, n + i = l.length → ∀ G : List Int, G = (List.range (i + 1)).map (top l) → G.length = i + 1 →
 w246_K0 C ⟨[(20, .int .i64 i), (19, .int .i64 l.length), (5, .sl 0 1 0 (l.length + 1) (l.length + 1) true), (1, .ptr 1 0 0)], [(0, .cells 1 (G.map eI ++ List.replicate n [.int .i64 0]) true true), (1, .cells 1 [[.ro 6 (l.map eEn) e]] true true)], 2⟩ =
  some (.tup [.ro 1 ((tps l).map eI) true, .int .i64 0]) := by
 intro n
 induction n with
 | zero =>
  intro i hi G hG hGl
  have h3 : ¬ i < l.length := by omega
  have h6 : List.take (l.length + 1) (List.map eI G) = List.map eI G := List.take_of_length_le (by simp; omega)
  have h7 : G.length = l.length + 1 := by omega
  have h8 : tps l = G := by rw [hG]; unfold tps; rw [show i = l.length by omega]
  rw [h8]
  simp only [w246_K0]; rw [ck_unf w246_B0.eq_1]
  simp [ck_unf w246_c0.eq_1, h3, h6, h7]
 | succ n ih =>
  intro i hi G hG hGl
  have hn := hz.n
  have h1 : i < l.length := by omega
  have hr := hz.small i
  have hr2 := hz.small (i + 1)
  have this := ih (i + 1) (by omega) (G ++ [top l (i + 1)]) (by rw [List.range_succ, List.map_append, ← hG]; rfl) (by simp [hGl])
  have hg : (G.map eI ++ List.replicate (n + 1) [AV.int .i64 0])[i]? = some (eI (top l i)) := by
   rw [List.getElem?_append_left (by simp; omega), List.getElem?_map, hG]
   simp
  have h1b : i < l.length + 1 := by omega
  rw [top_succ h1] at hr2 this
  simp only [w246_K0] at this ⊢; rw [ck_unf w246_B0.eq_1]
  simp at this
  simp (disch := omega) [h1, h1b, wI64, hg, fill_get, fill_set, hGl, this]
end Go.D
end
section
set_option linter.unusedSimpArgs false
set_option linter.unusedVariables false
namespace Go.D
open Go Go.Pav Go.Pw P
set_option maxRecDepth 10000
set_option maxHeartbeats 4000000
set_option linter.unusedSimpArgs false
set_option linter.unusedVariables false
attribute [-simp] List.getElem_cons_drop
variable {C : WProg}
theorem tops_ok (H : HasSz C) (l : List En) (e : Bool) (hz : Szd l) : FnW C 246 [aL l e] = some (.tup [.ro 1 ((tps l).map eI) true, .int .i64 0]) := by
 have hn := hz.n
 have h1 := sized_ok H l e (by omega) (fun x hx => by have := hz.s x hx; omega)
 rw [szE_of hz] at h1
 have h := tops_loop H l e hz l.length 0 (by simp) [0] (by simp [top_0]) rfl
 have h2 : (l.length + 1) * 9 ≤ 35184372088832 := by omega
 have h3 : (l.length : Int) + 1 = ((l.length + 1 : Nat) : Int) := by omega
 rw [fnW_eq H.f246 rfl]
 simp only [w246_K0] at h
 simp at h
 simp (disch := omega) [w246, h1, h2, wI64, List.replicate_succ, h, H.inl, inlB, H.pp, ppB]
end Go.D
end
section
set_option linter.unusedSimpArgs false
set_option linter.unusedVariables false
namespace Go.D
open Go Go.Pav Go.Pw P
set_option maxRecDepth 10000
set_option maxHeartbeats 4000000
set_option linter.unusedSimpArgs false
set_option linter.unusedVariables false
attribute [-simp] List.getElem_cons_drop
variable {C : WProg}
theorem rtop_loop (H : HasSz C) (l : List En) (e : Bool) (hz : Szd l) (j : Nat) (hj : j ≤ l.length) : ∀ n i, n + i = j →
 w253_K0 C ⟨[(6, .int .i64 i), (5, .int .i64 (top l i)), (1, .int .i64 j), (0, .ro 6 (l.map eEn) e)], [], 0⟩ = some (.int .i64 (top l j)) := by
 intro n
 induction n with
 | zero =>
  intro i hi
  have h1 : i = j := by omega
  subst h1
  simp only [w253_K0]; rw [ck_unf w253_B0.eq_1]
  simp (disch := omega) [ck_unf w253_c0.eq_1]
 | succ n ih =>
  intro i hi
  have h1 : i < l.length := by omega
  have h2 : i < j := by omega
  have hn := hz.n
  have hr := hz.small (i + 1)
  have this := ih (i + 1) (by omega)
  rw [top_succ h1] at this hr
  simp only [w253_K0] at this ⊢; rw [ck_unf w253_B0.eq_1]
  simp at this
  simp (disch := omega) [h1, h2, wI64, this]
theorem rtop_ok (H : HasSz C) (l : List En) (e : Bool) (hz : Szd l) (j : Nat) (hj : j ≤ l.length) : FnW C 253 [.ro 6 (l.map eEn) e, .int .i64 j] = some (.int .i64 (top l j)) := by
 have h := rtop_loop H l e hz j hj j 0 (by simp)
 rw [top_0] at h
 rw [fnW_eq H.f253 rfl]
 simp only [w253_K0] at h
 try simp at h
 simp [w253, h]
end Go.D
end
section
set_option linter.unusedSimpArgs false
set_option linter.unusedVariables false
namespace Go.D
open Go Go.Pav Go.Pw P
set_option maxRecDepth 10000
set_option maxHeartbeats 4000000
set_option linter.unusedSimpArgs false
set_option linter.unusedVariables false
attribute [-simp] List.getElem_cons_drop
variable {C : WProg}
structure HasWn (C : WProg) : Prop extends HasS C where
 f421 : C.fns.get 421 = some w421
 f508 : C.fns.get 508 = some w508
 f509 : C.fns.get 509 = some w509
 f555 : C.fns.get 555 = some w555
 f136 : C.fns.get 136 = some w136
def bdBad (v least over : Int) : Prop := v < 1 ∨ 2147483648 < v ∨ least < 1 ∨ 2305843009213693952 < least ∨ over < 0 ∨ 16 < over
instance (v least over : Int) : Decidable (bdBad v least over) := by unfold bdBad; infer_instance
def risB : Int → List Int → Bool
 | _, [] => true
 | p, x :: r => decide (p < x) && risB x r
theorem risB_get : ∀ (a : List Int) (p : Int), risB p a = true → ∀ (i : Nat) (h : i < a.length), p < a[i] ∧ (∀ (j : Nat) (hj : j < i), a[j]'(by omega) < a[i])
 | [], _, _, i, h => by simp at h
 | x :: r, p, hr, i, h => by
  rw [risB, Bool.and_eq_true, decide_eq_true_eq] at hr
  have ih := risB_get r x hr.2
  cases i with
  | zero => exact ⟨by simpa using hr.1, fun j hj => by omega⟩
  | succ i =>
   have h' : i < r.length := by simpa using h
   have q := ih i h'
   refine ⟨by have := hr.1; have := q.1; simp only [List.getElem_cons_succ]; omega, fun j hj => ?_⟩
   cases j with
   | zero => simpa using q.1
   | succ j => simpa using q.2 j (by omega)
theorem less_ok (H : HasWn C) (x y : Int) : FnW C 508 [.int .i64 x, .int .i64 y] = some (.bool (decide (x < y))) := by
 have h : ∀ z, FnW C 555 [.int .i64 z] = some (.bool false) := fun z => by
  rw [fnW_eq H.f555 rfl]; simp [w555]
 rw [fnW_eq H.f508 rfl]
 simp [w508, h, H.inl, inlB, H.pp, ppB]
theorem bs_loop (H : HasWn C) (a : List Int) (e : Bool) (x : Int) (hl : a.length ≤ 1000000) (hr : risB (-1) a = true) : ∀ (n i j : Nat), j - i ≤ n → i ≤ j → j ≤ a.length → (∀ k (h : k < a.length), k < i → a[k] < x) → (∀ k (h : k < a.length), j ≤ k → ¬ a[k] < x) →
 ∃ r : Int, w421_K0 C ⟨[(8, .int .i64 j), (7, .int .i64 i), (6, .int .i64 a.length), (1, .int .i64 x), (0, .ro 1 (a.map eI) e)], [], 0⟩ = some (.tup [.int .i64 r, .bool (decide (x ∈ a))]) := by
 have hnan : ∀ z, FnW C 509 [.int .i64 z] = some (.bool false) := fun z => by
  rw [fnW_eq H.f509 rfl]; simp [w509]
 have fin : ∀ i : Nat, i ≤ a.length → (∀ k (h : k < a.length), k < i → a[k] < x) → (∀ k (h : k < a.length), i ≤ k → ¬ a[k] < x) →
  ∃ r : Int, w421_K0 C ⟨[(8, .int .i64 i), (7, .int .i64 i), (6, .int .i64 a.length), (1, .int .i64 x), (0, .ro 1 (a.map eI) e)], [], 0⟩ = some (.tup [.int .i64 r, .bool (decide (x ∈ a))]) := by
  intro i hi h1 h2
  refine ⟨i, ?_⟩
  by_cases c : i < a.length
  · by_cases c2 : a[i] = x
    · have hm : x ∈ a := by rw [← c2]; exact List.getElem_mem c
      rw [decide_eq_true hm]
      simp only [w421_K0]; rw [ck_unf w421_B0.eq_1]
      simp (disch := omega) [ck_unf w421_c0.eq_1, c, c2, hnan, H.inl, inlB, H.pp, ppB]
    · have hm : ¬ x ∈ a := by
       intro q
       obtain ⟨k, hk, hkx⟩ := List.getElem_of_mem q
       by_cases d : k < i
       · have := h1 k hk d; omega
       · by_cases d2 : k = i
         · subst d2; exact c2 hkx
         · have := (risB_get a (-1) hr k hk).2 i (by omega)
           have := h2 i c (Nat.le_refl _)
           omega
      rw [decide_eq_false hm]
      simp only [w421_K0]; rw [ck_unf w421_B0.eq_1]
      simp (disch := omega) [ck_unf w421_c0.eq_1, c, c2, hnan, H.inl, inlB, H.pp, ppB]
  · have hm : ¬ x ∈ a := by
     intro q
     obtain ⟨k, hk, hkx⟩ := List.getElem_of_mem q
     have := h1 k hk (by omega)
     omega
    rw [decide_eq_false hm]
    simp only [w421_K0]; rw [ck_unf w421_B0.eq_1]
    simp (disch := omega) [ck_unf w421_c0.eq_1, c, hnan, H.inl, inlB, H.pp, ppB]
 intro n
 induction n with
 | zero =>
  intro i j h1 h2 h3 h4 h5
  have : i = j := by omega
  subst this
  exact fin i h3 h4 h5
 | succ n ih =>
  intro i j h1 h2 h3 h4 h5
  by_cases c : i < j
  · obtain ⟨m, hm⟩ : ∃ m, m = (i + j) / 2 := ⟨_, rfl⟩
    have hk : m < a.length := by omega
    have hf := less_ok H a[m] x
    have hw : IntKind.i64.wrap ((IntKind.u64.wrap ((i : Int) + j)).fdiv (2 ^ min 1 IntKind.u64.bits)) = m := by
     have e1 : (2 : Int) ^ min 1 IntKind.u64.bits = 2 := by decide
     rw [wU64 (by omega) (by omega), e1, Int.fdiv_eq_ediv_of_nonneg _ (by omega)]
     have e2 : ((i : Int) + j) / 2 = m := by omega
     rw [e2, wI64 (by omega) (by omega)]
    by_cases c2 : a[m] < x
    · obtain ⟨r, this⟩ := ih (m + 1) j (by omega) (by omega) h3 (fun k hk2 hkm => by
       by_cases d : k = m
       · subst d; exact c2
       · have := (risB_get a (-1) hr m hk).2 k (by omega); omega) h5
      refine ⟨r, ?_⟩
      rw [decide_eq_true c2] at hf
      generalize decide (x ∈ a) = D at *
      simp only [w421_K0] at this ⊢; rw [ck_unf w421_B0.eq_1]
      try simp at this
      simp (disch := omega) [c, wI64, hw, hk, hf, this, H.inl, inlB, H.pp, ppB]
    · obtain ⟨r, this⟩ := ih i m (by omega) (by omega) (by omega) h4 (fun k hk2 hkm => by
       by_cases d : k = m
       · subst d; exact c2
       · have := (risB_get a (-1) hr k hk2).2 m (by omega); omega)
      refine ⟨r, ?_⟩
      rw [decide_eq_false c2] at hf
      generalize decide (x ∈ a) = D at *
      simp only [w421_K0] at this ⊢; rw [ck_unf w421_B0.eq_1]
      try simp at this
      simp (disch := omega) [c, wI64, hw, hk, hf, this, H.inl, inlB, H.pp, ppB]
  · have : i = j := by omega
    subst this
    exact fin i h3 h4 h5
theorem bs_ok (H : HasWn C) (a : List Int) (e : Bool) (x : Int) (hl : a.length ≤ 1000000) (hr : risB (-1) a = true) : ∃ r : Int, FnW C 421 [.ro 1 (a.map eI) e, .int .i64 x] = some (.tup [.int .i64 r, .bool (decide (x ∈ a))]) := by
 obtain ⟨r, h⟩ := bs_loop H a e x hl hr a.length 0 a.length (by omega) (by omega) (by omega) (fun k _ q => by omega) (fun k h q => by omega)
 refine ⟨r, ?_⟩
 rw [fnW_eq H.f421 rfl]
 generalize decide (x ∈ a) = D at *
 simp only [w421_K0] at h
 simp at h
 simp [w421, h]
end Go.D
end
section
set_option linter.unusedSimpArgs false
set_option linter.unusedVariables false
namespace Go.D
open Go Go.Pav Go.Pw P
set_option maxRecDepth 10000
set_option maxHeartbeats 4000000
set_option linter.unusedSimpArgs false
set_option linter.unusedVariables false
attribute [-simp] List.getElem_cons_drop
variable {C : WProg}
structure HasAt (C : WProg) : Prop extends HasSz C, HasWn C, HasG C
end Go.D
end
section
set_option linter.unusedSimpArgs false
set_option linter.unusedVariables false
namespace Go.Proofs.YtfombghmbbfpaaaGreat
open Go.ChangeShapes Go.WideShapes Go.ChangeAt Go.RowKit Go.Pav Go.Pw P Go.D
theorem has_ : HasG prog := { f561 := rfl, f517 := rfl, f557 := rfl, f556 := rfl, f511 := rfl, f510 := rfl, f560 := rfl, f545 := rfl, f578 := rfl, f543 := rfl, f495 := rfl, f516 := rfl, f500 := rfl, inl := rfl, pp := rfl, f434 := rfl, f519 := rfl, f518 := rfl, f562 := rfl, f433 := rfl, f282 := rfl, f140 := rfl, f439 := rfl, f581 := rfl, f579 := rfl, f585 := rfl, f549 := rfl, f502 := rfl, f503 := rfl, f548 := rfl, f404 := rfl, f231 := rfl, f594 := rfl, f586 := rfl, f550 := rfl, f505 := rfl, f408 := rfl, f398 := rfl, f424 := rfl, f494 := rfl, f496 := rfl, f497 := rfl, f498 := rfl, f499 := rfl, f544 := rfl, f546 := rfl, f580 := rfl, f512 := rfl, f584 := rfl, f558 := rfl, f559 := rfl, f592 := rfl, f582 := rfl, f583 := rfl, f593 := rfl, f563 := rfl, f520 := rfl, f442 := rfl, f441 := rfl, f547 := rfl, f513 := rfl, f501 := rfl, f425 := rfl, f225 := rfl, f111 := rfl, f227 := rfl, f402 := rfl, f504 := rfl, f407 := rfl, f239 := rfl, f406 := rfl, f240 := rfl, f423 := rfl, f399 := rfl, f230 := rfl, f405 := rfl, f232 := rfl, f115 := rfl, f236 := rfl, f271 := rfl, f223 := rfl, f235 := rfl, f422 := rfl, f270 := rfl, f126 := rfl }
theorem ty_four {a : AV} (h : Ty (.slice [.int .u8, .int .u8, .int .u8, .int .u8]) a) : ∃ (xs : List Q4) (e : Bool), a = .ro 4 (xs.map eQ) e ∧ ∀ s ∈ xs, QIn s := by
 obtain ⟨es, e, rfl, _, hx⟩ := ty_slice h
 obtain ⟨xs, rfl, hr⟩ := ty_map2 (g := eQ) (R := QIn) (fun l q => by
  obtain ⟨q1, q2⟩ := q
  match l, q1 with
  | [u, v, w, x], _ =>
   obtain ⟨n1, rfl, h1⟩ := ty_u8 (q2 0 _ u rfl rfl)
   obtain ⟨n2, rfl, h2⟩ := ty_u8 (q2 1 _ v rfl rfl)
   obtain ⟨n3, rfl, h3⟩ := ty_u8 (q2 2 _ w rfl rfl)
   obtain ⟨n4, rfl, h4⟩ := ty_u8 (q2 3 _ x rfl rfl)
   exact ⟨⟨n1, n2, n3, n4⟩, rfl, h1, h2, h3, h4⟩) es hx
 exact ⟨xs, e, rfl, hr⟩
theorem ty_bytes2 {a : AV} (h : Ty (.slice [.int .u8]) a) : ∃ (xs : List Int) (e : Bool), a = .ro 1 (xs.map eU8) e ∧ (∀ x ∈ xs, 0 ≤ x ∧ x ≤ 255) ∧ xs.length < 9223372036854775808 := by
 obtain ⟨es, e, rfl, hl, hx⟩ := ty_slice h
 obtain ⟨xs, rfl, hr⟩ := ty_map2 (g := eU8) (R := fun x : Int => 0 ≤ x ∧ x ≤ 255) (fun l q => by
  obtain ⟨q1, q2⟩ := q
  match l, q1 with
  | [v], _ =>
   obtain ⟨n, rfl, h1⟩ := ty_u8 (q2 0 _ v rfl rfl)
   exact ⟨n, rfl, h1⟩) es hx
 exact ⟨xs, e, rfl, hr, by simpa using hl⟩
end Go.Proofs.YtfombghmbbfpaaaGreat
end
section
set_option linter.unusedSimpArgs false
set_option linter.unusedVariables false
namespace Go.D
open Go Go.Pav Go.Pw P
set_option maxRecDepth 10000
set_option maxHeartbeats 4000000
set_option linter.unusedSimpArgs false
set_option linter.unusedVariables false
attribute [-simp] List.getElem_cons_drop
variable {C : WProg}
structure Se where
 h : Int
 f : Int
 t : Int
 p : Int
def eSe (x : Se) : List AV := [.int .i64 x.h, .int .i64 x.f, .int .i64 x.t, .int .i64 x.p]
def inSe (s : Int) (x : Se) : Bool := decide (x.f ≤ s) && decide (s < x.t)
def atS (s : Int) : List Se → Nat → Int
 | [], _ => -1
 | x :: r, i => if inSe s x = true then i else atS s r (i + 1)
structure HasA30 (C : WProg) : Prop extends HasS C where
 f446 : C.fns.get 446 = some w446
 f447 : C.fns.get 447 = some w447
theorem in447 (H : HasA30 C) (x : Se) (s : Int) : FnW C 447 [.agg (eSe x), .rop [.int .i64 s]] = some (.bool (inSe s x)) := by
 rw [fnW_eq H.f447 rfl]
 unfold inSe
 by_cases c : x.f ≤ s
 · by_cases d : s < x.t
   · simp (disch := omega) [w447, eSe, c, d, H.inl, inlB, H.pp, ppB]
   · simp (disch := omega) [w447, eSe, c, d, H.inl, inlB, H.pp, ppB]
 · simp (disch := omega) [w447, eSe, c, H.inl, inlB, H.pp, ppB]
theorem ixs_loop (H : HasA30 C) (g : Nat) (hg : ∀ (x : Se) (s : Int), FnW C g [.agg (eSe x), .rop [.int .i64 s]] = some (.bool (inSe s x))) (hi : inlB g = false) (hp : ppB g = false) (l : List Se) (e : Bool) (hl : l.length ≤ 1000000) (s : Int) : ∀ n i, n + i = l.length →
 w446_K0 C ⟨[(8, .int .i64 i), (7, .int .i64 l.length), (1, .fn g [.rop [.int .i64 s]]), (0, .ro 4 (l.map eSe) e)], [], 0⟩ = some (.int .i64 (atS s (l.drop i) i)) := by
 intro n
 induction n with
 | zero =>
  intro i hi
  have h3 : ¬ i < l.length := by omega
  have h1 : l.drop i = [] := List.drop_eq_nil_of_le (by omega)
  rw [h1, atS]
  simp only [w446_K0]; rw [ck_unf w446_B0.eq_1]
  simp (disch := omega) [ck_unf w446_c0.eq_1, h3]
 | succ n ih =>
  intro i hii
  have h1 : i < l.length := by omega
  have hk := hg l[i] s
  simp only [eSe] at hk
  rw [drop_cons h1, atS]
  cases c : inSe s l[i]
  · rw [if_neg (by simp)]
    rw [c] at hk
    have this := ih (i + 1) (by omega)
    generalize atS s (l.drop (i + 1)) (i + 1) = R at *
    simp only [w446_K0] at this ⊢; rw [ck_unf w446_B0.eq_1]
    simp at this
    simp (disch := omega) [h1, hk, eSe, hi, hp, wI64, H.inl, H.pp, this]
  · rw [if_pos rfl]
    rw [c] at hk
    simp only [w446_K0]; rw [ck_unf w446_B0.eq_1]
    simp (disch := omega) [h1, hk, eSe, hi, hp, wI64, H.inl, H.pp]
theorem ixs_ok (H : HasA30 C) (g : Nat) (hg : ∀ (x : Se) (s : Int), FnW C g [.agg (eSe x), .rop [.int .i64 s]] = some (.bool (inSe s x))) (hi : inlB g = false) (hp : ppB g = false) (l : List Se) (e : Bool) (hl : l.length ≤ 1000000) (s : Int) :
 FnW C 446 [.ro 4 (l.map eSe) e, .fn g [.rop [.int .i64 s]]] = some (.int .i64 (atS s l 0)) := by
 have k := ixs_loop H g hg hi hp l e hl s l.length 0 (by simp)
 rw [List.drop_zero] at k
 generalize atS s l 0 = R at *
 rw [fnW_eq H.f446 rfl]
 simp only [w446_K0] at k
 try simp at k
 simp (disch := omega) [w446, k, H.inl, inlB, H.pp, ppB]
end Go.D
end
section
set_option linter.unusedSimpArgs false
set_option linter.unusedVariables false
namespace Go.D
open Go Go.Pav Go.Pw P
set_option maxRecDepth 10000
set_option maxHeartbeats 4000000
set_option linter.unusedSimpArgs false
set_option linter.unusedVariables false
attribute [-simp] List.getElem_cons_drop
variable {C : WProg}
structure HasEq (C : WProg) : Prop extends HasS C
end Go.D
end
section
set_option linter.unusedSimpArgs false
set_option linter.unusedVariables false
namespace Go.D
open Go Go.Pav Go.Pw P
set_option maxRecDepth 10000
set_option maxHeartbeats 4000000
set_option linter.unusedSimpArgs false
set_option linter.unusedVariables false
attribute [-simp] List.getElem_cons_drop
variable {C : WProg}
structure Rw where
 k : Int
 t : Int
 s : Int
 n : Nd
@[simp] def eRw (r : Rw) : List AV := [.int .u64 r.k, .int .i64 r.t, .int .i64 r.s, .int .u8 r.n.k, .str r.n.t, .str r.n.y, .ro 2 (r.n.a.map eA) r.n.ae, .str r.n.x, .ro 6 (r.n.ch.map Nd.c) r.n.ce]
structure Sc where
 o : Int
 r : List Rw
 e : Bool
 p : Bool
 h : Rw
@[simp] def eSc (x : Sc) : List AV := [.int .i64 x.o, .ro 9 (x.r.map eRw) x.e, .bool x.p, .int .u64 x.h.k, .int .i64 x.h.t, .int .i64 x.h.s, .int .u8 x.h.n.k, .str x.h.n.t, .str x.h.n.y, .ro 2 (x.h.n.a.map eA) x.h.n.ae, .str x.h.n.x, .ro 6 (x.h.n.ch.map Nd.c) x.h.n.ce]
end Go.D
end
section
set_option linter.unusedSimpArgs false
set_option linter.unusedVariables false
namespace Go.D
open Go Go.Pav Go.Pw P
set_option maxRecDepth 10000
set_option maxHeartbeats 4000000
set_option linter.unusedSimpArgs false
set_option linter.unusedVariables false
attribute [-simp] List.getElem_cons_drop
variable {C : WProg}
theorem isame_loop (H : HasWn C) (a : List Int) (e f : Bool) (hl : a.length ≤ 1000000) : ∀ n i, n + i = a.length →
 w136_K0 C ⟨[(5, .int .i64 i), (1, .ro 1 (a.map eI) f), (0, .ro 1 (a.map eI) e)], [], 0⟩ = some (.int .i64 1) := by
 intro n
 induction n with
 | zero =>
  intro i hi
  have h3 : ¬ i < a.length := by omega
  simp only [w136_K0]; rw [ck_unf w136_B0.eq_1]
  simp (disch := omega) [ck_unf w136_c0.eq_1, h3]
 | succ n ih =>
  intro i hi
  have h1 : i < a.length := by omega
  have this := ih (i + 1) (by omega)
  simp only [w136_K0] at this ⊢; rw [ck_unf w136_B0.eq_1]
  simp at this
  simp (disch := omega) [h1, wI64, this]
theorem intsame_ok (H : HasWn C) (a : List Int) (e f : Bool) (hl : a.length ≤ 1000000) : FnW C 136 [.ro 1 (a.map eI) e, .ro 1 (a.map eI) f] = some (.int .i64 1) := by
 have h := isame_loop H a e f hl a.length 0 (by simp)
 rw [fnW_eq H.f136 rfl]
 simp only [w136_K0] at h
 simp at h
 simp [w136, h]
end Go.D
end
section
set_option linter.unusedSimpArgs false
set_option linter.unusedVariables false
namespace Go.D
open Go Go.Pav Go.Pw P
set_option maxRecDepth 10000
set_option maxHeartbeats 4000000
set_option linter.unusedSimpArgs false
set_option linter.unusedVariables false
attribute [-simp] List.getElem_cons_drop
variable {C : WProg}
end Go.D
end
section
set_option linter.unusedSimpArgs false
set_option linter.unusedVariables false
namespace Go.D
open Go Go.Pav Go.Pw P
set_option maxRecDepth 10000
set_option maxHeartbeats 4000000
set_option linter.unusedSimpArgs false
set_option linter.unusedVariables false
attribute [-simp] List.getElem_cons_drop
variable {C : WProg}
structure HasTr (C : WProg) : Prop extends HasG C
end Go.D
end
section
set_option linter.unusedSimpArgs false
set_option linter.unusedVariables false
namespace Go.D
open Go Go.Pav Go.Pw P
set_option maxRecDepth 10000
set_option maxHeartbeats 4000000
set_option linter.unusedSimpArgs false
set_option linter.unusedVariables false
attribute [-simp] List.getElem_cons_drop
variable {C : WProg}
structure HasCp (C : WProg) : Prop extends HasEq C, HasTr C, HasAt C
end Go.D
end
section
set_option linter.unusedSimpArgs false
set_option linter.unusedVariables false
namespace Go.D
open Go Go.Pav Go.Pw P
set_option maxRecDepth 10000
set_option maxHeartbeats 4000000
set_option linter.unusedSimpArgs false
set_option linter.unusedVariables false
attribute [-simp] List.getElem_cons_drop
variable {C : WProg}
end Go.D
end
section
set_option linter.unusedSimpArgs false
set_option linter.unusedVariables false
namespace Go.D
open Go Go.Pav Go.Pw P
set_option maxRecDepth 10000
set_option maxHeartbeats 4000000
set_option linter.unusedSimpArgs false
set_option linter.unusedVariables false
attribute [-simp] List.getElem_cons_drop
variable {C : WProg}
end Go.D
end
section
set_option linter.unusedSimpArgs false
set_option linter.unusedVariables false
namespace Go.D
open Go Go.Pav Go.Pw P
set_option maxRecDepth 10000
set_option maxHeartbeats 4000000
set_option linter.unusedSimpArgs false
set_option linter.unusedVariables false
attribute [-simp] List.getElem_cons_drop
variable {C : WProg}
end Go.D
end
section
set_option linter.unusedSimpArgs false
set_option linter.unusedVariables false
namespace Go.D
open Go Go.Pav Go.Pw P
set_option maxRecDepth 10000
set_option maxHeartbeats 4000000
set_option linter.unusedSimpArgs false
set_option linter.unusedVariables false
attribute [-simp] List.getElem_cons_drop
variable {C : WProg}
end Go.D
end
section
set_option linter.unusedSimpArgs false
set_option linter.unusedVariables false
namespace Go.D
open Go Go.Pav Go.Pw P
set_option maxRecDepth 10000
set_option maxHeartbeats 4000000
set_option linter.unusedSimpArgs false
set_option linter.unusedVariables false
attribute [-simp] List.getElem_cons_drop
variable {C : WProg}
@[simp] theorem oldRefs_zero : ∀ h : WHeap, oldRefs 0 h = []
 | [] => rfl
 | (b, o) :: r => by rw [oldRefs, if_neg (by omega), oldRefs_zero r]
@[simp] theorem renOld_zero (π : Nat → Option Nat) : ∀ h : WHeap, renOld 0 π h = some []
 | [] => rfl
 | (b, o) :: r => by rw [renOld, if_neg (by omega), renOld_zero π r]
end Go.D
end
section
set_option linter.unusedSimpArgs false
set_option linter.unusedVariables false
namespace Go.D
open Go Go.Pav Go.Pw P
set_option maxRecDepth 10000
set_option maxHeartbeats 4000000
set_option linter.unusedSimpArgs false
set_option linter.unusedVariables false
attribute [-simp] List.getElem_cons_drop
variable {C : WProg}
@[simp] theorem getp (h : WHeap) (n : Nat) (o : WObj) (k : Nat) : Pav.get (Pav.put h n o) k = if n = k then some o else Pav.get h k := get_put h n o k
end Go.D
end
section
set_option linter.unusedSimpArgs false
set_option linter.unusedVariables false
namespace Go.D
open Go Go.Pav Go.Pw P
set_option maxRecDepth 10000
set_option linter.unusedSimpArgs false
set_option linter.unusedVariables false
attribute [-simp] List.getElem_cons_drop
variable {C : WProg} {α β : Type}
theorem itE_rnd {ks : List Kd} {x : It} (h : itE ks 12 x false = 0) : itOk ks.length x = true ∧ rndE (kdAt ks x.t).p x 12 = 0 := by
 unfold itE at h
 cases c : itOk ks.length x
 · rw [c] at h; simp at h
 · rw [c] at h
   by_cases d : rndE (kdAt ks x.t).p x 12 = 0
   · exact ⟨rfl, d⟩
   · simp [d] at h
end Go.D
end
section
set_option linter.unusedSimpArgs false
set_option linter.unusedVariables false
end
section
set_option linter.unusedSimpArgs false
set_option linter.unusedVariables false
namespace Go.D
open Go Go.Pav Go.Pw P
set_option maxRecDepth 10000
set_option maxHeartbeats 4000000
set_option linter.unusedSimpArgs false
set_option linter.unusedVariables false
attribute [-simp] List.getElem_cons_drop
variable {C : WProg}
end Go.D
end
section
set_option linter.unusedSimpArgs false
set_option linter.unusedVariables false
namespace Go.D
open Go Go.Pav Go.Pw P
set_option maxRecDepth 10000
set_option maxHeartbeats 4000000
set_option linter.unusedSimpArgs false
set_option linter.unusedVariables false
attribute [-simp] List.getElem_cons_drop
variable {C : WProg}
end Go.D
end
section
set_option linter.unusedSimpArgs false
set_option linter.unusedVariables false
namespace Go.D
open Go Go.Pav Go.Pw P
set_option maxRecDepth 10000
set_option maxHeartbeats 4000000
set_option linter.unusedSimpArgs false
set_option linter.unusedVariables false
attribute [-simp] List.getElem_cons_drop
variable {C : WProg}
end Go.D
end
section
set_option linter.unusedSimpArgs false
set_option linter.unusedVariables false
namespace Go.D
open Go Go.Pav Go.Pw P
set_option maxRecDepth 10000
set_option maxHeartbeats 4000000
set_option linter.unusedSimpArgs false
set_option linter.unusedVariables false
attribute [-simp] List.getElem_cons_drop
variable {C : WProg}
structure HasRo (C : WProg) : Prop extends HasCp C
structure LG (r : Int) (l : List En) : Prop where
 hr : 0 ≤ r ∧ r ≤ 255
 hl : l.length ≤ 12
 z : Szd l
 en : ∀ x ∈ l, EnIn x
 ck : ckE (kindsOf r) 12 l = 0
 ck1 : ∀ x ∈ l, ckE (kindsOf r) 12 [x] = 0
 t : ∀ x ∈ l, 0 ≤ x.i.t ∧ x.i.t < (kindsOf r).length
 rE : ∀ x ∈ l, rndE (kdAt (kindsOf r) x.i.t).p x.i 12 = 0
section
variable {r : Int} {l : List En} (L : LG r l)
end
end Go.D
end
section
set_option linter.unusedSimpArgs false
set_option linter.unusedVariables false
namespace Go.D
open Go Go.Pav Go.Pw P
set_option maxRecDepth 10000
set_option maxHeartbeats 4000000
set_option linter.unusedSimpArgs false
set_option linter.unusedVariables false
attribute [-simp] List.getElem_cons_drop
variable {C : WProg}
structure HasHd (C : WProg) : Prop extends HasRo C where
 f149 : C.fns.get 149 = some w149
 f151 : C.fns.get 151 = some w151
 f304 : C.fns.get 304 = some w304
def stk (ks : List Kd) (l : List En) (i : Nat) : Bool := match l[i]? with | some x => (kdAt ks x.i.t).st | none => false
theorem stk_get {ks : List Kd} {l : List En} {i : Nat} (h : i < l.length) : stk ks l i = (kdAt ks l[i].i.t).st := by unfold stk; rw [List.getElem?_eq_getElem h]
def szI (l : List En) (i : Int) : Int := match l[i.toNat]? with | some x => x.s | none => 0
theorem szI_get {l : List En} {i : Nat} (h : i < l.length) : szI l i = l[i].s := by unfold szI; rw [show (i : Int).toNat = i from rfl, List.getElem?_eq_getElem h]
def hrF (ks : List Kd) (l : List En) (s : Int) : Nat → Nat → Int → Int
 | 0, _, a => a
 | n + 1, i, a => hrF ks l s n (i + 1) (if stk ks l i = true ∧ top l i ≤ s then (i : Int) else a)
def plF (ks : List Kd) (l : List En) (s z : Int) : Nat → Nat → Int
 | 0, _ => 0
 | n + 1, j => if stk ks l j = true then (if top l j - s - z < 0 then top l j - s - z else 0) else plF ks l s z n (j + 1)
def hrA (ks : List Kd) (l : List En) (s : Int) : Int := hrF ks l s l.length 0 (-1)
def plA (ks : List Kd) (l : List En) (s : Int) (h : Nat) : Int := plF ks l s (szI l h) (l.length - (h + 1)) (h + 1)
theorem hrF_stop {ks : List Kd} {l : List En} (hz : Szd l) {s : Int} : ∀ (n i : Nat) (a : Int), n + i = l.length → s < top l i → hrF ks l s n i a = a := by
 intro n
 induction n with
 | zero => intro i a _ _; rfl
 | succ n ih =>
  intro i a hi h
  have := hz.lt (i := i) (by omega)
  rw [hrF, if_neg (by omega)]
  exact ih (i + 1) a (by omega) (by omega)
theorem hrF_bd (ks : List Kd) (l : List En) (s : Int) : ∀ (n i : Nat) (a : Int), n + i = l.length → -1 ≤ a ∧ a < i → -1 ≤ hrF ks l s n i a ∧ hrF ks l s n i a < l.length := by
 intro n
 induction n with
 | zero => intro i a hi h; rw [hrF]; omega
 | succ n ih =>
  intro i a hi h
  rw [hrF]
  refine ih (i + 1) _ (by omega) ?_
  split <;> omega
theorem sticky_ok (H : HasHd C) (ks : List Kd) (ke : Bool) (cap : Int) (x : En) (ht : 0 ≤ x.i.t ∧ x.i.t < ks.length) : FnW C 304 [aR ks ke cap, .agg (eEn x)] = some (.int .i64 (if (kdAt ks x.i.t).st = true then 1 else 0)) := by
 obtain ⟨t, hT⟩ : ∃ t : Nat, x.i.t = t := ⟨x.i.t.toNat, by omega⟩
 have h4 : t < ks.length := by omega
 rw [hT, kdAt_get h4, fnW_eq H.f304 rfl]
 cases c : ks[t].st <;> simp (disch := omega) [w304, hT, h4, c, H.inl, inlB, H.pp, ppB]
theorem rhead_loop (H : HasHd C) (ks : List Kd) (ke : Bool) (cap : Int) (l : List En) (e : Bool) (s : Int) (hz : Szd l) (ht : ∀ x ∈ l, 0 ≤ x.i.t ∧ x.i.t < ks.length) : ∀ n i, n + i = l.length → ∀ a : Int,
 w149_K0 C ⟨[(8, .int .i64 i), (7, .int .i64 a), (3, .ptr 0 0 0), (2, .int .i64 s), (1, .ro 6 (l.map eEn) e)], [(0, .cells 2 [[.ro 9 (ks.map eKd) ke, .int .i64 cap]] true true)], 1⟩ = some (.int .i64 (hrF ks l s n i a)) := by
 intro n
 induction n with
 | zero =>
  intro i hi a
  have h3 : ¬ i < l.length := by omega
  simp only [w149_K0]; rw [ck_unf w149_B0.eq_1]
  simp (disch := omega) [ck_unf w149_c0.eq_1, h3, hrF]
 | succ n ih =>
  intro i hi a
  have h1 : i < l.length := by omega
  have hn := hz.n
  have hs := sticky_ok H ks ke cap l[i] (ht _ (List.getElem_mem h1))
  have htp := rtop_ok H.toHasSz l e hz i (by omega)
  rw [hrF, stk_get h1]
  simp only [aR, eEn] at hs
  cases c : (kdAt ks l[i].i.t).st
  · rw [if_neg (by simp)]
    have this := ih (i + 1) (by omega) a
    rw [c] at hs
    generalize hrF ks l s n (i + 1) a = R at *
    simp only [w149_K0] at this ⊢; rw [ck_unf w149_B0.eq_1]
    simp at this hs
    simp (disch := omega) [h1, hs, wI64, H.inl, inlB, H.pp, ppB, this]
  · rw [c] at hs
    by_cases d : top l i ≤ s
    · rw [if_pos ⟨rfl, d⟩]
      have this := ih (i + 1) (by omega) i
      generalize hrF ks l s n (i + 1) i = R at *
      simp only [w149_K0] at this ⊢; rw [ck_unf w149_B0.eq_1]
      simp at this hs
      simp (disch := omega) [h1, hs, htp, d, wI64, H.inl, inlB, H.pp, ppB, this]
    · rw [if_neg (by rintro ⟨_, q⟩; exact d q)]
      have this := ih (i + 1) (by omega) a
      generalize hrF ks l s n (i + 1) a = R at *
      simp only [w149_K0] at this ⊢; rw [ck_unf w149_B0.eq_1]
      simp at this hs
      simp (disch := omega) [h1, hs, htp, d, wI64, H.inl, inlB, H.pp, ppB, this]
theorem rhead_ok (H : HasHd C) (ks : List Kd) (ke : Bool) (cap : Int) (l : List En) (e : Bool) (s : Int) (hz : Szd l) (ht : ∀ x ∈ l, 0 ≤ x.i.t ∧ x.i.t < ks.length) : FnW C 149 [aR ks ke cap, .ro 6 (l.map eEn) e, .int .i64 s] = some (.int .i64 (hrA ks l s)) := by
 have h := rhead_loop H ks ke cap l e s hz ht l.length 0 (by simp) (-1)
 rw [fnW_eq H.f149 rfl]
 unfold hrA
 generalize hrF ks l s l.length 0 (-1) = R at *
 simp only [w149_K0] at h
 try simp at h
 simp [w149, h, H.inl, inlB, H.pp, ppB]
theorem place_loop (H : HasHd C) (ks : List Kd) (ke : Bool) (cap : Int) (l : List En) (e : Bool) (s : Int) (hs : 0 ≤ s ∧ s ≤ 4611686018427387904) (hz : Szd l) (ht : ∀ x ∈ l, 0 ≤ x.i.t ∧ x.i.t < ks.length) (h : Nat) (hh : h < l.length) : ∀ n j, n + j = l.length →
 w151_K0 C ⟨[(9, .int .i64 j), (4, .ptr 0 0 0), (3, .int .i64 h), (2, .int .i64 s), (1, .ro 6 (l.map eEn) e)], [(0, .cells 2 [[.ro 9 (ks.map eKd) ke, .int .i64 cap]] true true)], 1⟩ = some (.int .i64 (plF ks l s (szI l h) n j)) := by
 intro n
 induction n with
 | zero =>
  intro i hi
  have h3 : ¬ i < l.length := by omega
  simp only [w151_K0]; rw [ck_unf w151_B0.eq_1]
  simp (disch := omega) [ck_unf w151_c0.eq_1, h3, plF]
 | succ n ih =>
  intro i hi
  have h1 : i < l.length := by omega
  have hn := hz.n
  have hst := sticky_ok H ks ke cap l[i] (ht _ (List.getElem_mem h1))
  have htp := rtop_ok H.toHasSz l e hz i (by omega)
  have hb1 := hz.rng i
  have hb2 := hz.small i
  have hsb := hz.s _ (List.getElem_mem hh)
  rw [plF, stk_get h1]
  simp only [aR, eEn] at hst
  cases c : (kdAt ks l[i].i.t).st
  · rw [if_neg (by simp)]
    have this := ih (i + 1) (by omega)
    rw [c] at hst
    generalize plF ks l s (szI l h) n (i + 1) = R at *
    simp only [w151_K0] at this ⊢; rw [ck_unf w151_B0.eq_1]
    simp at this hst
    simp (disch := omega) [h1, hst, wI64, H.inl, inlB, H.pp, ppB, this]
  · rw [c] at hst
    rw [if_pos rfl, szI_get hh]
    by_cases d : top l i - s - l[h].s < 0
    · rw [if_pos d]
      simp only [w151_K0]; rw [ck_unf w151_B0.eq_1]
      simp at hst
      simp (disch := omega) [h1, hh, hst, htp, d, wI64, H.inl, inlB, H.pp, ppB]
    · rw [if_neg d]
      simp only [w151_K0]; rw [ck_unf w151_B0.eq_1]
      simp at hst
      simp (disch := omega) [h1, hh, hst, htp, d, wI64, H.inl, inlB, H.pp, ppB]
theorem place_ok (H : HasHd C) (ks : List Kd) (ke : Bool) (cap : Int) (l : List En) (e : Bool) (s : Int) (hs : 0 ≤ s ∧ s ≤ 4611686018427387904) (hz : Szd l) (ht : ∀ x ∈ l, 0 ≤ x.i.t ∧ x.i.t < ks.length) (h : Nat) (hh : h < l.length) :
 FnW C 151 [aR ks ke cap, .ro 6 (l.map eEn) e, .int .i64 s, .int .i64 h] = some (.int .i64 (plA ks l s h)) := by
 have hn := hz.n
 have k := place_loop H ks ke cap l e s hs hz ht h hh (l.length - (h + 1)) (h + 1) (by omega)
 rw [fnW_eq H.f151 rfl]
 unfold plA
 generalize plF ks l s (szI l h) (l.length - (h + 1)) (h + 1) = R at *
 simp only [w151_K0] at k
 try simp at k
 simp (disch := omega) [w151, k, wI64, H.inl, inlB, H.pp, ppB]
end Go.D
end
section
set_option linter.unusedSimpArgs false
set_option linter.unusedVariables false
namespace Go.D
open Go Go.Pav Go.Pw P
set_option maxRecDepth 10000
set_option maxHeartbeats 4000000
set_option linter.unusedSimpArgs false
set_option linter.unusedVariables false
attribute [-simp] List.getElem_cons_drop
variable {C : WProg}
section
variable {r : Int} {l : List En}
end
end Go.D
end
section
set_option linter.unusedSimpArgs false
set_option linter.unusedVariables false
namespace Go.D
open Go Go.Pav Go.Pw P
set_option maxRecDepth 10000
set_option maxHeartbeats 4000000
set_option linter.unusedSimpArgs false
set_option linter.unusedVariables false
attribute [-simp] List.getElem_cons_drop
variable {C : WProg}
structure HasWo (C : WProg) : Prop extends HasHd C
end Go.D
end
