/- Part of the theory that the claims of this work use: E02, E03, E04, E06, E08, G01, E12, E13, E07, E09, D46, E15, E16, E10, E11, D30, D31, D38, D40, V600, D47, D48, D49, E17, E18, E19, E31. No conditions of its own. -/
import Derived.Test.YtfombghmbbfpaaaGreatT5
section
set_option linter.unusedSimpArgs false
set_option linter.unusedVariables false
namespace Go.D
open Go Go.Pav Go.Pw P
set_option maxRecDepth 10000
set_option maxHeartbeats 4000000
set_option linter.unusedSimpArgs false
set_option linter.unusedVariables false
attribute [-simp] List.getElem_cons_drop
variable {C : WProg}
structure HasSz (C : WProg) : Prop extends HasL C where
 f122 : C.fns.get 122 = some w122
 f249 : C.fns.get 249 = some w249
 f250 : C.fns.get 250 = some w250
 f246 : C.fns.get 246 = some w246
 f247 : C.fns.get 247 = some w247
 f411 : C.fns.get 411 = some w411
 f412 : C.fns.get 412 = some w412
 f248 : C.fns.get 248 = some w248
 f121 : C.fns.get 121 = some w121
 f251 : C.fns.get 251 = some w251
 f252 : C.fns.get 252 = some w252
 f253 : C.fns.get 253 = some w253
 f272 : C.fns.get 272 = some w272
 f327 : C.fns.get 327 = some w327
def SzB (l : List En) : Prop := ∀ x ∈ l, -9223372036854775808 ≤ x.s ∧ x.s ≤ 9223372036854775807
def szF : Nat → List En → Int
 | _, [] => -1
 | i, e :: r => if hOk e.s = true then szF (i + 1) r else i
theorem szF_any : ∀ (l : List En) (i : Nat), decide (0 ≤ szF i l) = l.any (fun e => !hOk e.s)
 | [], i => by simp [szF]
 | e :: r, i => by
  rw [szF, List.any_cons]
  cases c : hOk e.s
  · simp
  · simp [szF_any r (i + 1)]
theorem szbad_ok (H : HasSz C) (x : En) : FnW C 250 [aE x] = some (.bool (!hOk x.s)) := by
 rw [fnW_eq H.f250 rfl]
 unfold hOk
 by_cases c1 : 1 ≤ x.s
 · have c1' : ¬ x.s < 1 := by omega
   by_cases c2 : x.s ≤ 2305843009213693952
   · have c2' : ¬ 2305843009213693952 < x.s := by omega
     simp [w250, c1, c1', c2, c2']
   · have c2' : 2305843009213693952 < x.s := by omega
     simp [w250, c1, c1', c2, c2']
 · have c1' : x.s < 1 := by omega
   simp [w250, c1, c1']
theorem szidx_loop (H : HasSz C) (l : List En) (e : Bool) (hl : l.length ≤ 1000000) : ∀ n i, n + i = l.length →
 w402_K0 C ⟨[(8, .int .i64 i), (7, .int .i64 l.length), (1, .fn 250 []), (0, .ro 6 (l.map eEn) e)], [], 0⟩ = some (.int .i64 (szF i (l.drop i))) := by
 intro n
 induction n with
 | zero =>
  intro i hi
  simp only [w402_K0]; rw [ck_unf w402_B0.eq_1]
  have h1 : l.drop i = [] := List.drop_eq_nil_of_le (by omega)
  have h3 : ¬ i < l.length := by omega
  simp (disch := omega) [ck_unf w402_c0.eq_1, h1, h3, szF]
 | succ n ih =>
  intro i hi
  have h1 : i < l.length := by omega
  have hf := szbad_ok H l[i]
  have := ih (i + 1) (by omega)
  rw [drop_cons h1, szF]
  simp only [aE, eEn] at hf
  cases c : hOk l[i].s
  · rw [if_neg (by simp)]
    simp [c] at hf
    simp only [w402_K0]; rw [ck_unf w402_B0.eq_1]
    simp (disch := omega) [h1, wI64, hf, H.inl, inlB, H.pp, ppB]
  · rw [if_pos rfl]
    simp [c] at hf
    simp only [w402_K0] at this ⊢; rw [ck_unf w402_B0.eq_1]
    simp at this
    simp (disch := omega) [h1, wI64, hf, H.inl, inlB, H.pp, ppB, this]
theorem szcon_ok (H : HasSz C) (l : List En) (e : Bool) (hl : l.length ≤ 1000000) : FnW C 249 [.ro 6 (l.map eEn) e, .fn 250 []] = some (.bool (l.any fun e => !hOk e.s)) := by
 have h := szidx_loop H l e hl l.length 0 (by simp)
 have key : FnW C 402 [.ro 6 (l.map eEn) e, .fn 250 []] = some (.int .i64 (szF 0 l)) := by
  simp only [w402_K0] at h
  simp at h
  rw [fnW_eq H.f402 rfl]
  simp [w402, h]
 have h2 := szF_any l 0
 rw [fnW_eq H.f249 rfl, ← h2]
 simp [w249, key, H.inl, inlB, H.pp, ppB]
theorem sized_ok (H : HasSz C) (l : List En) (e : Bool) (hl : l.length ≤ 1000000) (hs : SzB l) : FnW C 122 [aL l e] = some (.int .i64 (szE l)) := by
 have h1 := szcon_ok H l e hl
 have h2 := totW_ok H.toHasL l e hl hs
 rw [fnW_eq H.f122 rfl]
 unfold szE ovE
 generalize tot l = T at *
 by_cases c1 : 1024 < l.length
 · simp [w122, c1]
 · cases c2 : l.any fun e => !hOk e.s
   · rw [c2] at h1
     by_cases c3 : 4611686018427387904 < T <;> simp [w122, c1, h1, h2, c3, H.inl, inlB, H.pp, ppB]
   · rw [c2] at h1
     simp [w122, c1, h1, h2, H.inl, inlB, H.pp, ppB]
theorem roverW_ok (H : HasL C) (l : List En) (e : Bool) (hl : l.length ≤ 1000000) (hs : SzB l) : FnW C 407 [.ro 6 (l.map eEn) e] = some (.int .i64 (ovE l)) := by
 have h := rtotW_ok H l e hl hs
 rw [fnW_eq H.f407 rfl]
 unfold ovE
 by_cases c : 4611686018427387904 < tot l <;> simp [w407, h, H.inl, inlB, H.pp, ppB, c]
theorem rsized_loop (H : HasSz C) (l : List En) (e : Bool) (hl : l.length ≤ 1000000) (hs : SzB l) : ∀ n i, n + i = l.length →
 w251_K0 C ⟨[(3, .int .i64 i), (0, .ro 6 (l.map eEn) e)], [], 0⟩ = some (.int .i64 (if (l.drop i).any (fun e => !hOk e.s) then 12 else ovE l)) := by
 intro n
 induction n with
 | zero =>
  intro i hi
  have h1 : l.drop i = [] := List.drop_eq_nil_of_le (by omega)
  have h3 : ¬ i < l.length := by omega
  have ht := roverW_ok H.toHasL l e hl hs
  simp only [w251_K0]; rw [ck_unf w251_B0.eq_1]
  simp (disch := omega) [ck_unf w251_c0.eq_1, h1, h3, ht, H.inl, inlB, H.pp, ppB]
 | succ n ih =>
  intro i hi
  have h1 : i < l.length := by omega
  have := ih (i + 1) (by omega)
  rw [drop_cons h1, List.any_cons]
  generalize (l.drop (i + 1)).any (fun e => !hOk e.s) = X at *
  unfold hOk
  by_cases c1 : 1 ≤ l[i].s
  · have c1' : ¬ l[i].s < 1 := by omega
    by_cases c2 : l[i].s ≤ 2305843009213693952
    · have c2' : ¬ 2305843009213693952 < l[i].s := by omega
      simp only [w251_K0] at this ⊢; rw [ck_unf w251_B0.eq_1]
      simp at this
      simp (disch := omega) [h1, wI64, c1, c1', c2, c2', this]
    · have c2' : 2305843009213693952 < l[i].s := by omega
      simp only [w251_K0]; rw [ck_unf w251_B0.eq_1]
      simp (disch := omega) [h1, wI64, c1, c1', c2, c2']
  · have c1' : l[i].s < 1 := by omega
    simp only [w251_K0]; rw [ck_unf w251_B0.eq_1]
    simp (disch := omega) [h1, wI64, c1, c1']
theorem rsized_ok (H : HasSz C) (l : List En) (e : Bool) (hl : l.length ≤ 1000000) (hs : SzB l) : FnW C 251 [.ro 6 (l.map eEn) e] = some (.int .i64 (szE l)) := by
 have h := rsized_loop H l e hl hs l.length 0 (by simp)
 rw [List.drop_zero] at h
 rw [fnW_eq H.f251 rfl]
 unfold szE
 by_cases c1 : 1024 < l.length
 · simp [w251, c1]
 · generalize l.any (fun e => !hOk e.s) = X at *
   simp only [w251_K0] at h
   simp at h
   simp [w251, c1, h]
def tps (l : List En) : List Int := (List.range (l.length + 1)).map (top l)
theorem tps_len (l : List En) : (tps l).length = l.length + 1 := by simp [tps]
theorem tps_get (l : List En) {i : Nat} (h : i < (tps l).length) : (tps l)[i] = top l i := by simp [tps]
theorem tops_loop (H : HasSz C) (l : List En) (e : Bool) (hz : Szd l) : ∀ n i, n + i = l.length → ∀ G : List Int, G = (List.range (i + 1)).map (top l) → G.length = i + 1 →
 w246_K0 C ⟨[(20, .int .i64 i), (19, .int .i64 l.length), (5, .sl 0 1 0 (l.length + 1) (l.length + 1) true), (1, .ptr 1 0 0)], [(0, .cells 1 (G.map eI ++ List.replicate n [.int .i64 0]) true true), (1, .cells 1 [[.ro 6 (l.map eEn) e]] true true)], 2⟩ =
  some (.tup [.ro 1 ((tps l).map eI) true, .int .i64 0]) := by
 intro n
 induction n with
 | zero =>
  intro i hi G hG hGl
  have h3 : ¬ i < l.length := by omega
  have h6 : List.take (l.length + 1) (List.map eI G) = List.map eI G := List.take_of_length_le (by simp; omega)
  have h7 : G.length = l.length + 1 := by omega
  have h8 : tps l = G := by rw [hG]; unfold tps; rw [show i = l.length by omega]
  rw [h8]
  simp only [w246_K0]; rw [ck_unf w246_B0.eq_1]
  simp [ck_unf w246_c0.eq_1, h3, h6, h7]
 | succ n ih =>
  intro i hi G hG hGl
  have hn := hz.n
  have h1 : i < l.length := by omega
  have hr := hz.small i
  have hr2 := hz.small (i + 1)
  have this := ih (i + 1) (by omega) (G ++ [top l (i + 1)]) (by rw [List.range_succ, List.map_append, ← hG]; rfl) (by simp [hGl])
  have hg : (G.map eI ++ List.replicate (n + 1) [AV.int .i64 0])[i]? = some (eI (top l i)) := by
   rw [List.getElem?_append_left (by simp; omega), List.getElem?_map, hG]
   simp
  have h1b : i < l.length + 1 := by omega
  rw [top_succ h1] at hr2 this
  simp only [w246_K0] at this ⊢; rw [ck_unf w246_B0.eq_1]
  simp at this
  simp (disch := omega) [h1, h1b, wI64, hg, fill_get, fill_set, hGl, this]
end Go.D
end
section
set_option linter.unusedSimpArgs false
set_option linter.unusedVariables false
namespace Go.D
open Go Go.Pav Go.Pw P
set_option maxRecDepth 10000
set_option maxHeartbeats 4000000
set_option linter.unusedSimpArgs false
set_option linter.unusedVariables false
attribute [-simp] List.getElem_cons_drop
variable {C : WProg}
theorem tops_ok (H : HasSz C) (l : List En) (e : Bool) (hz : Szd l) : FnW C 246 [aL l e] = some (.tup [.ro 1 ((tps l).map eI) true, .int .i64 0]) := by
 have hn := hz.n
 have h1 := sized_ok H l e (by omega) (fun x hx => by have := hz.s x hx; omega)
 rw [szE_of hz] at h1
 have h := tops_loop H l e hz l.length 0 (by simp) [0] (by simp [top_0]) rfl
 have h2 : (l.length + 1) * 9 ≤ 35184372088832 := by omega
 have h3 : (l.length : Int) + 1 = ((l.length + 1 : Nat) : Int) := by omega
 rw [fnW_eq H.f246 rfl]
 simp only [w246_K0] at h
 simp at h
 simp (disch := omega) [w246, h1, h2, wI64, List.replicate_succ, h, H.inl, inlB, H.pp, ppB]
theorem ftest_ok (H : HasSz C) (l : List En) (x : Int) (k : Nat) (hk : k < l.length) (hn : l.length ≤ 1024) :
 FnW C 412 [.int .i64 k, .rop [.ro 1 ((tps l).map eI) true], .rop [.int .i64 x]] = some (.bool (decide (x < top l (k + 1)))) := by
 have h1 : k + 1 < (tps l).length := by rw [tps_len]; omega
 have h2 := tps_get l h1
 rw [fnW_eq H.f412 rfl]
 simp (disch := omega) [w412, wI64, h1, h2]
theorem search_loop (H : HasSz C) (l : List En) (x : Int) (hz : Szd l) (p : Nat) (hp : p < l.length) (hp1 : top l p ≤ x) (hp2 : x < top l (p + 1)) : ∀ (n i j : Nat), j - i ≤ n → i ≤ p → p ≤ j → j ≤ l.length →
 w411_K0 C ⟨[(6, .int .i64 j), (5, .int .i64 i), (1, .fn 412 [.rop [.ro 1 ((tps l).map eI) true], .rop [.int .i64 x]])], [], 0⟩ = some (.int .i64 p) := by
 intro n
 induction n with
 | zero =>
  intro i j h1 h2 h3 h4
  have h5 : i = p := by omega
  have h6 : j = p := by omega
  subst h5
  subst h6
  simp only [w411_K0]; rw [ck_unf w411_B0.eq_1]
  simp (disch := omega) [ck_unf w411_c0.eq_1]
 | succ n ih =>
  intro i j h1 h2 h3 h4
  have hn := hz.n
  by_cases c : i < j
  · obtain ⟨m, hm⟩ : ∃ m, m = (i + j) / 2 := ⟨_, rfl⟩
    have hk : m < l.length := by omega
    have hf := ftest_ok H l x m hk hn
    have hw : IntKind.i64.wrap ((IntKind.u64.wrap ((i : Int) + j)).fdiv (2 ^ min 1 IntKind.u64.bits)) = m := by
     have e1 : (2 : Int) ^ min 1 IntKind.u64.bits = 2 := by decide
     rw [wU64 (by omega) (by omega), e1, Int.fdiv_eq_ediv_of_nonneg _ (by omega)]
     have e2 : ((i : Int) + j) / 2 = m := by omega
     rw [e2, wI64 (by omega) (by omega)]
    by_cases c2 : x < top l (m + 1)
    · have h7 : p ≤ m := by
       by_cases d : p ≤ m
       · exact d
       · have := hz.mono (i := m + 1) (j := p) (by omega) (by omega); omega
      have this := ih i m (by omega) h2 h7 (by omega)
      rw [decide_eq_true c2] at hf
      simp only [w411_K0] at this ⊢; rw [ck_unf w411_B0.eq_1]
      try simp at this
      simp (disch := omega) [c, wI64, hw, hf, this, H.inl, inlB, H.pp, ppB]
    · have h7 : m + 1 ≤ p := by
       by_cases d : m + 1 ≤ p
       · exact d
       · have := hz.mono (i := p + 1) (j := m + 1) (by omega) (by omega); omega
      have this := ih (m + 1) j (by omega) h7 h3 h4
      rw [decide_eq_false c2] at hf
      simp only [w411_K0] at this ⊢; rw [ck_unf w411_B0.eq_1]
      try simp at this
      simp (disch := omega) [c, wI64, hw, hf, this, H.inl, inlB, H.pp, ppB]
  · have h5 : i = p := by omega
    have h6 : j = p := by omega
    subst h5
    subst h6
    simp only [w411_K0]; rw [ck_unf w411_B0.eq_1]
    simp (disch := omega) [ck_unf w411_c0.eq_1]
theorem findT_ok (H : HasSz C) (l : List En) (x : Int) (hz : Szd l) (p : Nat) (hp : p < l.length) (hp1 : top l p ≤ x) (hp2 : x < top l (p + 1)) : FnW C 247 [.ro 1 ((tps l).map eI) true, .int .i64 x] = some (.int .i64 p) := by
 have hn := hz.n
 have h := search_loop H l x hz p hp hp1 hp2 l.length 0 l.length (by omega) (by omega) (by omega) (by omega)
 have key : FnW C 411 [.int .i64 l.length, .fn 412 [.rop [.ro 1 ((tps l).map eI) true], .rop [.int .i64 x]]] = some (.int .i64 p) := by
  rw [fnW_eq H.f411 rfl]
  simp only [w411_K0] at h
  simp at h
  simp [w411, h]
 have h3 : ((l.length : Int) + 1) - 1 = l.length := by omega
 rw [fnW_eq H.f247 rfl]
 simp (disch := omega) [w247, tps_len, wI64, h3, key, H.inl, inlB, H.pp, ppB]
theorem tps_last (l : List En) (h : l.length < (tps l).length) : (tps l)[l.length] = sm l := by
 rw [tps_get, top_len]
theorem viewport_ok (H : HasSz C) (l : List En) (e : Bool) (hl : l.length ≤ 1000000) (hs : SzB l) (o v : Int) (ho : -9223372036854775808 ≤ o ∧ o ≤ 9223372036854775807) (hv : -9223372036854775808 ≤ v ∧ v ≤ 9223372036854775807) :
 FnW C 248 [aL l e, .int .i64 o, .int .i64 v] = some (.int .i64 (vpE l o v)) := by
 have h1 := sized_ok H l e hl hs
 rw [fnW_eq H.f248 rfl]
 unfold vpE
 by_cases hz0 : szE l = 0
 · rw [hz0] at h1 ⊢
   have hz := szd_of hz0
   have h2 := totW_ok H.toHasL l e hl hs
   have h3 := hz.nn
   have h4 := hz.t
   rw [hz.tot] at h2
   rw [if_neg (by simp)]
   by_cases c1 : v < 1
   · simp (disch := omega) [w248, h1, c1, H.inl, inlB, H.pp, ppB]
   · by_cases c2 : 2147483648 < v
     · simp (disch := omega) [w248, h1, c1, c2, H.inl, inlB, H.pp, ppB]
     · rw [if_neg (by omega)]
       by_cases c3 : o < 0
       · simp (disch := omega) [w248, h1, c1, c2, c3, H.inl, inlB, H.pp, ppB]
       · have h5 : (if v < sm l then sm l - v else 0) = mostS l v := by unfold mostS; split <;> split <;> omega
         by_cases c4 : mostS l v < o
         · simp (disch := omega) [w248, h1, c1, c2, c3, c4, h2, h5, wI64, imax, H.inl, inlB, H.pp, ppB]
         · simp (disch := omega) [w248, h1, c1, c2, c3, c4, h2, h5, wI64, imax, H.inl, inlB, H.pp, ppB]
 · rw [if_pos hz0]
   generalize szE l = E at *
   simp (disch := omega) [w248, h1, hz0, H.inl, inlB, H.pp, ppB]
theorem visible_ok (H : HasSz C) (l : List En) (e : Bool) (hl : l.length ≤ 1000000) (hs : SzB l) (o v : Int) (ho : -9223372036854775808 ≤ o ∧ o ≤ 9223372036854775807) (hv : -9223372036854775808 ≤ v ∧ v ≤ 9223372036854775807) :
 FnW C 121 [aL l e, .int .i64 o, .int .i64 v] = some (if vpE l o v ≠ 0 then .tup [.int .i64 0, .int .i64 0, .int .i64 (vpE l o v)] else .tup [.int .i64 (visF l o v), .int .i64 (visT l o v), .int .i64 0]) := by
 have h1 := viewport_ok H l e hl hs o v ho hv
 rw [fnW_eq H.f121 rfl]
 by_cases c0 : vpE l o v = 0
 · rw [if_neg (by simpa using c0)]
   have hp := vp_of c0
   have hn := hp.n
   rw [c0] at h1
   have h2 := tops_ok H l e hp.toSzd
   have h4 := tps_last l
   have h5' : l.length < (tps l).length := by rw [tps_len]; omega
   have h3 : ((l.length : Int) + 1) - 1 = l.length := by omega
   have hv0 := hp.v0
   have hs0 := hp.s0
   have ht := hp.t
   have hnn := hp.nn
   unfold visF visT
   by_cases c1 : l.length = 0
   · simp (disch := omega) [w121, h1, h2, c1, tps_len, wI64, H.inl, inlB, H.pp, ppB]
   · rw [if_neg c1, if_neg c1]
     obtain ⟨p, q, p1, q1, hpq, a, b⟩ := hp.ends (by omega)
     have hm : imin (o + v) (sm l) ≤ sm l := by unfold imin; split <;> omega
     have hlo : mostS l v ≤ sm l := by unfold mostS; split <;> omega
     have h5 := findT_ok H l o hp.toSzd p p1 a.1 a.2
     have h6 := findT_ok H l _ hp.toSzd q q1 b.1 b.2
     have hq := hp.rng q
     rw [hp.rowA_eq p1 a.1 a.2, hp.rowA_eq q1 b.1 b.2]
     have c1' : ¬ ((l.length : Int) + 1 = 1) := by omega
     generalize hM : imin (o + v) (sm l) = M at *
     simp (disch := omega) [w121, h1, h2, c1', tps_len, h3, h4, h5', h5, h6, hM, wI64, H.inl, inlB, H.pp, ppB]
 · rw [if_pos c0]
   generalize vpE l o v = E at *
   simp (disch := omega) [w121, h1, c0, H.inl, inlB, H.pp, ppB]
end Go.D
end
section
set_option linter.unusedSimpArgs false
set_option linter.unusedVariables false
namespace Go.D
open Go Go.Pav Go.Pw P
set_option maxRecDepth 10000
set_option maxHeartbeats 4000000
set_option linter.unusedSimpArgs false
set_option linter.unusedVariables false
attribute [-simp] List.getElem_cons_drop
variable {C : WProg}
theorem rtop_loop (H : HasSz C) (l : List En) (e : Bool) (hz : Szd l) (j : Nat) (hj : j ≤ l.length) : ∀ n i, n + i = j →
 w253_K0 C ⟨[(6, .int .i64 i), (5, .int .i64 (top l i)), (1, .int .i64 j), (0, .ro 6 (l.map eEn) e)], [], 0⟩ = some (.int .i64 (top l j)) := by
 intro n
 induction n with
 | zero =>
  intro i hi
  have h1 : i = j := by omega
  subst h1
  simp only [w253_K0]; rw [ck_unf w253_B0.eq_1]
  simp (disch := omega) [ck_unf w253_c0.eq_1]
 | succ n ih =>
  intro i hi
  have h1 : i < l.length := by omega
  have h2 : i < j := by omega
  have hn := hz.n
  have hr := hz.small (i + 1)
  have this := ih (i + 1) (by omega)
  rw [top_succ h1] at this hr
  simp only [w253_K0] at this ⊢; rw [ck_unf w253_B0.eq_1]
  simp at this
  simp (disch := omega) [h1, h2, wI64, this]
theorem rtop_ok (H : HasSz C) (l : List En) (e : Bool) (hz : Szd l) (j : Nat) (hj : j ≤ l.length) : FnW C 253 [.ro 6 (l.map eEn) e, .int .i64 j] = some (.int .i64 (top l j)) := by
 have h := rtop_loop H l e hz j hj j 0 (by simp)
 rw [top_0] at h
 rw [fnW_eq H.f253 rfl]
 simp only [w253_K0] at h
 try simp at h
 simp [w253, h]
theorem rtop_ok1 (H : HasSz C) (l : List En) (e : Bool) (hz : Szd l) (j : Nat) (hj : j < l.length) : FnW C 253 [.ro 6 (l.map eEn) e, .int .i64 ((j : Int) + 1)] = some (.int .i64 (top l (j + 1))) := rtop_ok H l e hz (j + 1) hj
theorem rmost_ok (H : HasSz C) (l : List En) (e : Bool) (hz : Szd l) (v : Int) (hv : -9223372036854775808 ≤ sm l - v ∧ sm l - v ≤ 9223372036854775807) : FnW C 327 [.ro 6 (l.map eEn) e, .int .i64 v] = some (.int .i64 (mostS l v)) := by
 have h := rtop_ok H l e hz l.length (Nat.le_refl _)
 rw [top_len] at h
 rw [fnW_eq H.f327 rfl]
 unfold mostS
 by_cases c : sm l < v
 · simp (disch := omega) [w327, h, c, wI64, H.inl, inlB, H.pp, ppB]
 · simp (disch := omega) [w327, h, c, wI64, H.inl, inlB, H.pp, ppB]
theorem rviewport_ok (H : HasSz C) (l : List En) (e : Bool) (hl : l.length ≤ 1000000) (hs : SzB l) (o v : Int) (ho : -9223372036854775808 ≤ o ∧ o ≤ 9223372036854775807) (hv : -9223372036854775808 ≤ v ∧ v ≤ 9223372036854775807) :
 FnW C 252 [.ro 6 (l.map eEn) e, .int .i64 o, .int .i64 v] = some (.int .i64 (vpE l o v)) := by
 have h1 := rsized_ok H l e hl hs
 rw [fnW_eq H.f252 rfl]
 unfold vpE
 by_cases hz0 : szE l = 0
 · rw [hz0] at h1 ⊢
   have hz := szd_of hz0
   have h3 := hz.nn
   have h4 := hz.t
   rw [if_neg (by simp)]
   by_cases c1 : v < 1
   · simp (disch := omega) [w252, h1, c1, H.inl, inlB, H.pp, ppB]
   · by_cases c2 : 2147483648 < v
     · simp (disch := omega) [w252, h1, c1, c2, H.inl, inlB, H.pp, ppB]
     · rw [if_neg (by omega)]
       have h2 := rmost_ok H l e hz v (by omega)
       by_cases c3 : o < 0
       · simp (disch := omega) [w252, h1, c1, c2, c3, H.inl, inlB, H.pp, ppB]
       · by_cases c4 : mostS l v < o
         · simp (disch := omega) [w252, h1, c1, c2, c3, c4, h2, wI64, H.inl, inlB, H.pp, ppB]
         · simp (disch := omega) [w252, h1, c1, c2, c3, c4, h2, wI64, H.inl, inlB, H.pp, ppB]
 · rw [if_pos hz0]
   have hp : 0 < szE l := by
    have : 0 ≤ szE l := by unfold szE ovE; repeat (first | omega | split)
    omega
   generalize szE l = E at *
   simp (disch := omega) [w252, h1, hz0, hp, H.inl, inlB, H.pp, ppB]
theorem rseen_ok (H : HasSz C) (l : List En) (e : Bool) (o v : Int) (hp : Vp l o v) (i : Nat) (hi : i < l.length) : FnW C 272 [.ro 6 (l.map eEn) e, .int .i64 o, .int .i64 v, .int .i64 i] = some (.int .i64 (if top l i < o + v ∧ o < top l (i + 1) then 1 else 0)) := by
 have hn := hp.n
 have hv := hp.v0
 have ho := hp.s0
 have ht := hp.t
 have hnn := hp.nn
 have hlo : mostS l v ≤ sm l := by unfold mostS; split <;> omega
 have q1 := rtop_ok H l e hp.toSzd i (by omega)
 have q2 := rtop_ok1 H l e hp.toSzd i hi
 rw [fnW_eq H.f272 rfl]
 by_cases c1 : top l i < o + v
 · by_cases c2 : o < top l (i + 1)
   · rw [if_pos ⟨c1, c2⟩]
     simp (disch := omega) [w272, q1, q2, c1, c2, wI64, H.inl, inlB, H.pp, ppB]
   · rw [if_neg (fun q => c2 q.2)]
     simp (disch := omega) [w272, q1, q2, c1, c2, wI64, H.inl, inlB, H.pp, ppB]
 · rw [if_neg (fun q => c1 q.1)]
   simp (disch := omega) [w272, q1, q2, c1, wI64, H.inl, inlB, H.pp, ppB]
end Go.D
end
section
set_option linter.unusedSimpArgs false
set_option linter.unusedVariables false
namespace Go.D
open Go Go.Pav Go.Pw P
set_option maxRecDepth 10000
set_option maxHeartbeats 4000000
set_option linter.unusedSimpArgs false
set_option linter.unusedVariables false
attribute [-simp] List.getElem_cons_drop
variable {C : WProg}
structure HasWn (C : WProg) : Prop extends HasS C where
 f274 : C.fns.get 274 = some w274
 f136 : C.fns.get 136 = some w136
def bdBad (v least over : Int) : Prop := v < 1 ∨ 2147483648 < v ∨ least < 1 ∨ 2305843009213693952 < least ∨ over < 0 ∨ 16 < over
instance (v least over : Int) : Decidable (bdBad v least over) := by unfold bdBad; infer_instance
def risB : Int → List Int → Bool
 | _, [] => true
 | p, x :: r => decide (p < x) && risB x r
theorem exact_ok (H : HasWn C) (a : List Int) (e : Bool) (hl : a.length ≤ 1000000) : FnW C 274 [.ro 1 (a.map eI) e] = some (.ro 1 (a.map eI) true) := by
 rw [fnW_eq H.f274 rfl]
 by_cases c : a = []
 · subst c; simp [w274]
 · have h2 : a.length * 9 ≤ 35184372088832 := by omega
   have hT : List.take a.length (List.map eI a) = List.map eI a := List.take_of_length_le (by simp)
   simp (disch := omega) [w274, c, h2, isE, hT]
end Go.D
end
section
set_option linter.unusedSimpArgs false
set_option linter.unusedVariables false
namespace Go.D
open Go Go.Pav Go.Pw P
set_option maxRecDepth 10000
set_option maxHeartbeats 4000000
set_option linter.unusedSimpArgs false
set_option linter.unusedVariables false
attribute [-simp] List.getElem_cons_drop
variable {C : WProg}
structure HasAt (C : WProg) : Prop extends HasSz C, HasWn C, HasG C where
 f132 : C.fns.get 132 = some w132
 f273 : C.fns.get 273 = some w273
 f134 : C.fns.get 134 = some w134
def wF (l : List En) (o v k : Int) : Int := imax 0 (visF l o v - k)
def wT (l : List En) (o v k : Int) : Int := imin l.length (visT l o v + k)
theorem Vp.vis {l : List En} {o v : Int} (h : Vp l o v) : (l.length = 0 ∧ visF l o v = 0 ∧ visT l o v = 0) ∨ (∃ p q : Nat, p < l.length ∧ q < l.length ∧ p ≤ q ∧ visF l o v = p ∧ visT l o v = (q : Int) + 1 ∧ (top l p ≤ o ∧ o < top l (p + 1)) ∧
 ∀ i, i < l.length → ((top l i < o + v ∧ o < top l (i + 1)) ↔ (p ≤ i ∧ i ≤ q))) := by
 by_cases c : l.length = 0
 · left; exact ⟨c, by unfold visF; rw [if_pos c], by unfold visT; rw [if_pos c]⟩
 · right
   obtain ⟨p, q, p1, q1, hpq, a, b⟩ := h.ends (by omega)
   refine ⟨p, q, p1, q1, hpq, ?_, ?_, a, fun i hi => h.seen p1 q1 a b hi⟩
   · unfold visF; rw [if_neg c, h.rowA_eq p1 a.1 a.2]
   · unfold visT; rw [if_neg c, h.rowA_eq q1 b.1 b.2]
theorem window_ok (H : HasAt C) (l : List En) (e : Bool) (o v k : Int) (hp : Vp l o v) (hk : 0 ≤ k ∧ k ≤ 16) : FnW C 132 [aL l e, .int .i64 o, .int .i64 v, .int .i64 k] = some (.tup [.agg [.int .i64 (wF l o v k), .int .i64 (wT l o v k)], .int .i64 0]) := by
 have hn := hp.n
 have hv := hp.v0
 have ho := hp.s0
 have ht := hp.t
 have hlo : mostS l v ≤ 4611686018427387904 := by unfold mostS; split <;> omega
 have h1 := visible_ok H.toHasSz l e (by omega) (fun x hx => by have := hp.s x hx; omega) o v (by omega) (by omega)
 rw [vpE_of hp, if_neg (by simp)] at h1
 have c1 : ¬ k < 0 := by omega
 have c2 : ¬ 16 < k := by omega
 rw [fnW_eq H.f132 rfl]
 unfold wF wT
 rcases hp.vis with ⟨a, b, c⟩ | ⟨p, q, p1, q1, hpq, a, b, _⟩
 · rw [b, c] at h1
   rw [b, c]
   have e1 : imax 0 (0 - k) = 0 := by unfold imax; split <;> omega
   have e2 : imin (l.length : Int) (0 + k) = 0 := by unfold imin; split <;> omega
   rw [e1, e2]
   simp (disch := omega) [w132, h1, c1, c2, H.inl, inlB, H.pp, ppB]
 · rw [a, b] at h1
   rw [a, b]
   have c3 : ¬ (q : Int) + 1 = 0 := by omega
   simp (disch := omega) [w132, h1, c1, c2, c3, wI64, H.inl, inlB, H.pp, ppB]
def hdF (ks : List Kd) (l : List En) (o : Int) : Nat → Nat → Int → Int
 | 0, _, a => a
 | n + 1, i, a => if o < top l i then a else hdF ks l o n (i + 1) (match l[i]? with | some x => if (kdAt ks x.i.t).st = true then (i : Int) else a | none => a)
def hdA (ks : List Kd) (l : List En) (o : Int) : Int := hdF ks l o l.length 0 (-1)
theorem hdF_bd (ks : List Kd) (l : List En) (hz : Szd l) (o : Int) (p : Nat) (hp : top l p ≤ o ∧ o < top l (p + 1)) (hpl : p < l.length) : ∀ (n i : Nat) (a : Int), n + i = l.length → -1 ≤ a ∧ a ≤ p → -1 ≤ hdF ks l o n i a ∧ hdF ks l o n i a ≤ p := by
 intro n
 induction n with
 | zero => intro i a _ h; exact h
 | succ n ih =>
  intro i a hi h
  rw [hdF]
  by_cases c : o < top l i
  · rw [if_pos c]; exact h
  · rw [if_neg c]
    refine ih (i + 1) _ (by omega) ?_
    have hip : i ≤ p := by
     by_cases d : i ≤ p
     · exact d
     · have := hz.mono (i := p + 1) (j := i) (by omega) (by omega); omega
    split
    · split <;> omega
    · exact h
theorem whead_loop (H : HasAt C) (ks : List Kd) (ke : Bool) (cap : Int) (l : List En) (e : Bool) (o : Int) (hz : Szd l) (ht : ∀ x ∈ l, 0 ≤ x.i.t ∧ x.i.t < ks.length) : ∀ n i, n + i = l.length → ∀ a : Int,
 w273_K0 C ⟨[(20, .int .i64 i), (19, .int .i64 l.length), (18, .ro 6 (l.map eEn) e), (9, .int .i64 a), (7, .ro 1 ((tps l).map eI) true), (3, .ptr 0 0 0), (2, .int .i64 o)], [(0, .cells 2 [[.ro 9 (ks.map eKd) ke, .int .i64 cap]] true true)], 1⟩ = some (.int .i64 (hdF ks l o n i a)) := by
 intro n
 induction n with
 | zero =>
  intro i hi a
  have h3 : ¬ i < l.length := by omega
  simp only [w273_K0]; rw [ck_unf w273_B0.eq_1]
  simp (disch := omega) [ck_unf w273_c0.eq_1, h3, hdF]
 | succ n ih =>
  intro i hi a
  have h1 : i < l.length := by omega
  have hn := hz.n
  have h2 : i < (tps l).length := by rw [tps_len]; omega
  have q2 := tps_get l h2
  have hx := ht _ (List.getElem_mem h1)
  obtain ⟨t, hT⟩ : ∃ t : Nat, l[i].i.t = t := ⟨l[i].i.t.toNat, by omega⟩
  have h4 : t < ks.length := by omega
  rw [hdF, List.getElem?_eq_getElem h1]
  simp only [hT, kdAt_get h4]
  by_cases c1 : o < top l i
  · rw [if_pos c1]
    simp only [w273_K0]; rw [ck_unf w273_B0.eq_1]
    simp (disch := omega) [ck_unf w273_c0.eq_1, h1, h2, q2, c1, wI64]
  · rw [if_neg c1]
    cases c2 : ks[t].st
    · have this := ih (i + 1) (by omega) a
      rw [if_neg (by simp)]
      generalize hdF ks l o n (i + 1) a = R at *
      simp only [w273_K0] at this ⊢; rw [ck_unf w273_B0.eq_1]
      simp at this
      simp (disch := omega) [h1, h2, q2, c1, hT, h4, c2, wI64, this]
    · have this := ih (i + 1) (by omega) i
      rw [if_pos rfl]
      generalize hdF ks l o n (i + 1) i = R at *
      simp only [w273_K0] at this ⊢; rw [ck_unf w273_B0.eq_1]
      simp at this
      simp (disch := omega) [h1, h2, q2, c1, hT, h4, c2, wI64, this]
theorem whead_ok (H : HasAt C) (ks : List Kd) (ke : Bool) (cap : Int) (l : List En) (e : Bool) (o : Int) (hz : Szd l) (ht : ∀ x ∈ l, 0 ≤ x.i.t ∧ x.i.t < ks.length) : FnW C 273 [aR ks ke cap, aL l e, .int .i64 o] = some (.int .i64 (hdA ks l o)) := by
 have hn := hz.n
 have h := whead_loop H ks ke cap l e o hz ht l.length 0 (by simp) (-1)
 have h1 := tops_ok H.toHasSz l e hz
 rw [fnW_eq H.f273 rfl]
 unfold hdA
 generalize hdF ks l o l.length 0 (-1) = R at *
 simp only [w273_K0] at h
 try simp at h
 simp [w273, h1, h, H.inl, inlB, H.pp, ppB]
def seqI (a n : Nat) : List Int := (List.range n).map fun i => ((a + i : Nat) : Int)
theorem seqI_len (a n : Nat) : (seqI a n).length = n := by simp [seqI]
theorem att_loop (H : HasAt C) (N a b : Nat) (hN : N ≤ 10000) (hb : b ≤ 1024) : ∀ (m i : Nat), i + m = b → ∀ G : List Int, ∀ r : Nat, G.length + r = N → m ≤ r →
 w134_K0 C ⟨[(17, .int .i64 i), (15, .sl 0 1 0 G.length N true), (13, .ptr 1 0 0)], [(0, .cells 1 (G.map eI ++ List.replicate r [.int .i64 0]) true true), (1, .cells 2 [[.int .i64 a, .int .i64 b]] true true)], 2⟩ =
  some (.tup [.ro 1 ((G ++ seqI i m).map eI) true, .int .i64 0]) := by
 intro m
 induction m with
 | zero =>
  intro i hi G r hr hm
  have h3 : ¬ i < b := by omega
  have hx := exact_ok H.toHasWn G true (by omega)
  have h6 : List.take G.length (List.map eI G ++ List.replicate r [AV.int .i64 0]) = List.map eI G := by rw [List.take_left' (by simp)]
  have h5 : G.length ≤ N := by omega
  have hq : G ++ seqI i 0 = G := by simp [seqI]
  rw [hq]
  by_cases hG : G = []
  · subst hG
    simp at hx
    simp only [w134_K0]; rw [ck_unf w134_B0.eq_1]
    simp (disch := omega) [ck_unf w134_c0.eq_1, h3, hx, H.inl, inlB, H.pp, ppB]
  · have hp : 0 < G.length := List.length_pos_iff.2 hG
    simp only [w134_K0]; rw [ck_unf w134_B0.eq_1]
    simp (disch := omega) [ck_unf w134_c0.eq_1, h3, h5, h6, hx, hp, H.inl, inlB, H.pp, ppB]
 | succ m ih =>
  intro i hi G r hr hm
  obtain ⟨r, rfl⟩ : ∃ s, r = s + 1 := ⟨r - 1, by omega⟩
  have h1 : i < b := by omega
  have h5 : G.length + 1 ≤ N := by omega
  have this := ih (i + 1) (by omega) (G ++ [(i : Int)]) r (by simp; omega) (by omega)
  have hq : G ++ seqI i (m + 1) = (G ++ [(i : Int)]) ++ seqI (i + 1) m := by
   have : seqI i (m + 1) = (i : Int) :: seqI (i + 1) m := by
    unfold seqI; rw [List.range_succ_eq_map, List.map_cons, List.map_map]
    refine congr (congrArg _ (by simp)) (List.map_congr_left fun j _ => ?_)
    simp only [Function.comp]; omega
   rw [this]; simp
  rw [hq]
  have h6 : List.take G.length (List.map eI G ++ List.replicate (r + 1) [AV.int .i64 0]) = List.map eI G := by rw [List.take_left' (by simp)]
  have h7 : List.drop (G.length + 1) (List.map eI G ++ List.replicate (r + 1) [AV.int .i64 0]) = List.replicate r [AV.int .i64 0] := by
   rw [List.drop_append]; simp
  simp only [w134_K0] at this ⊢; rw [ck_unf w134_B0.eq_1]
  simp at this
  simp (disch := omega) [h1, h5, h6, h7, wI64, H.inl, inlB, H.pp, ppB, this]
end Go.D
end
section
set_option linter.unusedSimpArgs false
set_option linter.unusedVariables false
namespace Go.Proofs.YtfombghmbbfpaaaGreat
open Go.ChangeShapes Go.WideShapes Go.ChangeAt Go.RowKit Go.Pav Go.Pw P Go.D
theorem has_ : HasG prog := { f561 := rfl, f517 := rfl, f557 := rfl, f556 := rfl, f511 := rfl, f510 := rfl, f560 := rfl, f545 := rfl, f578 := rfl, f543 := rfl, f495 := rfl, f516 := rfl, f500 := rfl, inl := rfl, pp := rfl, f434 := rfl, f519 := rfl, f518 := rfl, f562 := rfl, f433 := rfl, f282 := rfl, f140 := rfl, f439 := rfl, f581 := rfl, f579 := rfl, f585 := rfl, f549 := rfl, f502 := rfl, f503 := rfl, f548 := rfl, f404 := rfl, f231 := rfl, f594 := rfl, f586 := rfl, f550 := rfl, f505 := rfl, f408 := rfl, f398 := rfl, f424 := rfl, f494 := rfl, f496 := rfl, f497 := rfl, f498 := rfl, f499 := rfl, f544 := rfl, f546 := rfl, f580 := rfl, f512 := rfl, f584 := rfl, f558 := rfl, f559 := rfl, f592 := rfl, f582 := rfl, f583 := rfl, f593 := rfl, f563 := rfl, f520 := rfl, f442 := rfl, f441 := rfl, f547 := rfl, f513 := rfl, f501 := rfl, f425 := rfl, f225 := rfl, f111 := rfl, f227 := rfl, f402 := rfl, f504 := rfl, f407 := rfl, f239 := rfl, f406 := rfl, f240 := rfl, f423 := rfl, f399 := rfl, f230 := rfl, f405 := rfl, f232 := rfl, f115 := rfl, f236 := rfl, f271 := rfl, f223 := rfl, f235 := rfl, f422 := rfl, f270 := rfl, f126 := rfl }
theorem ty_four {a : AV} (h : Ty (.slice [.int .u8, .int .u8, .int .u8, .int .u8]) a) : ∃ (xs : List Q4) (e : Bool), a = .ro 4 (xs.map eQ) e ∧ ∀ s ∈ xs, QIn s := by
 obtain ⟨es, e, rfl, _, hx⟩ := ty_slice h
 obtain ⟨xs, rfl, hr⟩ := ty_map2 (g := eQ) (R := QIn) (fun l q => by
  obtain ⟨q1, q2⟩ := q
  match l, q1 with
  | [u, v, w, x], _ =>
   obtain ⟨n1, rfl, h1⟩ := ty_u8 (q2 0 _ u rfl rfl)
   obtain ⟨n2, rfl, h2⟩ := ty_u8 (q2 1 _ v rfl rfl)
   obtain ⟨n3, rfl, h3⟩ := ty_u8 (q2 2 _ w rfl rfl)
   obtain ⟨n4, rfl, h4⟩ := ty_u8 (q2 3 _ x rfl rfl)
   exact ⟨⟨n1, n2, n3, n4⟩, rfl, h1, h2, h3, h4⟩) es hx
 exact ⟨xs, e, rfl, hr⟩
theorem ty_bytes2 {a : AV} (h : Ty (.slice [.int .u8]) a) : ∃ (xs : List Int) (e : Bool), a = .ro 1 (xs.map eU8) e ∧ (∀ x ∈ xs, 0 ≤ x ∧ x ≤ 255) ∧ xs.length < 9223372036854775808 := by
 obtain ⟨es, e, rfl, hl, hx⟩ := ty_slice h
 obtain ⟨xs, rfl, hr⟩ := ty_map2 (g := eU8) (R := fun x : Int => 0 ≤ x ∧ x ≤ 255) (fun l q => by
  obtain ⟨q1, q2⟩ := q
  match l, q1 with
  | [v], _ =>
   obtain ⟨n, rfl, h1⟩ := ty_u8 (q2 0 _ v rfl rfl)
   exact ⟨n, rfl, h1⟩) es hx
 exact ⟨xs, e, rfl, hr, by simpa using hl⟩
end Go.Proofs.YtfombghmbbfpaaaGreat
end
section
set_option linter.unusedSimpArgs false
set_option linter.unusedVariables false
namespace Go.D
open Go Go.Pav Go.Pw P
set_option maxRecDepth 10000
set_option maxHeartbeats 4000000
set_option linter.unusedSimpArgs false
set_option linter.unusedVariables false
attribute [-simp] List.getElem_cons_drop
variable {C : WProg}
structure HasEq (C : WProg) : Prop extends HasS C
end Go.D
end
section
set_option linter.unusedSimpArgs false
set_option linter.unusedVariables false
namespace Go.D
open Go Go.Pav Go.Pw P
set_option maxRecDepth 10000
set_option maxHeartbeats 4000000
set_option linter.unusedSimpArgs false
set_option linter.unusedVariables false
attribute [-simp] List.getElem_cons_drop
variable {C : WProg}
structure Rw where
 k : Int
 t : Int
 s : Int
 n : Nd
@[simp] def eRw (r : Rw) : List AV := [.int .u64 r.k, .int .i64 r.t, .int .i64 r.s, .int .u8 r.n.k, .str r.n.t, .str r.n.y, .ro 2 (r.n.a.map eA) r.n.ae, .str r.n.x, .ro 6 (r.n.ch.map Nd.c) r.n.ce]
structure Sc where
 o : Int
 r : List Rw
 e : Bool
 p : Bool
 h : Rw
@[simp] def eSc (x : Sc) : List AV := [.int .i64 x.o, .ro 9 (x.r.map eRw) x.e, .bool x.p, .int .u64 x.h.k, .int .i64 x.h.t, .int .i64 x.h.s, .int .u8 x.h.n.k, .str x.h.n.t, .str x.h.n.y, .ro 2 (x.h.n.a.map eA) x.h.n.ae, .str x.h.n.x, .ro 6 (x.h.n.ch.map Nd.c) x.h.n.ce]
end Go.D
end
section
set_option linter.unusedSimpArgs false
set_option linter.unusedVariables false
namespace Go.D
open Go Go.Pav Go.Pw P
set_option maxRecDepth 10000
set_option maxHeartbeats 4000000
set_option linter.unusedSimpArgs false
set_option linter.unusedVariables false
attribute [-simp] List.getElem_cons_drop
variable {C : WProg}
theorem isame_loop (H : HasWn C) (a : List Int) (e f : Bool) (hl : a.length ≤ 1000000) : ∀ n i, n + i = a.length →
 w136_K0 C ⟨[(5, .int .i64 i), (1, .ro 1 (a.map eI) f), (0, .ro 1 (a.map eI) e)], [], 0⟩ = some (.int .i64 1) := by
 intro n
 induction n with
 | zero =>
  intro i hi
  have h3 : ¬ i < a.length := by omega
  simp only [w136_K0]; rw [ck_unf w136_B0.eq_1]
  simp (disch := omega) [ck_unf w136_c0.eq_1, h3]
 | succ n ih =>
  intro i hi
  have h1 : i < a.length := by omega
  have this := ih (i + 1) (by omega)
  simp only [w136_K0] at this ⊢; rw [ck_unf w136_B0.eq_1]
  simp at this
  simp (disch := omega) [h1, wI64, this]
theorem intsame_ok (H : HasWn C) (a : List Int) (e f : Bool) (hl : a.length ≤ 1000000) : FnW C 136 [.ro 1 (a.map eI) e, .ro 1 (a.map eI) f] = some (.int .i64 1) := by
 have h := isame_loop H a e f hl a.length 0 (by simp)
 rw [fnW_eq H.f136 rfl]
 simp only [w136_K0] at h
 simp at h
 simp [w136, h]
end Go.D
end
section
set_option linter.unusedSimpArgs false
set_option linter.unusedVariables false
namespace Go.D
open Go Go.Pav Go.Pw P
set_option maxRecDepth 10000
set_option maxHeartbeats 4000000
set_option linter.unusedSimpArgs false
set_option linter.unusedVariables false
attribute [-simp] List.getElem_cons_drop
variable {C : WProg}
def attL (ks : List Kd) (l : List En) (o v k : Int) : List Int :=
 (if 0 ≤ hdA ks l o ∧ hdA ks l o < wF l o v k then [hdA ks l o] else []) ++ seqI (wF l o v k).toNat ((wT l o v k).toNat - (wF l o v k).toNat)
theorem Vp.win {l : List En} {o v : Int} (h : Vp l o v) (k : Int) (hk : 0 ≤ k ∧ k ≤ 16) : ∃ a b : Nat, wF l o v k = a ∧ wT l o v k = b ∧ a ≤ b ∧ b ≤ l.length := by
 have hn := h.n
 unfold wF wT imax imin
 rcases h.vis with ⟨a, b, c⟩ | ⟨p, q, p1, q1, hpq, a, b, _⟩
 · rw [b, c]
   exact ⟨0, 0, by split <;> omega, by split <;> omega, by omega, by omega⟩
 · rw [a, b]
   refine ⟨(if (p : Int) - k > 0 then (p : Int) - k else 0).toNat, (if (q : Int) + 1 + k < l.length then (q : Int) + 1 + k else l.length).toNat, ?_, ?_, ?_, ?_⟩
   · split <;> omega
   · split <;> omega
   · split <;> split <;> omega
   · split <;> omega
theorem attached_ok (H : HasAt C) (ks : List Kd) (ke : Bool) (cap : Int) (hr : RuIn ks) (l : List En) (e : Bool) (hin : ∀ x ∈ l, EnIn x) (hck : ckE ks cap l = 0) (ht : ∀ x ∈ l, 0 ≤ x.i.t ∧ x.i.t < ks.length) (o v k : Int) (hp : Vp l o v) (hk : 0 ≤ k ∧ k ≤ 16) :
 FnW C 134 [aR ks ke cap, aL l e, .int .i64 o, .int .i64 v, .int .i64 k] = some (.tup [.ro 1 ((attL ks l o v k).map eI) true, .int .i64 0]) := by
 have hn := hp.n
 have h1 := lcheck_ok H.toHasK ks ke cap hr l e (by omega) hin
 rw [hck] at h1
 have h2 := window_ok H l e o v k hp hk
 have h3 := whead_ok H ks ke cap l e o hp.toSzd ht
 obtain ⟨a, b, ea, eb, hab, hbn⟩ := hp.win k hk
 rw [ea, eb] at h2
 unfold attL
 rw [ea, eb]
 simp only [Int.toNat_natCast]
 obtain ⟨N, hN⟩ : ∃ N : Nat, N = b - a + 1 := ⟨_, rfl⟩
 have hN2 : (b : Int) - a + 1 = N := by omega
 have hN3 : N * 9 ≤ 35184372088832 := by omega
 have hs := att_loop H N a b (by omega) (by omega) (b - a) a (by omega)
 rw [fnW_eq H.f134 rfl]
 generalize hdA ks l o = h at *
 by_cases c : 0 ≤ h ∧ h < (a : Int)
 · rw [if_pos c]
   have := hs [h] (b - a) (by simp; omega) (by omega)
   have hr1 : N - 1 = b - a := by omega
   have hd : List.drop 1 (List.replicate N [AV.int .i64 0]) = List.replicate (b - a) [AV.int .i64 0] := by rw [List.drop_replicate, hr1]
   have hN1 : 1 ≤ N := by omega
   generalize [h] ++ seqI a (b - a) = R at *
   simp only [w134_K0] at this
   simp at this
   simp (disch := omega) [w134, h1, h2, h3, c.1, c.2, wI64, hN2, hN3, hN1, hr1, this, H.inl, inlB, H.pp, ppB]
 · rw [if_neg c]
   have := hs [] N (by simp) (by omega)
   generalize [] ++ seqI a (b - a) = R at *
   simp only [w134_K0] at this
   simp at this
   by_cases c1 : 0 ≤ h
   · have c2 : ¬ h < (a : Int) := fun q => c ⟨c1, q⟩
     simp (disch := omega) [w134, h1, h2, h3, c1, c2, wI64, hN2, hN3, this, H.inl, inlB, H.pp, ppB]
   · simp (disch := omega) [w134, h1, h2, h3, c1, wI64, hN2, hN3, this, H.inl, inlB, H.pp, ppB]
theorem mem_seqI (a n : Nat) (x : Int) : x ∈ seqI a n ↔ (a : Int) ≤ x ∧ x < (a : Int) + n := by
 unfold seqI
 simp only [List.mem_map, List.mem_range]
 constructor
 · rintro ⟨i, hi, rfl⟩; omega
 · intro h; exact ⟨(x - a).toNat, by omega, by omega⟩
theorem ris_seqI : ∀ (n a : Nat) (p : Int), p < a → risB p (seqI a n) = true
 | 0, _, _, _ => rfl
 | n + 1, a, p, h => by
  have : seqI a (n + 1) = (a : Int) :: seqI (a + 1) n := by
   unfold seqI; rw [List.range_succ_eq_map, List.map_cons, List.map_map]
   refine congr (congrArg _ (by simp)) (List.map_congr_left fun j _ => ?_)
   simp only [Function.comp]; omega
  rw [this, risB, decide_eq_true h, Bool.true_and]
  exact ris_seqI n (a + 1) a (by omega)
theorem ris_att {ks : List Kd} {l : List En} {o v k : Int} (hp : Vp l o v) (hk : 0 ≤ k ∧ k ≤ 16) : risB (-1) (attL ks l o v k) = true := by
 obtain ⟨a, b, ea, eb, hab, hbn⟩ := hp.win k hk
 unfold attL
 rw [ea, eb]
 simp only [Int.toNat_natCast]
 by_cases c : 0 ≤ hdA ks l o ∧ hdA ks l o < (a : Int)
 · rw [if_pos c, List.singleton_append, risB, decide_eq_true (by omega), Bool.true_and]
   exact ris_seqI _ _ _ c.2
 · rw [if_neg c, List.nil_append]
   exact ris_seqI _ _ _ (by omega)
theorem mem_att {ks : List Kd} {l : List En} {o v k : Int} (hp : Vp l o v) (hk : 0 ≤ k ∧ k ≤ 16) (x : Int) : x ∈ attL ks l o v k ↔ (0 ≤ hdA ks l o ∧ hdA ks l o < wF l o v k ∧ x = hdA ks l o) ∨ (wF l o v k ≤ x ∧ x < wT l o v k) := by
 obtain ⟨a, b, ea, eb, hab, hbn⟩ := hp.win k hk
 unfold attL
 rw [ea, eb, List.mem_append, mem_seqI]
 simp only [Int.toNat_natCast]
 by_cases c : 0 ≤ hdA ks l o ∧ hdA ks l o < (a : Int)
 · rw [if_pos c, List.mem_singleton]
   constructor
   · rintro (h | h)
     · exact .inl ⟨c.1, c.2, h⟩
     · exact .inr (by omega)
   · rintro (h | h)
     · exact .inl h.2.2
     · exact .inr (by omega)
 · rw [if_neg c]
   constructor
   · rintro (h | h)
     · cases h
     · exact .inr (by omega)
   · rintro (h | h)
     · exact absurd ⟨h.1, h.2.1⟩ c
     · exact .inr (by omega)
theorem att_len {ks : List Kd} {l : List En} {o v k : Int} (hp : Vp l o v) (hk : 0 ≤ k ∧ k ≤ 16) : (attL ks l o v k).length ≤ 1025 ∧ wT l o v k - wF l o v k ≤ (attL ks l o v k).length ∧ ((attL ks l o v k).length : Int) ≤ wT l o v k - wF l o v k + 1 := by
 have hn := hp.n
 obtain ⟨a, b, ea, eb, hab, hbn⟩ := hp.win k hk
 unfold attL
 rw [ea, eb, List.length_append, seqI_len]
 simp only [Int.toNat_natCast]
 split <;> simp <;> omega
end Go.D
end
section
set_option linter.unusedSimpArgs false
set_option linter.unusedVariables false
namespace Go.D
open Go Go.Pav Go.Pw P
set_option maxRecDepth 10000
set_option maxHeartbeats 4000000
set_option linter.unusedSimpArgs false
set_option linter.unusedVariables false
attribute [-simp] List.getElem_cons_drop
variable {C : WProg}
structure HasTr (C : WProg) : Prop extends HasG C
end Go.D
end
section
set_option linter.unusedSimpArgs false
set_option linter.unusedVariables false
namespace Go.D
open Go Go.Pav Go.Pw P
set_option maxRecDepth 10000
set_option maxHeartbeats 4000000
set_option linter.unusedSimpArgs false
set_option linter.unusedVariables false
attribute [-simp] List.getElem_cons_drop
variable {C : WProg}
structure HasCp (C : WProg) : Prop extends HasEq C, HasTr C, HasAt C
end Go.D
end
section
set_option linter.unusedSimpArgs false
set_option linter.unusedVariables false
namespace Go.D
open Go Go.Pav Go.Pw P
set_option maxRecDepth 10000
set_option maxHeartbeats 4000000
set_option linter.unusedSimpArgs false
set_option linter.unusedVariables false
attribute [-simp] List.getElem_cons_drop
variable {C : WProg}
end Go.D
end
section
set_option linter.unusedSimpArgs false
set_option linter.unusedVariables false
namespace Go.D
open Go Go.Pav Go.Pw P
set_option maxRecDepth 10000
set_option maxHeartbeats 4000000
set_option linter.unusedSimpArgs false
set_option linter.unusedVariables false
attribute [-simp] List.getElem_cons_drop
variable {C : WProg}
end Go.D
end
section
set_option linter.unusedSimpArgs false
set_option linter.unusedVariables false
namespace Go.D
open Go Go.Pav Go.Pw P
set_option maxRecDepth 10000
set_option maxHeartbeats 4000000
set_option linter.unusedSimpArgs false
set_option linter.unusedVariables false
attribute [-simp] List.getElem_cons_drop
variable {C : WProg}
end Go.D
end
section
set_option linter.unusedSimpArgs false
set_option linter.unusedVariables false
namespace Go.D
open Go Go.Pav Go.Pw P
set_option maxRecDepth 10000
set_option maxHeartbeats 4000000
set_option linter.unusedSimpArgs false
set_option linter.unusedVariables false
attribute [-simp] List.getElem_cons_drop
variable {C : WProg}
end Go.D
end
section
set_option linter.unusedSimpArgs false
set_option linter.unusedVariables false
namespace Go.D
open Go Go.Pav Go.Pw P
set_option maxRecDepth 10000
set_option maxHeartbeats 4000000
set_option linter.unusedSimpArgs false
set_option linter.unusedVariables false
attribute [-simp] List.getElem_cons_drop
variable {C : WProg}
@[simp] theorem oldRefs_zero : ∀ h : WHeap, oldRefs 0 h = []
 | [] => rfl
 | (b, o) :: r => by rw [oldRefs, if_neg (by omega), oldRefs_zero r]
@[simp] theorem renOld_zero (π : Nat → Option Nat) : ∀ h : WHeap, renOld 0 π h = some []
 | [] => rfl
 | (b, o) :: r => by rw [renOld, if_neg (by omega), renOld_zero π r]
end Go.D
end
section
set_option linter.unusedSimpArgs false
set_option linter.unusedVariables false
namespace Go.D
open Go Go.Pav Go.Pw P
set_option maxRecDepth 10000
set_option maxHeartbeats 4000000
set_option linter.unusedSimpArgs false
set_option linter.unusedVariables false
attribute [-simp] List.getElem_cons_drop
variable {C : WProg}
@[simp] theorem getp (h : WHeap) (n : Nat) (o : WObj) (k : Nat) : Pav.get (Pav.put h n o) k = if n = k then some o else Pav.get h k := get_put h n o k
end Go.D
end
section
set_option linter.unusedSimpArgs false
set_option linter.unusedVariables false
namespace Go.D
open Go Go.Pav Go.Pw P
set_option maxRecDepth 10000
set_option linter.unusedSimpArgs false
set_option linter.unusedVariables false
attribute [-simp] List.getElem_cons_drop
variable {C : WProg} {α β : Type}
theorem itE_rnd {ks : List Kd} {x : It} (h : itE ks 12 x false = 0) : itOk ks.length x = true ∧ rndE (kdAt ks x.t).p x 12 = 0 := by
 unfold itE at h
 cases c : itOk ks.length x
 · rw [c] at h; simp at h
 · rw [c] at h
   by_cases d : rndE (kdAt ks x.t).p x 12 = 0
   · exact ⟨rfl, d⟩
   · simp [d] at h
end Go.D
end
section
set_option linter.unusedSimpArgs false
set_option linter.unusedVariables false
end
section
set_option linter.unusedSimpArgs false
set_option linter.unusedVariables false
namespace Go.D
open Go Go.Pav Go.Pw P
set_option maxRecDepth 10000
set_option maxHeartbeats 4000000
set_option linter.unusedSimpArgs false
set_option linter.unusedVariables false
attribute [-simp] List.getElem_cons_drop
variable {C : WProg}
end Go.D
end
section
set_option linter.unusedSimpArgs false
set_option linter.unusedVariables false
namespace Go.D
open Go Go.Pav Go.Pw P
set_option maxRecDepth 10000
set_option maxHeartbeats 4000000
set_option linter.unusedSimpArgs false
set_option linter.unusedVariables false
attribute [-simp] List.getElem_cons_drop
variable {C : WProg}
end Go.D
end
section
set_option linter.unusedSimpArgs false
set_option linter.unusedVariables false
namespace Go.D
open Go Go.Pav Go.Pw P
set_option maxRecDepth 10000
set_option maxHeartbeats 4000000
set_option linter.unusedSimpArgs false
set_option linter.unusedVariables false
attribute [-simp] List.getElem_cons_drop
variable {C : WProg}
end Go.D
end
section
set_option linter.unusedSimpArgs false
set_option linter.unusedVariables false
namespace Go.D
open Go Go.Pav Go.Pw P
set_option maxRecDepth 10000
set_option maxHeartbeats 4000000
set_option linter.unusedSimpArgs false
set_option linter.unusedVariables false
attribute [-simp] List.getElem_cons_drop
variable {C : WProg}
structure HasRo (C : WProg) : Prop extends HasCp C
structure LG (r : Int) (l : List En) : Prop where
 hr : 0 ≤ r ∧ r ≤ 255
 hl : l.length ≤ 12
 z : Szd l
 en : ∀ x ∈ l, EnIn x
 ck : ckE (kindsOf r) 12 l = 0
 ck1 : ∀ x ∈ l, ckE (kindsOf r) 12 [x] = 0
 t : ∀ x ∈ l, 0 ≤ x.i.t ∧ x.i.t < (kindsOf r).length
 rE : ∀ x ∈ l, rndE (kdAt (kindsOf r) x.i.t).p x.i 12 = 0
section
variable {r : Int} {l : List En} (L : LG r l)
end
end Go.D
end
section
set_option linter.unusedSimpArgs false
set_option linter.unusedVariables false
namespace Go.D
open Go Go.Pav Go.Pw P
set_option maxRecDepth 10000
set_option maxHeartbeats 4000000
set_option linter.unusedSimpArgs false
set_option linter.unusedVariables false
attribute [-simp] List.getElem_cons_drop
variable {C : WProg}
structure HasHd (C : WProg) : Prop extends HasRo C where
 f149 : C.fns.get 149 = some w149
 f304 : C.fns.get 304 = some w304
def stk (ks : List Kd) (l : List En) (i : Nat) : Bool := match l[i]? with | some x => (kdAt ks x.i.t).st | none => false
theorem stk_get {ks : List Kd} {l : List En} {i : Nat} (h : i < l.length) : stk ks l i = (kdAt ks l[i].i.t).st := by unfold stk; rw [List.getElem?_eq_getElem h]
def hrF (ks : List Kd) (l : List En) (s : Int) : Nat → Nat → Int → Int
 | 0, _, a => a
 | n + 1, i, a => hrF ks l s n (i + 1) (if stk ks l i = true ∧ top l i ≤ s then (i : Int) else a)
def hrA (ks : List Kd) (l : List En) (s : Int) : Int := hrF ks l s l.length 0 (-1)
theorem hrF_stop {ks : List Kd} {l : List En} (hz : Szd l) {s : Int} : ∀ (n i : Nat) (a : Int), n + i = l.length → s < top l i → hrF ks l s n i a = a := by
 intro n
 induction n with
 | zero => intro i a _ _; rfl
 | succ n ih =>
  intro i a hi h
  have := hz.lt (i := i) (by omega)
  rw [hrF, if_neg (by omega)]
  exact ih (i + 1) a (by omega) (by omega)
theorem hrF_bd (ks : List Kd) (l : List En) (s : Int) : ∀ (n i : Nat) (a : Int), n + i = l.length → -1 ≤ a ∧ a < i → -1 ≤ hrF ks l s n i a ∧ hrF ks l s n i a < l.length := by
 intro n
 induction n with
 | zero => intro i a hi h; rw [hrF]; omega
 | succ n ih =>
  intro i a hi h
  rw [hrF]
  refine ih (i + 1) _ (by omega) ?_
  split <;> omega
theorem sticky_ok (H : HasHd C) (ks : List Kd) (ke : Bool) (cap : Int) (x : En) (ht : 0 ≤ x.i.t ∧ x.i.t < ks.length) : FnW C 304 [aR ks ke cap, .agg (eEn x)] = some (.int .i64 (if (kdAt ks x.i.t).st = true then 1 else 0)) := by
 obtain ⟨t, hT⟩ : ∃ t : Nat, x.i.t = t := ⟨x.i.t.toNat, by omega⟩
 have h4 : t < ks.length := by omega
 rw [hT, kdAt_get h4, fnW_eq H.f304 rfl]
 cases c : ks[t].st <;> simp (disch := omega) [w304, hT, h4, c, H.inl, inlB, H.pp, ppB]
theorem rhead_loop (H : HasHd C) (ks : List Kd) (ke : Bool) (cap : Int) (l : List En) (e : Bool) (s : Int) (hz : Szd l) (ht : ∀ x ∈ l, 0 ≤ x.i.t ∧ x.i.t < ks.length) : ∀ n i, n + i = l.length → ∀ a : Int,
 w149_K0 C ⟨[(8, .int .i64 i), (7, .int .i64 a), (3, .ptr 0 0 0), (2, .int .i64 s), (1, .ro 6 (l.map eEn) e)], [(0, .cells 2 [[.ro 9 (ks.map eKd) ke, .int .i64 cap]] true true)], 1⟩ = some (.int .i64 (hrF ks l s n i a)) := by
 intro n
 induction n with
 | zero =>
  intro i hi a
  have h3 : ¬ i < l.length := by omega
  simp only [w149_K0]; rw [ck_unf w149_B0.eq_1]
  simp (disch := omega) [ck_unf w149_c0.eq_1, h3, hrF]
 | succ n ih =>
  intro i hi a
  have h1 : i < l.length := by omega
  have hn := hz.n
  have hs := sticky_ok H ks ke cap l[i] (ht _ (List.getElem_mem h1))
  have htp := rtop_ok H.toHasSz l e hz i (by omega)
  rw [hrF, stk_get h1]
  simp only [aR, eEn] at hs
  cases c : (kdAt ks l[i].i.t).st
  · rw [if_neg (by simp)]
    have this := ih (i + 1) (by omega) a
    rw [c] at hs
    generalize hrF ks l s n (i + 1) a = R at *
    simp only [w149_K0] at this ⊢; rw [ck_unf w149_B0.eq_1]
    simp at this hs
    simp (disch := omega) [h1, hs, wI64, H.inl, inlB, H.pp, ppB, this]
  · rw [c] at hs
    by_cases d : top l i ≤ s
    · rw [if_pos ⟨rfl, d⟩]
      have this := ih (i + 1) (by omega) i
      generalize hrF ks l s n (i + 1) i = R at *
      simp only [w149_K0] at this ⊢; rw [ck_unf w149_B0.eq_1]
      simp at this hs
      simp (disch := omega) [h1, hs, htp, d, wI64, H.inl, inlB, H.pp, ppB, this]
    · rw [if_neg (by rintro ⟨_, q⟩; exact d q)]
      have this := ih (i + 1) (by omega) a
      generalize hrF ks l s n (i + 1) a = R at *
      simp only [w149_K0] at this ⊢; rw [ck_unf w149_B0.eq_1]
      simp at this hs
      simp (disch := omega) [h1, hs, htp, d, wI64, H.inl, inlB, H.pp, ppB, this]
theorem rhead_ok (H : HasHd C) (ks : List Kd) (ke : Bool) (cap : Int) (l : List En) (e : Bool) (s : Int) (hz : Szd l) (ht : ∀ x ∈ l, 0 ≤ x.i.t ∧ x.i.t < ks.length) : FnW C 149 [aR ks ke cap, .ro 6 (l.map eEn) e, .int .i64 s] = some (.int .i64 (hrA ks l s)) := by
 have h := rhead_loop H ks ke cap l e s hz ht l.length 0 (by simp) (-1)
 rw [fnW_eq H.f149 rfl]
 unfold hrA
 generalize hrF ks l s l.length 0 (-1) = R at *
 simp only [w149_K0] at h
 try simp at h
 simp [w149, h, H.inl, inlB, H.pp, ppB]
end Go.D
end
section
set_option linter.unusedSimpArgs false
set_option linter.unusedVariables false
namespace Go.D
open Go Go.Pav Go.Pw P
set_option maxRecDepth 10000
set_option maxHeartbeats 4000000
set_option linter.unusedSimpArgs false
set_option linter.unusedVariables false
attribute [-simp] List.getElem_cons_drop
variable {C : WProg}
theorem Vp.visR {l : List En} {s v : Int} (h : Vp l s v) : ∃ a b : Nat, visF l s v = a ∧ visT l s v = b ∧ a ≤ b ∧ b ≤ l.length ∧ (∀ i, i < l.length → ((top l i < s + v ∧ s < top l (i + 1)) ↔ (a ≤ i ∧ i < b))) ∧
 (0 < l.length → a < b ∧ top l a ≤ s ∧ s < top l (a + 1) ∧ (s + v ≤ top l b ∨ b = l.length)) := by
 unfold visF visT
 by_cases c : l.length = 0
 · rw [if_pos c, if_pos c]
   exact ⟨0, 0, rfl, rfl, by omega, by omega, fun i hi => by omega, fun q => by omega⟩
 · rw [if_neg c, if_neg c]
   obtain ⟨p, q, p1, q1, hpq, a, b⟩ := h.ends (by omega)
   refine ⟨p, q + 1, h.rowA_eq p1 a.1 a.2, by rw [h.rowA_eq q1 b.1 b.2]; rfl, by omega, by omega, fun i hi => ?_, fun _ => ⟨by omega, a.1, a.2, ?_⟩⟩
   · rw [h.seen p1 q1 a b hi]; omega
   · by_cases d : q + 1 = l.length
     · exact .inr d
     · left
       have := h.mono (i := q + 1) (j := l.length) (by omega) (by omega)
       rw [top_len] at this
       unfold imin at b
       split at b <;> omega
section
variable {r : Int} {l : List En}
end
end Go.D
end
section
set_option linter.unusedSimpArgs false
set_option linter.unusedVariables false
namespace Go.D
open Go Go.Pav Go.Pw P
set_option maxRecDepth 10000
set_option maxHeartbeats 4000000
set_option linter.unusedSimpArgs false
set_option linter.unusedVariables false
attribute [-simp] List.getElem_cons_drop
variable {C : WProg}
structure HasWo (C : WProg) : Prop extends HasHd C where
 f131 : C.fns.get 131 = some w131
 f133 : C.fns.get 133 = some w133
 f137 : C.fns.get 137 = some w137
theorem Vp.sb2 {l : List En} {s v : Int} (hp : Vp l s v) : 0 ≤ s ∧ s ≤ 4611686018427387904 := by
 have h1 := hp.s0
 have h0 := hp.v0
 have h2 := hp.t
 have h3 := hp.nn
 unfold mostS at h1; split at h1 <;> omega
def winE (l : List En) (o v k : Int) : Int := if vpE l o v ≠ 0 then vpE l o v else if k < 0 ∨ 16 < k then 1 else 0
theorem vpE_nn (l : List En) (o v : Int) : 0 ≤ vpE l o v := by
 have h : 0 ≤ szE l := by unfold szE ovE; repeat (first | omega | split)
 unfold vpE
 repeat (first | omega | split)
theorem winE_nn (l : List En) (o v k : Int) : 0 ≤ winE l o v k := by
 have := vpE_nn l o v
 unfold winE
 repeat (first | omega | split)
theorem window_bad (H : HasWo C) (l : List En) (e : Bool) (hl : l.length ≤ 1000000) (hs : SzB l) (o v k : Int) (ho : -9223372036854775808 ≤ o ∧ o ≤ 9223372036854775807) (hv : -9223372036854775808 ≤ v ∧ v ≤ 9223372036854775807) (h : winE l o v k ≠ 0) :
 FnW C 132 [aL l e, .int .i64 o, .int .i64 v, .int .i64 k] = some (.tup [.agg [.int .i64 0, .int .i64 0], .int .i64 (winE l o v k)]) := by
 have h1 := visible_ok H.toHasSz l e hl hs o v ho hv
 rw [fnW_eq H.f132 rfl]
 unfold winE at h ⊢
 by_cases c : vpE l o v = 0
 · rw [if_neg (by simpa using c)] at h ⊢
   rw [if_neg (by simpa using c)] at h1
   by_cases d : k < 0 ∨ 16 < k
   · rw [if_pos d]
     generalize visF l o v = A at *
     generalize visT l o v = B at *
     rcases d with d | d
     · simp (disch := omega) [w132, h1, d, H.inl, inlB, H.pp, ppB]
     · have d2 : ¬ k < 0 := by omega
       simp (disch := omega) [w132, h1, d, d2, H.inl, inlB, H.pp, ppB]
   · rw [if_neg d] at h; exact absurd rfl h
 · rw [if_pos c] at h ⊢
   rw [if_pos c] at h1
   generalize vpE l o v = B at *
   simp (disch := omega) [w132, h1, c, H.inl, inlB, H.pp, ppB]
theorem attached_bad (H : HasWo C) (ks : List Kd) (ke : Bool) (cap : Int) (hr : RuIn ks) (l : List En) (e : Bool) (hl : l.length ≤ 1000000) (hs : ∀ x ∈ l, EnIn x) (o v k : Int) (ho : -9223372036854775808 ≤ o ∧ o ≤ 9223372036854775807) (hv : -9223372036854775808 ≤ v ∧ v ≤ 9223372036854775807)
 (B : Int) (hB : B = (if ckE ks cap l ≠ 0 then ckE ks cap l else winE l o v k)) (h : B ≠ 0) :
 FnW C 134 [aR ks ke cap, aL l e, .int .i64 o, .int .i64 v, .int .i64 k] = some (.tup [.ro 1 [] true, .int .i64 B]) := by
 have h1 := lcheck_ok H.toHasK ks ke cap hr l e hl hs
 rw [fnW_eq H.f134 rfl]
 by_cases c : ckE ks cap l = 0
 · rw [if_neg (by simpa using c)] at hB
   have h2 := window_bad H l e hl (fun x hx => (hs x hx).s) o v k ho hv (by rw [← hB]; exact h)
   rw [c] at h1
   rw [← hB] at h2
   simp (disch := omega) [w134, h1, h2, h, H.inl, inlB, H.pp, ppB]
 · rw [if_pos c] at hB
   rw [← hB] at h1
   simp (disch := omega) [w134, h1, h, H.inl, inlB, H.pp, ppB]
def nearF (l : List En) (o v k : Int) (i : Nat) : Nat → Nat → Int
 | 0, _ => 0
 | n + 1, j => (if (((j : Int) - i ≤ k) ∧ ((i : Int) - j ≤ k)) ∧ (top l j < o + v ∧ o < top l (j + 1)) then 1 else 0) + nearF l o v k i n (j + 1)
theorem nearF_nn (l : List En) (o v k : Int) (i : Nat) : ∀ n j, 0 ≤ nearF l o v k i n j ∧ nearF l o v k i n j ≤ n := by
 intro n
 induction n with
 | zero => intro j; simp [nearF]
 | succ n ih =>
  intro j
  have := ih (j + 1)
  rw [nearF]
  split <;> omega
theorem nearF_pos (l : List En) (o v k : Int) (i : Nat) : ∀ n j, 0 < nearF l o v k i n j ↔ ∃ q, j ≤ q ∧ q < j + n ∧ (((q : Int) - i ≤ k) ∧ ((i : Int) - q ≤ k)) ∧ (top l q < o + v ∧ o < top l (q + 1)) := by
 intro n
 induction n with
 | zero => intro j; constructor
           · intro h; rw [nearF] at h; omega
           · rintro ⟨q, h1, h2, _⟩; omega
 | succ n ih =>
  intro j
  have hn := nearF_nn l o v k i n (j + 1)
  rw [nearF]
  constructor
  · intro h
    by_cases c : (((j : Int) - i ≤ k) ∧ ((i : Int) - j ≤ k)) ∧ (top l j < o + v ∧ o < top l (j + 1))
    · exact ⟨j, by omega, by omega, c⟩
    · rw [if_neg c] at h
      obtain ⟨q, h1, h2, h3⟩ := (ih (j + 1)).1 (by omega)
      exact ⟨q, by omega, by omega, h3⟩
  · rintro ⟨q, h1, h2, h3⟩
    by_cases c : q = j
    · subst c
      rw [if_pos h3]; omega
    · have := (ih (j + 1)).2 ⟨q, by omega, by omega, h3⟩
      split <;> omega
theorem near_iff {l : List En} {o v : Int} (hp : Vp l o v) {a b K : Nat} (hv : ∀ i, i < l.length → ((top l i < o + v ∧ o < top l (i + 1)) ↔ (a ≤ i ∧ i < b))) (hab : a < b) (hbl : b ≤ l.length) {i : Nat} (hi : i < l.length) :
 0 < nearF l o v K i l.length 0 ↔ (a - K ≤ i ∧ i < min l.length (b + K)) := by
 rw [nearF_pos]
 constructor
 · rintro ⟨q, _, h2, ⟨h3, h4⟩, h5⟩
   have := (hv q (by omega)).1 h5
   omega
 · rintro ⟨h1, h2⟩
   by_cases c : i < a
   · exact ⟨a, by omega, by omega, ⟨by omega, by omega⟩, (hv a (by omega)).2 (by omega)⟩
   · by_cases d : i < b
     · exact ⟨i, by omega, by omega, ⟨by omega, by omega⟩, (hv i (by omega)).2 (by omega)⟩
     · exact ⟨b - 1, by omega, by omega, ⟨by omega, by omega⟩, (hv (b - 1) (by omega)).2 (by omega)⟩
theorem rw_in (H : HasWo C) (l : List En) (e : Bool) (o v : Int) (hp : Vp l o v) (K : Nat) (hK : K ≤ 16) (i : Nat) (hi : i < l.length) (f t : Int) (ht : 0 ≤ t ∧ t ≤ 2000) (R : AV)
 (hnext : w131_K0 C ⟨[(13, .int .i64 ((i : Int) - 1)), (12, .int .i64 (if 0 < nearF l o v K i l.length 0 then t + 1 else t)), (11, .int .i64 (if 0 < nearF l o v K i l.length 0 then i else f)), (3, .int .i64 K), (2, .int .i64 v), (1, .int .i64 o), (0, .ro 6 (l.map eEn) e)], [], 0⟩ = some R) :
 ∀ m j, m + j = l.length → ∀ c : Int, 0 ≤ c → c ≤ j → c + nearF l o v K i m j = nearF l o v K i l.length 0 →
 w131_K1 C ⟨[(15, .int .i64 j), (14, .int .i64 c), (13, .int .i64 i), (12, .int .i64 t), (11, .int .i64 f), (3, .int .i64 K), (2, .int .i64 v), (1, .int .i64 o), (0, .ro 6 (l.map eEn) e)], [], 0⟩ = some R := by
 have hn := hp.n
 intro m
 induction m with
 | zero =>
  intro j hj c h0 hc he
  have h3 : ¬ j < l.length := by omega
  rw [nearF, Int.add_zero] at he
  rw [← he] at hnext
  simp only [w131_K0] at hnext
  simp only [w131_K1]; rw [ck_unf w131_B1.eq_1]
  by_cases d : 0 < c
  · rw [if_pos d, if_pos d] at hnext
    simp (disch := omega) [ck_unf w131_c2.eq_1, ck_unf w131_c1.eq_1, h3, d, wI64, hnext]
  · rw [if_neg d, if_neg d] at hnext
    simp (disch := omega) [ck_unf w131_c2.eq_1, ck_unf w131_c1.eq_1, h3, d, wI64, hnext]
 | succ m ih =>
  intro j hj c h0 hc he
  have h1 : j < l.length := by omega
  have hs := rseen_ok H.toHasSz l e o v hp j h1
  rw [nearF] at he
  by_cases c1 : (j : Int) - i ≤ K
  · by_cases c2 : (i : Int) - j ≤ K
    · by_cases c3 : top l j < o + v ∧ o < top l (j + 1)
      · rw [if_pos ⟨⟨c1, c2⟩, c3⟩] at he
        rw [if_pos c3] at hs
        have this := ih (j + 1) (by omega) (c + 1) (by omega) (by omega) (by omega)
        simp only [w131_K1] at this ⊢; rw [ck_unf w131_B1.eq_1]
        simp at this
        simp (disch := omega) [h1, c1, c2, hs, wI64, H.inl, inlB, H.pp, ppB, this]
      · rw [if_neg (by rintro ⟨_, q⟩; exact c3 q)] at he
        rw [if_neg c3] at hs
        have this := ih (j + 1) (by omega) c (by omega) (by omega) (by omega)
        simp only [w131_K1] at this ⊢; rw [ck_unf w131_B1.eq_1]
        simp at this
        simp (disch := omega) [h1, c1, c2, hs, wI64, H.inl, inlB, H.pp, ppB, this]
    · rw [if_neg (by rintro ⟨⟨_, q⟩, _⟩; exact c2 q)] at he
      have this := ih (j + 1) (by omega) c (by omega) (by omega) (by omega)
      simp only [w131_K1] at this ⊢; rw [ck_unf w131_B1.eq_1]
      simp at this
      simp (disch := omega) [h1, c1, c2, wI64, H.inl, inlB, H.pp, ppB, this]
  · rw [if_neg (by rintro ⟨⟨q, _⟩, _⟩; exact c1 q)] at he
    have this := ih (j + 1) (by omega) c (by omega) (by omega) (by omega)
    simp only [w131_K1] at this ⊢; rw [ck_unf w131_B1.eq_1]
    simp at this
    simp (disch := omega) [h1, c1, wI64, H.inl, inlB, H.pp, ppB, this]
def wdT (A B n : Nat) : Int := if n < B then (B : Int) - (max A n : Nat) else 0
def wdF (A B n : Nat) : Int := if n < B then (max A n : Nat) else 0
theorem rw_out (H : HasWo C) (l : List En) (e : Bool) (o v : Int) (hp : Vp l o v) (K : Nat) (hK : K ≤ 16) {a b : Nat} (hv : ∀ i, i < l.length → ((top l i < o + v ∧ o < top l (i + 1)) ↔ (a ≤ i ∧ i < b))) (hab : a < b) (hbl : b ≤ l.length) :
 ∀ (n : Nat) (i : Int), i + 1 = n → n ≤ l.length →
 w131_K0 C ⟨[(13, .int .i64 i), (12, .int .i64 (wdT (a - K) (min l.length (b + K)) n)), (11, .int .i64 (wdF (a - K) (min l.length (b + K)) n)), (3, .int .i64 K), (2, .int .i64 v), (1, .int .i64 o), (0, .ro 6 (l.map eEn) e)], [], 0⟩ =
  some (.tup [.int .i64 (a - K : Nat), .int .i64 (min l.length (b + K) : Nat), .int .i64 0]) := by
 have hn := hp.n
 intro n
 induction n with
 | zero =>
  intro i hi hl
  have h3 : ¬ 0 ≤ i := by omega
  have e1 : wdT (a - K) (min l.length (b + K)) 0 = ((min l.length (b + K) : Nat) : Int) - (a - K : Nat) := by unfold wdT; rw [if_pos (by omega)]; simp
  have e2 : wdF (a - K) (min l.length (b + K)) 0 = (a - K : Nat) := by unfold wdF; rw [if_pos (by omega)]; simp
  rw [e1, e2]
  generalize hA : a - K = A at *
  generalize hB : min l.length (b + K) = B at *
  simp only [w131_K0]; rw [ck_unf w131_B0.eq_1]
  have e3 : (A : Int) + ((B : Int) - A) = B := by omega
  simp (disch := omega) [ck_unf w131_c0.eq_1, h3, wI64, e3]
 | succ n ih =>
  intro i hi hl
  have ei : i = n := by omega
  subst ei
  have h3 : (0 : Int) ≤ n := by omega
  have hni := near_iff hp (K := K) hv hab hbl (i := n) (by omega)
  have this := ih ((n : Int) - 1) (by omega) (by omega)
  have ht : 0 ≤ wdT (a - K) (min l.length (b + K)) (n + 1) ∧ wdT (a - K) (min l.length (b + K)) (n + 1) ≤ 2000 := by unfold wdT; split <;> omega
  have e1 : (if 0 < nearF l o v K n l.length 0 then wdT (a - K) (min l.length (b + K)) (n + 1) + 1 else wdT (a - K) (min l.length (b + K)) (n + 1)) = wdT (a - K) (min l.length (b + K)) n := by
   by_cases c : 0 < nearF l o v K n l.length 0
   · have := hni.1 c
     rw [if_pos c]
     unfold wdT
     rw [if_pos this.2]
     split <;> omega
   · have : ¬ _ := fun q => c (hni.2 q)
     rw [if_neg c]
     unfold wdT
     split <;> split <;> omega
  have e2 : (if 0 < nearF l o v K n l.length 0 then (n : Int) else wdF (a - K) (min l.length (b + K)) (n + 1)) = wdF (a - K) (min l.length (b + K)) n := by
   by_cases c : 0 < nearF l o v K n l.length 0
   · have := hni.1 c
     rw [if_pos c]
     unfold wdF
     rw [if_pos this.2]
     omega
   · have : ¬ _ := fun q => c (hni.2 q)
     rw [if_neg c]
     unfold wdF
     split <;> split <;> omega
  have k := rw_in H l e o v hp K hK n (by omega) (wdF (a - K) (min l.length (b + K)) (n + 1)) (wdT (a - K) (min l.length (b + K)) (n + 1)) ht _ (by rw [e1, e2]; exact this) l.length 0 (by simp) 0 (by omega) (by omega) (by omega)
  generalize wdT (a - K) (min l.length (b + K)) (n + 1) = T at *
  generalize wdF (a - K) (min l.length (b + K)) (n + 1) = F at *
  simp only [w131_K1] at k
  try simp at k
  simp only [w131_K0]; rw [ck_unf w131_B0.eq_1]
  simp (disch := omega) [h3, wI64, k]
end Go.D
end
