/- Part of the theory that the claims of this work use: D36, GTy, V27, E01, E02, E03, E04, E06, E08, G01, H01, E12, E13, E07, E09, D46, E15, E16, E10, E11, D30, D31, D38, D40, V600, D47, D48, D49, E17. No conditions of its own. -/
import Derived.Test.YtfombghmbbfpaaaGreatT5
section
set_option linter.unusedSimpArgs false
set_option linter.unusedVariables false
namespace Go.D
open Go Go.Pav Go.Pw P
set_option maxRecDepth 10000
set_option maxHeartbeats 4000000
set_option linter.unusedSimpArgs false
set_option linter.unusedVariables false
attribute [-simp] List.getElem_cons_drop
variable {C : WProg}
structure GoodE (ks : List Kd) (e : En) : Prop where
 i : Good e.i
 ok : itE ks 12 e.i false = 0
 s : 1 ≤ e.s ∧ e.s ≤ 40
 b : e.kn = true ∨ e.s = (kdAt ks e.i.t).b
structure KsIn (ks : List Kd) : Prop where
 r : RuIn ks
 l : ks.length = 3
 b : ∀ t : Int, 0 ≤ t → t ≤ 2 → 1 ≤ (kdAt ks t).b ∧ (kdAt ks t).b ≤ 30
theorem ks_in (n : Int) (hn : 0 ≤ n ∧ n ≤ 255) : KsIn (kindsOf n) := ⟨ru_in n, rfl, fun t h1 h2 => kd_base n hn t ⟨h1, h2⟩⟩
theorem lof_sl (H : HasG C) (ks : List Kd) (hks : KsIn ks) (l : List It) (le : Bool) (hl : l.length ≤ 12) (hg : ∀ x ∈ l, Good x) (q : List Q4) (qe : Bool) (z : List Int) (ze : Bool) (hz : ∀ s ∈ z, 0 ≤ s ∧ s ≤ 255) (hzl : z.length < 9223372036854775808) (r : Int) : ∀ n i, n + i = l.length →
 ∀ G : List En, G ≠ [] → G.length ≤ i → (∀ x ∈ G, GoodE ks x) → (keysE G ++ (l.drop i).map It.k).Nodup →
 ∃ (R : List En) (f : Bool), w130_K0 C ⟨[(7, .int .i64 i), (6, .ptr 0 0 0), (5, .ro 4 (l.map cIt) le), (4, .ptr 2 0 0), (3, .ptr 3 0 0), (2, .ptr 4 0 0), (1, .ptr 5 0 0)], [(0, .cells 1 [[.sl 1 6 0 G.length G.length false]] true false), (1, .cells 6 (G.map eEn) true true), (2, .cells 2 [[.ro 9 (ks.map eKd) true, .int .i64 12]] true true), (3, .cells 1 [[.ro 6 [] true]] true true), (4, .cells 2 [[.ro 9 [] true, .int .i64 0]] true true), (5, .cells 3 [[.ro 4 (q.map eQ) qe, .ro 1 (z.map eU8) ze, .int .u8 r]] true true)], 6⟩ = some (.tup [aR ks true 12, aL R f]) ∧ R.length ≤ 12 ∧ (∀ e ∈ R, GoodE ks e) ∧ (keysE R).Nodup := by
 intro n
 induction n with
 | zero =>
  intro i hi G hne hG hge hn
  have h1 : l.drop i = [] := List.drop_eq_nil_of_le (by omega)
  have h3 : ¬ i < l.length := by omega
  have h6 : List.take G.length (List.map eEn G) = List.map eEn G := List.take_of_length_le (by simp)
  refine ⟨G, false, ?_, by omega, hge, by rw [h1] at hn; simpa using hn⟩
  simp only [w130_K0]; rw [ck_unf w130_B0.eq_1]
  simp [ck_unf w130_c0.eq_1, h3, h6]
 | succ n ih =>
  intro i hi G hne hG hge hn
  have h1 : i < l.length := by omega
  have gx := hg _ (List.getElem_mem h1)
  have hii := ritem_ok H.toHasK ks true 12 l[i] gx.it hks.r false
  have hfr := rfresh_ok H.toHasK ks true 12 l[i] gx.it (by have := gx.t; have := hks.l; omega)
  have hbase := hks.b l[i].t gx.t.1 gx.t.2
  rw [drop_cons h1, List.map_cons] at hn
  have hfit : (G.length + 1) * 73 ≤ 35184372088832 := by omega
  simp only [aR, eIt, Bool.false_eq_true, if_false] at hii
  simp only [aR, eIt, aE, eEn, fre] at hfr
  have hE0 : 0 ≤ itE ks 12 l[i] false := by unfold itE; repeat (first | omega | split)
  by_cases c1 : itE ks 12 l[i] false = 0
  · have step : ∀ e : En, e.i = l[i] → GoodE ks e → ∃ (R : List En) (f : Bool), w130_K0 C ⟨[(7, .int .i64 ((i : Int) + 1)), (6, .ptr 0 0 0), (5, .ro 4 (l.map cIt) le), (4, .ptr 2 0 0), (3, .ptr 3 0 0), (2, .ptr 4 0 0), (1, .ptr 5 0 0)], [(0, .cells 1 [[.sl 1 6 0 (G.length + 1) (G.length + 1) false]] true false), (1, .cells 6 (G.map eEn ++ [eEn e]) true true), (2, .cells 2 [[.ro 9 (ks.map eKd) true, .int .i64 12]] true true), (3, .cells 1 [[.ro 6 [] true]] true true), (4, .cells 2 [[.ro 9 [] true, .int .i64 0]] true true), (5, .cells 3 [[.ro 4 (q.map eQ) qe, .ro 1 (z.map eU8) ze, .int .u8 r]] true true)], 6⟩ = some (.tup [aR ks true 12, aL R f]) ∧ R.length ≤ 12 ∧ (∀ e ∈ R, GoodE ks e) ∧ (keysE R).Nodup := by
     intro e he hge2
     have := ih (i + 1) (by omega) (G ++ [e]) (by simp) (by simp; omega) (by
      intro y hy
      rcases List.mem_append.1 hy with q | q
      · exact hge y q
      · simp at q; rw [q]; exact hge2) (by simpa [keysE, he] using hn)
     simpa using this
    by_cases c2 : G.length < z.length
    · by_cases c3 : (0 : Int) < z[G.length]
      · have hzz := hz _ (List.getElem_mem c2)
        have hm : z[G.length].tmod 40 = z[G.length] % 40 := Int.tmod_eq_emod_of_nonneg hzz.1
        have hm1 : (0 : Int) ≤ z[G.length] % 40 := Int.emod_nonneg _ (by omega)
        have hm2 : z[G.length] % 40 < 40 := Int.emod_lt_of_pos _ (by omega)
        obtain ⟨R, f, this, hR⟩ := step ⟨l[i], 1 + z[G.length] % 40, true⟩ rfl ⟨gx, c1, by simp only; omega, .inl rfl⟩
        refine ⟨R, f, ?_, hR⟩
        rw [c1] at hii
        generalize z[G.length] % 40 = M at *
        simp only [w130_K0] at this ⊢; rw [ck_unf w130_B0.eq_1]
        simp at this
        simp (disch := omega) [h1, c2, c3, hm, hii, hfr, hfit, wI64, wU8, H.inl, inlB, H.pp, ppB, this]
      · obtain ⟨R, f, this, hR⟩ := step (fre ks l[i]) rfl ⟨gx, c1, by unfold fre; simp only; omega, .inr rfl⟩
        refine ⟨R, f, ?_, hR⟩
        rw [c1] at hii
        simp only [fre] at this
        simp only [w130_K0] at this ⊢; rw [ck_unf w130_B0.eq_1]
        simp at this
        simp (disch := omega) [h1, c2, c3, hii, hfr, hfit, wI64, wU8, H.inl, inlB, H.pp, ppB, this]
    · obtain ⟨R, f, this, hR⟩ := step (fre ks l[i]) rfl ⟨gx, c1, by unfold fre; simp only; omega, .inr rfl⟩
      refine ⟨R, f, ?_, hR⟩
      rw [c1] at hii
      simp only [fre] at this
      simp only [w130_K0] at this ⊢; rw [ck_unf w130_B0.eq_1]
      simp at this
      simp (disch := omega) [h1, c2, hii, hfr, hfit, wI64, wU8, H.inl, inlB, H.pp, ppB, this]
  · have c1' : 0 < itE ks 12 l[i] false := by omega
    obtain ⟨R, f, this, hR⟩ := ih (i + 1) (by omega) G hne (by omega) hge (by
     refine List.Nodup.sublist ?_ hn; exact List.Sublist.append (List.Sublist.refl _) (List.sublist_cons_self _ _))
    refine ⟨R, f, ?_, hR⟩
    generalize itE ks 12 l[i] false = E at *
    simp only [w130_K0] at this ⊢; rw [ck_unf w130_B0.eq_1]
    simp at this
    simp (disch := omega) [h1, c1', hii, wI64, H.inl, inlB, H.pp, ppB, this]
theorem lof_nil (H : HasG C) (ks : List Kd) (hks : KsIn ks) (l : List It) (le : Bool) (hl : l.length ≤ 12) (hg : ∀ x ∈ l, Good x) (q : List Q4) (qe : Bool) (z : List Int) (ze : Bool) (hz : ∀ s ∈ z, 0 ≤ s ∧ s ≤ 255) (hzl : z.length < 9223372036854775808) (r : Int) : ∀ n i, n + i = l.length →
 (keysE [] ++ (l.drop i).map It.k).Nodup →
 ∃ (R : List En) (f : Bool), w130_K0 C ⟨[(7, .int .i64 i), (6, .ptr 0 0 0), (5, .ro 4 (l.map cIt) le), (4, .ptr 1 0 0), (3, .ptr 2 0 0), (2, .ptr 3 0 0), (1, .ptr 4 0 0)], [(0, .cells 1 [[.ro 6 [] true]] true true), (1, .cells 2 [[.ro 9 (ks.map eKd) true, .int .i64 12]] true true), (2, .cells 1 [[.ro 6 [] true]] true true), (3, .cells 2 [[.ro 9 [] true, .int .i64 0]] true true), (4, .cells 3 [[.ro 4 (q.map eQ) qe, .ro 1 (z.map eU8) ze, .int .u8 r]] true true)], 5⟩ = some (.tup [aR ks true 12, aL R f]) ∧ R.length ≤ 12 ∧ (∀ e ∈ R, GoodE ks e) ∧ (keysE R).Nodup := by
 intro n
 induction n with
 | zero =>
  intro i hi  hn
  have h1 : l.drop i = [] := List.drop_eq_nil_of_le (by omega)
  have h3 : ¬ i < l.length := by omega
  refine ⟨[], true, ?_, by simp, by simp, by simp⟩
  simp only [w130_K0]; rw [ck_unf w130_B0.eq_1]
  simp [ck_unf w130_c0.eq_1, h3]
 | succ n ih =>
  intro i hi  hn
  have h1 : i < l.length := by omega
  have gx := hg _ (List.getElem_mem h1)
  have hii := ritem_ok H.toHasK ks true 12 l[i] gx.it hks.r false
  have hfr := rfresh_ok H.toHasK ks true 12 l[i] gx.it (by have := gx.t; have := hks.l; omega)
  have hbase := hks.b l[i].t gx.t.1 gx.t.2
  rw [drop_cons h1, List.map_cons] at hn
  simp only [aR, eIt, Bool.false_eq_true, if_false] at hii
  simp only [aR, eIt, aE, eEn, fre] at hfr
  have hE0 : 0 ≤ itE ks 12 l[i] false := by unfold itE; repeat (first | omega | split)
  by_cases c1 : itE ks 12 l[i] false = 0
  · have step : ∀ e : En, e.i = l[i] → GoodE ks e → ∃ (R : List En) (f : Bool), w130_K0 C ⟨[(7, .int .i64 ((i : Int) + 1)), (6, .ptr 0 0 0), (5, .ro 4 (l.map cIt) le), (4, .ptr 2 0 0), (3, .ptr 3 0 0), (2, .ptr 4 0 0), (1, .ptr 5 0 0)], [(0, .cells 1 [[.sl 1 6 0 1 1 false]] true false), (1, .cells 6 [eEn e] true true), (2, .cells 2 [[.ro 9 (ks.map eKd) true, .int .i64 12]] true true), (3, .cells 1 [[.ro 6 [] true]] true true), (4, .cells 2 [[.ro 9 [] true, .int .i64 0]] true true), (5, .cells 3 [[.ro 4 (q.map eQ) qe, .ro 1 (z.map eU8) ze, .int .u8 r]] true true)], 6⟩ = some (.tup [aR ks true 12, aL R f]) ∧ R.length ≤ 12 ∧ (∀ e ∈ R, GoodE ks e) ∧ (keysE R).Nodup := by
     intro e he hge2
     have := lof_sl H ks hks l le hl hg q qe z ze hz hzl r n (i + 1) (by omega) [e] (by simp) (by simp) (by simpa using hge2) (by simpa [keysE, he] using hn)
     simpa using this
    by_cases c2 : 0 < z.length
    · by_cases c3 : (0 : Int) < z[0]
      · have hzz := hz _ (List.getElem_mem c2)
        have hm : z[0].tmod 40 = z[0] % 40 := Int.tmod_eq_emod_of_nonneg hzz.1
        have hm1 : (0 : Int) ≤ z[0] % 40 := Int.emod_nonneg _ (by omega)
        have hm2 : z[0] % 40 < 40 := Int.emod_lt_of_pos _ (by omega)
        obtain ⟨R, f, this, hR⟩ := step ⟨l[i], 1 + z[0] % 40, true⟩ rfl ⟨gx, c1, by simp only; omega, .inl rfl⟩
        refine ⟨R, f, ?_, hR⟩
        rw [c1] at hii
        generalize z[0] % 40 = M at *
        simp only [w130_K0] at this ⊢; rw [ck_unf w130_B0.eq_1]
        simp at this
        simp (disch := omega) [h1, c2, c3, hm, hii, hfr, wI64, wU8, H.inl, inlB, H.pp, ppB, this]
      · obtain ⟨R, f, this, hR⟩ := step (fre ks l[i]) rfl ⟨gx, c1, by unfold fre; simp only; omega, .inr rfl⟩
        refine ⟨R, f, ?_, hR⟩
        rw [c1] at hii
        simp only [fre] at this
        simp only [w130_K0] at this ⊢; rw [ck_unf w130_B0.eq_1]
        simp at this
        simp (disch := omega) [h1, c2, c3, hii, hfr, wI64, wU8, H.inl, inlB, H.pp, ppB, this]
    · obtain ⟨R, f, this, hR⟩ := step (fre ks l[i]) rfl ⟨gx, c1, by unfold fre; simp only; omega, .inr rfl⟩
      refine ⟨R, f, ?_, hR⟩
      rw [c1] at hii
      simp only [fre] at this
      simp only [w130_K0] at this ⊢; rw [ck_unf w130_B0.eq_1]
      simp at this
      simp (disch := omega) [h1, c2, hii, hfr, wI64, wU8, H.inl, inlB, H.pp, ppB, this]
  · have c1' : 0 < itE ks 12 l[i] false := by omega
    obtain ⟨R, f, this, hR⟩ := ih (i + 1) (by omega) (by
     simp only [keysE, List.map_nil, List.nil_append] at hn ⊢; exact (List.nodup_cons.1 hn).2)
    refine ⟨R, f, ?_, hR⟩
    generalize itE ks 12 l[i] false = E at *
    simp only [w130_K0] at this ⊢; rw [ck_unf w130_B0.eq_1]
    simp at this
    simp (disch := omega) [h1, c1', hii, wI64, H.inl, inlB, H.pp, ppB, this]
theorem lof_ok (H : HasG C) (hone : ∀ q : Q4, QIn q → ∃ i : It, FnW C 422 [.agg (eQ q)] = some (eIt i) ∧ Good i) (q : List Q4) (qe : Bool) (hq : ∀ x ∈ q, QIn x) (z : List Int) (ze : Bool) (hz : ∀ s ∈ z, 0 ≤ s ∧ s ≤ 255) (hzl : z.length < 9223372036854775808) (r : Int) (hr : 0 ≤ r ∧ r ≤ 255) :
 ∃ (R : List En) (f : Bool), FnW C 130 [.agg [.ro 4 (q.map eQ) qe, .ro 1 (z.map eU8) ze, .int .u8 r]] = some (.tup [aR (kindsOf r) true 12, aL R f]) ∧ R.length ≤ 12 ∧ (∀ e ∈ R, GoodE (kindsOf r) e) ∧ (keysE R).Nodup := by
 obtain ⟨I, hI, l1, l2, l3⟩ := items_ok H hone q qe hq
 have hk := kinds_ok H r hr
 obtain ⟨R, f, h, hR⟩ := lof_nil H (kindsOf r) (ks_in r hr) I false l1 l2 q qe z ze hz hzl r I.length 0 (by simp) (by simpa [keysE] using l3)
 refine ⟨R, f, ?_, hR⟩
 rw [fnW_eq H.f130 rfl]
 generalize kindsOf r = ks at *
 simp only [w130_K0] at h
 simp at h
 simp [w130, hI, hk, h, H.inl, inlB, H.pp, ppB]
theorem chk_good (ks : List Kd) (hb : ∀ t : Int, 0 ≤ t → t ≤ 2 → 1 ≤ (kdAt ks t).b ∧ (kdAt ks t).b ≤ 30) : ∀ (l : List En) (s : List Int), (∀ e ∈ l, GoodE ks e) → (s ++ keysE l).Nodup → chk ks 12 s l = 0
 | [], _, _, _ => rfl
 | e :: r, s, hg, hn => by
  have h1 := hg e (by simp)
  have h2 : s.contains e.i.k = false := by
   simp only [keysE, List.map_cons] at hn
   have := (List.nodup_append.1 hn).2.2
   simp only [List.contains_eq_mem, decide_eq_false_iff_not]
   intro q
   exact this _ q _ (by simp) rfl
  have h3 : enE ks 12 e false = 0 := by
   unfold enE
   rw [h1.ok]
   have hh : hOk e.s = true := by unfold hOk; have := h1.s; simp; omega
   simp [hh, h1.b]
  rw [chk, h2, h3]
  simp only [ne_eq, not_true_eq_false, if_false]
  refine chk_good ks hb r _ (fun x hx => hg x (by simp [hx])) ?_
  simpa [keysE] using hn
theorem tot_good (ks : List Kd) : ∀ (l : List En) (s : Int), (∀ e ∈ l, GoodE ks e) → 0 ≤ s → s + 40 * l.length ≤ 4611686018427387904 → totG s l ≤ s + 40 * l.length
 | [], s, _, _, _ => by simp [totG]
 | e :: r, s, hg, h0, h => by
  have h1 := (hg e (by simp)).s
  have h2 : imax e.s 0 = e.s := imax_l (by omega)
  simp only [List.length_cons] at h ⊢
  rw [totG, h2, if_neg (by omega)]
  have := tot_good ks r (s + e.s) (fun x hx => hg x (by simp [hx])) (by omega) (by omega)
  omega
theorem ck_good (r : Int) (hr : 0 ≤ r ∧ r ≤ 255) (l : List En) (hl : l.length ≤ 1024) (hg : ∀ e ∈ l, GoodE (kindsOf r) e) (hn : (keysE l).Nodup) : ckE (kindsOf r) 12 l = 0 := by
 have h1 := chk_good (kindsOf r) (fun t a b => kd_base r hr t ⟨a, b⟩) l [] hg (by simpa using hn)
 have h2 := tot_good (kindsOf r) l 0 hg (by omega) (by omega)
 have h3 : ovE l = 0 := by unfold ovE tot; rw [if_neg (by omega)]
 unfold ckE
 rw [ru_ok r hr, h1, if_neg (by simp), if_neg (by omega), if_neg (by simp), h3]
theorem GoodE.en {ks : List Kd} {e : En} (h : GoodE ks e) : EnIn e := ⟨h.i.it, by have := h.s; omega⟩
end Go.D
end
section
set_option linter.unusedSimpArgs false
set_option linter.unusedVariables false
namespace Go.D
open Go Go.Pav Go.Pw
end Go.D
end
section
set_option linter.unusedSimpArgs false
set_option linter.unusedVariables false
end
section
set_option linter.unusedSimpArgs false
set_option linter.unusedVariables false
namespace Go.D
open Go Go.Pav Go.Pw P
set_option linter.unusedSimpArgs false
set_option linter.unusedVariables false
def sm : List En → Int
 | [] => 0
 | e :: r => e.s + sm r
def top (l : List En) (i : Nat) : Int := sm (l.take i)
theorem top_0 (l : List En) : top l 0 = 0 := rfl
theorem sm_app : ∀ (a b : List En), sm (a ++ b) = sm a + sm b
 | [], b => by simp [sm]
 | e :: r, b => by simp only [List.cons_append, sm]; rw [sm_app r b]; omega
theorem top_succ {l : List En} {i : Nat} (h : i < l.length) : top l (i + 1) = top l i + l[i].s := by
 unfold top
 rw [List.take_add_one, List.getElem?_eq_getElem h, sm_app]
 simp [sm]
theorem top_len (l : List En) : top l l.length = sm l := by unfold top; rw [List.take_length]
theorem top_ge {l : List En} {i : Nat} (h : l.length ≤ i) : top l i = sm l := by unfold top; rw [List.take_of_length_le h]
def szE (l : List En) : Int := if 1024 < l.length then 3 else if l.any (fun e => !hOk e.s) then 12 else ovE l
structure Szd (l : List En) : Prop where
 n : l.length ≤ 1024
 s : ∀ x ∈ l, 1 ≤ x.s ∧ x.s ≤ 2305843009213693952
 t : sm l ≤ 4611686018427387904
theorem sm_nn : ∀ (l : List En), (∀ x ∈ l, 1 ≤ x.s) → 0 ≤ sm l
 | [], _ => by simp [sm]
 | e :: r, h => by
  have h1 := h e (by simp)
  have h2 := sm_nn r fun x hx => h x (by simp [hx])
  rw [sm]; omega
theorem totG_sm : ∀ (l : List En) (s : Int), (∀ x ∈ l, 1 ≤ x.s) → s ≤ 4611686018427387904 →
 (s + sm l ≤ 4611686018427387904 ∧ totG s l = s + sm l) ∨ (4611686018427387904 < s + sm l ∧ totG s l = 4611686018427387905)
 | [], s, _, h => by left; simp [sm, totG, h]
 | e :: r, s, hs, h => by
  have h1 := hs e (by simp)
  have h2 := sm_nn r fun x hx => hs x (by simp [hx])
  have h3 : imax e.s 0 = e.s := imax_l (by omega)
  rw [totG, sm, h3]
  by_cases c : 4611686018427387904 - s < e.s
  · right; rw [if_pos c]; omega
  · rw [if_neg c]
    have := totG_sm r (s + e.s) (fun x hx => hs x (by simp [hx])) (by omega)
    rw [← Int.add_assoc]; exact this
theorem hOk_iff (n : Int) : hOk n = true ↔ 1 ≤ n ∧ n ≤ 2305843009213693952 := by unfold hOk; simp
theorem szd_of {l : List En} (h : szE l = 0) : Szd l := by
 unfold szE at h
 by_cases c1 : 1024 < l.length
 · rw [if_pos c1] at h; omega
 · rw [if_neg c1] at h
   by_cases c2 : l.any (fun e => !hOk e.s) = true
   · rw [if_pos c2] at h; omega
   · rw [if_neg c2] at h
     have hs : ∀ x ∈ l, 1 ≤ x.s ∧ x.s ≤ 2305843009213693952 := by
      intro x hx
      rw [← hOk_iff]
      simp only [List.any_eq_true, not_exists, not_and] at c2
      simpa using c2 x hx
     refine ⟨by omega, hs, ?_⟩
     rcases totG_sm l 0 (fun x hx => (hs x hx).1) (by omega) with q | q
     · omega
     · unfold ovE tot at h
       rw [q.2] at h
       simp at h
theorem Szd.tot {l : List En} (h : Szd l) : tot l = sm l := by
 unfold Go.D.tot
 have h2 := h.t
 rcases totG_sm l 0 (fun x hx => (h.s x hx).1) (by omega) with q | q
 · omega
 · omega
theorem szE_of {l : List En} (h : Szd l) : szE l = 0 := by
 have h1 := h.n
 have h2 := h.t
 have h3 : ovE l = 0 := by unfold ovE; rw [h.tot, if_neg (by omega)]
 unfold szE
 rw [if_neg (by omega), h3, if_neg]
 intro c
 obtain ⟨x, hx, c⟩ := List.any_eq_true.1 c
 have := (hOk_iff x.s).2 (h.s x hx)
 rw [this] at c
 cases c
theorem Szd.nn {l : List En} (h : Szd l) : 0 ≤ sm l := sm_nn l fun x hx => (h.s x hx).1
theorem Szd.lt {l : List En} (h : Szd l) {i : Nat} (hi : i < l.length) : top l i + 1 ≤ top l (i + 1) := by
 rw [top_succ hi]
 have := (h.s _ (List.getElem_mem hi)).1
 omega
theorem Szd.mono {l : List En} (h : Szd l) {i : Nat} : ∀ {j : Nat}, i ≤ j → j ≤ l.length → top l i + ((j : Int) - i) ≤ top l j := by
 intro j hij
 induction j with
 | zero => intro _; have : i = 0 := by omega
           subst this; simp
 | succ j ih =>
  intro hj
  by_cases c : i = j + 1
  · subst c; omega
  · have h1 := ih (by omega) (by omega)
    have h2 := h.lt (i := j) (by omega)
    omega
theorem Szd.rng {l : List En} (h : Szd l) (i : Nat) : 0 ≤ top l i ∧ top l i ≤ sm l := by
 by_cases c : i ≤ l.length
 · have h1 := h.mono (i := 0) (j := i) (by omega) c
   have h2 := h.mono (i := i) (j := l.length) c (by omega)
   rw [top_0] at h1
   rw [top_len] at h2
   omega
 · rw [top_ge (by omega)]; have := h.nn; omega
theorem Szd.small {l : List En} (h : Szd l) (i : Nat) : -9223372036854775808 ≤ top l i ∧ top l i ≤ 4611686018427387904 := by
 have := h.rng i
 have := h.t
 omega
def rowF (l : List En) (x : Int) : Nat → Nat → Int
 | 0, _ => -1
 | n + 1, i => if top l i ≤ x ∧ x < top l (i + 1) then i else rowF l x n (i + 1)
def rowA (l : List En) (x : Int) : Int := rowF l x l.length 0
theorem Szd.rowF_eq {l : List En} (h : Szd l) {x : Int} {p : Nat} (hp : p < l.length) (h1 : top l p ≤ x) (h2 : x < top l (p + 1)) : ∀ n i, n + i = l.length → i ≤ p → rowF l x n i = p := by
 intro n
 induction n with
 | zero => intro i hi hip; omega
 | succ n ih =>
  intro i hi hip
  rw [rowF]
  by_cases c : i = p
  · subst c; rw [if_pos ⟨h1, h2⟩]
  · have := h.mono (i := i + 1) (j := p) (by omega) (by omega)
    rw [if_neg (by omega)]
    exact ih (i + 1) (by omega) (by omega)
theorem Szd.rowA_eq {l : List En} (h : Szd l) {x : Int} {p : Nat} (hp : p < l.length) (h1 : top l p ≤ x) (h2 : x < top l (p + 1)) : rowA l x = p := h.rowF_eq hp h1 h2 _ _ (by simp) (by omega)
theorem Szd.row {l : List En} (h : Szd l) {x : Int} (h0 : 0 ≤ x) (h1 : x < sm l) : ∃ p, p < l.length ∧ top l p ≤ x ∧ x < top l (p + 1) := by
 have key : ∀ n, n ≤ l.length → top l n ≤ x ∨ ∃ p, p < n ∧ top l p ≤ x ∧ x < top l (p + 1) := by
  intro n
  induction n with
  | zero => intro _; left; rw [top_0]; exact h0
  | succ n ih =>
   intro hn
   rcases ih (by omega) with q | ⟨p, q1, q2⟩
   · by_cases c : top l (n + 1) ≤ x
     · exact .inl c
     · exact .inr ⟨n, by omega, q, by omega⟩
   · exact .inr ⟨p, by omega, q2⟩
 rcases key l.length (by omega) with q | ⟨p, q⟩
 · rw [top_len] at q; omega
 · exact ⟨p, q⟩
def mostS (l : List En) (v : Int) : Int := if sm l < v then 0 else sm l - v
def vpE (l : List En) (s v : Int) : Int := if szE l ≠ 0 then szE l else if v < 1 ∨ 2147483648 < v then 1 else if s < 0 ∨ mostS l v < s then 4 else 0
def visF (l : List En) (s v : Int) : Int := if l.length = 0 then 0 else rowA l s
def visT (l : List En) (s v : Int) : Int := if l.length = 0 then 0 else rowA l (imin (s + v) (sm l) - 1) + 1
structure Vp (l : List En) (o v : Int) : Prop extends Szd l where
 v0 : 1 ≤ v ∧ v ≤ 2147483648
 s0 : 0 ≤ o ∧ o ≤ mostS l v
theorem vp_of {l : List En} {s v : Int} (h : vpE l s v = 0) : Vp l s v := by
 unfold vpE at h
 by_cases c1 : szE l = 0
 · rw [if_neg (by simpa using c1)] at h
   by_cases c2 : v < 1 ∨ 2147483648 < v
   · rw [if_pos c2] at h; omega
   · rw [if_neg c2] at h
     by_cases c3 : s < 0 ∨ mostS l v < s
     · rw [if_pos c3] at h; omega
     · exact ⟨szd_of c1, by omega, by omega⟩
 · rw [if_pos c1] at h; exact absurd h c1
theorem vpE_of {l : List En} {s v : Int} (h : Vp l s v) : vpE l s v = 0 := by
 have := h.v0
 have := h.s0
 unfold vpE
 rw [szE_of h.toSzd, if_neg (by simp), if_neg (by omega), if_neg (by omega)]
theorem Vp.ends {l : List En} {s v : Int} (h : Vp l s v) (hl : 0 < l.length) : ∃ p q : Nat, p < l.length ∧ q < l.length ∧ p ≤ q ∧ (top l p ≤ s ∧ s < top l (p + 1)) ∧ (top l q ≤ imin (s + v) (sm l) - 1 ∧ imin (s + v) (sm l) - 1 < top l (q + 1)) := by
 have h1 := h.v0
 have h2 := h.s0
 have h3 : 1 ≤ sm l := by
  have := h.mono (i := 0) (j := l.length) (by omega) (by omega)
  rw [top_0, top_len] at this; omega
 have h4 : s < sm l := by unfold mostS at h2; split at h2 <;> omega
 have h5 : s + 1 ≤ imin (s + v) (sm l) ∧ imin (s + v) (sm l) ≤ sm l := by unfold imin; split <;> omega
 obtain ⟨p, p1, p2, p3⟩ := h.row h2.1 h4
 obtain ⟨q, q1, q2, q3⟩ := h.row (x := imin (s + v) (sm l) - 1) (by omega) (by omega)
 refine ⟨p, q, p1, q1, ?_, ⟨p2, p3⟩, q2, q3⟩
 by_cases c : p ≤ q
 · exact c
 · have := h.mono (i := q + 1) (j := p) (by omega) (by omega)
   omega
theorem Vp.seen {l : List En} {s v : Int} (h : Vp l s v) {p q : Nat} (hp : p < l.length) (hq : q < l.length) (h1 : top l p ≤ s ∧ s < top l (p + 1)) (h2 : top l q ≤ imin (s + v) (sm l) - 1 ∧ imin (s + v) (sm l) - 1 < top l (q + 1)) {i : Nat} (hi : i < l.length) :
 (top l i < s + v ∧ s < top l (i + 1)) ↔ (p ≤ i ∧ i ≤ q) := by
 have e1 : imin (s + v) (sm l) ≤ s + v := by unfold imin; split <;> omega
 have hm := h.rng (i + 1)
 have hlt := h.lt hi
 constructor
 · rintro ⟨a, b⟩
   constructor
   · by_cases c : p ≤ i
     · exact c
     · have := h.mono (i := i + 1) (j := p) (by omega) (by omega); omega
   · by_cases c : i ≤ q
     · exact c
     · have := h.mono (i := q + 1) (j := i) (by omega) (by omega)
       have e2 : s + v ≤ top l i := by
        unfold imin at h2; split at h2 <;> omega
       omega
 · rintro ⟨a, b⟩
   have m1 := h.mono (i := i) (j := q) b (by omega)
   have m2 := h.mono (i := p + 1) (j := i + 1) (by omega) (by omega)
   omega
end Go.D
end
section
set_option linter.unusedSimpArgs false
set_option linter.unusedVariables false
namespace Go.D
open Go Go.Pav Go.Pw P
set_option maxRecDepth 10000
set_option maxHeartbeats 4000000
set_option linter.unusedSimpArgs false
set_option linter.unusedVariables false
attribute [-simp] List.getElem_cons_drop
variable {C : WProg}
structure HasSz (C : WProg) : Prop extends HasL C where
 f122 : C.fns.get 122 = some w122
 f249 : C.fns.get 249 = some w249
 f250 : C.fns.get 250 = some w250
 f246 : C.fns.get 246 = some w246
 f247 : C.fns.get 247 = some w247
 f411 : C.fns.get 411 = some w411
 f412 : C.fns.get 412 = some w412
 f248 : C.fns.get 248 = some w248
 f121 : C.fns.get 121 = some w121
 f253 : C.fns.get 253 = some w253
 f327 : C.fns.get 327 = some w327
def SzB (l : List En) : Prop := ∀ x ∈ l, -9223372036854775808 ≤ x.s ∧ x.s ≤ 9223372036854775807
def szF : Nat → List En → Int
 | _, [] => -1
 | i, e :: r => if hOk e.s = true then szF (i + 1) r else i
theorem szF_any : ∀ (l : List En) (i : Nat), decide (0 ≤ szF i l) = l.any (fun e => !hOk e.s)
 | [], i => by simp [szF]
 | e :: r, i => by
  rw [szF, List.any_cons]
  cases c : hOk e.s
  · simp
  · simp [szF_any r (i + 1)]
theorem szbad_ok (H : HasSz C) (x : En) : FnW C 250 [aE x] = some (.bool (!hOk x.s)) := by
 rw [fnW_eq H.f250 rfl]
 unfold hOk
 by_cases c1 : 1 ≤ x.s
 · have c1' : ¬ x.s < 1 := by omega
   by_cases c2 : x.s ≤ 2305843009213693952
   · have c2' : ¬ 2305843009213693952 < x.s := by omega
     simp [w250, c1, c1', c2, c2']
   · have c2' : 2305843009213693952 < x.s := by omega
     simp [w250, c1, c1', c2, c2']
 · have c1' : x.s < 1 := by omega
   simp [w250, c1, c1']
theorem szidx_loop (H : HasSz C) (l : List En) (e : Bool) (hl : l.length ≤ 1000000) : ∀ n i, n + i = l.length →
 w402_K0 C ⟨[(8, .int .i64 i), (7, .int .i64 l.length), (1, .fn 250 []), (0, .ro 6 (l.map eEn) e)], [], 0⟩ = some (.int .i64 (szF i (l.drop i))) := by
 intro n
 induction n with
 | zero =>
  intro i hi
  simp only [w402_K0]; rw [ck_unf w402_B0.eq_1]
  have h1 : l.drop i = [] := List.drop_eq_nil_of_le (by omega)
  have h3 : ¬ i < l.length := by omega
  simp (disch := omega) [ck_unf w402_c0.eq_1, h1, h3, szF]
 | succ n ih =>
  intro i hi
  have h1 : i < l.length := by omega
  have hf := szbad_ok H l[i]
  have := ih (i + 1) (by omega)
  rw [drop_cons h1, szF]
  simp only [aE, eEn] at hf
  cases c : hOk l[i].s
  · rw [if_neg (by simp)]
    simp [c] at hf
    simp only [w402_K0]; rw [ck_unf w402_B0.eq_1]
    simp (disch := omega) [h1, wI64, hf, H.inl, inlB, H.pp, ppB]
  · rw [if_pos rfl]
    simp [c] at hf
    simp only [w402_K0] at this ⊢; rw [ck_unf w402_B0.eq_1]
    simp at this
    simp (disch := omega) [h1, wI64, hf, H.inl, inlB, H.pp, ppB, this]
theorem szcon_ok (H : HasSz C) (l : List En) (e : Bool) (hl : l.length ≤ 1000000) : FnW C 249 [.ro 6 (l.map eEn) e, .fn 250 []] = some (.bool (l.any fun e => !hOk e.s)) := by
 have h := szidx_loop H l e hl l.length 0 (by simp)
 have key : FnW C 402 [.ro 6 (l.map eEn) e, .fn 250 []] = some (.int .i64 (szF 0 l)) := by
  simp only [w402_K0] at h
  simp at h
  rw [fnW_eq H.f402 rfl]
  simp [w402, h]
 have h2 := szF_any l 0
 rw [fnW_eq H.f249 rfl, ← h2]
 simp [w249, key, H.inl, inlB, H.pp, ppB]
theorem sized_ok (H : HasSz C) (l : List En) (e : Bool) (hl : l.length ≤ 1000000) (hs : SzB l) : FnW C 122 [aL l e] = some (.int .i64 (szE l)) := by
 have h1 := szcon_ok H l e hl
 have h2 := totW_ok H.toHasL l e hl hs
 rw [fnW_eq H.f122 rfl]
 unfold szE ovE
 generalize tot l = T at *
 by_cases c1 : 1024 < l.length
 · simp [w122, c1]
 · cases c2 : l.any fun e => !hOk e.s
   · rw [c2] at h1
     by_cases c3 : 4611686018427387904 < T <;> simp [w122, c1, h1, h2, c3, H.inl, inlB, H.pp, ppB]
   · rw [c2] at h1
     simp [w122, c1, h1, h2, H.inl, inlB, H.pp, ppB]
def tps (l : List En) : List Int := (List.range (l.length + 1)).map (top l)
theorem tps_len (l : List En) : (tps l).length = l.length + 1 := by simp [tps]
theorem tps_get (l : List En) {i : Nat} (h : i < (tps l).length) : (tps l)[i] = top l i := by simp [tps]
theorem tops_loop (H : HasSz C) (l : List En) (e : Bool) (hz : Szd l) : ∀ n i, n + i = l.length → ∀ G : List Int, G = (List.range (i + 1)).map (top l) → G.length = i + 1 →
 w246_K0 C ⟨[(20, .int .i64 i), (19, .int .i64 l.length), (5, .sl 0 1 0 (l.length + 1) (l.length + 1) true), (1, .ptr 1 0 0)], [(0, .cells 1 (G.map eI ++ List.replicate n [.int .i64 0]) true true), (1, .cells 1 [[.ro 6 (l.map eEn) e]] true true)], 2⟩ =
  some (.tup [.ro 1 ((tps l).map eI) true, .int .i64 0]) := by
 intro n
 induction n with
 | zero =>
  intro i hi G hG hGl
  have h3 : ¬ i < l.length := by omega
  have h6 : List.take (l.length + 1) (List.map eI G) = List.map eI G := List.take_of_length_le (by simp; omega)
  have h7 : G.length = l.length + 1 := by omega
  have h8 : tps l = G := by rw [hG]; unfold tps; rw [show i = l.length by omega]
  rw [h8]
  simp only [w246_K0]; rw [ck_unf w246_B0.eq_1]
  simp [ck_unf w246_c0.eq_1, h3, h6, h7]
 | succ n ih =>
  intro i hi G hG hGl
  have hn := hz.n
  have h1 : i < l.length := by omega
  have hr := hz.small i
  have hr2 := hz.small (i + 1)
  have this := ih (i + 1) (by omega) (G ++ [top l (i + 1)]) (by rw [List.range_succ, List.map_append, ← hG]; rfl) (by simp [hGl])
  have hg : (G.map eI ++ List.replicate (n + 1) [AV.int .i64 0])[i]? = some (eI (top l i)) := by
   rw [List.getElem?_append_left (by simp; omega), List.getElem?_map, hG]
   simp
  have h1b : i < l.length + 1 := by omega
  rw [top_succ h1] at hr2 this
  simp only [w246_K0] at this ⊢; rw [ck_unf w246_B0.eq_1]
  simp at this
  simp (disch := omega) [h1, h1b, wI64, hg, fill_get, fill_set, hGl, this]
end Go.D
end
section
set_option linter.unusedSimpArgs false
set_option linter.unusedVariables false
namespace Go.D
open Go Go.Pav Go.Pw P
set_option maxRecDepth 10000
set_option maxHeartbeats 4000000
set_option linter.unusedSimpArgs false
set_option linter.unusedVariables false
attribute [-simp] List.getElem_cons_drop
variable {C : WProg}
theorem tops_ok (H : HasSz C) (l : List En) (e : Bool) (hz : Szd l) : FnW C 246 [aL l e] = some (.tup [.ro 1 ((tps l).map eI) true, .int .i64 0]) := by
 have hn := hz.n
 have h1 := sized_ok H l e (by omega) (fun x hx => by have := hz.s x hx; omega)
 rw [szE_of hz] at h1
 have h := tops_loop H l e hz l.length 0 (by simp) [0] (by simp [top_0]) rfl
 have h2 : (l.length + 1) * 9 ≤ 35184372088832 := by omega
 have h3 : (l.length : Int) + 1 = ((l.length + 1 : Nat) : Int) := by omega
 rw [fnW_eq H.f246 rfl]
 simp only [w246_K0] at h
 simp at h
 simp (disch := omega) [w246, h1, h2, wI64, List.replicate_succ, h, H.inl, inlB, H.pp, ppB]
theorem ftest_ok (H : HasSz C) (l : List En) (x : Int) (k : Nat) (hk : k < l.length) (hn : l.length ≤ 1024) :
 FnW C 412 [.int .i64 k, .rop [.ro 1 ((tps l).map eI) true], .rop [.int .i64 x]] = some (.bool (decide (x < top l (k + 1)))) := by
 have h1 : k + 1 < (tps l).length := by rw [tps_len]; omega
 have h2 := tps_get l h1
 rw [fnW_eq H.f412 rfl]
 simp (disch := omega) [w412, wI64, h1, h2]
theorem search_loop (H : HasSz C) (l : List En) (x : Int) (hz : Szd l) (p : Nat) (hp : p < l.length) (hp1 : top l p ≤ x) (hp2 : x < top l (p + 1)) : ∀ (n i j : Nat), j - i ≤ n → i ≤ p → p ≤ j → j ≤ l.length →
 w411_K0 C ⟨[(6, .int .i64 j), (5, .int .i64 i), (1, .fn 412 [.rop [.ro 1 ((tps l).map eI) true], .rop [.int .i64 x]])], [], 0⟩ = some (.int .i64 p) := by
 intro n
 induction n with
 | zero =>
  intro i j h1 h2 h3 h4
  have h5 : i = p := by omega
  have h6 : j = p := by omega
  subst h5
  subst h6
  simp only [w411_K0]; rw [ck_unf w411_B0.eq_1]
  simp (disch := omega) [ck_unf w411_c0.eq_1]
 | succ n ih =>
  intro i j h1 h2 h3 h4
  have hn := hz.n
  by_cases c : i < j
  · obtain ⟨m, hm⟩ : ∃ m, m = (i + j) / 2 := ⟨_, rfl⟩
    have hk : m < l.length := by omega
    have hf := ftest_ok H l x m hk hn
    have hw : IntKind.i64.wrap ((IntKind.u64.wrap ((i : Int) + j)).fdiv (2 ^ min 1 IntKind.u64.bits)) = m := by
     have e1 : (2 : Int) ^ min 1 IntKind.u64.bits = 2 := by decide
     rw [wU64 (by omega) (by omega), e1, Int.fdiv_eq_ediv_of_nonneg _ (by omega)]
     have e2 : ((i : Int) + j) / 2 = m := by omega
     rw [e2, wI64 (by omega) (by omega)]
    by_cases c2 : x < top l (m + 1)
    · have h7 : p ≤ m := by
       by_cases d : p ≤ m
       · exact d
       · have := hz.mono (i := m + 1) (j := p) (by omega) (by omega); omega
      have this := ih i m (by omega) h2 h7 (by omega)
      rw [decide_eq_true c2] at hf
      simp only [w411_K0] at this ⊢; rw [ck_unf w411_B0.eq_1]
      try simp at this
      simp (disch := omega) [c, wI64, hw, hf, this, H.inl, inlB, H.pp, ppB]
    · have h7 : m + 1 ≤ p := by
       by_cases d : m + 1 ≤ p
       · exact d
       · have := hz.mono (i := p + 1) (j := m + 1) (by omega) (by omega); omega
      have this := ih (m + 1) j (by omega) h7 h3 h4
      rw [decide_eq_false c2] at hf
      simp only [w411_K0] at this ⊢; rw [ck_unf w411_B0.eq_1]
      try simp at this
      simp (disch := omega) [c, wI64, hw, hf, this, H.inl, inlB, H.pp, ppB]
  · have h5 : i = p := by omega
    have h6 : j = p := by omega
    subst h5
    subst h6
    simp only [w411_K0]; rw [ck_unf w411_B0.eq_1]
    simp (disch := omega) [ck_unf w411_c0.eq_1]
theorem findT_ok (H : HasSz C) (l : List En) (x : Int) (hz : Szd l) (p : Nat) (hp : p < l.length) (hp1 : top l p ≤ x) (hp2 : x < top l (p + 1)) : FnW C 247 [.ro 1 ((tps l).map eI) true, .int .i64 x] = some (.int .i64 p) := by
 have hn := hz.n
 have h := search_loop H l x hz p hp hp1 hp2 l.length 0 l.length (by omega) (by omega) (by omega) (by omega)
 have key : FnW C 411 [.int .i64 l.length, .fn 412 [.rop [.ro 1 ((tps l).map eI) true], .rop [.int .i64 x]]] = some (.int .i64 p) := by
  rw [fnW_eq H.f411 rfl]
  simp only [w411_K0] at h
  simp at h
  simp [w411, h]
 have h3 : ((l.length : Int) + 1) - 1 = l.length := by omega
 rw [fnW_eq H.f247 rfl]
 simp (disch := omega) [w247, tps_len, wI64, h3, key, H.inl, inlB, H.pp, ppB]
theorem tps_last (l : List En) (h : l.length < (tps l).length) : (tps l)[l.length] = sm l := by
 rw [tps_get, top_len]
theorem viewport_ok (H : HasSz C) (l : List En) (e : Bool) (hl : l.length ≤ 1000000) (hs : SzB l) (o v : Int) (ho : -9223372036854775808 ≤ o ∧ o ≤ 9223372036854775807) (hv : -9223372036854775808 ≤ v ∧ v ≤ 9223372036854775807) :
 FnW C 248 [aL l e, .int .i64 o, .int .i64 v] = some (.int .i64 (vpE l o v)) := by
 have h1 := sized_ok H l e hl hs
 rw [fnW_eq H.f248 rfl]
 unfold vpE
 by_cases hz0 : szE l = 0
 · rw [hz0] at h1 ⊢
   have hz := szd_of hz0
   have h2 := totW_ok H.toHasL l e hl hs
   have h3 := hz.nn
   have h4 := hz.t
   rw [hz.tot] at h2
   rw [if_neg (by simp)]
   by_cases c1 : v < 1
   · simp (disch := omega) [w248, h1, c1, H.inl, inlB, H.pp, ppB]
   · by_cases c2 : 2147483648 < v
     · simp (disch := omega) [w248, h1, c1, c2, H.inl, inlB, H.pp, ppB]
     · rw [if_neg (by omega)]
       by_cases c3 : o < 0
       · simp (disch := omega) [w248, h1, c1, c2, c3, H.inl, inlB, H.pp, ppB]
       · have h5 : (if v < sm l then sm l - v else 0) = mostS l v := by unfold mostS; split <;> split <;> omega
         by_cases c4 : mostS l v < o
         · simp (disch := omega) [w248, h1, c1, c2, c3, c4, h2, h5, wI64, imax, H.inl, inlB, H.pp, ppB]
         · simp (disch := omega) [w248, h1, c1, c2, c3, c4, h2, h5, wI64, imax, H.inl, inlB, H.pp, ppB]
 · rw [if_pos hz0]
   generalize szE l = E at *
   simp (disch := omega) [w248, h1, hz0, H.inl, inlB, H.pp, ppB]
theorem visible_ok (H : HasSz C) (l : List En) (e : Bool) (hl : l.length ≤ 1000000) (hs : SzB l) (o v : Int) (ho : -9223372036854775808 ≤ o ∧ o ≤ 9223372036854775807) (hv : -9223372036854775808 ≤ v ∧ v ≤ 9223372036854775807) :
 FnW C 121 [aL l e, .int .i64 o, .int .i64 v] = some (if vpE l o v ≠ 0 then .tup [.int .i64 0, .int .i64 0, .int .i64 (vpE l o v)] else .tup [.int .i64 (visF l o v), .int .i64 (visT l o v), .int .i64 0]) := by
 have h1 := viewport_ok H l e hl hs o v ho hv
 rw [fnW_eq H.f121 rfl]
 by_cases c0 : vpE l o v = 0
 · rw [if_neg (by simpa using c0)]
   have hp := vp_of c0
   have hn := hp.n
   rw [c0] at h1
   have h2 := tops_ok H l e hp.toSzd
   have h4 := tps_last l
   have h5' : l.length < (tps l).length := by rw [tps_len]; omega
   have h3 : ((l.length : Int) + 1) - 1 = l.length := by omega
   have hv0 := hp.v0
   have hs0 := hp.s0
   have ht := hp.t
   have hnn := hp.nn
   unfold visF visT
   by_cases c1 : l.length = 0
   · simp (disch := omega) [w121, h1, h2, c1, tps_len, wI64, H.inl, inlB, H.pp, ppB]
   · rw [if_neg c1, if_neg c1]
     obtain ⟨p, q, p1, q1, hpq, a, b⟩ := hp.ends (by omega)
     have hm : imin (o + v) (sm l) ≤ sm l := by unfold imin; split <;> omega
     have hlo : mostS l v ≤ sm l := by unfold mostS; split <;> omega
     have h5 := findT_ok H l o hp.toSzd p p1 a.1 a.2
     have h6 := findT_ok H l _ hp.toSzd q q1 b.1 b.2
     have hq := hp.rng q
     rw [hp.rowA_eq p1 a.1 a.2, hp.rowA_eq q1 b.1 b.2]
     have c1' : ¬ ((l.length : Int) + 1 = 1) := by omega
     generalize hM : imin (o + v) (sm l) = M at *
     simp (disch := omega) [w121, h1, h2, c1', tps_len, h3, h4, h5', h5, h6, hM, wI64, H.inl, inlB, H.pp, ppB]
 · rw [if_pos c0]
   generalize vpE l o v = E at *
   simp (disch := omega) [w121, h1, c0, H.inl, inlB, H.pp, ppB]
end Go.D
end
section
set_option linter.unusedSimpArgs false
set_option linter.unusedVariables false
namespace Go.D
open Go Go.Pav Go.Pw P
set_option maxRecDepth 10000
set_option maxHeartbeats 4000000
set_option linter.unusedSimpArgs false
set_option linter.unusedVariables false
attribute [-simp] List.getElem_cons_drop
variable {C : WProg}
theorem rtop_loop (H : HasSz C) (l : List En) (e : Bool) (hz : Szd l) (j : Nat) (hj : j ≤ l.length) : ∀ n i, n + i = j →
 w253_K0 C ⟨[(6, .int .i64 i), (5, .int .i64 (top l i)), (1, .int .i64 j), (0, .ro 6 (l.map eEn) e)], [], 0⟩ = some (.int .i64 (top l j)) := by
 intro n
 induction n with
 | zero =>
  intro i hi
  have h1 : i = j := by omega
  subst h1
  simp only [w253_K0]; rw [ck_unf w253_B0.eq_1]
  simp (disch := omega) [ck_unf w253_c0.eq_1]
 | succ n ih =>
  intro i hi
  have h1 : i < l.length := by omega
  have h2 : i < j := by omega
  have hn := hz.n
  have hr := hz.small (i + 1)
  have this := ih (i + 1) (by omega)
  rw [top_succ h1] at this hr
  simp only [w253_K0] at this ⊢; rw [ck_unf w253_B0.eq_1]
  simp at this
  simp (disch := omega) [h1, h2, wI64, this]
theorem rtop_ok (H : HasSz C) (l : List En) (e : Bool) (hz : Szd l) (j : Nat) (hj : j ≤ l.length) : FnW C 253 [.ro 6 (l.map eEn) e, .int .i64 j] = some (.int .i64 (top l j)) := by
 have h := rtop_loop H l e hz j hj j 0 (by simp)
 rw [top_0] at h
 rw [fnW_eq H.f253 rfl]
 simp only [w253_K0] at h
 try simp at h
 simp [w253, h]
theorem rmost_ok (H : HasSz C) (l : List En) (e : Bool) (hz : Szd l) (v : Int) (hv : -9223372036854775808 ≤ sm l - v ∧ sm l - v ≤ 9223372036854775807) : FnW C 327 [.ro 6 (l.map eEn) e, .int .i64 v] = some (.int .i64 (mostS l v)) := by
 have h := rtop_ok H l e hz l.length (Nat.le_refl _)
 rw [top_len] at h
 rw [fnW_eq H.f327 rfl]
 unfold mostS
 by_cases c : sm l < v
 · simp (disch := omega) [w327, h, c, wI64, H.inl, inlB, H.pp, ppB]
 · simp (disch := omega) [w327, h, c, wI64, H.inl, inlB, H.pp, ppB]
end Go.D
end
section
set_option linter.unusedSimpArgs false
set_option linter.unusedVariables false
namespace Go.D
open Go Go.Pav Go.Pw P
set_option maxRecDepth 10000
set_option maxHeartbeats 4000000
set_option linter.unusedSimpArgs false
set_option linter.unusedVariables false
attribute [-simp] List.getElem_cons_drop
variable {C : WProg}
structure HasWn (C : WProg) : Prop extends HasS C where
 f421 : C.fns.get 421 = some w421
 f508 : C.fns.get 508 = some w508
 f509 : C.fns.get 509 = some w509
 f555 : C.fns.get 555 = some w555
 f136 : C.fns.get 136 = some w136
def bdBad (v least over : Int) : Prop := v < 1 ∨ 2147483648 < v ∨ least < 1 ∨ 2305843009213693952 < least ∨ over < 0 ∨ 16 < over
instance (v least over : Int) : Decidable (bdBad v least over) := by unfold bdBad; infer_instance
def risB : Int → List Int → Bool
 | _, [] => true
 | p, x :: r => decide (p < x) && risB x r
theorem risB_get : ∀ (a : List Int) (p : Int), risB p a = true → ∀ (i : Nat) (h : i < a.length), p < a[i] ∧ (∀ (j : Nat) (hj : j < i), a[j]'(by omega) < a[i])
 | [], _, _, i, h => by simp at h
 | x :: r, p, hr, i, h => by
  rw [risB, Bool.and_eq_true, decide_eq_true_eq] at hr
  have ih := risB_get r x hr.2
  cases i with
  | zero => exact ⟨by simpa using hr.1, fun j hj => by omega⟩
  | succ i =>
   have h' : i < r.length := by simpa using h
   have q := ih i h'
   refine ⟨by have := hr.1; have := q.1; simp only [List.getElem_cons_succ]; omega, fun j hj => ?_⟩
   cases j with
   | zero => simpa using q.1
   | succ j => simpa using q.2 j (by omega)
theorem less_ok (H : HasWn C) (x y : Int) : FnW C 508 [.int .i64 x, .int .i64 y] = some (.bool (decide (x < y))) := by
 have h : ∀ z, FnW C 555 [.int .i64 z] = some (.bool false) := fun z => by
  rw [fnW_eq H.f555 rfl]; simp [w555]
 rw [fnW_eq H.f508 rfl]
 simp [w508, h, H.inl, inlB, H.pp, ppB]
theorem bs_loop (H : HasWn C) (a : List Int) (e : Bool) (x : Int) (hl : a.length ≤ 1000000) (hr : risB (-1) a = true) : ∀ (n i j : Nat), j - i ≤ n → i ≤ j → j ≤ a.length → (∀ k (h : k < a.length), k < i → a[k] < x) → (∀ k (h : k < a.length), j ≤ k → ¬ a[k] < x) →
 ∃ r : Int, w421_K0 C ⟨[(8, .int .i64 j), (7, .int .i64 i), (6, .int .i64 a.length), (1, .int .i64 x), (0, .ro 1 (a.map eI) e)], [], 0⟩ = some (.tup [.int .i64 r, .bool (decide (x ∈ a))]) := by
 have hnan : ∀ z, FnW C 509 [.int .i64 z] = some (.bool false) := fun z => by
  rw [fnW_eq H.f509 rfl]; simp [w509]
 have fin : ∀ i : Nat, i ≤ a.length → (∀ k (h : k < a.length), k < i → a[k] < x) → (∀ k (h : k < a.length), i ≤ k → ¬ a[k] < x) →
  ∃ r : Int, w421_K0 C ⟨[(8, .int .i64 i), (7, .int .i64 i), (6, .int .i64 a.length), (1, .int .i64 x), (0, .ro 1 (a.map eI) e)], [], 0⟩ = some (.tup [.int .i64 r, .bool (decide (x ∈ a))]) := by
  intro i hi h1 h2
  refine ⟨i, ?_⟩
  by_cases c : i < a.length
  · by_cases c2 : a[i] = x
    · have hm : x ∈ a := by rw [← c2]; exact List.getElem_mem c
      rw [decide_eq_true hm]
      simp only [w421_K0]; rw [ck_unf w421_B0.eq_1]
      simp (disch := omega) [ck_unf w421_c0.eq_1, c, c2, hnan, H.inl, inlB, H.pp, ppB]
    · have hm : ¬ x ∈ a := by
       intro q
       obtain ⟨k, hk, hkx⟩ := List.getElem_of_mem q
       by_cases d : k < i
       · have := h1 k hk d; omega
       · by_cases d2 : k = i
         · subst d2; exact c2 hkx
         · have := (risB_get a (-1) hr k hk).2 i (by omega)
           have := h2 i c (Nat.le_refl _)
           omega
      rw [decide_eq_false hm]
      simp only [w421_K0]; rw [ck_unf w421_B0.eq_1]
      simp (disch := omega) [ck_unf w421_c0.eq_1, c, c2, hnan, H.inl, inlB, H.pp, ppB]
  · have hm : ¬ x ∈ a := by
     intro q
     obtain ⟨k, hk, hkx⟩ := List.getElem_of_mem q
     have := h1 k hk (by omega)
     omega
    rw [decide_eq_false hm]
    simp only [w421_K0]; rw [ck_unf w421_B0.eq_1]
    simp (disch := omega) [ck_unf w421_c0.eq_1, c, hnan, H.inl, inlB, H.pp, ppB]
 intro n
 induction n with
 | zero =>
  intro i j h1 h2 h3 h4 h5
  have : i = j := by omega
  subst this
  exact fin i h3 h4 h5
 | succ n ih =>
  intro i j h1 h2 h3 h4 h5
  by_cases c : i < j
  · obtain ⟨m, hm⟩ : ∃ m, m = (i + j) / 2 := ⟨_, rfl⟩
    have hk : m < a.length := by omega
    have hf := less_ok H a[m] x
    have hw : IntKind.i64.wrap ((IntKind.u64.wrap ((i : Int) + j)).fdiv (2 ^ min 1 IntKind.u64.bits)) = m := by
     have e1 : (2 : Int) ^ min 1 IntKind.u64.bits = 2 := by decide
     rw [wU64 (by omega) (by omega), e1, Int.fdiv_eq_ediv_of_nonneg _ (by omega)]
     have e2 : ((i : Int) + j) / 2 = m := by omega
     rw [e2, wI64 (by omega) (by omega)]
    by_cases c2 : a[m] < x
    · obtain ⟨r, this⟩ := ih (m + 1) j (by omega) (by omega) h3 (fun k hk2 hkm => by
       by_cases d : k = m
       · subst d; exact c2
       · have := (risB_get a (-1) hr m hk).2 k (by omega); omega) h5
      refine ⟨r, ?_⟩
      rw [decide_eq_true c2] at hf
      generalize decide (x ∈ a) = D at *
      simp only [w421_K0] at this ⊢; rw [ck_unf w421_B0.eq_1]
      try simp at this
      simp (disch := omega) [c, wI64, hw, hk, hf, this, H.inl, inlB, H.pp, ppB]
    · obtain ⟨r, this⟩ := ih i m (by omega) (by omega) (by omega) h4 (fun k hk2 hkm => by
       by_cases d : k = m
       · subst d; exact c2
       · have := (risB_get a (-1) hr k hk2).2 m (by omega); omega)
      refine ⟨r, ?_⟩
      rw [decide_eq_false c2] at hf
      generalize decide (x ∈ a) = D at *
      simp only [w421_K0] at this ⊢; rw [ck_unf w421_B0.eq_1]
      try simp at this
      simp (disch := omega) [c, wI64, hw, hk, hf, this, H.inl, inlB, H.pp, ppB]
  · have : i = j := by omega
    subst this
    exact fin i h3 h4 h5
theorem bs_ok (H : HasWn C) (a : List Int) (e : Bool) (x : Int) (hl : a.length ≤ 1000000) (hr : risB (-1) a = true) : ∃ r : Int, FnW C 421 [.ro 1 (a.map eI) e, .int .i64 x] = some (.tup [.int .i64 r, .bool (decide (x ∈ a))]) := by
 obtain ⟨r, h⟩ := bs_loop H a e x hl hr a.length 0 a.length (by omega) (by omega) (by omega) (fun k _ q => by omega) (fun k h q => by omega)
 refine ⟨r, ?_⟩
 rw [fnW_eq H.f421 rfl]
 generalize decide (x ∈ a) = D at *
 simp only [w421_K0] at h
 simp at h
 simp [w421, h]
end Go.D
end
section
set_option linter.unusedSimpArgs false
set_option linter.unusedVariables false
namespace Go.D
open Go Go.Pav Go.Pw P
set_option maxRecDepth 10000
set_option maxHeartbeats 4000000
set_option linter.unusedSimpArgs false
set_option linter.unusedVariables false
attribute [-simp] List.getElem_cons_drop
variable {C : WProg}
structure HasAt (C : WProg) : Prop extends HasSz C, HasWn C, HasG C where
 f256 : C.fns.get 256 = some w256
end Go.D
end
section
set_option linter.unusedSimpArgs false
set_option linter.unusedVariables false
namespace Go.Proofs.YtfombghmbbfpaaaGreat
open Go.ChangeShapes Go.WideShapes Go.ChangeAt Go.RowKit Go.Pav Go.Pw P Go.D
theorem has_ : HasG prog := { f561 := rfl, f517 := rfl, f557 := rfl, f556 := rfl, f511 := rfl, f510 := rfl, f560 := rfl, f545 := rfl, f578 := rfl, f543 := rfl, f495 := rfl, f516 := rfl, f500 := rfl, inl := rfl, pp := rfl, f434 := rfl, f519 := rfl, f518 := rfl, f562 := rfl, f433 := rfl, f282 := rfl, f140 := rfl, f439 := rfl, f581 := rfl, f579 := rfl, f585 := rfl, f549 := rfl, f502 := rfl, f503 := rfl, f548 := rfl, f404 := rfl, f231 := rfl, f594 := rfl, f586 := rfl, f550 := rfl, f505 := rfl, f408 := rfl, f398 := rfl, f424 := rfl, f494 := rfl, f496 := rfl, f497 := rfl, f498 := rfl, f499 := rfl, f544 := rfl, f546 := rfl, f580 := rfl, f512 := rfl, f584 := rfl, f558 := rfl, f559 := rfl, f592 := rfl, f582 := rfl, f583 := rfl, f593 := rfl, f563 := rfl, f520 := rfl, f442 := rfl, f441 := rfl, f547 := rfl, f513 := rfl, f501 := rfl, f425 := rfl, f225 := rfl, f111 := rfl, f227 := rfl, f402 := rfl, f504 := rfl, f407 := rfl, f239 := rfl, f406 := rfl, f240 := rfl, f423 := rfl, f399 := rfl, f230 := rfl, f405 := rfl, f232 := rfl, f115 := rfl, f236 := rfl, f271 := rfl, f223 := rfl, f235 := rfl, f422 := rfl, f270 := rfl, f126 := rfl, f130 := rfl }
end Go.Proofs.YtfombghmbbfpaaaGreat
end
section
set_option linter.unusedSimpArgs false
set_option linter.unusedVariables false
namespace Go.D
open Go Go.Pav Go.Pw P
set_option maxRecDepth 10000
set_option maxHeartbeats 4000000
set_option linter.unusedSimpArgs false
set_option linter.unusedVariables false
attribute [-simp] List.getElem_cons_drop
variable {C : WProg}
structure Se where
 h : Int
 f : Int
 t : Int
 p : Int
def eSe (x : Se) : List AV := [.int .i64 x.h, .int .i64 x.f, .int .i64 x.t, .int .i64 x.p]
def inSe (s : Int) (x : Se) : Bool := decide (x.f ≤ s) && decide (s < x.t)
def atS (s : Int) : List Se → Nat → Int
 | [], _ => -1
 | x :: r, i => if inSe s x = true then i else atS s r (i + 1)
theorem atS_bd (s : Int) : ∀ (l : List Se) (i : Nat), atS s l i = -1 ∨ ∃ k : Nat, atS s l i = ((i + k : Nat) : Int) ∧ k < l.length := by
 intro l
 induction l with
 | nil => intro i; exact .inl rfl
 | cons x r ih =>
  intro i
  rw [atS]
  split
  · exact .inr ⟨0, by simp, by simp⟩
  · rcases ih (i + 1) with h | ⟨k, h1, h2⟩
    · exact .inl h
    · exact .inr ⟨k + 1, by rw [h1]; congr 1; omega, by simpa using h2⟩
structure HasA30 (C : WProg) : Prop extends HasS C where
 f309 : C.fns.get 309 = some w309
 f446 : C.fns.get 446 = some w446
 f450 : C.fns.get 450 = some w450
 f447 : C.fns.get 447 = some w447
theorem in450 (H : HasA30 C) (x : Se) (s : Int) : FnW C 450 [.agg (eSe x), .rop [.int .i64 s]] = some (.bool (inSe s x)) := by
 rw [fnW_eq H.f450 rfl]
 unfold inSe
 by_cases c : x.f ≤ s
 · by_cases d : s < x.t
   · simp (disch := omega) [w450, eSe, c, d, H.inl, inlB, H.pp, ppB]
   · simp (disch := omega) [w450, eSe, c, d, H.inl, inlB, H.pp, ppB]
 · simp (disch := omega) [w450, eSe, c, H.inl, inlB, H.pp, ppB]
theorem in447 (H : HasA30 C) (x : Se) (s : Int) : FnW C 447 [.agg (eSe x), .rop [.int .i64 s]] = some (.bool (inSe s x)) := by
 rw [fnW_eq H.f447 rfl]
 unfold inSe
 by_cases c : x.f ≤ s
 · by_cases d : s < x.t
   · simp (disch := omega) [w447, eSe, c, d, H.inl, inlB, H.pp, ppB]
   · simp (disch := omega) [w447, eSe, c, d, H.inl, inlB, H.pp, ppB]
 · simp (disch := omega) [w447, eSe, c, H.inl, inlB, H.pp, ppB]
theorem ixs_loop (H : HasA30 C) (g : Nat) (hg : ∀ (x : Se) (s : Int), FnW C g [.agg (eSe x), .rop [.int .i64 s]] = some (.bool (inSe s x))) (hi : inlB g = false) (hp : ppB g = false) (l : List Se) (e : Bool) (hl : l.length ≤ 1000000) (s : Int) : ∀ n i, n + i = l.length →
 w446_K0 C ⟨[(8, .int .i64 i), (7, .int .i64 l.length), (1, .fn g [.rop [.int .i64 s]]), (0, .ro 4 (l.map eSe) e)], [], 0⟩ = some (.int .i64 (atS s (l.drop i) i)) := by
 intro n
 induction n with
 | zero =>
  intro i hi
  have h3 : ¬ i < l.length := by omega
  have h1 : l.drop i = [] := List.drop_eq_nil_of_le (by omega)
  rw [h1, atS]
  simp only [w446_K0]; rw [ck_unf w446_B0.eq_1]
  simp (disch := omega) [ck_unf w446_c0.eq_1, h3]
 | succ n ih =>
  intro i hii
  have h1 : i < l.length := by omega
  have hk := hg l[i] s
  simp only [eSe] at hk
  rw [drop_cons h1, atS]
  cases c : inSe s l[i]
  · rw [if_neg (by simp)]
    rw [c] at hk
    have this := ih (i + 1) (by omega)
    generalize atS s (l.drop (i + 1)) (i + 1) = R at *
    simp only [w446_K0] at this ⊢; rw [ck_unf w446_B0.eq_1]
    simp at this
    simp (disch := omega) [h1, hk, eSe, hi, hp, wI64, H.inl, H.pp, this]
  · rw [if_pos rfl]
    rw [c] at hk
    simp only [w446_K0]; rw [ck_unf w446_B0.eq_1]
    simp (disch := omega) [h1, hk, eSe, hi, hp, wI64, H.inl, H.pp]
theorem ixs_ok (H : HasA30 C) (g : Nat) (hg : ∀ (x : Se) (s : Int), FnW C g [.agg (eSe x), .rop [.int .i64 s]] = some (.bool (inSe s x))) (hi : inlB g = false) (hp : ppB g = false) (l : List Se) (e : Bool) (hl : l.length ≤ 1000000) (s : Int) :
 FnW C 446 [.ro 4 (l.map eSe) e, .fn g [.rop [.int .i64 s]]] = some (.int .i64 (atS s l 0)) := by
 have k := ixs_loop H g hg hi hp l e hl s l.length 0 (by simp)
 rw [List.drop_zero] at k
 generalize atS s l 0 = R at *
 rw [fnW_eq H.f446 rfl]
 simp only [w446_K0] at k
 try simp at k
 simp (disch := omega) [w446, k, H.inl, inlB, H.pp, ppB]
theorem hat_ok (H : HasA30 C) (l : List Se) (e : Bool) (hl : l.length ≤ 1000000) (s : Int) :
 (atS s l 0 = -1 ∧ FnW C 309 [.ro 4 (l.map eSe) e, .int .i64 s] = some (.tup [.agg (eSe ⟨0, 0, 0, 0⟩), .int .i64 11])) ∨
 (∃ (k : Nat) (h : k < l.length), atS s l 0 = k ∧ FnW C 309 [.ro 4 (l.map eSe) e, .int .i64 s] = some (.tup [.agg (eSe l[k]), .int .i64 0])) := by
 have h1 := ixs_ok H 450 (in450 H) rfl rfl l e hl s
 rcases atS_bd s l 0 with h | ⟨k, h2, h3⟩
 · refine .inl ⟨h, ?_⟩
   rw [h] at h1
   rw [fnW_eq H.f309 rfl]
   simp (disch := omega) [w309, h1, eSe, H.inl, inlB, H.pp, ppB]
 · rw [Nat.zero_add] at h2
   refine .inr ⟨k, h3, h2, ?_⟩
   rw [h2] at h1
   have h4 : ¬ (k : Int) < 0 := by omega
   rw [fnW_eq H.f309 rfl]
   simp (disch := omega) [w309, h1, h3, h4, eSe, H.inl, inlB, H.pp, ppB]
end Go.D
end
section
set_option linter.unusedSimpArgs false
set_option linter.unusedVariables false
namespace Go.D
open Go Go.Pav Go.Pw P
set_option maxRecDepth 10000
set_option maxHeartbeats 4000000
set_option linter.unusedSimpArgs false
set_option linter.unusedVariables false
attribute [-simp] List.getElem_cons_drop
variable {C : WProg}
structure HasEq (C : WProg) : Prop extends HasS C
end Go.D
end
section
set_option linter.unusedSimpArgs false
set_option linter.unusedVariables false
namespace Go.D
open Go Go.Pav Go.Pw P
set_option maxRecDepth 10000
set_option maxHeartbeats 4000000
set_option linter.unusedSimpArgs false
set_option linter.unusedVariables false
attribute [-simp] List.getElem_cons_drop
variable {C : WProg}
structure Rw where
 k : Int
 t : Int
 s : Int
 n : Nd
@[simp] def eRw (r : Rw) : List AV := [.int .u64 r.k, .int .i64 r.t, .int .i64 r.s, .int .u8 r.n.k, .str r.n.t, .str r.n.y, .ro 2 (r.n.a.map eA) r.n.ae, .str r.n.x, .ro 6 (r.n.ch.map Nd.c) r.n.ce]
structure Sc where
 o : Int
 r : List Rw
 e : Bool
 p : Bool
 h : Rw
@[simp] def eSc (x : Sc) : List AV := [.int .i64 x.o, .ro 9 (x.r.map eRw) x.e, .bool x.p, .int .u64 x.h.k, .int .i64 x.h.t, .int .i64 x.h.s, .int .u8 x.h.n.k, .str x.h.n.t, .str x.h.n.y, .ro 2 (x.h.n.a.map eA) x.h.n.ae, .str x.h.n.x, .ro 6 (x.h.n.ch.map Nd.c) x.h.n.ce]
end Go.D
end
section
set_option linter.unusedSimpArgs false
set_option linter.unusedVariables false
namespace Go.D
open Go Go.Pav Go.Pw P
set_option maxRecDepth 10000
set_option maxHeartbeats 4000000
set_option linter.unusedSimpArgs false
set_option linter.unusedVariables false
attribute [-simp] List.getElem_cons_drop
variable {C : WProg}
theorem isame_loop (H : HasWn C) (a : List Int) (e f : Bool) (hl : a.length ≤ 1000000) : ∀ n i, n + i = a.length →
 w136_K0 C ⟨[(5, .int .i64 i), (1, .ro 1 (a.map eI) f), (0, .ro 1 (a.map eI) e)], [], 0⟩ = some (.int .i64 1) := by
 intro n
 induction n with
 | zero =>
  intro i hi
  have h3 : ¬ i < a.length := by omega
  simp only [w136_K0]; rw [ck_unf w136_B0.eq_1]
  simp (disch := omega) [ck_unf w136_c0.eq_1, h3]
 | succ n ih =>
  intro i hi
  have h1 : i < a.length := by omega
  have this := ih (i + 1) (by omega)
  simp only [w136_K0] at this ⊢; rw [ck_unf w136_B0.eq_1]
  simp at this
  simp (disch := omega) [h1, wI64, this]
theorem intsame_ok (H : HasWn C) (a : List Int) (e f : Bool) (hl : a.length ≤ 1000000) : FnW C 136 [.ro 1 (a.map eI) e, .ro 1 (a.map eI) f] = some (.int .i64 1) := by
 have h := isame_loop H a e f hl a.length 0 (by simp)
 rw [fnW_eq H.f136 rfl]
 simp only [w136_K0] at h
 simp at h
 simp [w136, h]
end Go.D
end
section
set_option linter.unusedSimpArgs false
set_option linter.unusedVariables false
namespace Go.D
open Go Go.Pav Go.Pw P
set_option maxRecDepth 10000
set_option maxHeartbeats 4000000
set_option linter.unusedSimpArgs false
set_option linter.unusedVariables false
attribute [-simp] List.getElem_cons_drop
variable {C : WProg}
end Go.D
end
section
set_option linter.unusedSimpArgs false
set_option linter.unusedVariables false
namespace Go.D
open Go Go.Pav Go.Pw P
set_option maxRecDepth 10000
set_option maxHeartbeats 4000000
set_option linter.unusedSimpArgs false
set_option linter.unusedVariables false
attribute [-simp] List.getElem_cons_drop
variable {C : WProg}
structure HasTr (C : WProg) : Prop extends HasG C where
 f238 : C.fns.get 238 = some w238
theorem tree_at (H : HasTr C) (ks : List Kd) (ke : Bool) (cap : Int) (hr : RuIn ks) (l : List En) (e : Bool) (hl : l.length ≤ 10000) (hs : ∀ x ∈ l, EnIn x) (hck : ckE ks cap l = 0) (a : Nat) (ha : a < l.length) (ht : l[a].i.t < ks.length) :
 FnW C 238 [aR ks ke cap, aL l e, .int .i64 a] = some (.tup [.agg (rndN (kdAt ks l[a].i.t).p l[a].i cap).c, .int .i64 (rndE (kdAt ks l[a].i.t).p l[a].i cap)]) := by
 have hc := lcheck_ok H.toHasK ks ke cap hr l e (by omega) hs
 rw [hck] at hc
 have h := rrender_ok H.toHasK ks ke cap l[a].i (hs _ (List.getElem_mem ha)).i ht hr
 rw [fnW_eq H.f238 rfl]
 generalize rndN (kdAt ks l[a].i.t).p l[a].i cap = N at *
 generalize rndE (kdAt ks l[a].i.t).p l[a].i cap = E at *
 rw [Nd.c_eq] at h ⊢
 simp only [aR, eIt] at h
 have a1 : ¬ (a : Int) < 0 := by omega
 have a2 : ¬ (l.length : Int) ≤ a := by omega
 simp (disch := omega) [w238, hc, h, ha, a1, a2, H.inl, inlB, H.pp, ppB]
end Go.D
end
section
set_option linter.unusedSimpArgs false
set_option linter.unusedVariables false
namespace Go.D
open Go Go.Pav Go.Pw P
set_option maxRecDepth 10000
set_option maxHeartbeats 4000000
set_option linter.unusedSimpArgs false
set_option linter.unusedVariables false
attribute [-simp] List.getElem_cons_drop
variable {C : WProg}
structure HasCp (C : WProg) : Prop extends HasEq C, HasTr C, HasAt C where
 f507 : C.fns.get 507 = some w507
 f554 : C.fns.get 554 = some w554
 f553 : C.fns.get 553 = some w553
 f418 : C.fns.get 418 = some w418
mutual
/-- A tree without its keys; all memory its own. -/
def strN : Nd → Nd
 | ⟨k, t, y, a, ae, x, ch, ce⟩ => ⟨k, t, [], a, true, x, strNs ch, true⟩
def strNs : List Nd → List Nd
 | [] => []
 | n :: r => strN n :: strNs r
end
theorem strNs_eq : ∀ l : List Nd, strNs l = l.map strN
 | [] => rfl
 | n :: r => by rw [strNs, strNs_eq r]; rfl
theorem strN_eq (n : Nd) : strN n = ⟨n.k, n.t, [], n.a, true, n.x, n.ch.map strN, true⟩ := by cases n; rw [strN, strNs_eq]
theorem cloneA_ok (H : HasCp C) (l : List (Bs × Bs)) (e : Bool) (hl : l.length ≤ 1000000) : FnW C 554 [.ro 2 (l.map eA) e] = some (.ro 2 (l.map eA) l.isEmpty) := by
 rw [fnW_eq H.f554 rfl]
 cases l with
 | nil => simp [w554, ck_cln]
 | cons a r =>
  simp only [List.length_cons] at hl
  have h1 : (r.length + 1) * 33 ≤ 35184372088832 := by omega
  have h2 : List.take r.length (List.map eA r) = List.map eA r := List.take_of_length_le (by simp)
  simp [w554, ck_cln2, clnC, isEmptyRo, h1, h2]
theorem clipA_ok (H : HasCp C) (l : List (Bs × Bs)) (e : Bool) : FnW C 553 [.ro 2 (l.map eA) e] = some (.ro 2 (l.map eA) true) := by
 have h : List.take l.length (List.map eA l) = List.map eA l := List.take_of_length_le (by simp)
 rw [fnW_eq H.f553 rfl]
 simp [w553, h]
theorem gr_get {α β : Type} (f : α → β) (G : List α) (z : β) (m : Nat) : (G.map f ++ List.replicate (m + 1) z)[G.length]? = some z := by
 rw [List.getElem?_append_right (by simp)]; simp
theorem gr_set {α β : Type} (f : α → β) (G : List α) (z : β) (m : Nat) (y : α) : (G.map f ++ List.replicate (m + 1) z).set G.length (f y) = (G ++ [y]).map f ++ List.replicate m z := by
 rw [List.set_append_right _ _ (by simp)]; simp [List.replicate_succ]
theorem cp_loop (H : HasCp C) (n : Nd) (hl : n.ch.length ≤ 16) (ih : ∀ c ∈ n.ch, FnW C 507 [.agg c.c, .bool false] = some (.agg (strN c).c)) : ∀ m i, m + i = n.ch.length → ∀ G : List Nd, G.length = i → G = (n.ch.take i).map strN →
 w507_K0 C ⟨[(23, .int .i64 i), (22, .int .i64 n.ch.length), (21, .ro 6 (n.ch.map Nd.c) n.ce), (5, .sl 0 6 0 n.ch.length n.ch.length true), (4, .ptr 1 0 0), (2, .ptr 2 0 0), (1, .bool false)],
  [(0, .cells 6 (G.map Nd.c ++ List.replicate m [.int .u8 0, .str [], .str [], .ro 2 [] true, .str [], .ro 6 [] true]) true true), (1, .cells 6 [[.int .u8 0, .str [], .str [], .ro 2 [] true, .str [], .ro 6 [] true]] true true),
   (2, .cells 6 [[.int .u8 n.k, .str n.t, .str [], .ro 2 (n.a.map eA) true, .str n.x, .ro 6 (n.ch.map Nd.c) n.ce]] true true)], 3⟩ = some (.agg (strN n).c) := by
 intro m
 induction m with
 | zero =>
  intro i hi G hG hGe
  have h3 : ¬ i < n.ch.length := by omega
  have e1 : n.ch.take i = n.ch := List.take_of_length_le (by omega)
  have e2 : List.take n.ch.length (List.map Nd.c G) = List.map Nd.c G := List.take_of_length_le (by simp; omega)
  rw [Nd.c_eq (strN n), strN_eq]
  rw [e1] at hGe
  rw [← hGe]
  simp only [w507_K0]; rw [ck_unf w507_B0.eq_1]
  have e3 : G.length = n.ch.length := by omega
  simp (disch := omega) [ck_unf w507_c0.eq_1, h3, e2, e3]
 | succ m ihm =>
  intro i hi G hG hGe
  have h1 : i < n.ch.length := by omega
  have this := ihm (i + 1) (by omega) (G ++ [strN n.ch[i]]) (by simp [hG]) (by rw [hGe, List.take_add_one, List.getElem?_eq_getElem h1, List.map_append]; rfl)
  have hs := ih n.ch[i] (List.getElem_mem h1)
  have g1 := gr_get Nd.c G [.int .u8 0, .str [], .str [], .ro 2 [] true, .str [], .ro 6 [] true] m
  have g2 := gr_set Nd.c G [.int .u8 0, .str [], .str [], .ro 2 [] true, .str [], .ro 6 [] true] m (strN n.ch[i])
  rw [hG] at g1 g2
  simp only [w507_K0] at this ⊢; rw [ck_unf w507_B0.eq_1]
  simp at this
  simp at g2
  simp (disch := omega) [h1, hs, wI64, H.inl, inlB, H.pp, ppB, g1, g2, this]
theorem copied_step (H : HasCp C) (n : Nd) (ha : n.a.length ≤ 8) (hl : n.ch.length ≤ 16) (ih : ∀ c ∈ n.ch, FnW C 507 [.agg c.c, .bool false] = some (.agg (strN c).c)) : FnW C 507 [.agg n.c, .bool false] = some (.agg (strN n).c) := by
 have h1 := cloneA_ok H n.a n.ae (by omega)
 have h2 := clipA_ok H n.a n.a.isEmpty
 have h3 := cp_loop H n hl ih n.ch.length 0 (by omega) [] rfl rfl
 rw [fnW_eq H.f507 rfl, Nd.c_eq n]
 simp only [w507_K0] at h3
 simp at h3
 have h4 : n.ch.length * 105 ≤ 35184372088832 := by omega
 simp (disch := omega) [w507, h1, h2, h3, h4, H.inl, inlB, H.pp, ppB]
theorem rcs_bd : ∀ (l : List Nd) (lv c : Nat), rcs l lv c ≤ 64 → ∀ m ∈ l, rc m lv ≤ 64
 | [], _, _, _, m, hm => by cases hm
 | n :: r, lv, c, h, m, hm => by
  rw [rcs] at h
  by_cases q : c ≤ 64
  · rw [if_pos q] at h
    have h1 := rcs_ge r lv (c + rc n lv)
    rcases List.mem_cons.1 hm with e | e
    · subst e; omega
    · exact rcs_bd r lv _ h m e
  · rw [if_neg q] at h; omega
mutual
theorem rc_up : ∀ (n : Nd) (lv : Nat), rc n lv ≤ 64 → rc n (lv + 1) = rc n lv
 | ⟨k, t, y, a, ae, x, ch, ce⟩, 0, h => by rw [rc] at h; omega
 | ⟨k, t, y, a, ae, x, ch, ce⟩, lv + 1, h => by
  rw [rc] at h ⊢
  rw [rc]
  by_cases q : alone ⟨k, t, y, a, ae, x, ch, ce⟩ = true
  · rw [if_pos q] at h
    rw [if_pos q, if_pos q]
    exact rcs_up ch lv 1 h
  · rw [if_neg q] at h; omega
theorem rcs_up : ∀ (l : List Nd) (lv c : Nat), rcs l lv c ≤ 64 → rcs l (lv + 1) c = rcs l lv c
 | [], lv, c, h => by rw [rcs, rcs]
 | n :: r, lv, c, h => by
  rw [rcs] at h ⊢
  rw [rcs]
  by_cases q : c ≤ 64
  · rw [if_pos q] at h
    rw [if_pos q, if_pos q]
    have h1 := rcs_ge r lv (c + rc n lv)
    have e := rc_up n lv (by omega)
    rw [e]
    exact rcs_up r lv _ h
  · rw [if_neg q] at h; omega
end
inductive NdV : Nd → Prop
 | mk (n : Nd) (hc : cnt n ≠ 0) (h1 : n.a.length ≤ 8) (h2 : n.ch.length ≤ 16) (h : ∀ m ∈ n.ch, NdV m) : NdV n
theorem ndv_rc : ∀ (lv : Nat), lv ≤ 6 → ∀ n : Nd, rc n lv ≤ 64 → NdV n
 | 0, _, n, h => by rw [rc_z] at h; omega
 | lv + 1, hlv, n, h => by
  have hup : ∀ j, lv + 1 + j ≤ 6 → rc n (lv + 1 + j) = rc n (lv + 1) := by
   intro j
   induction j with
   | zero => intro _; rfl
   | succ j ih =>
    intro hj
    have := ih (by omega)
    rw [← Nat.add_assoc, rc_up n _ (by omega)]
    exact this
  have h6 := hup (5 - lv) (by omega)
  have e6 : lv + 1 + (5 - lv) = 6 := by omega
  rw [e6] at h6
  have hge := rc_ge n (lv + 1)
  have hc : cnt n ≠ 0 := by rw [cnt_rc, h6, if_neg (by omega)]; omega
  rw [rc_s] at h
  by_cases q : alone n = true
  · rw [if_pos q] at h
    have hb := rcs_bd _ _ _ h
    have hq : n.a.length ≤ 8 ∧ n.ch.length ≤ 16 := by
     unfold alone at q
     by_cases d : n.k = 2
     · rw [if_pos d] at q; simp at q; obtain ⟨⟨_, q1⟩, q2⟩ := q; rw [q1, q2]; simp
     · rw [if_neg d] at q; simp at q; exact ⟨q.1.1.1.2, q.1.1.2⟩
    exact .mk n hc hq.1 hq.2 fun m hm => ndv_rc lv (by omega) m (hb m hm)
  · rw [if_neg q] at h; omega
theorem ndv_of {n : Nd} (h : cnt n ≠ 0) : NdV n := by
 refine ndv_rc 6 (by omega) n ?_
 rw [cnt_rc] at h
 by_cases c : 64 < rc n 6
 · rw [if_pos c] at h; exact absurd rfl h
 · omega
theorem copied_ok (H : HasCp C) {n : Nd} (h : NdV n) : FnW C 507 [.agg n.c, .bool false] = some (.agg (strN n).c) := by
 induction h with
 | mk n hc h1 h2 h ih => exact copied_step H n h1 h2 ih
theorem strip_ok (H : HasCp C) {n : Nd} (h : cnt n ≠ 0) : FnW C 418 [.agg n.c] = some (.agg (strN n).c) := by
 have h1 := check_ok H.toHasM n
 have h2 := copied_ok H (ndv_of h)
 rw [if_neg h] at h1
 rw [fnW_eq H.f418 rfl]
 rw [Nd.c_eq (strN n)] at *
 simp (disch := omega) [w418, h1, h2, H.inl, inlB, H.pp, ppB]
end Go.D
end
section
set_option linter.unusedSimpArgs false
set_option linter.unusedVariables false
namespace Go.D
open Go Go.Pav Go.Pw P
set_option maxRecDepth 10000
set_option maxHeartbeats 4000000
set_option linter.unusedSimpArgs false
set_option linter.unusedVariables false
attribute [-simp] List.getElem_cons_drop
variable {C : WProg}
end Go.D
end
section
set_option linter.unusedSimpArgs false
set_option linter.unusedVariables false
namespace Go.D
open Go Go.Pav Go.Pw P
set_option maxRecDepth 10000
set_option maxHeartbeats 4000000
set_option linter.unusedSimpArgs false
set_option linter.unusedVariables false
attribute [-simp] List.getElem_cons_drop
variable {C : WProg}
theorem sm_bd : ∀ (l : List En), (∀ x ∈ l, 1 ≤ x.s ∧ x.s ≤ 40) → sm l ≤ 40 * l.length
 | [], _ => by simp [sm]
 | e :: r, h => by
  have h1 := h e (by simp)
  have h2 := sm_bd r fun x hx => h x (by simp [hx])
  rw [sm]; simp only [List.length_cons]; omega
theorem szd_good {ks : List Kd} {l : List En} (hl : l.length ≤ 12) (hg : ∀ e ∈ l, GoodE ks e) : Szd l := by
 have := sm_bd l fun x hx => (hg x hx).s
 exact ⟨by omega, fun x hx => by have := (hg x hx).s; omega, by omega⟩
theorem wof_ok (H : HasAt C) (l : List En) (e : Bool) (hz : Szd l) (a b : Int) (ha : 0 ≤ a ∧ a ≤ 255) (hb : 0 ≤ b ∧ b ≤ 65535) : ∃ o v : Int, FnW C 256 [.agg [.int .u8 a, .int .u16 b], aL l e] = some (.tup [.int .i64 o, .int .i64 v]) ∧ Vp l o v := by
 have hn := hz.n
 have ht := hz.t
 have hnn := hz.nn
 have h1 : a.tmod 200 = a % 200 := Int.tmod_eq_emod_of_nonneg ha.1
 have h2 : 0 ≤ a % 200 ∧ a % 200 < 200 := ⟨Int.emod_nonneg _ (by omega), Int.emod_lt_of_pos _ (by omega)⟩
 obtain ⟨v, hv⟩ : ∃ v, v = 1 + a % 200 := ⟨_, rfl⟩
 have hv2 : 1 + a % 200 = v := hv.symm
 have hm := rmost_ok H.toHasSz l e hz v (by omega)
 have hm0 : 0 ≤ mostS l v ∧ mostS l v ≤ 4611686018427387904 := by unfold mostS; split <;> omega
 generalize hM : mostS l v = M at *
 have h3 : b.tmod (M + 1) = b % (M + 1) := Int.tmod_eq_emod_of_nonneg hb.1
 have h4 : 0 ≤ b % (M + 1) ∧ b % (M + 1) < M + 1 := ⟨Int.emod_nonneg _ (by omega), Int.emod_lt_of_pos _ (by omega)⟩
 have h5 : ¬ M + 1 = 0 := by omega
 refine ⟨b % (M + 1), v, ?_, ⟨hz, by omega, by rw [hM]; omega⟩⟩
 rw [fnW_eq H.f256 rfl]
 simp (disch := omega) [w256, h1, hv2, hm, h3, h5, wI64, H.inl, inlB, H.pp, ppB]
end Go.D
end
section
set_option linter.unusedSimpArgs false
set_option linter.unusedVariables false
namespace Go.D
open Go Go.Pav Go.Pw P
set_option maxRecDepth 10000
set_option maxHeartbeats 4000000
set_option linter.unusedSimpArgs false
set_option linter.unusedVariables false
attribute [-simp] List.getElem_cons_drop
variable {C : WProg}
end Go.D
end
section
set_option linter.unusedSimpArgs false
set_option linter.unusedVariables false
namespace Go.D
open Go Go.Pav Go.Pw P
set_option maxRecDepth 10000
set_option maxHeartbeats 4000000
set_option linter.unusedSimpArgs false
set_option linter.unusedVariables false
attribute [-simp] List.getElem_cons_drop
variable {C : WProg}
end Go.D
end
section
set_option linter.unusedSimpArgs false
set_option linter.unusedVariables false
namespace Go.D
open Go Go.Pav Go.Pw P
set_option maxRecDepth 10000
set_option maxHeartbeats 4000000
set_option linter.unusedSimpArgs false
set_option linter.unusedVariables false
attribute [-simp] List.getElem_cons_drop
variable {C : WProg}
@[simp] theorem oldRefs_zero : ∀ h : WHeap, oldRefs 0 h = []
 | [] => rfl
 | (b, o) :: r => by rw [oldRefs, if_neg (by omega), oldRefs_zero r]
@[simp] theorem renOld_zero (π : Nat → Option Nat) : ∀ h : WHeap, renOld 0 π h = some []
 | [] => rfl
 | (b, o) :: r => by rw [renOld, if_neg (by omega), renOld_zero π r]
end Go.D
end
section
set_option linter.unusedSimpArgs false
set_option linter.unusedVariables false
namespace Go.D
open Go Go.Pav Go.Pw P
set_option maxRecDepth 10000
set_option maxHeartbeats 4000000
set_option linter.unusedSimpArgs false
set_option linter.unusedVariables false
attribute [-simp] List.getElem_cons_drop
variable {C : WProg}
@[simp] theorem getp (h : WHeap) (n : Nat) (o : WObj) (k : Nat) : Pav.get (Pav.put h n o) k = if n = k then some o else Pav.get h k := get_put h n o k
end Go.D
end
section
set_option linter.unusedSimpArgs false
set_option linter.unusedVariables false
namespace Go.D
open Go Go.Pav Go.Pw P
set_option maxRecDepth 10000
set_option linter.unusedSimpArgs false
set_option linter.unusedVariables false
attribute [-simp] List.getElem_cons_drop
variable {C : WProg} {α β : Type}
theorem itE_rnd {ks : List Kd} {x : It} (h : itE ks 12 x false = 0) : itOk ks.length x = true ∧ rndE (kdAt ks x.t).p x 12 = 0 := by
 unfold itE at h
 cases c : itOk ks.length x
 · rw [c] at h; simp at h
 · rw [c] at h
   by_cases d : rndE (kdAt ks x.t).p x 12 = 0
   · exact ⟨rfl, d⟩
   · simp [d] at h
end Go.D
end
section
set_option linter.unusedSimpArgs false
set_option linter.unusedVariables false
end
section
set_option linter.unusedSimpArgs false
set_option linter.unusedVariables false
namespace Go.D
open Go Go.Pav Go.Pw P
set_option maxRecDepth 10000
set_option maxHeartbeats 4000000
set_option linter.unusedSimpArgs false
set_option linter.unusedVariables false
attribute [-simp] List.getElem_cons_drop
variable {C : WProg}
end Go.D
end
section
set_option linter.unusedSimpArgs false
set_option linter.unusedVariables false
namespace Go.D
open Go Go.Pav Go.Pw P
set_option maxRecDepth 10000
set_option maxHeartbeats 4000000
set_option linter.unusedSimpArgs false
set_option linter.unusedVariables false
attribute [-simp] List.getElem_cons_drop
variable {C : WProg}
end Go.D
end
section
set_option linter.unusedSimpArgs false
set_option linter.unusedVariables false
namespace Go.D
open Go Go.Pav Go.Pw P
set_option maxRecDepth 10000
set_option maxHeartbeats 4000000
set_option linter.unusedSimpArgs false
set_option linter.unusedVariables false
attribute [-simp] List.getElem_cons_drop
variable {C : WProg}
end Go.D
end
section
set_option linter.unusedSimpArgs false
set_option linter.unusedVariables false
namespace Go.D
open Go Go.Pav Go.Pw P
set_option maxRecDepth 10000
set_option maxHeartbeats 4000000
set_option linter.unusedSimpArgs false
set_option linter.unusedVariables false
attribute [-simp] List.getElem_cons_drop
variable {C : WProg}
structure HasRo (C : WProg) : Prop extends HasCp C where
 f263 : C.fns.get 263 = some w263
structure LG (r : Int) (l : List En) : Prop where
 hr : 0 ≤ r ∧ r ≤ 255
 hl : l.length ≤ 12
 z : Szd l
 en : ∀ x ∈ l, EnIn x
 ck : ckE (kindsOf r) 12 l = 0
 ck1 : ∀ x ∈ l, ckE (kindsOf r) 12 [x] = 0
 t : ∀ x ∈ l, 0 ≤ x.i.t ∧ x.i.t < (kindsOf r).length
 rE : ∀ x ∈ l, rndE (kdAt (kindsOf r) x.i.t).p x.i 12 = 0
theorem LG.of_good {r : Int} {l : List En} (hr : 0 ≤ r ∧ r ≤ 255) (hl : l.length ≤ 12) (hg : ∀ e ∈ l, GoodE (kindsOf r) e) (hn : (keysE l).Nodup) : LG r l where
 hr := hr
 hl := hl
 z := szd_good hl hg
 en := fun x hx => (hg x hx).en
 ck := ck_good r hr l (by omega) hg hn
 ck1 := fun x hx => ck_good r hr [x] (by simp) (by intro e he; rw [List.mem_singleton] at he; subst he; exact hg _ hx) (by simp [keysE])
 t := fun x hx => by have := (hg x hx).i.t; rw [(ks_in r hr).l]; omega
 rE := fun x hx => (itE_rnd (hg x hx).ok).2
def trP (ks : List Kd) (x : En) : Nd := strN (rndN (kdAt ks x.i.t).p x.i 12)
theorem cnt_rnd {p : Pt} {x : It} (h : rndE p x 12 = 0) : cnt (rndN p x 12) ≠ 0 := by
 unfold rndN
 rw [if_pos h]
 unfold rndE at h
 intro c
 rw [if_neg (by omega)] at h
 split at h
 · cases h
 · split at h
   · cases h
   · rw [if_pos (.inl c)] at h; cases h
section
variable {r : Int} {l : List En} (L : LG r l)
theorem ptree_ok (H : HasRo C) (L : LG r l) {x : En} (hx : x ∈ l) (e : Bool) : ∃ N : Nd, FnW C 238 [aR (kindsOf r) true 12, aL [x] e, .int .i64 0] = some (.tup [.agg N.c, .int .i64 0]) ∧ FnW C 418 [.agg N.c] = some (.agg (trP (kindsOf r) x).c) := by
 have h1 : ckE (kindsOf r) 12 [x] = 0 := L.ck1 x hx
 have h2 := tree_at H.toHasTr (kindsOf r) true 12 (ru_in r) [x] e (by simp) (by intro y hy; rw [List.mem_singleton] at hy; subst hy; exact L.en _ hx) h1 0 (by simp) (L.t x hx).2
 simp only [List.getElem_cons_zero] at h2
 rw [L.rE _ hx] at h2
 exact ⟨_, h2, strip_ok H.toHasCp (cnt_rnd (L.rE _ hx))⟩
def rowP (ks : List Kd) (l : List En) (i : Nat) : Rw := match l[i]? with | some x => ⟨x.i.k, top l i, x.s, trP ks x⟩ | none => ⟨0, 0, 0, zN⟩
theorem rowP_get {ks : List Kd} {l : List En} {i : Nat} (h : i < l.length) : rowP ks l i = ⟨l[i].i.k, top l i, l[i].s, trP ks l[i]⟩ := by unfold rowP; rw [List.getElem?_eq_getElem h]
def rowsP (ks : List Kd) (l : List En) (a n : Nat) : List Rw := (List.range n).map fun k => rowP ks l (a + k)
theorem rowsP_succ (ks : List Kd) (l : List En) (a n : Nat) : rowsP ks l a (n + 1) = rowsP ks l a n ++ [rowP ks l (a + n)] := by unfold rowsP; rw [List.range_succ, List.map_append]; rfl
theorem rowsP_len (ks : List Kd) (l : List En) (a n : Nat) : (rowsP ks l a n).length = n := by simp [rowsP]
theorem rows_loop (H : HasRo C) (L : LG r l) (f : Bool) (a n : Nat) (hab : a + n ≤ l.length) : ∀ m k, k + m = n → ∀ G : List Rw, G.length = k → G = rowsP (kindsOf r) l a k →
 w263_K0 C ⟨[(31, .int .i64 k), (30, .int .i64 n), (11, .sl 0 9 0 n n true), (9, .ro 1 ((tps l).map eI) true), (5, .ptr 1 0 0), (4, .ptr 2 0 0), (2, .int .i64 a)],
  [(0, .cells 9 (G.map eRw ++ List.replicate m [.int .u64 0, .int .i64 0, .int .i64 0, .int .u8 0, .str [], .str [], .ro 2 [] true, .str [], .ro 6 [] true]) true true), (1, .cells 1 [[.ro 6 (l.map eEn) f]] true true), (2, .cells 2 [[.ro 9 ((kindsOf r).map eKd) true, .int .i64 12]] true true)], 3⟩
  = some (.ro 9 ((rowsP (kindsOf r) l a n).map eRw) true) := by
 have hl := L.hl
 intro m
 induction m with
 | zero =>
  intro k hk G hG hGe
  have h3 : ¬ k < n := by omega
  have e : k = n := by omega
  subst e
  rw [← hGe]
  have e2 : List.take k (List.map eRw G) = List.map eRw G := List.take_of_length_le (by simp; omega)
  simp only [w263_K0]; rw [ck_unf w263_B0.eq_1]
  simp (disch := omega) [ck_unf w263_c0.eq_1, e2, hG]
 | succ m ihm =>
  intro k hk G hG hGe
  have h1 : k < n := by omega
  have hi : a + k < l.length := by omega
  have this := ihm (k + 1) (by omega) (G ++ [rowP (kindsOf r) l (a + k)]) (by simp [hG]) (by rw [hGe, rowsP_succ])
  obtain ⟨N, t1, t2⟩ := ptree_ok H L (List.getElem_mem hi) true
  have g1 := gr_get eRw G [.int .u64 0, .int .i64 0, .int .i64 0, .int .u8 0, .str [], .str [], .ro 2 [] true, .str [], .ro 6 [] true] m
  have g2 := gr_set eRw G [.int .u64 0, .int .i64 0, .int .i64 0, .int .u8 0, .str [], .str [], .ro 2 [] true, .str [], .ro 6 [] true] m (rowP (kindsOf r) l (a + k))
  have hz := L.z
  have htp := hz.small (a + k)
  have tp : (tps l)[a + k]? = some (top l (a + k)) := by
   have h : a + k < (tps l).length := by rw [tps_len]; omega
   rw [List.getElem?_eq_getElem h, tps_get]
  rw [hG] at g1 g2
  rw [rowP_get hi] at g2 this
  generalize trP (kindsOf r) l[a + k] = T at *
  rw [Nd.c_eq] at t1 t2
  rw [Nd.c_eq] at t2
  simp only [aR, aL, List.map_cons, List.map_nil, eEn] at t1
  generalize kindsOf r = ks at *
  simp only [w263_K0] at this ⊢; rw [ck_unf w263_B0.eq_1]
  simp at this
  simp at g2 t1 g1
  simp (disch := omega) [h1, hi, tp, t1, t2, wI64, H.inl, inlB, H.pp, ppB, g1, g2, this]
theorem rows_ok (H : HasRo C) (L : LG r l) (f : Bool) (a b : Nat) (hab : a ≤ b) (hb : b ≤ l.length) :
 FnW C 263 [aR (kindsOf r) true 12, aL l f, .int .i64 a, .int .i64 b] = some (.ro 9 ((rowsP (kindsOf r) l a (b - a)).map eRw) true) := by
 have h1 := tops_ok H.toHasSz l f L.z
 have hl := L.hl
 obtain ⟨n, rfl⟩ : ∃ n, b = a + n := ⟨b - a, by omega⟩
 have e : a + n - a = n := by omega
 have ei : ((a + n : Nat) : Int) - a = n := by omega
 rw [e]
 have k := rows_loop H L f a n hb n 0 (by omega) [] rfl rfl
 generalize hQ : rowsP (kindsOf r) l a n = Q at *
 generalize kindsOf r = ks at *
 rw [fnW_eq H.f263 rfl]
 by_cases c : n = 0
 · subst c
   have hq : Q = [] := by rw [← hQ]; rfl
   subst hq
   simp (disch := omega) [w263, H.inl, inlB, H.pp, ppB]
 · have c1 : ¬ (a : Int) = a + n := by omega
   have hfit : n * 129 ≤ 35184372088832 := by omega
   simp only [w263_K0] at k
   try simp at k
   simp at ei
   simp (disch := omega) [w263, h1, c1, ei, k, hfit, wI64, H.inl, inlB, H.pp, ppB]
   done
end
end Go.D
end
