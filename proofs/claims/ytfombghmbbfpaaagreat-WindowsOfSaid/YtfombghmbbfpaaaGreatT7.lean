/- Part of the theory that the claims of this work use: E32, E33, E34, E35, E36, E37, E38, E39. No conditions of its own. -/
import Derived.Test.YtfombghmbbfpaaaGreatT6
section
set_option linter.unusedSimpArgs false
set_option linter.unusedVariables false
namespace Go.D
open Go Go.Pav Go.Pw P
set_option maxRecDepth 10000
set_option maxHeartbeats 4000000
set_option linter.unusedSimpArgs false
set_option linter.unusedVariables false
attribute [-simp] List.getElem_cons_drop
variable {C : WProg}
theorem hdF_hrF {ks : List Kd} {l : List En} (hz : Szd l) {o : Int} : ∀ (n i : Nat) (a : Int), n + i = l.length → hdF ks l o n i a = hrF ks l o n i a := by
 intro n
 induction n with
 | zero => intro i a _; rfl
 | succ n ih =>
  intro i a hi
  have hil : i < l.length := by omega
  by_cases c : o < top l i
  · rw [hdF, if_pos c, hrF_stop hz (n + 1) i a hi c]
  · rw [hdF, if_neg c, hrF, ih (i + 1) _ (by omega)]
    congr 1
    rw [List.getElem?_eq_getElem hil, stk_get hil]
    simp only
    by_cases d : (kdAt ks l[i].i.t).st = true
    · rw [if_pos d, if_pos ⟨d, by omega⟩]
    · rw [if_neg d, if_neg (by rintro ⟨q, _⟩; exact d q)]
theorem hdA_eq {ks : List Kd} {l : List En} (hz : Szd l) {o : Int} : hdA ks l o = hrA ks l o := hdF_hrF hz l.length 0 (-1) (by simp)
theorem hrA_bd' (ks : List Kd) (l : List En) (s : Int) : -1 ≤ hrA ks l s ∧ hrA ks l s < l.length := hrF_bd ks l s l.length 0 (-1) (by simp) (by omega)
theorem rwindow_ok (H : HasWo C) (l : List En) (e : Bool) (o v k : Int) (hp : Vp l o v) (hk : 0 ≤ k ∧ k ≤ 16) : FnW C 131 [.ro 6 (l.map eEn) e, .int .i64 o, .int .i64 v, .int .i64 k] = some (.tup [.int .i64 (wF l o v k), .int .i64 (wT l o v k), .int .i64 0]) := by
 have hn := hp.n
 obtain ⟨K, rfl⟩ : ∃ K : Nat, k = K := ⟨k.toNat, by omega⟩
 have hv0 := hp.v0
 have hsb := hp.sb2
 have h1 := rviewport_ok H.toHasSz l e (by omega) (fun x hx => by have := hp.s x hx; omega) o v (by omega) (by omega)
 rw [vpE_of hp] at h1
 have c1 : ¬ (K : Int) < 0 := by omega
 have c2 : ¬ (16 : Int) < K := by omega
 obtain ⟨a, b, ha, hb, hab, hbl, hv, hw⟩ := hp.visR
 by_cases c : l.length = 0
 · have e1 : wF l o v K = 0 := by
    unfold wF; rw [ha]; unfold imax; split <;> omega
   have e2 : wT l o v K = 0 := by
    unfold wT; rw [hb]; unfold imin; split <;> omega
   rw [e1, e2, fnW_eq H.f131 rfl]
   have hnil : l = [] := List.eq_nil_of_length_eq_zero c
   subst hnil
   simp at h1
   simp (disch := omega) [w131, ck_unf w131_B0.eq_1, ck_unf w131_c0.eq_1, h1, c1, c2, wI64, H.inl, inlB, H.pp, ppB]
 · obtain ⟨w1, w2⟩ := hw (by omega)
   have key := rw_out H l e o v hp K (by omega) hv w1 hbl l.length ((l.length : Int) - 1) (by omega) (by omega)
   have e0 : wdT (a - K) (min l.length (b + K)) l.length = 0 := by unfold wdT; rw [if_neg (by omega)]
   have e0' : wdF (a - K) (min l.length (b + K)) l.length = 0 := by unfold wdF; rw [if_neg (by omega)]
   rw [e0, e0'] at key
   have e1 : wF l o v K = (a - K : Nat) := by unfold wF; rw [ha]; unfold imax; split <;> omega
   have e2 : wT l o v K = (min l.length (b + K) : Nat) := by unfold wT; rw [hb]; unfold imin; split <;> omega
   rw [e1, e2, fnW_eq H.f131 rfl]
   generalize (a - K : Nat) = A at *
   generalize min l.length (b + K) = B at *
   simp only [w131_K0] at key
   try simp at key
   simp (disch := omega) [w131, h1, c1, c2, wI64, key, H.inl, inlB, H.pp, ppB]
theorem rwindow_bad (H : HasWo C) (l : List En) (e : Bool) (hl : l.length ≤ 1000000) (hs : SzB l) (o v k : Int) (ho : -9223372036854775808 ≤ o ∧ o ≤ 9223372036854775807) (hv : -9223372036854775808 ≤ v ∧ v ≤ 9223372036854775807) (h : winE l o v k ≠ 0) :
 FnW C 131 [.ro 6 (l.map eEn) e, .int .i64 o, .int .i64 v, .int .i64 k] = some (.tup [.int .i64 0, .int .i64 0, .int .i64 (winE l o v k)]) := by
 have h1 := rviewport_ok H.toHasSz l e hl hs o v ho hv
 have hnn := vpE_nn l o v
 rw [fnW_eq H.f131 rfl]
 unfold winE at h ⊢
 by_cases c : vpE l o v = 0
 · rw [if_neg (by simpa using c)] at h ⊢
   rw [c] at h1
   by_cases d : k < 0 ∨ 16 < k
   · rw [if_pos d]
     rcases d with d | d
     · simp (disch := omega) [w131, h1, d, H.inl, inlB, H.pp, ppB]
     · have d2 : ¬ k < 0 := by omega
       simp (disch := omega) [w131, h1, d, d2, H.inl, inlB, H.pp, ppB]
   · rw [if_neg d] at h; exact absurd rfl h
 · rw [if_pos c]
   generalize vpE l o v = B at *
   have hB : 0 < B := by omega
   simp (disch := omega) [w131, h1, hB, H.inl, inlB, H.pp, ppB]
def raF (A B h : Int) : Nat → Nat → List Int
 | 0, _ => []
 | n + 1, i => if (A ≤ i ∧ (i : Int) < B) ∨ (i : Int) = h then (i : Int) :: raF A B h n (i + 1) else raF A B h n (i + 1)
theorem raF_mem (A B h : Int) : ∀ (n i : Nat) (x : Int), x ∈ raF A B h n i ↔ ((i : Int) ≤ x ∧ x < i + n) ∧ ((A ≤ x ∧ x < B) ∨ x = h) := by
 intro n
 induction n with
 | zero => intro i x; rw [raF]; simp; omega
 | succ n ih =>
  intro i x
  rw [raF]
  by_cases c : (A ≤ i ∧ (i : Int) < B) ∨ (i : Int) = h
  · rw [if_pos c, List.mem_cons, ih (i + 1) x]
    constructor
    · rintro (rfl | q)
      · exact ⟨by omega, c⟩
      · exact ⟨by omega, q.2⟩
    · rintro ⟨q1, q2⟩
      by_cases d : x = i
      · exact .inl d
      · exact .inr ⟨by omega, q2⟩
  · rw [if_neg c, ih (i + 1) x]
    constructor
    · rintro ⟨q1, q2⟩; exact ⟨by omega, q2⟩
    · rintro ⟨q1, q2⟩
      refine ⟨?_, q2⟩
      by_cases d : x = i
      · rw [d] at q2; exact absurd q2 c
      · omega
theorem raF_ris (A B h : Int) : ∀ (n i : Nat) (p : Int), p < i → risB p (raF A B h n i) = true := by
 intro n
 induction n with
 | zero => intro i p _; rfl
 | succ n ih =>
  intro i p hp
  rw [raF]
  split
  · rw [risB, ih (i + 1) i (by omega)]; simp [hp]
  · exact ih (i + 1) p (by omega)
theorem ris_lt : ∀ (l : List Int) (p : Int), risB p l = true → ∀ x ∈ l, p < x
 | [], _, _, x, hx => by cases hx
 | y :: r, p, h, x, hx => by
  rw [risB, Bool.and_eq_true, decide_eq_true_eq] at h
  rcases List.mem_cons.1 hx with q | q
  · rw [q]; exact h.1
  · have := ris_lt r y h.2 x q; omega
theorem ris_eq : ∀ (a b : List Int) (p q : Int), risB p a = true → risB q b = true → (∀ x, x ∈ a ↔ x ∈ b) → a = b
 | [], [], _, _, _, _, _ => rfl
 | [], y :: s, _, _, _, _, h => by have := (h y).2 (by simp); cases this
 | x :: r, [], _, _, _, _, h => by have := (h x).1 (by simp); cases this
 | x :: r, y :: s, p, q, ha, hb, h => by
  rw [risB, Bool.and_eq_true, decide_eq_true_eq] at ha hb
  have e : x = y := by
   rcases List.mem_cons.1 ((h x).1 (by simp)) with e | e
   · exact e
   · rcases List.mem_cons.1 ((h y).2 (by simp)) with e2 | e2
     · exact e2.symm
     · have h1 := ris_lt s y hb.2 x e
       have h2 := ris_lt r x ha.2 y e2
       omega
  subst e
  rw [ris_eq r s x x ha.2 hb.2 fun z => ?_]
  constructor
  · intro hz
    rcases List.mem_cons.1 ((h z).1 (by simp [hz])) with e | e
    · have := ris_lt r x ha.2 z hz; omega
    · exact e
  · intro hz
    rcases List.mem_cons.1 ((h z).2 (by simp [hz])) with e | e
    · have := ris_lt s x hb.2 z hz; omega
    · exact e
theorem raF_att {ks : List Kd} {l : List En} {o v k : Int} (hp : Vp l o v) (hk : 0 ≤ k ∧ k ≤ 16) : raF (wF l o v k) (wT l o v k) (hrA ks l o) l.length 0 = attL ks l o v k := by
 refine ris_eq _ _ (-1) (-1) (raF_ris _ _ _ _ _ _ (by omega)) (ris_att hp hk) fun x => ?_
 obtain ⟨a, b, ea, eb, hab, hbn⟩ := hp.win k hk
 rw [raF_mem, mem_att hp hk, hdA_eq hp.toSzd, ea, eb]
 have hbd := hrA_bd' ks l o
 have hlt : 0 ≤ hrA ks l o → hrA ks l o < b := by
  intro q
  obtain ⟨a', b', ha, hb, _, hbl, _, hw⟩ := hp.visR
  obtain ⟨w1, w2, w3, _⟩ := hw (by omega)
  have h1 := hdF_bd ks l hp.toSzd o a' ⟨w2, w3⟩ (by omega) l.length 0 (-1) (by simp) (by omega)
  rw [hdF_hrF hp.toSzd l.length 0 (-1) (by simp)] at h1
  change -1 ≤ hrA ks l o ∧ hrA ks l o ≤ a' at h1
  unfold wT at eb
  rw [hb] at eb
  unfold imin at eb
  split at eb <;> omega
 constructor
 · rintro ⟨q1, q2 | q2⟩
   · exact .inr q2
   · by_cases c : x < a
     · exact .inl ⟨by omega, by omega, q2⟩
     · exact .inr ⟨by omega, by have := hlt (by omega); omega⟩
 · rintro (⟨q1, q2, q3⟩ | q)
   · exact ⟨by have := hlt q1; omega, .inr q3⟩
   · exact ⟨by omega, .inl q⟩
end Go.D
end
section
set_option linter.unusedSimpArgs false
set_option linter.unusedVariables false
namespace Go.D
open Go Go.Pav Go.Pw P
set_option maxRecDepth 10000
set_option maxHeartbeats 4000000
set_option linter.unusedSimpArgs false
set_option linter.unusedVariables false
attribute [-simp] List.getElem_cons_drop
variable {C : WProg}
theorem ra_loop (H : HasWo C) (ks : List Kd) (ke : Bool) (cap : Int) (l : List En) (e : Bool) (o : Int) (hz : Szd l) (ht : ∀ x ∈ l, 0 ≤ x.i.t ∧ x.i.t < ks.length) (A B : Int) : ∀ n i, n + i = l.length → ∀ G : List Int, G.length ≤ i →
 w133_K0 C ⟨[(16, .int .i64 i), (15, .sl 0 1 0 G.length G.length false), (13, .int .i64 B), (12, .int .i64 A), (5, .ptr 1 0 0), (2, .int .i64 o), (1, .ro 6 (l.map eEn) e)], [(0, .cells 1 (G.map eI) true true), (1, .cells 2 [[.ro 9 (ks.map eKd) ke, .int .i64 cap]] true true)], 2⟩ =
  some (.tup [.ro 1 ((G ++ raF A B (hrA ks l o) n i).map eI) false, .int .i64 0]) := by
 have hn := hz.n
 have hh := rhead_ok H.toHasHd ks ke cap l e o hz ht
 intro n
 induction n with
 | zero =>
  intro i hi G hG
  have h3 : ¬ i < l.length := by omega
  rw [raF, List.append_nil]
  have e2 : List.take G.length (List.map eI G) = List.map eI G := List.take_of_length_le (by simp)
  simp only [w133_K0]; rw [ck_unf w133_B0.eq_1]
  simp (disch := omega) [ck_unf w133_c0.eq_1, h3, e2]
 | succ n ih =>
  intro i hi G hG
  have h1 : i < l.length := by omega
  have hfit : (G.length + 1) * 9 ≤ 35184372088832 := by omega
  rw [raF]
  generalize hrA ks l o = h at *
  have key : ∀ T : Bool, ((A ≤ i ∧ (i : Int) < B) ∨ (i : Int) = h) = (T = true) → True := fun _ _ => trivial
  by_cases c : (A ≤ i ∧ (i : Int) < B) ∨ (i : Int) = h
  · rw [if_pos c]
    have this := ih (i + 1) (by omega) (G ++ [(i : Int)]) (by simp; omega)
    rw [List.append_assoc] at this
    generalize raF A B h n (i + 1) = S at *
    by_cases d : A ≤ i
    · by_cases d2 : (i : Int) < B
      · simp only [w133_K0] at this ⊢; rw [ck_unf w133_B0.eq_1]
        simp at this
        simp (disch := omega) [h1, d, d2, hfit, wI64, H.inl, inlB, H.pp, ppB, this]
      · have d3 : (i : Int) = h := by omega
        rw [← d3] at hh
        simp only [w133_K0] at this ⊢; rw [ck_unf w133_B0.eq_1]
        simp at this
        simp (disch := omega) [h1, d, d2, hh, hfit, wI64, H.inl, inlB, H.pp, ppB, this]
    · have d3 : (i : Int) = h := by omega
      rw [← d3] at hh
      simp only [w133_K0] at this ⊢; rw [ck_unf w133_B0.eq_1]
      simp at this
      simp (disch := omega) [h1, d, hh, hfit, wI64, H.inl, inlB, H.pp, ppB, this]
  · rw [if_neg c]
    have this := ih (i + 1) (by omega) G (by omega)
    have d3 : ¬ (i : Int) = h := by omega
    generalize raF A B h n (i + 1) = S at *
    by_cases d : A ≤ i
    · have d2 : ¬ (i : Int) < B := by omega
      simp only [w133_K0] at this ⊢; rw [ck_unf w133_B0.eq_1]
      simp at this
      simp (disch := omega) [h1, d, d2, d3, hh, wI64, H.inl, inlB, H.pp, ppB, this]
    · simp only [w133_K0] at this ⊢; rw [ck_unf w133_B0.eq_1]
      simp at this
      simp (disch := omega) [h1, d, d3, hh, wI64, H.inl, inlB, H.pp, ppB, this]
theorem rattached_ok (H : HasWo C) (ks : List Kd) (ke : Bool) (cap : Int) (hr : RuIn ks) (l : List En) (e : Bool) (hin : ∀ x ∈ l, EnIn x) (hck : ckE ks cap l = 0) (ht : ∀ x ∈ l, 0 ≤ x.i.t ∧ x.i.t < ks.length) (o v k : Int) (hp : Vp l o v) (hk : 0 ≤ k ∧ k ≤ 16) :
 FnW C 133 [aR ks ke cap, .ro 6 (l.map eEn) e, .int .i64 o, .int .i64 v, .int .i64 k] = some (.tup [.ro 1 ((attL ks l o v k).map eI) false, .int .i64 0]) := by
 have hn := hp.n
 have h1 := rlcheck_ok H.toHasK ks ke cap hr l e (by omega) hin
 rw [hck] at h1
 have h2 := rwindow_ok H l e o v k hp hk
 have key := ra_loop H ks ke cap l e o hp.toSzd ht (wF l o v k) (wT l o v k) l.length 0 (by simp) [] (by simp)
 rw [raF_att hp hk, List.nil_append] at key
 generalize attL ks l o v k = S at *
 generalize wF l o v k = A at *
 generalize wT l o v k = B at *
 rw [fnW_eq H.f133 rfl]
 simp only [w133_K0] at key
 try simp at key
 simp (disch := omega) [w133, h1, h2, key, H.inl, inlB, H.pp, ppB]
theorem rattached_bad (H : HasWo C) (ks : List Kd) (ke : Bool) (cap : Int) (hr : RuIn ks) (l : List En) (e : Bool) (hl : l.length ≤ 1000000) (hs : ∀ x ∈ l, EnIn x) (o v k : Int) (ho : -9223372036854775808 ≤ o ∧ o ≤ 9223372036854775807) (hv : -9223372036854775808 ≤ v ∧ v ≤ 9223372036854775807)
 (hnn : 0 ≤ ckE ks cap l) (B : Int) (hB : B = (if ckE ks cap l ≠ 0 then ckE ks cap l else winE l o v k)) (h : B ≠ 0) :
 FnW C 133 [aR ks ke cap, .ro 6 (l.map eEn) e, .int .i64 o, .int .i64 v, .int .i64 k] = some (.tup [.ro 1 [] true, .int .i64 B]) := by
 have h1 := rlcheck_ok H.toHasK ks ke cap hr l e hl hs
 rw [fnW_eq H.f133 rfl]
 by_cases c : ckE ks cap l = 0
 · rw [if_neg (by simpa using c)] at hB
   have h2 := rwindow_bad H l e hl (fun x hx => (hs x hx).s) o v k ho hv (by rw [← hB]; exact h)
   have hw := winE_nn l o v k
   rw [c] at h1
   rw [← hB] at h2 hw
   have hb : 0 < B := by omega
   simp (disch := omega) [w133, h1, h2, h, hb, H.inl, inlB, H.pp, ppB]
 · rw [if_pos c] at hB
   rw [← hB] at h1 hnn
   have hb : 0 < B := by omega
   simp (disch := omega) [w133, h1, h, hb, H.inl, inlB, H.pp, ppB]
def unkF (l : List En) (a : List Int) : List Int := a.filter fun i => match l[i.toNat]? with | some x => !x.kn | none => false
theorem ru_loop (H : HasWo C) (l : List En) (e f : Bool) (a : List Int) (ha : a.length ≤ 1000000) (hin : ∀ x ∈ a, 0 ≤ x ∧ x < l.length) : ∀ n i, n + i = a.length → ∀ G : List Int, G.length ≤ i →
 w137_K0 C ⟨[(6, .int .i64 i), (5, .sl 0 1 0 G.length G.length false), (1, .ro 1 (a.map eI) f), (0, .ro 6 (l.map eEn) e)], [(0, .cells 1 (G.map eI) true true)], 1⟩ = some (.ro 1 ((G ++ unkF l (a.drop i)).map eI) false) := by
 intro n
 induction n with
 | zero =>
  intro i hi G hG
  have h3 : ¬ i < a.length := by omega
  have h1 : a.drop i = [] := List.drop_eq_nil_of_le (by omega)
  have e2 : List.take G.length (List.map eI G) = List.map eI G := List.take_of_length_le (by simp)
  rw [h1]
  simp only [w137_K0]; rw [ck_unf w137_B0.eq_1]
  simp (disch := omega) [ck_unf w137_c0.eq_1, h3, e2, unkF]
 | succ n ih =>
  intro i hi G hG
  have h1 : i < a.length := by omega
  have hx := hin _ (List.getElem_mem h1)
  obtain ⟨t, hT⟩ : ∃ t : Nat, a[i] = t := ⟨a[i].toNat, by omega⟩
  have htl : t < l.length := by omega
  have hfit : (G.length + 1) * 9 ≤ 35184372088832 := by omega
  rw [drop_cons h1]
  cases c : l[t].kn
  · have hu : unkF l (a[i] :: a.drop (i + 1)) = (t : Int) :: unkF l (a.drop (i + 1)) := by
     unfold unkF
     rw [List.filter_cons, hT, show (t : Int).toNat = t from rfl, List.getElem?_eq_getElem htl]
     simp [c]
    have this := ih (i + 1) (by omega) (G ++ [(t : Int)]) (by simp; omega)
    rw [List.append_assoc] at this
    rw [hu]
    generalize unkF l (a.drop (i + 1)) = S at *
    simp only [w137_K0] at this ⊢; rw [ck_unf w137_B0.eq_1]
    simp at this
    simp (disch := omega) [h1, hT, htl, c, hfit, wI64, H.inl, inlB, H.pp, ppB, this]
  · have hu : unkF l (a[i] :: a.drop (i + 1)) = unkF l (a.drop (i + 1)) := by
     unfold unkF
     rw [List.filter_cons, hT, show (t : Int).toNat = t from rfl, List.getElem?_eq_getElem htl]
     simp [c]
    have this := ih (i + 1) (by omega) G (by omega)
    rw [hu]
    generalize unkF l (a.drop (i + 1)) = S at *
    simp only [w137_K0] at this ⊢; rw [ck_unf w137_B0.eq_1]
    simp at this
    simp (disch := omega) [h1, hT, htl, c, wI64, H.inl, inlB, H.pp, ppB, this]
theorem runknown_ok (H : HasWo C) (l : List En) (e f : Bool) (a : List Int) (ha : a.length ≤ 1000000) (hin : ∀ x ∈ a, 0 ≤ x ∧ x < l.length) : FnW C 137 [.ro 6 (l.map eEn) e, .ro 1 (a.map eI) f] = some (.ro 1 ((unkF l a).map eI) false) := by
 have k := ru_loop H l e f a ha hin a.length 0 (by simp) [] (by simp)
 rw [List.drop_zero, List.nil_append] at k
 generalize unkF l a = S at *
 rw [fnW_eq H.f137 rfl]
 simp only [w137_K0] at k
 try simp at k
 simp (disch := omega) [w137, k, wI64, H.inl, inlB, H.pp, ppB]
end Go.D
end
section
set_option linter.unusedSimpArgs false
set_option linter.unusedVariables false
namespace Go.D
open Go Go.Pav Go.Pw P
set_option maxRecDepth 10000
set_option maxHeartbeats 4000000
set_option linter.unusedSimpArgs false
set_option linter.unusedVariables false
attribute [-simp] List.getElem_cons_drop
variable {C : WProg}
structure HasUn (C : WProg) : Prop extends HasWo C where
 f135 : C.fns.get 135 = some w135
 f276 : C.fns.get 276 = some w276
 f426 : C.fns.get 426 = some w426
 f2004 : C.fns.get 2004 = some w2004
 f2005 : C.fns.get 2005 = some w274
 f2006 : C.fns.get 2006 = some w275
theorem isk_ok (H : HasUn C) (l : List En) (e : Bool) (t : Nat) (ht : t < l.length) : FnW C 276 [.int .i64 t, .rop [.ro 6 (l.map eEn) e]] = some (.bool l[t].kn) := by
 rw [fnW_eq H.f276 rfl]
 simp (disch := omega) [w276, ht, H.inl, inlB, H.pp, ppB]
theorem ex_rn (H : HasUn C) (G : List Int) (r : Nat) (hN : G.length ≤ 1026) (hne : ¬ G = []) :
 RnW C 2005 [.sl 6 1 0 G.length G.length true] [(6, .cells 1 (G.map eI ++ List.replicate r [.int .i64 0]) true true)] 14 = some (.sl 20 1 0 G.length G.length true, [(6, .cells 1 (G.map eI ++ List.replicate r [.int .i64 0]) true true), (20, .cells 1 (G.map eI) true true)], 27) := by
 have hf : G.length * 9 ≤ 35184372088832 := by omega
 have ht : List.take G.length (G.map eI ++ List.replicate r [.int .i64 0]) = G.map eI := by rw [List.take_append_of_le_length (by simp)]; exact List.take_of_length_le (by simp)
 have hp : 0 < G.length := List.length_pos_iff.2 hne
 have hp2 : ¬ G.length = 0 := by omega
 have ht2 : List.take G.length (G.map eI) = G.map eI := List.take_of_length_le (by simp)
 rw [rnW_eq (args := [.sl 6 1 0 G.length G.length true]) H.f2005 rfl]
 simp (disch := omega) [w274, hne, hf, ht, ht2, hp, hp2, wI64, H.inl, inlB, H.pp, ppB]
theorem seqI_cons (i m : Nat) : seqI i (m + 1) = (i : Int) :: seqI (i + 1) m := by
 unfold seqI; rw [List.range_succ_eq_map, List.map_cons, List.map_map]
 refine congr (congrArg _ (by simp)) (List.map_congr_left fun j _ => ?_)
 simp only [Function.comp]; omega
def AtR (x : Option (AV × WHeap × Nat)) (S : List Int) : Prop :=
 (S = [] ∧ ∃ h n, x = some (.tup [.ro 1 [] true, .int .i64 0], h, n)) ∨
 (S ≠ [] ∧ ∃ r, x = some (.tup [.sl 20 1 0 S.length S.length true, .int .i64 0], [(6, .cells 1 (S.map eI ++ List.replicate r [.int .i64 0]) true true), (20, .cells 1 (S.map eI) true true)], 29))
theorem attH_loop (H : HasUn C) (N a b : Nat) (hN : N ≤ 1026) (hb : b ≤ 1024) : ∀ (m i : Nat), i + m = b → ∀ G : List Int, ∀ r : Nat, G.length + r = N → m ≤ r →
 AtR (CK C 6 (fnEndW [.tmp 10, .tmp 11]) [.sq w2004_L0, .bk 0 ⟨true, [15], []⟩, .sq w2004_c0] w2004_B0 ⟨[(17, .int .i64 i), (15, .sl 6 1 0 G.length N true), (13, .ptr 7 0 0)], [(6, .cells 1 (G.map eI ++ List.replicate r [.int .i64 0]) true true), (7, .cells 2 [[.int .i64 a, .int .i64 b]] true true)], 8⟩) (G ++ seqI i m) := by
 intro m
 induction m with
 | zero =>
  intro i hi G r hr hm
  have h3 : ¬ i < b := by omega
  have h5 : G.length ≤ N := by omega
  have hq : G ++ seqI i 0 = G := by simp [seqI]
  rw [hq]
  by_cases hG : G = []
  · subst hG
    refine .inl ⟨rfl, ?_⟩
    have hx : ∀ Hh, ∃ n, RnW C 2005 [.sl 6 1 0 0 0 true] Hh 14 = some (.ro 1 [] true, Hh, n) := by
     intro Hh
     rw [rnW_eq (args := [.sl 6 1 0 0 0 true]) H.f2005 rfl]
     simp (disch := omega) [w274, wI64, H.inl, inlB, H.pp, ppB]
    obtain ⟨nx, hx⟩ := hx [(6, .cells 1 (List.replicate r [.int .i64 0]) true true)]
    rw [ck_unf w2004_B0.eq_1]
    simp (disch := omega) [ck_unf w2004_c0.eq_1, h3, hx, H.inl, inlB, H.pp, ppB]
  · have hp : 0 < G.length := List.length_pos_iff.2 hG
    refine .inr ⟨hG, r, ?_⟩
    have hx := ex_rn H G r (by omega) hG
    rw [ck_unf w2004_B0.eq_1]
    simp (disch := omega) [ck_unf w2004_c0.eq_1, h3, h5, hp, hx, H.inl, inlB, H.pp, ppB]
 | succ m ih =>
  intro i hi G r hr hm
  obtain ⟨r, rfl⟩ : ∃ s, r = s + 1 := ⟨r - 1, by omega⟩
  have h1 : i < b := by omega
  have h5 : G.length + 1 ≤ N := by omega
  have this := ih (i + 1) (by omega) (G ++ [(i : Int)]) r (by simp; omega) (by omega)
  rw [seqI_cons]
  rw [show G ++ (i : Int) :: seqI (i + 1) m = (G ++ [(i : Int)]) ++ seqI (i + 1) m by simp]
  have h6 : List.take G.length (List.map eI G ++ List.replicate (r + 1) [AV.int .i64 0]) = List.map eI G := by rw [List.take_left' (by simp)]
  have h7 : List.drop (G.length + 1) (List.map eI G ++ List.replicate (r + 1) [AV.int .i64 0]) = List.replicate r [AV.int .i64 0] := by
   rw [List.drop_append]; simp
  generalize (G ++ [(i : Int)]) ++ seqI (i + 1) m = S at *
  rw [ck_unf w2004_B0.eq_1]
  simp at this
  simp (disch := omega) [h1, h5, h6, h7, wI64, H.inl, inlB, H.pp, ppB, this]
end Go.D
end
section
set_option linter.unusedSimpArgs false
set_option linter.unusedVariables false
namespace Go.D
open Go Go.Pav Go.Pw P
set_option maxRecDepth 10000
set_option maxHeartbeats 4000000
set_option linter.unusedSimpArgs false
set_option linter.unusedVariables false
attribute [-simp] List.getElem_cons_drop
variable {C : WProg}
theorem attH_ok (H : HasUn C) (ks : List Kd) (ke : Bool) (cap : Int) (hr : RuIn ks) (l : List En) (e : Bool) (hin : ∀ x ∈ l, EnIn x) (hck : ckE ks cap l = 0) (ht : ∀ x ∈ l, 0 ≤ x.i.t ∧ x.i.t < ks.length) (o v k : Int) (hp : Vp l o v) (hk : 0 ≤ k ∧ k ≤ 16) :
 AtR (RnW C 2004 [aR ks ke cap, aL l e, .int .i64 o, .int .i64 v, .int .i64 k] [] 6) (attL ks l o v k) := by
 have hn := hp.n
 have h1 := lcheck_ok H.toHasK ks ke cap hr l e (by omega) hin
 rw [hck] at h1
 have h2 := window_ok H.toHasAt l e o v k hp hk
 have h3 := whead_ok H.toHasAt ks ke cap l e o hp.toSzd ht
 obtain ⟨a, b, ea, eb, hab, hbn⟩ := hp.win k hk
 rw [ea, eb] at h2
 unfold attL
 rw [ea, eb]
 simp only [Int.toNat_natCast]
 obtain ⟨N, hN⟩ : ∃ N : Nat, N = b - a + 1 := ⟨_, rfl⟩
 have hN2 : (b : Int) - a + 1 = N := by omega
 have hN3 : N * 9 ≤ 35184372088832 := by omega
 have hs := attH_loop H N a b (by omega) (by omega) (b - a) a (by omega)
 rw [rnW_eq (args := [aR ks ke cap, aL l e, .int .i64 o, .int .i64 v, .int .i64 k]) H.f2004 rfl [] 6]
 generalize hdA ks l o = h at *
 by_cases c : 0 ≤ h ∧ h < (a : Int)
 · rw [if_pos c]
   have := hs [h] (b - a) (by simp; omega) (by omega)
   have hr1 : N - 1 = b - a := by omega
   have hd : List.drop 1 (List.replicate N [AV.int .i64 0]) = List.replicate (b - a) [AV.int .i64 0] := by rw [List.drop_replicate, hr1]
   have hN1 : 1 ≤ N := by omega
   generalize [h] ++ seqI a (b - a) = R at *
   simp at this
   simp (disch := omega) [w2004, h1, h2, h3, c.1, c.2, wI64, hN2, hN3, hN1, hr1, this, H.inl, inlB, H.pp, ppB]
 · rw [if_neg c]
   have := hs [] N (by simp) (by omega)
   generalize [] ++ seqI a (b - a) = R at *
   simp at this
   by_cases c1 : 0 ≤ h
   · have c2 : ¬ h < (a : Int) := fun q => c ⟨c1, q⟩
     simp (disch := omega) [w2004, h1, h2, h3, c1, c2, wI64, hN2, hN3, this, H.inl, inlB, H.pp, ppB]
   · simp (disch := omega) [w2004, h1, h2, h3, c1, wI64, hN2, hN3, this, H.inl, inlB, H.pp, ppB]
end Go.D
end
section
set_option linter.unusedSimpArgs false
set_option linter.unusedVariables false
namespace Go.D
open Go Go.Pav Go.Pw P
set_option maxRecDepth 10000
set_option maxHeartbeats 4000000
set_option linter.unusedSimpArgs false
set_option linter.unusedVariables false
attribute [-simp] List.getElem_cons_drop
variable {C : WProg}
def knB (l : List En) (x : Int) : Bool := match l[x.toNat]? with | some e => e.kn | none => false
def fkF (l : List En) : List Int → Nat → Int
 | [], _ => -1
 | x :: r, i => if knB l x = true then i else fkF l r (i + 1)
theorem isk2 (H : HasUn C) (l : List En) (e : Bool) (x : Int) (hx : 0 ≤ x ∧ x < l.length) : FnW C 276 [.int .i64 x, .rop [.ro 6 (l.map eEn) e]] = some (.bool (knB l x)) := by
 obtain ⟨t, rfl⟩ : ∃ t : Nat, x = t := ⟨x.toNat, by omega⟩
 have ht : t < l.length := by omega
 rw [isk_ok H l e t ht]
 unfold knB
 rw [show (t : Int).toNat = t from rfl, List.getElem?_eq_getElem ht]
theorem ix_loop (H : HasUn C) (l : List En) (e f : Bool) (a : List Int) (ha : a.length ≤ 2000) (hin : ∀ x ∈ a, 0 ≤ x ∧ x < l.length) : ∀ n i, n + i = a.length →
 w426_K0 C ⟨[(8, .int .i64 i), (7, .int .i64 a.length), (1, .fn 276 [.rop [.ro 6 (l.map eEn) e]]), (0, .ro 1 (a.map eI) f)], [], 0⟩ = some (.int .i64 (fkF l (a.drop i) i)) := by
 intro n
 induction n with
 | zero =>
  intro i hi
  have h3 : ¬ i < a.length := by omega
  have h1 : a.drop i = [] := List.drop_eq_nil_of_le (by omega)
  rw [h1, fkF]
  simp only [w426_K0]; rw [ck_unf w426_B0.eq_1]
  simp (disch := omega) [ck_unf w426_c0.eq_1, h3]
 | succ n ih =>
  intro i hi
  have h1 : i < a.length := by omega
  have hk := isk2 H l e a[i] (hin _ (List.getElem_mem h1))
  rw [drop_cons h1, fkF]
  cases c : knB l a[i]
  · rw [if_neg (by simp)]
    rw [c] at hk
    have this := ih (i + 1) (by omega)
    generalize fkF l (a.drop (i + 1)) (i + 1) = R at *
    simp only [w426_K0] at this ⊢; rw [ck_unf w426_B0.eq_1]
    simp at this
    simp (disch := omega) [h1, hk, wI64, H.inl, inlB, H.pp, ppB, this]
  · rw [if_pos rfl]
    rw [c] at hk
    simp only [w426_K0]; rw [ck_unf w426_B0.eq_1]
    simp (disch := omega) [h1, hk, wI64, H.inl, inlB, H.pp, ppB]
theorem kindex_ok (H : HasUn C) (l : List En) (e f : Bool) (a : List Int) (ha : a.length ≤ 2000) (hin : ∀ x ∈ a, 0 ≤ x ∧ x < l.length) :
 FnW C 426 [.ro 1 (a.map eI) f, .fn 276 [.rop [.ro 6 (l.map eEn) e]]] = some (.int .i64 (fkF l a 0)) := by
 have k := ix_loop H l e f a ha hin a.length 0 (by simp)
 rw [List.drop_zero] at k
 generalize fkF l a 0 = R at *
 rw [fnW_eq H.f426 rfl]
 simp only [w426_K0] at k
 try simp at k
 simp (disch := omega) [w426, k, H.inl, inlB, H.pp, ppB]
end Go.D
end
section
set_option linter.unusedSimpArgs false
set_option linter.unusedVariables false
namespace Go.D
open Go Go.Pav Go.Pw P
set_option maxRecDepth 10000
set_option maxHeartbeats 4000000
set_option linter.unusedSimpArgs false
set_option linter.unusedVariables false
attribute [-simp] List.getElem_cons_drop
variable {C : WProg}
def nkF (l : List En) (a : List Int) : List Int := a.filter fun i => !knB l i
theorem nk_unk (l : List En) (a : List Int) (hin : ∀ x ∈ a, 0 ≤ x ∧ x < l.length) : nkF l a = unkF l a := by
 unfold nkF unkF
 refine List.filter_congr fun x hx => ?_
 have h := hin x hx
 obtain ⟨t, rfl⟩ : ∃ t : Nat, x = t := ⟨x.toNat, by omega⟩
 have ht : t < l.length := by omega
 unfold knB
 rw [show (t : Int).toNat = t from rfl, List.getElem?_eq_getElem ht]
theorem fk_none (l : List En) : ∀ (a : List Int) (i : Nat), fkF l a i = -1 → nkF l a = a := by
 intro a
 induction a with
 | nil => intro i _; rfl
 | cons x r ih =>
  intro i h
  rw [fkF] at h
  split at h
  · omega
  · rename_i c
    have := ih (i + 1) h
    unfold nkF at this ⊢
    rw [List.filter_cons, if_pos (by simpa using c), this]
theorem fk_some (l : List En) : ∀ (a : List Int) (i : Nat), fkF l a i ≠ -1 → ∃ k : Nat, fkF l a i = ((i + k : Nat) : Int) ∧ ∃ h : k < a.length, knB l a[k] = true ∧ nkF l (a.take k) = a.take k := by
 intro a
 induction a with
 | nil => intro i h; exact absurd rfl h
 | cons x r ih =>
  intro i h
  rw [fkF] at h ⊢
  split
  · rename_i c
    exact ⟨0, by simp, by simp, by simpa using c, by simp [nkF]⟩
  · rename_i c
    rw [if_neg c] at h
    obtain ⟨k, h1, h2, h3, h4⟩ := ih (i + 1) h
    refine ⟨k + 1, by rw [h1]; congr 1; omega, by simpa using h2, by simpa using h3, ?_⟩
    rw [List.take_succ_cons]
    unfold nkF at h4 ⊢
    rw [List.filter_cons, if_pos (by simpa using c), h4]
theorem nk_take (l : List En) (a : List Int) (j : Nat) (h : j < a.length) : nkF l (a.take (j + 1)) = nkF l (a.take j) ++ (if knB l a[j] = true then [] else [a[j]]) := by
 unfold nkF
 rw [List.take_succ_eq_append_getElem h, List.filter_append]
 congr 1
 rw [List.filter_cons]
 cases knB l a[j] <;> simp
theorem del_loop (H : HasUn C) (l : List En) (e : Bool) (a : List Int) (ha : a.length ≤ 2000) (hin : ∀ x ∈ a, 0 ≤ x ∧ x < l.length) (XS : List (List AV)) (n : Nat) (hn : 20 < n) : ∀ m j, m + j = a.length → ∀ (c : Nat) (B : List Int), c < j → B.length = a.length → B.take c = nkF l (a.take j) → B.drop j = a.drop j →
 ∃ Z n2, CK C n (fnEndW [.tmp 4]) [.sq w275_L0, .bk 0 ⟨true, [5, 0], []⟩, .sq w275_c0] w275_B0 ⟨[(6, .int .i64 j), (5, .int .i64 c), (1, .fn 276 [.rop [.ro 6 (l.map eEn) e]]), (0, .sl 20 1 0 a.length a.length true)], [(6, .cells 1 XS true true), (20, .cells 1 (B.map eI) true true)], n⟩ =
  some (.sl 20 1 0 (nkF l a).length a.length true, [(6, .cells 1 XS true true), (20, .cells 1 ((nkF l a).map eI ++ Z) true true)], n2) := by
 have hn6 : 6 < n := by omega
 intro m
 induction m with
 | zero =>
  intro j hj c B hc hB h1 h2
  have h3 : ¬ j < a.length := by omega
  have h4 : a.take j = a := List.take_of_length_le (by omega)
  rw [h4] at h1
  have h5 : (nkF l a).length = c := by rw [← h1, List.length_take]; omega
  have h6 : List.take c (B.map eI) = (nkF l a).map eI := by rw [← List.map_take, h1]
  have h7 : c ≤ a.length := by omega
  have hca : c < a.length := by omega
  have hpa : 0 < a.length := by omega
  have h11 : List.drop a.length (B.map eI) = [] := List.drop_eq_nil_of_le (by simp; omega)
  have h8 : ¬ a.length - c = 0 := by omega
  have h9 : c + (a.length - c) ≤ B.length := by omega
  have h10 : List.drop (c + (a.length - c)) (B.map eI) = [] := List.drop_eq_nil_of_le (by simp; omega)
  refine ⟨List.replicate (a.length - c) [.int .i64 0], n + 8, ?_⟩
  rw [h5, ck_unf w275_B0.eq_1]
  simp (disch := omega) [ck_unf w275_c0.eq_1, h3, h6, h7, hca, hpa, h11, h8, h9, h10, hn, hn6, hB, H.inl, inlB, H.pp, ppB]
 | succ m ih =>
  intro j hj c B hc hB h1 h2
  have hjl : j < a.length := by omega
  have hjB : j < B.length := by omega
  have hcB : c < B.length := by omega
  have hca : c < a.length := by omega
  have hv : B[j] = a[j] := by
   have q := congrArg (·[0]?) h2
   simp only [List.getElem?_drop, Nat.add_zero, List.getElem?_eq_getElem hjB, List.getElem?_eq_getElem hjl, Option.some.injEq] at q
   exact q
  have hk := isk2 H l e a[j] (hin _ (List.getElem_mem hjl))
  have h2' : B.drop (j + 1) = a.drop (j + 1) := by
   have := congrArg (List.drop 1) h2
   simpa [List.drop_drop] using this
  have ht := nk_take l a j hjl
  cases c1 : knB l a[j]
  · rw [c1] at hk ht
    obtain ⟨Z, n2, this⟩ := ih (j + 1) (by omega) (c + 1) (B.set c a[j]) (by omega) (by simpa using hB) (by
     rw [ht, ← h1, if_neg (by simp), List.take_succ_eq_append_getElem (by simpa using hcB)]
     rw [List.take_set_of_le (by omega)]; simp) (by rw [List.drop_set_of_lt (by omega)]; exact h2')
    refine ⟨Z, n2, ?_⟩
    rw [ck_unf w275_B0.eq_1]
    simp at this
    simp (disch := omega) [hjl, hjB, hcB, hca, hv, hk, hn, hn6, hB, wI64, H.inl, inlB, H.pp, ppB, this]
  · rw [c1] at hk ht
    obtain ⟨Z, n2, this⟩ := ih (j + 1) (by omega) c B (by omega) hB (by rw [ht, h1]; simp) h2'
    refine ⟨Z, n2, ?_⟩
    rw [ck_unf w275_B0.eq_1]
    simp at this
    simp (disch := omega) [hjl, hjB, hcB, hca, hv, hk, hn, hn6, hB, wI64, H.inl, inlB, H.pp, ppB, this]
theorem del_ok (H : HasUn C) (l : List En) (e : Bool) (a : List Int) (hne : a ≠ []) (ha : a.length ≤ 2000) (hin : ∀ x ∈ a, 0 ≤ x ∧ x < l.length) (XS : List (List AV)) (n : Nat) (hn : 20 < n) :
 ∃ Z n2, RnW C 2006 [.sl 20 1 0 a.length a.length true, .fn 276 [.rop [.ro 6 (l.map eEn) e]]] [(6, .cells 1 XS true true), (20, .cells 1 (a.map eI) true true)] n =
  some (.sl 20 1 0 (nkF l a).length a.length true, [(6, .cells 1 XS true true), (20, .cells 1 ((nkF l a).map eI ++ Z) true true)], n2) := by
 have hi := kindex_ok H l e true a ha hin
 have hn6 : 6 < n := by omega
 have htk : List.take a.length (a.map eI) = a.map eI := List.take_of_length_le (by simp)
 rw [rnW_eq (args := [.sl 20 1 0 a.length a.length true, .fn 276 [.rop [.ro 6 (l.map eEn) e]]]) H.f2006 rfl]
 by_cases c : fkF l a 0 = -1
 · rw [c] at hi
   rw [fk_none l a 0 c]
   refine ⟨[], n + 9, ?_⟩
   simp (disch := omega) [w275, hi, htk, H.inl, inlB, H.pp, ppB]
 · obtain ⟨k, h1, h2, h3, h4⟩ := fk_some l a 0 c
   rw [Nat.zero_add] at h1
   rw [h1] at hi
   have hkn : ¬ (k : Int) = -1 := by omega
   obtain ⟨Z, n2, this⟩ := del_loop H l e a ha hin XS n hn (a.length - (k + 1)) (k + 1) (by omega) k a (by omega) rfl (by
    rw [nk_take l a k h2, h4, if_pos h3, List.append_nil]) rfl
   refine ⟨Z, n2, ?_⟩
   simp at this
   simp (disch := omega) [w275, hi, htk, hkn, hn, hn6, wI64, H.inl, inlB, H.pp, ppB, this]
theorem unknown_ok (H : HasUn C) (ks : List Kd) (ke : Bool) (cap : Int) (hr : RuIn ks) (l : List En) (e : Bool) (hin : ∀ x ∈ l, EnIn x) (hck : ckE ks cap l = 0) (ht : ∀ x ∈ l, 0 ≤ x.i.t ∧ x.i.t < ks.length) (o v k : Int) (hp : Vp l o v) (hk : 0 ≤ k ∧ k ≤ 16) :
 FnW C 135 [aR ks ke cap, aL l e, .int .i64 o, .int .i64 v, .int .i64 k] = some (.tup [.ro 1 ((unkF l (attL ks l o v k)).map eI) true, .int .i64 0]) := by
 have h1 := attH_ok H ks ke cap hr l e hin hck ht o v k hp hk
 have hal := (att_len (ks := ks) hp hk).1
 have hai : ∀ x ∈ attL ks l o v k, 0 ≤ x ∧ x < l.length := by
  intro x hx
  rw [← raF_att hp hk, raF_mem] at hx
  omega
 rw [← nk_unk l _ hai]
 rw [fnW_eq H.f135 rfl]
 rcases h1 with ⟨hS, h, n, h1⟩ | ⟨hS, r, h1⟩
 · rw [hS]
   have hx := kindex_ok H l e true [] (by simp) (by simp)
   have hd : ∀ h n, ∃ n2, RnW C 2006 [.ro 1 [] true, .fn 276 [.rop [.ro 6 (l.map eEn) e]]] h n = some (.ro 1 [] true, h, n2) := by
    intro h n
    rw [rnW_eq (args := [.ro 1 [] true, .fn 276 [.rop [.ro 6 (l.map eEn) e]]]) H.f2006 rfl]
    simp [fkF] at hx
    exact ⟨n + 9, by simp (disch := omega) [w275, hx, H.inl, inlB, H.pp, ppB]⟩
   have he := exact_ok H.toHasWn [] true (by simp)
   simp at he
   simp only [aL, aR] at h1
   simp [nkF]
   obtain ⟨n2, hd⟩ := hd h (n + 1 + 1 + 1 + 1 + 1 + 1 + 1 + 1 + 1 + 1)
   simp (disch := omega) [w135, aL, aR, h1, hd, he, H.inl, inlB, H.pp, ppB]
 · obtain ⟨Z, n2, hd⟩ := del_ok H l e (attL ks l o v k) hS (by omega) hai ((attL ks l o v k).map eI ++ List.replicate r [.int .i64 0]) 39 (by omega)
   have he := exact_ok H.toHasWn (nkF l (attL ks l o v k)) (decide ((attL ks l o v k).length = (nkF l (attL ks l o v k)).length)) (by
    have : (nkF l (attL ks l o v k)).length ≤ (attL ks l o v k).length := List.length_filter_le ..
    omega)
   simp only [aL, aR] at h1
   generalize attL ks l o v k = S at *
   generalize nkF l S = K at *
   have htk : List.take K.length (K.map eI ++ Z) = K.map eI := List.take_left' (by simp)
   simp (disch := omega) [w135, aL, aR, h1, hd, htk, he, H.inl, inlB, H.pp, ppB]
end Go.D
end
section
set_option linter.unusedSimpArgs false
set_option linter.unusedVariables false
namespace Go.D
open Go Go.Pav Go.Pw P
set_option maxRecDepth 10000
set_option maxHeartbeats 4000000
set_option linter.unusedSimpArgs false
set_option linter.unusedVariables false
attribute [-simp] List.getElem_cons_drop
variable {C : WProg}
structure HasW9 (C : WProg) : Prop extends HasG C where
 f2003 : C.fns.get 2003 = some w130
def LofR8 (ks : List Kd) (E0 E1 E2 : List (List AV)) (x : Option (AV × WHeap × Nat)) (R : List En) : Prop :=
 (R = [] ∧ x = some (.tup [aR ks true 12, .agg [.ro 6 [] true]], [(0, .cells 3 E0 true true), (1, .cells 2 E1 true true), (2, .cells 8 E2 true true), (20, .cells 1 [[.ro 6 [] true]] true true), (21, .cells 2 [[.ro 9 (ks.map eKd) true, .int .i64 12]] true true),
  (22, .cells 1 [[.ro 6 [] true]] true true), (23, .cells 2 [[.ro 9 (ks.map eKd) true, .int .i64 12]] true true)], 28)) ∨
 (R ≠ [] ∧ x = some (.tup [aR ks true 12, .agg [.sl 21 6 0 R.length R.length false]], [(0, .cells 3 E0 true true), (1, .cells 2 E1 true true), (2, .cells 8 E2 true true), (20, .cells 1 [[.sl 21 6 0 R.length R.length false]] true false), (21, .cells 6 (R.map eEn) true true),
  (22, .cells 2 [[.ro 9 (ks.map eKd) true, .int .i64 12]] true true), (23, .cells 1 [[.sl 21 6 0 R.length R.length false]] true false), (24, .cells 2 [[.ro 9 (ks.map eKd) true, .int .i64 12]] true true)], 29))
theorem lofW_sl (H : HasW9 C) (E0 E1 E2 : List (List AV)) (ks : List Kd) (hks : KsIn ks) (l : List It) (le : Bool) (hl : l.length ≤ 12) (hg : ∀ x ∈ l, Good x) (q : List Q4) (qe : Bool) (z : List Int) (ze : Bool) (hz : ∀ s ∈ z, 0 ≤ s ∧ s ≤ 255) (hzl : z.length < 9223372036854775808) (r : Int) : ∀ n i, n + i = l.length →
 ∀ G : List En, G ≠ [] → G.length ≤ i → (∀ x ∈ G, GoodE ks x) → (keysE G ++ (l.drop i).map It.k).Nodup →
 ∃ R : List En, LofR8 ks E0 E1 E2 (CK C 20 (fnEndW [.cell 2 2 true, .cell 3 1 true]) [.sq w130_L0, .bk 0 ⟨true, [6, 4, 3, 2], []⟩, .sq w130_c0] w130_B0 ⟨[(7, .int .i64 i), (6, .ptr 20 0 0), (5, .ro 4 (l.map cIt) le), (4, .ptr 22 0 0), (3, .ptr 23 0 0), (2, .ptr 24 0 0), (1, .ptr 25 0 0)], [(0, .cells 3 E0 true true), (1, .cells 2 E1 true true), (2, .cells 8 E2 true true), (20, .cells 1 [[.sl 21 6 0 G.length G.length false]] true false), (21, .cells 6 (G.map eEn) true true), (22, .cells 2 [[.ro 9 (ks.map eKd) true, .int .i64 12]] true true), (23, .cells 1 [[.ro 6 [] true]] true true), (24, .cells 2 [[.ro 9 [] true, .int .i64 0]] true true), (25, .cells 3 [[.ro 4 (q.map eQ) qe, .ro 1 (z.map eU8) ze, .int .u8 r]] true true)], 26⟩) R ∧ R.length ≤ 12 ∧ (∀ e ∈ R, GoodE ks e) ∧ (keysE R).Nodup := by
 intro n
 induction n with
 | zero =>
  intro i hi G hne hG hge hn
  have h1 : l.drop i = [] := List.drop_eq_nil_of_le (by omega)
  have h3 : ¬ i < l.length := by omega
  have h6 : List.take G.length (List.map eEn G) = List.map eEn G := List.take_of_length_le (by simp)
  refine ⟨G, ?_, by omega, hge, by rw [h1] at hn; simpa using hn⟩
  rw [ck_unf w130_B0.eq_1]
  simp [ck_unf w130_c0.eq_1, h3, h6, LofR8, hne]
 | succ n ih =>
  intro i hi G hne hG hge hn
  have h1 : i < l.length := by omega
  have gx := hg _ (List.getElem_mem h1)
  have hii := ritem_ok H.toHasG.toHasK ks true 12 l[i] gx.it hks.r false
  have hfr := rfresh_ok H.toHasG.toHasK ks true 12 l[i] gx.it (by have := gx.t; have := hks.l; omega)
  have hbase := hks.b l[i].t gx.t.1 gx.t.2
  rw [drop_cons h1, List.map_cons] at hn
  have hfit : (G.length + 1) * 73 ≤ 35184372088832 := by omega
  simp only [aR, eIt, Bool.false_eq_true, if_false] at hii
  simp only [aR, eIt, aE, eEn, fre] at hfr
  have hE0 : 0 ≤ itE ks 12 l[i] false := by unfold itE; repeat (first | omega | split)
  by_cases c1 : itE ks 12 l[i] false = 0
  · have step : ∀ e : En, e.i = l[i] → GoodE ks e → ∃ R : List En, LofR8 ks E0 E1 E2 (CK C 20 (fnEndW [.cell 2 2 true, .cell 3 1 true]) [.sq w130_L0, .bk 0 ⟨true, [6, 4, 3, 2], []⟩, .sq w130_c0] w130_B0 ⟨[(7, .int .i64 ((i : Int) + 1)), (6, .ptr 20 0 0), (5, .ro 4 (l.map cIt) le), (4, .ptr 22 0 0), (3, .ptr 23 0 0), (2, .ptr 24 0 0), (1, .ptr 25 0 0)], [(0, .cells 3 E0 true true), (1, .cells 2 E1 true true), (2, .cells 8 E2 true true), (20, .cells 1 [[.sl 21 6 0 (G.length + 1) (G.length + 1) false]] true false), (21, .cells 6 (G.map eEn ++ [eEn e]) true true), (22, .cells 2 [[.ro 9 (ks.map eKd) true, .int .i64 12]] true true), (23, .cells 1 [[.ro 6 [] true]] true true), (24, .cells 2 [[.ro 9 [] true, .int .i64 0]] true true), (25, .cells 3 [[.ro 4 (q.map eQ) qe, .ro 1 (z.map eU8) ze, .int .u8 r]] true true)], 26⟩) R ∧ R.length ≤ 12 ∧ (∀ e ∈ R, GoodE ks e) ∧ (keysE R).Nodup := by
     intro e he hge2
     have := ih (i + 1) (by omega) (G ++ [e]) (by simp) (by simp; omega) (by
      intro y hy
      rcases List.mem_append.1 hy with q | q
      · exact hge y q
      · simp at q; rw [q]; exact hge2) (by simpa [keysE, he] using hn)
     simpa using this
    by_cases c2 : G.length < z.length
    · by_cases c3 : (0 : Int) < z[G.length]
      · have hzz := hz _ (List.getElem_mem c2)
        have hm : z[G.length].tmod 40 = z[G.length] % 40 := Int.tmod_eq_emod_of_nonneg hzz.1
        have hm1 : (0 : Int) ≤ z[G.length] % 40 := Int.emod_nonneg _ (by omega)
        have hm2 : z[G.length] % 40 < 40 := Int.emod_lt_of_pos _ (by omega)
        obtain ⟨R, this, hR⟩ := step ⟨l[i], 1 + z[G.length] % 40, true⟩ rfl ⟨gx, c1, by simp only; omega, .inl rfl⟩
        refine ⟨R, ?_, hR⟩
        rw [c1] at hii
        generalize z[G.length] % 40 = M at *
        rw [ck_unf w130_B0.eq_1]
        simp at this
        simp (disch := omega) [h1, c2, c3, hm, hii, hfr, hfit, wI64, wU8, H.inl, inlB, H.pp, ppB, this]
      · obtain ⟨R, this, hR⟩ := step (fre ks l[i]) rfl ⟨gx, c1, by unfold fre; simp only; omega, .inr rfl⟩
        refine ⟨R, ?_, hR⟩
        rw [c1] at hii
        simp only [fre] at this
        rw [ck_unf w130_B0.eq_1]
        simp at this
        simp (disch := omega) [h1, c2, c3, hii, hfr, hfit, wI64, wU8, H.inl, inlB, H.pp, ppB, this]
    · obtain ⟨R, this, hR⟩ := step (fre ks l[i]) rfl ⟨gx, c1, by unfold fre; simp only; omega, .inr rfl⟩
      refine ⟨R, ?_, hR⟩
      rw [c1] at hii
      simp only [fre] at this
      rw [ck_unf w130_B0.eq_1]
      simp at this
      simp (disch := omega) [h1, c2, hii, hfr, hfit, wI64, wU8, H.inl, inlB, H.pp, ppB, this]
  · have c1' : 0 < itE ks 12 l[i] false := by omega
    obtain ⟨R, this, hR⟩ := ih (i + 1) (by omega) G hne (by omega) hge (by
     refine List.Nodup.sublist ?_ hn; exact List.Sublist.append (List.Sublist.refl _) (List.sublist_cons_self _ _))
    refine ⟨R, ?_, hR⟩
    generalize itE ks 12 l[i] false = E at *
    rw [ck_unf w130_B0.eq_1]
    simp at this
    simp (disch := omega) [h1, c1', hii, wI64, H.inl, inlB, H.pp, ppB, this]
theorem lofW_nil (H : HasW9 C) (E0 E1 E2 : List (List AV)) (ks : List Kd) (hks : KsIn ks) (l : List It) (le : Bool) (hl : l.length ≤ 12) (hg : ∀ x ∈ l, Good x) (q : List Q4) (qe : Bool) (z : List Int) (ze : Bool) (hz : ∀ s ∈ z, 0 ≤ s ∧ s ≤ 255) (hzl : z.length < 9223372036854775808) (r : Int) : ∀ n i, n + i = l.length →
 (keysE [] ++ (l.drop i).map It.k).Nodup →
 ∃ R : List En, LofR8 ks E0 E1 E2 (CK C 20 (fnEndW [.cell 2 2 true, .cell 3 1 true]) [.sq w130_L0, .bk 0 ⟨true, [6, 4, 3, 2], []⟩, .sq w130_c0] w130_B0 ⟨[(7, .int .i64 i), (6, .ptr 20 0 0), (5, .ro 4 (l.map cIt) le), (4, .ptr 21 0 0), (3, .ptr 22 0 0), (2, .ptr 23 0 0), (1, .ptr 24 0 0)], [(0, .cells 3 E0 true true), (1, .cells 2 E1 true true), (2, .cells 8 E2 true true), (20, .cells 1 [[.ro 6 [] true]] true true), (21, .cells 2 [[.ro 9 (ks.map eKd) true, .int .i64 12]] true true), (22, .cells 1 [[.ro 6 [] true]] true true), (23, .cells 2 [[.ro 9 [] true, .int .i64 0]] true true), (24, .cells 3 [[.ro 4 (q.map eQ) qe, .ro 1 (z.map eU8) ze, .int .u8 r]] true true)], 25⟩) R ∧ R.length ≤ 12 ∧ (∀ e ∈ R, GoodE ks e) ∧ (keysE R).Nodup := by
 intro n
 induction n with
 | zero =>
  intro i hi  hn
  have h1 : l.drop i = [] := List.drop_eq_nil_of_le (by omega)
  have h3 : ¬ i < l.length := by omega
  refine ⟨[], ?_, by simp, by simp, by simp⟩
  rw [ck_unf w130_B0.eq_1]
  simp [ck_unf w130_c0.eq_1, h3, LofR8]
 | succ n ih =>
  intro i hi  hn
  have h1 : i < l.length := by omega
  have gx := hg _ (List.getElem_mem h1)
  have hii := ritem_ok H.toHasG.toHasK ks true 12 l[i] gx.it hks.r false
  have hfr := rfresh_ok H.toHasG.toHasK ks true 12 l[i] gx.it (by have := gx.t; have := hks.l; omega)
  have hbase := hks.b l[i].t gx.t.1 gx.t.2
  rw [drop_cons h1, List.map_cons] at hn
  simp only [aR, eIt, Bool.false_eq_true, if_false] at hii
  simp only [aR, eIt, aE, eEn, fre] at hfr
  have hE0 : 0 ≤ itE ks 12 l[i] false := by unfold itE; repeat (first | omega | split)
  by_cases c1 : itE ks 12 l[i] false = 0
  · have step : ∀ e : En, e.i = l[i] → GoodE ks e → ∃ R : List En, LofR8 ks E0 E1 E2 (CK C 20 (fnEndW [.cell 2 2 true, .cell 3 1 true]) [.sq w130_L0, .bk 0 ⟨true, [6, 4, 3, 2], []⟩, .sq w130_c0] w130_B0 ⟨[(7, .int .i64 ((i : Int) + 1)), (6, .ptr 20 0 0), (5, .ro 4 (l.map cIt) le), (4, .ptr 22 0 0), (3, .ptr 23 0 0), (2, .ptr 24 0 0), (1, .ptr 25 0 0)], [(0, .cells 3 E0 true true), (1, .cells 2 E1 true true), (2, .cells 8 E2 true true), (20, .cells 1 [[.sl 21 6 0 1 1 false]] true false), (21, .cells 6 [eEn e] true true), (22, .cells 2 [[.ro 9 (ks.map eKd) true, .int .i64 12]] true true), (23, .cells 1 [[.ro 6 [] true]] true true), (24, .cells 2 [[.ro 9 [] true, .int .i64 0]] true true), (25, .cells 3 [[.ro 4 (q.map eQ) qe, .ro 1 (z.map eU8) ze, .int .u8 r]] true true)], 26⟩) R ∧ R.length ≤ 12 ∧ (∀ e ∈ R, GoodE ks e) ∧ (keysE R).Nodup := by
     intro e he hge2
     have := lofW_sl H E0 E1 E2 ks hks l le hl hg q qe z ze hz hzl r n (i + 1) (by omega) [e] (by simp) (by simp) (by simpa using hge2) (by simpa [keysE, he] using hn)
     simpa using this
    by_cases c2 : 0 < z.length
    · by_cases c3 : (0 : Int) < z[0]
      · have hzz := hz _ (List.getElem_mem c2)
        have hm : z[0].tmod 40 = z[0] % 40 := Int.tmod_eq_emod_of_nonneg hzz.1
        have hm1 : (0 : Int) ≤ z[0] % 40 := Int.emod_nonneg _ (by omega)
        have hm2 : z[0] % 40 < 40 := Int.emod_lt_of_pos _ (by omega)
        obtain ⟨R, this, hR⟩ := step ⟨l[i], 1 + z[0] % 40, true⟩ rfl ⟨gx, c1, by simp only; omega, .inl rfl⟩
        refine ⟨R, ?_, hR⟩
        rw [c1] at hii
        generalize z[0] % 40 = M at *
        rw [ck_unf w130_B0.eq_1]
        simp at this
        simp (disch := omega) [h1, c2, c3, hm, hii, hfr, wI64, wU8, H.inl, inlB, H.pp, ppB, this]
      · obtain ⟨R, this, hR⟩ := step (fre ks l[i]) rfl ⟨gx, c1, by unfold fre; simp only; omega, .inr rfl⟩
        refine ⟨R, ?_, hR⟩
        rw [c1] at hii
        simp only [fre] at this
        rw [ck_unf w130_B0.eq_1]
        simp at this
        simp (disch := omega) [h1, c2, c3, hii, hfr, wI64, wU8, H.inl, inlB, H.pp, ppB, this]
    · obtain ⟨R, this, hR⟩ := step (fre ks l[i]) rfl ⟨gx, c1, by unfold fre; simp only; omega, .inr rfl⟩
      refine ⟨R, ?_, hR⟩
      rw [c1] at hii
      simp only [fre] at this
      rw [ck_unf w130_B0.eq_1]
      simp at this
      simp (disch := omega) [h1, c2, hii, hfr, wI64, wU8, H.inl, inlB, H.pp, ppB, this]
  · have c1' : 0 < itE ks 12 l[i] false := by omega
    obtain ⟨R, this, hR⟩ := ih (i + 1) (by omega) (by
     simp only [keysE, List.map_nil, List.nil_append] at hn ⊢; exact (List.nodup_cons.1 hn).2)
    refine ⟨R, ?_, hR⟩
    generalize itE ks 12 l[i] false = E at *
    rw [ck_unf w130_B0.eq_1]
    simp at this
    simp (disch := omega) [h1, c1', hii, wI64, H.inl, inlB, H.pp, ppB, this]
theorem lofW_ok (H : HasW9 C) (hone : ∀ q : Q4, QIn q → ∃ i : It, FnW C 422 [.agg (eQ q)] = some (eIt i) ∧ Good i) (E0 E1 E2 : List (List AV)) (q : List Q4) (qe : Bool) (hq : ∀ x ∈ q, QIn x) (z : List Int) (ze : Bool) (hz : ∀ s ∈ z, 0 ≤ s ∧ s ≤ 255) (hzl : z.length < 9223372036854775808) (r : Int) (hr : 0 ≤ r ∧ r ≤ 255) :
 ∃ R : List En, LofR8 (kindsOf r) E0 E1 E2 (RnW C 2003 [.agg [.ro 4 (q.map eQ) qe, .ro 1 (z.map eU8) ze, .int .u8 r]] [(0, .cells 3 E0 true true), (1, .cells 2 E1 true true), (2, .cells 8 E2 true true)] 20) R ∧ R.length ≤ 12 ∧ (∀ e ∈ R, GoodE (kindsOf r) e) ∧ (keysE R).Nodup := by
 obtain ⟨I, hI, l1, l2, l3⟩ := items_ok H.toHasG hone q qe hq
 have hk := kinds_ok H.toHasG r hr
 obtain ⟨R, h, hR⟩ := lofW_nil H E0 E1 E2 (kindsOf r) (ks_in r hr) I false l1 l2 q qe z ze hz hzl r I.length 0 (by simp) (by simpa [keysE] using l3)
 refine ⟨R, ?_, hR⟩
 rw [rnW_eq (args := [.agg [.ro 4 (q.map eQ) qe, .ro 1 (z.map eU8) ze, .int .u8 r]]) H.f2003 rfl]
 generalize kindsOf r = ks at *
 simp at h
 simp [w130, hI, hk, H.inl, inlB, H.pp, ppB]
 exact h
theorem chk_allW (ks : List Kd) : ∀ (l : List En) (s : List Int), chk ks 12 s l = 0 → ∀ e ∈ l, itE ks 12 e.i false = 0 ∧ hOk e.s = true ∧ (e.kn = true ∨ e.s = (kdAt ks e.i.t).b)
 | [], _, _, e, he => by cases he
 | x :: r, s, h, e, he => by
  rw [chk] at h
  by_cases c : enE ks 12 x (s.contains x.i.k) = 0
  · rw [if_neg (by simpa using c)] at h
    rcases List.mem_cons.1 he with q | q
    · subst q
      unfold enE at c
      by_cases d : itE ks 12 e.i (s.contains e.i.k) = 0
      · rw [if_neg (by simpa using d)] at c
        have hd : itE ks 12 e.i false = 0 := by
         unfold itE at d ⊢
         split at d
         · cases d
         · rename_i g
           rw [if_neg g, if_neg (by simp)]
           split at d
           · cases d
           · exact d
        by_cases g : hOk e.s = true ∧ (e.kn = true ∨ e.s = (kdAt ks e.i.t).b)
        · exact ⟨hd, g⟩
        · rw [if_neg g] at c; cases c
      · rw [if_pos d] at c; exact absurd c d
    · exact chk_allW ks r _ h e q
  · rw [if_pos c] at h; exact absurd h c
end Go.D
end
section
set_option linter.unusedSimpArgs false
set_option linter.unusedVariables false
namespace Go.D
open Go Go.Pav Go.Pw P
set_option maxRecDepth 10000
set_option maxHeartbeats 4000000
set_option linter.unusedSimpArgs false
set_option linter.unusedVariables false
attribute [-simp] List.getElem_cons_drop
variable {C : WProg}
structure HasWl (C : WProg) : Prop extends HasUn C, HasW9 C where
 f87 : C.fns.get 87 = some w87
theorem enE_nn (ks : List Kd) (cap : Int) (e : En) (b : Bool) : 0 ≤ enE ks cap e b := by
 have h : ∀ b, 0 ≤ itE ks cap e.i b := by intro b; unfold itE; repeat (first | omega | split)
 have := h b
 unfold enE
 repeat (first | omega | split)
theorem chk_nn (ks : List Kd) (cap : Int) : ∀ (l : List En) (s : List Int), 0 ≤ chk ks cap s l
 | [], _ => by rw [chk]; omega
 | e :: r, s => by
  rw [chk]
  split
  · exact enE_nn ..
  · exact chk_nn ks cap r _
theorem ckE_nn (ks : List Kd) (cap : Int) (l : List En) : 0 ≤ ckE ks cap l := by
 have := chk_nn ks cap l []
 unfold ckE ovE
 repeat (first | omega | split)
theorem t_of_ck {r : Int} {l : List En} (hr : 0 ≤ r ∧ r ≤ 255) (hs : ∀ x ∈ l, EnIn x) (h : ckE (kindsOf r) 12 l = 0) : ∀ x ∈ l, 0 ≤ x.i.t ∧ x.i.t < (kindsOf r).length := by
 have hru := ru_ok r hr
 have h2 : chk (kindsOf r) 12 [] l = 0 := by
  unfold ckE at h
  rw [hru, if_neg (by simp)] at h
  split at h
  · cases h
  · by_cases c : chk (kindsOf r) 12 [] l = 0
    · exact c
    · rw [if_pos c] at h; exact absurd h c
 intro x hx
 obtain ⟨a1, a2, a3⟩ := chk_allW (kindsOf r) l [] h2 x hx
 have q := itOk_t (itE_rnd a1).1
 have := (hs x hx).i.t
 omega
theorem unknown_bad (H : HasUn C) (ks : List Kd) (ke : Bool) (cap : Int) (hr : RuIn ks) (l : List En) (e : Bool) (hl : l.length ≤ 1000000) (hs : ∀ x ∈ l, EnIn x) (o v k : Int) (ho : -9223372036854775808 ≤ o ∧ o ≤ 9223372036854775807) (hv : -9223372036854775808 ≤ v ∧ v ≤ 9223372036854775807)
 (B : Int) (hB : B = (if ckE ks cap l ≠ 0 then ckE ks cap l else winE l o v k)) (h : B ≠ 0) :
 FnW C 135 [aR ks ke cap, aL l e, .int .i64 o, .int .i64 v, .int .i64 k] = some (.tup [.ro 1 [] true, .int .i64 B]) := by
 have h1 := lcheck_ok H.toHasK ks ke cap hr l e hl hs
 have k1 : ∃ h2 n2, RnW C 2004 [aR ks ke cap, aL l e, .int .i64 o, .int .i64 v, .int .i64 k] [] 6 = some (.tup [.ro 1 [] true, .int .i64 B], h2, n2) := by
  rw [rnW_eq (args := [aR ks ke cap, aL l e, .int .i64 o, .int .i64 v, .int .i64 k]) H.f2004 rfl]
  by_cases c : ckE ks cap l = 0
  · rw [if_neg (by simpa using c)] at hB
    have h2 := window_bad H.toHasWo l e hl (fun x hx => (hs x hx).s) o v k ho hv (by rw [← hB]; exact h)
    rw [c] at h1
    rw [← hB] at h2
    simp (disch := omega) [w2004, h1, h2, h, H.inl, inlB, H.pp, ppB]
  · rw [if_pos c] at hB
    rw [← hB] at h1
    simp (disch := omega) [w2004, h1, h, H.inl, inlB, H.pp, ppB]
 obtain ⟨h2, n2, k1⟩ := k1
 rw [fnW_eq H.f135 rfl]
 simp only [aL, aR] at k1
 simp (disch := omega) [w135, aL, aR, k1, h, H.inl, inlB, H.pp, ppB]
structure WoS (C : WProg) (ks : List Kd) (X : List En) (f : Bool) (s v k : Int) (A B E1 E2 : Int) (S U : List Int) (g u : Bool) : Prop where
 c131 : FnW C 131 [.ro 6 (X.map eEn) f, .int .i64 s, .int .i64 v, .int .i64 k] = some (.tup [.int .i64 A, .int .i64 B, .int .i64 E1])
 c132 : FnW C 132 [aL X f, .int .i64 s, .int .i64 v, .int .i64 k] = some (.tup [.agg [.int .i64 A, .int .i64 B], .int .i64 E1])
 c133 : FnW C 133 [aR ks true 12, .ro 6 (X.map eEn) f, .int .i64 s, .int .i64 v, .int .i64 k] = some (.tup [.ro 1 (S.map eI) g, .int .i64 E2])
 c134 : FnW C 134 [aR ks true 12, aL X f, .int .i64 s, .int .i64 v, .int .i64 k] = some (.tup [.ro 1 (S.map eI) true, .int .i64 E2])
 c135 : FnW C 135 [aR ks true 12, aL X f, .int .i64 s, .int .i64 v, .int .i64 k] = some (.tup [.ro 1 (U.map eI) true, .int .i64 E2])
 c137 : FnW C 137 [.ro 6 (X.map eEn) f, .ro 1 (S.map eI) g] = some (.ro 1 (U.map eI) u)
 s1 : FnW C 136 [.ro 1 (S.map eI) true, .ro 1 (S.map eI) g] = some (.int .i64 1)
 s2 : FnW C 136 [.ro 1 (U.map eI) true, .ro 1 (U.map eI) u] = some (.int .i64 1)
theorem wos_ok (H : HasWl C) (r : Int) (hr : 0 ≤ r ∧ r ≤ 255) (l : List En) (f : Bool) (hl : l.length ≤ 12) (hs : ∀ x ∈ l, EnIn x) (s v k : Int) (hsb : -9223372036854775808 ≤ s ∧ s ≤ 9223372036854775807) (hv : -9223372036854775808 ≤ v ∧ v ≤ 9223372036854775807) :
 ∃ A B E1 E2 S U g u, WoS C (kindsOf r) l f s v k A B E1 E2 S U g u := by
 have hSz : SzB l := fun x hx => (hs x hx).s
 have bad : ∀ (B : Int), B = (if ckE (kindsOf r) 12 l ≠ 0 then ckE (kindsOf r) 12 l else winE l s v k) → B ≠ 0 → ∀ A1 B1 E1,
  FnW C 131 [.ro 6 (l.map eEn) f, .int .i64 s, .int .i64 v, .int .i64 k] = some (.tup [.int .i64 A1, .int .i64 B1, .int .i64 E1]) → FnW C 132 [aL l f, .int .i64 s, .int .i64 v, .int .i64 k] = some (.tup [.agg [.int .i64 A1, .int .i64 B1], .int .i64 E1]) →
  ∃ A B E1 E2 S U g u, WoS C (kindsOf r) l f s v k A B E1 E2 S U g u := by
  intro B hB h A1 B1 E1 q1 q2
  have hnn : 0 ≤ ckE (kindsOf r) 12 l := ckE_nn ..
  have h3 := rattached_bad H.toHasWo (kindsOf r) true 12 (ru_in r) l f (by omega) hs s v k hsb hv hnn B hB h
  have h4 := attached_bad H.toHasWo (kindsOf r) true 12 (ru_in r) l f (by omega) hs s v k hsb hv B hB h
  have h5 := unknown_bad H.toHasUn (kindsOf r) true 12 (ru_in r) l f (by omega) hs s v k hsb hv B hB h
  have h6 := runknown_ok H.toHasWo l f true [] (by simp) (by simp)
  exact ⟨A1, B1, E1, B, [], [], true, false, q1, q2, by simpa using h3, by simpa using h4, by simpa using h5, by simpa [unkF] using h6, intsame_ok H.toHasWn [] true true (by simp), intsame_ok H.toHasWn [] true false (by simp)⟩
 by_cases c : winE l s v k = 0
 · have hvp : vpE l s v = 0 ∧ 0 ≤ k ∧ k ≤ 16 := by
    unfold winE at c
    split at c
    · rename_i d; exact absurd c d
    · rename_i d
      split at c
      · cases c
      · exact ⟨by simpa using d, by omega, by omega⟩
   have hp := vp_of hvp.1
   have h1 := rwindow_ok H.toHasWo l f s v k hp hvp.2
   have h2 := window_ok H.toHasAt l f s v k hp hvp.2
   by_cases d : ckE (kindsOf r) 12 l = 0
   · have ht := t_of_ck hr hs d
     have h3 := rattached_ok H.toHasWo (kindsOf r) true 12 (ru_in r) l f hs d ht s v k hp hvp.2
     have h4 := attached_ok H.toHasAt (kindsOf r) true 12 (ru_in r) l f hs d ht s v k hp hvp.2
     have h5 := unknown_ok H.toHasUn (kindsOf r) true 12 (ru_in r) l f hs d ht s v k hp hvp.2
     have hal := (att_len (ks := kindsOf r) hp hvp.2).1
     have hai : ∀ x ∈ attL (kindsOf r) l s v k, 0 ≤ x ∧ x < l.length := by
      intro x hx
      rw [← raF_att hp hvp.2, raF_mem] at hx
      omega
     have h6 := runknown_ok H.toHasWo l f false _ (by omega) hai
     have hul : (unkF l (attL (kindsOf r) l s v k)).length ≤ (attL (kindsOf r) l s v k).length := List.length_filter_le ..
     exact ⟨_, _, 0, 0, _, _, false, false, h1, h2, h3, h4, h5, h6, intsame_ok H.toHasWn _ true false (by omega), intsame_ok H.toHasWn _ true false (by omega)⟩
   · exact bad _ (by rw [if_pos d]) d _ _ _ h1 h2
 · have h1 := rwindow_bad H.toHasWo l f (by omega) hSz s v k hsb hv c
   have h2 := window_bad H.toHasWo l f (by omega) hSz s v k hsb hv c
   refine bad _ rfl ?_ _ _ _ h1 h2
   split
   · assumption
   · exact c
theorem wo_end (H : HasWl C) (hone : ∀ q : Q4, QIn q → ∃ i : It, FnW C 422 [.agg (eQ q)] = some (eIt i) ∧ Good i) (hlives : FnW C 129 [] = some (.bool true))
 (q : List Q4) (qe : Bool) (hq : ∀ x ∈ q, QIn x) (z : List Int) (ze : Bool) (hz : ∀ s ∈ z, 0 ≤ s ∧ s ≤ 255) (hzl : z.length < 9223372036854775808) (r : Int) (hr : 0 ≤ r ∧ r ≤ 255)
 (e : En) (he : EnIn e) (s v k : Int) (bent : Bool) (hsb : -9223372036854775808 ≤ s ∧ s ≤ 9223372036854775807) (hv : -9223372036854775808 ≤ v ∧ v ≤ 9223372036854775807) (c1 : ¬ (70 : Int) < e.i.x.length) (c2 : e.i.m.length = 0) :
 FnW C 87 [.agg [.ro 4 (q.map eQ) qe, .ro 1 (z.map eU8) ze, .int .u8 r], .agg [.int .i64 s, .int .i64 v], .agg (.int .i64 k :: .bool bent :: eEn e)] = some (.bool true) := by
 obtain ⟨R, hR, hl, hg, hn⟩ := lofW_ok H.toHasW9 hone [[.ro 4 (q.map eQ) qe, .ro 1 (z.map eU8) ze, .int .u8 r]] [[.int .i64 s, .int .i64 v]] [.int .i64 k :: .bool bent :: eEn e] q qe hq z ze hz hzl r hr
 rw [fnW_eq H.f87 rfl]
 have fin : ∀ (X : List En) (f : Bool), X.length ≤ 12 → (∀ x ∈ X, EnIn x) → ∃ A B E1 E2 S U g u, WoS C (kindsOf r) X f s v k A B E1 E2 S U g u := fun X f h1 h2 => wos_ok H r hr X f h1 h2 s v k hsb hv
 rcases hR with ⟨rfl, hR⟩ | ⟨hne, hR⟩
 · obtain ⟨A, B, E1, E2, S, U, g, u, E⟩ := fin [] true (by simp) (by simp)
   obtain ⟨k1, k2, k3, k4, k5, k6, k7, k8⟩ := E
   generalize kindsOf r = ks at *
   simp only [eEn, aR] at hR
   simp only [aL, aR, List.map_nil] at k1 k2 k3 k4 k5 k6
   cases bent
   · simp (disch := omega) [w87, eEn, c1, c2, hR, k1, k2, k3, k4, k5, k6, k7, k8, hlives, wI64, H.inl, inlB, H.pp, ppB]
   · simp (disch := omega) [w87, eEn, c1, c2, hR, k1, k2, k3, k4, k5, k6, k7, k8, hlives, wI64, H.inl, inlB, H.pp, ppB]
 · have hpos : 0 < R.length := List.length_pos_iff.2 hne
   have hpos2 : (0 : Int) < R.length := by omega
   cases bent
   · obtain ⟨A, B, E1, E2, S, U, g, u, E⟩ := fin R false hl (fun x hx => (hg x hx).en)
     obtain ⟨k1, k2, k3, k4, k5, k6, k7, k8⟩ := E
     have htk : List.take R.length (R.map eEn) = R.map eEn := List.take_of_length_le (by simp)
     generalize kindsOf r = ks at *
     simp only [eEn, aR] at hR
     simp only [aL, aR] at k1 k2 k3 k4 k5 k6
     simp (disch := omega) [w87, eEn, c1, c2, hR, htk, hpos, k1, k2, k3, k4, k5, k6, k7, k8, hlives, wI64, H.inl, inlB, H.pp, ppB]
   · have hmid : R.length / 2 < R.length := by omega
     obtain ⟨A, B, E1, E2, S, U, g, u, E⟩ := fin (R.set (R.length / 2) e) false (by simpa using hl) (by
      intro x hx
      rcases List.mem_or_eq_of_mem_set hx with h | h
      · exact (hg x h).en
      · subst h; exact he)
     obtain ⟨k1, k2, k3, k4, k5, k6, k7, k8⟩ := E
     have hlen : (R.set (R.length / 2) e).length = R.length := by simp
     have hset : (R.map eEn).set (R.length / 2) [.int .u64 e.i.k, .int .u8 e.i.t, .str e.i.x, .ro 1 (e.i.m.map eS) e.i.e, .int .i64 e.s, .bool e.kn] = (R.set (R.length / 2) e).map eEn := by
      rw [List.map_set]; rfl
     have htk : List.take R.length ((R.set (R.length / 2) e).map eEn) = (R.set (R.length / 2) e).map eEn := List.take_of_length_le (by simp)
     have hq2 : (R.length : Int).tdiv 2 = ((R.length / 2 : Nat) : Int) := by
      rw [Int.tdiv_eq_ediv_of_nonneg (by omega)]; omega
     generalize R.set (R.length / 2) e = X at *
     generalize R.length / 2 = mid at *
     generalize kindsOf r = ks at *
     simp only [eEn, aR] at hR
     simp only [aL, aR] at k1 k2 k3 k4 k5 k6
     simp (disch := omega) [w87, eEn, c1, c2, hR, hpos, hmid, hlen, hset, htk, hq2, k1, k2, k3, k4, k5, k6, k7, k8, hlives, wI64, H.inl, inlB, H.pp, ppB]
theorem wolaw_ok (H : HasWl C) (hone : ∀ q : Q4, QIn q → ∃ i : It, FnW C 422 [.agg (eQ q)] = some (eIt i) ∧ Good i) (hlives : FnW C 129 [] = some (.bool true))
 (q : List Q4) (qe : Bool) (hq : ∀ x ∈ q, QIn x) (z : List Int) (ze : Bool) (hz : ∀ s ∈ z, 0 ≤ s ∧ s ≤ 255) (hzl : z.length < 9223372036854775808) (r : Int) (hr : 0 ≤ r ∧ r ≤ 255)
 (e : En) (hk : 0 ≤ e.i.k ∧ e.i.k < 18446744073709551616) (ht : 0 ≤ e.i.t ∧ e.i.t ≤ 255) (hes : -9223372036854775808 ≤ e.s ∧ e.s ≤ 9223372036854775807)
 (s v k : Int) (bent : Bool) (hsb : -9223372036854775808 ≤ s ∧ s ≤ 9223372036854775807) (hv : -9223372036854775808 ≤ v ∧ v ≤ 9223372036854775807) :
 FnW C 87 [.agg [.ro 4 (q.map eQ) qe, .ro 1 (z.map eU8) ze, .int .u8 r], .agg [.int .i64 s, .int .i64 v], .agg (.int .i64 k :: .bool bent :: eEn e)] = some (.bool true) := by
 by_cases c1 : (70 : Int) < e.i.x.length
 · rw [fnW_eq H.f87 rfl]
   simp (disch := omega) [w87, eEn, c1, hlives, wI64, H.inl, inlB, H.pp, ppB]
 · by_cases c2 : e.i.m.length = 0
   · exact wo_end H hone hlives q qe hq z ze hz hzl r hr e ⟨⟨hk, ht, by omega⟩, hes⟩ s v k bent hsb hv c1 c2
   · rw [fnW_eq H.f87 rfl]
     have c3 : (0 : Int) < e.i.m.length := by omega
     have c4 : ¬ e.i.m = [] := fun q => c2 (by rw [q]; rfl)
     simp (disch := omega) [w87, eEn, c1, c3, c4, hlives, wI64, H.inl, inlB, H.pp, ppB]
end Go.D
end
