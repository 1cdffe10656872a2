/- Soundness: append and copy, the operations. -/
import Derived.Test.YtebbokkffdjpdaaPavSndA
set_option linter.unusedSimpArgs false
namespace Go.Pav
open Go

section
variable {P : Program} {φ : FuncId → Option Nat} {ψ : Nat → FuncId} {N : Nat} {w0 w : World} {S : Nat → Prop} {m : Nat → Nat × Nat} {A : Nat → Prop} {h : Heap} {e : Env} {a : Act} {o : Oper}

/-- What append does with a source, whatever it is. -/
structure Src (P : Program) (w : World) (t u ty el : TypeId) (i : TypeInfo) (z : Nat) (zv : Value) (x : Value) (n : Nat) (news : Array Value) : Prop where
  room : ∀ (base : Option Addr) (sLen sCap : Nat), sLen + n ≤ sCap → (Builtin.append_ #[t, u] ty #[.slice base sLen sCap, x]).run P w =
    (match base with | some ad => ((storeCells (ad.add (sLen * z)) news.toList).run P w).andThen fun _ w' => .ok (.slice base (sLen + n) sCap) w' | none => .ok (.slice base (sLen + n) sCap) w)
  grow : ∀ (base : Option Addr) (sLen sCap : Nat) (olds : Array Value), ¬ sLen + n ≤ sCap → (sLen + n) * (i.bytes + 1) ≤ maxBytes → i.bytes ≠ 0 →
    (∀ w2 : World, w2.heap = w.heap → (Builtin.firstCells z sLen (.slice base sLen sCap)).run P w2 = .ok olds w2) →
    (Builtin.append_ #[t, u] ty #[.slice base sLen sCap, x]).run P w = .ok (.slice (some ⟨w.heap.size, 0, none⟩) (sLen + n) (grownCap w (sLen + n) sCap el))
      (w.drew.alloc (.cells (olds ++ news ++ Builtin.zeroCells zv.cells (grownCap w (sLen + n) sCap el - (sLen + n))) el))

theorem small_need {n b : Nat} (hn : n * (b + 1) ≤ maxBytes) : n ≤ maxBytes ∧ n * b ≤ 140737488355328 := by
  have h1 : n ≤ n * (b + 1) := Nat.le_mul_of_pos_right n (Nat.succ_pos b)
  have h2 : n * b ≤ n * (b + 1) := Nat.mul_le_mul_left n (Nat.le_succ b)
  simp only [maxBytes] at hn ⊢
  omega

theorem src_plain {t u ty el : TypeId} {i : TypeInfo} {z : Nat} {zv x : Value} {n : Nat} {news : Array Value} {du : TypeDesc} (ht : P.underlying t = some (.slice el)) (hu : P.underlying u = some du) (hdu : ∀ k, du ≠ .int k)
    (hi : P.info? el = some i) (hz : i.size = z) (hzv : i.zero = some zv) (hl : (Builtin.lenOf x).run P w = .ok n w) (hf : ∀ w2 : World, w2.heap = w.heap → (Builtin.firstCells z n x).run P w2 = .ok news w2) :
    Src P w t u ty el i z zv x n news := by
  have hno : (du matches .int _) = false := by cases du <;> first | rfl | exact absurd rfl (hdu _)
  constructor
  · intro base sLen sCap hroom
    have hf0 := hf w rfl
    unfold Builtin.append_
    simp only [List.getElem?_toArray, List.getElem?_cons_zero, List.getElem?_cons_succ, Sem.run_bind, run_underlying ht, run_underlying hu, Result.andThen_ok, sizeOf, typeInfo, run_program, hi, Sem.run_pure, hz, hno, Bool.false_eq_true, if_false, hl, Bool.not_false, if_true]
    rw [if_pos hroom]
    cases base with
    | none => simp [hf0]
    | some ad => simp [hf0]
  · intro base sLen sCap olds hroom hb hb0 hold
    obtain ⟨s1, s2⟩ := small_need hb
    have h63 : ¬ (((sLen + n : Nat) : Int) > IntKind.i64.max ∧ (false = true ∨ i.bytes = 0)) := by simp [hb0]
    have h48 : ¬ (Builtin.nextslicecap (sLen + n) sCap * i.bytes > 2 ^ 48) := by
      have := growslice_fits (need := sLen + n) (old := sCap) (bytes := i.bytes) (by omega) s2
      omega
    have hd1 := hf w.drew rfl
    have hd2 := hold w.drew rfl
    unfold Builtin.append_
    simp only [List.getElem?_toArray, List.getElem?_cons_zero, List.getElem?_cons_succ, Sem.run_bind, run_underlying ht, run_underlying hu, Result.andThen_ok, sizeOf, typeInfo, run_program, hi, Sem.run_pure, hz, hno, Bool.false_eq_true, if_false, hl, Bool.not_false, if_true]
    rw [if_neg hroom]
    have h63' : ¬ (((sLen + n : Nat) : Int) > IntKind.i64.max ∧ i.bytes = 0) := by simp [hb0]
    simp only [Bool.false_eq_true, false_or, h63', if_false, Sem.run_bind, Sem.run_pure, Result.andThen_ok, run_program, hi, h48, run_choose, Question.forced, run_askRoom]
    simp [hd1, hd2, zeroValue, typeInfo, hi, hzv, grownCap, Go.newRow]

theorem zeroCells_EsR {z : List AV} {zc : Array Value} (h1 : zc.size = z.length) (h3 : ∀ (j : Nat) (x : AV), z[j]? = some x → x.cell = true)
    (h4 : ∀ (j : Nat) (x : AV), z[j]? = some x → VR ψ w S m A x (zc.getD j Go.undef)) (n : Nat) : EsR ψ w S m A z.length (List.replicate n z) (Builtin.zeroCells zc n) := by
  have := zeros_EsR h1 h3 h4 n
  unfold Builtin.zeroCells
  rw [h1]
  rw [h1] at this
  exact this

theorem src_zeros {t u ty el : TypeId} {i : TypeInfo} {z : Nat} {zv : Value} {n : Nat} {k k' : IntKind} (ht : P.underlying t = some (.slice el)) (hu : P.underlying u = some (.int k'))
    (hi : P.info? el = some i) (hz : i.size = z) (hz0 : z ≠ 0) (hzv : i.zero = some zv) (_hsz : zv.cells.size = z) (hb : n * (i.bytes + 1) ≤ maxBytes) :
    Src P w t u ty el i z zv (.int k n) n (Builtin.zeroCells zv.cells n) := by
  obtain ⟨s1, s2⟩ := small_need hb
  have hw := wrap_i64 s1
  have hbig : ¬ ((n : Int) * (i.bytes : Int) > 2 ^ 48) := by
    have h3 : ((n * i.bytes : Nat) : Int) ≤ 140737488355328 := by omega
    rw [Int.natCast_mul] at h3
    omega
  have hap : ∀ w2 : World, (if n * z = 0 then pure #[] else do pure (Builtin.zeroCells (← zeroValue el).cells n) : Sem (Array Value)).run P w2 = .ok (Builtin.zeroCells zv.cells n) w2 := by
    intro w2
    by_cases h0 : n * z = 0
    · have hn0 : n = 0 := by rcases Nat.mul_eq_zero.1 h0 with h | h; exact h; exact absurd h hz0
      rw [if_pos h0, hn0]
      simp only [Sem.run_pure]
      congr 1
      apply Array.ext'
      simp [Builtin.zeroCells]
    · rw [if_neg h0]
      simp [zeroValue, typeInfo, hi, hzv]
  constructor
  · intro base sLen sCap hroom
    have hap0 := hap w
    unfold Builtin.append_
    simp only [List.getElem?_toArray, List.getElem?_cons_zero, List.getElem?_cons_succ, Sem.run_bind, run_underlying ht, run_underlying hu, Result.andThen_ok, sizeOf, typeInfo, run_program, hi, Sem.run_pure, hz, if_true, asInt, asIntOf, hw]
    rw [if_neg (show ¬ ((n : Int) < 0) by omega)]
    simp only [Sem.run_bind, Sem.run_pure, run_program, Result.andThen_ok, hi]
    rw [if_neg hbig]
    simp only [Sem.run_bind, Sem.run_pure, Result.andThen_ok, Int.toNat_natCast, Bool.not_true, Bool.false_eq_true, if_false]
    rw [if_pos hroom]
    simp only [Sem.run_bind, hap0, Result.andThen_ok]
    cases base with
    | none => simp
    | some ad => simp
  · intro base sLen sCap olds hroom hb hb0 hold
    obtain ⟨s1, s2⟩ := small_need hb
    have h48 : ¬ (Builtin.nextslicecap (sLen + n) sCap * i.bytes > 2 ^ 48) := by
      have := growslice_fits (need := sLen + n) (old := sCap) (bytes := i.bytes) (by omega) s2
      omega
    have h63 : ¬ (((sLen + n : Nat) : Int) > IntKind.i64.max) := by
      rw [IntKind.max_i64]
      simp only [maxBytes] at s1
      omega
    have hd1 := hap w.drew
    have hd2 := hold w.drew rfl
    unfold Builtin.append_
    simp only [List.getElem?_toArray, List.getElem?_cons_zero, List.getElem?_cons_succ, Sem.run_bind, run_underlying ht, run_underlying hu, Result.andThen_ok, sizeOf, typeInfo, run_program, hi, Sem.run_pure, hz, if_true, asInt, asIntOf, hw]
    rw [if_neg (show ¬ ((n : Int) < 0) by omega)]
    simp only [Sem.run_bind, Sem.run_pure, run_program, Result.andThen_ok, hi]
    rw [if_neg hbig]
    simp only [Sem.run_bind, Sem.run_pure, Result.andThen_ok, Int.toNat_natCast, Bool.not_true, Bool.false_eq_true, if_false]
    rw [if_neg hroom]
    simp only [h63, false_and, if_false, Sem.run_bind, Sem.run_pure, Result.andThen_ok, run_program, hi, h48, run_choose, Question.forced, run_askRoom, Bool.false_eq_true]
    have hd1' : (if n * z = 0 then pure #[] else do pure (Builtin.zeroCells (← zeroValue el).cells n) : Sem (Array Value)).run P { w with drawn := w.drawn + 1 } = .ok (Builtin.zeroCells zv.cells n) w.drew := hd1
    have hd2' : (Builtin.firstCells z sLen (.slice base sLen sCap)).run P { w with drawn := w.drawn + 1 } = .ok olds w.drew := hd2
    simp only [hd2', Result.andThen_ok, hd1]
    simp [zeroValue, typeInfo, hi, hzv, grownCap, Go.newRow]

theorem EsR.append {z : Nat} {es fs : List (List AV)} {vs us : Array Value} (_hz : 0 < z) (h1 : EsR ψ w S m A z es vs) (h2 : EsR ψ w S m A z fs us) : EsR ψ w S m A z (es ++ fs) (vs ++ us) := by
  have get : ∀ (k : Nat) (e : List AV), (es ++ fs)[k]? = some e → (k < es.length ∧ es[k]? = some e) ∨ (es.length ≤ k ∧ fs[k - es.length]? = some e) := by
    intro k e he
    rw [List.getElem?_append] at he
    split at he
    · rename_i hk; exact .inl ⟨hk, he⟩
    · rename_i hk; exact .inr ⟨by omega, he⟩
  refine ⟨by simp [h1.size, h2.size, Nat.add_mul], fun k e he => ?_, fun k e j x he hx => ?_⟩
  · rcases get k e he with ⟨_, q⟩ | ⟨_, q⟩
    · exact h1.wide _ e q
    · exact h2.wide _ e q
  · rcases get k e he with ⟨q1, q2⟩ | ⟨q1, q2⟩
    · obtain ⟨c1, u, c2, c3⟩ := h1.at_ q2 hx
      refine ⟨c1, ?_⟩
      have hlt := (Array.getElem?_eq_some_iff.1 c2).1
      rw [Array.getD_eq_getD_getElem?, Array.getElem?_append_left hlt, c2]
      exact c3
    · obtain ⟨c1, u, c2, c3⟩ := h2.at_ q2 hx
      refine ⟨c1, ?_⟩
      have e2 : k * z = es.length * z + (k - es.length) * z := by rw [← Nat.add_mul]; congr 1; omega
      rw [Array.getD_eq_getD_getElem?, Array.getElem?_append_right (by rw [h1.size]; omega)]
      rw [show k * z + j - vs.size = (k - es.length) * z + j by rw [h1.size]; omega, c2]
      exact c3

/-- A new, grown row. -/
theorem Snd.grown {x : Sem Next} (i : Inv ψ N w0 w S m A h) {nid : Nat} (hn : ¬ A nid) {need cap z : Nat} {es : List (List AV)} {vs : Array Value} {el : TypeId} {zc : Array Value}
    (hr : x.run P w = .ok (.value (.slice (some ⟨w.heap.size, 0, none⟩) need cap)) (w.drew.alloc (.cells (vs ++ Builtin.zeroCells zc (cap - need)) el)))
    (he : EsR ψ w S m A z es vs) (hl : es.length = need) (hcap : need ≤ cap) (hzc : zc.size = z) :
    Snd P ψ N w0 w S m A x (put h nid (.cells z es true)) (.sl nid z 0 need need false) nid := by
  refine Snd.newSl (w' := w.drew.alloc (.cells (vs ++ Builtin.zeroCells zc (cap - need)) el)) (c := vs ++ Builtin.zeroCells zc (cap - need)) (t := el) (cs := vs) i hn hr rfl rfl rfl he (fun q hq => ?_) (by simp) rfl hcap hcap (fun hx => by cases hx) ?_
  · rw [Array.getElem?_append_left hq]
  · rw [Array.size_append, size_zeroCells, he.size, hl, hzc, ← Nat.add_mul]
    exact Nat.mul_le_mul_right z (by omega)

/-- Append to a slice of unknown capacity that ends where its block's content ends. -/
theorem app_own (i : Inv ψ N w0 w S m A h) {nid : Nat} (hn : ¬ A nid) {t u ty el : TypeId} {it : TypeInfo} {zv : Value} {z : Nat} (hz0 : 0 < z) (hzv : zv.cells.size = z) (hb0 : it.bytes ≠ 0) {x : Sem Next} {cs cx : Value} {xs : List (List AV)} {news : Array Value}
    (hx : ∀ w' v, (Builtin.append_ #[t, u] ty #[cs, cx]).run P w = .ok v w' → x.run P w = .ok (.value v) w')
    (src : Src P w t u ty el it z zv cx xs.length news) (hnews : EsR ψ w S m A z xs news) {b cap : Nat} {es : List (List AV)} (hs : VR ψ w S m A (.sl b z 0 es.length cap false) cs) (hb : get h b = some (.cells z es true))
    (hbb : (es.length + xs.length) * (it.bytes + 1) ≤ maxBytes) :
    Snd P ψ N w0 w S m A x (put (Pav.del h b) nid (.cells z (es ++ xs) true)) (.sl nid z 0 (es.length + xs.length) (es.length + xs.length) false) nid := by
  have hone := hnews.one
  obtain ⟨cc, e1, hA, hmz, hlen, hcap, hex, cur, tt, fr, hrow, hsz⟩ := hs.inv_sl
  subst e1
  have hlive := i.live b _ hb rfl
  obtain ⟨h0, h1, c, tc, h2, h3, h4⟩ := i.obj b _ hb
  by_cases hroom : es.length + xs.length ≤ cc
  · -- in place
    have heq := h2.symm.trans hrow
    simp only [Option.some.injEq, Obj.cells.injEq] at heq
    rw [← heq.1, Nat.zero_add] at hsz
    have hmul := Nat.mul_le_mul_right z hroom
    rw [Nat.add_mul, ← hnews.size] at hmul
    have hfit : es.length * z + news.toList.length ≤ c.size := by simp; omega
    have hst := run_storeCells_at P (m b).1 (0 * z + es.length * z) tc news.toList 0 c w h2 (by simp; omega) hone
    simp only [Nat.zero_mul, Nat.zero_add, Nat.add_zero] at hst
    have hrun := src.room (some ⟨(m b).1, 0 * z, none⟩) es.length cc hroom
    simp only [add_row, Nat.zero_mul, Nat.zero_add, hst, Result.andThen_ok] at hrun
    have hrow2 : ∀ c' t' fr, w.heap[(m b).1]? = some (.cells c' t' fr) → ∃ c'', (w.setRow (m b).1 (c.toList.take (es.length * z) ++ news.toList ++ c.toList.drop (es.length * z + news.toList.length)).toArray).heap[(m b).1]? = some (.cells c'' t' fr) ∧ c''.size = c'.size := by
      intro c' t' fr hc'
      rw [h2] at hc'
      cases hc'
      exact ⟨_, setRow_heap w _ c _ tc (0, 0) h2, seg_size hfit⟩
    have le := Le.adopt (m := m) (A := A) (nid := nid) hlive.1 (fun k hk => setRow_other w _ k _ hk) (setRow_size w _ _) hrow2 hn ((m b).1, z)
    have hnew : (w.setRow (m b).1 (c.toList.take (es.length * z) ++ news.toList ++ c.toList.drop (es.length * z + news.toList.length)).toArray).heap[(m b).1]? = some (.cells (c.toList.take (es.length * z) ++ news.toList ++ c.toList.drop (es.length * z + news.toList.length)).toArray tc (0, 0)) := setRow_heap w _ c _ tc (0, 0) h2
    refine ⟨_, _, updM m nid ((m b).1, z), addA A nid, .inl (hx _ _ (by rw [Nat.zero_mul]; exact hrun)), ?_, i.adopt hb rfl rfl hn z (fun k hk => setRow_other w _ k _ hk) (setRow_size w _ _) rfl rfl hrow2 ?_, le, fun _ q => q⟩
    · have := VR.sl (ψ := ψ) (w := w.setRow (m b).1 (c.toList.take (es.length * z) ++ news.toList ++ c.toList.drop (es.length * z + news.toList.length)).toArray) (S := S) (m := updM m nid ((m b).1, z)) (A := addA A nid) nid z 0 (es.length + xs.length) (es.length + xs.length) false cc (.inr rfl) (by simp [updM]) hroom hroom (fun q => by cases q)
        ⟨_, tc, (0, 0), by simp only [updM, if_true]; exact hnew, by rw [seg_size hfit, Nat.zero_add]; exact hsz⟩
      simpa [updM] using this
    · have hnl : news.toList.length = xs.length * z := by simp [hnews.size]
      refine ⟨rfl, fun q e he => ?_, _, tc, hnew, ?_, fun q e j y he hy => ?_⟩
      · rw [List.getElem?_append] at he
        split at he
        · exact h1 q e he
        · exact hnews.wide _ e he
      · rw [seg_size hfit, List.length_append, Nat.add_mul]; omega
      · rw [List.getElem?_append] at he
        split at he
        · rename_i hq
          obtain ⟨c1, u', c2, c3⟩ := h4 q e j y he hy
          have hj : j < z := by rw [← h1 q e he]; exact (List.getElem?_eq_some_iff.1 hy).1
          have hlt := row_lt hq hj
          exact ⟨c1, u', by rw [seg_get hfit, if_neg (by omega)]; exact c2, c3.mono le⟩
        · rename_i hq
          obtain ⟨c1, u', c2, c3⟩ := hnews.at_ he hy
          have hlt := (Array.getElem?_eq_some_iff.1 c2).1
          rw [hnews.size] at hlt
          have e2 : q * z = es.length * z + (q - es.length) * z := by rw [← Nat.add_mul]; congr 1; omega
          refine ⟨c1, u', ?_, c3.mono le⟩
          rw [seg_get hfit, if_pos (by omega), show q * z + j - es.length * z = (q - es.length) * z + j by omega, Array.getElem?_toList]
          exact c2
  · -- a new block
    obtain ⟨_, hr0⟩ := i.rowsAt (k := 0) (len := es.length) hb
    have hl : (es.drop 0).take es.length = es := by simp
    rw [hl] at hr0
    obtain ⟨vs, q1, q2⟩ := hr0.load (P := P) hz0 (Nat.le_refl _)
    rw [List.take_of_length_le (Nat.le_refl _)] at q2
    have hr := src.grow (some ⟨(m b).1, 0 * z, none⟩) es.length cc vs hroom hbb hb0 (fun w2 hw2 => by simp only [Builtin.firstCells]; exact q1 w2 hw2)
    exact Snd.grown (i.del b) hn (hx _ _ hr) (q2.append hz0 hnews) (by simp) (grownCap_ge ..) hzv

theorem app_run (i : Inv ψ N w0 w S m A h) {nid : Nat} (hn : ¬ A nid) {t u ty el : TypeId} {it : TypeInfo} {zv : Value} {z : Nat} (hz0 : 0 < z) (hzv : zv.cells.size = z) (hb0 : it.bytes ≠ 0) {x : Sem Next} {cs cx : Value} {sv : AV} {xs : List (List AV)} {news : Array Value}
    (hx : ∀ w' v, (Builtin.append_ #[t, u] ty #[cs, cx]).run P w = .ok v w' → x.run P w = .ok (.value v) w')
    (src : Src P w t u ty el it z zv cx xs.length news) (hnews : EsR ψ w S m A z xs news) (hs : VR ψ w S m A sv cs) {v : AV} {up : Upd} (hv : evApp h nid z it.bytes sv xs = some (v, up)) :
    Snd P ψ N w0 w S m A x (applyUpd h up) v nid := by
  cases sv <;> simp only [evApp] at hv <;> try (cases hv; done)
  · -- nil
    have e1 := hs.inv_nils
    subst e1
    cases xs with
    | nil =>
      simp only at hv
      cases hv
      refine Snd.quiet i (hx _ _ ?_) .nils nid
      rw [src.room none 0 0 (by simp)]
      simp
    | cons x0 xr =>
      simp only [Pav.newRow] at hv
      split at hv
      · rename_i hb
        cases hv
        have hr := src.grow none 0 0 #[] (by simp) (by rw [Nat.zero_add]; exact hb) hb0 (fun w2 _ => by simp [Builtin.firstCells])
        rw [Nat.zero_add, Array.empty_append] at hr
        exact Snd.grown i hn (hx _ _ hr) hnews rfl (grownCap_ge ..) hzv
      · cases hv
  · -- read-only
    rename_i z' es ex
    split at hv
    · rename_i hzz
      subst hzz
      rcases hs.inv_ro with ⟨b, off, cap, f, e1, hS, hw, hcap, hex, hcell, hrep⟩ | ⟨rfl, ad, e1⟩
      case inr =>
        subst e1
        cases xs with
        | nil =>
          simp only at hv
          cases hv
          have hnil : news = #[] := by have := hnews.size; simp at this; exact this
          subst hnil
          refine Snd.quiet i (hx _ _ ?_) hs nid
          rw [src.room (some ad) 0 0 (by simp)]
          simp [storeCells]
        | cons x0 xr =>
          simp only at hv
          split at hv
          · simp only [Pav.newRow] at hv
            split at hv
            · rename_i hb
              simp only [List.length_nil, Nat.zero_add, List.nil_append] at hv hb
              cases hv
              have hr := src.grow (some ad) 0 0 #[] (by simp) (by rw [Nat.zero_add]; exact hb) hb0 (fun w2 _ => by simp [Builtin.firstCells, loadCells, loadCellsFrom])
              rw [Nat.zero_add, Array.empty_append] at hr
              exact Snd.grown i hn (hx _ _ hr) hnews rfl (grownCap_ge ..) hzv
            · cases hv
          · cases hv
      subst e1
      cases xs with
      | nil =>
        simp only at hv
        cases hv
        have hnil : news = #[] := by have := hnews.size; simp at this; exact this
        subst hnil
        refine Snd.quiet i (hx _ _ ?_) hs nid
        rw [src.room _ _ _ (by simp; exact hcap)]
        simp [storeCells]
      | cons x0 xr =>
        simp only at hv
        split at hv
        · rename_i hext
          simp only [Pav.newRow] at hv
          split at hv
          · rename_i hb
            cases hv
            have hce := hex hext
            subst hce
            have hr0 : RowsAt ψ w S m A z' es b off := ⟨hw, fun k e j y q1 q2 => by
              obtain ⟨q3, q4⟩ := hcell k e j y q1 q2
              exact ⟨q3, f k j, by rw [← Nat.add_assoc]; exact q4, (hrep k e j y q1 q2).open_⟩⟩
            obtain ⟨vs, q1, q2⟩ := hr0.load (P := P) hz0 (Nat.le_refl _)
            rw [List.take_of_length_le (Nat.le_refl _)] at q2
            have hr := src.grow (some ⟨b, off, none⟩) es.length es.length vs (by simp) hb hb0 (fun w2 hw2 => by simp only [Builtin.firstCells]; exact q1 w2 hw2)
            exact Snd.grown i hn (hx _ _ hr) (q2.append hz0 hnews) (by simp) (grownCap_ge ..) hzv
          · cases hv
        · cases hv
    · cases hv
  · -- the frame's own
    rename_i b z' k len cap ex
    split at hv
    · rename_i hzz
      subst hzz
      obtain ⟨cc, e1, hA, hmz, hlen, hcap, hex, cur, tt, fr, hrow, hsz⟩ := hs.inv_sl
      subst e1
      cases xs with
      | nil =>
        simp only at hv
        cases hv
        have hnil : news = #[] := by have := hnews.size; simp at this; exact this
        subst hnil
        refine Snd.quiet i (hx _ _ ?_) hs nid
        rw [src.room _ _ _ (by simp; exact hlen)]
        simp [storeCells]
      | cons x0 xr =>
        simp only [appSl] at hv
        split at hv
        · rename_i zb es mu hb
          split at hv
          · rename_i hzb
            subst hzb
            have hone := hnews.one
            have hxl : (x0 :: xr).length = xr.length + 1 := rfl
            split at hv
            · rename_i hle
              split at hv
              · rename_i hc
                obtain ⟨rfl, hfit⟩ := hc
                cases hv
                have hkl : k + len + (x0 :: xr).length ≤ es.length := by omega
                have key := Snd.overwrite (P := P) (x := x) (k := k + len) i hb hkl hnews (cv := .slice (some ⟨(m b).1, k * zb, none⟩) (len + (x0 :: xr).length) cc) (v := .sl b zb k (len + (x0 :: xr).length) cap ex) (fun c t' hc hsz' => ?_) (fun le => ?_) nid
                · rw [show k + (len + (x0 :: xr).length) = k + len + (x0 :: xr).length by omega]
                  exact key
                · refine hx _ _ ?_
                  rw [src.room _ _ _ (by omega)]
                  have hmul := Nat.mul_le_mul_right zb hkl
                  rw [Nat.add_mul, Nat.add_mul, ← hnews.size] at hmul
                  have hst := run_storeCells_at P (m b).1 (k * zb + len * zb) t' news.toList 0 c w hc (by simp; omega) hone
                  simp only [Nat.add_zero] at hst
                  rw [Nat.add_mul]
                  simp only [add_row, hst, Result.andThen_ok]
                · have := hs.mono le
                  obtain ⟨cc', e2, q1, q2, q3, q4, q5, q6⟩ := this.inv_sl
                  cases e2
                  exact .sl b zb k _ cap ex cc q1 q2 (by omega) q4 q5 q6
              · cases hv
            · rename_i hgt
              split at hv
              · rename_i hext
                split at hv
                · rename_i hfit
                  simp only [Pav.newRow] at hv
                  split at hv
                  · rename_i hbb
                    cases hv
                    have hce := hex hext
                    obtain ⟨_, hr0⟩ := i.rowsAt (k := k) (len := len) hb
                    have hl : ((es.drop k).take len).length = len := by simp; omega
                    obtain ⟨vs, q1, q2⟩ := hr0.load (P := P) hz0 (n := len) (by omega)
                    rw [List.take_of_length_le (by omega)] at q2
                    have hr := src.grow (some ⟨(m b).1, k * zb, none⟩) len cc vs (by omega) hbb hb0 (fun w2 hw2 => by simp only [Builtin.firstCells]; exact q1 w2 hw2)
                    exact Snd.grown i hn (hx _ _ hr) (q2.append hz0 hnews) (by simp; omega) (grownCap_ge ..) hzv
                  · cases hv
                · cases hv
              · rename_i hnex
                split at hv
                · rename_i hc
                  obtain ⟨rfl, rfl, hel, hbb⟩ := hc
                  subst hel
                  cases hv
                  have hexf : ex = false := by simpa using hnex
                  subst hexf
                  exact app_own i hn hz0 hzv hb0 hx src hnews hs hb hbb
                · cases hv
          · cases hv
        · cases hv
    · cases hv

theorem app_ok (cx : Cx P φ ψ N w0 w S m A h e a) {c : Call} (ho : o.op = .call c) (hb : c.callee = .builtin .append) : Ok P φ ψ N w0 w S m A h e a o := by
  intro cop v up nid hc hs hn
  rw [ho] at hc
  simp only [cOp, hb, cBuiltin] at hc
  unfold cAppend at hc
  split at hc
  · rename_i S0 X t u hargs htys
    simp only [Option.bind_eq_bind, Option.bind_eq_some_iff] at hc
    obtain ⟨s, hsx, x, hx, d, hd, hc⟩ := hc
    have hS := cx.opd hsx
    have hX := cx.opd hx
    have ea := arr2 hargs
    have et := arr2 htys
    have hex : ∀ w' v, (Builtin.append_ #[t, u] o.type #[a.eval S0, a.eval X]).run P w = .ok v w' → (execOp a.eval o).run P w = .ok (.value v) w' := by
      intro w' v hr
      rw [call_builtin (s := Builtin.append_ #[t, u] o.type #[a.eval S0, a.eval X]) ho hb (fun _ => by rw [ea, et]; simp [builtin])]
      simp [hr]
    split at hc
    · rename_i el
      simp only [Option.bind_eq_some_iff] at hc
      obtain ⟨z, hz, it, hit, hc⟩ := hc
      split at hc
      · cases hc
      · rename_i hne
        obtain ⟨it', zv, hit', hzv, z1, z2, z3, z4⟩ := zeroCells_some (ψ := ψ) (w := w) (S := S) (m := m) (A := A) hz
        rw [hit] at hit'
        cases hit'
        have hz0 : 0 < z.length := Nat.pos_of_ne_zero fun q => hne (.inl q)
        have hb0 : it.bytes ≠ 0 := fun q => hne (.inr q)
        simp only [Option.bind_eq_some_iff] at hc
        obtain ⟨du, hdu, hc⟩ := hc
        have plain : (∀ k, du ≠ .int k) → cop = .app z it.bytes false s x → Snd P ψ N w0 w S m A (execOp a.eval o) (applyUpd h up) v nid := by
          intro hno hcop
          subst hcop
          simp only [stepOp, sApp, Bool.false_eq_true, if_false] at hs
          obtain ⟨xs, hxs, hs'⟩ := ob_some hs
          obtain ⟨q1, q2⟩ := elems_run (P := P) cx.inv hz0 hX hxs
          obtain ⟨news, q3, q4⟩ := q2 xs.length (Nat.le_refl _)
          rw [List.take_of_length_le (Nat.le_refl _)] at q4
          exact app_run cx.inv hn hz0 z1 hb0 hex (src_plain hd hdu hno hit z2 hzv q1 q3) q4 hS hs'
        split at hc
        · cases hc
          simp only [stepOp, sApp, if_true] at hs
          split at hs
          · rename_i k n ei
            obtain ⟨n', hn', hs'⟩ := ob_some hs
            cases nat?_some hn'
            replace hs := hs'; clear hs'
            split at hs
            · rename_i hbb
              rw [ei] at hX
              have eX := hX.inv_int
              have src := src_zeros (P := P) (w := w) (t := t) (u := u) (ty := o.type) (k := k) hd hdu hit z2 (Nat.pos_iff_ne_zero.1 hz0) hzv z1 hbb
              rw [← eX] at src
              have hl : (List.replicate n' z).length = n' := by simp
              have src' : Src P w t u o.type el it z.length zv (a.eval X) (List.replicate n' z).length (Builtin.zeroCells zv.cells n') := by rw [hl]; exact src
              exact app_run cx.inv hn hz0 z1 hb0 hex src' (zeroCells_EsR z1 z3 z4 n') hS hs
            · cases hs
          · cases hs
        · cases hc; exact plain (fun k q => by cases q) rfl
        · cases hc; exact plain (fun k q => by cases q) rfl
        · cases hc
    · cases hc
  · cases hc

theorem cpy_ok (cx : Cx P φ ψ N w0 w S m A h e a) {c : Call} (ho : o.op = .call c) (hb : c.callee = .builtin .copy) : Ok P φ ψ N w0 w S m A h e a o := by
  intro cop v up nid hc hs hn
  rw [ho] at hc
  simp only [cOp, hb, cBuiltin] at hc
  unfold cCopy at hc
  split at hc
  · rename_i D X t u hargs htys
    simp only [Option.bind_eq_bind, Option.bind_eq_some_iff] at hc
    obtain ⟨dd, hdx, x, hx, d, hd, hc⟩ := hc
    have hD := cx.opd hdx
    have hX := cx.opd hx
    have ea := arr2 hargs
    have et := arr2 htys
    have hex : ∀ w' v, (Builtin.copy_ #[t, u] o.type #[a.eval D, a.eval X]).run P w = .ok v w' → (execOp a.eval o).run P w = .ok (.value v) w' := by
      intro w' v hr
      rw [call_builtin (s := Builtin.copy_ #[t, u] o.type #[a.eval D, a.eval X]) ho hb (fun _ => by rw [ea, et]; simp [builtin])]
      simp [hr]
    split at hc
    · rename_i el
      simp only [Option.bind_eq_some_iff] at hc
      obtain ⟨z, hz, hc⟩ := hc
      split at hc
      · cases hc
      · rename_i hz0
        cases hc
        simp only [stepOp, sCpy] at hs
        obtain ⟨xs, hxs, hs'⟩ := ob_some hs
        replace hs := hs'; clear hs'
        obtain ⟨q1, q2⟩ := elems_run (P := P) cx.inv (Nat.pos_of_ne_zero hz0) hX hxs
        have run : ∀ base dLen dCap news n, n = Nat.min xs.length dLen → a.eval D = .slice base dLen dCap → (∀ w2 : World, w2.heap = w.heap → (Builtin.firstCells z n (a.eval X)).run P w2 = .ok news w2) →
            (Builtin.copy_ #[t, u] o.type #[a.eval D, a.eval X]).run P w = (match base with | some ad => ((storeCells ad news.toList).run P w).andThen fun _ w' => .ok (.int .i64 (n : Int)) w' | none => .ok (.int .i64 (n : Int)) w) := by
          intro base dLen dCap news n hn e1 hf
          have hf0 := hf w rfl
          rw [e1]
          unfold Builtin.copy_
          simp only [List.getElem?_toArray, List.getElem?_cons_zero, List.getElem?_cons_succ, Sem.run_bind, run_underlying hd, Result.andThen_ok, q1, sizeOf_run hz]
          rw [← hn]
          clear hn
          cases base
          · simp only [Sem.run_bind, hf0, Result.andThen_ok, Sem.run_pure]; rfl
          · simp only [Sem.run_bind, hf0, Result.andThen_ok, Sem.run_pure]; rfl
        cases hxv : dd.ev e <;> rw [hxv] at hs hD <;> simp only [copyIn] at hs <;> try (cases hs; done)
        · cases hs
          have e1 := hD.inv_nils
          obtain ⟨news, q3, q4⟩ := q2 (min xs.length 0) (Nat.min_le_left _ _)
          have hr := run none 0 0 news 0 (by simp) e1 (by simpa using q3)
          exact Snd.quiet cx.inv (hex _ _ hr) (.int _ _) nid
        · rename_i z' es ex
          cases es with
          | cons _ _ => cases hs
          | nil =>
            cases hs
            obtain ⟨ad, cap, e1⟩ : ∃ (ad : Addr) (cap : Nat), _ = Value.slice (some ad) 0 cap := by
              rcases hD.inv_ro with ⟨b, off, cap, _, e1, _⟩ | ⟨_, ad, e1⟩
              · exact ⟨_, _, e1⟩
              · exact ⟨_, _, e1⟩
            obtain ⟨news, q3, q4⟩ := q2 (min xs.length 0) (Nat.min_le_left _ _)
            have hr := run _ _ _ news 0 (by simp) e1 (by simpa using q3)
            have hnil : news = #[] := by have := q4.size; simp at this; exact this
            subst hnil
            simp only [storeCells, Sem.run_pure, Result.andThen_ok] at hr
            exact Snd.quiet cx.inv (hex _ _ hr) (.int _ _) nid
        · rename_i b z' k len cap ex
          split at hs
          · rename_i hzz
            subst hzz
            obtain ⟨cc, e1, hA, hmz, _⟩ := hD.inv_sl
            obtain ⟨news, q3, q4⟩ := q2 (min xs.length len) (Nat.min_le_left _ _)
            have hr := run _ _ _ news _ rfl e1 q3
            simp only at hr
            rw [show Nat.min xs.length len = min xs.length len from rfl] at hr
            split at hs
            · rename_i h0
              cases hs
              rw [h0] at q4
              have hnil : news = #[] := by have := q4.size; simp at this; exact this
              subst hnil
              rw [h0] at hr
              simp only [storeCells, Sem.run_pure, Result.andThen_ok] at hr
              exact Snd.quiet cx.inv (hex _ _ hr) (.int _ _) nid
            · unfold copyTo at hs
              split at hs
              · rename_i zb es mu hb'
                split at hs
                · rename_i hcc
                  obtain ⟨rfl, rfl, hfit⟩ := hcc
                  cases hs
                  have hl : (xs.take (min xs.length len)).length = min xs.length len := by simp
                  have hkl : k + (xs.take (min xs.length len)).length ≤ es.length := by rw [hl]; omega
                  have key := Snd.overwrite (P := P) (x := execOp a.eval o) (k := k) cx.inv hb' hkl q4 (cv := .int .i64 ((min xs.length len : Nat) : Int)) (v := .int .i64 ((min xs.length len : Nat) : Int)) (fun c' t' hc hsz' => ?_) (fun _ => .int _ _) nid
                  · rw [hl] at key
                    exact key
                  · have hmul := Nat.mul_le_mul_right zb hkl
                    rw [Nat.add_mul, ← q4.size] at hmul
                    have hst := run_storeCells_at P (m b).1 (k * zb) t' news.toList 0 c' w hc (by simp; omega) q4.one
                    simp only [Nat.add_zero] at hst
                    rw [hst] at hr
                    exact hex _ _ hr
                · cases hs
              · cases hs
          · cases hs
    · cases hc
  · cases hc

end
end Go.Pav
