/- Soundness: writes, and what is built of parts. -/
import Derived.Test.YtebbokkffdjpdaaPavSnd2
namespace Go.Pav
open Go

theorem row_lt {i k j z : Nat} (h : i < k) (hj : j < z) : i * z + j < k * z := by
  have := Nat.mul_le_mul_right z (show i + 1 ≤ k from h)
  rw [Nat.add_mul, Nat.one_mul] at this
  omega

section
variable {P : Program} {φ : FuncId → Option Nat} {ψ : Nat → FuncId} {N : Nat} {w0 w : World} {S : Nat → Prop} {m : Nat → Nat × Nat} {A : Nat → Prop} {h : Heap} {e : Env} {a : Act}

theorem seg_get {c : Array Value} {p : Nat} {vs : List Value} (hp : p + vs.length ≤ c.size) (q : Nat) :
    (c.toList.take p ++ vs ++ c.toList.drop (p + vs.length)).toArray[q]? = if p ≤ q ∧ q < p + vs.length then vs[q - p]? else c[q]? := by
  have hl : c.toList.length = c.size := by simp
  simp only [List.getElem?_toArray, List.getElem?_append, List.length_append, List.length_take, List.getElem?_take, List.getElem?_drop, hl]
  have hm : min p c.size = p := by omega
  rw [hm]
  by_cases h1 : q < p
  · have : ¬ (p ≤ q ∧ q < p + vs.length) := by omega
    rw [if_neg this, if_pos (by omega), if_pos h1, if_pos h1]
    simp
  · by_cases h2 : q < p + vs.length
    · have h3 : p ≤ q ∧ q < p + vs.length := ⟨by omega, h2⟩
      rw [if_pos h2, if_neg h1, if_pos h3]
    · have : ¬ (p ≤ q ∧ q < p + vs.length) := by omega
      rw [if_neg this, if_neg h2]
      rw [show p + vs.length + (q - (p + vs.length)) = q by omega]
      simp

theorem seg_size {c : Array Value} {p : Nat} {vs : List Value} (hp : p + vs.length ≤ c.size) : (c.toList.take p ++ vs ++ c.toList.drop (p + vs.length)).toArray.size = c.size := by
  have hl : c.toList.length = c.size := by simp
  simp only [List.size_toArray, List.length_append, List.length_take, List.length_drop, hl]
  omega

/-- A block's cells are written, in a row. -/
theorem Snd.write {x : Sem Next} (i : Inv ψ N w0 w S m A h) {b z : Nat} {es es' : List (List AV)} (hb : get h b = some (.cells z es true)) {p : Nat} {vs : List Value}
    (hp : p + vs.length ≤ es.length * z) {cv : Value} {v : AV}
    (hr : ∀ (c : Array Value) (t : TypeId), w.heap[(m b).1]? = some (.cells c t (0, 0)) → es.length * z ≤ c.size →
      (x.run P w = .ok (.value cv) (w.setRow (m b).1 (c.toList.take p ++ vs ++ c.toList.drop (p + vs.length)).toArray) ∨
        (x.run P w = .ok .skip (w.setRow (m b).1 (c.toList.take p ++ vs ++ c.toList.drop (p + vs.length)).toArray) ∧ cv = Go.undef)))
    (hl : es'.length = es.length) (hz : ∀ (k : Nat) (e : List AV), es'[k]? = some e → e.length = z)
    (hc : ∀ (k : Nat) (e : List AV) (j : Nat) (x : AV), es'[k]? = some e → e[j]? = some x →
      (p ≤ k * z + j ∧ k * z + j < p + vs.length ∧ x.cell = true ∧ ∃ u, vs[k * z + j - p]? = some u ∧ VR ψ w S m A x u) ∨
      (¬ (p ≤ k * z + j ∧ k * z + j < p + vs.length) ∧ ∃ e', es[k]? = some e' ∧ e'[j]? = some x))
    (hv : ∀ {w' : World}, Le w S m A w' S m A → VR ψ w' S m A v cv) (nid : Nat) :
    Snd P ψ N w0 w S m A x (put h b (.cells z es' true)) v nid := by
  obtain ⟨h0, h1, c, t, h2, h3, h4⟩ := i.obj b _ hb
  have hp' : p + vs.length ≤ c.size := Nat.le_trans hp h3
  have hg := i.live b _ hb rfl
  have hrow : ∀ c' t' fr, w.heap[(m b).1]? = some (.cells c' t' fr) → ∃ c'', (w.setRow (m b).1 (c.toList.take p ++ vs ++ c.toList.drop (p + vs.length)).toArray).heap[(m b).1]? = some (.cells c'' t' fr) ∧ c''.size = c'.size := by
    intro c' t' fr hc'
    rw [h2] at hc'
    cases hc'
    exact ⟨_, setRow_heap w _ c _ t (0, 0) h2, seg_size hp'⟩
  have le : Le w S m A (w.setRow (m b).1 (c.toList.take p ++ vs ++ c.toList.drop (p + vs.length)).toArray) S m A :=
    Le.write hg.1 (fun k hk => setRow_other w _ k _ hk) (by simp) hrow
  refine ⟨cv, _, m, A, hr c t h2 h3, hv le, ?_, le, fun _ hb => .inl hb⟩
  refine i.write hb rfl rfl (fun k hk => setRow_other w _ k _ hk) (by simp) rfl rfl hrow ?_
  refine ⟨h0, hz, _, t, setRow_heap w _ c _ t (0, 0) h2, by rw [seg_size hp', hl]; exact h3, fun k e j x hk hx => ?_⟩
  rcases hc k e j x hk hx with ⟨q1, q2, q3, u, q4, q5⟩ | ⟨q1, e', q2, q3⟩
  · refine ⟨q3, u, ?_, q5.mono le⟩
    rw [seg_get hp', if_pos ⟨q1, q2⟩]
    exact q4
  · obtain ⟨h5, u, h6, h7⟩ := h4 k e' j x q2 q3
    refine ⟨h5, u, ?_, h7.mono le⟩
    rw [seg_get hp', if_neg q1]
    exact h6

theorem length_splice {cs v : List AV} {o : Nat} (hl : o + v.length ≤ cs.length) : (splice cs o v).length = cs.length := by
  unfold splice
  simp only [List.length_append, List.length_take, List.length_drop]
  omega

theorem splice_get {cs v : List AV} {o : Nat} (hl : o + v.length ≤ cs.length) (j : Nat) :
    (splice cs o v)[j]? = if o ≤ j ∧ j < o + v.length then v[j - o]? else cs[j]? := by
  unfold splice
  simp only [List.getElem?_append, List.length_take, List.getElem?_take, List.getElem?_drop]
  have hm : min o cs.length = o := by omega
  rw [hm]
  by_cases h1 : j < o
  · have : ¬ (o ≤ j ∧ j < o + v.length) := by omega
    rw [if_neg this, if_pos h1, if_pos h1]
  · by_cases h2 : j < o + v.length
    · rw [if_neg h1, if_pos (by omega), if_pos ⟨by omega, h2⟩]
    · have : ¬ (o ≤ j ∧ j < o + v.length) := by omega
      rw [if_neg h1, if_neg (by omega), if_neg this]
      congr 1
      omega

theorem sStore_snd {n : Nat} {p xv : AV} {cp cx : Value} {t : TypeId} {v : AV} {u : Upd} {o : Oper} {pa pv : Operand} (i : Inv ψ N w0 w S m A h) (ho : o.op = .store t pa pv)
    (hpa : a.eval pa = cp) (hpv : a.eval pv = cx) (hp : VR ψ w S m A p cp) (hx : VR ψ w S m A xv cx)
    (hs : sizeT P t = some n) (hl : (if xv.cells.length = n ∧ xv.cells.all AV.cell = true then storeOf n h xv.cells p else none) = some (v, u)) (nid : Nat) : Snd P ψ N w0 w S m A (execOp a.eval o) (applyUpd h u) v nid := by
  split at hl
  · rename_i hc
    obtain ⟨hn, hall⟩ := hc
    obtain ⟨q1, q2, q3⟩ := hx.cells hall
    cases p with
    | ptr b k off =>
      obtain ⟨hA, rfl⟩ := hp.inv_ptr
      simp only [storeOf, storeAt] at hl
      split at hl
      · rename_i z es mu hb
        split at hl
        · rename_i hmu
          subst hmu
          obtain ⟨cs, hk, hl⟩ := ob_some hl
          split at hl
          · rename_i hfit
            cases hl
            obtain ⟨h0, h1, _⟩ := i.obj b _ hb
            have hcz := h1 k cs hk
            have hkl : k < es.length := (List.getElem?_eq_some_iff.1 hk).1
            have hle : (k + 1) * z ≤ es.length * z := Nat.mul_le_mul_right z hkl
            rw [Nat.add_mul, Nat.one_mul] at hle
            have hvl : cx.cells.toList.length = n := by simp [q1, hn]
            have hfit' : off + xv.cells.length ≤ cs.length := by omega
            refine Snd.write (z := z) (p := k * z + off) (vs := cx.cells.toList) (cv := Go.undef) i hb (by omega) (fun c t' hc hsz => .inr ⟨?_, rfl⟩) (by simp) (fun k' e' he => ?_) (fun k' e' j y he hy => ?_) (fun _ => .tup [] #[] rfl (by simp)) nid
            · have hst := run_storeCells_at P (m b).1 (k * z + off) t' cx.cells.toList 0 c w hc (by simp only [hvl]; omega) q3
              have h0' : (m b).2 = z := h0
              simp only [execOp, ho, hpa, hpv, Instr.storeAt, Instr.sureAddr, storeVar, h0', Sem.run_bind, Sem.run_pure, Result.andThen_ok, sizeOf_run hs, Sem.run_ite, run_stuck]
              rw [if_neg (by simp [q1, hn])]
              simp only [Nat.add_zero] at hst
              simp [hst]
            · rw [List.getElem?_set] at he
              by_cases hkk : k = k'
              · subst hkk
                rw [if_pos rfl, if_pos hkl] at he
                cases he; rw [length_splice hfit']; exact hcz
              · rw [if_neg hkk] at he; exact h1 k' e' he
            · rw [List.getElem?_set] at he
              by_cases hkk : k = k'
              · subst hkk
                rw [if_pos rfl, if_pos hkl] at he
                cases he
                rw [splice_get hfit'] at hy
                by_cases hr : off ≤ j ∧ j < off + xv.cells.length
                · rw [if_pos hr] at hy
                  left
                  refine ⟨by omega, by omega, ?_, cx.cells.getD (j - off) Go.undef, ?_, q2 _ _ hy⟩
                  · exact List.all_eq_true.1 hall _ (List.mem_of_getElem? hy)
                  · rw [show k * z + j - (k * z + off) = j - off by omega]
                    have hjs : j - off < cx.cells.size := by omega
                    rw [Array.getElem?_toList]
                    exact getElem?_of_getD hjs
                · rw [if_neg hr] at hy
                  right
                  refine ⟨by omega, cs, hk, hy⟩
              · rw [if_neg hkk] at he
                right
                have hj : j < z := by rw [← h1 k' e' he]; exact (List.getElem?_eq_some_iff.1 hy).1
                refine ⟨?_, e', he, hy⟩
                rcases Nat.lt_or_gt_of_ne hkk with hlt | hgt
                · have := Nat.mul_le_mul_right z (show k + 1 ≤ k' from hlt)
                  rw [Nat.add_mul, Nat.one_mul] at this
                  omega
                · have := row_lt hgt hj
                  omega
          · cases hl
        · cases hl
      · cases hl
    | _ => cases hl
  · cases hl

end
end Go.Pav
