/- Soundness: append and copy. -/
import Derived.Test.YtebbokkffdjpdaaPavSnd9
namespace Go.Pav
open Go

section
variable {P : Program} {φ : FuncId → Option Nat} {ψ : Nat → FuncId} {N : Nat} {w0 w : World} {S : Nat → Prop} {m : Nat → Nat × Nat} {A : Nat → Prop} {h : Heap} {e : Env} {a : Act} {o : Oper}

/-- Elements that lie in a row. -/
structure RowsAt (ψ : Nat → FuncId) (w : World) (S : Nat → Prop) (m : Nat → Nat × Nat) (A : Nat → Prop) (z : Nat) (es : List (List AV)) (g off : Nat) : Prop where
  wide : ∀ (k : Nat) (e : List AV), es[k]? = some e → e.length = z
  cell : ∀ (k : Nat) (e : List AV) (j : Nat) (x : AV), es[k]? = some e → e[j]? = some x → x.cell = true ∧ ∃ u, w.cell? ⟨g, off + (k * z + j), none⟩ = some u ∧ VR ψ w S m A x u

theorem RowsAt.load {z : Nat} {es : List (List AV)} {g off : Nat} (hr : RowsAt ψ w S m A z es g off) (hz : 0 < z) {n : Nat} (hn : n ≤ es.length) :
    ∃ vs, (∀ w2 : World, w2.heap = w.heap → (loadCells ⟨g, off, none⟩ (n * z)).run P w2 = .ok vs w2) ∧ EsR ψ w S m A z (es.take n) vs := by
  have key : ∀ q, q < n * z → ∃ u, w.cell? ⟨g, off + q, none⟩ = some u := by
    intro q hq
    have hk : q / z < n := Nat.div_lt_of_lt_mul (by rw [Nat.mul_comm]; exact hq)
    have hj : q % z < z := Nat.mod_lt _ hz
    have he : es[q / z]? = some es[q / z] := List.getElem?_eq_getElem (by omega)
    have hw := hr.wide _ _ he
    obtain ⟨_, u, h2, _⟩ := hr.cell _ _ (q % z) _ he (List.getElem?_eq_getElem (by omega))
    rw [Nat.mul_comm, Nat.div_add_mod] at h2
    exact ⟨u, h2⟩
  refine ⟨((List.range (n * z)).map fun q => (w.cell? ⟨g, off + q, none⟩).getD Go.undef).toArray, fun w2 hw2 => ?_, ?_, ?_, ?_⟩
  · refine run_loadCells w2 ⟨g, off, none⟩ (n * z) _ fun q hq => ?_
    obtain ⟨u, hu⟩ := key q hq
    rw [add_row, hu]
    have : w2.cell? ⟨g, off + q, none⟩ = w.cell? ⟨g, off + q, none⟩ := World.cell?_of_block (by rw [hw2])
    rw [this, hu]; rfl
  · simp; rw [Nat.min_eq_left hn]
  · intro k e he
    rw [List.getElem?_take] at he
    split at he
    · exact hr.wide k e he
    · cases he
  · intro k e j x he hx
    rw [List.getElem?_take] at he
    split at he
    · rename_i hk
      obtain ⟨h1, u, h2, h3⟩ := hr.cell k e j x he hx
      have hj : j < z := by rw [← hr.wide k e he]; exact (List.getElem?_eq_some_iff.1 hx).1
      have hlt := row_lt hk hj
      refine ⟨h1, ?_⟩
      rw [Array.getD_eq_getD_getElem?]
      simp only [List.getElem?_toArray, List.getElem?_map, List.getElem?_range hlt, Option.map_some, Option.getD_some, h2]
      exact h3
    · cases he

theorem Inv.rowsAt (i : Inv ψ N w0 w S m A h) {b z k len : Nat} {es : List (List AV)} {mu : Bool} (hb : get h b = some (.cells z es mu)) :
    (m b).2 = z ∧ RowsAt ψ w S m A z ((es.drop k).take len) (m b).1 (k * z) := by
  obtain ⟨h0, h1, c, t, h2, h3, h4⟩ := i.obj b _ hb
  have get : ∀ (q : Nat) (e : List AV), ((es.drop k).take len)[q]? = some e → es[k + q]? = some e := by
    intro q e he
    rw [List.getElem?_take] at he
    split at he
    · rwa [List.getElem?_drop] at he
    · cases he
  refine ⟨h0, fun q e he => h1 _ e (get q e he), fun q e j x he hx => ?_⟩
  obtain ⟨h5, u, h6, h7⟩ := h4 _ e j x (get q e he) hx
  refine ⟨h5, u, ?_, h7⟩
  rw [cell_of_row w _ _ c t _ h2, ← h6]
  congr 1
  rw [Nat.add_mul]
  omega

/-- What is appended or copied, as the model reads it. -/
theorem elems_run (i : Inv ψ N w0 w S m A h) {z : Nat} (hz : 0 < z) {xv : AV} {c : Value} (hx : VR ψ w S m A xv c) {xs : List (List AV)} (he : elems h z xv = some xs) :
    (Builtin.lenOf c).run P w = .ok xs.length w ∧ ∀ n, n ≤ xs.length → ∃ vs, (∀ w2 : World, w2.heap = w.heap → (Builtin.firstCells z n c).run P w2 = .ok vs w2) ∧ EsR ψ w S m A z (xs.take n) vs := by
  cases xv <;> simp only [elems] at he <;> try (cases he; done)
  · rename_i s
    split at he
    · rename_i hz1
      subst hz1
      cases he
      rw [hx.inv_str]
      have hsz : (⟨⟨s⟩⟩ : ByteArray).size = s.length := rfl
      refine ⟨by simp [Builtin.lenOf, hsz], fun n hn => ?_⟩
      rw [List.length_map] at hn
      refine ⟨((s.take n).map fun b => Value.int .u8 b.toNat).toArray, fun w2 _ => ?_, ?_, ?_, ?_⟩
      · have hd : ((⟨⟨s⟩⟩ : ByteArray).extract 0 n).data = ⟨s.take n⟩ := by
          rw [ByteArray.data_extract]
          apply Array.ext'
          simp [List.extract_eq_take_drop]
        simp only [Builtin.firstCells, hd, Sem.run_pure]
        congr 1
        apply Array.ext'
        simp
      · simp
      · intro k e he
        simp only [List.getElem?_take, List.getElem?_map] at he
        split at he
        · simp only [Option.map_eq_some_iff] at he
          obtain ⟨b, _, rfl⟩ := he
          rfl
        · cases he
      · intro k e j x he hx
        simp only [List.getElem?_take, List.getElem?_map] at he
        split at he
        · rename_i hk
          simp only [Option.map_eq_some_iff] at he
          obtain ⟨b, hb, rfl⟩ := he
          cases j with
          | succ j => simp at hx
          | zero =>
            simp only [List.getElem?_cons_zero, Option.some.injEq] at hx
            subst hx
            refine ⟨rfl, ?_⟩
            rw [Array.getD_eq_getD_getElem?]
            simp only [Nat.mul_one, Nat.add_zero, List.getElem?_toArray, List.getElem?_map, List.getElem?_take, if_pos hk, hb, Option.map_some, Option.getD_some]
            exact .int _ _
        · cases he
    · cases he
  · cases he
    rw [hx.inv_nils]
    refine ⟨by simp [Builtin.lenOf], fun n hn => ?_⟩
    simp only [List.length_nil, Nat.le_zero_eq] at hn
    subst hn
    exact ⟨#[], fun w2 _ => by simp [Builtin.firstCells], ⟨by simp, by simp, by simp⟩⟩
  · rename_i z' es ex
    split at he
    · rename_i hzz
      subst hzz
      cases he
      rcases hx.inv_ro with ⟨b, off, cap, cs, e1, hS, hw, hcap, hex, hcell, hrep⟩ | ⟨rfl, ad, e1⟩
      case inr =>
        rw [e1]
        refine ⟨by simp [Builtin.lenOf], fun n hn => ?_⟩
        obtain rfl : n = 0 := by simpa using hn
        exact ⟨#[], fun w2 _ => by simp [Builtin.firstCells, loadCells, loadCellsFrom], ⟨by simp, by simp, by simp⟩⟩
      rw [e1]
      refine ⟨by simp [Builtin.lenOf], fun n hn => ?_⟩
      have hr : RowsAt ψ w S m A z' xs b off := ⟨hw, fun k e j x q1 q2 => by
        obtain ⟨q3, q4⟩ := hcell k e j x q1 q2
        exact ⟨q3, cs k j, by rw [← Nat.add_assoc]; exact q4, (hrep k e j x q1 q2).open_⟩⟩
      obtain ⟨vs, q1, q2⟩ := hr.load (P := P) hz hn
      exact ⟨vs, fun w2 hw2 => by simp only [Builtin.firstCells]; exact q1 w2 hw2, q2⟩
    · cases he
  · rename_i b z' k len cap ex
    split at he
    · rename_i hzz
      subst hzz
      split at he
      · rename_i zb es mu hb
        split at he
        · rename_i hfit
          cases he
          obtain ⟨cc, e1, hA, hmz, _⟩ := hx.inv_sl
          obtain ⟨h0, hr⟩ := i.rowsAt (k := k) (len := len) hb
          have hzb : zb = z' := by rw [← h0, hmz]
          subst hzb
          have hl : ((es.drop k).take len).length = len := by simp; omega
          rw [e1]
          refine ⟨by simp [Builtin.lenOf, hl], fun n hn => ?_⟩
          obtain ⟨vs, q1, q2⟩ := hr.load (P := P) hz hn
          exact ⟨vs, fun w2 hw2 => by simp only [Builtin.firstCells]; exact q1 w2 hw2, q2⟩
        · cases he
      · cases he
    · cases he

theorem EsR.one {z : Nat} {es : List (List AV)} {vs : Array Value} (hr : EsR ψ w S m A z es vs) : ∀ u ∈ vs.toList, u.oneCell' = true := by
  intro u hu
  obtain ⟨q, hq, e1⟩ := List.getElem_of_mem hu
  have hqs : q < vs.size := by simpa using hq
  have hsz := hr.size
  by_cases hz : z = 0
  · subst hz; rw [Nat.mul_zero] at hsz; omega
  · have hk : q / z < es.length := Nat.div_lt_of_lt_mul (by rw [Nat.mul_comm, ← hsz]; exact hqs)
    have hj : q % z < z := Nat.mod_lt _ (Nat.pos_of_ne_zero hz)
    have he : es[q / z]? = some es[q / z] := List.getElem?_eq_getElem hk
    have hw := hr.wide _ _ he
    obtain ⟨h1, h2⟩ := hr.cell _ _ (q % z) _ he (List.getElem?_eq_getElem (by omega))
    have h3 := h2.one h1
    rw [Nat.mul_comm, Nat.div_add_mod] at h3
    have : vs.getD q Go.undef = u := by simp only [Array.getD, hqs, dif_pos]; simpa using e1
    rwa [this] at h3

/-- Elements of a row that are overwritten by others. -/
theorem Snd.overwrite {x : Sem Next} (i : Inv ψ N w0 w S m A h) {b z k : Nat} {es xs : List (List AV)} (hb : get h b = some (.cells z es true)) (hk : k + xs.length ≤ es.length) {vs : Array Value} (hx : EsR ψ w S m A z xs vs)
    {cv : Value} {v : AV}
    (hr : ∀ (c : Array Value) (t : TypeId), w.heap[(m b).1]? = some (.cells c t (0, 0)) → es.length * z ≤ c.size →
      x.run P w = .ok (.value cv) (w.setRow (m b).1 (c.toList.take (k * z) ++ vs.toList ++ c.toList.drop (k * z + vs.toList.length)).toArray))
    (hv : ∀ {w' : World}, Le w S m A w' S m A → VR ψ w' S m A v cv) (nid : Nat) :
    Snd P ψ N w0 w S m A x (put h b (.cells z (es.take k ++ (xs ++ es.drop (k + xs.length))) true)) v nid := by
  obtain ⟨h0, h1, _⟩ := i.obj b _ hb
  have hvl : vs.toList.length = xs.length * z := by simp [hx.size]
  have hmul := Nat.mul_le_mul_right z hk
  rw [Nat.add_mul] at hmul
  have get : ∀ (q : Nat) (e : List AV), (es.take k ++ (xs ++ es.drop (k + xs.length)))[q]? = some e → (q < k ∧ es[q]? = some e) ∨ (k ≤ q ∧ q < k + xs.length ∧ xs[q - k]? = some e) ∨ (k + xs.length ≤ q ∧ es[q]? = some e) := by
    intro q e he
    simp only [List.getElem?_append, List.length_take, List.getElem?_take, List.getElem?_drop] at he
    have hm : min k es.length = k := by omega
    rw [hm] at he
    by_cases q1 : q < k
    · rw [if_pos q1, if_pos q1] at he; exact .inl ⟨q1, he⟩
    · rw [if_neg q1] at he
      by_cases q2 : q - k < xs.length
      · rw [if_pos q2] at he; exact .inr (.inl ⟨by omega, by omega, he⟩)
      · rw [if_neg q2] at he
        right; right
        refine ⟨by omega, ?_⟩
        rwa [show k + xs.length + (q - k - xs.length) = q by omega] at he
  refine Snd.write (z := z) (p := k * z) (vs := vs.toList) i hb (by omega) (fun c t hc hsz => .inl (hr c t hc hsz)) ?_ (fun q e he => ?_) (fun q e j y he hy => ?_) hv nid
  · simp; omega
  · rcases get q e he with ⟨_, q2⟩ | ⟨_, _, q2⟩ | ⟨_, q2⟩
    · exact h1 _ e q2
    · exact hx.wide _ e q2
    · exact h1 _ e q2
  · rcases get q e he with ⟨q1, q2⟩ | ⟨q1, q1', q2⟩ | ⟨q1, q2⟩
    · right
      have hj : j < z := by rw [← h1 q e q2]; exact (List.getElem?_eq_some_iff.1 hy).1
      have := row_lt q1 hj
      exact ⟨by omega, e, q2, hy⟩
    · left
      obtain ⟨c1, u, c2, c3⟩ := hx.at_ q2 hy
      have hj : j < z := by rw [← hx.wide _ e q2]; exact (List.getElem?_eq_some_iff.1 hy).1
      have hlt := row_lt (show q - k < xs.length by omega) hj
      have e2 : q * z = k * z + (q - k) * z := by rw [← Nat.add_mul]; congr 1; omega
      refine ⟨by omega, by omega, c1, u, ?_, c3⟩
      rw [show q * z + j - k * z = (q - k) * z + j by omega, Array.getElem?_toList]
      exact c2
    · right
      have := Nat.mul_le_mul_right z q1
      rw [Nat.add_mul] at this
      exact ⟨by omega, e, q2, hy⟩

end
end Go.Pav
