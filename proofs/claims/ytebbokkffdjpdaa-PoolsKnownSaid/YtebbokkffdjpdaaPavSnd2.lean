/- Soundness: loads, new blocks, addresses. -/
import Derived.Test.YtebbokkffdjpdaaPavSnd1
namespace Go.Pav
open Go

/-- Cells that lie in a row. -/
def CellsAt (ψ : Nat → FuncId) (w : World) (S : Nat → Prop) (m : Nat → Nat × Nat) (A : Nat → Prop) (cs : List AV) (g off : Nat) : Prop :=
  ∀ (j : Nat) (x : AV), cs[j]? = some x → x.cell = true ∧ ∃ u, w.cell? ⟨g, off + j, none⟩ = some u ∧ VR ψ w S m A x u

section
variable {P : Program} {φ : FuncId → Option Nat} {ψ : Nat → FuncId} {N : Nat} {w0 w : World} {S : Nat → Prop} {m : Nat → Nat × Nat} {A : Nat → Prop} {h : Heap} {e : Env} {a : Act}

theorem CellsAt.drop {cs : List AV} {g off : Nat} (hc : CellsAt ψ w S m A cs g off) (k : Nat) : CellsAt ψ w S m A (cs.drop k) g (off + k) := by
  intro j x hx
  rw [List.getElem?_drop] at hx
  obtain ⟨h1, u, h2, h3⟩ := hc _ _ hx
  exact ⟨h1, u, by rw [Nat.add_assoc]; exact h2, h3⟩

theorem isAgg_run {t : TypeId} {ag : Bool} (ht : isAggT P t = some ag) : (isAgg t).run P w = .ok ag w := by
  unfold isAggT at ht
  simp only [Option.map_eq_some_iff] at ht
  obtain ⟨d, hd, rfl⟩ := ht
  unfold isAgg
  rw [Sem.run_bind, run_underlying hd]
  cases d <;> rfl

theorem sizeOf_run {t : TypeId} {n : Nat} (ht : sizeT P t = some n) : (sizeOf t).run P w = .ok n w := by
  unfold sizeT at ht
  simp only [Option.map_eq_some_iff] at ht
  obtain ⟨i, hi, rfl⟩ := ht
  simp [sizeOf, typeInfo, hi]

theorem add_row (g off j : Nat) : (⟨g, off, none⟩ : Addr).add j = ⟨g, off + j, none⟩ := Addr.add_lit g off j

theorem loadCells_run {cs : List AV} {g off n : Nat} (hc : CellsAt ψ w S m A cs g off) (hn : n ≤ cs.length) :
    ∃ vs : Array Value, (loadCells ⟨g, off, none⟩ n).run P w = .ok vs w ∧ vs.size = n ∧ (∀ (j : Nat) (x : AV), (cs.take n)[j]? = some x → VR ψ w S m A x (vs.getD j Go.undef)) ∧
      ∀ j, j < n → w.cell? ⟨g, off + j, none⟩ = some (vs.getD j Go.undef) := by
  have hf : ∀ j, j < n → w.cell? ((⟨g, off, none⟩ : Addr).add j) = some ((w.cell? ⟨g, off + j, none⟩).getD Go.undef) := by
    intro j hj
    obtain ⟨_, u, h2, _⟩ := hc j _ (List.getElem?_eq_getElem (by omega))
    rw [add_row, h2]; rfl
  have hg : ∀ j, j < n → (((List.range n).map fun j => (w.cell? ⟨g, off + j, none⟩).getD Go.undef).toArray).getD j Go.undef = (w.cell? ⟨g, off + j, none⟩).getD Go.undef := by
    intro j hj
    rw [Array.getD_eq_getD_getElem?]
    simp [hj]
  refine ⟨_, run_loadCells w ⟨g, off, none⟩ n _ hf, by simp, ?_, ?_⟩
  · intro j x hx
    rw [List.getElem?_take] at hx
    by_cases hj : j < n
    · rw [if_pos hj] at hx
      obtain ⟨_, u, h2, h3⟩ := hc j x hx
      rw [hg j hj, h2]; exact h3
    · rw [if_neg hj] at hx; cases hx
  · intro j hj
    rw [hg j hj]
    have := hf j hj
    rwa [add_row] at this

theorem loadVar_run {t : TypeId} {n : Nat} {ag : Bool} {cs : List AV} {g off : Nat} {v : AV} (hc : CellsAt ψ w S m A cs g off) (hs : sizeT P t = some n) (hag : isAggT P t = some ag)
    (hl : loadC n ag cs = some v) : ∃ cv, (loadVar t ⟨g, off, none⟩).run P w = .ok cv w ∧ VR ψ w S m A v cv := by
  unfold loadC at hl
  cases ag with
  | true =>
    simp only [if_true] at hl
    by_cases hn : n ≤ cs.length
    · rw [if_pos hn] at hl
      cases hl
      obtain ⟨vs, h1, h2, h3, _⟩ := loadCells_run (P := P) hc hn
      refine ⟨.agg vs, ?_, .agg _ vs (by simp [h2]; omega) (fun j x hx => ?_) h3⟩
      · unfold loadVar
        rw [Sem.run_bind, isAgg_run hag]
        simp only [Result.andThen_ok, if_true, Sem.run_bind, sizeOf_run hs, h1, Sem.run_pure]
      · rw [List.getElem?_take] at hx
        by_cases hj : j < n
        · rw [if_pos hj] at hx; exact (hc j x hx).1
        · rw [if_neg hj] at hx; cases hx
    · rw [if_neg hn] at hl; cases hl
  | false =>
    simp only [Bool.false_eq_true, if_false] at hl
    cases cs with
    | nil => cases hl
    | cons c r =>
      simp only [List.head?_cons, Option.some.injEq] at hl
      subst hl
      obtain ⟨_, u, h2, h3⟩ := hc 0 c (by simp)
      refine ⟨u, ?_, h3⟩
      unfold loadVar
      rw [Sem.run_bind, isAgg_run hag]
      simp only [Nat.add_zero] at h2
      simp [h2]

/-- The cells of a block's element. -/
theorem Inv.cellsAt (i : Inv ψ N w0 w S m A h) {b z k : Nat} {es : List (List AV)} {mu : Bool} {cs : List AV} (hb : get h b = some (.cells z es mu)) (hk : es[k]? = some cs) :
    CellsAt ψ w S m A cs (m b).1 (k * (m b).2) := by
  obtain ⟨h0, h1, c, t, h2, h3, h4⟩ := i.obj b _ hb
  intro j x hx
  obtain ⟨h5, v, h6, h7⟩ := h4 k cs j x hk hx
  refine ⟨h5, v, ?_, h7⟩
  rw [h0]
  rw [cell_of_row w _ _ c t _ h2]
  exact h6

theorem sLoad_run {n : Nat} {ag : Bool} {p : AV} {c : Value} {t : TypeId} {v : AV} (i : Inv ψ N w0 w S m A h) (hp : VR ψ w S m A p c) (hs : sizeT P t = some n) (hag : isAggT P t = some ag)
    (hl : loadOf n ag h p = some v) :
    ∃ cv, (Instr.loadAt t c).run P w = .ok cv w ∧ VR ψ w S m A v cv := by
  cases p with
  | rop cs =>
    obtain ⟨b, off, vs, rfl, hS, hcell, hrep⟩ := hp.inv_rop
    have hc : CellsAt ψ w S m A _ b off := fun j x hx => ⟨(hcell j x hx).1, vs j, (hcell j x hx).2, (hrep j x hx).open_⟩
    obtain ⟨cv, h1, h2⟩ := loadVar_run (P := P) hc hs hag hl
    exact ⟨cv, by simp [Instr.loadAt, Instr.sureAddr, h1], h2⟩
  | ptr b k o =>
    obtain ⟨hA, rfl⟩ := hp.inv_ptr
    simp only [loadOf, loadAt] at hl
    split at hl
    · rename_i z es mu hb
      obtain ⟨cs, hk, hl⟩ := ob_some hl
      obtain ⟨cv, h1, h2⟩ := loadVar_run (P := P) ((i.cellsAt hb hk).drop o) hs hag hl
      exact ⟨cv, by simp [Instr.loadAt, Instr.sureAddr, h1], h2⟩
    · cases hl
  | _ => cases hl

/-- A new block of cells. -/
theorem Snd.newCells {x : Sem Next} {cv : Value} {v : AV} {w' : World} (i : Inv ψ N w0 w S m A h) {nid : Nat} (hn : ¬ A nid) (hr : x.run P w = .ok (.value cv) w')
    {c : Array Value} {t : TypeId} (hh : w'.heap = w.heap.push (.cells c t (0, 0))) (ho : w'.os = w.os) (ht : w'.output = w.output) (z : Nat) (es : List (List AV))
    (hz : ∀ (k : Nat) (e : List AV), es[k]? = some e → e.length = z) (hsz : es.length * z ≤ c.size)
    (hvr : ∀ (k : Nat) (e : List AV) (j : Nat) (x : AV), es[k]? = some e → e[j]? = some x → x.cell = true ∧ ∃ u, c[k * z + j]? = some u ∧ VR ψ w S m A x u)
    (hcv : ∀ {w' : World} {m' : Nat → Nat × Nat} {A' : Nat → Prop}, m' nid = (w.heap.size, z) → A' nid → w'.heap[w.heap.size]? = some (.cells c t (0, 0)) → VR ψ w' S m' A' v cv) :
    Snd P ψ N w0 w S m A x (put h nid (.cells z es true)) v nid := by
  have le := Le.push (m := m) hh i.sb hn (w.heap.size, z)
  have hnew : w'.heap[w.heap.size]? = some (.cells c t (0, 0)) := by rw [hh]; simp
  refine ⟨cv, w', updM m nid (w.heap.size, z), addA A nid, .inl hr, hcv (by simp [updM]) (.inr rfl) hnew, i.push hh ho ht hn z _ ?_ rfl, le, fun b hb => hb⟩
  refine ⟨rfl, hz, c, t, hnew, hsz, fun k e j x hk hx => ?_⟩
  obtain ⟨h1, u, h2, h3⟩ := hvr k e j x hk hx
  exact ⟨h1, u, h2, h3.mono le⟩

theorem zeroCells_some {t : TypeId} {z : List AV} (hz : zeroCells P t = some z) : ∃ i zv, P.info? t = some i ∧ i.zero = some zv ∧ zv.cells.size = z.length ∧ i.size = z.length ∧
    (∀ (j : Nat) (x : AV), z[j]? = some x → x.cell = true) ∧ ∀ (j : Nat) (x : AV), z[j]? = some x → VR ψ w S m A x (zv.cells.getD j Go.undef) := by
  unfold zeroCells at hz
  simp only [Option.bind_eq_bind, Option.bind_eq_some_iff] at hz
  obtain ⟨i, hi, zv, hzv, cs, hcs, hz⟩ := hz
  split at hz
  · rename_i hl
    cases hz
    obtain ⟨h1, h2, h3⟩ := mapM_avCell (ψ := ψ) (w := w) (S := S) (m := m) (A := A) hcs
    exact ⟨i, zv, hi, hzv, h1, hl.symm, h2, h3⟩
  · cases hz

theorem getElem?_of_getD {vs : Array Value} {j : Nat} (hj : j < vs.size) : vs[j]? = some (vs.getD j Go.undef) := by
  rw [Array.getD_eq_getD_getElem?, Array.getElem?_eq_getElem hj]; rfl

/-- A block of one element. -/
theorem Snd.one {x : Sem Next} {w' : World} (i : Inv ψ N w0 w S m A h) {nid : Nat} (hn : ¬ A nid) (hr : x.run P w = .ok (.value (.pointer (some ⟨w.heap.size, 0, none⟩))) w')
    {c : Array Value} {t : TypeId} (hh : w'.heap = w.heap.push (.cells c t (0, 0))) (ho : w'.os = w.os) (ht : w'.output = w.output) (cs : List AV) (hsz : c.size = cs.length)
    (hcell : ∀ (j : Nat) (x : AV), cs[j]? = some x → x.cell = true) (hvr : ∀ (j : Nat) (x : AV), cs[j]? = some x → VR ψ w S m A x (c.getD j Go.undef)) :
    Snd P ψ N w0 w S m A x (put h nid (.cells cs.length [cs] true)) (.ptr nid 0 0) nid := by
  refine Snd.newCells i hn hr hh ho ht cs.length [cs] (fun k e hk => ?_) (by simp [hsz]) (fun k e j x hk hx => ?_) (fun {w' m' A'} hm hA _ => ?_)
  · cases k with
    | zero => simp at hk; rw [← hk]
    | succ k => simp at hk
  · cases k with
    | zero =>
      simp at hk
      subst hk
      have hj : j < c.size := by rw [hsz]; exact (List.getElem?_eq_some_iff.1 hx).1
      exact ⟨hcell j x hx, _, by rw [Nat.zero_mul, Nat.zero_add]; exact getElem?_of_getD hj, hvr j x hx⟩
    | succ k => simp at hk
  · have := VR.ptr (ψ := ψ) (w := w') (S := S) (m := m') (A := A') nid 0 0 hA
    rw [hm] at this
    simpa using this

end
end Go.Pav
