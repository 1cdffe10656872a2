/- The relation between the evaluator's values and heap and the model's. -/
import Derived.Test.YtebbokkffdjpdaaPavComp
import Derived.Laws.AppendOwn
namespace Go.Pav
open Go

section lists
variable {α : Type}

theorem get_put (l : List (Nat × α)) (n : Nat) (x : α) (k : Nat) : get (put l n x) k = if n = k then some x else get l k := by
  induction l with
  | nil => simp [put, get]
  | cons a r ih =>
    obtain ⟨j, v⟩ := a
    simp only [put]
    by_cases h1 : j = n
    · subst h1
      simp only [if_true, get]
      by_cases h2 : j = k <;> simp [h2]
    · simp only [h1, if_false]
      by_cases h2 : n ≤ j
      · simp only [h2, if_true, get]
      · simp only [h2, if_false, get, ih]
        by_cases h3 : j = k
        · subst h3; simp [Ne.symm h1]
        · simp [h3]

theorem get_del (l : List (Nat × α)) (n k : Nat) : get (del l n) k = if n = k then none else get l k := by
  induction l with
  | nil => simp [del, get]
  | cons a r ih =>
    obtain ⟨j, v⟩ := a
    simp only [del]
    by_cases h1 : j = n
    · subst h1
      simp only [if_true, ih, get]
      by_cases h2 : j = k <;> simp [h2]
    · simp only [h1, if_false, get, ih]
      by_cases h3 : j = k
      · subst h3; simp [Ne.symm h1]
      · simp [h3]

theorem get_keep (m : Nat) (l : List (Nat × α)) (k : Nat) : get (Pav.keep m l) k = if m.testBit k then get l k else none := by
  induction l with
  | nil => simp [Pav.keep, get]
  | cons a r ih =>
    obtain ⟨j, v⟩ := a
    simp only [Pav.keep]
    by_cases h1 : m.testBit j = true
    · simp only [h1, if_true, get, ih]
      by_cases h3 : j = k
      · subst h3; simp [h1]
      · simp [h3]
    · rw [if_neg h1, ih]
      simp only [get]
      by_cases h3 : j = k
      · subst h3; simp [h1]
      · simp [h3]

theorem get_below (n : Nat) (l : List (Nat × α)) (k : Nat) : get (below n l) k = if k < n then get l k else none := by
  induction l with
  | nil => simp [below, get]
  | cons a r ih =>
    obtain ⟨j, v⟩ := a
    simp only [below]
    by_cases h1 : j < n
    · simp only [h1, if_true, get, ih]
      by_cases h3 : j = k
      · subst h3; simp [h1]
      · simp [h3]
    · rw [if_neg h1, ih]
      simp only [get]
      by_cases h3 : j = k
      · subst h3; simp [h1]
      · simp [h3]

theorem get_mem {l : List (Nat × α)} {k : Nat} {x : α} (h : get l k = some x) : (k, x) ∈ l := by
  induction l with
  | nil => simp [get] at h
  | cons a r ih =>
    obtain ⟨j, v⟩ := a
    simp only [get] at h
    by_cases h1 : j = k
    · simp [h1] at h; subst h; subst h1; simp
    · simp [h1] at h; exact List.mem_cons_of_mem _ (ih h)

end lists

theorem ob_some {α β : Type} {x : Option α} {f : α → Option β} {b : β} (h : ob x f = some b) : ∃ a, x = some a ∧ f a = some b := by
  cases x with
  | none => simp [ob] at h
  | some a => exact ⟨a, rfl, h⟩

theorem om_some {α β : Type} {x : Option α} {f : α → β} {b : β} (h : om x f = some b) : ∃ a, x = some a ∧ f a = b := by
  cases x with
  | none => simp [om] at h
  | some a => exact ⟨a, rfl, by simpa [om] using h⟩

theorem og_some {β : Type} {c : Bool} {x : Option β} {b : β} (h : og c x = some b) : c = true ∧ x = some b := by
  cases c with
  | false => simp [og] at h
  | true => exact ⟨rfl, h⟩

theorem mapO_some {α β : Type} {f : α → Option β} : ∀ {l : List α} {r : List β}, mapO f l = some r → r.length = l.length ∧ ∀ (i : Nat) (a : α), l[i]? = some a → ∃ b, r[i]? = some b ∧ f a = some b := by
  intro l
  induction l with
  | nil => intro r h; simp [mapO] at h; subst h; simp
  | cons a l ih =>
    intro r h
    simp only [mapO] at h
    obtain ⟨b, hb, h⟩ := ob_some h
    obtain ⟨bs, hbs, rfl⟩ := om_some h
    obtain ⟨hl, hi⟩ := ih hbs
    refine ⟨by simp [hl], ?_⟩
    intro i x hx
    cases i with
    | zero => simp at hx; subst hx; exact ⟨b, by simp, hb⟩
    | succ i => simpa using hi i x (by simpa using hx)

/-- What a value of the evaluator stands for, in a world: S says which blocks stay as they are, m where the evaluator's blocks lie (and how wide an element is), A which of them have been made. -/
inductive VR (ψ : Nat → FuncId) (w : World) (S : Nat → Prop) (m : Nat → Nat × Nat) : (Nat → Prop) → AV → Value → Prop
  | undef {A : Nat → Prop} (v : Value) : VR ψ w S m A .undef v
  | bool {A : Nat → Prop} (b : Bool) : VR ψ w S m A (.bool b) (.bool b)
  | int {A : Nat → Prop} (k : IntKind) (n : Int) : VR ψ w S m A (.int k n) (.int k n)
  | str {A : Nat → Prop} (s : List UInt8) : VR ψ w S m A (.str s) (.string ⟨⟨s⟩⟩)
  | nilp {A : Nat → Prop} : VR ψ w S m A .nilp (.pointer none)
  | nils {A : Nat → Prop} : VR ψ w S m A .nils (.slice none 0 0)
  | nilm {A : Nat → Prop} : VR ψ w S m A .nilm (.map none)
  | nilf {A : Nat → Prop} : VR ψ w S m A .nilf .nilFunc
  | ro {A : Nat → Prop} (z : Nat) (es : List (List AV)) (ex : Bool) (b off cap : Nat) (cs : Nat → Nat → Value) (hS : S b)
      (hz : ∀ (i : Nat) (e : List AV), es[i]? = some e → e.length = z) (hc : es.length ≤ cap) (hx : ex = true → cap = es.length)
      (hcell : ∀ (i : Nat) (e : List AV) (j : Nat) (x : AV), es[i]? = some e → e[j]? = some x → x.cell = true ∧ w.cell? ⟨b, off + i * z + j, none⟩ = some (cs i j))
      (hrep : ∀ (i : Nat) (e : List AV) (j : Nat) (x : AV), es[i]? = some e → e[j]? = some x → VR ψ w S m (fun _ => False) x (cs i j)) :
      VR ψ w S m A (.ro z es ex) (.slice (some ⟨b, off, none⟩) es.length cap)
  | roe {A : Nat → Prop} (z : Nat) (ex : Bool) (a : Addr) : VR ψ w S m A (.ro z [] ex) (.slice (some a) 0 0)
  | rop {A : Nat → Prop} (cs : List AV) (b off : Nat) (vs : Nat → Value) (hS : S b)
      (hcell : ∀ (j : Nat) (x : AV), cs[j]? = some x → x.cell = true ∧ w.cell? ⟨b, off + j, none⟩ = some (vs j))
      (hrep : ∀ (j : Nat) (x : AV), cs[j]? = some x → VR ψ w S m (fun _ => False) x (vs j)) :
      VR ψ w S m A (.rop cs) (.pointer (some ⟨b, off, none⟩))
  | ptr {A : Nat → Prop} (b i o : Nat) (hA : A b) : VR ψ w S m A (.ptr b i o) (.pointer (some ⟨(m b).1, i * (m b).2 + o, none⟩))
  | sl {A : Nat → Prop} (b z i len cap : Nat) (ex : Bool) (c : Nat) (hA : A b) (hz : (m b).2 = z) (hl : len ≤ c) (hc : cap ≤ c) (hx : ex = true → c = cap)
      (hrow : ∃ cur t fr, w.heap[(m b).1]? = some (.cells cur t fr) ∧ (i + c) * z ≤ cur.size) :
      VR ψ w S m A (.sl b z i len cap ex) (.slice (some ⟨(m b).1, i * z, none⟩) len c)
  | map {A : Nat → Prop} (b : Nat) (hA : A b) : VR ψ w S m A (.map b) (.map (some (m b).1))
  | fn {A : Nat → Prop} (f : Nat) (caps : List AV) (vs : Array Value) (hn : vs.size = caps.length)
      (hc : ∀ (j : Nat) (x : AV), caps[j]? = some x → VR ψ w S m A x (vs.getD j undef)) : VR ψ w S m A (.fn f caps) (.func (.func (ψ f)) #[] vs)
  | agg {A : Nat → Prop} (cs : List AV) (vs : Array Value) (hn : vs.size = cs.length)
      (hcell : ∀ (j : Nat) (x : AV), cs[j]? = some x → x.cell = true) (hc : ∀ (j : Nat) (x : AV), cs[j]? = some x → VR ψ w S m A x (vs.getD j undef)) : VR ψ w S m A (.agg cs) (.agg vs)
  | tup {A : Nat → Prop} (cs : List AV) (vs : Array Value) (hn : vs.size = cs.length)
      (hc : ∀ (j : Nat) (x : AV), cs[j]? = some x → VR ψ w S m A x (vs.getD j undef)) : VR ψ w S m A (.tup cs) (.tuple vs)

/-- How the world, and what is said of it, may go on. -/
structure Le (w : World) (S : Nat → Prop) (m : Nat → Nat × Nat) (A : Nat → Prop) (w' : World) (S' : Nat → Prop) (m' : Nat → Nat × Nat) (A' : Nat → Prop) : Prop where
  kept : ∀ b, S b → w'.heap[b]? = w.heap[b]?
  rows : ∀ (b : Nat) c t fr, w.heap[b]? = some (.cells c t fr) → ∃ c', w'.heap[b]? = some (.cells c' t fr) ∧ c'.size = c.size
  size : w.heap.size ≤ w'.heap.size
  sub : ∀ b, S b → S' b
  made : ∀ b, A b → A' b
  same : ∀ b, A b → m' b = m b

theorem Le.refl (w : World) (S : Nat → Prop) (m : Nat → Nat × Nat) (A : Nat → Prop) : Le w S m A w S m A :=
  ⟨fun _ _ => rfl, fun _ c _ _ h => ⟨c, h, rfl⟩, Nat.le_refl _, fun _ h => h, fun _ h => h, fun _ _ => rfl⟩

theorem Le.trans {w w1 w2 : World} {S S1 S2 : Nat → Prop} {m m1 m2 : Nat → Nat × Nat} {A A1 A2 : Nat → Prop} (h : Le w S m A w1 S1 m1 A1) (h' : Le w1 S1 m1 A1 w2 S2 m2 A2) : Le w S m A w2 S2 m2 A2 where
  kept b hb := (h'.kept b (h.sub b hb)).trans (h.kept b hb)
  rows b c t fr hc := by
    obtain ⟨c1, h1, e1⟩ := h.rows b c t fr hc
    obtain ⟨c2, h2, e2⟩ := h'.rows b c1 t fr h1
    exact ⟨c2, h2, e2.trans e1⟩
  size := Nat.le_trans h.size h'.size
  sub b hb := h'.sub b (h.sub b hb)
  made b hb := h'.made b (h.made b hb)
  same b hb := (h'.same b (h.made b hb)).trans (h.same b hb)

section
variable {ψ : Nat → FuncId} {w w' : World} {S S' : Nat → Prop} {m m' : Nat → Nat × Nat} {A A' : Nat → Prop}

theorem VR.mono' {v : AV} {c : Value} (h : VR ψ w S m A v c) (hk : ∀ b, S b → w'.heap[b]? = w.heap[b]?)
    (hr : ∀ (b : Nat) c t fr, w.heap[b]? = some (.cells c t fr) → ∃ c', w'.heap[b]? = some (.cells c' t fr) ∧ c'.size = c.size) (hs : ∀ b, S b → S' b) :
    ∀ {A' : Nat → Prop}, (∀ b, A b → A' b) → (∀ b, A b → m' b = m b) → VR ψ w' S' m' A' v c := by
  induction h with
  | undef v => intro A' _ _; exact .undef v
  | bool b => intro A' _ _; exact .bool b
  | int k n => intro A' _ _; exact .int k n
  | str s => intro A' _ _; exact .str s
  | nilp => intro A' _ _; exact .nilp
  | nils => intro A' _ _; exact .nils
  | nilm => intro A' _ _; exact .nilm
  | nilf => intro A' _ _; exact .nilf
  | roe z ex a => intro A' _ _; exact .roe z ex a
  | ro z es ex b off cap cs hS hz hc hx hcell _ ih =>
    intro A' _ _
    refine .ro z es ex b off cap cs (hs b hS) hz hc hx (fun i e j x h1 h2 => ⟨(hcell i e j x h1 h2).1, ?_⟩) (fun i e j x h1 h2 => ih i e j x h1 h2 (fun _ h => h) (fun _ h => h.elim))
    rw [← (hcell i e j x h1 h2).2]
    exact World.cell?_of_block (hk b hS)
  | rop cs b off vs hS hcell _ ih =>
    intro A' _ _
    refine .rop cs b off vs (hs b hS) (fun j x h1 => ⟨(hcell j x h1).1, ?_⟩) (fun j x h1 => ih j x h1 (fun _ h => h) (fun _ h => h.elim))
    rw [← (hcell j x h1).2]
    exact World.cell?_of_block (hk b hS)
  | ptr b i o hA => intro A' ha hm; rw [← hm b hA]; exact .ptr b i o (ha b hA)
  | sl b z i len cap ex c hA hz hl hc hx hrow =>
    intro A' ha hm
    obtain ⟨cur, t, fr, h1, h2⟩ := hrow
    obtain ⟨c', h3, h4⟩ := hr _ _ _ _ h1
    have e := hm b hA
    rw [← e] at hz h3 ⊢
    exact .sl b z i len cap ex c (ha b hA) hz hl hc hx ⟨c', t, fr, h3, by omega⟩
  | map b hA => intro A' ha hm; rw [← hm b hA]; exact .map b (ha b hA)
  | fn f caps vs hn _ ih => intro A' ha hm; exact .fn f caps vs hn fun j x h1 => ih j x h1 ha hm
  | agg cs vs hn hcell _ ih => intro A' ha hm; exact .agg cs vs hn hcell fun j x h1 => ih j x h1 ha hm
  | tup cs vs hn _ ih => intro A' ha hm; exact .tup cs vs hn fun j x h1 => ih j x h1 ha hm

theorem VR.mono {v : AV} {c : Value} (h : VR ψ w S m A v c) (le : Le w S m A w' S' m' A') : VR ψ w' S' m' A' v c :=
  h.mono' le.kept le.rows le.sub le.made le.same

/-- A cell's value is one cell. -/
theorem VR.one {v : AV} {c : Value} (h : VR ψ w S m A v c) (hv : v.cell = true) : c.oneCell' = true := by
  cases h <;> simp_all [AV.cell, Value.oneCell']

theorem VR.single {v : AV} {c : Value} (h : VR ψ w S m A v c) (hv : v.cells = [v]) (hc : c.cells = #[c]) (h1 : v.cell = true) :
    c.cells.size = v.cells.length ∧ (∀ (j : Nat) (x : AV), v.cells[j]? = some x → VR ψ w S m A x (c.cells.getD j Go.undef)) ∧ ∀ u ∈ c.cells.toList, u.oneCell' = true := by
  rw [hv, hc]
  refine ⟨rfl, ?_, ?_⟩
  · intro j x hj
    cases j with
    | zero => simp at hj; subst hj; simpa using h
    | succ j => simp at hj
  · intro u hu
    simp at hu
    subst hu
    exact h.one h1

/-- The cells of a value. -/
theorem VR.cells {v : AV} {c : Value} (h : VR ψ w S m A v c) (hv : v.cells.all AV.cell = true) :
    c.cells.size = v.cells.length ∧ (∀ (j : Nat) (x : AV), v.cells[j]? = some x → VR ψ w S m A x (c.cells.getD j Go.undef)) ∧ ∀ u ∈ c.cells.toList, u.oneCell' = true := by
  cases h with
  | agg cs vs hn hcell hc =>
    refine ⟨hn, hc, ?_⟩
    intro u hu
    obtain ⟨j, hj, e⟩ := List.getElem_of_mem hu
    have hjs : j < vs.size := by simpa [Value.cells] using hj
    have hx : cs[j]? = some cs[j] := List.getElem?_eq_getElem (by omega)
    have h1 := (hc j _ hx).one (hcell j _ hx)
    have e2 : vs.getD j Go.undef = u := by simp only [Array.getD, hjs, dif_pos]; simpa [Value.cells] using e
    rwa [e2] at h1
  | undef v => simp [AV.cells, AV.cell] at hv
  | tup cs vs hn hc => simp [AV.cells, AV.cell] at hv
  | bool b => exact VR.single (.bool b) rfl rfl rfl
  | int k n => exact VR.single (.int k n) rfl rfl rfl
  | str s => exact VR.single (.str s) rfl rfl rfl
  | nilp => exact VR.single .nilp rfl rfl rfl
  | nils => exact VR.single .nils rfl rfl rfl
  | nilm => exact VR.single .nilm rfl rfl rfl
  | nilf => exact VR.single .nilf rfl rfl rfl
  | roe z ex a => exact VR.single (.roe z ex a) rfl rfl rfl
  | ro z es ex b off cap cs hS hz hc hx hcell hrep => exact VR.single (.ro z es ex b off cap cs hS hz hc hx hcell hrep) rfl rfl rfl
  | rop cs b off vs hS hcell hrep => exact VR.single (.rop cs b off vs hS hcell hrep) rfl rfl rfl
  | ptr b i o hA => exact VR.single (.ptr b i o hA) rfl rfl rfl
  | sl b z i len cap ex c hA hz hl hc hx hrow => exact VR.single (.sl b z i len cap ex c hA hz hl hc hx hrow) rfl rfl rfl
  | map b hA => exact VR.single (.map b hA) rfl rfl rfl
  | fn f caps vs hn hc => exact VR.single (.fn f caps vs hn hc) rfl rfl rfl

end

/-- An object of the evaluator's heap, where it lies. -/
def OR (ψ : Nat → FuncId) (w : World) (S : Nat → Prop) (m : Nat → Nat × Nat) (A : Nat → Prop) (bm : Nat × Nat) : AObj → Prop
  | .cells z es _ => bm.2 = z ∧ (∀ (i : Nat) (e : List AV), es[i]? = some e → e.length = z) ∧ ∃ c t, w.heap[bm.1]? = some (.cells c t (0, 0)) ∧ es.length * z ≤ c.size ∧
      ∀ (i : Nat) (e : List AV) (j : Nat) (x : AV), es[i]? = some e → e[j]? = some x → x.cell = true ∧ ∃ v, c[i * z + j]? = some v ∧ VR ψ w S m A x v
  | .map es => ∃ es' clock, w.heap[bm.1]? = some (.map es' clock) ∧ es'.size = es.length ∧
      ∀ (i : Nat) (k v : AV), es[i]? = some (k, v) → k.cell = true ∧ ∃ x, es'[i]? = some x ∧ VR ψ w S m A k x.key ∧ VR ψ w S m A v x.val
  | .iter s pos => w.heap[bm.1]? = some (.stringIter ⟨⟨s⟩⟩ pos)

def mutab : AObj → Bool
  | .cells _ _ mu => mu
  | _ => true

/-- The evaluator's heap and the model's world: the blocks below N are as they were in w0. -/
structure Inv (ψ : Nat → FuncId) (N : Nat) (w0 : World) (w : World) (S : Nat → Prop) (m : Nat → Nat × Nat) (A : Nat → Prop) (h : Heap) : Prop where
  dom : ∀ b o, get h b = some o → A b
  obj : ∀ b o, get h b = some o → OR ψ w S m A (m b) o
  fro : ∀ b o, get h b = some o → mutab o = false → S (m b).1
  live : ∀ b o, get h b = some o → mutab o = true → ¬ S (m b).1 ∧ N ≤ (m b).1
  inj : ∀ b o b' o', get h b = some o → get h b' = some o' → mutab o = true → mutab o' = true → b ≠ b' → (m b).1 ≠ (m b').1
  sb : ∀ c, S c → c < w.heap.size
  size : N ≤ w.heap.size
  old : ∀ c, c < N → w.heap[c]? = w0.heap[c]?
  os : w.os = w0.os
  out : w.output = w0.output

theorem OR.lt {ψ : Nat → FuncId} {w : World} {S : Nat → Prop} {m : Nat → Nat × Nat} {A : Nat → Prop} {bm : Nat × Nat} {o : AObj} (h : OR ψ w S m A bm o) : bm.1 < w.heap.size := by
  cases o with
  | cells z es mu => obtain ⟨_, _, c, t, h, _⟩ := h; exact (Array.getElem?_eq_some_iff.1 h).1
  | map es => obtain ⟨es', clock, h, _⟩ := h; exact (Array.getElem?_eq_some_iff.1 h).1
  | iter s pos => exact (Array.getElem?_eq_some_iff.1 h).1

/-- An object stays where its block does. -/
theorem OR.mono {ψ : Nat → FuncId} {w w' : World} {S S' : Nat → Prop} {m m' : Nat → Nat × Nat} {A A' : Nat → Prop} {bm : Nat × Nat} {o : AObj} (h : OR ψ w S m A bm o)
    (le : Le w S m A w' S' m' A') (hb : w'.heap[bm.1]? = w.heap[bm.1]?) : OR ψ w' S' m' A' bm o := by
  cases o with
  | cells z es mu =>
    obtain ⟨h0, h1, c, t, h2, h3, h4⟩ := h
    refine ⟨h0, h1, c, t, hb.trans h2, h3, fun i e j x he hx => ?_⟩
    obtain ⟨h5, v, h6, h7⟩ := h4 i e j x he hx
    exact ⟨h5, v, h6, h7.mono le⟩
  | map es =>
    obtain ⟨es', clock, h1, h2, h3⟩ := h
    refine ⟨es', clock, hb.trans h1, h2, fun i k v he => ?_⟩
    obtain ⟨h4, x, h5, h6, h7⟩ := h3 i k v he
    exact ⟨h4, x, h5, h6.mono le, h7.mono le⟩
  | iter s pos => exact hb.trans h

end Go.Pav
