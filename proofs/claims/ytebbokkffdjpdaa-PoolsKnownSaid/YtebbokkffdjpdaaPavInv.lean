/- Steps of the world that the relation follows: a new block, a write, a block that is given up. -/
import Derived.Test.YtebbokkffdjpdaaPavRel
namespace Go.Pav
open Go

def updM (m : Nat → Nat × Nat) (nid : Nat) (x : Nat × Nat) : Nat → Nat × Nat := fun b => if b = nid then x else m b

def addA (A : Nat → Prop) (nid : Nat) : Nat → Prop := fun b => A b ∨ b = nid

section
variable {ψ : Nat → FuncId} {N : Nat} {w0 w w' : World} {S : Nat → Prop} {m : Nat → Nat × Nat} {A : Nat → Prop} {h : Heap}

/-- The same blocks: only the tape's count, if anything, has moved. -/
theorem Le.same_heap (hh : w'.heap = w.heap) : Le w S m A w' S m A :=
  ⟨fun _ _ => by rw [hh], fun _ c _ _ hc => ⟨c, by rw [hh]; exact hc, rfl⟩, by rw [hh]; exact Nat.le_refl _, fun _ x => x, fun _ x => x, fun _ _ => rfl⟩

theorem Inv.same_heap (i : Inv ψ N w0 w S m A h) (hh : w'.heap = w.heap) (ho : w'.os = w.os) (ht : w'.output = w.output) : Inv ψ N w0 w' S m A h where
  dom := i.dom
  obj b o hb := (i.obj b o hb).mono (Le.same_heap hh) (by rw [hh])
  fro := i.fro
  live := i.live
  inj := i.inj
  sb c hc := by rw [hh]; exact i.sb c hc
  size := by rw [hh]; exact i.size
  old c hc := by rw [hh]; exact i.old c hc
  os := ho.trans i.os
  out := ht.trans i.out

theorem Le.push {obj : Obj} (hh : w'.heap = w.heap.push obj) (sb : ∀ c, S c → c < w.heap.size) {nid : Nat} (hn : ¬ A nid) (x : Nat × Nat) :
    Le w S m A w' S (updM m nid x) (addA A nid) where
  kept b hb := by rw [hh, Array.getElem?_push, if_neg (Nat.ne_of_lt (sb b hb))]
  rows b c t fr hc := ⟨c, by
    have := (Array.getElem?_eq_some_iff.1 hc).1
    rw [hh, Array.getElem?_push, if_neg (Nat.ne_of_lt this)]; exact hc, rfl⟩
  size := by rw [hh]; simp
  sub _ hb := hb
  made _ hb := .inl hb
  same b hb := by
    have : b ≠ nid := fun e => hn (e ▸ hb)
    simp [updM, this]

/-- A new block. -/
theorem Inv.push {obj : Obj} (i : Inv ψ N w0 w S m A h) (hh : w'.heap = w.heap.push obj) (ho : w'.os = w.os) (ht : w'.output = w.output) {nid : Nat} (hn : ¬ A nid) (z : Nat) (o : AObj)
    (hor : OR ψ w' S (updM m nid (w.heap.size, z)) (addA A nid) (w.heap.size, z) o) (hm : mutab o = true) :
    Inv ψ N w0 w' S (updM m nid (w.heap.size, z)) (addA A nid) (put h nid o) := by
  have le := Le.push (m := m) hh i.sb hn (w.heap.size, z)
  have ne : ∀ b o', get h b = some o' → b ≠ nid := fun b o' hb e => hn (e ▸ i.dom b o' hb)
  have nsz : ¬ S w.heap.size := fun hs => Nat.lt_irrefl _ (i.sb _ hs)
  have mof : ∀ b, b ≠ nid → updM m nid (w.heap.size, z) b = m b := fun b hb => by simp [updM, hb]
  have mn : updM m nid (w.heap.size, z) nid = (w.heap.size, z) := by simp [updM]
  have blk : ∀ c, c < w.heap.size → w'.heap[c]? = w.heap[c]? := fun c hc => by rw [hh, Array.getElem?_push, if_neg (Nat.ne_of_lt hc)]
  constructor
  · intro b o' hb
    rw [get_put] at hb
    by_cases e : nid = b
    · exact .inr e.symm
    · rw [if_neg e] at hb; exact .inl (i.dom b o' hb)
  · intro b o' hb
    rw [get_put] at hb
    by_cases e : nid = b
    · rw [if_pos e] at hb
      cases hb
      subst e
      rw [mn]; exact hor
    · rw [if_neg e] at hb
      rw [mof b (Ne.symm e)]
      exact (i.obj b o' hb).mono le (blk _ (i.obj b o' hb).lt)
  · intro b o' hb hf
    rw [get_put] at hb
    by_cases e : nid = b
    · rw [if_pos e] at hb; cases hb; rw [hm] at hf; cases hf
    · rw [if_neg e] at hb; rw [mof b (Ne.symm e)]; exact i.fro b o' hb hf
  · intro b o' hb hf
    rw [get_put] at hb
    by_cases e : nid = b
    · subst e; rw [mn]; exact ⟨nsz, i.size⟩
    · rw [if_neg e] at hb; rw [mof b (Ne.symm e)]; exact i.live b o' hb hf
  · intro b o1 b' o2 h1 h2 f1 f2 hne
    rw [get_put] at h1 h2
    by_cases e1 : nid = b
    · by_cases e2 : nid = b'
      · exact absurd (e1.symm.trans e2) hne
      · rw [if_neg e2] at h2
        subst e1
        rw [mn, mof b' (Ne.symm e2)]
        exact Nat.ne_of_gt (i.obj b' o2 h2).lt
    · rw [if_neg e1] at h1
      by_cases e2 : nid = b'
      · subst e2
        rw [mn, mof b (Ne.symm e1)]
        exact Nat.ne_of_lt (i.obj b o1 h1).lt
      · rw [if_neg e2] at h2
        rw [mof b (Ne.symm e1), mof b' (Ne.symm e2)]
        exact i.inj b o1 b' o2 h1 h2 f1 f2 hne
  · intro c hc
    exact Nat.lt_of_lt_of_le (i.sb c hc) le.size
  · exact Nat.le_trans i.size le.size
  · intro c hc
    rw [blk c (Nat.lt_of_lt_of_le hc i.size)]
    exact i.old c hc
  · exact ho.trans i.os
  · exact ht.trans i.out

/-- A block's content is replaced, in the model too. -/
theorem Le.write {g : Nat} (hg : ¬ S g) (hb : ∀ b, b ≠ g → w'.heap[b]? = w.heap[b]?) (hs : w'.heap.size = w.heap.size)
    (hrow : ∀ c t fr, w.heap[g]? = some (.cells c t fr) → ∃ c', w'.heap[g]? = some (.cells c' t fr) ∧ c'.size = c.size) : Le w S m A w' S m A where
  kept b hS := hb b (fun e => hg (e ▸ hS))
  rows b c t fr hc := by
    by_cases e : b = g
    · subst e; exact hrow c t fr hc
    · exact ⟨c, by rw [hb b e]; exact hc, rfl⟩
  size := by omega
  sub _ x := x
  made _ x := x
  same _ _ := rfl

theorem Inv.write (i : Inv ψ N w0 w S m A h) {b : Nat} {o o' : AObj} (hget : get h b = some o) (hm : mutab o = true) (hm' : mutab o' = true)
    (hb : ∀ c, c ≠ (m b).1 → w'.heap[c]? = w.heap[c]?) (hs : w'.heap.size = w.heap.size) (ho : w'.os = w.os) (ht : w'.output = w.output)
    (hrow : ∀ c t fr, w.heap[(m b).1]? = some (.cells c t fr) → ∃ c', w'.heap[(m b).1]? = some (.cells c' t fr) ∧ c'.size = c.size)
    (hor : OR ψ w' S m A (m b) o') : Inv ψ N w0 w' S m A (put h b o') := by
  have le : Le w S m A w' S m A := Le.write (i.live b o hget hm).1 hb hs hrow
  constructor
  · intro c x hc
    rw [get_put] at hc
    by_cases e : b = c
    · subst e; exact i.dom b o hget
    · rw [if_neg e] at hc; exact i.dom c x hc
  · intro c x hc
    rw [get_put] at hc
    by_cases e : b = c
    · subst e; rw [if_pos rfl] at hc; cases hc; exact hor
    · rw [if_neg e] at hc
      refine (i.obj c x hc).mono le (hb _ ?_)
      cases hx : mutab x with
      | true => exact i.inj c x b o hc hget hx hm (Ne.symm e)
      | false => exact fun e2 => (i.live b o hget hm).1 (e2 ▸ i.fro c x hc hx)
  · intro c x hc hf
    rw [get_put] at hc
    by_cases e : b = c
    · rw [if_pos e] at hc; cases hc; rw [hm'] at hf; cases hf
    · rw [if_neg e] at hc; exact i.fro c x hc hf
  · intro c x hc hf
    rw [get_put] at hc
    by_cases e : b = c
    · subst e; exact i.live b o hget hm
    · rw [if_neg e] at hc; exact i.live c x hc hf
  · intro c o1 c' o2 h1 h2 f1 f2 hne
    rw [get_put] at h1 h2
    by_cases e1 : b = c
    · by_cases e2 : b = c'
      · exact absurd (e1.symm.trans e2) hne
      · rw [if_neg e2] at h2
        subst e1
        exact i.inj b o c' o2 hget h2 hm f2 hne
    · rw [if_neg e1] at h1
      by_cases e2 : b = c'
      · subst e2; exact i.inj c o1 b o h1 hget f1 hm hne
      · rw [if_neg e2] at h2; exact i.inj c o1 c' o2 h1 h2 f1 f2 hne
  · intro c hc; rw [hs]; exact i.sb c hc
  · rw [hs]; exact i.size
  · intro c hc
    rw [hb c]
    · exact i.old c hc
    · have := (i.live b o hget hm).2; omega
  · exact ho.trans i.os
  · exact ht.trans i.out

/-- A block is given up. -/
theorem Inv.del (i : Inv ψ N w0 w S m A h) (b : Nat) : Inv ψ N w0 w S m A (del h b) := by
  have sub : ∀ c o, get (Pav.del h b) c = some o → get h c = some o := by
    intro c o hc
    rw [get_del] at hc
    by_cases e : b = c
    · simp [e] at hc
    · rwa [if_neg e] at hc
  exact ⟨fun c o hc => i.dom c o (sub c o hc), fun c o hc => i.obj c o (sub c o hc), fun c o hc => i.fro c o (sub c o hc), fun c o hc => i.live c o (sub c o hc),
    fun c o c' o' h1 h2 => i.inj c o c' o' (sub c o h1) (sub c' o' h2), i.sb, i.size, i.old, i.os, i.out⟩

/-- A block goes on under another number, its content turned. -/
theorem Le.adopt {g : Nat} (hg : ¬ S g) (hb : ∀ b, b ≠ g → w'.heap[b]? = w.heap[b]?) (hs : w'.heap.size = w.heap.size)
    (hrow : ∀ c t fr, w.heap[g]? = some (.cells c t fr) → ∃ c', w'.heap[g]? = some (.cells c' t fr) ∧ c'.size = c.size) {nid : Nat} (hn : ¬ A nid) (x : Nat × Nat) : Le w S m A w' S (updM m nid x) (addA A nid) where
  kept b hS := hb b (fun e => hg (e ▸ hS))
  rows b c t fr hc := by
    by_cases e : b = g
    · subst e; exact hrow c t fr hc
    · exact ⟨c, by rw [hb b e]; exact hc, rfl⟩
  size := by omega
  sub _ x := x
  made _ x := .inl x
  same b hb := by
    have : b ≠ nid := fun e => hn (e ▸ hb)
    simp [updM, this]

theorem Inv.adopt (i : Inv ψ N w0 w S m A h) {b nid : Nat} {o o' : AObj} (hget : get h b = some o) (hm : mutab o = true) (hm' : mutab o' = true) (hn : ¬ A nid) (z : Nat)
    (hb : ∀ c, c ≠ (m b).1 → w'.heap[c]? = w.heap[c]?) (hs : w'.heap.size = w.heap.size) (ho : w'.os = w.os) (ht : w'.output = w.output)
    (hrow : ∀ c t fr, w.heap[(m b).1]? = some (.cells c t fr) → ∃ c', w'.heap[(m b).1]? = some (.cells c' t fr) ∧ c'.size = c.size)
    (hor : OR ψ w' S (updM m nid ((m b).1, z)) (addA A nid) ((m b).1, z) o') : Inv ψ N w0 w' S (updM m nid ((m b).1, z)) (addA A nid) (put (Pav.del h b) nid o') := by
  have hlive := i.live b o hget hm
  have le : Le w S m A w' S (updM m nid ((m b).1, z)) (addA A nid) := Le.adopt hlive.1 hb hs hrow hn _
  have sub : ∀ c x, get (Pav.del h b) c = some x → get h c = some x ∧ c ≠ b ∧ c ≠ nid := by
    intro c x hc
    rw [get_del] at hc
    by_cases e : b = c
    · simp [e] at hc
    · rw [if_neg e] at hc
      exact ⟨hc, Ne.symm e, fun e2 => hn (e2 ▸ i.dom c x hc)⟩
  have mof : ∀ c, c ≠ nid → updM m nid ((m b).1, z) c = m c := fun c hc => by simp [updM, hc]
  have mn : updM m nid ((m b).1, z) nid = ((m b).1, z) := by simp [updM]
  have part : ∀ c x, get h c = some x → c ≠ b → (m c).1 ≠ (m b).1 := by
    intro c x hc hcb
    cases hx : mutab x with
    | true => exact i.inj c x b o hc hget hx hm hcb
    | false => exact fun e2 => hlive.1 (e2 ▸ i.fro c x hc hx)
  constructor
  · intro c x hc
    rw [get_put] at hc
    by_cases e : nid = c
    · exact .inr e.symm
    · rw [if_neg e] at hc; exact .inl (i.dom c x (sub c x hc).1)
  · intro c x hc
    rw [get_put] at hc
    by_cases e : nid = c
    · rw [if_pos e] at hc; cases hc; subst e; rw [mn]; exact hor
    · rw [if_neg e] at hc
      obtain ⟨q1, q2, q3⟩ := sub c x hc
      rw [mof c q3]
      exact (i.obj c x q1).mono le (hb _ (part c x q1 q2))
  · intro c x hc hf
    rw [get_put] at hc
    by_cases e : nid = c
    · rw [if_pos e] at hc; cases hc; rw [hm'] at hf; cases hf
    · rw [if_neg e] at hc
      obtain ⟨q1, q2, q3⟩ := sub c x hc
      rw [mof c q3]; exact i.fro c x q1 hf
  · intro c x hc hf
    rw [get_put] at hc
    by_cases e : nid = c
    · subst e; rw [mn]; exact hlive
    · rw [if_neg e] at hc
      obtain ⟨q1, q2, q3⟩ := sub c x hc
      rw [mof c q3]; exact i.live c x q1 hf
  · intro c o1 c' o2 h1 h2 f1 f2 hne
    rw [get_put] at h1 h2
    by_cases e1 : nid = c
    · by_cases e2 : nid = c'
      · exact absurd (e1.symm.trans e2) hne
      · rw [if_neg e2] at h2
        obtain ⟨q1, q2, q3⟩ := sub c' o2 h2
        subst e1
        rw [mn, mof c' q3]
        exact Ne.symm (part c' o2 q1 q2)
    · rw [if_neg e1] at h1
      obtain ⟨q1, q2, q3⟩ := sub c o1 h1
      by_cases e2 : nid = c'
      · subst e2
        rw [mn, mof c q3]
        exact part c o1 q1 q2
      · rw [if_neg e2] at h2
        obtain ⟨r1, r2, r3⟩ := sub c' o2 h2
        rw [mof c q3, mof c' r3]
        exact i.inj c o1 c' o2 q1 r1 f1 f2 hne
  · intro c hc; rw [hs]; exact i.sb c hc
  · rw [hs]; exact i.size
  · intro c hc
    rw [hb c]
    · exact i.old c hc
    · have := hlive.2; omega
  · exact ho.trans i.os
  · exact ht.trans i.out

/-- Fewer blocks. -/
theorem Inv.sub (i : Inv ψ N w0 w S m A h) {h' : Heap} (sub : ∀ c o, get h' c = some o → get h c = some o) : Inv ψ N w0 w S m A h' :=
  ⟨fun c o hc => i.dom c o (sub c o hc), fun c o hc => i.obj c o (sub c o hc), fun c o hc => i.fro c o (sub c o hc), fun c o hc => i.live c o (sub c o hc),
    fun c o c' o' h1 h2 => i.inj c o c' o' (sub c o h1) (sub c' o' h2), i.sb, i.size, i.old, i.os, i.out⟩

end

/-- The slots of a frame. -/
def EnvR (ψ : Nat → FuncId) (w : World) (S : Nat → Prop) (m : Nat → Nat × Nat) (A : Nat → Prop) (e : Env) (tmps : Array Value) : Prop :=
  ∀ s v, get e s = some v → VR ψ w S m A v (tmps.getD s Go.undef)

theorem EnvR.mono {ψ : Nat → FuncId} {w w' : World} {S S' : Nat → Prop} {m m' : Nat → Nat × Nat} {A A' : Nat → Prop} {e : Env} {tmps : Array Value}
    (h : EnvR ψ w S m A e tmps) (le : Le w S m A w' S' m' A') : EnvR ψ w' S' m' A' e tmps := fun s v hs => (h s v hs).mono le

theorem EnvR.put {ψ : Nat → FuncId} {w : World} {S : Nat → Prop} {m : Nat → Nat × Nat} {A : Nat → Prop} {e : Env} {tmps : Array Value} (h : EnvR ψ w S m A e tmps)
    {d : Nat} (hd : d < tmps.size) {v : AV} {c : Value} (hv : VR ψ w S m A v c) : EnvR ψ w S m A (put e d v) (tmps.setIfInBounds d c) := by
  intro s x hs
  rw [get_put] at hs
  by_cases e1 : d = s
  · subst e1
    rw [if_pos rfl] at hs
    cases hs
    have : (tmps.setIfInBounds d c).getD d Go.undef = c := by simp [Array.getD, hd]
    rw [this]; exact hv
  · rw [if_neg e1] at hs
    have : (tmps.setIfInBounds d c).getD s Go.undef = tmps.getD s Go.undef := by
      simp only [Array.getD_eq_getD_getElem?]
      rw [Array.getElem?_setIfInBounds_ne e1]
    rw [this]; exact h s x hs

theorem EnvR.keep {ψ : Nat → FuncId} {w : World} {S : Nat → Prop} {m : Nat → Nat × Nat} {A : Nat → Prop} {e : Env} {tmps : Array Value} (h : EnvR ψ w S m A e tmps) (k : Nat) :
    EnvR ψ w S m A (Pav.keep k e) tmps := by
  intro s v hs
  rw [get_keep] at hs
  by_cases hk : k.testBit s = true
  · rw [if_pos hk] at hs; exact h s v hs
  · rw [if_neg hk] at hs; cases hs

end Go.Pav
