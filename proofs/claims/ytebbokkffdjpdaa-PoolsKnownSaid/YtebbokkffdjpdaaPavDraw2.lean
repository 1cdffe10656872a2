/- The order that the edges of a region bind. -/
import Derived.Test.YtebbokkffdjpdaaPavDraw
namespace Go.Pav
open Go

/-- One operation's ancestors. -/
def ancOf (acc : Array Nat) (o : Oper) : Nat := o.after.toList.foldl (fun s e => if Region.binds .any e then s ||| 2 ^ e.on ||| acc.getD e.on 0 else s) 0

theorem ancOf_bit {acc : Array Nat} {j : Nat} : ∀ (l : List Edge) (s : Nat), (l.foldl (fun s e => if Region.binds .any e then s ||| 2 ^ e.on ||| acc.getD e.on 0 else s) s).testBit j = true →
    s.testBit j = true ∨ ∃ e ∈ l, Region.binds .any e = true ∧ (e.on = j ∨ (acc.getD e.on 0).testBit j = true) := by
  intro l
  induction l with
  | nil => intro s h; exact .inl h
  | cons e l ih =>
    intro s h
    simp only [List.foldl_cons] at h
    rcases ih _ h with q | ⟨e', q1, q2, q3⟩
    · by_cases hb : Region.binds .any e = true
      · rw [if_pos hb] at q
        simp only [Nat.testBit_or, Bool.or_eq_true, Nat.testBit_two_pow, decide_eq_true_eq] at q
        rcases q with (q | q) | q
        · exact .inl q
        · exact .inr ⟨e, List.mem_cons_self, hb, .inl q⟩
        · exact .inr ⟨e, List.mem_cons_self, hb, .inr q⟩
      · rw [if_neg hb] at q; exact .inl q
    · exact .inr ⟨e', List.mem_cons_of_mem _ q1, q2, q3⟩

theorem foldl_push_get (g : Array Nat → Oper → Nat) : ∀ (l : List Oper) (acc : Array Nat) (k : Nat),
    (l.foldl (fun acc o => acc.push (g acc o)) acc).size = acc.size + l.length ∧
    (k < acc.size → (l.foldl (fun acc o => acc.push (g acc o)) acc)[k]? = acc[k]?) := by
  intro l
  induction l with
  | nil => intro acc k; exact ⟨rfl, fun _ => rfl⟩
  | cons o l ih =>
    intro acc k
    simp only [List.foldl_cons]
    obtain ⟨h1, h2⟩ := ih (acc.push (g acc o)) k
    refine ⟨by rw [h1]; simp; omega, fun hk => ?_⟩
    rw [h2 (by simp; omega), Array.getElem?_push, if_neg (by omega)]

theorem foldl_push_at (g : Array Nat → Oper → Nat) : ∀ (l : List Oper) (acc : Array Nat) (k : Nat) (o : Oper), l[k]? = some o →
    ∃ acc' : Array Nat, acc'.size = acc.size + k ∧ (l.foldl (fun acc o => acc.push (g acc o)) acc)[acc.size + k]? = some (g acc' o) ∧
      ∀ j, j < acc.size + k → (l.foldl (fun acc o => acc.push (g acc o)) acc)[j]? = acc'[j]? := by
  intro l
  induction l with
  | nil => intro acc k o h; simp at h
  | cons x l ih =>
    intro acc k o h
    simp only [List.foldl_cons]
    cases k with
    | zero =>
      simp at h
      subst h
      refine ⟨acc, by simp, ?_, fun j hj => ?_⟩
      · rw [(foldl_push_get g l _ _).2 (by simp)]
        simp
      · rw [(foldl_push_get g l _ _).2 (by simp; omega), Array.getElem?_push, if_neg (by omega)]
    | succ k =>
      obtain ⟨acc', h1, h2, h3⟩ := ih (acc.push (g acc x)) k o (by simpa using h)
      have e : (acc.push (g acc x)).size + k = acc.size + (k + 1) := by simp; omega
      rw [e] at h1 h2 h3
      exact ⟨acc', h1, h2, h3⟩

theorem ancestors_at {ops : List Oper} {k : Nat} {o : Oper} (hk : ops[k]? = some o) : ∃ acc : Array Nat, acc.size = k ∧ (ancestors ops).getD k 0 = ancOf acc o ∧ ∀ j, j < k → (ancestors ops).getD j 0 = acc.getD j 0 := by
  obtain ⟨acc, h1, h2, h3⟩ := foldl_push_at ancOf ops #[] k o hk
  simp only [List.size_toArray, List.length_nil, Nat.zero_add] at h1 h2 h3
  have e : ∀ j, (ancestors ops).getD j 0 = ((ops.foldl (fun acc o => acc.push (ancOf acc o)) (#[] : Array Nat))[j]?).getD 0 := by
    intro j
    rw [List.getD_eq_getElem?_getD]
    simp [ancestors, ancOf]
  refine ⟨acc, h1, by rw [e, h2]; rfl, fun j hj => ?_⟩
  rw [e, h3 j hj, Array.getD_eq_getD_getElem?]

theorem edgesOk_at : ∀ (ops : List Oper) (k0 : Nat), edgesOk k0 ops = true → ∀ (k : Nat) (o : Oper), ops[k]? = some o → ∀ e ∈ o.after.toList, Region.binds .any e = true → e.on < k0 + k := by
  intro ops
  induction ops with
  | nil => intro k0 _ k o h; simp at h
  | cons x ops ih =>
    intro k0 h k o hk e he hb
    simp only [edgesOk, Bool.and_eq_true] at h
    cases k with
    | zero =>
      simp at hk
      subst hk
      have := List.all_eq_true.1 h.1 e he
      simp only [hb, Bool.not_true, Bool.false_or] at this
      rw [Nat.blt_eq] at this
      omega
    | succ k =>
      have := ih (k0 + 1) h.2 k o (by simpa using hk) e he hb
      omega

/-- An ancestor is one by an edge, or an ancestor of one that is. -/
theorem ancestors_bit {ops : List Oper} (hE : edgesOk 0 ops = true) {k j : Nat} {o : Oper} (hk : ops[k]? = some o) (hj : ((ancestors ops).getD k 0).testBit j = true) :
    ∃ e ∈ o.after.toList, Region.binds .any e = true ∧ e.on < k ∧ (e.on = j ∨ ((ancestors ops).getD e.on 0).testBit j = true) := by
  obtain ⟨acc, h1, h2, h3⟩ := ancestors_at hk
  rw [h2] at hj
  rcases ancOf_bit _ _ hj with q | ⟨e, q1, q2, q3⟩
  · simp at q
  · have hlt := edgesOk_at ops 0 hE k o hk e q1 q2
    rw [Nat.zero_add] at hlt
    exact ⟨e, q1, q2, hlt, by rw [h3 _ hlt]; exact q3⟩

theorem ancestors_length (ops : List Oper) : (ancestors ops).length = ops.length := by
  have := (foldl_push_get ancOf ops #[] 0).1
  simpa [ancestors, ancOf] using this

theorem mem_unordered {anc : List Nat} {i j : Nat} (hij : i < j) (hj : j < anc.length) (hb : (anc.getD j 0).testBit i = false) : (i, j) ∈ unordered anc := by
  simp only [unordered, List.mem_flatMap, List.mem_range, List.mem_filterMap]
  exact ⟨j, hj, i, hij, by rw [hb]; rfl⟩

theorem meets_no {a b : List Nat} (h : meets a b = false) : ∀ x ∈ a, x ∉ b := by
  intro x hx hy
  have : meets a b = true := by
    simp only [meets, List.any_eq_true, decide_eq_true_eq]
    exact ⟨x, hx, x, hy, rfl⟩
  rw [h] at this; cases this

/-- Two operations whose order is free. -/
structure Apart (a b : COper) (x y : Did) : Prop where
  s1 : ∀ d, a.dst = some d → d ∉ b.slots
  s2 : ∀ d, a.dst = some d → b.dst ≠ some d
  s3 : ∀ d, b.dst = some d → d ∉ a.slots
  rd : y.bar = false → ∀ c ∈ y.rd, x.bar = false ∧ c ∉ x.wr
  bar : y.bar = true → x.bar = false ∧ x.wr = []
  wr : y.bar = false → ∀ c ∈ y.wr, x.bar = false ∧ c ∉ x.wr
  rd' : x.bar = false → ∀ c ∈ x.rd, y.bar = false ∧ c ∉ y.wr
  bar' : x.bar = true → y.bar = false ∧ y.wr = []
  wr' : x.bar = false → ∀ c ∈ x.wr, y.bar = false ∧ c ∉ y.wr

theorem Apart.symm {a b : COper} {x y : Did} (h : Apart a b x y) : Apart b a y x :=
  ⟨h.s3, fun d h1 h2 => h.s2 d h2 h1, h.s1, h.rd', h.bar', h.wr', h.rd, h.bar, h.wr⟩

theorem Apart.of {a b : COper} {x y : Did} (hs : slotsApart a b = true) (hc : clash x y = false ∨ (x.bar = false ∧ x.wr = [] ∧ x.rd = []) ∨ (y.bar = false ∧ y.wr = [] ∧ y.rd = []) ∨ (x.bar = false ∧ x.wr = [] ∧ y.bar = false ∧ y.wr = [])) :
    Apart a b x y := by
  have h1 : (∀ d, a.dst = some d → d ∉ b.slots) ∧ (∀ d, a.dst = some d → b.dst ≠ some d) ∧ ∀ d, b.dst = some d → d ∉ a.slots := by
    unfold slotsApart at hs
    simp only [Bool.and_eq_true] at hs
    refine ⟨fun d hd => ?_, fun d hd => ?_, fun d hd => ?_⟩
    · have := hs.1; rw [hd] at this
      simp only [Bool.and_eq_true, Bool.not_eq_true', List.contains_eq_mem, decide_eq_false_iff_not] at this
      exact this.1
    · have := hs.1; rw [hd] at this
      simp only [Bool.and_eq_true, Bool.not_eq_true', beq_eq_false_iff_ne] at this
      exact this.2
    · have := hs.2; rw [hd] at this
      simp only [Bool.not_eq_true', List.contains_eq_mem, decide_eq_false_iff_not] at this
      exact this
  obtain ⟨s1, s2, s3⟩ := h1
  have nil : ∀ {l : List Nat} {c : Nat}, l = [] → c ∉ l := fun h hc => by subst h; cases hc
  rcases hc with h | ⟨h1, h2, h3⟩ | ⟨h1, h2, h3⟩ | ⟨h1, h2, h3, h4⟩
  · unfold clash at h
    simp only [Bool.or_eq_false_iff] at h
    obtain ⟨b1, b2, m1, m2, m3⟩ := h
    exact ⟨s1, s2, s3, fun _ c hc => ⟨b1, fun hx => meets_no m2 c hx hc⟩, fun hb => (by rw [b2] at hb; cases hb), fun _ c hc => ⟨b1, fun hx => meets_no m1 c hx hc⟩,
      fun _ c hc => ⟨b2, fun hx => meets_no m3 c hc hx⟩, fun hb => (by rw [b1] at hb; cases hb), fun _ c hc => ⟨b2, fun hx => meets_no m1 c hc hx⟩⟩
  · exact ⟨s1, s2, s3, fun _ c _ => ⟨h1, nil h2⟩, fun _ => ⟨h1, h2⟩, fun _ c _ => ⟨h1, nil h2⟩,
      fun _ c hc => absurd hc (nil h3), fun hb => (by rw [h1] at hb; cases hb), fun _ c hc => absurd hc (nil h2)⟩
  · exact ⟨s1, s2, s3, fun _ c hc => absurd hc (nil h3), fun hb => (by rw [h1] at hb; cases hb), fun _ c hc => absurd hc (nil h2),
      fun _ c _ => ⟨h1, nil h2⟩, fun _ => ⟨h1, h2⟩, fun _ c _ => ⟨h1, nil h2⟩⟩
  · exact ⟨s1, s2, s3, fun _ c _ => ⟨h1, nil h2⟩, fun _ => ⟨h1, h2⟩, fun _ c _ => ⟨h1, nil h2⟩,
      fun _ c _ => ⟨h3, nil h4⟩, fun _ => ⟨h3, h4⟩, fun _ c _ => ⟨h3, nil h4⟩⟩

end Go.Pav
