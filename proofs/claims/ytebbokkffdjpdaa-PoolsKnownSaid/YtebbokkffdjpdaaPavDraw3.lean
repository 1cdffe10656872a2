/- Soundness of drawn regions. -/
import Derived.Test.YtebbokkffdjpdaaPavDraw2
namespace Go.Pav
open Go

section
variable {P : Program} {φ : FuncId → Option Nat} {ψ : Nat → FuncId} {C : Prog} {run : Run} {N : Nat} {w0 w : World} {S : Nat → Prop} {m : Nat → Nat × Nat} {A : Nat → Prop} {a : Act}

theorem Inv.ext {h h' : Heap} (i : Inv ψ N w0 w S m A h) (hh : ∀ b, get h' b = get h b) : Inv ψ N w0 w S m A h' :=
  i.sub fun c o hc => by rw [← hh c]; exact hc

theorem EnvR.ext {e e' : Env} {tmps : Array Value} (i : EnvR ψ w S m A e tmps) (hh : ∀ b, get e' b = get e b) : EnvR ψ w S m A e' tmps :=
  fun s v hs => i s v (by rw [← hh s]; exact hs)

theorem get_setDst (e : Env) (d : Option Nat) (v : AV) (s : Nat) : get (setDst e d v) s = if d = some s then some v else get e s := by
  cases d with
  | none => simp [setDst]
  | some d => simp [setDst, get_put]

/-- A region drawn: its operations, its run in the order of the text. -/
structure Drawn (C : Prog) (run : Run) (P : Program) (φ : FuncId → Option Nat) (ops : Array Oper) (base : Nat) (e0 : Env) (h0 : Heap) (n0 : Nat) (D : Nat → Did) (st : Nat → St) : Prop where
  edges : edgesOk 0 ops.toList = true
  ap : ∀ (i j : Nat) (a b : Oper), ops[i]? = some a → ops[j]? = some b → i < j → ((ancestors ops.toList).getD j 0).testBit i = false → Apart (cOper P φ ops a) (cOper P φ ops b) (D i) (D j)
  did : ∀ (k : Nat) (o : Oper), ops[k]? = some o → evOp C run (cOper P φ ops o) (base + k) (st k).env (st k).heap (st k).next = some (D k)
  env : ∀ k s, k ≤ ops.size → get (st k).env s = envAt e0 (fun k => (ops[k]?).bind (·.dst)) D (fun _ => true) s k
  heap : ∀ k b, k ≤ ops.size → get (st k).heap b = heapAt h0 D (fun _ => true) b k
  next : ∀ k, k ≤ ops.size → (st k).next = nAt n0 D (fun _ => true) k

theorem cOper_dst (P : Program) (φ : FuncId → Option Nat) (ops : Array Oper) (o : Oper) : (cOper P φ ops o).dst = o.dst := by
  unfold cOper; simp only; split <;> rfl

theorem Drawn.make {ops : Array Oper} {s : St} {r : St × List Did}
    (hE : edgesOk 0 ops.toList = true)
    (hu : (unordered (ancestors ops.toList)).all (fun p => slotsApart ((ops.toList.map (cOper P φ ops)).getD p.1 default) ((ops.toList.map (cOper P φ ops)).getD p.2 default)) = true)
    (hr : evDraw C run (ops.toList.map (cOper P φ ops)) s.next ⟨s.env, s.heap, s.next + (ops.toList.map (cOper P φ ops)).length⟩ [] = some r)
    (hap : ((unordered (ancestors ops.toList)).filter fun p => mayClash ((ops.toList.map (cOper P φ ops)).getD p.1 default).op ((ops.toList.map (cOper P φ ops)).getD p.2 default).op).all (apart r.2) = true) :
    ∃ D st, Drawn C run P φ ops s.next s.env s.heap (s.next + ops.size) D st ∧ r.1 = st ops.size := by
  obtain ⟨s', ds⟩ := r
  obtain ⟨st, ds1, h1, h2, h3, h4, h5⟩ := evDraw_spec _ _ _ _ _ _ hr
  simp only [List.nil_append] at h1
  subst h1
  simp only [List.length_map, Array.length_toList] at h2 h3 h4
  have at_ : ∀ (k : Nat) (o : Oper), ops[k]? = some o → (ops.toList.map (cOper P φ ops))[k]? = some (cOper P φ ops o) := by
    intro k o hk
    rw [List.getElem?_map, Array.getElem?_toList, hk]; rfl
  have gd : ∀ (k : Nat) (o : Oper), ops[k]? = some o → (ops.toList.map (cOper P φ ops)).getD k default = cOper P φ ops o := by
    intro k o hk
    rw [List.getD_eq_getElem?_getD, at_ k o hk]; rfl
  have each : ∀ (k : Nat) (o : Oper), ops[k]? = some o → ds[k]? = some (ds.getD k ⟨.undef, [], 0, false, [], []⟩) ∧ evOp C run (cOper P φ ops o) (s.next + k) (st k).env (st k).heap (st k).next = some (ds.getD k ⟨.undef, [], 0, false, [], []⟩) ∧
      st (k + 1) = ⟨setDst (st k).env o.dst (ds.getD k ⟨.undef, [], 0, false, [], []⟩).v, (ds.getD k ⟨.undef, [], 0, false, [], []⟩).h, (ds.getD k ⟨.undef, [], 0, false, [], []⟩).n⟩ := by
    intro k o hk
    obtain ⟨d, q1, q2, q3⟩ := h5 k _ (at_ k o hk)
    have e : ds.getD k ⟨.undef, [], 0, false, [], []⟩ = d := by rw [List.getD_eq_getElem?_getD, q1]; rfl
    rw [e]
    rw [cOper_dst] at q3
    exact ⟨q1, q2, q3⟩
  have opAt : ∀ k, k < ops.size → ops[k]? = some ops[k]! := by
    intro k hk
    rw [getElem!_pos ops k hk]; exact Array.getElem?_eq_getElem hk
  refine ⟨fun k => ds.getD k ⟨.undef, [], 0, false, [], []⟩, st, ⟨hE, ?_, fun k o hk => (each k o hk).2.1, ?_, ?_, ?_⟩, ?_⟩
  · intro i j a b hi hj hij hb
    have hjl : j < (ancestors ops.toList).length := by rw [ancestors_length]; simpa using (Array.getElem?_eq_some_iff.1 hj).1
    have hm := mem_unordered hij hjl hb
    have hsl := List.all_eq_true.1 hu _ hm
    simp only [gd i a hi, gd j b hj] at hsl
    refine Apart.of hsl ?_
    obtain ⟨sa1, sa2⟩ := evOp_shape (each i a hi).2.1
    obtain ⟨sb1, sb2⟩ := evOp_shape (each j b hj).2.1
    cases hmc : mayClash (cOper P φ ops a).op (cOper P φ ops b).op with
    | true =>
      left
      have := List.all_eq_true.1 hap (i, j) (List.mem_filter.2 ⟨hm, by simp only [gd i a hi, gd j b hj]; exact hmc⟩)
      simp only [apart, (each i a hi).1, (each j b hj).1, Bool.not_eq_true'] at this
      exact this
    | false =>
      right
      unfold mayClash at hmc
      cases ta : touches (cOper P φ ops a).op with
      | false => exact .inl (sa2 ta)
      | true =>
        cases tb : touches (cOper P φ ops b).op with
        | false => exact .inr (.inl (sb2 tb))
        | true =>
          simp only [ta, tb, Bool.and_self, Bool.true_and, Bool.or_eq_false_iff] at hmc
          obtain ⟨⟨⟨c1, c2⟩, c3⟩, c4⟩ := hmc
          obtain ⟨x1, x2⟩ := sa1 c1 c3
          obtain ⟨y1, y2⟩ := sb1 c2 c4
          exact .inr (.inr ⟨x1, x2, y1, y2⟩)
  · intro k sl
    induction k with
    | zero => intro _; rw [h3]; rfl
    | succ k ih =>
      intro hk
      have ho := opAt k (by omega)
      rw [(each k _ ho).2.2, get_setDst]
      simp only [envAt, true_and, ho, Option.bind_some]
      split
      · rfl
      · exact ih (by omega)
  · intro k b
    induction k with
    | zero => intro _; rw [h3]; rfl
    | succ k ih =>
      intro hk
      have ho := opAt k (by omega)
      rw [(each k _ ho).2.2]
      simp only [heapAt, true_and]
      split
      · rfl
      · rename_i hno
        simp only [not_or, Bool.not_eq_true] at hno
        obtain ⟨u, q1, _⟩ := evOp_local (each k _ ho).2.1 hno.1
        rw [← ih (by omega), q1]
        rw [q1] at hno
        exact applyUpd_other u _ hno.2
  · intro k
    induction k with
    | zero => intro _; rw [h3]; simp [nAt]
    | succ k ih =>
      intro hk
      have ho := opAt k (by omega)
      rw [(each k _ ho).2.2]
      simp only [nAt, true_and]
      split
      · rfl
      · rename_i hno
        simp only [Bool.not_eq_true] at hno
        obtain ⟨u, q1, _⟩ := evOp_local (each k _ ho).2.1 hno
        rw [q1]
        exact ih (by omega)
  · exact h4.symm

/-- Behind the operations of a set. -/
def AtL (ψ : Nat → FuncId) (N : Nat) (w0 w1 : World) (S : Nat → Prop) (m : Nat → Nat × Nat) (A : Nat → Prop) (ops : Array Oper) (base : Nat) (e0 : Env) (h0 : Heap) (n0 : Nat) (D : Nat → Did) (a0 : Act) (L : Nat → Bool) (a : Act) (w : World) : Prop :=
  ∃ S' m' A' e h n, Inv ψ N w0 w S' m' A' h ∧ EnvR ψ w S' m' A' e a.tmps ∧ (∀ s, get e s = envAt e0 (fun k => (ops[k]?).bind (·.dst)) D L s ops.size) ∧ (∀ b, get h b = heapAt h0 D L b ops.size) ∧
    n = nAt n0 D L ops.size ∧ a.tmps.size = a0.tmps.size ∧ a.defers = a0.defers ∧ Le w1 S m A w S' m' A' ∧ (∀ c, c < N → S' c → S c) ∧ base + ops.size ≤ n ∧
    ∀ b, A' b → A b ∨ (∃ k, k < ops.size ∧ L k = true ∧ b = base + k) ∨ (base + ops.size ≤ b ∧ b < n)

theorem drawn_step {ops : Array Oper} {base : Nat} {e0 : Env} {h0 : Heap} {n0 : Nat} {D : Nat → Did} {st : Nat → St} (dr : Drawn C run P φ ops base e0 h0 n0 D st) (hr : RunOk P ψ run) (ids : ∀ f g, φ f = some g → ψ g = f)
    {w1 : World} {a0 : Act} (hA0 : ∀ b, A b → b < base) (hd : ∀ o ∈ ops.toList, ∀ x, o.dst = some x → x < a0.tmps.size) {L M : Nat → Bool} {i : Nat} {o : Oper} (hi : ops[i]? = some o) (hL : L i = false) (hM : ∀ k, M k = (decide (k = i) || L k))
    (ready : ∀ e ∈ o.after.toList, Region.binds .any e = true → L e.on = true) (clos : ∀ k, k < ops.size → L k = true → ∀ j, ((ancestors ops.toList).getD k 0).testBit j = true → L j = true)
    {Q : Exit → Act → World → Prop} {K : Act → World → Prop} {a : Act} {w : World} (hat : AtL ψ N w0 w1 S m A ops base e0 h0 n0 D a0 L a w)
    (hK : ∀ a' w', AtL ψ N w0 w1 S m A ops base e0 h0 n0 D a0 M a' w' → K a' w') : wpOp P ops Q i K a w := by
  obtain ⟨S1, m1, A1, e, h, n, r1, r2, r3, r4, r5, r6, r7, r8, r9, r10, r11⟩ := hat
  have hil : i < ops.size := (Array.getElem?_eq_some_iff.1 hi).1
  have hil' : ops.toList[i]? = some o := by simpa using hi
  -- those ahead of i
  have anci : ∀ j, ((ancestors ops.toList).getD i 0).testBit j = true → L j = true := by
    intro j hj
    obtain ⟨ed, q1, q2, q3, q4⟩ := ancestors_bit dr.edges hil' hj
    have q5 := ready ed q1 q2
    rcases q4 with q | q
    · rw [← q]; exact q5
    · exact clos ed.on (by omega) q5 j q
  have differ : ∀ k, k < ops.size → L k = decide (k < i) ∨ (k ≠ i ∧ ∃ o', ops[k]? = some o' ∧ Apart (cOper P φ ops o') (cOper P φ ops o) (D k) (D i)) := by
    intro k hk
    have hok : ops[k]? = some ops[k] := Array.getElem?_eq_getElem hk
    rcases Nat.lt_trichotomy k i with q | q | q
    · cases hLk : L k with
      | true => exact .inl (by simp [q])
      | false =>
        refine .inr ⟨by omega, _, hok, dr.ap k i _ _ hok hi q ?_⟩
        cases hb : ((ancestors ops.toList).getD i 0).testBit k with
        | false => rfl
        | true => rw [anci k hb] at hLk; cases hLk
    · subst q; exact .inl (by rw [hL]; simp)
    · cases hLk : L k with
      | false => exact .inl (by simp; omega)
      | true =>
        refine .inr ⟨by omega, _, hok, (dr.ap i k _ _ hi hok q ?_).symm⟩
        cases hb : ((ancestors ops.toList).getD k 0).testBit i with
        | false => rfl
        | true => rw [clos k hk hLk i hb] at hL; cases hL
  have later : ∀ k, k < ops.size → i < k → L k = true → ∃ o', ops[k]? = some o' ∧ Apart (cOper P φ ops o') (cOper P φ ops o) (D k) (D i) := by
    intro k hk hik hLk
    rcases differ k hk with q | ⟨_, q⟩
    · rw [hLk] at q
      have : k < i := of_decide_eq_true q.symm
      omega
    · exact q
  -- what it sees
  have hsame : SameAt (cOper P φ ops o).slots (st i).env e := by
    intro s hs
    rw [dr.env i s (by omega), r3 s, ← envAt_cut ops.size (by omega)]
    refine (envAt_congr ops.size fun k hk => ?_).symm
    rcases differ k hk with q | ⟨_, o', q1, q2⟩
    · exact .inl q
    · refine .inr fun hdk => ?_
      rw [q1] at hdk
      exact q2.s1 s (by rw [cOper_dst]; exact hdk) hs
  have hheap : ∀ b, ((D i).bar = false → b ∈ (D i).rd) → get (st i).heap b = get h b := by
    intro b hb
    rw [dr.heap i b (by omega), r4 b, ← heapAt_cut ops.size (by omega)]
    refine (heapAt_congr ops.size fun k hk => ?_).symm
    rcases differ k hk with q | ⟨_, o', q1, q2⟩
    · exact .inl q
    · refine .inr ?_
      cases hbar : (D i).bar with
      | false => exact q2.rd hbar b (hb hbar)
      | true => obtain ⟨x1, x2⟩ := q2.bar hbar; exact ⟨x1, by rw [x2]; intro hx; cases hx⟩
  have hnid : ¬ A1 (base + i) := by
    intro hb
    rcases r11 _ hb with q | ⟨k, q1, q2, q3⟩ | ⟨q1, q2⟩
    · have := hA0 _ q; omega
    · have : k = i := by omega
      rw [this, hL] at q2; cases q2
    · omega
  have hA1 : ∀ b, A1 b → b < n := by
    intro b hb
    rcases r11 b hb with q | ⟨k, q1, q2, q3⟩ | ⟨q1, q2⟩
    · have := hA0 _ q; omega
    · omega
    · exact q2
  -- what is behind it
  have fin : ∀ (d : Did), d.v = (D i).v → (∀ b, get d.h b = if (D i).bar = true ∨ b ∈ (D i).wr then get (D i).h b else heapAt h0 D L b ops.size) → d.n = (if (D i).bar = true then (D i).n else n) →
      ∀ cv w', OpOut ψ N w0 w S1 m1 A1 (base + i) n w' cv d → K (a.put o.dst cv) w' := by
    rintro d ev eh en cv w' ⟨S2, m2, A2, q1, q2, q3, q4, q5, q6⟩
    refine hK _ _ ⟨S2, m2, A2, setDst e o.dst d.v, d.h, d.n, q2, (r2.mono q3).setDst (fun x hx => by rw [r6]; exact hd o (List.mem_of_getElem? hil') x hx) q1, fun s => ?_, fun b => ?_, ?_, (Act.put_size ..).trans r6, (Act.put_defers' ..).trans r7, r8.trans q3, fun c hc hs => r9 c hc (q4 c hc hs), by omega, fun b hb => ?_⟩
    · rw [get_setDst, envAt_add (s := s) hL hM ops.size hil, ev, r3 s, hi]
      · rfl
      · intro k hk hik hLk hdi hdk
        obtain ⟨o', x1, x2⟩ := later k hk hik hLk
        rw [hi] at hdi
        rw [x1] at hdk
        exact x2.s2 s (by rw [cOper_dst]; exact hdk) (by rw [cOper_dst]; exact hdi)
    · rw [eh b, heapAt_add (b := b) hL hM ops.size hil]
      intro k hk hik hLk hx hy
      obtain ⟨o', x1, x2⟩ := later k hk hik hLk
      cases hbar : (D i).bar with
      | true =>
        obtain ⟨y1, y2⟩ := x2.bar hbar
        rw [y1, y2] at hy
        rcases hy with hy | hy <;> cases hy
      | false =>
        rw [hbar] at hx
        have hx := hx.resolve_left (by simp)
        obtain ⟨y1, y2⟩ := x2.wr hbar b hx
        rw [y1] at hy
        exact y2 (hy.resolve_left (by simp))
    · rw [en, nAt_add hL hM ops.size hil, r5]
      intro k hk hik hLk hx
      obtain ⟨o', x1, x2⟩ := later k hk hik hLk
      exact (x2.bar hx).1
    · rcases q6 b hb with z | z | ⟨z1, z2⟩
      · rcases r11 b z with y | ⟨k, y1, y2, y3⟩ | ⟨y1, y2⟩
        · exact .inl y
        · exact .inr (.inl ⟨k, y1, by rw [hM, y2]; simp, y3⟩)
        · exact .inr (.inr ⟨y1, by omega⟩)
      · exact .inr (.inl ⟨i, hil, by rw [hM]; simp, z⟩)
      · exact .inr (.inr ⟨by omega, z2⟩)
  cases hbar : (D i).bar with
  | false =>
    obtain ⟨u, e1, e2⟩ := evOp_local (dr.did i o hi) hbar
    have hev := e2 e h n hsame fun b hb => hheap b fun _ => hb
    refine op_ok hr hi hev ⟨r1, r2, ids⟩ hA1 hnid fun cv w' hout => fin ⟨(D i).v, applyUpd h u, n, false, (D i).rd, u.map (·.1)⟩ rfl (fun b => ?_) ?_ cv w' hout
    · have hwr : (D i).wr = u.map (·.1) := by rw [e1]
      have hh : (D i).h = applyUpd (st i).heap u := by rw [e1]
      simp only [hbar, Bool.false_eq_true, false_or, hwr, hh]
      by_cases hb : b ∈ u.map (·.1)
      · rw [if_pos hb]; exact applyUpd_here u _ _ hb
      · rw [if_neg hb, ← r4 b]; exact applyUpd_other u _ hb
    · rw [hbar]; rfl
  | true =>
    have hn : n = (st i).next := by
      rw [r5, dr.next i (by omega), ← nAt_cut ops.size (by omega)]
      refine nAt_congr ops.size fun k hk => ?_
      rcases differ k hk with q | ⟨_, o', q1, q2⟩
      · exact .inl q
      · exact .inr (q2.bar hbar).1
    have hev := dr.did i o hi
    rw [evOp_env hsame, ← hn] at hev
    have hi1 : Inv ψ N w0 w S1 m1 A1 (st i).heap := r1.ext fun b => hheap b fun hx => by rw [hbar] at hx; cases hx
    refine op_ok hr hi hev ⟨hi1, r2, ids⟩ hA1 hnid fun cv w' hout => fin (D i) rfl (fun b => ?_) ?_ cv w' hout
    · rw [if_pos (.inl hbar)]
    · rw [if_pos hbar]

end
end Go.Pav
