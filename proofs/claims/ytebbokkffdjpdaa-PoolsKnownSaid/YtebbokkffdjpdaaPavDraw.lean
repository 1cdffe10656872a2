/- Soundness of operations whose order is drawn. -/
import Derived.Test.YtebbokkffdjpdaaPavLocal
namespace Go.Pav
open Go

section
variable {C : Prog} {run : Run}

/-- The run in the order of the text, state by state. -/
theorem evDraw_spec : ∀ (l : List COper) (nid : Nat) (s : St) (ds0 : List Did) (s' : St) (ds : List Did), evDraw C run l nid s ds0 = some (s', ds) →
    ∃ (st : Nat → St) (ds1 : List Did), ds = ds0 ++ ds1 ∧ ds1.length = l.length ∧ st 0 = s ∧ st l.length = s' ∧
      ∀ k o, l[k]? = some o → ∃ d, ds1[k]? = some d ∧ evOp C run o (nid + k) (st k).env (st k).heap (st k).next = some d ∧ st (k + 1) = ⟨setDst (st k).env o.dst d.v, d.h, d.n⟩ := by
  intro l
  induction l with
  | nil =>
    intro nid s ds0 s' ds h
    simp only [evDraw, Option.some.injEq, Prod.mk.injEq] at h
    obtain ⟨rfl, rfl⟩ := h
    exact ⟨fun _ => s, [], by simp, rfl, rfl, rfl, fun k o hk => by simp at hk⟩
  | cons o l ih =>
    intro nid s ds0 s' ds h
    simp only [evDraw] at h
    obtain ⟨d, hd, h⟩ := ob_some h
    obtain ⟨st, ds1, h1, h2, h3, h4, h5⟩ := ih _ _ _ _ _ h
    refine ⟨fun k => match k with | 0 => s | k + 1 => st k, d :: ds1, by simp [h1], by simp [h2], rfl, by simpa using h4, ?_⟩
    intro k o' hk
    cases k with
    | zero =>
      simp at hk
      subst hk
      exact ⟨d, by simp, by simpa using hd, h3⟩
    | succ k =>
      obtain ⟨d', q1, q2, q3⟩ := h5 k o' (by simpa using hk)
      refine ⟨d', by simpa using q1, ?_, q3⟩
      have : nid + (k + 1) = nid + 1 + k := by omega
      rw [this]; exact q2

theorem applyUpd_other {b : Nat} : ∀ (u : Upd) (h : Heap), b ∉ u.map (·.1) → get (applyUpd h u) b = get h b := by
  intro u
  induction u with
  | nil => intro h _; rfl
  | cons x u ih =>
    intro h hb
    obtain ⟨c, o⟩ := x
    simp only [List.map_cons, List.mem_cons, not_or] at hb
    simp only [applyUpd]
    rw [ih _ hb.2]
    cases o with
    | none => simp only [updOne, get_del]; rw [if_neg (Ne.symm hb.1)]
    | some o => simp only [updOne, get_put]; rw [if_neg (Ne.symm hb.1)]

theorem applyUpd_here {b : Nat} : ∀ (u : Upd) (h h' : Heap), b ∈ u.map (·.1) → get (applyUpd h u) b = get (applyUpd h' u) b := by
  intro u
  induction u with
  | nil => intro h h' hb; simp at hb
  | cons x u ih =>
    intro h h' hb
    obtain ⟨c, o⟩ := x
    simp only [applyUpd]
    by_cases hu : b ∈ u.map (·.1)
    · exact ih _ _ hu
    · rw [applyUpd_other u _ hu, applyUpd_other u _ hu]
      simp only [List.map_cons, List.mem_cons] at hb
      have hc : b = c := hb.resolve_right hu
      subst hc
      cases o with
      | none => simp only [updOne, get_del, if_true]
      | some o => simp only [updOne, get_put, if_true]

/-- An operation that neither writes nor makes leaves the heap alone. -/
theorem step_quiet {op : COp} {e : Env} {h : Heap} {nid : Nat} {v : AV} {u : Upd} (hs : stepOp op e h nid = some (v, u)) (hw : writes op = false) (hm : op.makes = false) : u = [] := by
  cases op <;> simp only [writes, COp.makes] at hw hm <;> try (cases hw; done)
  all_goals (first | (cases hm; done) | skip)
  all_goals simp only [stepOp] at hs
  case mv x => simp only [sMv, Option.some.injEq, Prod.mk.injEq] at hs; exact hs.2.symm
  case pick c a b => simp only [sPick] at hs; split at hs <;> cases hs; rfl
  case build z ps => obtain ⟨_, _, h⟩ := om_some hs; cases h; rfl
  case load n ag a => exact (ov_some hs).2
  case nilchk x => simp only [sNilchk] at hs; split at hs <;> cases hs <;> rfl
  case bin o x y => exact (ov_some hs).2
  case eqv kd ks ne x y => obtain ⟨_, _, h⟩ := om_some hs; cases h; rfl
  case un o x => exact (ov_some hs).2
  case cvt k x => simp only [sCvt] at hs; split at hs <;> cases hs; rfl
  case cvs x => simp only [sCvs] at hs; split at hs <;> cases hs; rfl
  case mkfn f caps => simp only [sMkfn] at hs; split at hs <;> cases hs; rfl
  case slice z x lo hi mx => exact (ov_some hs).2
  case fld off x => simp only [sFld] at hs; split at hs <;> cases hs <;> rfl
  case fldv off n ag x =>
    simp only [sFldv] at hs
    split at hs
    · exact (ov_some hs).2
    · cases hs
  case idxs z x i =>
    simp only [sIdxs] at hs
    split at hs
    · obtain ⟨n, _, hs⟩ := ob_some hs
      unfold idxsAt at hs
      split at hs
      · split at hs
        · obtain ⟨_, _, hs⟩ := ob_some hs; cases hs; rfl
        · cases hs
      · split at hs <;> cases hs; rfl
      · cases hs
    · cases hs
  case idxa len z x i =>
    simp only [sIdxa] at hs
    split at hs
    · obtain ⟨n, _, hs⟩ := ob_some hs
      split at hs
      · unfold idxaAt at hs; split at hs <;> cases hs <;> rfl
      · cases hs
    · cases hs
  case idxstr x i =>
    simp only [sIdxstr] at hs
    split at hs
    · obtain ⟨n, _, hs⟩ := ob_some hs
      obtain ⟨_, _, hs⟩ := ob_some hs
      cases hs; rfl
    · cases hs
  case idxv len z ag x i =>
    simp only [sIdxv] at hs
    split at hs
    · obtain ⟨n, _, hs⟩ := ob_some hs
      split at hs
      · exact (ov_some hs).2
      · cases hs
    · cases hs
  case look kd z ok m k =>
    simp only [sLook] at hs
    split at hs
    · split at hs
      · cases hs; rfl
      · exact (ov_some hs).2
      · cases hs
    · cases hs
  case ext i x =>
    simp only [sExt] at hs
    split at hs
    · exact (ov_some hs).2
    · cases hs
  case len kd x => exact (ov_some hs).2
  case cap x => exact (ov_some hs).2
  case mx x y =>
    simp only [sMx] at hs
    split at hs
    · split at hs <;> cases hs; rfl
    · cases hs
  case mn x y =>
    simp only [sMn] at hs
    split at hs
    · split at hs <;> cases hs; rfl
    · cases hs
  case fail => simp only [sNone] at hs; cases hs

/-- What an operation's form says of what it does. -/
theorem evOp_shape {o : COper} {nid : Nat} {e : Env} {h : Heap} {n : Nat} {d : Did} (he : evOp C run o nid e h n = some d) :
    (writes o.op = false → o.op.makes = false → d.bar = false ∧ d.wr = []) ∧ (touches o.op = false → d.bar = false ∧ d.wr = [] ∧ d.rd = []) := by
  have wt : touches o.op = false → writes o.op = false ∧ o.op.makes = false ∧ (∀ e : Env, readsOf e o.op = []) := by
    intro ht
    cases hop : o.op <;> rw [hop] at ht <;> simp only [touches] at ht <;> first | (cases ht; done) | exact ⟨rfl, rfl, fun _ => rfl⟩
  unfold evOp at he
  split at he
  · cases he
  · cases he; exact ⟨fun _ _ => ⟨rfl, rfl⟩, fun _ => ⟨rfl, rfl, rfl⟩⟩
  · unfold evAct at he
    split at he
    · cases he
    · rename_i f args hc
      have hw : writes o.op = true := by
        cases hop : o.op <;> rw [hop] at hc <;> simp [callOf] at hc <;> rfl
      exact ⟨fun h _ => (by rw [hw] at h; cases h), fun h => (by rw [(wt h).1] at hw; cases hw)⟩
    · obtain ⟨⟨v, u⟩, hst, rfl⟩ := om_some he
      refine ⟨fun h1 h2 => ⟨rfl, ?_⟩, fun ht => ⟨rfl, ?_, ?_⟩⟩
      · rw [step_quiet hst h1 h2]; rfl
      · obtain ⟨h1, h2, _⟩ := wt ht
        rw [step_quiet hst h1 h2]; rfl
      · exact (wt ht).2.2 e

end

/-- Slots, blocks and numbers behind the operations of a set L. -/
def envAt (e0 : Env) (dst : Nat → Option Nat) (D : Nat → Did) (L : Nat → Bool) (s : Nat) : Nat → Option AV
  | 0 => get e0 s
  | k + 1 => if L k = true ∧ dst k = some s then some (D k).v else envAt e0 dst D L s k

def heapAt (h0 : Heap) (D : Nat → Did) (L : Nat → Bool) (b : Nat) : Nat → Option AObj
  | 0 => get h0 b
  | k + 1 => if L k = true ∧ ((D k).bar = true ∨ b ∈ (D k).wr) then get (D k).h b else heapAt h0 D L b k

def nAt (n0 : Nat) (D : Nat → Did) (L : Nat → Bool) : Nat → Nat
  | 0 => n0
  | k + 1 => if L k = true ∧ (D k).bar = true then (D k).n else nAt n0 D L k

section
variable {e0 : Env} {h0 : Heap} {n0 : Nat} {dst : Nat → Option Nat} {D : Nat → Did} {L M : Nat → Bool}

theorem envAt_congr {s : Nat} : ∀ (n : Nat), (∀ k, k < n → L k = M k ∨ dst k ≠ some s) → envAt e0 dst D L s n = envAt e0 dst D M s n := by
  intro n
  induction n with
  | zero => intro _; rfl
  | succ n ih =>
    intro h
    simp only [envAt]
    rw [ih fun k hk => h k (by omega)]
    rcases h n (by omega) with q | q
    · rw [q]
    · rw [if_neg (fun x => q x.2), if_neg (fun x => q x.2)]

theorem heapAt_congr {b : Nat} : ∀ (n : Nat), (∀ k, k < n → L k = M k ∨ ((D k).bar = false ∧ b ∉ (D k).wr)) → heapAt h0 D L b n = heapAt h0 D M b n := by
  intro n
  induction n with
  | zero => intro _; rfl
  | succ n ih =>
    intro h
    simp only [heapAt]
    rw [ih fun k hk => h k (by omega)]
    rcases h n (by omega) with q | ⟨q1, q2⟩
    · rw [q]
    · have : ¬ ((D n).bar = true ∨ b ∈ (D n).wr) := fun x => x.elim (fun x => by rw [q1] at x; cases x) q2
      rw [if_neg (fun x => this x.2), if_neg (fun x => this x.2)]

theorem nAt_congr : ∀ (n : Nat), (∀ k, k < n → L k = M k ∨ (D k).bar = false) → nAt n0 D L n = nAt n0 D M n := by
  intro n
  induction n with
  | zero => intro _; rfl
  | succ n ih =>
    intro h
    simp only [nAt]
    rw [ih fun k hk => h k (by omega)]
    rcases h n (by omega) with q | q
    · rw [q]
    · rw [if_neg (fun x => by rw [q] at x; cases x.2), if_neg (fun x => by rw [q] at x; cases x.2)]

theorem envAt_cut {s i : Nat} : ∀ (n : Nat), i ≤ n → envAt e0 dst D (fun k => decide (k < i)) s n = envAt e0 dst D (fun _ => true) s i := by
  intro n
  induction n with
  | zero => intro h; have : i = 0 := by omega
            subst this; rfl
  | succ n ih =>
    intro h
    by_cases hi : i = n + 1
    · subst hi; exact envAt_congr _ fun k hk => .inl (by simp [hk])
    · simp only [envAt]
      rw [if_neg (by simp; omega)]
      exact ih (by omega)

theorem heapAt_cut {b i : Nat} : ∀ (n : Nat), i ≤ n → heapAt h0 D (fun k => decide (k < i)) b n = heapAt h0 D (fun _ => true) b i := by
  intro n
  induction n with
  | zero => intro h; have : i = 0 := by omega
            subst this; rfl
  | succ n ih =>
    intro h
    by_cases hi : i = n + 1
    · subst hi; exact heapAt_congr _ fun k hk => .inl (by simp [hk])
    · simp only [heapAt]
      rw [if_neg (by simp; omega)]
      exact ih (by omega)

theorem nAt_cut {i : Nat} : ∀ (n : Nat), i ≤ n → nAt n0 D (fun k => decide (k < i)) n = nAt n0 D (fun _ => true) i := by
  intro n
  induction n with
  | zero => intro h; have : i = 0 := by omega
            subst this; rfl
  | succ n ih =>
    intro h
    by_cases hi : i = n + 1
    · subst hi; exact nAt_congr _ fun k hk => .inl (by simp [hk])
    · simp only [nAt]
      rw [if_neg (by simp; omega)]
      exact ih (by omega)

theorem envAt_add {s i : Nat} (hL : L i = false) (hM : ∀ k, M k = (decide (k = i) || L k)) : ∀ (n : Nat), i < n → (∀ k, k < n → i < k → L k = true → dst i = some s → dst k ≠ some s) →
    envAt e0 dst D M s n = if dst i = some s then some (D i).v else envAt e0 dst D L s n := by
  intro n
  induction n with
  | zero => intro h; omega
  | succ n ih =>
    intro h hk
    simp only [envAt]
    by_cases hi : i = n
    · subst hi
      rw [hM i, hL]
      simp only [decide_true, Bool.true_or, true_and, Bool.false_eq_true, false_and, if_false]
      split
      · rfl
      · exact envAt_congr _ fun k hk' => .inl (by rw [hM k]; have : k ≠ i := by omega
                                                  simp [this])
    · rw [ih (by omega) fun k h1 h2 => hk k (by omega) h2, hM n]
      have : ¬ n = i := fun e => hi e.symm
      simp only [this, decide_false, Bool.false_or]
      by_cases hc : L n = true ∧ dst n = some s
      · rw [if_pos hc, if_pos hc]
        split
        · rename_i hd; exact absurd hc.2 (hk n (by omega) (by omega) hc.1 hd)
        · rfl
      · rw [if_neg hc, if_neg hc]

theorem heapAt_add {b i : Nat} (hL : L i = false) (hM : ∀ k, M k = (decide (k = i) || L k)) : ∀ (n : Nat), i < n →
    (∀ k, k < n → i < k → L k = true → ((D i).bar = true ∨ b ∈ (D i).wr) → ¬ ((D k).bar = true ∨ b ∈ (D k).wr)) →
    heapAt h0 D M b n = if (D i).bar = true ∨ b ∈ (D i).wr then get (D i).h b else heapAt h0 D L b n := by
  intro n
  induction n with
  | zero => intro h; omega
  | succ n ih =>
    intro h hk
    simp only [heapAt]
    by_cases hi : i = n
    · subst hi
      rw [hM i, hL]
      simp only [decide_true, Bool.true_or, true_and, Bool.false_eq_true, false_and, if_false]
      split
      · rfl
      · exact heapAt_congr _ fun k hk' => .inl (by rw [hM k]; have : k ≠ i := by omega
                                                   simp [this])
    · rw [ih (by omega) fun k h1 h2 => hk k (by omega) h2, hM n]
      have : ¬ n = i := fun e => hi e.symm
      simp only [this, decide_false, Bool.false_or]
      by_cases hc : L n = true ∧ ((D n).bar = true ∨ b ∈ (D n).wr)
      · rw [if_pos hc, if_pos hc]
        split
        · rename_i hd; exact absurd hc.2 (hk n (by omega) (by omega) hc.1 hd)
        · rfl
      · rw [if_neg hc, if_neg hc]

theorem nAt_add {i : Nat} (hL : L i = false) (hM : ∀ k, M k = (decide (k = i) || L k)) : ∀ (n : Nat), i < n → (∀ k, k < n → i < k → L k = true → (D i).bar = true → (D k).bar = false) →
    nAt n0 D M n = if (D i).bar = true then (D i).n else nAt n0 D L n := by
  intro n
  induction n with
  | zero => intro h; omega
  | succ n ih =>
    intro h hk
    simp only [nAt]
    by_cases hi : i = n
    · subst hi
      rw [hM i, hL]
      simp only [decide_true, Bool.true_or, true_and, Bool.false_eq_true, false_and, if_false]
      split
      · rfl
      · exact nAt_congr _ fun k hk' => .inl (by rw [hM k]; have : k ≠ i := by omega
                                                simp [this])
    · rw [ih (by omega) fun k h1 h2 => hk k (by omega) h2, hM n]
      have : ¬ n = i := fun e => hi e.symm
      simp only [this, decide_false, Bool.false_or]
      by_cases hc : L n = true ∧ (D n).bar = true
      · rw [if_pos hc, if_pos hc]
        split
        · rename_i hd; rw [hk n (by omega) (by omega) hc.1 hd] at hc; cases hc.2
        · rfl
      · rw [if_neg hc, if_neg hc]

end
end Go.Pav
