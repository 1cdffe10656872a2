/- Code and functions: what the second machine comes to the evaluator comes to. -/
import Derived.Test.YtebbokkffdjpdaaPwCanon
namespace Go.Pw
open Go Go.Pav

/-- The frame's own blocks lie above a number there too. -/
def Hi (base m0 : Nat) (ρ : Nat → Nat) (V A : Nat → Prop) : Prop := ∀ b, A b → ¬ V b → base ≤ b → m0 ≤ ρ b

structure Res (base m0 : Nat) (ρ : Nat → Nat) (V A : Nat → Prop) (s1 : WSt) (s1' : St) (ρ' : Nat → Nat) (V' A' : Nat → Prop) : Prop where
  sim : Sim ρ' V' A' s1 s1'
  base_le : base ≤ s1.next
  old : Old base ρ V A ρ' V' A'
  hi : Hi base m0 ρ' V' A'

section
variable {C : WProg} {run : WRun} {run' : Run} {base m0 : Nat}

theorem Res.canon {ρ : Nat → Nat} {V A : Nat → Prop} {s1 s2 : WSt} {s1' s2' : St} {ρ' : Nat → Nat} {V' A' : Nat → Prop} (R : Res base m0 ρ V A s1 s1' ρ' V' A') {a : Ann} (hc : canon base a s1 = some s2)
    (hs : s2' = s1' ∨ s2' = dropEnv (maskOf a) s1') : ∃ ρ' V' A', Res base m0 ρ V A s2 s2' ρ' V' A' := by
  obtain ⟨ρ2, V2, A2, S2, b2, o2, n2⟩ := canon_sim R.sim R.base_le hc hs
  refine ⟨ρ2, V2, A2, S2, b2, R.old.trans o2, fun b h1 h2 h3 => ?_⟩
  obtain ⟨c, c1, c2, c3, c4⟩ := n2 b h1 h2
  rw [c3]
  exact R.hi c c1 c2 (c4 h3)

theorem Keeps.old {ρ : Nat → Nat} {V A : Nat → Prop} {ρ' : Nat → Nat} {V' A' : Nat → Prop} (k : Keeps ρ V A ρ' V' A') (hn : ∀ b, b < base → A' b → A b) : Old base ρ V A ρ' V' A' := fun b hb => ⟨k b, hn b hb⟩

/-- Operations in a row. -/
theorem ops_sim (hr : RunSim run run') : ∀ (l : List COper) (s s1 : WSt), (l.all fun o => okOp o.op) = true → evOpsW C run l s = some s1 → ∀ (s' : St) (ρ : Nat → Nat) (V A : Nat → Prop), Sim ρ V A s s' → base ≤ s.next → Hi base m0 ρ V A → m0 ≤ s'.next →
    ∃ s1' ρ' V' A', evOps (erProg C) run' (l.map erOper) s' = some s1' ∧ Res base m0 ρ V A s1 s1' ρ' V' A' ∧ m0 ≤ s1'.next := by
  intro l
  induction l with
  | nil =>
    intro s s1 _ he s' ρ V A S hb hi hm
    simp only [evOpsW, Option.some.injEq] at he; subst he
    exact ⟨s', ρ, V, A, rfl, ⟨S, hb, Old.refl base ρ V A, hi⟩, hm⟩
  | cons o l ih =>
    intro s s1 hok he s' ρ V A S hb hi hm
    simp only [List.all_cons, Bool.and_eq_true] at hok
    simp only [evOpsW] at he
    obtain ⟨d, h1, he⟩ := ob_some he
    have lt' : Lts ρ V A (s.next + 1) (s'.next + 1) := ⟨fun b hb => Nat.lt_succ_of_lt (S.lt.w b hb), fun b hb hv => Nat.lt_succ_of_lt (S.lt.p b hb hv)⟩
    obtain ⟨d', ρ1, V1, A1, h2, O⟩ := op_sim hr S.env S.heap lt' (nid := s.next) (mid := s'.next) (fun q => Nat.lt_irrefl _ (S.lt.w _ q)) (Nat.lt_succ_self _) (fun b hb hv => Nat.ne_of_lt (S.lt.p b hb hv)) (Nat.lt_succ_self _) hok.1 h1
    have S1 : Sim ρ1 V1 A1 ⟨setD s.env o.dst d.v, d.h, d.n⟩ ⟨setDst s'.env o.dst d'.v, d'.h, d'.n⟩ := ⟨S.srt.setDst _ _, (S.env.mono O.keeps).setDst O.v, O.h, O.lt⟩
    have hi1 : Hi base m0 ρ1 V1 A1 := by
      intro b q1 q2 q3
      rcases O.newp b q1 q2 with ⟨q4, q5⟩ | q4 | q4
      · rw [q5]; exact hi b q4 (fun q => q2 ((O.keeps b q4).2.2.2 q)) q3
      · omega
      · omega
    have hb1 : base ≤ d.n := by have := O.next; omega
    have hm1 : m0 ≤ d'.n := by have := O.nextp; omega
    obtain ⟨s1', ρ2, V2, A2, h3, R, h4⟩ := ih ⟨setD s.env o.dst d.v, d.h, d.n⟩ s1 hok.2 he _ ρ1 V1 A1 S1 hb1 hi1 hm1
    have o1 : Old base ρ V A ρ1 V1 A1 := Keeps.old O.keeps fun b hbb hA => by
      rcases O.new b hA with q | q | q
      · exact q
      · omega
      · omega
    refine ⟨s1', ρ2, V2, A2, ?_, ⟨R.sim, R.base_le, o1.trans R.old, R.hi⟩, h4⟩
    simp only [List.map_cons, evOps]
    have : (erOper o).dst = o.dst := rfl
    rw [h2]
    simp only [ob, this]
    exact h3

/-- What is known of an operation that was done: its reads and writes. -/
def DidRel (ρ : Nat → Nat) (V A : Nat → Prop) (d : WDid) (d' : Did) : Prop :=
  (d'.bar = true → d.bar = true) ∧ (∀ b ∈ d'.rd, ∃ c ∈ d.rd, b = ρ c ∧ ¬ V c ∧ A c) ∧ (∀ b ∈ d'.wr, ∃ c ∈ d.wr, b = ρ c ∧ ¬ V c ∧ A c)

theorem DidRel.mono {ρ ρ' : Nat → Nat} {V A V' A' : Nat → Prop} {d : WDid} {d' : Did} (h : DidRel ρ V A d d') (k : Keeps ρ V A ρ' V' A') : DidRel ρ' V' A' d d' := by
  refine ⟨h.1, fun b hb => ?_, fun b hb => ?_⟩
  · obtain ⟨c, h1, h2, h3, h4⟩ := h.2.1 b hb
    obtain ⟨k1, k2, k3⟩ := k c h4
    exact ⟨c, h1, by rw [k2]; exact h2, fun q => h3 (k3.1 q), k1⟩
  · obtain ⟨c, h1, h2, h3, h4⟩ := h.2.2 b hb
    obtain ⟨k1, k2, k3⟩ := k c h4
    exact ⟨c, h1, by rw [k2]; exact h2, fun q => h3 (k3.1 q), k1⟩

theorem meets_vw {ρ : Nat → Nat} {V A : Nat → Prop} (inj : ∀ b c, A b → A c → ¬ V b → ¬ V c → ρ b = ρ c → b = c) {a b : List Nat} {a' b' : List Nat}
    (ha : ∀ x ∈ a', ∃ c ∈ a, x = ρ c ∧ ¬ V c ∧ A c) (hb : ∀ x ∈ b', ∃ c ∈ b, x = ρ c ∧ ¬ V c ∧ A c) (h : meets a' b' = true) : meets a b = true := by
  simp only [meets, List.any_eq_true, decide_eq_true_eq] at h ⊢
  obtain ⟨x, hx, y, hy, rfl⟩ := h
  obtain ⟨c, h1, h2, h3, h4⟩ := ha x hx
  obtain ⟨d, h5, h6, h7, h8⟩ := hb x hy
  have := inj c d h4 h8 h3 h7 (h2.symm.trans h6)
  subst this
  exact ⟨c, h1, c, h5, rfl⟩

theorem clash_vw {ρ : Nat → Nat} {V A : Nat → Prop} (inj : ∀ b c, A b → A c → ¬ V b → ¬ V c → ρ b = ρ c → b = c) {a b : WDid} {a' b' : Did} (ha : DidRel ρ V A a a') (hb : DidRel ρ V A b b') (h : clashW a b = false) : clash a' b' = false := by
  unfold clashW at h
  unfold clash
  simp only [Bool.or_eq_false_iff] at h ⊢
  obtain ⟨h1, h2, h3, h4, h5⟩ := h
  have nt : ∀ {x y : Bool}, (x = true → y = true) → y = false → x = false := by
    intro x y q1 q2; cases x <;> simp_all
  exact ⟨nt ha.1 h1, nt hb.1 h2, nt (meets_vw inj ha.2.2 hb.2.2) h3, nt (meets_vw inj ha.2.2 hb.2.1) h4, nt (meets_vw inj ha.2.1 hb.2.2) h5⟩

theorem draw_sim (hr : RunSim run run') : ∀ (l : List COper) (nid : Nat) (s s1 : WSt) (ds ds1 : List WDid), (l.all fun o => okOp o.op) = true → evDrawW C run l nid s ds = some (s1, ds1) →
    ∀ (mid : Nat) (s' : St) (ds' : List Did) (ρ : Nat → Nat) (V A : Nat → Prop), Sim ρ V A s s' → base ≤ nid → nid + l.length ≤ s.next → (∀ b, A b → b < nid ∨ nid + l.length ≤ b) → Hi base m0 ρ V A → m0 ≤ mid → mid + l.length ≤ s'.next →
      (∀ b, A b → ¬ V b → ρ b < mid ∨ mid + l.length ≤ ρ b) → Rel2 (DidRel ρ V A) ds ds' →
    ∃ s1' ds1' ρ' V' A', evDraw (erProg C) run' (l.map erOper) mid s' ds' = some (s1', ds1') ∧ Res base m0 ρ V A s1 s1' ρ' V' A' ∧ m0 ≤ s1'.next ∧ Rel2 (DidRel ρ' V' A') ds1 ds1' := by
  intro l
  induction l with
  | nil =>
    intro nid s s1 ds ds1 _ he mid s' ds' ρ V A S hb hnl _ hi hm hml _ hds
    simp only [evDrawW, Option.some.injEq, Prod.mk.injEq] at he
    obtain ⟨rfl, rfl⟩ := he
    simp only [List.length_nil] at hnl hml
    exact ⟨s', ds', ρ, V, A, rfl, ⟨S, by omega, Old.refl base ρ V A, hi⟩, by omega, hds⟩
  | cons o l ih =>
    intro nid s s1 ds ds1 hok he mid s' ds' ρ V A S hb hnl hgap hi hm hml hgap' hds
    simp only [List.all_cons, Bool.and_eq_true] at hok
    simp only [List.length_cons] at hnl hml hgap hgap'
    simp only [evDrawW] at he
    obtain ⟨d, h1, he⟩ := ob_some he
    have hn : ¬ A nid := fun q => by rcases hgap nid q with q | q <;> omega
    obtain ⟨d', ρ1, V1, A1, h2, O⟩ := op_sim hr S.env S.heap S.lt (nid := nid) (mid := mid) hn (by omega) (fun b hbb hv => by rcases hgap' b hbb hv with q | q <;> omega) (by omega) hok.1 h1
    have S1 : Sim ρ1 V1 A1 ⟨setD s.env o.dst d.v, d.h, d.n⟩ ⟨setDst s'.env o.dst d'.v, d'.h, d'.n⟩ := ⟨S.srt.setDst _ _, (S.env.mono O.keeps).setDst O.v, O.h, O.lt⟩
    have hi1 : Hi base m0 ρ1 V1 A1 := by
      intro b q1 q2 q3
      rcases O.newp b q1 q2 with ⟨q4, q5⟩ | q4 | q4
      · rw [q5]; exact hi b q4 (fun q => q2 ((O.keeps b q4).2.2.2 q)) q3
      · omega
      · omega
    have hds1 : Rel2 (DidRel ρ1 V1 A1) (ds ++ [d]) (ds' ++ [d']) := (hds.mono fun x y _ hxy => hxy.mono O.keeps).append (.cons ⟨O.bar, O.rd, O.wr⟩ .nil)
    obtain ⟨s1', ds1', ρ2, V2, A2, h3, R, h4, h5⟩ := ih (nid + 1) ⟨setD s.env o.dst d.v, d.h, d.n⟩ s1 (ds ++ [d]) ds1 hok.2 he (mid + 1) _ (ds' ++ [d']) ρ1 V1 A1 S1 (by omega) (by have := O.next; simp only; omega)
      (fun b hbb => by
        rcases O.new b hbb with q | q | q
        · rcases hgap b q with q | q <;> omega
        · omega
        · omega) hi1 (by omega) (by have := O.nextp; simp only; omega)
      (fun b hbb hv => by
        rcases O.newp b hbb hv with ⟨q, q5⟩ | q | q
        · rw [q5]; rcases hgap' b q (fun q6 => hv ((O.keeps b q).2.2.2 q6)) with q | q <;> omega
        · omega
        · omega) hds1
    have o1 : Old base ρ V A ρ1 V1 A1 := Keeps.old O.keeps fun b hbb hA => by
      rcases O.new b hA with q | q | q
      · exact q
      · omega
      · omega
    refine ⟨s1', ds1', ρ2, V2, A2, ?_, ⟨R.sim, R.base_le, o1.trans R.old, R.hi⟩, h4, h5⟩
    simp only [List.map_cons, evDraw]
    have : (erOper o).dst = o.dst := rfl
    rw [h2]
    simp only [ob, this]
    exact h3

theorem apart_vw {ρ : Nat → Nat} {V A : Nat → Prop} (inj : ∀ b c, A b → A c → ¬ V b → ¬ V c → ρ b = ρ c → b = c) {ds : List WDid} {ds' : List Did} (h : Rel2 (DidRel ρ V A) ds ds') {p : Nat × Nat} (ha : apartW ds p = true) : apart ds' p = true := by
  unfold apartW at ha
  split at ha
  · rename_i a b h1 h2
    obtain ⟨a', h3, h4⟩ := h.get h1
    obtain ⟨b', h5, h6⟩ := h.get h2
    unfold apart
    rw [h3, h5]
    simp only [Bool.not_eq_true'] at ha ⊢
    exact clash_vw inj h4 h6 ha
  · cases ha

def CodeSim (C : WProg) (k : Nat) : Prop :=
  ∀ (base : Nat) (c : WCode) (s : WSt) (ex : Ex) (s1 : WSt), okC c = true → evW C k base c s = some (ex, s1) → ∀ (m0 : Nat) (s' : St) (ρ : Nat → Nat) (V A : Nat → Prop), Sim ρ V A s s' → base ≤ s.next → Hi base m0 ρ V A → m0 ≤ s'.next →
    ∃ s1' ρ' V' A', evC (erProg C) k (erC c) s' = some (ex, s1') ∧ Res base m0 ρ V A s1 s1' ρ' V' A' ∧ m0 ≤ s1'.next

theorem code_sim {k : Nat} (ih : CodeSim C k) (hr : RunSim (runWithW C (evW C k)) (runWith (erProg C) (evC (erProg C) k))) : CodeSim C (k + 1) := by
  intro base c s ex s1 hok he m0 s' ρ V A S hb hi hm
  cases c with
  | skip => simp only [evW, Option.some.injEq, Prod.mk.injEq] at he; obtain ⟨rfl, rfl⟩ := he; exact ⟨s', ρ, V, A, rfl, ⟨S, hb, Old.refl base ρ V A, hi⟩, hm⟩
  | exit id => simp only [evW, Option.some.injEq, Prod.mk.injEq] at he; obtain ⟨rfl, rfl⟩ := he; exact ⟨s', ρ, V, A, rfl, ⟨S, hb, Old.refl base ρ V A, hi⟩, hm⟩
  | ret => simp only [evW, Option.some.injEq, Prod.mk.injEq] at he; obtain ⟨rfl, rfl⟩ := he; exact ⟨s', ρ, V, A, rfl, ⟨S, hb, Old.refl base ρ V A, hi⟩, hm⟩
  | fail => simp [evW] at he
  | ops l a =>
    simp only [evW] at he
    obtain ⟨s2, h1, he⟩ := ob_some he
    obtain ⟨s3, h2, he⟩ := om_some he
    cases he
    obtain ⟨s1', ρ1, V1, A1, h3, R, h4⟩ := ops_sim hr l s s2 hok h1 s' ρ V A S hb hi hm
    obtain ⟨ρ2, V2, A2, R2⟩ := R.canon h2 (.inr rfl)
    exact ⟨_, ρ2, V2, A2, by simp only [erC, evC, h3]; rfl, R2, h4⟩
  | draw l un a =>
    simp only [evW] at he
    obtain ⟨⟨s2, ds⟩, h1, he⟩ := ob_some he
    unfold drawEndW at he
    split at he
    · rename_i hap
      obtain ⟨s3, h2, he⟩ := om_some he
      cases he
      have S0 : Sim ρ V A ⟨s.env, s.heap, s.next + l.length⟩ ⟨s'.env, s'.heap, s'.next + l.length⟩ := ⟨S.srt, S.env, S.heap, fun b q => Nat.lt_of_lt_of_le (S.lt.w b q) (Nat.le_add_right _ _), fun b q v => Nat.lt_of_lt_of_le (S.lt.p b q v) (Nat.le_add_right _ _)⟩
      obtain ⟨s1', ds1', ρ1, V1, A1, h3, R, h4, h5⟩ := draw_sim hr l s.next _ s2 [] ds hok h1 s'.next _ [] ρ V A S0 hb (Nat.le_refl _) (fun b q => .inl (S.lt.w b q)) hi hm (Nat.le_refl _) (fun b q v => .inl (S.lt.p b q v)) .nil
      obtain ⟨ρ2, V2, A2, R2⟩ := R.canon h2 (.inr rfl)
      refine ⟨_, ρ2, V2, A2, ?_, R2, h4⟩
      simp only [erC, evC, List.length_map]
      rw [h3]
      simp only [ob, drawEnd]
      rw [if_pos]
      simp only [List.all_eq_true] at hap ⊢
      exact fun p hp => apart_vw R.sim.heap.inj h5 (hap p hp)
    · cases he
  | seq a b =>
    simp only [okC, Bool.and_eq_true] at hok
    simp only [evW] at he
    obtain ⟨⟨e1, s2⟩, h1, he⟩ := ob_some he
    obtain ⟨s1', ρ1, V1, A1, h3, R, h4⟩ := ih base a s e1 s2 hok.1 h1 m0 s' ρ V A S hb hi hm
    cases e1 with
    | norm =>
      simp only [evSeqW] at he
      obtain ⟨s2', ρ2, V2, A2, h5, R2, h6⟩ := ih base b s2 ex s1 hok.2 he m0 s1' ρ1 V1 A1 R.sim R.base_le R.hi h4
      exact ⟨s2', ρ2, V2, A2, by simp only [erC, evC, h3, ob, evSeq, h5], ⟨R2.sim, R2.base_le, R.old.trans R2.old, R2.hi⟩, h6⟩
    | exit id => simp only [evSeqW, Option.some.injEq, Prod.mk.injEq] at he; obtain ⟨rfl, rfl⟩ := he; exact ⟨s1', ρ1, V1, A1, by simp only [erC, evC, h3, ob, evSeq], R, h4⟩
    | ret => simp only [evSeqW, Option.some.injEq, Prod.mk.injEq] at he; obtain ⟨rfl, rfl⟩ := he; exact ⟨s1', ρ1, V1, A1, by simp only [erC, evC, h3, ob, evSeq], R, h4⟩
  | cond c a b =>
    simp only [okC, Bool.and_eq_true] at hok
    simp only [evW] at he
    have hc := S.env.opd hok.1
    unfold evCondW at he
    split at he
    · rename_i t ht
      rw [ht] at hc
      cases t with
      | true =>
        simp only [if_true] at he
        obtain ⟨s1', ρ1, V1, A1, h3, R, h4⟩ := ih base a s ex s1 hok.2.1 he m0 s' ρ V A S hb hi hm
        exact ⟨s1', ρ1, V1, A1, by simp only [erC, evC, hc.bool_inv, evCond, if_true]; exact h3, R, h4⟩
      | false =>
        simp only [Bool.false_eq_true, if_false] at he
        obtain ⟨s1', ρ1, V1, A1, h3, R, h4⟩ := ih base b s ex s1 hok.2.2 he m0 s' ρ V A S hb hi hm
        exact ⟨s1', ρ1, V1, A1, by simp only [erC, evC, hc.bool_inv, evCond, Bool.false_eq_true, if_false]; exact h3, R, h4⟩
    · cases he
  | block id b a =>
    simp only [okC] at hok
    simp only [evW] at he
    obtain ⟨⟨e1, s2⟩, h1, he⟩ := ob_some he
    obtain ⟨s1', ρ1, V1, A1, h3, R, h4⟩ := ih base b s e1 s2 hok h1 m0 s' ρ V A S hb hi hm
    cases e1 with
    | norm =>
      simp only [evBlockW] at he
      obtain ⟨s3, h5, he⟩ := om_some he
      cases he
      obtain ⟨ρ2, V2, A2, R2⟩ := R.canon h5 (.inl rfl)
      exact ⟨s1', ρ2, V2, A2, by simp only [erC, evC, h3, om, evBlock], R2, h4⟩
    | exit i =>
      simp only [evBlockW] at he
      split at he
      · rename_i hid
        obtain ⟨s3, h5, he⟩ := om_some he
        cases he
        obtain ⟨ρ2, V2, A2, R2⟩ := R.canon h5 (.inl rfl)
        exact ⟨s1', ρ2, V2, A2, by simp only [erC, evC, h3, om, evBlock, if_pos hid], R2, h4⟩
      · rename_i hid
        simp only [Option.some.injEq, Prod.mk.injEq] at he; obtain ⟨rfl, rfl⟩ := he
        exact ⟨s1', ρ1, V1, A1, by simp only [erC, evC, h3, om, evBlock, if_neg hid], R, h4⟩
    | ret =>
      simp only [evBlockW, Option.some.injEq, Prod.mk.injEq] at he; obtain ⟨rfl, rfl⟩ := he
      exact ⟨s1', ρ1, V1, A1, by simp only [erC, evC, h3, om, evBlock], R, h4⟩
  | loop a b =>
    have hok' : okC b = true := hok
    simp only [evW] at he
    obtain ⟨s0, h0, he⟩ := ob_some he
    obtain ⟨⟨e1, s2⟩, h1, he⟩ := ob_some he
    obtain ⟨ρ0, V0, A0, R0⟩ := (⟨S, hb, Old.refl base ρ V A, hi⟩ : Res base m0 ρ V A s s' ρ V A).canon h0 (s2' := dropEnv (maskOf a) s') (.inr rfl)
    obtain ⟨s1', ρ1, V1, A1, h3, R, h4⟩ := ih base b s0 e1 s2 hok' h1 m0 _ ρ0 V0 A0 R0.sim R0.base_le R0.hi hm
    have R' : Res base m0 ρ V A s2 s1' ρ1 V1 A1 := ⟨R.sim, R.base_le, R0.old.trans R.old, R.hi⟩
    cases e1 with
    | norm =>
      simp only [evSeqW] at he
      obtain ⟨s2', ρ2, V2, A2, h5, R2, h6⟩ := ih base (.loop a b) s2 ex s1 hok he m0 s1' ρ1 V1 A1 R.sim R.base_le R.hi h4
      exact ⟨s2', ρ2, V2, A2, by simp only [erC, evC, h3, ob, evSeq]; exact h5, ⟨R2.sim, R2.base_le, R'.old.trans R2.old, R2.hi⟩, h6⟩
    | exit id => simp only [evSeqW, Option.some.injEq, Prod.mk.injEq] at he; obtain ⟨rfl, rfl⟩ := he; exact ⟨s1', ρ1, V1, A1, by simp only [erC, evC, h3, ob, evSeq], R', h4⟩
    | ret => simp only [evSeqW, Option.some.injEq, Prod.mk.injEq] at he; obtain ⟨rfl, rfl⟩ := he; exact ⟨s1', ρ1, V1, A1, by simp only [erC, evC, h3, ob, evSeq], R', h4⟩

theorem results_vw {ρ : Nat → Nat} {V A : Nat → Prop} {e : Env} {e' : Env} {h : WHeap} {h' : Heap} (he : EW ρ V A e e') (H : HW ρ V A h h') {rs : List CRes} {v : AV} (hv : resultsW e h rs = some v) : ∃ v', Pav.results e' h' rs = some v' ∧ VW ρ V A v v' := by
  obtain ⟨vs, h1, rfl⟩ := om_some hv
  have one : ∀ r x, resOfW e h r = some x → ∃ x', resOf e' h' r = some x' ∧ VW ρ V A x x' := by
    intro r x hx
    cases r with
    | tmp t => exact he t x hx
    | cell t k ag =>
      simp only [resOfW] at hx
      split at hx
      · rename_i b i o hg
        obtain ⟨p, h2, h3⟩ := he t _ hg
        obtain ⟨rfl, hA, hV⟩ := h3.ptr_inv
        unfold wLoadAt at hx
        split at hx
        · rename_i z es mu dt hgb
          obtain ⟨cs, h4, h5⟩ := ob_some hx
          obtain ⟨o', g1, es', mu', rfl, _, ge, _⟩ := H.obj b _ hgb hV
          obtain ⟨cs', h6, h7⟩ := ge.get h4
          obtain ⟨v', h8, h9⟩ := loadC_vw (h7.drop o) h5
          exact ⟨v', by simp only [resOf, h2, g1, loadAt, h6, ob]; exact h8, h9⟩
        · cases hx
      · cases hx
  have lst : ∀ (rs : List CRes) (vs : List AV), mapO (resOfW e h) rs = some vs → ∃ vs', mapO (resOf e' h') rs = some vs' ∧ Rel2 (VW ρ V A) vs vs' := by
    intro rs
    induction rs with
    | nil => intro vs hq; simp only [mapO, Option.some.injEq] at hq; subst hq; exact ⟨[], rfl, .nil⟩
    | cons r rs ih =>
      intro vs hq
      simp only [mapO] at hq ⊢
      obtain ⟨x, h2, hq⟩ := ob_some hq
      obtain ⟨xs, h3, rfl⟩ := om_some hq
      obtain ⟨x', h4, h5⟩ := one r x h2
      obtain ⟨xs', h6, h7⟩ := ih xs h3
      exact ⟨x' :: xs', by rw [h4, h6]; rfl, .cons h5 h7⟩
  obtain ⟨vs', h2, h3⟩ := lst rs vs h1
  refine ⟨tupled vs', by simp only [Pav.results, h2, om], ?_⟩
  cases vs with
  | nil => rw [h3.inv_nil]; exact VW.mktup .nil
  | cons a r =>
    obtain ⟨b, t, rfl, h4, h5⟩ := h3.inv_cons
    cases r with
    | nil => rw [h5.inv_nil]; exact h4
    | cons a2 r2 =>
      obtain ⟨b2, t2, rfl, h6, h7⟩ := h5.inv_cons
      exact VW.mktup (.cons h4 (.cons h6 h7))

theorem argEnv_get : ∀ (l : List AV) (k j : Nat), get (argEnv k l) j = if j < k then none else l[j - k]? := by
  intro l
  induction l with
  | nil => intro k j; simp [argEnv, Pav.get]
  | cons a l ih =>
    intro k j
    simp only [argEnv, Pav.get]
    by_cases h1 : k = j
    · subst h1; simp
    · rw [if_neg h1, ih]
      by_cases h2 : j < k
      · rw [if_pos (by omega), if_pos h2]
      · rw [if_neg (by omega), if_neg h2]
        have : j - k = (j - (k + 1)) + 1 := by omega
        rw [this]; simp

theorem erTree_get : ∀ (t : WTree) (g : Nat), (erTree t).get g = (t.get g).map erFn := by
  intro t
  induction t with
  | leaf => intro g; rfl
  | node l k f r ihl ihr =>
    intro g
    simp only [erTree, Tree.get, WTree.get]
    split
    · rfl
    · split
      · exact ihl g
      · exact ihr g

theorem okTree_get : ∀ (t : WTree) (g : Nat) (f : WFn), okTree t = true → t.get g = some f → okC f.body = true := by
  intro t
  induction t with
  | leaf => intro g f _ h; simp [WTree.get] at h
  | node l k f r ihl ihr =>
    intro g f' hok h
    simp only [okTree, Bool.and_eq_true] at hok
    simp only [WTree.get] at h
    split at h
    · cases h; exact hok.2.1
    · split at h
      · exact ihl g f' hok.1 h
      · exact ihr g f' hok.2.2 h

theorem run_sim (hok : okTree C.fns = true) {k : Nat} (hc : CodeSim C k) : RunSim (runWithW C (evW C k)) (runWith (erProg C) (evC (erProg C) k)) := by
  intro f args h n v h1 n1 hrun ρ V A args' h' m ha H lt
  unfold runWithW at hrun
  obtain ⟨fn, hf, hrun⟩ := ob_some hrun
  split at hrun
  · rename_i hl
    obtain ⟨⟨ex, s1⟩, h2, h3⟩ := ob_some hrun
    have S : Sim ρ V A ⟨argW 0 args [], h, n⟩ ⟨argEnv 0 args', h', m⟩ := by
      refine ⟨srt_arg args 0, fun j x hj => ?_, H, lt⟩
      have hj2 : get (argEnv 0 args) j = some x := by
        have hm := get_mem hj
        rw [argW_eq, List.append_nil] at hm
        have hm2 := List.mem_reverse.1 hm
        have key : ∀ (l : List AV) (k : Nat), (j, x) ∈ argEnv k l → get (argEnv k l) j = some x := by
          intro l
          induction l with
          | nil => intro k hq; simp [argEnv] at hq
          | cons v l ih =>
            intro k hq
            simp only [argEnv, Pav.get]
            rcases List.mem_cons.1 hq with q | q
            · cases q; simp
            · have := (srt_arg0 l (k + 1)).2 _ q
              simp only at this
              rw [if_neg (by omega)]
              exact ih (k + 1) q
        exact key args 0 hm2
      simp only [argEnv_get, Nat.not_lt_zero, if_false, Nat.sub_zero] at hj2 ⊢
      exact ha.get hj2
    obtain ⟨s1', ρ1, V1, A1, h4, R, h5⟩ := hc n fn.body _ ex s1 (okTree_get _ _ _ hok hf) h2 m ⟨argEnv 0 args', h', m⟩ ρ V A S (Nat.le_refl _) (fun b hb _ hn => absurd (lt.w b hb) (by omega)) (Nat.le_refl _)
    have fin : ∃ v', Pav.results s1'.env s1'.heap fn.res = some v' ∧ VW ρ1 V1 A1 v v' ∧ s1.heap = h1 ∧ s1.next = n1 ∧ ∀ i, ex ≠ .exit i := by
      unfold fnEndW at h3
      cases ex with
      | exit i => cases h3
      | norm =>
        obtain ⟨w, q1, q2⟩ := om_some h3
        cases q2
        obtain ⟨v', q3, q4⟩ := results_vw R.sim.env R.sim.heap q1
        exact ⟨v', q3, q4, rfl, rfl, fun i e => by cases e⟩
      | ret =>
        obtain ⟨w, q1, q2⟩ := om_some h3
        cases q2
        obtain ⟨v', q3, q4⟩ := results_vw R.sim.env R.sim.heap q1
        exact ⟨v', q3, q4, rfl, rfl, fun i e => by cases e⟩
    obtain ⟨v', h6, h7, rfl, rfl, h8⟩ := fin
    refine ⟨v', s1'.heap, s1'.next, ρ1, V1, A1, ?_, h7, R.sim.heap, R.sim.lt, fun b hb => (R.old b (lt.w b hb)).1 hb, fun b hb => ?_, fun b hb hv => ?_, R.base_le, h5⟩
    · unfold runWith
      have : (erProg C).fns.get f = some (erFn fn) := by
        show (erTree C.fns).get f = _
        rw [erTree_get, hf]; rfl
      rw [this]
      have hnp : args'.length = (erFn fn).np := by rw [← ha.1]; exact hl
      simp only [ob]
      rw [if_pos hnp, show (erFn fn).body = erC fn.body from rfl, h4]
      cases ex with
      | exit i => exact absurd rfl (h8 i)
      | norm => simp only [fnEnd, show (erFn fn).res = fn.res from rfl, h6, om]
      | ret => simp only [fnEnd, show (erFn fn).res = fn.res from rfl, h6, om]
    · rcases Nat.lt_or_ge b n with q | q
      · exact .inl ((R.old b q).2 hb)
      · exact .inr q
    · rcases Nat.lt_or_ge b n with q | q
      · have := (R.old b q).2 hb
        exact .inl ⟨this, ((R.old b q).1 this).2.1⟩
      · exact .inr (R.hi b hb hv q)
  · cases hrun

theorem all_sim (hok : okTree C.fns = true) : ∀ k, CodeSim C k := by
  intro k
  induction k with
  | zero => intro base c s ex s1 _ he; simp [evW] at he
  | succ k ih => exact code_sim ih (run_sim hok ih)

/-- A function on data: what the second machine gives the evaluator gives. -/
theorem callW_ok (hok : okTree C.fns = true) {k f : Nat} {args args' : List AV} {v : AV} (ha : Rel2 (VD id fun _ => False) args args') (hc : callW C k f args = some v) : ∃ v', callF (erProg C) k f args' = some v' ∧ VD id (fun _ => False) v v' :=
  pure_sim (run_sim hok (all_sim hok k)) ha hc

end
end Go.Pw
