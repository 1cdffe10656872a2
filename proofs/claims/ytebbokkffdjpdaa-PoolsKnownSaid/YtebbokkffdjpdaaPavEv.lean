/- Soundness of the evaluation of code and functions. -/
import Derived.Test.YtebbokkffdjpdaaPavOp
import Derived.Tactics
namespace Go.Pav
open Go

/-- The program and its small form. -/
structure Linked (P : Program) (φ : FuncId → Option Nat) (ψ : Nat → FuncId) (C : Prog) : Prop where
  ids : ∀ f g, φ f = some g → ψ g = f
  fns : ∀ g cf, C.fns.get g = some cf → ∃ fn, P.funcs[ψ g]? = some fn ∧ (cFn P φ fn).map stripF = some (stripF cf)
  mixed : P.follows .mixedOrders = true

/-- Where a frame and the world have come to. -/
def Reach (ψ : Nat → FuncId) (N : Nat) (w0 w : World) (S : Nat → Prop) (m : Nat → Nat × Nat) (A : Nat → Prop) (n : Nat) (a : Act) (s' : St) (a' : Act) (w' : World) : Prop :=
  ∃ S' m' A', Inv ψ N w0 w' S' m' A' s'.heap ∧ EnvR ψ w' S' m' A' s'.env a'.tmps ∧ a'.tmps.size = a.tmps.size ∧ a'.defers = a.defers ∧ Le w S m A w' S' m' A' ∧
    (∀ c, c < N → S' c → S c) ∧ n ≤ s'.next ∧ ∀ b, A' b → A b ∨ (n ≤ b ∧ b < s'.next)

section
variable {P : Program} {φ : FuncId → Option Nat} {ψ : Nat → FuncId} {N : Nat} {w0 w : World} {S : Nat → Prop} {m : Nat → Nat × Nat} {A : Nat → Prop} {a : Act} {run : Run} {C : Prog}

theorem Reach.refl {s : St} (i : Inv ψ N w0 w S m A s.heap) (env : EnvR ψ w S m A s.env a.tmps) : Reach ψ N w0 w S m A s.next a s a w :=
  ⟨S, m, A, i, env, rfl, rfl, Le.refl .., fun _ _ h => h, Nat.le_refl _, fun _ h => .inl h⟩

/-- Onward from where one has come to. -/
theorem Reach.trans {w1 : World} {S1 : Nat → Prop} {m1 : Nat → Nat × Nat} {A1 : Nat → Prop} {a1 : Act} {n n1 : Nat} (hs : a1.tmps.size = a.tmps.size) (hd : a1.defers = a.defers)
    (hle : Le w S m A w1 S1 m1 A1) (hS : ∀ c, c < N → S1 c → S c) (hn : n ≤ n1) (hA : ∀ b, A1 b → A b ∨ (n ≤ b ∧ b < n1)) {s2 : St} {a2 : Act} {w2 : World}
    (r : Reach ψ N w0 w1 S1 m1 A1 n1 a1 s2 a2 w2) : Reach ψ N w0 w S m A n a s2 a2 w2 := by
  obtain ⟨S2, m2, A2, r1, r2, r3, r4, r5, r6, r7, r8⟩ := r
  refine ⟨S2, m2, A2, r1, r2, r3.trans hs, r4.trans hd, hle.trans r5, fun c hc h => hS c hc (r6 c hc h), Nat.le_trans hn r7, fun b hb => ?_⟩
  rcases r8 b hb with q | ⟨q1, q2⟩
  · rcases hA b q with q | ⟨q1, q2⟩
    · exact .inl q
    · exact .inr ⟨q1, by omega⟩
  · exact .inr ⟨by omega, q2⟩

theorem Act.put_size (a : Act) (d : Option Tmp) (v : Value) : (a.put d v).tmps.size = a.tmps.size := by
  cases d <;> simp [Act.put]

theorem Act.put_defers' (a : Act) (d : Option Tmp) (v : Value) : (a.put d v).defers = a.defers := by
  cases d <;> rfl

theorem EnvR.setDst {e : Env} (env : EnvR ψ w S m A e a.tmps) {d : Option Nat} (hd : ∀ x, d = some x → x < a.tmps.size) {v : AV} {cv : Value} (hv : VR ψ w S m A v cv) :
    EnvR ψ w S m A (setDst e d v) (a.put d cv).tmps := by
  cases d with
  | none => exact env
  | some d => exact env.put (hd d rfl) hv

theorem wpOps_iff (ops : Array Oper) (Q : Exit → Act → World → Prop) (i : Nat) (rest : List Nat) (a : Act) (w : World) : wpOps P ops Q (i :: rest) a w = wpOp P ops Q i (wpOps P ops Q rest) a w := wpOps_cons i rest a w

/-- Operations in a row. -/
theorem evOps_ok (ids : ∀ f g, φ f = some g → ψ g = f) (hr : RunOk P ψ run) (ops : Array Oper) (Q : Exit → Act → World → Prop) : ∀ (l : List Oper) (k : Nat), (∀ j, l[j]? = ops[k + j]?) → ∀ (s s' : St), evOps C run (l.map (cOper P φ ops)) s = some s' →
    ∀ (w : World) (S : Nat → Prop) (m : Nat → Nat × Nat) (A : Nat → Prop) (a : Act), Inv ψ N w0 w S m A s.heap → EnvR ψ w S m A s.env a.tmps → (∀ b, A b → b < s.next) →
    (∀ o ∈ l, ∀ x, o.dst = some x → x < a.tmps.size) → (∀ a' w', Reach ψ N w0 w S m A s.next a s' a' w' → Q .normal a' w') → wpOps P ops Q (List.range' k l.length) a w := by
  intro l
  induction l with
  | nil =>
    intro k _ s s' he w S m A a i env hA _ hQ
    simp only [List.map_nil, evOps, Option.some.injEq] at he
    subst he
    exact hQ a w (Reach.refl i env)
  | cons o l ih =>
    intro k hk s s' he w S m A a i env hA hd hQ
    have h0 : ops[k]? = some o := by simpa using (hk 0).symm
    simp only [List.map_cons, evOps] at he
    obtain ⟨d, hev, he⟩ := ob_some he
    rw [List.length_cons, List.range'_succ, wpOps_iff]
    refine op_ok hr h0 hev ⟨i, env, ids⟩ (fun b hb => Nat.lt_succ_of_lt (hA b hb)) (fun hb => Nat.lt_irrefl _ (hA _ hb)) ?_
    rintro cv w1 ⟨S1, m1, A1, r1, r2, r3, r4, r5, r6⟩
    have hdst : (cOper P φ ops o).dst = o.dst := by unfold cOper; simp only; split <;> rfl
    rw [hdst] at he
    have hA1 : ∀ b, A1 b → A b ∨ (s.next ≤ b ∧ b < d.n) := by
      intro b hb
      rcases r6 b hb with q | q | ⟨q1, q2⟩
      · exact .inl q
      · exact .inr ⟨by omega, by omega⟩
      · exact .inr ⟨by omega, q2⟩
    refine ih (k + 1) (fun j => by have := hk (j + 1); simpa [Nat.add_assoc, Nat.add_comm 1 j] using this) ⟨setDst s.env o.dst d.v, d.h, d.n⟩ s' he w1 S1 m1 A1 (a.put o.dst cv) r2
      ((env.mono r3).setDst (hd o List.mem_cons_self) r1) (fun b hb => ?_) (fun o' ho' x hx => ?_) (fun a' w' hre => ?_)
    · rcases hA1 b hb with q | q
      · have := hA b q; simp only; omega
      · exact q.2
    · rw [Act.put_size]; exact hd o' (List.mem_cons_of_mem _ ho') x hx
    · exact hQ a' w' (Reach.trans (Act.put_size ..) (Act.put_defers' ..) r3 r4 (by omega) hA1 hre)

/-- A code and its small form, but for what is kept. -/
inductive Fit (P : Program) (φ : FuncId → Option Nat) (nt : Nat) : Code → CCode → Prop
  | fail (c : Code) : Fit P φ nt c .fail
  | skip : Fit P φ nt .skip .skip
  | ops (id : Nat) (ops : Array Oper) (live : Nat) (hd : ∀ o ∈ ops.toList, ∀ x, o.dst = some x → x < nt) : Fit P φ nt (.region id ops false) (.ops (ops.toList.map (cOper P φ ops)) live)
  | draw (id : Nat) (ops : Array Oper) (live : Nat) (hd : ∀ o ∈ ops.toList, ∀ x, o.dst = some x → x < nt) (he : edgesOk 0 ops.toList = true)
      (hu : (unordered (ancestors ops.toList)).all (fun p => slotsApart ((ops.toList.map (cOper P φ ops)).getD p.1 default) ((ops.toList.map (cOper P φ ops)).getD p.2 default)) = true) :
      Fit P φ nt (.region id ops true) (.draw (ops.toList.map (cOper P φ ops))
        ((unordered (ancestors ops.toList)).filter fun p => mayClash ((ops.toList.map (cOper P φ ops)).getD p.1 default).op ((ops.toList.map (cOper P φ ops)).getD p.2 default).op) live)
  | seq {a b : Code} {x y : CCode} (ha : Fit P φ nt a x) (hb : Fit P φ nt b y) : Fit P φ nt (.seq a b) (.seq x y)
  | cond {c : Operand} {c' : Opd} {a b : Code} {x y : CCode} (hc : cOpd φ c = some c') (ha : Fit P φ nt a x) (hb : Fit P φ nt b y) : Fit P φ nt (.cond c a b) (.cond c' x y)
  | block (id : Nat) {b : Code} {y : CCode} (hb : Fit P φ nt b y) : Fit P φ nt (.block id b) (.block id y)
  | loop (live : Nat) {b : Code} {y : CCode} (hb : Fit P φ nt b y) : Fit P φ nt (.loop b) (.loop live y)
  | exit (id : Nat) : Fit P φ nt (.exit id) (.exit id)
  | ret : Fit P φ nt .ret .ret

theorem cRegion_fit {nt id : Nat} {ops : Array Oper} {d : Bool} (hd : ∀ o ∈ ops.toList, ∀ x, o.dst = some x → x < nt) : Fit P φ nt (.region id ops d) (cRegion P φ ops d) := by
  unfold cRegion
  cases d with
  | false => exact .ops id ops 0 hd
  | true =>
    simp only
    split
    · rename_i h
      simp only [Bool.and_eq_true] at h
      exact .draw id ops 0 hd h.1 h.2
    · exact .fail _

theorem cCode_fit {nt : Nat} : ∀ (c : Code), codeFits nt c = true → Fit P φ nt c (cCode P φ c) := by
  intro c
  induction c with
  | skip => intro _; exact .skip
  | region id ops d =>
    intro h
    refine cRegion_fit fun o ho x hx => ?_
    simp only [codeFits, List.all_eq_true] at h
    have := h o ho
    rw [hx] at this
    exact Nat.blt_eq ▸ this
  | seq a b iha ihb =>
    intro h
    simp only [codeFits, Bool.and_eq_true] at h
    exact .seq (iha h.1) (ihb h.2)
  | cond c a b iha ihb =>
    intro h
    simp only [codeFits, Bool.and_eq_true] at h
    simp only [cCode]
    split
    · rename_i c' hc; exact .cond hc (iha h.1) (ihb h.2)
    · exact .fail _
  | block id b ih => intro h; exact .block id (ih h)
  | loop b ih => intro h; exact .loop 0 (ih h)
  | exit id => intro _; exact .exit id
  | ret => intro _; exact .ret
  | _ => intro _; exact .fail _

theorem liveC_fit {nt rm : Nat} {c : Code} {cc : CCode} (h : Fit P φ nt c cc) : ∀ (out : Nat) (ex : List (Nat × Nat)), Fit P φ nt c (liveC rm cc out ex).1 := by
  induction h with
  | fail c => intro out ex; exact .fail c
  | skip => intro out ex; exact .skip
  | ops id ops live hd => intro out ex; exact .ops id ops _ hd
  | draw id ops live hd he hu => intro out ex; exact .draw id ops _ hd he hu
  | seq _ _ iha ihb => intro out ex; exact .seq (iha _ _) (ihb _ _)
  | cond hc _ _ iha ihb => intro out ex; exact .cond hc (iha _ _) (ihb _ _)
  | block id _ ih => intro out ex; exact .block id (ih _ _)
  | loop live _ ih => intro out ex; exact .loop _ (ih _ _)
  | exit id => intro out ex; exact .exit id
  | ret => intro out ex; exact .ret

/-- Masks do not matter. -/
theorem fit_mz {nt : Nat} {c : Code} {x : CCode} (h : Fit P φ nt c x) : ∀ y, mz y = mz x → Fit P φ nt c y := by
  induction h with
  | fail c => intro y hy; cases y <;> simp only [mz] at hy <;> first | (cases hy; done) | exact .fail _
  | skip => intro y hy; cases y <;> simp only [mz] at hy <;> first | (cases hy; done) | exact .skip
  | exit id => intro y hy; cases y <;> simp only [mz] at hy <;> first | (cases hy; done) | (cases hy; exact .exit _)
  | ret => intro y hy; cases y <;> simp only [mz] at hy <;> first | (cases hy; done) | exact .ret
  | ops id ops live hd =>
    intro y hy
    cases y <;> simp only [mz] at hy <;> try (cases hy; done)
    simp only [CCode.ops.injEq, and_true] at hy
    rw [hy]; exact .ops id ops _ hd
  | draw id ops live hd he hu =>
    intro y hy
    cases y <;> simp only [mz] at hy <;> try (cases hy; done)
    simp only [CCode.draw.injEq, and_true] at hy
    rw [hy.1, hy.2]; exact .draw id ops _ hd he hu
  | seq _ _ iha ihb =>
    intro y hy
    cases y <;> simp only [mz] at hy <;> try (cases hy; done)
    simp only [CCode.seq.injEq] at hy
    exact .seq (iha _ hy.1) (ihb _ hy.2)
  | cond hc _ _ iha ihb =>
    intro y hy
    cases y <;> simp only [mz] at hy <;> try (cases hy; done)
    simp only [CCode.cond.injEq] at hy
    rw [hy.1]
    exact .cond hc (iha _ hy.2.1) (ihb _ hy.2.2)
  | block id _ ih =>
    intro y hy
    cases y <;> simp only [mz] at hy <;> try (cases hy; done)
    simp only [CCode.block.injEq] at hy
    rw [hy.1]; exact .block id (ih _ hy.2)
  | loop live _ ih =>
    intro y hy
    cases y <;> simp only [mz] at hy <;> try (cases hy; done)
    simp only [CCode.loop.injEq, true_and] at hy
    exact .loop _ (ih _ hy)

/-- Operations whose order is drawn. -/
def DrawOk (P : Program) (φ : FuncId → Option Nat) (ψ : Nat → FuncId) (C : Prog) (run : Run) : Prop :=
  ∀ (nt id : Nat) (ops : Array Oper) (un : List (Nat × Nat)) (live : Nat), Fit P φ nt (.region id ops true) (.draw (ops.toList.map (cOper P φ ops)) un live) →
    ∀ (s : St) (r : St × List Did), evDraw C run (ops.toList.map (cOper P φ ops)) s.next ⟨s.env, s.heap, s.next + (ops.toList.map (cOper P φ ops)).length⟩ [] = some r → un.all (apart r.2) = true →
    ∀ (N : Nat) (w0 w : World) (S : Nat → Prop) (m : Nat → Nat × Nat) (A : Nat → Prop) (a : Act) (Q : Exit → Act → World → Prop), Inv ψ N w0 w S m A s.heap → EnvR ψ w S m A s.env a.tmps → (∀ b, A b → b < s.next) →
    a.tmps.size = nt → (∀ a' w', Reach ψ N w0 w S m A s.next a r.1 a' w' → Q .normal a' w') → (Code.region id ops true).wp P Q a w

def Ex.out : Ex → Exit
  | .norm => .normal
  | .exit id => .exit id
  | .ret => .ret

/-- A loop's body, from within the loop. -/
def LoopK (P : Program) (c : Code) (Q : Exit → Act → World → Prop) (a : Act) (w : World) : Prop :=
  ∀ (b : Frame) (k : List Item) (cs : List Frame), ∃ e a' w', Q e a' w' ∧ Arrives P (lone (b.at a (.code c :: .inLoop c :: k)) cs w) b k cs e a' w'

theorem LoopK.wp {c : Code} {Q : Exit → Act → World → Prop} (h : LoopK P c Q a w) : (Code.loop c).wp P Q a w := by
  intro b k cs
  obtain ⟨e, a', w', hq, harr⟩ := h b k cs
  exact ⟨e, a', w', hq, .of_steps (.one step_loop) harr⟩

theorem LoopK.step {c : Code} {Q : Exit → Act → World → Prop} (h : c.wp P (Exit.then (LoopK P c Q) Q) a w) : LoopK P c Q a w := by
  intro b k cs
  obtain ⟨e, a₁, w₁, hq, harr⟩ := h b (.inLoop c :: k) cs
  cases e with
  | normal =>
    obtain ⟨e₂, a₂, w₂, hq₂, harr₂⟩ := hq b k cs
    exact ⟨e₂, a₂, w₂, hq₂, .of_steps (Steps.trans harr (.one step_inLoop)) harr₂⟩
  | exit id => exact ⟨_, a₁, w₁, hq, .pass (x := .inLoop c) rfl (fun _ _ => .inl (by simp)) harr⟩
  | goto l => exact ⟨_, a₁, w₁, hq, .pass (x := .inLoop c) rfl (fun _ _ => .inl (by simp)) harr⟩
  | ret => exact ⟨_, a₁, w₁, hq, .pass (x := .inLoop c) rfl (fun _ _ => .inl (by simp)) harr⟩
  | panic ch => exact ⟨_, a₁, w₁, hq, .pass (x := .inLoop c) rfl (fun _ _ => .inl (by simp)) harr⟩
  | outgrown => exact ⟨_, a₁, w₁, hq, .pass (x := .inLoop c) rfl (fun _ _ => .inl (by simp)) harr⟩

/-- What the evaluation of code says of the model's. -/
def CodeOk (P : Program) (φ : FuncId → Option Nat) (ψ : Nat → FuncId) (C : Prog) (fuel : Nat) : Prop :=
  ∀ (nt : Nat) (c : Code) (cc : CCode), Fit P φ nt c cc → ∀ (s : St) (ex : Ex) (s' : St), evC C fuel cc s = some (ex, s') →
    ∀ (N : Nat) (w0 w : World) (S : Nat → Prop) (m : Nat → Nat × Nat) (A : Nat → Prop) (a : Act) (Q : Exit → Act → World → Prop), Inv ψ N w0 w S m A s.heap → EnvR ψ w S m A s.env a.tmps → (∀ b, A b → b < s.next) →
    a.tmps.size = nt → (∀ a' w', Reach ψ N w0 w S m A s.next a s' a' w' → Q ex.out a' w') → c.wp P Q a w ∧ ∀ b, c = .loop b → LoopK P b Q a w

theorem EnvR.drop {s' : St} {t : Array Value} (h : EnvR ψ w S m A s'.env t) (live : Nat) : EnvR ψ w S m A (dropEnv live s').env t := by
  unfold dropEnv
  simp only
  split
  · exact h
  · exact h.keep live

theorem Reach.drop {n live : Nat} {s' : St} {a' : Act} {w' : World} (r : Reach ψ N w0 w S m A n a s' a' w') : Reach ψ N w0 w S m A n a (dropEnv live s') a' w' := by
  obtain ⟨S2, m2, A2, r1, r2, r3⟩ := r
  exact ⟨S2, m2, A2, r1, r2.drop live, r3⟩

/-- Code, one round of fuel more. -/
theorem code_step (hL : Linked P φ ψ C) {fuel : Nat} (ih : CodeOk P φ ψ C fuel) (hr : RunOk P ψ (runWith C (evC C fuel))) (hd : DrawOk P φ ψ C (runWith C (evC C fuel))) : CodeOk P φ ψ C (fuel + 1) := by
  intro nt c cc hfit s ex s' he N w0 w S m A a Q i env hA hsz hQ
  have plain : ∀ {c : Code}, (∀ b, c ≠ .loop b) → c.wp P Q a w → c.wp P Q a w ∧ ∀ b, c = .loop b → LoopK P b Q a w := fun hne h => ⟨h, fun b e => absurd e (hne b)⟩
  cases hfit with
  | fail c => simp only [evC] at he; cases he
  | skip =>
    simp only [evC, Option.some.injEq, Prod.mk.injEq] at he
    obtain ⟨rfl, rfl⟩ := he
    exact plain (fun b e => by cases e) (wp_skip (hQ a w (Reach.refl i env)))
  | exit id =>
    simp only [evC, Option.some.injEq, Prod.mk.injEq] at he
    obtain ⟨rfl, rfl⟩ := he
    exact plain (fun b e => by cases e) (wp_exit (hQ a w (Reach.refl i env)))
  | ret =>
    simp only [evC, Option.some.injEq, Prod.mk.injEq] at he
    obtain ⟨rfl, rfl⟩ := he
    exact plain (fun b e => by cases e) (wp_ret (hQ a w (Reach.refl i env)))
  | ops id ops live hdst =>
    simp only [evC] at he
    obtain ⟨s1, h1, he⟩ := om_some he
    cases he
    refine plain (fun b e => by cases e) (wp_region ?_)
    rw [List.range_eq_range', ← Array.length_toList]
    exact evOps_ok hL.ids hr ops Q ops.toList 0 (by simp) s s1 h1 w S m A a i env hA (by rw [hsz]; exact hdst) fun a' w' hre => hQ a' w' hre.drop
  | draw id ops live hdst hedge hun =>
    simp only [evC] at he
    obtain ⟨r, h1, he⟩ := ob_some he
    unfold drawEnd at he
    split at he
    · rename_i hap
      cases he
      exact plain (fun b e => by cases e) (hd nt id ops _ live (.draw id ops live hdst hedge hun) s r h1 hap N w0 w S m A a Q i env hA hsz fun a' w' hre => hQ a' w' hre.drop)
    · cases he
  | @seq x y cx cy hx hy =>
    simp only [evC] at he
    obtain ⟨⟨e1, s1⟩, h1, he⟩ := ob_some he
    refine plain (fun b e => by cases e) (wp_seq ?_)
    refine (ih nt x cx hx s e1 s1 h1 N w0 w S m A a _ i env hA hsz ?_).1
    rintro a1 w1 hre
    obtain ⟨S1, m1, A1, r1, r2, r3, r4, r5, r6, r7, r8⟩ := hre
    cases e1 with
    | norm =>
      simp only [evSeq] at he
      refine (ih nt y cy hy s1 ex s' he N w0 w1 S1 m1 A1 a1 Q r1 r2 (fun b hb => ?_) (r3.trans hsz) fun a' w' hre => hQ a' w' (Reach.trans r3 r4 r5 r6 r7 r8 hre)).1
      rcases r8 b hb with q | q
      · have := hA b q; omega
      · exact q.2
    | exit id =>
      simp only [evSeq, Option.some.injEq, Prod.mk.injEq] at he
      obtain ⟨rfl, rfl⟩ := he
      exact hQ a1 w1 ⟨S1, m1, A1, r1, r2, r3, r4, r5, r6, r7, r8⟩
    | ret =>
      simp only [evSeq, Option.some.injEq, Prod.mk.injEq] at he
      obtain ⟨rfl, rfl⟩ := he
      exact hQ a1 w1 ⟨S1, m1, A1, r1, r2, r3, r4, r5, r6, r7, r8⟩
  | @cond c c' x y cx cy hc hx hy =>
    simp only [evC] at he
    have hv := (Cx.mk i env hL.ids : Cx P φ ψ N w0 w S m A s.heap s.env a).opd hc
    unfold evCond at he
    split at he
    · rename_i t heq
      rw [heq] at hv
      refine plain (fun b e => by cases e) (wp_cond hv.inv_bool ?_)
      cases t with
      | true => exact (ih nt x cx hx s ex s' he N w0 w S m A a Q i env hA hsz hQ).1
      | false => exact (ih nt y cy hy s ex s' he N w0 w S m A a Q i env hA hsz hQ).1
    · cases he
  | @block id b cb hb =>
    simp only [evC] at he
    obtain ⟨⟨e1, s1⟩, h1, he⟩ := om_some he
    refine plain (fun b e => by cases e) (wp_block ?_)
    refine (ih nt b cb hb s e1 s1 h1 N w0 w S m A a _ i env hA hsz ?_).1
    intro a1 w1 hre
    cases e1 with
    | norm => simp only [evBlock, Prod.mk.injEq] at he; obtain ⟨rfl, rfl⟩ := he; exact hQ a1 w1 hre
    | ret => simp only [evBlock, Prod.mk.injEq] at he; obtain ⟨rfl, rfl⟩ := he; exact hQ a1 w1 hre
    | exit id' =>
      simp only [evBlock] at he
      simp only [Ex.out, Exit.inBlock]
      by_cases hid : id' = id
      · rw [if_pos hid] at he
        simp only [Prod.mk.injEq] at he
        obtain ⟨rfl, rfl⟩ := he
        rw [if_pos hid]; exact hQ a1 w1 hre
      · rw [if_neg hid] at he
        simp only [Prod.mk.injEq] at he
        obtain ⟨rfl, rfl⟩ := he
        rw [if_neg hid]; exact hQ a1 w1 hre
  | @loop live b cb hb =>
    simp only [evC] at he
    obtain ⟨⟨e1, s1⟩, h1, he⟩ := ob_some he
    have key : LoopK P b Q a w := by
      refine LoopK.step ?_
      refine (ih nt b cb hb (dropEnv live s) e1 s1 h1 N w0 w S m A a _ i (env.drop live) hA hsz ?_).1
      rintro a1 w1 hre
      obtain ⟨S1, m1, A1, r1, r2, r3, r4, r5, r6, r7, r8⟩ := hre
      cases e1 with
      | norm =>
        simp only [evSeq] at he
        refine (ih nt (.loop b) (.loop live cb) (.loop live hb) s1 ex s' he N w0 w1 S1 m1 A1 a1 Q r1 r2 (fun b hb => ?_) (r3.trans hsz) fun a' w' hre => hQ a' w' (Reach.trans r3 r4 r5 r6 r7 r8 hre)).2 b rfl
        rcases r8 b hb with q | q
        · have := hA b q; have := r7; simp only [dropEnv] at this; omega
        · exact q.2
      | exit id =>
        simp only [evSeq, Option.some.injEq, Prod.mk.injEq] at he
        obtain ⟨rfl, rfl⟩ := he
        exact hQ a1 w1 ⟨S1, m1, A1, r1, r2, r3, r4, r5, r6, r7, r8⟩
      | ret =>
        simp only [evSeq, Option.some.injEq, Prod.mk.injEq] at he
        obtain ⟨rfl, rfl⟩ := he
        exact hQ a1 w1 ⟨S1, m1, A1, r1, r2, r3, r4, r5, r6, r7, r8⟩
    exact ⟨key.wp, fun b' e => by cases e; exact key⟩

end
end Go.Pav
