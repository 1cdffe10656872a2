/- Soundness of one operation, calls among them, where it stands in a region. -/
import Derived.Test.YtebbokkffdjpdaaPavCall
import Derived.Orders
namespace Go.Pav
open Go

def COp.calls : COp → Bool
  | .call _ _ => true
  | .callv _ _ => true
  | _ => false

def NoCall (x : Option COp) : Prop := ∀ c, x = some c → c.calls = false

theorem NoCall.none : NoCall none := fun c h => by cases h
theorem NoCall.some {c : COp} (h : c.calls = false) : NoCall (some c) := fun c' h' => by cases h'; exact h
theorem NoCall.bind {α : Type} {x : Option α} {f : α → Option COp} (h : ∀ a, NoCall (f a)) : NoCall (x >>= f) := by
  intro c hc
  cases x with
  | none => cases hc
  | some a => exact h a c hc
theorem NoCall.map {α : Type} {x : Option α} {f : α → COp} (h : ∀ a, (f a).calls = false) : NoCall (x.map f) := by
  intro c hc
  cases x with
  | none => cases hc
  | some a => cases hc; exact h a

theorem cEq_nocall (kd : Nat) (ks : List Nat) (op : BinOp) (x y : Opd) : NoCall (cEq kd ks op x y) := by
  unfold cEq
  split <;> first | exact NoCall.some rfl | exact NoCall.none

theorem cBuiltin_nocall (P : Program) (φ : FuncId → Option Nat) (b : Builtin) (args : List Operand) (ts : List TypeId) : NoCall (cBuiltin P φ b args ts) := by
  unfold cBuiltin
  split
  all_goals (first | unfold cLen | unfold cCap | unfold cAppend | unfold cCopy | unfold cMax | skip)
  all_goals (repeat' (first | exact NoCall.none | exact NoCall.some rfl | (refine NoCall.bind fun _ => ?_) | split))

theorem cOp_nocall (P : Program) (φ : FuncId → Option Nat) (op : Op) (h : ∀ c x, op = .call c → c.callee ≠ .value x) : NoCall (cOp P φ op) := by
  cases op
  case call c =>
    simp only [cOp]
    cases hc : c.callee with
    | value f => exact absurd hc (h c f rfl)
    | builtin b => exact cBuiltin_nocall P φ b _ _
    | invoke r n => exact NoCall.none
  case makeFunc fn first caps =>
    cases fn <;> simp only [cOp] <;> first | exact NoCall.none | skip
    refine NoCall.bind fun _ => ?_
    split
    · exact NoCall.bind fun _ => NoCall.some rfl
    · exact NoCall.none
  case makeMap t r => cases r <;> simp only [cOp] <;> first | exact NoCall.none | exact NoCall.some rfl
  case next x b => cases b <;> simp only [cOp] <;> first | exact NoCall.none | exact NoCall.map (fun _ => rfl)
  all_goals simp only [cOp]
  all_goals (repeat' (first | exact NoCall.none | exact NoCall.some rfl | exact NoCall.map (fun _ => rfl) | exact cEq_nocall _ _ _ _ _ | (refine NoCall.bind fun _ => ?_) | split))

theorem callOf_none {e : Env} {c : COp} (h : c.calls = false) : callOf e c = some none := by
  cases c <;> first | rfl | (simp [COp.calls] at h)

theorem run_callFunc_body {P : Program} {f : FuncId} {fn : Func} {c : Code} (hf : P.funcs[f]? = some fn) (hname : fn.name ≠ "runtime.NumGoroutine") (hb : fn.body = some c) (args : Array Value) (w : World) :
    (callFunc f args).run P w = .ok (.enter f args) w := by
  simp [callFunc, hf, hname, hb]

section
variable {P : Program} {φ : FuncId → Option Nat} {ψ : Nat → FuncId} {N : Nat} {w0 w : World} {S : Nat → Prop} {m : Nat → Nat × Nat} {A : Nat → Prop} {h : Heap} {e : Env} {a : Act} {o : Oper} {run : Run} {C : Prog}

/-- What is called. -/
theorem callOf_ok (cx : Cx P φ ψ N w0 w S m A h e a) {cop : COp} (hc : cOp P φ o.op = some cop) {f : Nat} {args : List AV} (hcall : callOf e cop = some (some (f, args))) :
    ∃ cargs : Array Value, cargs.size = args.length ∧ (∀ (j : Nat) (x : AV), args[j]? = some x → VR ψ w S m A x (cargs.getD j Go.undef)) ∧
      ∀ fn c, P.funcs[ψ f]? = some fn → fn.name ≠ "runtime.NumGoroutine" → fn.body = some c → (execOp a.eval o).run P w = .ok (.enter (ψ f) cargs) w := by
  have key : ∃ c X, o.op = .call c ∧ c.callee = .value X := by
    apply Classical.byContradiction
    intro hno
    have := cOp_nocall P φ o.op (fun c x h1 h2 => hno ⟨c, x, h1, h2⟩) cop hc
    rw [callOf_none this] at hcall
    cases hcall
  obtain ⟨c, X, ho, hX⟩ := key
  have exec : ∀ (F : FuncId) (vs : Array Value), a.eval X = .func (.func F) #[] vs → ∀ fn b, P.funcs[F]? = some fn → fn.name ≠ "runtime.NumGoroutine" → fn.body = some b →
      (execOp a.eval o).run P w = .ok (.enter F (c.args.map a.eval ++ vs)) w := by
    intro F vs hev fn b h1 h2 h3
    simp only [execOp, ho, resolve, hX, hev, Deferred.ofValue, invoke, Sem.run_bind, Sem.run_pure, Result.andThen_ok, Array.empty_append]
    exact run_callFunc_body h1 h2 h3 _ w
  have sized : ∀ (xs : List Opd) (caps : List AV) (vs : Array Value), cOpds φ c.args.toList = some xs → vs.size = caps.length → (∀ (j : Nat) (x : AV), caps[j]? = some x → VR ψ w S m A x (vs.getD j Go.undef)) →
      (c.args.map a.eval ++ vs).size = (xs.map (fun x => x.ev e) ++ caps).length ∧
      ∀ (j : Nat) (x : AV), (xs.map (fun x => x.ev e) ++ caps)[j]? = some x → VR ψ w S m A x ((c.args.map a.eval ++ vs).getD j Go.undef) := by
    intro xs caps vs hxs hn hcs
    obtain ⟨n1, n2⟩ := cx.opds hxs
    refine ⟨by simp [n1, hn], fun j x hj => ?_⟩
    rw [Array.getD_eq_getD_getElem?, Array.getElem?_append]
    rw [List.getElem?_append] at hj
    simp only [List.length_map, Array.size_map] at hj ⊢
    rw [n1]
    split at hj
    · rename_i hlt
      rw [if_pos hlt]
      rw [List.getElem?_map] at hj
      cases hy : xs[j]? with
      | none => rw [hy] at hj; cases hj
      | some y =>
        rw [hy] at hj
        cases hj
        obtain ⟨x0, r1, r2⟩ := n2 j y hy
        rw [Array.getElem?_map, r1]
        exact r2
    · rename_i hge
      rw [if_neg hge]
      have := hcs _ x hj
      rwa [Array.getD_eq_getD_getElem?] at this
  rw [ho] at hc
  simp only [cOp, hX] at hc
  split at hc
  · rename_i f0 heq
    cases heq
    simp only [Option.bind_eq_bind, Option.bind_eq_some_iff, Option.some.injEq] at hc
    obtain ⟨g, hg, xs, hxs, rfl⟩ := hc
    simp only [callOf, Option.some.injEq, Prod.mk.injEq] at hcall
    obtain ⟨rfl, rfl⟩ := hcall
    obtain ⟨s1, s2⟩ := sized xs [] #[] hxs rfl (fun j x hj => by simp at hj)
    refine ⟨c.args.map a.eval ++ #[], by simpa using s1, fun j x hj => s2 j x (by simpa using hj), ?_⟩
    exact exec (ψ g) #[] (by rw [cx.ids _ _ hg]; rfl)
  · rename_i X' _ heq
    cases heq
    simp only [Option.bind_eq_bind, Option.bind_eq_some_iff, Option.some.injEq] at hc
    obtain ⟨g, hg, xs, hxs, rfl⟩ := hc
    simp only [callOf] at hcall
    split at hcall
    · rename_i f' caps hev
      simp only [Option.some.injEq, Prod.mk.injEq] at hcall
      obtain ⟨rfl, rfl⟩ := hcall
      have hv := cx.opd hg
      rw [hev] at hv
      obtain ⟨vs, e1, n1, r1⟩ := hv.inv_fn
      obtain ⟨s1, s2⟩ := sized xs caps vs hxs n1 r1
      exact ⟨_, s1, s2, exec (ψ f') vs e1⟩
    · cases hcall
  · rename_i heq; cases heq
  · rename_i heq; cases heq

/-- What one operation comes to. -/
def OpOut (ψ : Nat → FuncId) (N : Nat) (w0 w : World) (S : Nat → Prop) (m : Nat → Nat × Nat) (A : Nat → Prop) (nid n : Nat) (w' : World) (cv : Value) (d : Did) : Prop :=
  ∃ S' m' A', VR ψ w' S' m' A' d.v cv ∧ Inv ψ N w0 w' S' m' A' d.h ∧ Le w S m A w' S' m' A' ∧ (∀ c, c < N → S' c → S c) ∧ n ≤ d.n ∧ ∀ b, A' b → A b ∨ b = nid ∨ (n ≤ b ∧ b < d.n)

theorem yielded_of {ops : Array Oper} {tmps : Array Value} {j s : Nat} (hs : (ops[j]?).bind (·.dst) = some s) :
    yielded ops tmps j = match tmps[s]? with | some (.bool b) => some b | _ => none := by
  simp only [yielded, hs, Option.bind_some]
  rfl

/-- Whether the model carries it out. -/
theorem wanted_ok {ops : Array Oper} (env : EnvR ψ w S m A e a.tmps) {g : Option (Nat × Bool)}
    (hg : (match o.guard with | none => some none | some (j, w) => ((ops[j]?).bind (·.dst)).map fun d => some (d, w) : Option (Option (Nat × Bool))) = some g) {b : Bool} (hw : wants e g = some b) :
    Region.wanted o (yielded ops a.tmps) = b := by
  cases hgu : o.guard with
  | none =>
    rw [hgu] at hg
    cases hg
    simp only [wants, Option.some.injEq] at hw
    simp [Region.wanted, hgu, ← hw]
  | some jw =>
    obtain ⟨j, want⟩ := jw
    rw [hgu] at hg
    simp only [Option.map_eq_some_iff] at hg
    obtain ⟨s, hs, rfl⟩ := hg
    simp only [wants] at hw
    simp only [Region.wanted, hgu, yielded_of hs]
    cases hx : get e s with
    | none => rw [hx] at hw; cases hw
    | some x =>
      have hv := env s x hx
      rw [hx] at hw
      cases x <;> (try simp only at hw) <;> try (cases hw; done)
      case bool t =>
        have := hv.inv_bool
        rw [Array.getD_eq_getD_getElem?] at this
        cases hy : a.tmps[s]? with
        | none => rw [hy] at this; cases this
        | some y =>
          rw [hy] at this
          simp only [Option.getD_some] at this
          subst this
          cases hw
          cases t <;> cases want <;> rfl
      case tup vs =>
        cases vs with
        | nil =>
          cases hw
          obtain ⟨us, e1, _, _⟩ := hv.inv_tup
          rw [Array.getD_eq_getD_getElem?] at e1
          cases hy : a.tmps[s]? with
          | none => rfl
          | some y =>
            rw [hy] at e1
            simp only [Option.getD_some] at e1
            subst e1
            rfl
        | cons _ _ => cases hw

/-- One operation. -/
theorem op_ok (hr : RunOk P ψ run) {ops : Array Oper} {i : Nat} (hi : ops[i]? = some o) {nid n : Nat} {d : Did} (he : evOp C run (cOper P φ ops o) nid e h n = some d)
    (cx : Cx P φ ψ N w0 w S m A h e a) (hA : ∀ b, A b → b < n) (hnid : ¬ A nid) {K : Act → World → Prop} {Q : Exit → Act → World → Prop}
    (hK : ∀ cv w', OpOut ψ N w0 w S m A nid n w' cv d → K (a.put o.dst cv) w') : wpOp P ops Q i K a w := by
  have quiet : ∀ {d' : Did}, d'.v = .tup [] → d'.h = h → d'.n = n → OpOut ψ N w0 w S m A nid n w Go.undef d' := by
    intro d' e1 e2 e3
    refine ⟨S, m, A, ?_, ?_, Le.refl .., fun _ _ hs => hs, by omega, fun b hb => .inl hb⟩
    · rw [e1]; exact .tup [] #[] rfl (by simp)
    · rw [e2]; exact cx.inv
  unfold cOper at he
  simp only at he
  split at he
  case h_2 => simp only [evOp, wants, evAct, callOf, stepOp, sNone, om] at he; cases he
  rename_i g cop hg hcop
  unfold wpOp
  simp only [hi]
  unfold evOp at he
  simp only at he
  split at he
  · cases he
  · rename_i hw
    cases he
    rw [wanted_ok cx.env hg hw]
    simp only [Bool.false_eq_true, if_false]
    exact hK _ _ (quiet rfl rfl rfl)
  · rename_i hw
    rw [wanted_ok cx.env hg hw]
    simp only [if_true]
    refine .inl ?_
    unfold Oper.wp
    unfold evAct at he
    split at he
    · cases he
    · rename_i f args hcall
      obtain ⟨c, hcd, rfl⟩ := om_some he
      obtain ⟨cargs, n1, n2, hex⟩ := callOf_ok cx hcop hcall
      obtain ⟨⟨fn, b, q1, q2, q3⟩, hcalls⟩ := evCall_ok hr hcd cx.inv hA n1 n2
      rw [hex fn b q1 q2 q3]
      simp only [Oper.upon]
      refine Calls.mono hcalls ?_
      rintro e' w' ⟨cv, rfl, S', m', A', r1, r2, r3, r4, r5, r6⟩
      exact hK cv w' ⟨S', m', A', r1, r2, r3, r4, r5, fun b hb => (r6 b hb).imp id .inr⟩
    · rename_i hcall
      obtain ⟨⟨v, u⟩, hst, rfl⟩ := om_some he
      obtain ⟨cv, w', m', A', hrun, r1, r2, r3, r4⟩ := step_ok cx hcop hst hnid
      have out : OpOut ψ N w0 w S m A nid n w' cv ⟨v, applyUpd h u, n, false, readsOf e cop, u.map (·.1)⟩ :=
        ⟨S, m', A', r1, r2, r3, fun _ _ hs => hs, Nat.le_refl _, fun b hb => (r4 b hb).imp id .inl⟩
      rcases hrun with hrun | ⟨hrun, rfl⟩
      · rw [hrun]; exact hK _ _ out
      · rw [hrun]; exact hK _ _ out

end
end Go.Pav
