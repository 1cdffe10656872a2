/- The evaluator is sound. -/
import Derived.Test.YtebbokkffdjpdaaPavDraw3
namespace Go.Pav
open Go

section
variable {P : Program} {φ : FuncId → Option Nat} {ψ : Nat → FuncId} {C : Prog} {run : Run} {N : Nat} {w0 w : World} {S : Nat → Prop} {m : Nat → Nat × Nat} {A : Nat → Prop} {a : Act}

theorem getD_in {l : Array Bool} {k : Nat} (hk : k < l.size) (d d' : Bool) : l.getD k d = l.getD k d' := by
  simp [Array.getD, hk]

theorem wpAny_drawn {ops : Array Oper} {base : Nat} {e0 : Env} {h0 : Heap} {n0 : Nat} {D : Nat → Did} {st : Nat → St} (dr : Drawn C run P φ ops base e0 h0 n0 D st) (hr : RunOk P ψ run) (ids : ∀ f g, φ f = some g → ψ g = f)
    {w1 : World} {a0 : Act} (hA0 : ∀ b, A b → b < base) (hd : ∀ o ∈ ops.toList, ∀ x, o.dst = some x → x < a0.tmps.size) {Q : Exit → Act → World → Prop}
    (hQ : ∀ a' w', AtL ψ N w0 w1 S m A ops base e0 h0 n0 D a0 (fun _ => true) a' w' → Q .normal a' w') :
    ∀ (fuel : Nat) (listed : Array Bool) (un : List Nat) (a : Act) (w : World), listed.size = ops.size → (∀ k, k < ops.size → listed.getD k false = false → k ∈ un) → un.length ≤ fuel →
      (∀ k, k < ops.size → listed.getD k false = true → ∀ j, ((ancestors ops.toList).getD k 0).testBit j = true → listed.getD j false = true) →
      AtL ψ N w0 w1 S m A ops base e0 h0 n0 D a0 (fun k => listed.getD k false) a w → wpAny P .any ops Q fuel listed a w := by
  have full : ∀ (listed : Array Bool) (a : Act) (w : World), listed.size = ops.size → Region.ready .any ops listed = [] → AtL ψ N w0 w1 S m A ops base e0 h0 n0 D a0 (fun k => listed.getD k false) a w → Q .normal a w := by
    intro listed a w hsz hready hat
    have all : ∀ k, k < ops.size → listed.getD k false = true := by
      intro k
      induction k using Nat.strongRecOn with
      | _ k ih =>
        intro hk
        cases hl : listed.getD k false with
        | true => rfl
        | false =>
          have hok : ops[k]? = some ops[k] := Array.getElem?_eq_getElem hk
          have : k ∈ Region.ready .any ops listed := by
            refine mem_ready.2 ⟨by rw [getD_in (by omega) true false]; exact hl, ops[k], hok, fun e he hb => ?_⟩
            have := edgesOk_at ops.toList 0 dr.edges k ops[k] (by rw [Array.getElem?_toList]; exact hok) e (Array.mem_toList_iff.2 he) hb
            exact ih e.on (by omega) (by omega)
          rw [hready] at this
          cases this
    refine hQ a w ?_
    obtain ⟨S1, m1, A1, e, h, n, r1, r2, r3, r4, r5, r6, r7, r8, r9, r10, r11⟩ := hat
    refine ⟨S1, m1, A1, e, h, n, r1, r2, fun s => ?_, fun b => ?_, ?_, r6, r7, r8, r9, r10, fun b hb => ?_⟩
    · rw [r3 s]; exact envAt_congr _ fun k hk => .inl (all k hk)
    · rw [r4 b]; exact heapAt_congr _ fun k hk => .inl (all k hk)
    · rw [r5]; exact nAt_congr _ fun k hk => .inl (all k hk)
    · rcases r11 b hb with q | ⟨k, q1, _, q3⟩ | q
      · exact .inl q
      · exact .inr (.inl ⟨k, q1, rfl, q3⟩)
      · exact .inr (.inr q)
  intro fuel
  induction fuel with
  | zero =>
    intro listed un a w hsz hun hlen _ hat
    have hun0 : un = [] := List.length_eq_zero_iff.1 (by omega)
    have : Region.ready .any ops listed = [] := by
      rw [List.eq_nil_iff_forall_not_mem]
      intro k hk
      obtain ⟨q1, o, q2, _⟩ := mem_ready.1 hk
      have hkl : k < ops.size := (Array.getElem?_eq_some_iff.1 q2).1
      have := hun k hkl (by rw [getD_in (by omega) false true]; exact q1)
      rw [hun0] at this; cases this
    exact ⟨this, full listed a w hsz this hat⟩
  | succ fuel ih =>
    intro listed un a w hsz hun hlen clos hat
    refine ⟨fun hready => full listed a w hsz hready hat, fun i hi => ?_⟩
    obtain ⟨q1, o, q2, q3⟩ := mem_ready.1 hi
    have hil : i < ops.size := (Array.getElem?_eq_some_iff.1 q2).1
    have hLi : listed.getD i false = false := by rw [getD_in (by omega) false true]; exact q1
    have hM : ∀ k, (listed.setIfInBounds i true).getD k false = (decide (k = i) || listed.getD k false) := by
      intro k
      simp only [Array.getD_eq_getD_getElem?]
      by_cases e : k = i
      · subst e
        have : k < listed.size := by omega
        simp [this]
      · rw [Array.getElem?_setIfInBounds_ne (Ne.symm e)]
        simp [e]
    have ready : ∀ e ∈ o.after.toList, Region.binds .any e = true → listed.getD e.on false = true := fun e he hb => q3 e (by simpa using he) hb
    refine drawn_step (L := fun k => listed.getD k false) (M := fun k => (listed.setIfInBounds i true).getD k false) dr hr ids hA0 hd q2 hLi hM ready clos hat fun a' w' hat' => ?_
    refine ih (listed.setIfInBounds i true) (un.erase i) a' w' (by simpa using hsz) (fun k hk hl => ?_) ?_ (fun k hk hl j hj => ?_) hat'
    · rw [hM] at hl
      simp only [Bool.or_eq_false_iff, decide_eq_false_iff_not] at hl
      exact (List.mem_erase_of_ne hl.1).2 (hun k hk hl.2)
    · rw [List.length_erase_of_mem (hun i hil hLi)]; omega
    · rw [hM] at hl ⊢
      simp only [Bool.or_eq_true, decide_eq_true_eq] at hl ⊢
      right
      rcases hl with rfl | hl
      · obtain ⟨ed, x1, x2, x3, x4⟩ := ancestors_bit dr.edges (by simpa using q2) hj
        have x5 := ready ed x1 x2
        rcases x4 with x | x
        · rw [← x]; exact x5
        · exact clos ed.on (by omega) x5 j x
      · exact clos k hk hl j hj

/-- Operations whose order is drawn. -/
theorem draw_ok (hL : Linked P φ ψ C) (hr : RunOk P ψ run) : DrawOk P φ ψ C run := by
  intro nt id ops un live hfit s r hev hap N w0 w S m A a Q i env hA hsz hQ
  cases hfit with
  | draw _ _ _ hd hE hu =>
    obtain ⟨D, st, dr, hend⟩ := Drawn.make (C := C) (run := run) (P := P) (φ := φ) hE hu hev hap
    refine wp_region_any hL.mixed ?_
    have le : Le w S m A { w with drawn := w.drawn + 1 } S m A := Le.same_heap rfl
    have i' : Inv ψ N w0 { w with drawn := w.drawn + 1 } S m A s.heap := i.same_heap rfl rfl rfl
    have none_ : ∀ k, (Array.replicate ops.size false).getD k false = false := by
      intro k
      rw [Array.getD_eq_getD_getElem?, Array.getElem?_replicate]
      split <;> rfl
    refine wpAny_drawn (N := N) (w0 := w0) (S := S) (m := m) (A := A) (w1 := w) (a0 := a) dr hr hL.ids hA (fun o ho x hx => by rw [hsz]; exact hd o ho x hx) ?_ ops.size _ (List.range ops.size) a _ (by simp) (fun k hk _ => List.mem_range.2 hk) (by simp) (fun k _ hl => by rw [none_] at hl; cases hl) ?_
    · rintro a' w' ⟨S1, m1, A1, e, h, n, r1, r2, r3, r4, r5, r6, r7, r8, r9, r10, r11⟩
      refine hQ a' w' ⟨S1, m1, A1, r1.ext fun b => ?_, r2.ext fun sl => ?_, r6, r7, r8, r9, ?_, fun b hb => ?_⟩
      · rw [hend, dr.heap ops.size b (Nat.le_refl _), r4 b]
      · rw [hend, dr.env ops.size sl (Nat.le_refl _), r3 sl]
      · rw [hend, dr.next ops.size (Nat.le_refl _), ← r5]; omega
      · rw [hend, dr.next ops.size (Nat.le_refl _), ← r5]
        rcases r11 b hb with q | ⟨k, q1, _, q3⟩ | ⟨q1, q2⟩
        · exact .inl q
        · exact .inr ⟨by omega, by omega⟩
        · exact .inr ⟨by omega, q2⟩
    · have e0 : (fun k => (Array.replicate ops.size false).getD k false) = fun _ => false := funext none_
      rw [e0]
      refine ⟨S, m, A, s.env, s.heap, s.next + ops.size, i', env.mono le, fun sl => ?_, fun b => ?_, ?_, rfl, rfl, le, fun _ _ h => h, Nat.le_refl _, fun b hb => .inl hb⟩
      · have : ∀ n, envAt s.env (fun k => (ops[k]?).bind (·.dst)) D (fun _ => false) sl n = get s.env sl := by
          intro n; induction n with
          | zero => rfl
          | succ n ih => simp only [envAt, Bool.false_eq_true, false_and, if_false]; exact ih
        exact (this _).symm
      · have : ∀ n, heapAt s.heap D (fun _ => false) b n = get s.heap b := by
          intro n; induction n with
          | zero => rfl
          | succ n ih => simp only [heapAt, Bool.false_eq_true, false_and, if_false]; exact ih
        exact (this _).symm
      · have : ∀ n, nAt (s.next + ops.size) D (fun _ => false) n = s.next + ops.size := by
          intro n; induction n with
          | zero => rfl
          | succ n ih => simp only [nAt, Bool.false_eq_true, false_and, if_false]; exact ih
        exact (this _).symm

/-- The evaluator's runs are the program's calls. -/
theorem run_ok (hL : Linked P φ ψ C) (fuel : Nat) : RunOk P ψ (Pav.run C fuel) :=
  run_step hL (all_ok hL (fun _ hr => draw_ok hL hr) fuel)

/-- A function on data, in a world: the value that the evaluator gives. -/
theorem callF_ok (hL : Linked P φ ψ C) {fuel g : Nat} {args : List AV} {v : AV} (hc : callF C fuel g args = some v) {w : World} {S : Nat → Prop} {m : Nat → Nat × Nat} {cargs : Array Value}
    (hS : ∀ c, S c → c < w.heap.size) (hs : cargs.size = args.length) (hv : ∀ (j : Nat) (x : AV), args[j]? = some x → VR ψ w S m (fun _ => False) x (cargs.getD j Go.undef)) :
    Calls P (ψ g) cargs w fun e w' => ∃ cv S' m', e = .returned cv ∧ VR ψ w' S' m' (fun _ => False) v cv ∧ (∀ c, c < w.heap.size → w'.heap[c]? = w.heap[c]?) ∧ w.heap.size ≤ w'.heap.size ∧ w'.os = w.os ∧ w'.output = w.output := by
  obtain ⟨⟨v0, h0, n0⟩, hrun, hfv⟩ := ob_some hc
  have hi0 : Inv ψ w.heap.size w w S m (fun _ => False) ([] : Heap) :=
    ⟨fun b o hb => by simp [get] at hb, fun b o hb => by simp [get] at hb, fun b o hb => by simp [get] at hb, fun b o hb => by simp [get] at hb, fun b o b' o' hb => by simp [get] at hb,
      hS, Nat.le_refl _, fun _ _ => rfl, rfl, rfl⟩
  refine Calls.mono ((run_ok hL fuel g args [] 0 v0 h0 n0 hrun).2 w.heap.size w w S m (fun _ => False) cargs hi0 (fun b hb => hb.elim) hs hv) ?_
  rintro e w' ⟨cv, rfl, S', m', A', hvr, hinv, hle, hsub, _, _⟩
  refine ⟨cv, fun c => S' c ∨ ∃ b ∈ reach h0 frzDepth v0, c = (m' b).1, m', rfl, ?_, hinv.old, hinv.size, hinv.os, hinv.out⟩
  exact frz_vr hinv.obj (fun b hb => .inl hb) frzDepth v0 v _ hfv hvr fun b hb => .inr ⟨b, hb, rfl⟩

end
end Go.Pav
