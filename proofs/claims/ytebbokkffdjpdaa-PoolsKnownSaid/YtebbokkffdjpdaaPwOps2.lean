/- Operations on slices and blocks. -/
import Derived.Test.YtebbokkffdjpdaaPwOps
namespace Go.Pw
open Go Go.Pav

section
variable {ρ : Nat → Nat} {V A : Nat → Prop} {n m : Nat} {h : WHeap} {h' : Heap} {e e' : Env}

theorem evUn_vw {op : UnOp} {x x' v : AV} (hx : VW ρ V A x x') (h : evUn op x = some v) : evUn op x' = some v ∧ VW ρ V A v v := by
  cases x with
  | int k a =>
    rw [hx.int_inv]
    refine ⟨h, ?_⟩
    cases op <;> simp only [evUn] at h <;> first | (cases h; done) | (cases h; constructor)
  | bool b =>
    rw [hx.bool_inv]
    refine ⟨h, ?_⟩
    cases op <;> simp only [evUn] at h <;> first | (cases h; done) | (cases h; constructor)
  | _ => simp [evUn] at h

theorem bound_vw {o : Option AV} {o' : Option AV} {d k : Nat} (ho : ∀ v, o = some v → ∃ v', o' = some v' ∧ VW ρ V A v v') (hn : o = none → o' = none) (h : bound o d = some k) : bound o' d = some k := by
  cases o with
  | none => rw [hn rfl]; exact h
  | some v =>
    obtain ⟨v', rfl, hv⟩ := ho v rfl
    cases v with
    | int k n => rw [hv.int_inv]; exact h
    | _ => simp [bound] at h

def OVW (ρ : Nat → Nat) (V A : Nat → Prop) : Option AV → Option AV → Prop
  | none, none => True
  | some v, some v' => VW ρ V A v v'
  | _, _ => False

theorem OVW.bound {o o' : Option AV} (ho : OVW ρ V A o o') {d k : Nat} (h : Pav.bound o d = some k) : Pav.bound o' d = some k := by
  cases o with
  | none => cases o' with
    | none => exact h
    | some v' => exact ho.elim
  | some v => cases o' with
    | none => exact ho.elim
    | some v' => exact bound_vw (ρ := ρ) (V := V) (A := A) (o := some v) (fun u hu => by cases hu; exact ⟨v', rfl, ho⟩) (fun q => by cases q) h

theorem sliceRo_vw {z : Nat} {es es' : List (List AV)} {ex ex' : Bool} {lo hi mx lo' hi' mx' : Option AV} {v : AV} (hr : Rel2 (Rel2 (VD ρ V)) es es') (hd : ∀ e ∈ es, ∀ x ∈ e, isC x = true) (hx : ex = true → ex' = true)
    (hlo : OVW ρ V A lo lo') (hhi : OVW ρ V A hi hi') (hmx : OVW ρ V A mx mx') (h : sliceRo z es ex lo hi mx = some v) : ∃ v', sliceRo z es' ex' lo' hi' mx' = some v' ∧ VW ρ V A v v' := by
  cases mx with
  | none =>
    cases mx' with
    | some _ => exact hmx.elim
    | none =>
      simp only [sliceRo] at h ⊢
      obtain ⟨hh, h1, h⟩ := ob_some h
      obtain ⟨ll, h2, h⟩ := ob_some h
      rw [← hr.1, hhi.bound h1]
      simp only [ob]
      rw [hlo.bound h2]
      simp only
      split at h
      · rename_i hc
        rw [if_pos hc]
        cases h
        refine ⟨_, rfl, VW.mkro ((hr.take hh).drop ll) (fun e he => hd e (List.mem_of_mem_take (List.mem_of_mem_drop he))) ?_⟩
        simp only [Bool.and_eq_true, decide_eq_true_eq]
        rintro ⟨q1, q2⟩
        exact ⟨hx q1, q2⟩
      · cases h
  | some mv =>
    cases mx' with
    | none => exact hmx.elim
    | some mv' =>
      simp only [sliceRo] at h ⊢
      obtain ⟨mm, h1, g1⟩ := ob_some h
      clear h
      obtain ⟨hv, hhv, g2⟩ := ob_some g1
      clear g1
      subst hhv
      obtain ⟨hh, h2, g3⟩ := ob_some g2
      clear g2
      obtain ⟨ll, h3, h⟩ := ob_some g3
      clear g3
      cases hi' with
      | none => exact hhi.elim
      | some hv' =>
        rw [OVW.bound (ρ := ρ) (V := V) (A := A) (o := some mv) (o' := some mv') hmx h1]
        simp only [ob]
        rw [OVW.bound (ρ := ρ) (V := V) (A := A) (o := some hv) (o' := some hv') hhi h2]
        simp only
        rw [hlo.bound h3]
        simp only [← hr.1]
        split at h
        · rename_i hc
          rw [if_pos hc]
          cases h
          exact ⟨_, rfl, VW.mkro ((hr.take hh).drop ll) (fun e he => hd e (List.mem_of_mem_take (List.mem_of_mem_drop he))) id⟩
        · cases h

theorem sliceNil_of {z : Nat} {ex : Bool} {lo hi mx lo' hi' mx' : Option AV} {v : AV}
    (hlo : OVW ρ V A lo lo') (hhi : OVW ρ V A hi hi') (hmx : OVW ρ V A mx mx') (h : sliceRo z [] ex lo hi mx = some v) : ∃ v', sliceNil lo' hi' mx' = some v' ∧ VW ρ V A v v' := by
  cases mx with
  | none =>
    cases mx' with
    | some _ => exact hmx.elim
    | none =>
      simp only [sliceRo, List.length_nil] at h
      obtain ⟨hh, h1, h⟩ := ob_some h
      obtain ⟨ll, h2, h⟩ := ob_some h
      split at h
      · rename_i hc
        cases h
        obtain ⟨c1, c2⟩ := hc
        refine ⟨.nils, ?_, ?_⟩
        · simp only [sliceNil]
          rw [show Pav.bound none 0 = some 0 from rfl]
          simp only [ob]
          rw [hhi.bound h1]
          simp only
          rw [hlo.bound h2]
          simp only
          rw [if_pos]
          exact ⟨by omega, by omega, by trivial, by simp⟩
        · simp only [List.take_nil, List.drop_nil]; exact .ronil _ _
      · cases h
  | some mv =>
    cases mx' with
    | none => exact hmx.elim
    | some mv' =>
      simp only [sliceRo, List.length_nil] at h
      obtain ⟨mm, h1, g1⟩ := ob_some h
      clear h
      obtain ⟨hv, hhv, g2⟩ := ob_some g1
      clear g1
      subst hhv
      obtain ⟨hh, h2, g3⟩ := ob_some g2
      clear g2
      obtain ⟨ll, h3, h⟩ := ob_some g3
      clear g3
      cases hi' with
      | none => exact hhi.elim
      | some hv' =>
        split at h
        · rename_i hc
          cases h
          obtain ⟨c1, c2, c3⟩ := hc
          refine ⟨.nils, ?_, ?_⟩
          · simp only [sliceNil]
            rw [OVW.bound (ρ := ρ) (V := V) (A := A) (o := some mv) (o' := some mv') hmx h1]
            simp only [ob]
            rw [OVW.bound (ρ := ρ) (V := V) (A := A) (o := some hv) (o' := some hv') hhi h2]
            simp only
            rw [hlo.bound h3]
            simp only
            rw [if_pos]
            exact ⟨by omega, by omega, by omega, by simp⟩
          · simp only [List.take_nil, List.drop_nil]; exact .ronil _ _
        · cases h

theorem sliceSl_vw {b z i len cap : Nat} {ex ex' : Bool} {lo hi mx lo' hi' mx' : Option AV} {v : AV} (hA : A b) (hV : ¬ V b) (hx : ex = true → ex' = true)
    (hlo : OVW ρ V A lo lo') (hhi : OVW ρ V A hi hi') (hmx : OVW ρ V A mx mx') (h : sliceSl b z i len cap ex lo hi mx = some v) : ∃ v', sliceSl (ρ b) z i len cap ex' lo' hi' mx' = some v' ∧ VW ρ V A v v' := by
  cases mx with
  | none =>
    cases mx' with
    | some _ => exact hmx.elim
    | none =>
      simp only [sliceSl] at h ⊢
      obtain ⟨hh, h1, h⟩ := ob_some h
      obtain ⟨ll, h2, h⟩ := ob_some h
      rw [hhi.bound h1]
      simp only [ob]
      rw [hlo.bound h2]
      simp only
      split at h
      · rename_i hc
        rw [if_pos hc]
        split at h
        · rename_i hc2; rw [if_pos hc2]; cases h; exact ⟨_, rfl, .sl _ _ _ _ _ _ _ hA hV hx⟩
        · rename_i hc2
          rw [if_neg hc2]
          cases ex with
          | true =>
            rw [hx rfl]
            simp only [if_true, Option.some.injEq] at h ⊢
            subst h
            exact ⟨_, rfl, .sl _ _ _ _ _ _ _ hA hV id⟩
          | false =>
            simp only [Bool.false_eq_true, if_false] at h
            split at h
            · rename_i hl
              subst hl
              simp only [Option.some.injEq] at h
              subst h
              cases ex' with
              | false => simp only [Bool.false_eq_true, if_false, if_true]; exact ⟨_, rfl, .sl _ _ _ _ _ _ _ hA hV id⟩
              | true => simp only [if_true, Nat.sub_zero]; exact ⟨_, rfl, .sl _ _ _ _ _ _ _ hA hV (fun q => by cases q)⟩
            · cases h
      · cases h
  | some mv =>
    cases mx' with
    | none => exact hmx.elim
    | some mv' =>
      simp only [sliceSl] at h ⊢
      obtain ⟨mm, h1, g1⟩ := ob_some h
      clear h
      obtain ⟨hv, hhv, g2⟩ := ob_some g1
      clear g1
      subst hhv
      obtain ⟨hh, h2, g3⟩ := ob_some g2
      clear g2
      obtain ⟨ll, h3, h⟩ := ob_some g3
      clear g3
      cases hi' with
      | none => exact hhi.elim
      | some hv' =>
        rw [OVW.bound (ρ := ρ) (V := V) (A := A) (o := some mv) (o' := some mv') hmx h1]
        simp only [ob]
        rw [OVW.bound (ρ := ρ) (V := V) (A := A) (o := some hv) (o' := some hv') hhi h2]
        simp only
        rw [hlo.bound h3]
        simp only
        split at h
        · rename_i hc
          rw [if_pos hc]
          split at h
          · rename_i hc2; rw [if_pos hc2]; cases h; exact ⟨_, rfl, .sl _ _ _ _ _ _ _ hA hV id⟩
          · rename_i hc2; rw [if_neg hc2]; cases h; exact ⟨_, rfl, .sl _ _ _ _ _ _ _ hA hV id⟩
        · cases h

/-- A slice of an empty one that has no like. -/
theorem sliceSl_virt {b z : Nat} {ex : Bool} {lo hi mx lo' hi' mx' : Option AV} {v : AV} (hA : A b) (hV : V b)
    (hlo : OVW ρ V A lo lo') (hhi : OVW ρ V A hi hi') (hmx : OVW ρ V A mx mx') (h : sliceSl b z 0 0 0 ex lo hi mx = some v) :
    ((∃ v', sliceNil lo' hi' mx' = some v' ∧ VW ρ V A v v') ∧ ∃ v', sliceRo z [] true lo' hi' mx' = some v' ∧ VW ρ V A v v') := by
  cases mx with
  | none =>
    cases mx' with
    | some _ => exact hmx.elim
    | none =>
      simp only [sliceSl] at h
      obtain ⟨hh, h1, h⟩ := ob_some h
      obtain ⟨ll, h2, h⟩ := ob_some h
      split at h
      · rename_i hc
        obtain ⟨c1, c2, _⟩ := hc
        have hv : ∃ ex2, v = .sl b z 0 0 0 ex2 := by
          have e1 : ll = 0 := by omega
          have e2 : hh = 0 := by omega
          subst e1; subst e2
          simp only [Nat.lt_irrefl, if_false, if_true] at h
          split at h
          · cases h; exact ⟨_, rfl⟩
          · cases h; exact ⟨_, rfl⟩
        obtain ⟨ex2, rfl⟩ := hv
        refine ⟨⟨.nils, ?_, .slv _ _ _ _ hA hV (.inl rfl)⟩, ⟨.ro z [] true, ?_, .slv _ _ _ _ hA hV (.inr rfl)⟩⟩
        · simp only [sliceNil]
          rw [show Pav.bound none 0 = some 0 from rfl]
          simp only [ob]
          rw [hhi.bound h1]
          simp only
          rw [hlo.bound h2]
          simp only
          rw [if_pos]
          exact ⟨by omega, by omega, by trivial, by simp⟩
        · simp only [sliceRo, List.length_nil]
          rw [hhi.bound h1]
          simp only [ob]
          rw [hlo.bound h2]
          simp only
          rw [if_pos ⟨c1, by omega⟩]
          have e2 : hh = 0 := by omega
          subst e2
          simp
      · cases h
  | some mv =>
    cases mx' with
    | none => exact hmx.elim
    | some mv' =>
      simp only [sliceSl] at h
      obtain ⟨mm, h1, g1⟩ := ob_some h
      clear h
      obtain ⟨hv, hhv, g2⟩ := ob_some g1
      clear g1
      subst hhv
      obtain ⟨hh, h2, g3⟩ := ob_some g2
      clear g2
      obtain ⟨ll, h3, h⟩ := ob_some g3
      clear g3
      cases hi' with
      | none => exact hhi.elim
      | some hv' =>
        split at h
        · rename_i hc
          obtain ⟨c1, c2, c3⟩ := hc
          have hv : v = .sl b z 0 0 0 true := by
            rw [if_neg (by omega)] at h
            cases h; rfl
          subst hv
          refine ⟨⟨.nils, ?_, .slv _ _ _ _ hA hV (.inl rfl)⟩, ⟨.ro z [] true, ?_, .slv _ _ _ _ hA hV (.inr rfl)⟩⟩
          · simp only [sliceNil]
            rw [OVW.bound (ρ := ρ) (V := V) (A := A) (o := some mv) (o' := some mv') hmx h1]
            simp only [ob]
            rw [OVW.bound (ρ := ρ) (V := V) (A := A) (o := some hv) (o' := some hv') hhi h2]
            simp only
            rw [hlo.bound h3]
            simp only
            rw [if_pos]
            exact ⟨by omega, by omega, by omega, by simp⟩
          · simp only [sliceRo, List.length_nil]
            rw [OVW.bound (ρ := ρ) (V := V) (A := A) (o := some mv) (o' := some mv') hmx h1]
            simp only [ob]
            rw [OVW.bound (ρ := ρ) (V := V) (A := A) (o := some hv) (o' := some hv') hhi h2]
            simp only
            rw [hlo.bound h3]
            simp only
            rw [if_pos ⟨c1, c2, by omega⟩]
            have e2 : mm = hh := by omega
            simp [e2]
        · cases h

theorem evSlice_vw {k : Nat} {x x' : AV} {lo hi mx lo' hi' mx' : Option AV} {v : AV} (hx : VW ρ V A x x')
    (hlo : OVW ρ V A lo lo') (hhi : OVW ρ V A hi hi') (hmx : OVW ρ V A mx mx') (h : evSlice k x lo hi mx = some v) : ∃ v', evSlice k x' lo' hi' mx' = some v' ∧ VW ρ V A v v' := by
  cases x with
  | str s =>
    rw [hx.str_inv]
    simp only [evSlice] at h ⊢
    split at h
    · rename_i hk
      rw [if_pos hk]
      cases mx with
      | some _ => simp [sliceStr] at h
      | none =>
        cases mx' with
        | some _ => exact hmx.elim
        | none =>
          simp only [sliceStr] at h ⊢
          obtain ⟨hh, h1, h⟩ := ob_some h
          obtain ⟨ll, h2, h⟩ := ob_some h
          rw [hhi.bound h1]
          simp only [ob]
          rw [hlo.bound h2]
          simp only
          split at h
          · rename_i hc; rw [if_pos hc]; cases h; exact ⟨_, rfl, .str _⟩
          · cases h
    · cases h
  | nils =>
    cases hx
    simp only [evSlice] at h ⊢
    split at h
    · cases h
    · rename_i hk
      rw [if_neg hk]
      simp only [sliceNil] at h ⊢
      obtain ⟨mm, h1, h⟩ := ob_some h
      obtain ⟨hh, h2, h⟩ := ob_some h
      obtain ⟨ll, h3, h⟩ := ob_some h
      rw [hmx.bound h1]
      simp only [ob]
      rw [hhi.bound h2]
      simp only
      rw [hlo.bound h3]
      simp only
      have e1 : mx.isSome = mx'.isSome := by cases mx <;> cases mx' <;> simp_all [OVW]
      have e2 : hi.isNone = hi'.isNone := by cases hi <;> cases hi' <;> simp_all [OVW]
      rw [e1, e2] at h
      split at h
      · rename_i hc; rw [if_pos hc]; cases h; exact ⟨_, rfl, .nils⟩
      · cases h
  | ro z es ex =>
    simp only [evSlice] at h
    split at h
    · rename_i hk
      rcases hx.ro_inv with ⟨rfl, rfl⟩ | ⟨es', ex', rfl, h2, h3, h4⟩
      · simp only [evSlice, if_neg hk.1]
        exact sliceNil_of hlo hhi hmx h
      · simp only [evSlice, if_pos hk]
        exact sliceRo_vw h3 h4 h2 hlo hhi hmx h
    · cases h
  | sl b z i len cap ex =>
    simp only [evSlice] at h
    split at h
    · rename_i hk
      rcases hx.sl_inv with ⟨hA, hV, ex', rfl, h2⟩ | ⟨hA, hV, rfl, rfl, rfl, h2⟩
      · simp only [evSlice, if_pos hk]
        exact sliceSl_vw hA hV h2 hlo hhi hmx h
      · obtain ⟨q1, q2⟩ := sliceSl_virt hA hV hlo hhi hmx h
        rcases h2 with rfl | rfl
        · simp only [evSlice, if_neg hk.1]; exact q1
        · simp only [evSlice, if_pos hk]; exact q2
    · cases h
  | _ => simp [evSlice] at h

end
end Go.Pw
