/- Operations without calls: what the second machine does the evaluator does. -/
import Derived.Test.YtebbokkffdjpdaaPwRel
namespace Go.Pw
open Go Go.Pav

def up (ρ : Nat → Nat) (n m : Nat) : Nat → Nat := fun b => if b = n then m else ρ b
def addN (A : Nat → Prop) (n : Nat) : Nat → Prop := fun b => A b ∨ b = n

/-- What comes of an operation here, and there. -/
def Ok2 (ρ : Nat → Nat) (V A : Nat → Prop) (n m : Nat) (h : WHeap) (h' : Heap) (r : AV × WUpd) (r' : AV × Upd) : Prop :=
  VW (up ρ n m) V (addN A n) r.1 r'.1 ∧ HW (up ρ n m) V (addN A n) (applyW h r.2) (applyUpd h' r'.2) ∧ ∀ b ∈ r'.2.map (·.1), ∃ c ∈ r.2.map (·.1), b = up ρ n m c ∧ ¬ V c ∧ addN A n c

section
variable {ρ : Nat → Nat} {V A : Nat → Prop} {n m : Nat} {h : WHeap} {h' : Heap} {e e' : Env}

theorem up_mono (hn : ¬ A n) : ∀ b, A b → addN A n b ∧ up ρ n m b = ρ b ∧ (V b ↔ V b) := by
  intro b hb
  refine ⟨.inl hb, ?_, Iff.rfl⟩
  unfold up
  rw [if_neg]
  rintro rfl; exact hn hb

theorem HW.up (H : HW ρ V A h h') (hn : ¬ A n) (hm : ∀ b, A b → ¬ V b → ρ b ≠ m) : HW (up ρ n m) V (addN A n) h h' := by
  have hu := up_mono (ρ := ρ) (V := V) (m := m) hn
  refine ⟨fun b o hb => .inl (H.dom b o hb), H.virt, fun b o hb hv => ?_, fun b hb => .inl (H.sub b hb), ?_⟩
  · obtain ⟨o', h1, h2⟩ := H.obj b o hb hv
    rw [(hu b (H.dom b o hb)).2.1]
    exact ⟨o', h1, h2.mono hu⟩
  · rintro b c (hb | rfl) (hc | rfl) vb vc hbc
    · rw [(hu b hb).2.1, (hu c hc).2.1] at hbc
      exact H.inj b c hb hc vb vc hbc
    · rw [(hu b hb).2.1] at hbc
      simp only [Pw.up, if_true] at hbc
      exact absurd hbc (hm b hb vb)
    · rw [(hu c hc).2.1] at hbc
      simp only [Pw.up, if_true] at hbc
      exact absurd hbc.symm (hm c hc vc)
    · rfl

theorem plain_ok (H : HW ρ V A h h') (hn : ¬ A n) (hm : ∀ b, A b → ¬ V b → ρ b ≠ m) {v v' : AV} (hv : VW ρ V A v v') : Ok2 ρ V A n m h h' (v, []) (v', []) :=
  ⟨hv.mono (up_mono hn), H.up hn hm, fun b hb => by simp at hb⟩

/-- A new block. -/
theorem new_ok (H : HW ρ V A h h') (hn : ¬ A n) (hm : ∀ b, A b → ¬ V b → ρ b ≠ m) {o : WObj} {o' : AObj} (ho : OW (Pw.up ρ n m) V (addN A n) o o') : HW (Pw.up ρ n m) V (addN A n) (put h n o) (put h' m o') := by
  have K := H.up hn hm
  have hVn : ¬ V n := fun q => hn (H.sub n q)
  have un : Pw.up ρ n m n = m := by simp [Pw.up]
  refine ⟨fun b x hb => ?_, fun b x hb hv => ?_, fun b x hb hv => ?_, K.sub, K.inj⟩
  · rw [get_put] at hb
    split at hb
    · rename_i q; exact .inr q.symm
    · exact K.dom b x hb
  · rw [get_put] at hb
    split at hb
    · rename_i q; subst q; exact absurd hv hVn
    · exact K.virt b x hb hv
  · rw [get_put] at hb
    split at hb
    · rename_i q; cases hb; subst q
      refine ⟨o', ?_, ho⟩
      rw [get_put, un, if_pos rfl]
    · rename_i q
      obtain ⟨x', h1, h2⟩ := K.obj b x hb hv
      refine ⟨x', ?_, h2⟩
      rw [get_put, if_neg]; exact h1
      exact fun q2 => q (K.inj n b (.inr rfl) (K.dom b x hb) hVn hv (un.trans q2))

/-- A block's content is replaced. -/
theorem write_ok {ρ : Nat → Nat} {V A : Nat → Prop} {h : WHeap} {h' : Heap} (H : HW ρ V A h h') {b : Nat} (hA : A b) (hV : ¬ V b) {o : WObj} {o' : AObj} (ho : OW ρ V A o o') : HW ρ V A (put h b o) (put h' (ρ b) o') := by
  refine ⟨fun c x hc => ?_, fun c x hc hv => ?_, fun c x hc hv => ?_, H.sub, H.inj⟩
  · rw [get_put] at hc
    split at hc
    · rename_i q; subst q; exact hA
    · exact H.dom c x hc
  · rw [get_put] at hc
    split at hc
    · rename_i q; subst q; exact absurd hv hV
    · exact H.virt c x hc hv
  · rw [get_put] at hc
    split at hc
    · rename_i q; subst q; cases hc
      exact ⟨o', by rw [get_put, if_pos rfl], ho⟩
    · rename_i q
      obtain ⟨x', h1, h2⟩ := H.obj c x hc hv
      refine ⟨x', ?_, h2⟩
      rw [get_put, if_neg]; exact h1
      exact fun q2 => q (H.inj b c hA (H.dom c x hc) hV hv q2)

/-- A block is given up here, and there. -/
theorem del_ok {ρ : Nat → Nat} {V A : Nat → Prop} {h : WHeap} {h' : Heap} (H : HW ρ V A h h') {b : Nat} (hA : A b) (hV : ¬ V b) : HW ρ V A (del h b) (del h' (ρ b)) := by
  refine ⟨fun c x hc => ?_, fun c x hc hv => ?_, fun c x hc hv => ?_, H.sub, H.inj⟩
  · rw [get_del] at hc
    split at hc
    · cases hc
    · exact H.dom c x hc
  · rw [get_del] at hc
    split at hc
    · cases hc
    · exact H.virt c x hc hv
  · rw [get_del] at hc
    split at hc
    · cases hc
    · rename_i q
      obtain ⟨x', h1, h2⟩ := H.obj c x hc hv
      refine ⟨x', ?_, h2⟩
      rw [get_del, if_neg]; exact h1
      exact fun q2 => q (H.inj b c hA (H.dom c x hc) hV hv q2)

/-- A block is given up here alone. -/
theorem drop_ok {ρ : Nat → Nat} {V A : Nat → Prop} {h : WHeap} {h' : Heap} (H : HW ρ V A h h') {b : Nat} : HW ρ V A (del h b) h' := by
  refine ⟨fun c x hc => ?_, fun c x hc hv => ?_, fun c x hc hv => ?_, H.sub, H.inj⟩
  all_goals
    rw [get_del] at hc
    split at hc
    · cases hc
    first
      | exact H.dom c x hc
      | exact H.virt c x hc hv
      | exact H.obj c x hc hv

end

section
variable {ρ : Nat → Nat} {V A : Nat → Prop}

theorem loadC_vw {cs cs' : List AV} (hr : Rel2 (VW ρ V A) cs cs') {n : Nat} {ag : Bool} {v : AV} (hv : loadC n ag cs = some v) : ∃ v', loadC n ag cs' = some v' ∧ VW ρ V A v v' := by
  unfold loadC at hv ⊢
  split at hv
  · rename_i hag
    rw [if_pos hag]
    split at hv
    · rename_i hn
      cases hv
      rw [← hr.1, if_pos hn]
      exact ⟨_, rfl, VW.mkagg (hr.take n)⟩
    · cases hv
  · rename_i hag
    rw [if_neg hag]
    cases cs with
    | nil => simp at hv
    | cons a r =>
      obtain ⟨b, r', rfl, h1, _⟩ := hr.inv_cons
      simp at hv; subst hv
      exact ⟨b, by simp, h1⟩

theorem splice_vw {cs cs' v v' : List AV} (hr : Rel2 (VW ρ V A) cs cs') (hv : Rel2 (VW ρ V A) v v') (off : Nat) : Rel2 (VW ρ V A) (splice cs off v) (splice cs' off v') := by
  unfold splice
  rw [hv.1]
  exact (hr.take off).append (hv.append (hr.drop _))

theorem fillC_vw {e e' : Env} (he : EW ρ V A e e') : ∀ (ps : List (Nat × Nat × Opd)) (cs cs' r : List AV), (ps.all fun p => okO p.2.2) = true → Rel2 (VW ρ V A) cs cs' → fillC e cs ps = some r →
    ∃ r', fillC e' cs' (ps.map fun p => (p.1, p.2.1, erO p.2.2)) = some r' ∧ Rel2 (VW ρ V A) r r' := by
  intro ps
  induction ps with
  | nil => intro cs cs' r _ hr h; simp only [fillC, Option.some.injEq] at h; subst h; exact ⟨cs', rfl, hr⟩
  | cons p ps ih =>
    intro cs cs' r hok hr h
    obtain ⟨off, n, x⟩ := p
    simp only [List.all_cons, Bool.and_eq_true] at hok
    simp only [fillC] at h
    split at h
    · rename_i hc
      obtain ⟨h1, h2⟩ := (he.opd hok.1).cells hc.2.2
      obtain ⟨r', h3, h4⟩ := ih _ _ r hok.2 (splice_vw hr h1 off) h
      refine ⟨r', ?_, h4⟩
      simp only [List.map_cons, fillC]
      rw [if_pos ⟨by rw [← h1.1]; exact hc.1, by rw [← hr.1]; exact hc.2.1, h2⟩]
      exact h3
    · cases h

theorem fillS_vw {e e' : Env} (he : EW ρ V A e e') (z : Nat) : ∀ (ps : List (Nat × Opd)) (es es' r : List (List AV)), (ps.all fun p => okO p.2) = true → Rel2 (Rel2 (VW ρ V A)) es es' → fillS e z es ps = some r →
    ∃ r', fillS e' z es' (ps.map fun p => (p.1, erO p.2)) = some r' ∧ Rel2 (Rel2 (VW ρ V A)) r r' := by
  intro ps
  induction ps with
  | nil => intro cs cs' r _ hr h; simp only [fillS, Option.some.injEq] at h; subst h; exact ⟨cs', rfl, hr⟩
  | cons p ps ih =>
    intro cs cs' r hok hr h
    obtain ⟨i, x⟩ := p
    simp only [List.all_cons, Bool.and_eq_true] at hok
    simp only [fillS] at h
    split at h
    · rename_i hc
      obtain ⟨h1, h2⟩ := (he.opd hok.1).cells hc.2.2
      obtain ⟨r', h3, h4⟩ := ih _ _ r hok.2 (hr.set h1) h
      refine ⟨r', ?_, h4⟩
      simp only [List.map_cons, fillS]
      rw [if_pos ⟨by rw [← h1.1]; exact hc.1, by rw [← hr.1]; exact hc.2.1, h2⟩]
      exact h3
    · cases h

theorem evBin_vw {op : BinOp} {x y x' y' v : AV} (hx : VW ρ V A x x') (hy : VW ρ V A y y') (h : evBin op x y = some v) : evBin op x' y' = some v ∧ VW ρ V A v v := by
  have binInt_leaf : ∀ {op k a b v}, binInt op k a b = some v → VW ρ V A v v := by
    intro op k a b v h
    unfold binInt at h
    split at h <;> first | (cases h; done) | (cases h; constructor) | (split at h <;> first | (cases h; done) | (cases h; constructor))
  have shift_leaf : ∀ {op k a b v}, shiftInt op k a b = some v → VW ρ V A v v := by
    intro op k a b v h
    unfold shiftInt at h
    split at h <;> first | (cases h; done) | (cases h; constructor)
  have binStr_leaf : ∀ {op a b v}, binStr op a b = some v → VW ρ V A v v := by
    intro op a b v h
    unfold binStr at h
    split at h <;> first | (cases h; done) | (cases h; constructor) | (split at h <;> first | (cases h; done) | (cases h; constructor))
  cases x with
  | int k a =>
    cases y with
    | int k' b =>
      rw [hx.int_inv, hy.int_inv]
      refine ⟨h, ?_⟩
      simp only [evBin] at h
      split at h
      · obtain ⟨q, _, h2⟩ := ob_some h; exact shift_leaf h2
      · split at h
        · exact binInt_leaf h
        · cases h
    | _ => simp [evBin] at h
  | str a =>
    cases y with
    | str b =>
      rw [hx.str_inv, hy.str_inv]
      exact ⟨h, binStr_leaf h⟩
    | _ => simp [evBin] at h
  | _ => simp [evBin] at h

theorem eqCell_vw {x y x' y' : AV} {b : Bool} (hx : VW ρ V A x x') (hy : VW ρ V A y y') (h : eqCell x y = some b) : eqCell x' y' = some b := by
  cases x with
  | int k a =>
    cases y with
    | int k' b => rw [hx.int_inv, hy.int_inv]; exact h
    | _ => simp [eqCell] at h
  | str a =>
    cases y with
    | str b => rw [hx.str_inv, hy.str_inv]; exact h
    | _ => simp [eqCell] at h
  | bool a =>
    cases y with
    | bool b => rw [hx.bool_inv, hy.bool_inv]; exact h
    | _ => simp [eqCell] at h
  | _ => simp [eqCell] at h

theorem keyOk_vw {kd : Nat} {x x' : AV} (hx : VW ρ V A x x') (h : keyOk kd x = true) : x' = x := by
  cases x with
  | int k a => exact hx.int_inv
  | str a => exact hx.str_inv
  | bool a => exact hx.bool_inv
  | _ => simp [keyOk] at h

theorem eqCells_vw : ∀ (ks : List Nat) {x y x' y' : List AV} {b : Bool}, Rel2 (VW ρ V A) x x' → Rel2 (VW ρ V A) y y' → eqCells ks x y = some b → eqCells ks x' y' = some b := by
  intro ks
  induction ks with
  | nil =>
    intro x y x' y' b hx hy h
    cases x with
    | nil => cases y with
      | nil => rw [hx.inv_nil, hy.inv_nil]; exact h
      | cons => simp [eqCells] at h
    | cons => simp [eqCells] at h
  | cons k ks ih =>
    intro x y x' y' b hx hy h
    cases x with
    | nil => simp [eqCells] at h
    | cons a r =>
      cases y with
      | nil => simp [eqCells] at h
      | cons c t =>
        obtain ⟨a', r', rfl, h1, h2⟩ := hx.inv_cons
        obtain ⟨c', t', rfl, h3, h4⟩ := hy.inv_cons
        simp only [eqCells] at h ⊢
        split at h
        · rename_i hk
          obtain ⟨p, h5, h6⟩ := ob_some h
          obtain ⟨q, h7, h8⟩ := om_some h6
          rw [keyOk_vw h1 hk, if_pos hk]
          have := eqCell_vw h1 h3 h5
          rw [keyOk_vw h1 hk] at this
          rw [this]
          simp only [ob]
          rw [ih h2 h4 h7]
          simp only [om, h8]
        · cases h

theorem eqVals_vw {kd : Nat} {ks : List Nat} {x y x' y' : AV} {b : Bool} (hx : VW ρ V A x x') (hy : VW ρ V A y y') (hk : kd ≠ 0) (h : eqVals kd ks x y = some b) : eqVals kd ks x' y' = some b := by
  unfold eqVals at h ⊢
  rw [if_neg hk] at h ⊢
  split at h
  · rename_i hk
    rw [if_pos hk]
    cases hx <;> cases hy <;> simp_all [eqFn]
  · rename_i hk
    rw [if_neg hk]
    split at h
    · rename_i hk
      rw [if_pos hk]
      cases hx <;> cases hy <;> simp_all [eqPtr]
    · rename_i hk
      rw [if_neg hk]
      split at h
      · rename_i hk
        rw [if_pos hk]
        cases hx <;> cases hy <;> simp_all [eqMap]
      · rename_i hk
        rw [if_neg hk]
        split at h
        · rename_i hk
          rw [if_pos hk]
          unfold eqAgg at h
          split at h
          · obtain ⟨c, rfl, h1⟩ := hx.agg_inv
            obtain ⟨d, rfl, h2⟩ := hy.agg_inv
            exact eqCells_vw ks h1 h2 h
          · cases h
        · rename_i hk
          rw [if_neg hk]
          unfold eqBool at h
          split at h
          · rw [hx.bool_inv, hy.bool_inv]; exact h
          · cases h

theorem wEqSl_vw {x y x' y' : AV} {b : Bool} (hx : VW ρ V A x x') (hy : VW ρ V A y y') (h : wEqSl x y = some b) : eqSl x' y' = some b := by
  unfold wEqSl at h
  split at h
  · cases hx; cases hy; exact h
  · cases hx; rcases hy.ro_inv with ⟨q, _⟩ | ⟨es', ex', rfl, _⟩
    · cases q
    · exact h
  · cases hy; rcases hx.ro_inv with ⟨q, _⟩ | ⟨es', ex', rfl, _⟩
    · cases q
    · exact h
  · cases h

end
end Go.Pw
