/- Calls and operations in the frame. -/
import Derived.Test.YtebbokkffdjpdaaPwCall
namespace Go.Pw
open Go Go.Pav

/-- What was made stays as it is. -/
def Keeps (ρ : Nat → Nat) (V A : Nat → Prop) (ρ' : Nat → Nat) (V' A' : Nat → Prop) : Prop := ∀ b, A b → A' b ∧ ρ' b = ρ b ∧ (V' b ↔ V b)

theorem Keeps.refl (ρ : Nat → Nat) (V A : Nat → Prop) : Keeps ρ V A ρ V A := fun _ h => ⟨h, rfl, Iff.rfl⟩
theorem Keeps.trans {ρ ρ1 ρ2 : Nat → Nat} {V A V1 A1 V2 A2 : Nat → Prop} (h : Keeps ρ V A ρ1 V1 A1) (k : Keeps ρ1 V1 A1 ρ2 V2 A2) : Keeps ρ V A ρ2 V2 A2 := fun b hb => by
  obtain ⟨h1, h2, h3⟩ := h b hb
  obtain ⟨k1, k2, k3⟩ := k b h1
  exact ⟨k1, k2.trans h2, k3.trans h3⟩

/-- All numbers are below. -/
structure Lts (ρ : Nat → Nat) (V A : Nat → Prop) (n m : Nat) : Prop where
  w : ∀ b, A b → b < n
  p : ∀ b, A b → ¬ V b → ρ b < m

def RunSim (run : WRun) (run' : Run) : Prop :=
  ∀ (f : Nat) (args : List AV) (h : WHeap) (n : Nat) (v : AV) (h1 : WHeap) (n1 : Nat), run f args h n = some (v, h1, n1) →
    ∀ (ρ : Nat → Nat) (V A : Nat → Prop) (args' : List AV) (h' : Heap) (m : Nat), Rel2 (VW ρ V A) args args' → HW ρ V A h h' → Lts ρ V A n m →
      ∃ v' h1' m1 ρ' V' A', run' f args' h' m = some (v', h1', m1) ∧ VW ρ' V' A' v v' ∧ HW ρ' V' A' h1 h1' ∧ Lts ρ' V' A' n1 m1 ∧ Keeps ρ V A ρ' V' A' ∧
        (∀ b, A' b → A b ∨ n ≤ b) ∧ (∀ b, A' b → ¬ V' b → (A b ∧ ρ' b = ρ b) ∨ m ≤ ρ' b) ∧ n ≤ n1 ∧ m ≤ m1

/-- What an operation did here and there. -/
structure OpSim (ρ : Nat → Nat) (V A : Nat → Prop) (nid n mid m : Nat) (d : WDid) (d' : Did) (ρ' : Nat → Nat) (V' A' : Nat → Prop) : Prop where
  v : VW ρ' V' A' d.v d'.v
  h : HW ρ' V' A' d.h d'.h
  keeps : Keeps ρ V A ρ' V' A'
  new : ∀ b, A' b → A b ∨ b = nid ∨ n ≤ b
  newp : ∀ b, A' b → ¬ V' b → (A b ∧ ρ' b = ρ b) ∨ ρ' b = mid ∨ m ≤ ρ' b
  lt : Lts ρ' V' A' d.n d'.n
  next : n ≤ d.n
  nextp : m ≤ d'.n
  bar : d'.bar = true → d.bar = true
  rd : ∀ b ∈ d'.rd, ∃ c ∈ d.rd, b = ρ' c ∧ ¬ V' c ∧ A' c
  wr : ∀ b ∈ d'.wr, ∃ c ∈ d.wr, b = ρ' c ∧ ¬ V' c ∧ A' c

section
variable {ρ : Nat → Nat} {V A : Nat → Prop} {n m : Nat} {h : WHeap} {h' : Heap} {e e' : Env} {C : WProg} {run : WRun} {run' : Run}

theorem frz_none : ∀ (v : AV), hasPtr v = true → ∀ (u : AV), VW ρ V A v u → ∀ n, frz h' n u = none := by
  have key : ∀ (v : AV), hasPtr v = true → ∀ (u : AV), VW ρ V A v u → ∀ n, frz h' n u = none := by
    intro v
    refine AV.rec (motive_1 := fun v => hasPtr v = true → ∀ (u : AV), VW ρ V A v u → ∀ n, frz h' n u = none) (motive_2 := fun _ => True)
      (motive_3 := fun l => hasPtrL l = true → ∀ l', Rel2 (VW ρ V A) l l' → ∀ n, mapO (frz h' n) l' = none) ?_ ?_ ?_ ?_ ?_ ?_ ?_ ?_ ?_ ?_ ?_ ?_ ?_ ?_ ?_ ?_ ?_ ?_ ?_ ?_ v
    · intro hp; simp [hasPtr] at hp
    · intro b hp; simp [hasPtr] at hp
    · intro b c hp; simp [hasPtr] at hp
    · intro b hp; simp [hasPtr] at hp
    · intro hp; simp [hasPtr] at hp
    · intro hp; simp [hasPtr] at hp
    · intro hp; simp [hasPtr] at hp
    · intro hp; simp [hasPtr] at hp
    · intro z es ex _ hp; simp [hasPtr] at hp
    · intro z _ hp; simp [hasPtr] at hp
    · intro b i o _ u hu n
      rw [hu.ptr_inv.1]; cases n <;> rfl
    · intro b z i len cap ex hp; simp [hasPtr] at hp
    · intro b _ u hu n
      rw [hu.map_inv.1]; cases n <;> rfl
    · intro f cs ih hp u hu n
      obtain ⟨cs', rfl, hr⟩ := hu.fn_inv
      cases n with
      | zero => rfl
      | succ n => simp only [frz, ih hp cs' hr n]; rfl
    · intro cs ih hp u hu n
      obtain ⟨cs', rfl, hr⟩ := hu.agg_inv
      cases n with
      | zero => rfl
      | succ n => simp only [frz, ih hp cs' hr n]; rfl
    · intro cs ih hp u hu n
      obtain ⟨cs', rfl, hr⟩ := hu.tup_inv
      cases n with
      | zero => rfl
      | succ n => simp only [frz, ih hp cs' hr n]; rfl
    · trivial
    · intros; trivial
    · intro hp; simp [hasPtrL] at hp
    · intro v l ih1 ih2 hp l' hr n
      obtain ⟨u, t, rfl, h1, h2⟩ := hr.inv_cons
      simp only [hasPtrL, Bool.or_eq_true] at hp
      simp only [mapO]
      rcases hp with hp | hp
      · rw [ih1 hp u h1 n]; rfl
      · rw [ih2 hp t h2 n]
        cases frz h' n u <;> rfl
  exact key

theorem mapO_frz_none : ∀ (l : List AV), hasPtrL l = true → ∀ l', Rel2 (VW ρ V A) l l' → ∀ n, mapO (frz h' n) l' = none := by
  intro l
  induction l with
  | nil => intro hp; simp [hasPtrL] at hp
  | cons v l ih2 =>
    intro hp l' hr n
    obtain ⟨u, t, rfl, h1, h2⟩ := hr.inv_cons
    simp only [hasPtrL, Bool.or_eq_true] at hp
    simp only [mapO]
    rcases hp with hp | hp
    · rw [frz_none v hp u h1 n]; rfl
    · rw [ih2 hp t h2 n]
      cases frz h' n u <;> rfl

/-- A call on data. -/
theorem pure_sim (hr : RunSim run run') {f : Nat} {as as' : List AV} {v : AV} (ha : Rel2 (VD ρ V) as as') (hp : pureCallW run f as = some v) : ∃ v', pureCall run' f as' = some v' ∧ VD ρ V v v' := by
  obtain ⟨⟨v0, h0, n0⟩, h1, h2⟩ := ob_some hp
  obtain ⟨v', h1', m1, ρ', V', A', r1, r2, r3, _⟩ := hr f as [] 0 v0 h0 n0 h1 ρ (fun _ => False) (fun _ => False) as' [] 0 (ha.mono fun x x' _ hx => hx.data)
    ⟨fun b o hb => by simp [Pav.get] at hb, fun b o hb => by simp [Pav.get] at hb, fun b o hb => by simp [Pav.get] at hb, fun b hb => hb.elim, fun b c hb => hb.elim⟩ ⟨fun b hb => hb.elim, fun b hb => hb.elim⟩
  obtain ⟨u', r4, r5⟩ := frz_vw r3 _ _ _ _ r2 h2
  exact ⟨u', by unfold pureCall; rw [r1]; exact r4, r5.data⟩

theorem call_sim (hr : RunSim run run') (H : HW ρ V A h h') (lt : Lts ρ V A n m) {f : Nat} {args args' : List AV} (ha : Rel2 (VW ρ V A) args args') {c : WCalled} (hc : evCallW C run f args h n = some c) (nid mid : Nat) :
    ∃ c' ρ' V' A', evCall (erProg C) run' f args' h' m = some c' ∧ OpSim ρ V A nid n mid m (doneCallW h n args c) (doneCall h' m args' c') ρ' V' A' := by
  have whole : ∀ {r : AV × WHeap × Nat}, run f args h n = some r → ∃ r' ρ' V' A', run' f args' h' m = some r' ∧ OpSim ρ V A nid n mid m (doneCallW h n args (.whole r.1 r.2.1 r.2.2)) (doneCall h' m args' (.whole r'.1 r'.2.1 r'.2.2)) ρ' V' A' := by
    rintro ⟨v, h1, n1⟩ hrun
    obtain ⟨v', h1', m1, ρ', V', A', r1, r2, r3, r4, r5, r6, r7, r8, r9⟩ := hr f args h n v h1 n1 hrun ρ V A args' h' m ha H lt
    refine ⟨(v', h1', m1), ρ', V', A', r1, r2, r3, r5, fun b hb => ?_, fun b hb hv => ?_, r4, r8, r9, fun _ => rfl, fun b hb => by simp [doneCall] at hb, fun b hb => by simp [doneCall] at hb⟩
    · rcases r6 b hb with q | q
      · exact .inl q
      · exact .inr (.inr q)
    · rcases r7 b hb hv with q | q
      · exact .inl q
      · exact .inr (.inr q)
  unfold evCallW at hc
  split at hc
  · rename_i hi
    obtain ⟨r, h1, rfl⟩ := om_some hc
    obtain ⟨r', ρ', V', A', r1, r2⟩ := whole h1
    refine ⟨_, ρ', V', A', ?_, r2⟩
    simp only [evCall, erProg, hi, if_true, inlineCall, r1, om, tidy]
  · rename_i hi
    have hi : C.inl f = false := by simpa using hi
    split at hc
    · rename_i hp
      obtain ⟨r, h1, rfl⟩ := om_some hc
      obtain ⟨r', ρ', V', A', r1, r2⟩ := whole h1
      refine ⟨_, ρ', V', A', ?_, r2⟩
      simp only [evCall, erProg, hi, Bool.false_eq_true, if_false, mapO_frz_none args hp args' ha, inlineCall, r1, om, tidy]
    · obtain ⟨as, h1, h2⟩ := ob_some hc
      obtain ⟨v, h3, rfl⟩ := om_some h2
      obtain ⟨as', h4, h5⟩ := mapO_of_rel (fun x y hxy x' hx' => frz_vw H frzDepth x y x' hxy hx') ha h1
      obtain ⟨v', h6, h7⟩ := pure_sim hr h5 h3
      have hreach : ∀ b' ∈ args'.flatMap (reach h' frzDepth), ∃ b ∈ args.flatMap (reachW h frzDepth), b' = ρ b ∧ ¬ V b ∧ A b ∧ ∃ z es mu dt, get h b = some (.cells z es mu dt) := by
        intro b' hb'
        simp only [List.mem_flatMap] at hb' ⊢
        obtain ⟨u, hu, hb'⟩ := hb'
        obtain ⟨j, hj, q1⟩ := List.getElem_of_mem hu
        obtain ⟨x, q2, q3⟩ := ha.get' (List.getElem?_eq_getElem hj)
        rw [q1] at q3
        obtain ⟨x', _, q4⟩ := (mapO_some h1).2 j x q2
        obtain ⟨b, q5, q6⟩ := reach_vw H frzDepth x u x' q3 q4 b' hb'
        exact ⟨b, ⟨x, List.mem_of_getElem? q2, q5⟩, q6⟩
      refine ⟨.data v' (marks h' args' v'), ρ, V, A, by simp only [evCall, erProg, hi, Bool.false_eq_true, if_false, h4, h6, om], ?_⟩
      have hmarks : HW ρ V A (applyW h (marksW h args v)) (applyUpd h' (marks h' args' v')) ∧ ∀ b' ∈ (marks h' args' v').map (·.1), ∃ b ∈ (marksW h args v).map (·.1), b' = ρ b ∧ ¬ V b ∧ A b := by
        unfold marks marksW
        by_cases hr2 : hasRefW frzDepth v = true
        · rw [if_pos hr2]
          split
          · exact marks_ok H _ _ hreach
          · have := marks_ok H (args.flatMap (reachW h frzDepth)) [] (fun b hb => by cases hb)
            exact ⟨this.1, fun b hb => by simp at hb⟩
        · rw [if_neg hr2, if_neg (fun q => hr2 (hasRef_vw _ _ _ h7 q))]
          exact ⟨H, fun b hb => by simp at hb⟩
      refine ⟨h7.mono fun _ q => q.elim, hmarks.1, Keeps.refl ρ V A, fun b hb => .inl hb, fun b hb _ => .inl ⟨hb, rfl⟩, lt, Nat.le_refl _, Nat.le_refl _, fun q => (by cases q), fun b' hb' => ?_, hmarks.2⟩
      obtain ⟨b, q1, q2, q3, q4, _⟩ := hreach b' hb'
      exact ⟨b, q1, q2, q3, q4⟩

theorem map_ev (he : EW ρ V A e e') {xs : List Opd} (hx : xs.all okO = true) : Rel2 (VW ρ V A) (xs.map fun x => x.ev e) ((xs.map erO).map fun x => x.ev e') := by
  rw [List.map_map]
  simp only [List.all_eq_true] at hx
  refine ⟨by simp, fun j x x' h1 h2 => ?_⟩
  rw [List.getElem?_map] at h1 h2
  cases h3 : xs[j]? with
  | none => rw [h3] at h1; cases h1
  | some c => rw [h3] at h1 h2; cases h1; cases h2; exact he.opd (hx c (List.mem_of_getElem? h3))

theorem rd_ok (he : EW ρ V A e e') {op : COp} (ho : okOp op = true) {r : AV × WUpd} (hs : stepW op e h n = some r) : ∀ b' ∈ readsOf e' (erOp op), ∃ b ∈ readsOf e op, b' = ρ b ∧ ¬ V b ∧ A b := by
  have one : ∀ {x : Opd}, okO x = true → x.ev e ≠ .undef → ∀ b' ∈ ptrId ((erO x).ev e'), ∃ b ∈ ptrId (x.ev e), b' = ρ b ∧ ¬ V b ∧ A b := by
    intro x hx hun b' hb'
    have hv := he.opd hx
    cases hxe : x.ev e with
    | ptr b i o => rw [hxe] at hv; obtain ⟨q, h1, h2⟩ := hv.ptr_inv; rw [q] at hb'; simp [ptrId] at hb' ⊢; exact ⟨hb', h2, h1⟩
    | map b => rw [hxe] at hv; obtain ⟨q, h1, h2⟩ := hv.map_inv; rw [q] at hb'; simp [ptrId] at hb' ⊢; exact ⟨hb', h2, h1⟩
    | sl b z i len cap ex =>
      rw [hxe] at hv
      rcases hv.sl_inv with ⟨h1, h2, ex', q, _⟩ | ⟨_, _, _, _, _, q⟩
      · rw [q] at hb'; simp [ptrId] at hb' ⊢; exact ⟨hb', h2, h1⟩
      · rcases q with q | q <;> rw [q] at hb' <;> simp [ptrId] at hb'
    | undef => exact absurd hxe hun
    | ro z es ex =>
      rw [hxe] at hv
      rcases hv.ro_inv with ⟨_, q⟩ | ⟨_, _, q, _⟩ <;> rw [q] at hb' <;> simp [ptrId] at hb'
    | _ => rw [hxe] at hv; cases hnm : (erO x).ev e' <;> rw [hnm] at hv hb' <;> first | (cases hv; done) | (simp [ptrId] at hb'; done)
  have two : ∀ {x y : Opd}, okO x = true → okO y = true → x.ev e ≠ .undef → y.ev e ≠ .undef → ∀ b' ∈ ptrId ((erO x).ev e') ++ ptrId ((erO y).ev e'), ∃ b ∈ ptrId (x.ev e) ++ ptrId (y.ev e), b' = ρ b ∧ ¬ V b ∧ A b := by
    intro x y hx hy hux huy b' hb'
    rcases List.mem_append.1 hb' with q | q
    · obtain ⟨b, q1, q2⟩ := one hx hux b' q; exact ⟨b, List.mem_append.2 (.inl q1), q2⟩
    · obtain ⟨b, q1, q2⟩ := one hy huy b' q; exact ⟨b, List.mem_append.2 (.inr q1), q2⟩
  have nil : ∀ b' ∈ ([] : List Nat), ∃ b ∈ readsOf e op, b' = ρ b ∧ ¬ V b ∧ A b := fun b' hb' => by cases hb'
  cases op with
  | load k ag a => exact one ho (fun q => by simp [stepW, wLoad, ovW, om, wLoadOf, q] at hs)
  | store k a x =>
    simp only [okOp, Bool.and_eq_true] at ho
    exact one ho.1 (fun q => by simp [stepW, wStore, wStoreOf, q] at hs)
  | next x => exact one ho (fun q => by simp [stepW, wNext, q] at hs)
  | len kd x => exact one ho (fun q => by simp [stepW, wLen, wEvLen, ovW, om, q] at hs)
  | look kd z ok m k =>
    simp only [okOp, Bool.and_eq_true] at ho
    exact one ho.2.1 (fun q => by simp [stepW, wLook, q] at hs)
  | upd kd m k v =>
    simp only [okOp, Bool.and_eq_true] at ho
    exact one ho.1 (fun q => by simp [stepW, wUpd, q] at hs)
  | app z bytes zeros s x =>
    simp only [okOp, Bool.and_eq_true] at ho
    have hux : x.ev e ≠ .undef := fun q => by simp [stepW, wApp, q, wElems, ob] at hs
    refine two ho.2.1 ho.2.2 (fun q => ?_) hux
    simp only [stepW, wApp, q] at hs
    split at hs
    · split at hs
      · obtain ⟨_, _, hs⟩ := ob_some hs
        split at hs
        · simp [wEvApp] at hs
        · cases hs
      · cases hs
    · obtain ⟨_, _, hs⟩ := ob_some hs
      simp [wEvApp] at hs
  | cpy z d s =>
    simp only [okOp, Bool.and_eq_true] at ho
    refine two ho.1 ho.2 (fun q => ?_) (fun q => by simp [stepW, wCpy, q, wElems, ob] at hs)
    simp only [stepW, wCpy, q] at hs
    obtain ⟨_, _, hs⟩ := ob_some hs
    simp [wCopyIn] at hs
  | _ => exact nil

theorem wants_sim (he : EW ρ V A e e') {g : Option (Nat × Bool)} {b : Bool} (hw : wants e g = some b) : wants e' g = some b := by
  cases g with
  | none => exact hw
  | some p =>
    obtain ⟨s, w⟩ := p
    simp only [wants] at hw ⊢
    cases hg : get e s with
    | none => rw [hg] at hw; cases hw
    | some v =>
      obtain ⟨v', h1, h2⟩ := he s v hg
      rw [hg] at hw
      rw [h1]
      cases v with
      | bool b => rw [h2.bool_inv]; exact hw
      | tup vs =>
        cases vs with
        | nil =>
          obtain ⟨vs', rfl, hr⟩ := h2.tup_inv
          rw [hr.inv_nil]; exact hw
        | cons a r => cases hw
      | _ => cases hw

/-- One operation. -/
theorem op_sim (hr : RunSim run run') (he : EW ρ V A e e') (H : HW ρ V A h h') (lt : Lts ρ V A n m) {nid mid : Nat} (hn : ¬ A nid) (hnl : nid < n) (hm : ∀ b, A b → ¬ V b → ρ b ≠ mid) (hml : mid < m)
    {o : COper} (ho : okOp o.op = true) {d : WDid} (hd : evOpW C run o nid e h n = some d) : ∃ d' ρ' V' A', evOp (erProg C) run' (erOper o) mid e' h' m = some d' ∧ OpSim ρ V A nid n mid m d d' ρ' V' A' := by
  unfold evOpW at hd
  cases hw : wants e o.guard with
  | none => rw [hw] at hd; cases hd
  | some b =>
    rw [hw] at hd
    have hw' := wants_sim he hw
    cases b with
    | false =>
      simp only [Option.some.injEq] at hd
      subst hd
      refine ⟨⟨.tup [], h', m, false, [], []⟩, ρ, V, A, by simp only [evOp, erOper, hw'], VW.mktup .nil, H, Keeps.refl ρ V A, fun b hb => .inl hb, fun b hb _ => .inl ⟨hb, rfl⟩, lt, Nat.le_refl _, Nat.le_refl _, fun q => (by cases q), fun b hb => (by cases hb), fun b hb => (by cases hb)⟩
    | true =>
      simp only at hd
      have goal : ∃ d' ρ' V' A', evAct (erProg C) run' (erOp o.op) mid e' h' m = some d' ∧ OpSim ρ V A nid n mid m d d' ρ' V' A' := by
        have callCase : ∀ (f : Nat) (args args' : List AV), Rel2 (VW ρ V A) args args' → callOf e' (erOp o.op) = some (some (f, args')) → callOf e o.op = some (some (f, args)) →
            ∃ d' ρ' V' A', evAct (erProg C) run' (erOp o.op) mid e' h' m = some d' ∧ OpSim ρ V A nid n mid m d d' ρ' V' A' := by
          intro f args args' ha hc' hc
          simp only [evActW, hc] at hd
          obtain ⟨c, h1, rfl⟩ := om_some hd
          obtain ⟨c', ρ', V', A', h2, h3⟩ := call_sim hr H lt ha h1 nid mid
          exact ⟨_, ρ', V', A', by simp only [evAct, hc', h2, om], h3⟩
        by_cases hcall : callOf e o.op = some none
        · have hcall' : callOf e' (erOp o.op) = some none := by
            cases hop : o.op <;> rw [hop] at hcall <;> simp only [callOf, erOp] at hcall ⊢
            · cases hcall
            · split at hcall <;> cases hcall
          simp only [evActW, hcall] at hd
          obtain ⟨r, h1, rfl⟩ := om_some hd
          obtain ⟨r', h2, h3⟩ := stepW_ok he H hn hm ho h1
          have hu := up_mono (ρ := ρ) (V := V) (m := mid) hn
          have hVn : ¬ V nid := fun q => hn (H.sub nid q)
          refine ⟨_, up ρ nid mid, V, addN A nid, by simp only [evAct, hcall', h2, om]; rfl, h3.1, h3.2.1, hu, ?_, ?_, ⟨?_, ?_⟩, Nat.le_refl _, Nat.le_refl _, fun q => (by cases q), ?_, ?_⟩
          · rintro b (hb | rfl)
            · exact .inl hb
            · exact .inr (.inl rfl)
          · rintro b (hb | rfl) hv
            · exact .inl ⟨hb, (hu b hb).2.1⟩
            · exact .inr (.inl (by simp [up]))
          · rintro b (hb | rfl)
            · exact lt.w b hb
            · exact hnl
          · rintro b (hb | rfl) hv
            · rw [(hu b hb).2.1]; exact lt.p b hb hv
            · simp only [up, if_true]; exact hml
          · intro b' hb'
            obtain ⟨b, q1, q2, q3, q4⟩ := rd_ok he ho h1 b' hb'
            exact ⟨b, q1, by rw [(hu b q4).2.1]; exact q2, q3, .inl q4⟩
          · intro b' hb'
            exact h3.2.2 b' hb'
        · cases hop : o.op with
          | call f args =>
            rw [hop] at ho
            have := callCase f _ _ (map_ev he ho) (by rw [hop]; rfl) (by rw [hop]; rfl)
            rwa [hop] at this
          | callv g args =>
            rw [hop] at ho
            simp only [okOp, Bool.and_eq_true] at ho
            have hg := he.opd ho.1
            cases hge : g.ev e with
            | fn f caps =>
              rw [hge] at hg
              obtain ⟨caps', q, hrel⟩ := hg.fn_inv
              have := callCase f _ _ ((map_ev he ho.2).append hrel) (by rw [hop]; simp only [erOp, callOf, q]) (by rw [hop]; simp only [callOf, hge])
              rwa [hop] at this
            | _ =>
              exfalso
              rw [hop] at hd
              simp only [evActW, callOf, hge] at hd
              cases hd
          | _ => exact absurd (by rw [hop]; rfl) hcall
      obtain ⟨d', ρ', V', A', h1, h2⟩ := goal
      exact ⟨d', ρ', V', A', by simp only [evOp, erOper, hw']; exact h1, h2⟩

end
end Go.Pw
