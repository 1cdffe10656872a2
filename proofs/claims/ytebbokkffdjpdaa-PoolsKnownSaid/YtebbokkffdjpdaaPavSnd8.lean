/- Soundness: slicing, making, lengths. -/
import Derived.Test.YtebbokkffdjpdaaPavSnd7
namespace Go.Pav
open Go

section
variable {P : Program} {φ : FuncId → Option Nat} {ψ : Nat → FuncId} {N : Nat} {w0 w : World} {S : Nat → Prop} {m : Nat → Nat × Nat} {A : Nat → Prop} {h : Heap} {e : Env} {a : Act} {o : Oper}

/-- An optional operand. -/
def OptR (ψ : Nat → FuncId) (w : World) (S : Nat → Prop) (m : Nat → Nat × Nat) (A : Nat → Prop) : Option AV → Option Value → Prop
  | none, none => True
  | some x, some c => VR ψ w S m A x c
  | _, _ => False

theorem Cx.opt (cx : Cx P φ ψ N w0 w S m A h e a) {x : Option Operand} {y : Option Opd} (hy : cOpt φ x = some y) : OptR ψ w S m A (oev e y) (x.map a.eval) := by
  cases x with
  | none => simp only [cOpt] at hy; cases hy; trivial
  | some x =>
    simp only [cOpt, Option.map_eq_some_iff] at hy
    obtain ⟨z, hz, rfl⟩ := hy
    exact cx.opd hz

theorem bound_some {x : Option AV} {c : Option Value} (hr : OptR ψ w S m A x c) {d n : Nat} (hb : bound x d = some n) : (x = none ∧ c = none ∧ n = d) ∨ (x.isSome = true ∧ ∃ k : IntKind, c = some (.int k n)) := by
  cases x with
  | none =>
    cases c with
    | none => simp only [bound] at hb; cases hb; exact .inl ⟨rfl, rfl, rfl⟩
    | some c => exact hr.elim
  | some x =>
    cases c with
    | none => exact hr.elim
    | some c =>
      right
      cases x <;> simp only [bound] at hb <;> try (cases hb; done)
      have hv : VR ψ w S m A _ c := hr
      have e1 := hv.inv_int
      have e2 := nat?_some hb
      exact ⟨rfl, _, by rw [e1, e2]⟩

theorem sliceBound_run (k : IntKind) (n y : Nat) (code : BoundsCode) (hn : n ≤ y) : (Instr.sliceBound (.int k n) y code).run P w = .ok n w := by
  unfold Instr.sliceBound
  simp only [asIntOf, Sem.run_bind, Sem.run_pure, Result.andThen_ok]
  rw [if_pos (by omega)]
  simp

theorem bounds2_run (isS : Bool) {len cap l h : Nat} {lo hi : Option Value} (hlo : (lo = none ∧ l = 0) ∨ ∃ k : IntKind, lo = some (.int k l)) (hhi : (hi = none ∧ h = len) ∨ ∃ k : IntKind, hi = some (.int k h))
    (h1 : l ≤ h) (h2 : h ≤ cap) : (Instr.sliceBounds isS len cap lo hi none).run P w = .ok (l, h, cap) w := by
  unfold Instr.sliceBounds
  rcases hhi with ⟨rfl, rfl⟩ | ⟨k, rfl⟩
  · rcases hlo with ⟨rfl, rfl⟩ | ⟨k', rfl⟩
    · simp
    · simp [sliceBound_run k' l h _ h1]
  · rcases hlo with ⟨rfl, rfl⟩ | ⟨k', rfl⟩
    · simp [sliceBound_run k h cap _ h2]
    · simp [sliceBound_run k h cap _ h2, sliceBound_run k' l h _ h1]

theorem bounds3_run {len cap l h mm : Nat} {lo : Option Value} {k k2 : IntKind} (hlo : (lo = none ∧ l = 0) ∨ ∃ k : IntKind, lo = some (.int k l))
    (h1 : l ≤ h) (h2 : h ≤ mm) (h3 : mm ≤ cap) : (Instr.sliceBounds true len cap lo (some (.int k h)) (some (.int k2 mm))).run P w = .ok (l, h, mm) w := by
  unfold Instr.sliceBounds
  rcases hlo with ⟨rfl, rfl⟩ | ⟨k', rfl⟩
  · simp [sliceBound_run k2 mm cap _ h3, sliceBound_run k h mm _ h2]
  · simp [sliceBound_run k2 mm cap _ h3, sliceBound_run k h mm _ h2, sliceBound_run k' l h _ h1]

theorem slice_some_run {t el : TypeId} {z : Nat} (hd : P.underlying t = some (.slice el)) (hz : sizeT P el = some z) {g off len cap l h mm : Nat} {lo hi mx : Option Value}
    (hb : (Instr.sliceBounds true len cap lo hi mx).run P w = .ok (l, h, mm) w) :
    (Instr.sliceAt t (.slice (some ⟨g, off, none⟩) len cap) lo hi mx).run P w = .ok (.slice (some ⟨g, if mm = l then off else off + l * z, none⟩) (h - l) (mm - l)) w := by
  simp only [Instr.sliceAt, Instr.slice, Sem.run_bind, run_underlying hd, Result.andThen_ok, hb, sizeOf_run hz, Sem.run_pure]
  split <;> simp_all [add_row]

theorem VR.ro_sub {z : Nat} {es : List (List AV)} {ex : Bool} {g off len cap : Nat} (hv : ∃ cs : Nat → Nat → Value, len = es.length ∧ S g ∧ (∀ (i : Nat) (e : List AV), es[i]? = some e → e.length = z) ∧ es.length ≤ cap ∧ (ex = true → cap = es.length) ∧ (∀ (i : Nat) (e : List AV) (j : Nat) (x : AV), es[i]? = some e → e[j]? = some x → x.cell = true ∧ w.cell? ⟨g, off + i * z + j, none⟩ = some (cs i j)) ∧ ∀ (i : Nat) (e : List AV) (j : Nat) (x : AV), es[i]? = some e → e[j]? = some x → VR ψ w S m (fun _ => False) x (cs i j)) {l h mm : Nat} (h1 : l ≤ h) (h2 : h ≤ es.length) (h3 : h ≤ mm) {ex' : Bool}
    (hex : ex' = true → mm = h) : VR ψ w S m A (.ro z ((es.take h).drop l) ex') (.slice (some ⟨g, if mm = l then off else off + l * z, none⟩) (h - l) (mm - l)) := by
  obtain ⟨cs, rfl, hS, hw, hcap, hx, hcell, hrep⟩ := hv
  have hl : ((es.take h).drop l).length = h - l := by simp; omega
  have get : ∀ (i : Nat) (e : List AV), ((es.take h).drop l)[i]? = some e → es[l + i]? = some e ∧ l + i < h := by
    intro i e he
    rw [List.getElem?_drop, List.getElem?_take] at he
    split at he
    · rename_i hh; exact ⟨he, hh⟩
    · cases he
  have := VR.ro (ψ := ψ) (w := w) (S := S) (m := m) (A := A) z ((es.take h).drop l) ex' g (if mm = l then off else off + l * z) (mm - l) (fun i j => cs (l + i) j) hS (fun i e he => hw _ e (get i e he).1) (by rw [hl]; omega) (fun hx' => by rw [hl]; have := hex hx'; omega)
    (fun i e j x he hx => ?_) (fun i e j x he hx => hrep _ e j x (get i e he).1 hx)
  · rwa [hl] at this
  · obtain ⟨q1, q2⟩ := get i e he
    obtain ⟨q3, q4⟩ := hcell _ e j x q1 hx
    refine ⟨q3, ?_⟩
    rw [if_neg (by omega), ← q4]
    congr 2
    rw [Nat.add_mul]
    omega

theorem VR.sl_sub {b z i len cap : Nat} {ex : Bool} {c : Value} (hv : VR ψ w S m A (.sl b z i len cap ex) c) {cc l h mm cap' : Nat} (hc : c = .slice (some ⟨(m b).1, i * z, none⟩) len cc) (h1 : l ≤ h) (h3 : h ≤ mm) (h4 : mm ≤ cc) (h5 : cap' ≤ mm - l) {ex' : Bool}
    (hex : ex' = true → mm - l = cap') (i' : Nat) (hi : i' = if mm = l then i else i + l) :
    VR ψ w S m A (.sl b z i' (h - l) cap' ex') (.slice (some ⟨(m b).1, if mm = l then i * z else i * z + l * z, none⟩) (h - l) (mm - l)) := by
  obtain ⟨cc', e1, hA, hz, hl, hcap, hx, cur, t, fr, hrow, hsz⟩ := hv.inv_sl
  rw [hc] at e1
  cases e1
  have hoff : (if mm = l then i * z else i * z + l * z) = i' * z := by
    rw [hi]
    split
    · rfl
    · rw [Nat.add_mul]
  rw [hoff]
  refine .sl b z i' (h - l) cap' ex' (mm - l) hA hz (by omega) h5 hex ⟨cur, t, fr, hrow, Nat.le_trans (Nat.mul_le_mul_right z ?_) hsz⟩
  rw [hi]
  split <;> omega

theorem slice_ok (cx : Cx P φ ψ N w0 w S m A h e a) {t : TypeId} {X : Operand} {lo hi mx : Option Operand} (ho : o.op = .slice t X lo hi mx) : Ok P φ ψ N w0 w S m A h e a o := by
  intro cop v u nid hc hs hn
  rw [ho] at hc
  simp only [cOp, Option.bind_eq_bind, Option.bind_eq_some_iff] at hc
  obtain ⟨x, hx, d, hd, hc⟩ := hc
  have hX := cx.opd hx
  have fin : ∀ cv, (Instr.sliceAt t (a.eval X) (lo.map a.eval) (hi.map a.eval) (mx.map a.eval)).run P w = .ok cv w → VR ψ w S m A v cv → Snd P ψ N w0 w S m A (execOp a.eval o) (applyUpd h []) v nid :=
    fun cv q1 q2 => Snd.val cx.inv (s := Instr.sliceAt t (a.eval X) (lo.map a.eval) (hi.map a.eval) (mx.map a.eval)) (by simp [execOp, ho]) q1 q2 nid
  split at hc
  · rename_i el
    simp only [Option.bind_eq_some_iff] at hc
    obtain ⟨z, hz, hc⟩ := hc
    split at hc
    · cases hc
    · rename_i hz0
      simp only [Option.bind_eq_some_iff] at hc
      obtain ⟨lo', hlo, hi', hhi, mx', hmx, hc⟩ := hc
      cases hc
      simp only [stepOp, sSlice] at hs
      obtain ⟨h1, rfl⟩ := ov_some hs
      have rlo := cx.opt hlo
      have rhi := cx.opt hhi
      have rmx := cx.opt hmx
      generalize oev e lo' = alo at h1 rlo
      generalize oev e hi' = ahi at h1 rhi
      generalize oev e mx' = amx at h1 rmx
      generalize lo.map a.eval = clo at rlo fin
      generalize hi.map a.eval = chi at rhi fin
      generalize mx.map a.eval = cmx at rmx fin
      have lob : ∀ l, bound alo 0 = some l → (clo = none ∧ l = 0) ∨ ∃ k : IntKind, clo = some (.int k l) := by
        intro l hl
        rcases bound_some rlo hl with ⟨_, q1, q2⟩ | ⟨_, q⟩
        · exact .inl ⟨q1, q2⟩
        · exact .inr q
      have hib : ∀ d h, bound ahi d = some h → (ahi = none ∧ chi = none ∧ h = d) ∨ ∃ k : IntKind, chi = some (.int k h) := by
        intro d h hl
        rcases bound_some rhi hl with q | ⟨_, q⟩
        · exact .inl q
        · exact .inr q
      cases hxv : x.ev e <;> rw [hxv] at h1 hX <;> simp only [evSlice] at h1 <;> try (cases h1; done)
      · rw [if_neg hz0] at h1; cases h1
      · rw [if_neg hz0] at h1
        unfold sliceNil at h1
        obtain ⟨mm, hm, h1'⟩ := ob_some h1
        replace h1 := h1'; clear h1'
        obtain ⟨hh, hhh, h1'⟩ := ob_some h1
        replace h1 := h1'; clear h1'
        obtain ⟨l, hl, h1'⟩ := ob_some h1
        replace h1 := h1'; clear h1'
        split at h1
        · rename_i hc
          obtain ⟨rfl, rfl, rfl, hno⟩ := hc
          cases h1
          rw [hX.inv_nils] at fin
          refine fin (.slice none 0 0) ?_ .nils
          have hb : (Instr.sliceBounds true 0 0 clo chi cmx).run P w = .ok (0, 0, 0) w := by
            rcases bound_some rmx hm with ⟨q1, rfl, _⟩ | ⟨q1, k, rfl⟩
            · refine bounds2_run true (lob 0 hl) ?_ (Nat.le_refl _) (Nat.le_refl _)
              rcases hib 0 0 hhh with ⟨_, q2, q3⟩ | ⟨k, q2⟩
              · exact .inl ⟨q2, rfl⟩
              · exact .inr ⟨k, q2⟩
            · rcases hib 0 0 hhh with ⟨q2, _, _⟩ | ⟨k2, rfl⟩
              · exact absurd ⟨q1, by rw [q2]; rfl⟩ hno
              · exact bounds3_run (lob 0 hl) (Nat.le_refl _) (Nat.le_refl _) (Nat.le_refl _)
          simp only [Instr.sliceAt, Instr.slice, Sem.run_bind, run_underlying hd, Result.andThen_ok, hb, sizeOf_run hz, Sem.run_pure]
          simp
        · cases h1
      · rename_i z' es ex
        split at h1
        · rename_i hzz
          obtain ⟨_, rfl⟩ := hzz
          rcases hX.inv_ro with ⟨g, off, cap, cs, e1, hS, hw, hcap, hex, hcell, hrep⟩ | ⟨rfl, ad, e1⟩
          case inr =>
            rw [e1] at fin
            unfold sliceRo at h1
            have done_ : (Instr.sliceBounds true 0 0 clo chi cmx).run P w = .ok (0, 0, 0) w → (Instr.sliceAt t (.slice (some ad) 0 0) clo chi cmx).run P w = .ok (.slice (some ad) 0 0) w := fun hb => by
              simp only [Instr.sliceAt, Instr.slice, Sem.run_bind, run_underlying hd, Result.andThen_ok, hb, sizeOf_run hz, Sem.run_pure]
              simp
            cases amx with
            | none =>
              have hcm : cmx = none := by cases cmx with | none => rfl | some c => exact rmx.elim
              subst hcm
              simp only at h1
              obtain ⟨hh, hhh, h1'⟩ := ob_some h1
              replace h1 := h1'; clear h1'
              obtain ⟨l, hl, h1'⟩ := ob_some h1
              replace h1 := h1'; clear h1'
              split at h1
              · rename_i hc
                obtain ⟨c1, c2⟩ := hc
                simp only [List.length_nil, Nat.le_zero] at c2
                subst c2
                obtain rfl : l = 0 := by omega
                cases h1
                refine fin _ (done_ (bounds2_run true (lob 0 hl) ?_ (Nat.le_refl _) (Nat.le_refl _))) (.roe ..)
                rcases hib _ _ hhh with ⟨_, q2, q3⟩ | ⟨k, q2⟩
                · exact .inl ⟨q2, rfl⟩
                · exact .inr ⟨k, q2⟩
              · cases h1
            | some am =>
              simp only at h1
              obtain ⟨mm, hm, h1'⟩ := ob_some h1
              replace h1 := h1'; clear h1'
              obtain ⟨ah, hah, h1'⟩ := ob_some h1
              replace h1 := h1'; clear h1'
              subst hah
              obtain ⟨hh, hhh, h1'⟩ := ob_some h1
              replace h1 := h1'; clear h1'
              obtain ⟨l, hl, h1'⟩ := ob_some h1
              replace h1 := h1'; clear h1'
              split at h1
              · rename_i hc
                obtain ⟨c1, c2, c3⟩ := hc
                simp only [List.length_nil, Nat.le_zero] at c3
                subst c3
                obtain rfl : hh = 0 := by omega
                obtain rfl : l = 0 := by omega
                cases h1
                rcases bound_some rmx hm with ⟨q1, _, _⟩ | ⟨_, k, rfl⟩
                · cases q1
                · rcases hib _ _ hhh with ⟨q2, _, _⟩ | ⟨k2, rfl⟩
                  · cases q2
                  · exact fin _ (done_ (bounds3_run (lob 0 hl) (Nat.le_refl _) (Nat.le_refl _) (Nat.le_refl _))) (.roe ..)
              · cases h1
          rw [e1] at fin hX
          unfold sliceRo at h1
          cases amx with
          | none =>
            have hcm : cmx = none := by cases cmx with | none => rfl | some c => exact rmx.elim
            subst hcm
            simp only at h1
            obtain ⟨hh, hhh, h1'⟩ := ob_some h1
            replace h1 := h1'; clear h1'
            obtain ⟨l, hl, h1'⟩ := ob_some h1
            replace h1 := h1'; clear h1'
            split at h1
            · rename_i hc
              obtain ⟨c1, c2⟩ := hc
              cases h1
              refine fin _ (slice_some_run hd hz (bounds2_run true (lob l hl) ?_ c1 (by omega))) (VR.ro_sub ⟨cs, rfl, hS, hw, hcap, hex, hcell, hrep⟩ c1 c2 (by omega) fun hx' => ?_)
              · rcases hib _ _ hhh with ⟨_, q2, q3⟩ | ⟨k, q2⟩
                · exact .inl ⟨q2, q3⟩
                · exact .inr ⟨k, q2⟩
              · simp only [Bool.and_eq_true, decide_eq_true_eq] at hx'
                rw [hex hx'.1, hx'.2]
            · cases h1
          | some am =>
            simp only at h1
            obtain ⟨mm, hm, h1'⟩ := ob_some h1
            replace h1 := h1'; clear h1'
            obtain ⟨ah, hah, h1'⟩ := ob_some h1
            replace h1 := h1'; clear h1'
            subst hah
            obtain ⟨hh, hhh, h1'⟩ := ob_some h1
            replace h1 := h1'; clear h1'
            obtain ⟨l, hl, h1'⟩ := ob_some h1
            replace h1 := h1'; clear h1'
            split at h1
            · rename_i hc
              obtain ⟨c1, c2, c3⟩ := hc
              cases h1
              rcases bound_some rmx hm with ⟨q1, _, _⟩ | ⟨_, k, rfl⟩
              · cases q1
              · rcases hib _ _ hhh with ⟨q2, _, _⟩ | ⟨k2, rfl⟩
                · cases q2
                · exact fin _ (slice_some_run hd hz (bounds3_run (lob l hl) c1 c2 (by omega))) (VR.ro_sub ⟨cs, rfl, hS, hw, hcap, hex, hcell, hrep⟩ c1 (by omega) c2 fun hx' => by simpa using hx')
            · cases h1
        · cases h1
      · rename_i b z' i len cap ex
        split at h1
        · rename_i hzz
          obtain ⟨_, rfl⟩ := hzz
          obtain ⟨cc, e1, hA, hmz, hlen, hcap, hex, hrow⟩ := hX.inv_sl
          rw [e1] at fin
          unfold sliceSl at h1
          cases amx with
          | none =>
            have hcm : cmx = none := by cases cmx with | none => rfl | some c => exact rmx.elim
            subst hcm
            simp only at h1
            obtain ⟨hh, hhh, h1'⟩ := ob_some h1
            replace h1 := h1'; clear h1'
            obtain ⟨l, hl, h1'⟩ := ob_some h1
            replace h1 := h1'; clear h1'
            split at h1
            · rename_i hc
              obtain ⟨c1, c2, c3⟩ := hc
              have run := slice_some_run (P := P) (w := w) (t := t) (off := i * z') (g := (m b).1) hd hz (bounds2_run (P := P) (w := w) (len := len) (cap := cc) (h := hh) (hi := chi) true (lob l hl) (by
                rcases hib _ _ hhh with ⟨_, q2, q3⟩ | ⟨k, q2⟩
                · exact .inl ⟨q2, q3⟩
                · exact .inr ⟨k, q2⟩) c1 (by omega))
              split at h1
              · cases h1
                exact fin _ run (hX.sl_sub e1 c1 (by omega) (Nat.le_refl _) (by omega) (fun hx' => by rw [hex hx']) _ (by rw [if_neg (by omega)]))
              · split at h1
                · rename_i hx'
                  cases h1
                  have hce := hex hx'
                  exact fin _ run (hX.sl_sub e1 c1 (by omega) (Nat.le_refl _) (by omega) (fun _ => by rw [hce]) _ (by rw [if_pos (by omega)]))
                · split at h1
                  · rename_i hl0
                    subst hl0
                    cases h1
                    have := hX.sl_sub (l := 0) (mm := cc) (cap' := cap) (ex' := ex) e1 c1 (by omega) (Nat.le_refl _) (by omega) (fun hx' => by rw [hex hx']; rfl) i (by split <;> rfl)
                    rw [Nat.sub_zero] at this
                    exact fin _ run this
                  · cases h1
            · cases h1
          | some am =>
            simp only at h1
            obtain ⟨mm, hm, h1'⟩ := ob_some h1
            replace h1 := h1'; clear h1'
            obtain ⟨ah, hah, h1'⟩ := ob_some h1
            replace h1 := h1'; clear h1'
            subst hah
            obtain ⟨hh, hhh, h1'⟩ := ob_some h1
            replace h1 := h1'; clear h1'
            obtain ⟨l, hl, h1'⟩ := ob_some h1
            replace h1 := h1'; clear h1'
            split at h1
            · rename_i hc
              obtain ⟨c1, c2, c3⟩ := hc
              rcases bound_some rmx hm with ⟨q1, _, _⟩ | ⟨_, k, rfl⟩
              · cases q1
              · rcases hib _ _ hhh with ⟨q2, _, _⟩ | ⟨k2, rfl⟩
                · cases q2
                · have run := slice_some_run (P := P) (w := w) (t := t) (off := i * z') (g := (m b).1) hd hz (bounds3_run (P := P) (w := w) (len := len) (cap := cc) (h := hh) (k := k2) (k2 := k) (mm := mm) (lob l hl) c1 c2 (by omega))
                  split at h1
                  · cases h1
                    exact fin _ run (hX.sl_sub e1 c1 c2 (by omega) (Nat.le_refl _) (fun _ => rfl) _ (by rw [if_neg (by omega)]))
                  · cases h1
                    have e0 : hh - l = 0 := by omega
                    have := hX.sl_sub (l := l) (h := hh) (mm := mm) (cap' := 0) (ex' := true) e1 c1 c2 (by omega) (Nat.zero_le _) (fun _ => by omega) i (by rw [if_pos (by omega)])
                    rw [e0] at this run
                    exact fin _ run this
            · cases h1
        · cases h1
  · simp only [Option.bind_eq_some_iff] at hc
    obtain ⟨lo', hlo, hi', hhi, mx', hmx, hc⟩ := hc
    cases hc
    simp only [stepOp, sSlice] at hs
    obtain ⟨h1, rfl⟩ := ov_some hs
    have rlo := cx.opt hlo
    have rhi := cx.opt hhi
    have rmx := cx.opt hmx
    generalize oev e lo' = alo at h1 rlo
    generalize oev e hi' = ahi at h1 rhi
    generalize oev e mx' = amx at h1 rmx
    generalize lo.map a.eval = clo at rlo fin
    generalize hi.map a.eval = chi at rhi fin
    generalize mx.map a.eval = cmx at rmx fin
    cases hxv : x.ev e <;> rw [hxv] at h1 hX <;> simp only [evSlice] at h1 <;> try (cases h1; done)
    · rename_i s
      rw [if_pos trivial] at h1
      unfold sliceStr at h1
      cases amx with
      | some am => cases h1
      | none =>
        have hcm : cmx = none := by cases cmx with | none => rfl | some c => exact rmx.elim
        subst hcm
        simp only at h1
        obtain ⟨hh, hhh, h1'⟩ := ob_some h1
        replace h1 := h1'; clear h1'
        obtain ⟨l, hl, h1'⟩ := ob_some h1
        replace h1 := h1'; clear h1'
        split at h1
        · rename_i hc
          obtain ⟨c1, c2⟩ := hc
          cases h1
          have eX := hX.inv_str
          rw [eX] at fin
          have hsz : (⟨⟨s⟩⟩ : ByteArray).size = s.length := rfl
          have hb : (Instr.sliceBounds false s.length s.length clo chi none).run P w = .ok (l, hh, s.length) w := by
            refine bounds2_run false ?_ ?_ c1 c2
            · rcases bound_some rlo hl with ⟨_, q1, q2⟩ | ⟨_, q⟩
              · exact .inl ⟨q1, q2⟩
              · exact .inr q
            · rcases bound_some rhi hhh with ⟨_, q1, q2⟩ | ⟨_, q⟩
              · exact .inl ⟨q1, q2⟩
              · exact .inr q
          refine fin (.string ⟨⟨(s.take hh).drop l⟩⟩) ?_ (.str _)
          have hx : (⟨⟨s⟩⟩ : ByteArray).extract l hh = ⟨⟨(s.take hh).drop l⟩⟩ := by
            have : ((⟨⟨s⟩⟩ : ByteArray).extract l hh).data = ⟨(s.take hh).drop l⟩ := by
              rw [ByteArray.data_extract]
              apply Array.ext'
              simp only [Array.toList_extract, List.extract_eq_take_drop]
              rw [List.drop_take]
            calc (⟨⟨s⟩⟩ : ByteArray).extract l hh = ⟨((⟨⟨s⟩⟩ : ByteArray).extract l hh).data⟩ := rfl
              _ = _ := by rw [this]
          simp only [Instr.sliceAt, Instr.slice, Sem.run_bind, run_underlying hd, Result.andThen_ok, hsz]
          simp only [Option.isSome_none, Bool.false_eq_true, if_false, Sem.run_bind, Result.andThen_ok, hb, Sem.run_pure]
          rw [hx]
        · cases h1
    all_goals (simp at h1)
  · cases hc

end
end Go.Pav
