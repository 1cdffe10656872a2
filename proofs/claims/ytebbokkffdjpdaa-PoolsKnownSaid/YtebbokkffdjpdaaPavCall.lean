/- Calls: freezing, what is left of a heap behind a call, what a call on data does. -/
import Derived.Test.YtebbokkffdjpdaaPavSndC
namespace Go.Pav
open Go

theorem mapO_inv {α β : Type} {f : α → Option β} : ∀ {l : List α} {r : List β}, mapO f l = some r → ∀ (i : Nat) (b : β), r[i]? = some b → ∃ a, l[i]? = some a ∧ f a = some b := by
  intro l r h i b hb
  obtain ⟨hl, hi⟩ := mapO_some h
  have hlt : i < l.length := by rw [← hl]; exact (List.getElem?_eq_some_iff.1 hb).1
  obtain ⟨b', h1, h2⟩ := hi i l[i] (List.getElem?_eq_getElem hlt)
  rw [hb] at h1
  cases h1
  exact ⟨l[i], List.getElem?_eq_getElem hlt, h2⟩

section
variable {ψ : Nat → FuncId} {w : World} {S S' : Nat → Prop} {m : Nat → Nat × Nat} {A : Nat → Prop} {h : Heap}

theorem frz_cell {n : Nat} {v v' : AV} (hf : frz h n v = some v') : v'.cell = v.cell := by
  cases n with
  | zero => simp [frz] at hf
  | succ n =>
    cases v <;> simp only [frz] at hf
    case sl b z i len cap ex =>
      split at hf
      · obtain ⟨es', _, hf⟩ := ob_some hf
        obtain ⟨_, hf⟩ := og_some hf
        cases hf; rfl
      · cases hf
    case fn f caps => obtain ⟨cs, _, rfl⟩ := om_some hf; rfl
    case agg cs => obtain ⟨cs, _, rfl⟩ := om_some hf; rfl
    case tup cs => obtain ⟨cs, _, rfl⟩ := om_some hf; rfl
    all_goals (cases hf; try rfl)

theorem take_drop_get {α : Type} {l : List α} {i len k : Nat} {a : α} (hk : ((l.drop i).take len)[k]? = some a) : k < len ∧ l[i + k]? = some a := by
  rw [List.getElem?_take] at hk
  split at hk
  · rename_i hlt
    rw [List.getElem?_drop] at hk
    exact ⟨hlt, hk⟩
  · cases hk

/-- What is frozen is read-only data. -/
theorem frz_vr (hob : ∀ b o, get h b = some o → OR ψ w S m A (m b) o) (hS : ∀ b, S b → S' b) : ∀ (n : Nat) (v v' : AV) (c : Value), frz h n v = some v' → VR ψ w S m A v c →
    (∀ b ∈ reach h n v, S' (m b).1) → VR ψ w S' m (fun _ => False) v' c := by
  intro n
  induction n with
  | zero => intro v v' c hf; simp [frz] at hf
  | succ n ih =>
    intro v v' c hf hv hr
    cases hv with
    | undef => simp [frz] at hf
    | bool b => simp only [frz] at hf; cases hf; exact .bool b
    | int k x => simp only [frz] at hf; cases hf; exact .int k x
    | str s => simp only [frz] at hf; cases hf; exact .str s
    | nilp => simp only [frz] at hf; cases hf; exact .nilp
    | nils => simp only [frz] at hf; cases hf; exact .nils
    | nilm => simp only [frz] at hf; cases hf; exact .nilm
    | nilf => simp only [frz] at hf; cases hf; exact .nilf
    | roe z ex a => simp only [frz] at hf; cases hf; exact .roe z ex a
    | ro z es ex b off cap cs h1 h2 h3 h4 h5 h6 =>
      simp only [frz] at hf; cases hf
      exact (VR.ro (A := fun _ => False) z es ex b off cap cs h1 h2 h3 h4 h5 h6).mono' (fun _ _ => rfl) (fun _ c _ _ h => ⟨c, h, rfl⟩) hS (fun _ h => h) (fun _ h => h.elim)
    | rop cs b off vs h1 h2 h3 =>
      simp only [frz] at hf; cases hf
      exact (VR.rop (A := fun _ => False) cs b off vs h1 h2 h3).mono' (fun _ _ => rfl) (fun _ c _ _ h => ⟨c, h, rfl⟩) hS (fun _ h => h) (fun _ h => h.elim)
    | ptr b i o hA => simp [frz] at hf
    | map b hA => simp [frz] at hf
    | sl b z i len cap ex cc hA hz hl hc hx hrow =>
      simp only [frz] at hf
      split at hf
      · rename_i zb es mu hg
        obtain ⟨es', hes, hf⟩ := ob_some hf
        obtain ⟨hlen, hf⟩ := og_some hf
        simp only [decide_eq_true_eq] at hlen
        cases hf
        obtain ⟨q1, q2, cur, t, q3, q4, q5⟩ := hob b _ hg
        have hzb : zb = z := q1.symm.trans hz
        subst hzb
        have elem : ∀ (k : Nat) (e' : List AV), es'[k]? = some e' → ∃ e, es[i + k]? = some e ∧ ((es.drop i).take len)[k]? = some e ∧ mapO (frz h n) e = some e' := by
          intro k e' hk
          obtain ⟨e, r1, r2⟩ := mapO_inv hes k e' hk
          exact ⟨e, (take_drop_get r1).2, r1, r2⟩
        have hro := VR.ro (ψ := ψ) (w := w) (S := S') (m := m) (A := fun _ => False) zb es' (ex && decide (cap = len)) (m b).1 (i * zb) cc (fun k j => cur.getD ((i + k) * zb + j) Go.undef)
          (hr b (by simp [reach])) ?_ (by rw [hlen]; exact hl) ?_ ?_ ?_
        · rw [hlen] at hro; exact hro
        · intro k e' hk
          obtain ⟨e, r1, r2, r3⟩ := elem k e' hk
          rw [(mapO_some r3).1]
          exact q2 _ _ r1
        · intro hx'
          simp only [Bool.and_eq_true, decide_eq_true_eq] at hx'
          rw [hx hx'.1, hx'.2, hlen]
        · intro k e' j x' hk hj
          obtain ⟨e, r1, r2, r3⟩ := elem k e' hk
          obtain ⟨x, s1, s2⟩ := mapO_inv r3 j x' hj
          obtain ⟨t1, u, t2, t3⟩ := q5 _ e j x r1 s1
          refine ⟨by rw [frz_cell s2]; exact t1, ?_⟩
          have e1 : i * zb + k * zb + j = (i + k) * zb + j := by rw [Nat.add_mul]
          simp only [World.cell?, q3, e1, Option.isSome_none, Bool.false_eq_true, if_false]
          rw [t2, Array.getD_eq_getD_getElem?, t2]; rfl
        · intro k e' j x' hk hj
          obtain ⟨e, r1, r2, r3⟩ := elem k e' hk
          obtain ⟨x, s1, s2⟩ := mapO_inv r3 j x' hj
          obtain ⟨t1, u, t2, t3⟩ := q5 _ e j x r1 s1
          rw [Array.getD_eq_getD_getElem?, t2]
          refine ih x x' u s2 t3 fun b' hb' => hr b' ?_
          simp only [reach, hg, List.mem_cons, List.mem_flatMap]
          exact .inr ⟨e, List.mem_of_getElem? r2, x, List.mem_of_getElem? s1, hb'⟩
      · cases hf
    | fn f caps vs hn hc =>
      simp only [frz] at hf
      obtain ⟨cs, hcs, rfl⟩ := om_some hf
      refine .fn f cs vs (by rw [(mapO_some hcs).1]; exact hn) fun j x' hj => ?_
      obtain ⟨x, s1, s2⟩ := mapO_inv hcs j x' hj
      refine ih x x' _ s2 (hc j x s1) fun b' hb' => hr b' ?_
      simp only [reach, List.mem_flatMap]
      exact ⟨x, List.mem_of_getElem? s1, hb'⟩
    | agg cs vs hn hcell hc =>
      simp only [frz] at hf
      obtain ⟨cs', hcs, rfl⟩ := om_some hf
      refine .agg cs' vs (by rw [(mapO_some hcs).1]; exact hn) (fun j x' hj => ?_) fun j x' hj => ?_
      · obtain ⟨x, s1, s2⟩ := mapO_inv hcs j x' hj
        rw [frz_cell s2]; exact hcell j x s1
      · obtain ⟨x, s1, s2⟩ := mapO_inv hcs j x' hj
        refine ih x x' _ s2 (hc j x s1) fun b' hb' => hr b' ?_
        simp only [reach, List.mem_flatMap]
        exact ⟨x, List.mem_of_getElem? s1, hb'⟩
    | tup cs vs hn hc =>
      simp only [frz] at hf
      obtain ⟨cs', hcs, rfl⟩ := om_some hf
      refine .tup cs' vs (by rw [(mapO_some hcs).1]; exact hn) fun j x' hj => ?_
      obtain ⟨x, s1, s2⟩ := mapO_inv hcs j x' hj
      refine ih x x' _ s2 (hc j x s1) fun b' hb' => hr b' ?_
      simp only [reach, List.mem_flatMap]
      exact ⟨x, List.mem_of_getElem? s1, hb'⟩

/-- What freezing reaches is there. -/
theorem frz_reach : ∀ (n : Nat) (v v' : AV), frz h n v = some v' → ∀ b ∈ reach h n v, ∃ z es mu, get h b = some (.cells z es mu) := by
  intro n
  induction n with
  | zero => intro v v' hf; simp [frz] at hf
  | succ n ih =>
    have many : ∀ (l r : List AV), mapO (frz h n) l = some r → ∀ b ∈ l.flatMap (reach h n), ∃ z es mu, get h b = some (.cells z es mu) := by
      intro l r hl b hb
      simp only [List.mem_flatMap] at hb
      obtain ⟨x, hx, hb⟩ := hb
      obtain ⟨j, hj, e⟩ := List.getElem_of_mem hx
      obtain ⟨x', _, h2⟩ := (mapO_some hl).2 j x (by rw [List.getElem?_eq_getElem hj, e])
      exact ih x x' h2 b hb
    intro v v' hf b hb
    cases v <;> simp only [frz, reach] at hf hb <;> try (simp at hb; done)
    case sl b0 z i len cap ex =>
      split at hf
      · rename_i zb es mu hg
        simp only [hg, List.mem_cons, List.mem_flatMap] at hb
        obtain ⟨es', hes, hf⟩ := ob_some hf
        rcases hb with rfl | ⟨e, he, hb⟩
        · exact ⟨_, _, _, hg⟩
        · obtain ⟨j, hj, e1⟩ := List.getElem_of_mem he
          obtain ⟨x', _, h2⟩ := (mapO_some hes).2 j e (by rw [List.getElem?_eq_getElem hj, e1])
          exact many e x' h2 b (by simpa only [List.mem_flatMap] using hb)
      · cases hf
    case fn f caps => obtain ⟨cs, hcs, rfl⟩ := om_some hf; exact many _ _ hcs b hb
    case agg cs => obtain ⟨cs, hcs, rfl⟩ := om_some hf; exact many _ _ hcs b hb
    case tup cs => obtain ⟨cs, hcs, rfl⟩ := om_some hf; exact many _ _ hcs b hb

/-- A frozen value without memory stands anywhere. -/
theorem noref_vr {w' : World} {m' : Nat → Nat × Nat} : ∀ (n : Nat) (v : AV) (c : Value), hasRef n v = false → VR ψ w S m (fun _ => False) v c → VR ψ w' S' m' (fun _ => False) v c := by
  intro n
  induction n with
  | zero => intro v c hf; simp [hasRef] at hf
  | succ n ih =>
    intro v c hf hv
    have each : ∀ (l : List AV), l.any (hasRef n) = false → ∀ (j : Nat) (x : AV), l[j]? = some x → hasRef n x = false := by
      intro l hl j x hj
      cases hx : hasRef n x with
      | false => rfl
      | true => rw [List.any_eq_true.2 ⟨x, List.mem_of_getElem? hj, hx⟩] at hl; cases hl
    cases hv with
    | undef => exact .undef _
    | bool b => exact .bool b
    | int k x => exact .int k x
    | str s => exact .str s
    | nilp => exact .nilp
    | nils => exact .nils
    | nilm => exact .nilm
    | nilf => exact .nilf
    | ro => simp [hasRef] at hf
    | roe => simp [hasRef] at hf
    | rop => simp [hasRef] at hf
    | ptr b i o hA => exact hA.elim
    | map b hA => exact hA.elim
    | sl b z i len cap ex cc hA => exact hA.elim
    | fn f caps vs hn hc => exact .fn f caps vs hn fun j x hj => ih x _ (each _ (by simpa [hasRef] using hf) j x hj) (hc j x hj)
    | agg cs vs hn hcell hc => exact .agg cs vs hn hcell fun j x hj => ih x _ (each _ (by simpa only [hasRef] using hf) j x hj) (hc j x hj)
    | tup cs vs hn hc => exact .tup cs vs hn fun j x hj => ih x _ (each _ (by simpa only [hasRef] using hf) j x hj) (hc j x hj)

/-- Without the younger blocks. -/
theorem under_vr {A' : Nat → Prop} {b0 : Nat} (hA : ∀ b, A' b → b < b0 → A b) : ∀ (n : Nat) (v : AV) (c : Value), under b0 n v = true → VR ψ w S m A' v c → VR ψ w S m A v c := by
  intro n
  induction n with
  | zero => intro v c hf; simp [under] at hf
  | succ n ih =>
    intro v c hf hv
    have each : ∀ (l : List AV), l.all (under b0 n) = true → ∀ (j : Nat) (x : AV), l[j]? = some x → under b0 n x = true := by
      intro l hl j x hj
      exact List.all_eq_true.1 hl x (List.mem_of_getElem? hj)
    cases hv with
    | undef => exact .undef _
    | bool b => exact .bool b
    | int k x => exact .int k x
    | str s => exact .str s
    | nilp => exact .nilp
    | nils => exact .nils
    | nilm => exact .nilm
    | nilf => exact .nilf
    | roe z ex a => exact .roe z ex a
    | ro z es ex b off cap cs h1 h2 h3 h4 h5 h6 => exact .ro z es ex b off cap cs h1 h2 h3 h4 h5 h6
    | rop cs b off vs h1 h2 h3 => exact .rop cs b off vs h1 h2 h3
    | ptr b i o h1 => exact .ptr b i o (hA b h1 (by simpa [under] using hf))
    | map b h1 => exact .map b (hA b h1 (by simpa [under] using hf))
    | sl b z i len cap ex cc h1 h2 h3 h4 h5 h6 => exact .sl b z i len cap ex cc (hA b h1 (by simpa [under] using hf)) h2 h3 h4 h5 h6
    | fn f caps vs hn hc => exact .fn f caps vs hn fun j x hj => ih x _ (each _ (by simpa only [under] using hf) j x hj) (hc j x hj)
    | agg cs vs hn hcell hc => exact .agg cs vs hn hcell fun j x hj => ih x _ (each _ (by simpa only [under] using hf) j x hj) (hc j x hj)
    | tup cs vs hn hc => exact .tup cs vs hn fun j x hj => ih x _ (each _ (by simpa only [under] using hf) j x hj) (hc j x hj)

theorem under_or {A' : Nat → Prop} {b0 : Nat} (hA : ∀ b, A' b → b < b0 → A b) {bm : Nat × Nat} {o : AObj} (hu : AObj.under b0 o = true) (ho : OR ψ w S m A' bm o) : OR ψ w S m A bm o := by
  cases o with
  | cells z es mu =>
    obtain ⟨h0, h1, c, t, h2, h3, h4⟩ := ho
    refine ⟨h0, h1, c, t, h2, h3, fun i e j x he hx => ?_⟩
    obtain ⟨h5, v, h6, h7⟩ := h4 i e j x he hx
    refine ⟨h5, v, h6, under_vr hA frzDepth x v ?_ h7⟩
    simp only [AObj.under, List.all_eq_true] at hu
    exact hu e (List.mem_of_getElem? he) x (List.mem_of_getElem? hx)
  | map es =>
    obtain ⟨es', clock, h1, h2, h3⟩ := ho
    refine ⟨es', clock, h1, h2, fun i k v he => ?_⟩
    obtain ⟨h4, x, h5, h6, h7⟩ := h3 i k v he
    simp only [AObj.under, List.all_eq_true, Bool.and_eq_true] at hu
    have := hu (k, v) (List.mem_of_getElem? he)
    exact ⟨h4, x, h5, under_vr hA frzDepth k _ this.1 h6, under_vr hA frzDepth v _ this.2 h7⟩
  | iter s pos => exact ho

theorem get_marks (k : Nat) : ∀ (bs : List Nat) (h1 : Heap),
    (∃ z es mu, get h k = some (.cells z es mu) ∧ k ∈ bs ∧ get (applyUpd h1 (markFrozen h bs)) k = some (.cells z es false)) ∨
    (get (applyUpd h1 (markFrozen h bs)) k = get h1 k ∧ (k ∈ bs → ∀ z es mu, get h k ≠ some (.cells z es mu))) := by
  intro bs
  induction bs with
  | nil => intro h1; exact .inr ⟨rfl, fun hk => by cases hk⟩
  | cons b r ih =>
    intro h1
    have other : (∀ z es mu, get h b ≠ some (.cells z es mu)) → markFrozen h (b :: r) = markFrozen h r := by
      intro hno
      simp only [markFrozen]
    by_cases hb : ∃ z es mu, get h b = some (.cells z es mu)
    · obtain ⟨z, es, mu, hg⟩ := hb
      have e1 : applyUpd h1 (markFrozen h (b :: r)) = applyUpd (put h1 b (.cells z es false)) (markFrozen h r) := by simp only [markFrozen, hg, applyUpd, updOne]
      rw [e1]
      rcases ih (put h1 b (.cells z es false)) with ⟨z', es', mu', q1, q2, q3⟩ | ⟨q1, q2⟩
      · exact .inl ⟨z', es', mu', q1, List.mem_cons_of_mem _ q2, q3⟩
      · rw [get_put] at q1
        by_cases e : b = k
        · subst e
          rw [if_pos rfl] at q1
          exact .inl ⟨z, es, mu, hg, List.mem_cons_self, q1⟩
        · rw [if_neg e] at q1
          exact .inr ⟨q1, fun hk => q2 (by rcases List.mem_cons.1 hk with rfl | hk; exact absurd rfl e; exact hk)⟩
    · have hb' : ∀ z es mu, get h b ≠ some (.cells z es mu) := fun z es mu hg => hb ⟨z, es, mu, hg⟩
      rw [other hb']
      rcases ih h1 with ⟨z', es', mu', q1, q2, q3⟩ | ⟨q1, q2⟩
      · exact .inl ⟨z', es', mu', q1, List.mem_cons_of_mem _ q2, q3⟩
      · refine .inr ⟨q1, fun hk => ?_⟩
        rcases List.mem_cons.1 hk with rfl | hk
        · exact hb'
        · exact q2 hk

end

/-- Behind a call on data. -/
theorem Inv.data {ψ : Nat → FuncId} {N : Nat} {w0 w : World} {S : Nat → Prop} {m : Nat → Nat × Nat} {A : Nat → Prop} {h : Heap} (i : Inv ψ N w0 w S m A h) {w' : World}
    (hold : ∀ c, c < w.heap.size → w'.heap[c]? = w.heap[c]?) (hsz : w.heap.size ≤ w'.heap.size) (hos : w'.os = w.os) (hout : w'.output = w.output) {Sn : Nat → Prop}
    (hsub : ∀ c, S c → Sn c) (hsn : ∀ c, Sn c → c < w'.heap.size) (bs : List Nat) (hbs : ∀ b ∈ bs, ∃ z es mu, get h b = some (.cells z es mu) ∧ Sn (m b).1)
    (hnew : ∀ c, Sn c → S c ∨ (∃ b ∈ bs, c = (m b).1) ∨ w.heap.size ≤ c) : Inv ψ N w0 w' Sn m A (applyUpd h (markFrozen h bs)) ∧ Le w S m A w' Sn m A := by
  have le : Le w S m A w' Sn m A := by
    refine ⟨fun b hb => hold b (i.sb b hb), fun b c t fr hc => ⟨c, ?_, rfl⟩, hsz, hsub, fun _ h => h, fun _ _ => rfl⟩
    rw [hold b (Array.getElem?_eq_some_iff.1 hc).1]; exact hc
  refine ⟨?_, le⟩
  have look : ∀ b o, get (applyUpd h (markFrozen h bs)) b = some o → (∃ z es mu, get h b = some (.cells z es mu) ∧ b ∈ bs ∧ o = .cells z es false) ∨ (get h b = some o ∧ b ∉ bs) := by
    intro b o hb
    rcases get_marks (h := h) b bs h with ⟨z, es, mu, q1, q2, q3⟩ | ⟨q1, q2⟩
    · rw [q3] at hb; cases hb; exact .inl ⟨z, es, mu, q1, q2, rfl⟩
    · rw [q1] at hb
      refine .inr ⟨hb, fun hm => ?_⟩
      obtain ⟨z, es, mu, r1, _⟩ := hbs b hm
      exact q2 hm z es mu r1
  have mutless : ∀ b o, get (applyUpd h (markFrozen h bs)) b = some o → mutab o = true → get h b = some o ∧ b ∉ bs := by
    intro b o hb hm
    rcases look b o hb with ⟨z, es, mu, q1, q2, rfl⟩ | q
    · cases hm
    · exact q
  constructor
  · intro b o hb
    rcases look b o hb with ⟨z, es, mu, q1, q2, rfl⟩ | ⟨q, _⟩
    · exact i.dom b _ q1
    · exact i.dom b o q
  · intro b o hb
    rcases look b o hb with ⟨z, es, mu, q1, q2, rfl⟩ | ⟨q, _⟩
    · have := (i.obj b _ q1).mono le (hold _ (i.obj b _ q1).lt)
      exact this
    · exact (i.obj b o q).mono le (hold _ (i.obj b o q).lt)
  · intro b o hb hm
    rcases look b o hb with ⟨z, es, mu, q1, q2, rfl⟩ | ⟨q, _⟩
    · obtain ⟨_, _, _, _, r⟩ := hbs b q2; exact r
    · exact hsub _ (i.fro b o q hm)
  · intro b o hb hm
    obtain ⟨q, qn⟩ := mutless b o hb hm
    obtain ⟨l1, l2⟩ := i.live b o q hm
    refine ⟨fun hs => ?_, l2⟩
    rcases hnew _ hs with r | ⟨b', r1, r2⟩ | r
    · exact l1 r
    · obtain ⟨z, es, mu, r3, r4⟩ := hbs b' r1
      have hne : b ≠ b' := fun e => qn (e ▸ r1)
      cases mu with
      | true => exact i.inj b o b' _ q r3 hm rfl hne r2
      | false => exact l1 (r2 ▸ i.fro b' _ r3 rfl)
    · have := (i.obj b o q).lt; omega
  · intro b o b' o' h1 h2 m1 m2 hne
    exact i.inj b o b' o' (mutless b o h1 m1).1 (mutless b' o' h2 m2).1 m1 m2 hne
  · exact hsn
  · exact Nat.le_trans i.size hsz
  · intro c hc
    rw [hold c (Nat.lt_of_lt_of_le hc i.size)]; exact i.old c hc
  · exact hos.trans i.os
  · exact hout.trans i.out

/-- What a run comes to: its value, and what is left. -/
def Out (ψ : Nat → FuncId) (N : Nat) (w0 w : World) (S : Nat → Prop) (m : Nat → Nat × Nat) (A : Nat → Prop) (n : Nat) (w' : World) (v : AV) (cv : Value) (h' : Heap) (n' : Nat) : Prop :=
  ∃ S' m' A', VR ψ w' S' m' A' v cv ∧ Inv ψ N w0 w' S' m' A' h' ∧ Le w S m A w' S' m' A' ∧ (∀ c, c < N → S' c → S c) ∧ n ≤ n' ∧ ∀ b, A' b → A b ∨ (n ≤ b ∧ b < n')

/-- The program's function g has a body, and a run of it in the evaluator says how it goes. -/
def RunOk (P : Program) (ψ : Nat → FuncId) (run : Run) : Prop :=
  ∀ (g : Nat) (args : List AV) (h : Heap) (n : Nat) (v : AV) (h' : Heap) (n' : Nat), run g args h n = some (v, h', n') →
    (∃ fn c, P.funcs[ψ g]? = some fn ∧ fn.name ≠ "runtime.NumGoroutine" ∧ fn.body = some c) ∧
    ∀ (N : Nat) (w0 w : World) (S : Nat → Prop) (m : Nat → Nat × Nat) (A : Nat → Prop) (cargs : Array Value), Inv ψ N w0 w S m A h → (∀ b, A b → b < n) → cargs.size = args.length →
      (∀ (j : Nat) (x : AV), args[j]? = some x → VR ψ w S m A x (cargs.getD j Go.undef)) →
      Calls P (ψ g) cargs w fun e w' => ∃ cv, e = .returned cv ∧ Out ψ N w0 w S m A n w' v cv h' n'

section
variable {P : Program} {ψ : Nat → FuncId} {N : Nat} {w0 w : World} {S : Nat → Prop} {m : Nat → Nat × Nat} {A : Nat → Prop} {h : Heap} {run : Run}

/-- A call on data. -/
theorem pure_ok (hr : RunOk P ψ run) {g : Nat} {args as : List AV} {n : Nat} {v : AV} {cargs : Array Value} (hfr : mapO (frz h frzDepth) args = some as) (hp : pureCall run g as = some v)
    (i : Inv ψ N w0 w S m A h) (hs : cargs.size = args.length) (hv : ∀ (j : Nat) (x : AV), args[j]? = some x → VR ψ w S m A x (cargs.getD j Go.undef)) :
    Calls P (ψ g) cargs w fun e w' => ∃ cv, e = .returned cv ∧ Out ψ N w0 w S m A n w' v cv (applyUpd h (marks h args v)) n := by
  obtain ⟨⟨v0, h0, n0⟩, hrun, hfv⟩ := ob_some hp
  let S1 : Nat → Prop := fun c => S c ∨ ∃ b ∈ args.flatMap (reach h frzDepth), c = (m b).1
  have hreach : ∀ b ∈ args.flatMap (reach h frzDepth), ∃ z es mu, get h b = some (.cells z es mu) := by
    intro b hb
    simp only [List.mem_flatMap] at hb
    obtain ⟨x, hx, hb⟩ := hb
    obtain ⟨j, hj, e⟩ := List.getElem_of_mem hx
    obtain ⟨x', _, h2⟩ := (mapO_some hfr).2 j x (by rw [List.getElem?_eq_getElem hj, e])
    exact frz_reach _ x x' h2 b hb
  have hS1 : ∀ c, S1 c → c < w.heap.size := by
    rintro c (hc | ⟨b, hb, rfl⟩)
    · exact i.sb c hc
    · obtain ⟨z, es, mu, hg⟩ := hreach b hb
      exact (i.obj b _ hg).lt
  have hi0 : Inv ψ w.heap.size w w S1 m (fun _ => False) ([] : Heap) :=
    ⟨fun b o hb => by simp [get] at hb, fun b o hb => by simp [get] at hb, fun b o hb => by simp [get] at hb, fun b o hb => by simp [get] at hb, fun b o b' o' hb => by simp [get] at hb,
      hS1, Nat.le_refl _, fun _ _ => rfl, rfl, rfl⟩
  refine Calls.mono ((hr g as [] 0 v0 h0 n0 hrun).2 w.heap.size w w S1 m (fun _ => False) cargs hi0 (fun b hb => hb.elim) (by rw [(mapO_some hfr).1]; exact hs) ?_) ?_
  · intro j x' hj
    obtain ⟨x, s1, s2⟩ := mapO_inv hfr j x' hj
    exact frz_vr i.obj (fun b hb => .inl hb) frzDepth x x' _ s2 (hv j x s1) fun b hb => .inr ⟨b, by simp only [List.mem_flatMap]; exact ⟨x, List.mem_of_getElem? s1, hb⟩, rfl⟩
  · rintro e w' ⟨cv, rfl, S', m', A', hvr, hinv, hle, hsub, _, _⟩
    refine ⟨cv, rfl, ?_⟩
    let S2 : Nat → Prop := fun c => S' c ∨ ∃ b ∈ reach h0 frzDepth v0, c = (m' b).1
    have hfro := frz_vr (S' := S2) hinv.obj (fun b hb => .inl hb) frzDepth v0 v _ hfv hvr fun b hb => .inr ⟨b, hb, rfl⟩
    have hold : ∀ c, c < w.heap.size → w'.heap[c]? = w.heap[c]? := hinv.old
    by_cases href : hasRef frzDepth v = true
    · have hS2 : ∀ c, S2 c → c < w'.heap.size := by
        rintro c (hc | ⟨b, hb, rfl⟩)
        · exact hinv.sb c hc
        · obtain ⟨z, es, mu, hg⟩ := frz_reach _ v0 v hfv b hb
          exact (hinv.obj b _ hg).lt
      have hS21 : ∀ c, S2 c → c < w.heap.size → S1 c := by
        rintro c (hc | ⟨b, hb, rfl⟩) hlt
        · exact hsub c hlt hc
        · obtain ⟨z, es, mu, hg⟩ := frz_reach _ v0 v hfv b hb
          cases mu with
          | true => have := (hinv.live b _ hg rfl).2; omega
          | false => exact hsub _ hlt (hinv.fro b _ hg rfl)
      have h12 : ∀ c, S1 c → S2 c := fun c hc => .inl (hle.sub c hc)
      obtain ⟨j1, j2⟩ := i.data (w' := w') (Sn := S2) hold hinv.size hinv.os hinv.out (fun c hc => h12 c (.inl hc)) hS2 (args.flatMap (reach h frzDepth))
        (fun b hb => by
          obtain ⟨z, es, mu, hg⟩ := hreach b hb
          exact ⟨z, es, mu, hg, h12 _ (.inr ⟨b, hb, rfl⟩)⟩)
        (fun c hc => by
          rcases Nat.lt_or_ge c w.heap.size with hlt | hge
          · rcases hS21 c hc hlt with q | q
            · exact .inl q
            · exact .inr (.inl q)
          · exact .inr (.inr hge))
      refine ⟨S2, m, A, ?_, ?_, j2, ?_, Nat.le_refl _, fun b hb => .inl hb⟩
      · exact hfro.mono' (fun _ _ => rfl) (fun _ c _ _ h => ⟨c, h, rfl⟩) (fun _ h => h) (fun _ h => h.elim) (fun _ h => h.elim)
      · simp only [marks, href, if_true]; exact j1
      · intro c hc hs2
        rcases hS21 c hs2 (Nat.lt_of_lt_of_le hc i.size) with q | ⟨b, hb, rfl⟩
        · exact q
        · obtain ⟨z, es, mu, hg⟩ := hreach b hb
          cases mu with
          | true => have := (i.live b _ hg rfl).2; omega
          | false => exact i.fro b _ hg rfl
    · have href' : hasRef frzDepth v = false := by simpa using href
      obtain ⟨j1, j2⟩ := i.data (w' := w') (Sn := S) hold hinv.size hinv.os hinv.out (fun c hc => hc) (fun c hc => Nat.lt_of_lt_of_le (i.sb c hc) hinv.size) [] (fun b hb => by cases hb) (fun c hc => .inl hc)
      refine ⟨S, m, A, (noref_vr frzDepth v cv href' hfro : VR ψ w' S m (fun _ => False) v cv).open_, ?_, j2, fun c _ hs => hs, Nat.le_refl _, fun b hb => .inl hb⟩
      simp only [marks, href', Bool.false_eq_true, if_false]; exact j1

/-- A call on the caller's heap. -/
theorem inline_ok (hr : RunOk P ψ run) {g : Nat} {args : List AV} {n : Nat} {r : AV × Heap × Nat} {cargs : Array Value} (hp : inlineCall run g args h n = some r)
    (i : Inv ψ N w0 w S m A h) (hn : ∀ b, A b → b < n) (hs : cargs.size = args.length) (hv : ∀ (j : Nat) (x : AV), args[j]? = some x → VR ψ w S m A x (cargs.getD j Go.undef)) :
    Calls P (ψ g) cargs w fun e w' => ∃ cv, e = .returned cv ∧ Out ψ N w0 w S m A n w' r.1 cv r.2.1 r.2.2 := by
  obtain ⟨⟨v0, h0, n0⟩, hrun, rfl⟩ := om_some hp
  refine Calls.mono ((hr g args h n v0 h0 n0 hrun).2 N w0 w S m A cargs i hn hs hv) ?_
  rintro e w' ⟨cv, rfl, S', m', A', hvr, hinv, hle, hsub, hnn, hA⟩
  refine ⟨cv, rfl, ?_⟩
  exact ⟨S', m', A', hvr, hinv, hle, hsub, hnn, hA⟩

/-- A call. -/
theorem evCall_ok (hr : RunOk P ψ run) {C : Prog} {g : Nat} {args : List AV} {n : Nat} {d : Called} {cargs : Array Value} (hp : evCall C run g args h n = some d)
    (i : Inv ψ N w0 w S m A h) (hn : ∀ b, A b → b < n) (hs : cargs.size = args.length) (hv : ∀ (j : Nat) (x : AV), args[j]? = some x → VR ψ w S m A x (cargs.getD j Go.undef)) :
    (∃ fn c, P.funcs[ψ g]? = some fn ∧ fn.name ≠ "runtime.NumGoroutine" ∧ fn.body = some c) ∧
    Calls P (ψ g) cargs w fun e w' => ∃ cv, e = .returned cv ∧ Out ψ N w0 w S m A n w' (doneCall h n args d).v cv (doneCall h n args d).h (doneCall h n args d).n := by
  unfold evCall at hp
  split at hp
  · rename_i as hfr
    split at hfr
    · cases hfr
    · obtain ⟨v, hv1, rfl⟩ := om_some hp
      refine ⟨?_, pure_ok hr hfr hv1 i hs hv⟩
      obtain ⟨⟨v0, h0, n0⟩, hrun, _⟩ := ob_some hv1
      exact (hr _ _ _ _ _ _ _ hrun).1
  · obtain ⟨r, hr1, rfl⟩ := om_some hp
    refine ⟨?_, inline_ok hr hr1 i hn hs hv⟩
    obtain ⟨⟨v0, h0, n0⟩, hrun, _⟩ := om_some hr1
    exact (hr _ _ _ _ _ _ _ hrun).1

end
end Go.Pav
