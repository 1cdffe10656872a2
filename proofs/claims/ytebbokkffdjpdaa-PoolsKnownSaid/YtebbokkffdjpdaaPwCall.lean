/- Calls: what the second machine's calls do the evaluator's do. -/
import Derived.Test.YtebbokkffdjpdaaPwOps4
namespace Go.Pw
open Go Go.Pav

section
variable {ρ : Nat → Nat} {V A : Nat → Prop} {h : WHeap} {h' : Heap}

theorem mapO_of_rel {α β : Type} {R : α → β → Prop} {f : α → Option α} {g : β → Option β} {T : α → β → Prop} (hf : ∀ x y, R x y → ∀ x', f x = some x' → ∃ y', g y = some y' ∧ T x' y') :
    ∀ {l : List α} {l' : List β} {r : List α}, Rel2 R l l' → mapO f l = some r → ∃ r', mapO g l' = some r' ∧ Rel2 T r r' := by
  intro l
  induction l with
  | nil => intro l' r hr h; rw [hr.inv_nil]; simp only [mapO, Option.some.injEq] at h; subst h; exact ⟨[], rfl, .nil⟩
  | cons a l ih =>
    intro l' r hr h
    obtain ⟨b, t, rfl, h1, h2⟩ := hr.inv_cons
    simp only [mapO] at h ⊢
    obtain ⟨x', h3, h⟩ := ob_some h
    obtain ⟨xs', h4, rfl⟩ := om_some h
    obtain ⟨y', h5, h6⟩ := hf _ _ h1 _ h3
    obtain ⟨ys', h7, h8⟩ := ih h2 h4
    exact ⟨y' :: ys', by rw [h5, h7]; rfl, .cons h6 h8⟩

/-- A cell that names no block is frozen as it is. -/
theorem frz_isC {x u : AV} (hx : VW ρ V A x u) (hc : isC x = true) (n : Nat) : frz h' (n + 1) u = some u := by
  cases hx with
  | fn f cs cs' hl hr =>
    cases cs with
    | nil =>
      have : cs' = [] := List.length_eq_zero_iff.1 (by simpa using hl.symm)
      subst this; rfl
    | cons a r => simp [isC] at hc
  | undef => simp [isC] at hc
  | ptr => simp [isC] at hc
  | sl => simp [isC] at hc
  | slv => simp [isC] at hc
  | map => simp [isC] at hc
  | agg => simp [isC] at hc
  | tup => simp [isC] at hc
  | _ => rfl

theorem mapO_id {α : Type} {f : α → Option α} : ∀ {l : List α}, (∀ x ∈ l, f x = some x) → mapO f l = some l := by
  intro l
  induction l with
  | nil => intro _; rfl
  | cons a l ih =>
    intro h
    simp only [mapO, h a List.mem_cons_self, ob, ih (fun x hx => h x (List.mem_cons_of_mem _ hx)), om]

/-- Freezing. -/
theorem frz_vw (H : HW ρ V A h h') : ∀ (n : Nat) (v u v' : AV), VW ρ V A v u → frzW h n v = some v' → ∃ u', frz h' n u = some u' ∧ VD ρ V v' u' := by
  intro n
  induction n with
  | zero => intro v u v' _ hf; simp [frzW] at hf
  | succ n ih =>
    intro v u v' hv hf
    cases v with
    | undef => simp [frzW] at hf
    | bool b => simp only [frzW] at hf; cases hf; rw [hv.bool_inv]; exact ⟨_, rfl, .bool b⟩
    | int k x => simp only [frzW] at hf; cases hf; rw [hv.int_inv]; exact ⟨_, rfl, .int k x⟩
    | str s => simp only [frzW] at hf; cases hf; rw [hv.str_inv]; exact ⟨_, rfl, .str s⟩
    | nilp => simp only [frzW] at hf; cases hf; cases hv; exact ⟨_, rfl, .nilp⟩
    | nils => simp only [frzW] at hf; cases hf; cases hv; exact ⟨_, rfl, .nils⟩
    | nilm => simp only [frzW] at hf; cases hf; cases hv; exact ⟨_, rfl, .nilm⟩
    | nilf => simp only [frzW] at hf; cases hf; cases hv; exact ⟨_, rfl, .nilf⟩
    | ro z es ex =>
      simp only [frzW] at hf; cases hf
      have hd : VW ρ V (fun _ => False) (.ro z es ex) u := hv.isC rfl
      rcases hv.ro_inv with ⟨rfl, rfl⟩ | ⟨es', ex', rfl, _, _, _⟩
      · exact ⟨_, rfl, hd⟩
      · exact ⟨_, rfl, hd⟩
    | rop cs =>
      simp only [frzW] at hf; cases hf
      have hd : VW ρ V (fun _ => False) (.rop cs) u := hv.isC rfl
      obtain ⟨cs', rfl, _⟩ := hv.rop_inv
      exact ⟨_, rfl, hd⟩
    | ptr b i o => simp [frzW] at hf
    | map b => simp [frzW] at hf
    | sl b z i len cap ex =>
      simp only [frzW] at hf
      split at hf
      · rename_i zb es mu dt hg
        rcases hv.sl_inv with ⟨hA, hV, ex', rfl, hx⟩ | ⟨hA, hV, rfl, rfl, rfl, hu⟩
        · obtain ⟨o', g1, es', mu', rfl, _, ge, gd⟩ := H.obj b _ hg hV
          simp only [frz, g1]
          split at hf
          · rename_i hdt
            split at hf
            · cases hf
            · rename_i hn0
              obtain ⟨hlen, hf⟩ := og_some hf
              cases hf
              simp only [decide_eq_true_eq] at hlen
              obtain ⟨k, rfl⟩ : ∃ k, n = k + 1 := ⟨n - 1, by omega⟩
              have hsub : ∀ e ∈ (es.drop i).take len, ∀ x ∈ e, isC x = true := fun e he x hx => gd hdt e (List.mem_of_mem_drop (List.mem_of_mem_take he)) x hx
              have grel := (ge.drop i).take len
              have hid : mapO (mapO (frz h' (k + 1))) ((es'.drop i).take len) = some ((es'.drop i).take len) := by
                refine mapO_id fun e' he' => mapO_id fun x' hx' => ?_
                obtain ⟨a, ha, q1⟩ := List.getElem_of_mem he'
                obtain ⟨e, q2, q3⟩ := grel.get' (List.getElem?_eq_getElem ha)
                rw [q1] at q3
                obtain ⟨c, hc, q4⟩ := List.getElem_of_mem hx'
                obtain ⟨x, q5, q6⟩ := q3.get' (List.getElem?_eq_getElem hc)
                rw [q4] at q6
                exact frz_isC q6 (hsub e (List.mem_of_getElem? q2) x (List.mem_of_getElem? q5)) k
              refine ⟨_, by rw [hid]; simp only [ob, og, ← grel.1, hlen, decide_true]; rfl, ?_⟩
              refine VW.mkro (grel.mono fun e e' he hee => hee.mono fun x x' hx hxx => hxx.isC (hsub e he x hx)) hsub ?_
              simp only [Bool.and_eq_true]
              exact fun q => ⟨hx q.1, q.2⟩
          · obtain ⟨es2, h1, hf⟩ := ob_some hf
            obtain ⟨hlen, hf⟩ := og_some hf
            cases hf
            simp only [Bool.and_eq_true, decide_eq_true_eq, List.all_eq_true] at hlen
            obtain ⟨r', h2, h3⟩ := mapO_of_rel (R := Rel2 (VW ρ V A)) (g := mapO (frz h' n)) (T := Rel2 (VD ρ V)) (fun x y hxy x' hx' => mapO_of_rel (fun a b hab a' ha' => ih a b a' hab ha') hxy hx') ((ge.drop i).take len) h1
            refine ⟨_, by rw [h2]; simp only [ob, og, ← h3.1, hlen.1, decide_true]; rfl, ?_⟩
            refine VW.mkro h3 hlen.2 ?_
            simp only [Bool.and_eq_true]
            exact fun q => ⟨hx q.1, q.2⟩
        · obtain ⟨z2, mu2, dt2, q⟩ := H.virt b _ hg hV
          cases q
          have hv' : ∃ ex2, v' = .ro z [] ex2 := by
            split at hf
            · split at hf
              · cases hf
              · obtain ⟨_, hf⟩ := og_some hf
                cases hf; exact ⟨_, rfl⟩
            · obtain ⟨es2, h1, hf⟩ := ob_some hf
              simp only [List.drop_nil, List.take_nil, mapO, Option.some.injEq] at h1
              subst h1
              obtain ⟨_, hf⟩ := og_some hf
              cases hf; exact ⟨_, rfl⟩
          obtain ⟨ex2, rfl⟩ := hv'
          rcases hu with rfl | rfl
          · exact ⟨_, rfl, .ronil _ _⟩
          · exact ⟨_, rfl, VW.mkro .nil (fun _ h => by cases h) (fun _ => rfl)⟩
      · cases hf
    | fn f caps =>
      obtain ⟨cs', rfl, hr⟩ := hv.fn_inv
      simp only [frzW] at hf
      obtain ⟨cs, h1, rfl⟩ := om_some hf
      obtain ⟨r', h2, h3⟩ := mapO_of_rel (fun a b hab a' ha' => ih a b a' hab ha') hr h1
      exact ⟨_, by simp only [frz, h2]; rfl, VW.mkfn h3⟩
    | agg caps =>
      obtain ⟨cs', rfl, hr⟩ := hv.agg_inv
      simp only [frzW] at hf
      obtain ⟨cs, h1, rfl⟩ := om_some hf
      obtain ⟨r', h2, h3⟩ := mapO_of_rel (fun a b hab a' ha' => ih a b a' hab ha') hr h1
      exact ⟨_, by simp only [frz, h2]; rfl, VW.mkagg h3⟩
    | tup caps =>
      obtain ⟨cs', rfl, hr⟩ := hv.tup_inv
      simp only [frzW] at hf
      obtain ⟨cs, h1, rfl⟩ := om_some hf
      obtain ⟨r', h2, h3⟩ := mapO_of_rel (fun a b hab a' ha' => ih a b a' hab ha') hr h1
      exact ⟨_, by simp only [frz, h2]; rfl, VW.mktup h3⟩

/-- A cell that names no block reaches none. -/
theorem reach_isC {x u : AV} (hx : VW ρ V A x u) (hc : isC x = true) : ∀ n, reach h' n u = [] := by
  intro n
  cases n with
  | zero => rfl
  | succ n =>
    cases hx with
    | fn f cs cs' hl hr =>
      cases cs with
      | nil =>
        have : cs' = [] := List.length_eq_zero_iff.1 (by simpa using hl.symm)
        subst this; rfl
      | cons a r => simp [isC] at hc
    | undef => simp [isC] at hc
    | ptr => simp [isC] at hc
    | sl => simp [isC] at hc
    | slv => simp [isC] at hc
    | map => simp [isC] at hc
    | agg => simp [isC] at hc
    | tup => simp [isC] at hc
    | _ => rfl

/-- What freezing reaches there it reaches here. -/
theorem reach_vw (H : HW ρ V A h h') : ∀ (n : Nat) (v u v' : AV), VW ρ V A v u → frzW h n v = some v' → ∀ b' ∈ reach h' n u, ∃ b ∈ reachW h n v, b' = ρ b ∧ ¬ V b ∧ A b ∧ ∃ z es mu dt, get h b = some (.cells z es mu dt) := by
  intro n
  induction n with
  | zero => intro v u v' _ _ b hb; simp [reach] at hb
  | succ n ih =>
    have lst : ∀ {l l' r : List AV}, Rel2 (VW ρ V A) l l' → mapO (frzW h n) l = some r → ∀ b' ∈ l'.flatMap (reach h' n), ∃ b ∈ l.flatMap (reachW h n), b' = ρ b ∧ ¬ V b ∧ A b ∧ ∃ z es mu dt, get h b = some (.cells z es mu dt) := by
      intro l l' r hr hm b' hb'
      simp only [List.mem_flatMap] at hb' ⊢
      obtain ⟨u, hu, hb'⟩ := hb'
      obtain ⟨j, hj, q1⟩ := List.getElem_of_mem hu
      obtain ⟨v, q2, q3⟩ := hr.get' (List.getElem?_eq_getElem hj)
      rw [q1] at q3
      obtain ⟨v', _, q4⟩ := (mapO_some hm).2 j v q2
      obtain ⟨b, q5, q6⟩ := ih v u v' q3 q4 b' hb'
      exact ⟨b, ⟨v, List.mem_of_getElem? q2, q5⟩, q6⟩
    intro v u v' hv hf b' hb'
    cases v with
    | undef => simp [frzW] at hf
    | bool b => rw [hv.bool_inv] at hb'; simp [reach] at hb'
    | int k x => rw [hv.int_inv] at hb'; simp [reach] at hb'
    | str s => rw [hv.str_inv] at hb'; simp [reach] at hb'
    | nilp => cases hv; simp [reach] at hb'
    | nils => cases hv; simp [reach] at hb'
    | nilm => cases hv; simp [reach] at hb'
    | nilf => cases hv; simp [reach] at hb'
    | ro z es ex => rw [reach_isC hv rfl] at hb'; cases hb'
    | rop cs => rw [reach_isC hv rfl] at hb'; cases hb'
    | ptr b i o => simp [frzW] at hf
    | map b => simp [frzW] at hf
    | sl b z i len cap ex =>
      simp only [frzW] at hf
      split at hf
      · rename_i zb es mu dt hg
        rcases hv.sl_inv with ⟨hA, hV, ex', rfl, hx⟩ | ⟨hA, hV, rfl, rfl, rfl, hu⟩
        · obtain ⟨o', g1, es', mu', rfl, _, ge, gd⟩ := H.obj b _ hg hV
          simp only [reach, g1, List.mem_cons] at hb'
          rcases hb' with rfl | hb'
          · exact ⟨b, by simp [reachW], rfl, hV, hA, _, _, _, _, hg⟩
          · split at hf
            · rename_i hdt
              exfalso
              simp only [List.mem_flatMap] at hb'
              obtain ⟨e', he', x', hx', hb'⟩ := hb'
              obtain ⟨a, ha, q1⟩ := List.getElem_of_mem he'
              obtain ⟨e, q2, q3⟩ := ((ge.drop i).take len).get' (List.getElem?_eq_getElem ha)
              rw [q1] at q3
              obtain ⟨c, hc, q4⟩ := List.getElem_of_mem hx'
              obtain ⟨x, q5, q6⟩ := q3.get' (List.getElem?_eq_getElem hc)
              rw [q4] at q6
              have := gd hdt e (List.mem_of_mem_drop (List.mem_of_mem_take (List.mem_of_getElem? q2))) x (List.mem_of_getElem? q5)
              rw [reach_isC q6 this] at hb'
              cases hb'
            · rename_i hdt
              obtain ⟨es2, h1, hf⟩ := ob_some hf
              simp only [List.mem_flatMap] at hb'
              obtain ⟨e', he', x', hx', hb'⟩ := hb'
              obtain ⟨a, ha, q1⟩ := List.getElem_of_mem he'
              obtain ⟨e, q2, q3⟩ := ((ge.drop i).take len).get' (List.getElem?_eq_getElem ha)
              rw [q1] at q3
              obtain ⟨e2, _, q4⟩ := (mapO_some h1).2 a e q2
              obtain ⟨b2, q5, q6⟩ := lst q3 q4 b' (by simp only [List.mem_flatMap]; exact ⟨x', hx', hb'⟩)
              refine ⟨b2, ?_, q6⟩
              simp only [reachW, hg, List.mem_cons]
              right
              rw [if_neg hdt]
              simp only [List.mem_flatMap] at q5 ⊢
              exact ⟨e, List.mem_of_getElem? q2, q5⟩
        · rcases hu with rfl | rfl <;> simp [reach] at hb'
      · cases hf
    | fn f caps =>
      obtain ⟨cs', rfl, hr⟩ := hv.fn_inv
      simp only [frzW] at hf
      obtain ⟨cs, h1, rfl⟩ := om_some hf
      simp only [reach] at hb'
      obtain ⟨b, q⟩ := lst hr h1 b' hb'
      exact ⟨b, by simpa only [reachW] using q⟩
    | agg caps =>
      obtain ⟨cs', rfl, hr⟩ := hv.agg_inv
      simp only [frzW] at hf
      obtain ⟨cs, h1, rfl⟩ := om_some hf
      simp only [reach] at hb'
      obtain ⟨b, q⟩ := lst hr h1 b' hb'
      exact ⟨b, by simpa only [reachW] using q⟩
    | tup caps =>
      obtain ⟨cs', rfl, hr⟩ := hv.tup_inv
      simp only [frzW] at hf
      obtain ⟨cs, h1, rfl⟩ := om_some hf
      simp only [reach] at hb'
      obtain ⟨b, q⟩ := lst hr h1 b' hb'
      exact ⟨b, by simpa only [reachW] using q⟩

theorem hasRef_vw : ∀ (n : Nat) (v u : AV), VD ρ V v u → hasRef n u = true → hasRefW n v = true := by
  intro n
  induction n with
  | zero => intro v u _ _; rfl
  | succ n ih =>
    have lst : ∀ {l l' : List AV}, Rel2 (VD ρ V) l l' → l'.any (hasRef n) = true → l.any (hasRefW n) = true := by
      intro l l' hr h
      simp only [List.any_eq_true] at h ⊢
      obtain ⟨u, hu, h⟩ := h
      obtain ⟨j, hj, q1⟩ := List.getElem_of_mem hu
      obtain ⟨v, q2, q3⟩ := hr.get' (List.getElem?_eq_getElem hj)
      rw [q1] at q3
      exact ⟨v, List.mem_of_getElem? q2, ih v u q3 h⟩
    intro v u hv h
    cases hv with
    | undef u => rfl
    | fn f cs cs' hl hr => simp only [hasRef] at h; simp only [hasRefW]; exact lst ⟨hl, hr⟩ h
    | agg cs cs' hl hr => simp only [hasRef] at h; simp only [hasRefW]; exact lst ⟨hl, hr⟩ h
    | tup cs cs' hl hr => simp only [hasRef] at h; simp only [hasRefW]; exact lst ⟨hl, hr⟩ h
    | ro => rfl
    | rop => rfl
    | ronil => rfl
    | ptr _ _ _ hA => exact hA.elim
    | sl _ _ _ _ _ _ _ hA => exact hA.elim
    | slv _ _ _ _ hA => exact hA.elim
    | map _ hA => exact hA.elim
    | _ => simp [hasRef] at h

/-- Blocks that become frozen there become so here. -/
theorem marks_ok (H : HW ρ V A h h') : ∀ (L : List Nat) (L' : List Nat), (∀ b' ∈ L', ∃ b ∈ L, b' = ρ b ∧ ¬ V b ∧ A b ∧ ∃ z es mu dt, get h b = some (.cells z es mu dt)) →
    HW ρ V A (applyW h (markFrozenW h L)) (applyUpd h' (markFrozen h' L')) ∧ ∀ b' ∈ (markFrozen h' L').map (·.1), ∃ b ∈ (markFrozenW h L).map (·.1), b' = ρ b ∧ ¬ V b ∧ A b := by
  have getW : ∀ (h0 : WHeap) (L : List Nat) (g : WHeap), ∀ c, get (applyW g (markFrozenW h0 L)) c = if c ∈ L then (match get h0 c with | some (.cells z es _ dt) => some (.cells z es false dt) | _ => get g c) else get g c := by
    intro h0 L
    induction L with
    | nil => intro g c; simp [markFrozenW, applyW]
    | cons b L ih =>
      intro g c
      simp only [markFrozenW]
      split
      · rename_i z es mu dt hg
        simp only [applyW, updOneW, ih, get_put, List.mem_cons]
        by_cases e : c = b
        · subst e
          simp only [hg, if_true, true_or]
          split <;> rfl
        · simp only [e, false_or, if_neg (Ne.symm e)]
      · rename_i hg
        rw [ih]
        simp only [List.mem_cons]
        by_cases e : c = b
        · subst e
          simp only [true_or, if_true]
          have : (match get h0 c with | some (.cells z es _ dt) => some (WObj.cells z es false dt) | _ => get g c) = get g c := by
            split
            · rename_i z es mu dt hg2; exact absurd hg2 (hg z es mu dt)
            · rfl
          first
            | (rw [this]; split <;> rfl)
            | (split <;> rfl)
        · simp only [e, false_or]
  have getP : ∀ (h0 : Heap) (L : List Nat) (g : Heap), ∀ c, get (applyUpd g (markFrozen h0 L)) c = if c ∈ L then (match get h0 c with | some (.cells z es _) => some (.cells z es false) | _ => get g c) else get g c := by
    intro h0 L
    induction L with
    | nil => intro g c; simp [markFrozen, applyUpd]
    | cons b L ih =>
      intro g c
      simp only [markFrozen]
      split
      · rename_i z es mu hg
        simp only [applyUpd, updOne, ih, get_put, List.mem_cons]
        by_cases e : c = b
        · subst e
          simp only [hg, if_true, true_or]
          split <;> rfl
        · simp only [e, false_or, if_neg (Ne.symm e)]
      · rename_i hg
        rw [ih]
        simp only [List.mem_cons]
        by_cases e : c = b
        · subst e
          simp only [true_or, if_true]
          have : (match get h0 c with | some (.cells z es _) => some (AObj.cells z es false) | _ => get g c) = get g c := by
            split
            · rename_i z es mu hg2; exact absurd hg2 (hg z es mu)
            · rfl
          first
            | (rw [this]; split <;> rfl)
            | (split <;> rfl)
        · simp only [e, false_or]
  have memW : ∀ (h0 : WHeap) (L : List Nat) (b : Nat), b ∈ L → (∃ z es mu dt, get h0 b = some (.cells z es mu dt)) → b ∈ (markFrozenW h0 L).map (·.1) := by
    intro h0 L b
    induction L with
    | nil => intro hb; cases hb
    | cons a L ih =>
      intro hb hg
      simp only [markFrozenW]
      rcases List.mem_cons.1 hb with rfl | hb
      · obtain ⟨z, es, mu, dt, hg⟩ := hg
        rw [hg]; simp
      · have := ih hb hg
        split
        · simp only [List.map_cons, List.mem_cons]; exact .inr this
        · exact this
  intro L L' hL
  refine ⟨⟨fun c o hc => ?_, fun c o hc hv => ?_, fun c o hc hv => ?_, H.sub, H.inj⟩, fun b' hb' => ?_⟩
  · rw [getW] at hc
    split at hc
    · split at hc
      · rename_i hg; exact H.dom c _ hg
      · exact H.dom c o hc
    · exact H.dom c o hc
  · rw [getW] at hc
    split at hc
    · split at hc
      · rename_i hg
        obtain ⟨z, mu, dt, q⟩ := H.virt c _ hg hv
        cases q; cases hc
        exact ⟨_, _, _, rfl⟩
      · exact H.virt c o hc hv
    · exact H.virt c o hc hv
  · have hA : A c := by
      rw [getW] at hc
      split at hc
      · split at hc
        · rename_i hg; exact H.dom c _ hg
        · exact H.dom c o hc
      · exact H.dom c o hc
    have inv : ρ c ∈ L' → c ∈ L := by
      intro q
      obtain ⟨b, q1, q2, q3, q4, _⟩ := hL _ q
      rw [H.inj c b hA q4 hv q3 q2]; exact q1
    rw [getW] at hc
    by_cases hcL : c ∈ L
    · rw [if_pos hcL] at hc
      split at hc
      · rename_i z es mu dt hg
        cases hc
        obtain ⟨o', g1, es', mu', rfl, gm, ge, gd⟩ := H.obj c _ hg hv
        rw [getP]
        split
        · rw [g1]; exact ⟨_, rfl, es', false, rfl, id, ge, gd⟩
        · exact ⟨_, g1, es', mu', rfl, (fun q => by cases q), ge, gd⟩
      · rename_i hng
        obtain ⟨o', g1, g2⟩ := H.obj c o hc hv
        refine ⟨o', ?_, g2⟩
        rw [getP]
        split
        · rw [g1]
          cases o with
          | cells z es mu dt => exact absurd hc (hng z es mu dt)
          | map es => obtain ⟨es', rfl, _⟩ := g2; rfl
          | iter s p => cases g2; rfl
        · exact g1
    · rw [if_neg hcL] at hc
      obtain ⟨o', g1, g2⟩ := H.obj c o hc hv
      exact ⟨o', by rw [getP, if_neg (fun q => hcL (inv q))]; exact g1, g2⟩
  · have key : ∀ (h0 : Heap) (L : List Nat) (b : Nat), b ∈ (markFrozen h0 L).map (·.1) → b ∈ L ∧ ∃ z es mu, get h0 b = some (.cells z es mu) := by
      intro h0 L b
      induction L with
      | nil => intro hb; simp [markFrozen] at hb
      | cons a L ih =>
        intro hb
        simp only [markFrozen] at hb
        split at hb
        · rename_i z es mu hg
          simp only [List.map_cons, List.mem_cons] at hb
          rcases hb with rfl | hb
          · exact ⟨by simp, _, _, _, hg⟩
          · exact ⟨List.mem_cons_of_mem _ (ih hb).1, (ih hb).2⟩
        · exact ⟨List.mem_cons_of_mem _ (ih hb).1, (ih hb).2⟩
    obtain ⟨q1, z, es, mu, q2⟩ := key h' L' b' hb'
    obtain ⟨b, q3, rfl, q5, q6, q7⟩ := hL b' q1
    exact ⟨b, memW h L b q3 q7, rfl, q5, q6⟩

end
end Go.Pw
