/- Blocks are numbered anew. -/
import Derived.Test.YtebbokkffdjpdaaPwSim
namespace Go.Pw
open Go Go.Pav

/-- Slots in order. -/
def Srt (e : Env) : Prop := e.Pairwise fun a b => b.1 < a.1

theorem Srt.put {e : Env} (h : Srt e) (k : Nat) (v : AV) : Srt (putE e k v) := by
  have mem : ∀ (e : Env) x, x ∈ putE e k v → x = (k, v) ∨ x ∈ e := by
    intro e
    induction e with
    | nil => intro x hx; simp [putE] at hx; exact .inl hx
    | cons y e ih =>
      intro x hx
      obtain ⟨j, u⟩ := y
      simp only [putE] at hx
      split at hx
      · rcases List.mem_cons.1 hx with q | q
        · exact .inl q
        · exact .inr q
      · split at hx
        · rcases List.mem_cons.1 hx with q | q
          · exact .inl q
          · exact .inr (List.mem_cons_of_mem _ q)
        · rcases List.mem_cons.1 hx with q | q
          · exact .inr (q ▸ List.mem_cons_self)
          · rcases ih x q with q | q
            · exact .inl q
            · exact .inr (List.mem_cons_of_mem _ q)
  induction e with
  | nil => exact List.pairwise_singleton _ _
  | cons y e ih =>
    obtain ⟨j, u⟩ := y
    have h1 : ∀ x ∈ e, x.1 < j := fun x hx => (List.pairwise_cons.1 h).1 x hx
    have h2 : Srt e := (List.pairwise_cons.1 h).2
    simp only [putE]
    split
    · rename_i hk
      refine List.pairwise_cons.2 ⟨fun x hx => ?_, h⟩
      rcases List.mem_cons.1 hx with rfl | q
      · exact hk
      · have := h1 x q; simp only; omega
    · rename_i hk
      split
      · rename_i hj; subst hj; exact List.pairwise_cons.2 ⟨h1, h2⟩
      · rename_i hj
        refine List.pairwise_cons.2 ⟨fun x hx => ?_, ih h2⟩
        rcases mem e x hx with rfl | q
        · simp only; omega
        · exact h1 x q

theorem Srt.setDst {e : Env} (h : Srt e) (d : Option Nat) (v : AV) : Srt (setD e d v) := by
  cases d with
  | none => exact h
  | some d => exact h.put d v

theorem argW_eq : ∀ (l : List AV) (k : Nat) (acc : Env), argW k l acc = (argEnv k l).reverse ++ acc := by
  intro l
  induction l with
  | nil => intro k acc; rfl
  | cons v l ih => intro k acc; simp [argW, argEnv, ih]

theorem srt_arg0 : ∀ (l : List AV) (k : Nat), (argEnv k l).Pairwise (fun a b => a.1 < b.1) ∧ ∀ x ∈ argEnv k l, k ≤ x.1 := by
  intro l
  induction l with
  | nil => intro k; exact ⟨List.Pairwise.nil, fun x hx => by simp [argEnv] at hx⟩
  | cons v l ih =>
    intro k
    obtain ⟨h1, h2⟩ := ih (k + 1)
    refine ⟨List.pairwise_cons.2 ⟨fun x hx => by have := h2 x hx; simp only; omega, h1⟩, fun x hx => ?_⟩
    rcases List.mem_cons.1 hx with rfl | q
    · exact Nat.le_refl _
    · have := h2 x q; omega

theorem srt_arg (l : List AV) (k : Nat) : Srt (argW k l []) := by
  rw [argW_eq, List.append_nil]
  exact List.pairwise_reverse.2 (srt_arg0 l k).1

theorem Srt.get {e : Env} (h : Srt e) {k : Nat} {v : AV} (hm : (k, v) ∈ e) : Pav.get e k = some v := by
  induction e with
  | nil => cases hm
  | cons y e ih =>
    obtain ⟨j, u⟩ := y
    have h1 : ∀ x ∈ e, x.1 < j := fun x hx => (List.pairwise_cons.1 h).1 x hx
    simp only [Pav.get]
    rcases List.mem_cons.1 hm with q | q
    · cases q; simp
    · have := h1 _ q
      simp only at this
      rw [if_neg (by omega)]
      exact ih (List.pairwise_cons.1 h).2 q

theorem dropLt_mem {k a : Nat} : ∀ {l : List Nat}, a ∈ dropLt k l → a ∈ l := by
  intro l
  induction l with
  | nil => intro h; exact h
  | cons b l ih =>
    intro h
    simp only [dropLt] at h
    split at h
    · exact List.mem_cons_of_mem _ (ih h)
    · exact h

theorem keepL_sub : ∀ (e : Env) (live : List Nat), (keepL live e).Sublist e ∧ ∀ x ∈ keepL live e, x.1 ∈ live := by
  intro e
  induction e with
  | nil => intro live; simp [keepL_nil]
  | cons y e ih =>
    obtain ⟨j, u⟩ := y
    intro live
    simp only [keepL_cons]
    have hsub : ∀ a ∈ dropLt j live, a ∈ live := fun a ha => dropLt_mem ha
    cases hd : dropLt j live with
    | nil => simp [keepN]
    | cons a l =>
      rw [hd] at hsub
      simp only [keepN]
      split
      · rename_i ha
        obtain ⟨h1, h2⟩ := ih l
        refine ⟨h1.cons_cons _, fun x hx => ?_⟩
        rcases List.mem_cons.1 hx with rfl | q
        · simp only; subst ha; exact hsub _ (by simp)
        · exact hsub _ (List.mem_cons_of_mem _ (h2 x q))
      · obtain ⟨h1, h2⟩ := ih (a :: l)
        exact ⟨h1.cons _, fun x hx => hsub _ (h2 x hx)⟩

structure Sim (ρ : Nat → Nat) (V A : Nat → Prop) (s : WSt) (s' : St) : Prop where
  srt : Srt s.env
  env : EW ρ V A s.env s'.env
  heap : HW ρ V A s.heap s'.heap
  lt : Lts ρ V A s.next s'.next

/-- What lies below a number stays as it is. -/
def Old (base : Nat) (ρ : Nat → Nat) (V A : Nat → Prop) (ρ' : Nat → Nat) (V' A' : Nat → Prop) : Prop := ∀ b, b < base → (A b → A' b ∧ ρ' b = ρ b ∧ (V' b ↔ V b)) ∧ (A' b → A b)

theorem Old.refl (base : Nat) (ρ : Nat → Nat) (V A : Nat → Prop) : Old base ρ V A ρ V A := fun _ _ => ⟨fun h => ⟨h, rfl, Iff.rfl⟩, id⟩
theorem Old.trans {base : Nat} {ρ ρ1 ρ2 : Nat → Nat} {V A V1 A1 V2 A2 : Nat → Prop} (h : Old base ρ V A ρ1 V1 A1) (k : Old base ρ1 V1 A1 ρ2 V2 A2) : Old base ρ V A ρ2 V2 A2 := fun b hb =>
  ⟨fun ha => by
    obtain ⟨h1, h2, h3⟩ := (h b hb).1 ha
    obtain ⟨k1, k2, k3⟩ := (k b hb).1 h1
    exact ⟨k1, k2.trans h2, k3.trans h3⟩, fun ha => (h b hb).2 ((k b hb).2 ha)⟩

section
variable {ρ : Nat → Nat} {V A : Nat → Prop} {n m : Nat} {h : WHeap} {h' : Heap} {e e' : Env}

theorem close_ok {base : Nat} {h : WHeap} : ∀ (n : Nat) (w acc : List Nat), acc.Nodup → (∀ x ∈ acc, base ≤ x) → (close base h n w acc).Nodup ∧ ∀ x ∈ close base h n w acc, base ≤ x := by
  intro n
  induction n with
  | zero => intro w acc h1 h2; exact ⟨h1, h2⟩
  | succ n ih =>
    intro w acc h1 h2
    cases w with
    | nil => exact ⟨h1, h2⟩
    | cons b w =>
      simp only [close]
      split
      · exact ih w acc h1 h2
      · rename_i hb
        split
        · exact ih w acc h1 h2
        · rename_i hc
          refine ih _ _ ?_ ?_
          · have hc : b ∉ acc := by simpa using hc
            rw [List.nodup_append]
            exact ⟨h1, by simp, fun x hx y hy => by simp at hy; subst hy; rintro rfl; exact hc hx⟩
          · intro x hx
            rcases List.mem_append.1 hx with q | q
            · exact h2 x q
            · simp at q; subst q; omega

def pre (base : Nat) (L : List Nat) (b : Nat) : Nat := if b < base then b else L.getD (b - base) 0

theorem place_some : ∀ {L : List Nat} {n b c : Nat}, place n L b = some c → n ≤ c ∧ L[c - n]? = some b := by
  intro L
  induction L with
  | nil => intro n b c h; simp [place] at h
  | cons a L ih =>
    intro n b c h
    simp only [place] at h
    split at h
    · rename_i hb; cases h; subst hb; simp
    · obtain ⟨h1, h2⟩ := ih h
      refine ⟨by omega, ?_⟩
      have : c - n = (c - (n + 1)) + 1 := by omega
      rw [this]; simpa using h2

theorem place_at : ∀ {L : List Nat} {n i b : Nat}, L.Nodup → L[i]? = some b → place n L b = some (n + i) := by
  intro L
  induction L with
  | nil => intro n i b _ h; simp at h
  | cons a L ih =>
    intro n i b hd h
    cases i with
    | zero => simp at h; subst h; simp [place]
    | succ i =>
      simp only [List.getElem?_cons_succ] at h
      simp only [List.nodup_cons] at hd
      simp only [place]
      rw [if_neg]
      · rw [ih hd.2 h]; congr 1; omega
      · rintro rfl; exact hd.1 (List.mem_of_getElem? h)

theorem newNum_pre {base : Nat} {L : List Nat} {b c : Nat} (h : newNum base L b = some c) : pre base L c = b ∧ (c < base ↔ b < base) ∧ (c < base → c = b) ∧ (c < base ∨ c < base + L.length) := by
  unfold newNum at h
  split at h
  · rename_i hb; cases h; exact ⟨by simp [pre, hb], Iff.rfl, fun _ => rfl, .inl hb⟩
  · rename_i hb
    obtain ⟨h1, h2⟩ := place_some h
    have hlt := (List.getElem?_eq_some_iff.1 h2).1
    refine ⟨?_, ⟨fun q => by omega, fun q => absurd q hb⟩, fun q => by omega, .inr (by omega)⟩
    unfold pre
    rw [if_neg (by omega), List.getD_eq_getElem?_getD, h2]; rfl

theorem ren_vw {ρ' : Nat → Nat} {V' A' : Nat → Prop} {π : Nat → Option Nat} (hπ : ∀ b c, A b → π b = some c → A' c ∧ ρ' c = ρ b ∧ (V' c ↔ V b)) (v : AV) :
    ∀ (u v' : AV), VW ρ V A v u → ren π v = some v' → VW ρ' V' A' v' u := by
  refine AV.rec (motive_1 := fun v => ∀ (u v' : AV), VW ρ V A v u → ren π v = some v' → VW ρ' V' A' v' u) (motive_2 := fun _ => True)
    (motive_3 := fun l => ∀ (l' r : List AV), Rel2 (VW ρ V A) l l' → renL π l = some r → Rel2 (VW ρ' V' A') r l') ?_ ?_ ?_ ?_ ?_ ?_ ?_ ?_ ?_ ?_ ?_ ?_ ?_ ?_ ?_ ?_ ?_ ?_ ?_ ?_ v
  · intro u v' _ h; simp only [ren, Option.some.injEq] at h; subst h; exact .undef _
  · intro b u v' hu h; simp only [ren, Option.some.injEq] at h; subst h; rw [hu.bool_inv]; exact .bool _
  · intro b c u v' hu h; simp only [ren, Option.some.injEq] at h; subst h; rw [hu.int_inv]; exact .int _ _
  · intro b u v' hu h; simp only [ren, Option.some.injEq] at h; subst h; rw [hu.str_inv]; exact .str _
  · intro u v' hu h; simp only [ren, Option.some.injEq] at h; subst h; exact hu.isC rfl
  · intro u v' hu h; simp only [ren, Option.some.injEq] at h; subst h; exact hu.isC rfl
  · intro u v' hu h; simp only [ren, Option.some.injEq] at h; subst h; exact hu.isC rfl
  · intro u v' hu h; simp only [ren, Option.some.injEq] at h; subst h; exact hu.isC rfl
  · intro z es ex _ u v' hu h; simp only [ren, Option.some.injEq] at h; subst h; exact hu.isC rfl
  · intro z _ u v' hu h; simp only [ren, Option.some.injEq] at h; subst h; exact hu.isC rfl
  · intro b i o u v' hu h
    obtain ⟨rfl, hA, hV⟩ := hu.ptr_inv
    simp only [ren] at h
    obtain ⟨c, h1, rfl⟩ := om_some h
    obtain ⟨q1, q2, q3⟩ := hπ b c hA h1
    rw [← q2]
    exact .ptr c i o q1 (fun q => hV (q3.1 q))
  · intro b z i len cap ex u v' hu h
    simp only [ren] at h
    obtain ⟨c, h1, rfl⟩ := om_some h
    rcases hu.sl_inv with ⟨hA, hV, ex', rfl, hx⟩ | ⟨hA, hV, rfl, rfl, rfl, hv⟩
    · obtain ⟨q1, q2, q3⟩ := hπ b c hA h1
      rw [← q2]
      exact .sl c z i len cap ex ex' q1 (fun q => hV (q3.1 q)) hx
    · obtain ⟨q1, q2, q3⟩ := hπ b c hA h1
      exact .slv c z ex u q1 (q3.2 hV) hv
  · intro b u v' hu h
    obtain ⟨rfl, hA, hV⟩ := hu.map_inv
    simp only [ren] at h
    obtain ⟨c, h1, rfl⟩ := om_some h
    obtain ⟨q1, q2, q3⟩ := hπ b c hA h1
    rw [← q2]
    exact .map c q1 (fun q => hV (q3.1 q))
  · intro f cs ih u v' hu h
    obtain ⟨cs', rfl, hr⟩ := hu.fn_inv
    simp only [ren] at h
    obtain ⟨r, h1, rfl⟩ := om_some h
    exact VW.mkfn (ih cs' r hr h1)
  · intro cs ih u v' hu h
    obtain ⟨cs', rfl, hr⟩ := hu.agg_inv
    simp only [ren] at h
    obtain ⟨r, h1, rfl⟩ := om_some h
    exact VW.mkagg (ih cs' r hr h1)
  · intro cs ih u v' hu h
    obtain ⟨cs', rfl, hr⟩ := hu.tup_inv
    simp only [ren] at h
    obtain ⟨r, h1, rfl⟩ := om_some h
    exact VW.mktup (ih cs' r hr h1)
  · trivial
  · intros; trivial
  · intro l' r hr h
    simp only [renL, Option.some.injEq] at h; subst h
    rw [hr.inv_nil]; exact .nil
  · intro v l ih1 ih2 l' r hr h
    obtain ⟨u, t, rfl, h1, h2⟩ := hr.inv_cons
    simp only [renL] at h
    obtain ⟨v', h3, h⟩ := ob_some h
    obtain ⟨r', h4, rfl⟩ := om_some h
    exact .cons (ih1 u v' h1 h3) (ih2 t r' h2 h4)

theorem renL_vw {ρ' : Nat → Nat} {V' A' : Nat → Prop} {π : Nat → Option Nat} (hπ : ∀ b c, A b → π b = some c → A' c ∧ ρ' c = ρ b ∧ (V' c ↔ V b)) : ∀ (l l' r : List AV), Rel2 (VW ρ V A) l l' → renL π l = some r → Rel2 (VW ρ' V' A') r l' := by
  intro l
  induction l with
  | nil => intro l' r hr h; simp only [renL, Option.some.injEq] at h; subst h; rw [hr.inv_nil]; exact .nil
  | cons v l ih =>
    intro l' r hr h
    obtain ⟨u, t, rfl, h1, h2⟩ := hr.inv_cons
    simp only [renL] at h
    obtain ⟨v', h3, h⟩ := ob_some h
    obtain ⟨r', h4, rfl⟩ := om_some h
    exact .cons (ren_vw hπ v u v' h1 h3) (ih t r' h2 h4)

theorem renEnv_ew {ρ' : Nat → Nat} {V' A' : Nat → Prop} {π : Nat → Option Nat} (_hπ : ∀ b c, A b → π b = some c → A' c ∧ ρ' c = ρ b ∧ (V' c ↔ V b)) : ∀ (e : Env) (r : Env), renEnv π e = some r → ∀ k v', get r k = some v' → ∃ v, get e k = some v ∧ ren π v = some v' := by
  intro e
  induction e with
  | nil => intro r h k v' hk; simp only [renEnv, Option.some.injEq] at h; subst h; simp [Pav.get] at hk
  | cons x e ih =>
    obtain ⟨j, v⟩ := x
    intro r h k v' hk
    simp only [renEnv] at h
    obtain ⟨w, h1, h⟩ := ob_some h
    obtain ⟨r', h2, rfl⟩ := om_some h
    simp only [Pav.get] at hk ⊢
    split at hk
    · rename_i hj; rw [if_pos hj]; cases hk; exact ⟨v, rfl, h1⟩
    · rename_i hj; rw [if_neg hj]; exact ih r' h2 k v' hk

theorem renEnv_keys {π : Nat → Option Nat} : ∀ (e r : Env), renEnv π e = some r → r.map (·.1) = e.map (·.1) := by
  intro e
  induction e with
  | nil => intro r h; simp only [renEnv, Option.some.injEq] at h; subst h; rfl
  | cons x e ih =>
    obtain ⟨j, v⟩ := x
    intro r h
    simp only [renEnv] at h
    obtain ⟨w, h1, h⟩ := ob_some h
    obtain ⟨r', h2, rfl⟩ := om_some h
    simp only [List.map_cons, ih r' h2]

theorem Srt.keys {e r : Env} (h : Srt e) (hk : r.map (·.1) = e.map (·.1)) : Srt r := by
  have h1 : (e.map (·.1)).Pairwise (fun a b => b < a) := List.pairwise_map.2 h
  rw [← hk] at h1
  exact List.pairwise_map.1 h1

theorem renOld_get {base : Nat} {π : Nat → Option Nat} : ∀ (h r : WHeap), renOld base π h = some r → ∀ k o', get r k = some o' → k < base ∧ ∃ o, get h k = some o ∧ renObj π o = some o' := by
  intro h
  induction h with
  | nil => intro r h k v' hk; simp only [renOld, Option.some.injEq] at h; subst h; simp [Pav.get] at hk
  | cons x h ih =>
    obtain ⟨j, v⟩ := x
    intro r h k o' hk
    simp only [renOld] at h
    split at h
    · rename_i hj
      obtain ⟨w, h1, h⟩ := ob_some h
      obtain ⟨r', h2, rfl⟩ := om_some h
      simp only [Pav.get] at hk ⊢
      split at hk
      · rename_i hjk; rw [if_pos hjk]; cases hk; exact ⟨hjk ▸ hj, v, rfl, h1⟩
      · rename_i hjk; rw [if_neg hjk]; exact ih r' h2 k o' hk
    · rename_i hj
      obtain ⟨q1, o, q2, q3⟩ := ih r h k o' hk
      refine ⟨q1, o, ?_, q3⟩
      simp only [Pav.get]
      rw [if_neg (by omega)]; exact q2

theorem renNew_get {π : Nat → Option Nat} {h : WHeap} : ∀ (L : List Nat) (n : Nat) (r : WHeap), renNew π h n L = some r → ∀ k o', get r k = some o' → ∃ i b o, k = n + i ∧ L[i]? = some b ∧ get h b = some o ∧ renObj π o = some o' := by
  intro L
  induction L with
  | nil => intro n r h k v' hk; simp only [renNew, Option.some.injEq] at h; subst h; simp [Pav.get] at hk
  | cons b L ih =>
    intro n r h k o' hk
    simp only [renNew] at h
    split at h
    · rename_i o ho
      obtain ⟨w, h1, h⟩ := ob_some h
      obtain ⟨r', h2, rfl⟩ := om_some h
      simp only [Pav.get] at hk
      split at hk
      · rename_i hjk; cases hk; exact ⟨0, b, o, by omega, by simp, ho, h1⟩
      · obtain ⟨i, b', o2, q1, q2, q3, q4⟩ := ih (n + 1) r' h2 k o' hk
        exact ⟨i + 1, b', o2, by omega, by simpa using q2, q3, q4⟩
    · obtain ⟨i, b', o2, q1, q2, q3, q4⟩ := ih (n + 1) r h k o' hk
      exact ⟨i + 1, b', o2, by omega, by simpa using q2, q3, q4⟩

theorem get_append {α : Type} : ∀ (l r : List (Nat × α)) (k : Nat), get (l ++ r) k = match get l k with | some x => some x | none => get r k := by
  intro l
  induction l with
  | nil => intro r k; rfl
  | cons x l ih =>
    intro r k
    obtain ⟨j, v⟩ := x
    simp only [List.cons_append, Pav.get]
    split
    · rfl
    · exact ih r k

theorem mapO_ren {ρ' : Nat → Nat} {V' A' : Nat → Prop} {π : Nat → Option Nat} (hπ : ∀ b c, A b → π b = some c → A' c ∧ ρ' c = ρ b ∧ (V' c ↔ V b)) : ∀ (es es' r : List (List AV)), Rel2 (Rel2 (VW ρ V A)) es es' → mapO (renL π) es = some r → Rel2 (Rel2 (VW ρ' V' A')) r es' := by
  intro es
  induction es with
  | nil => intro l' r hr h; simp only [mapO, Option.some.injEq] at h; subst h; rw [hr.inv_nil]; exact .nil
  | cons v l ih =>
    intro l' r hr h
    obtain ⟨u, t, rfl, h1, h2⟩ := hr.inv_cons
    simp only [mapO] at h
    obtain ⟨v', h3, h⟩ := ob_some h
    obtain ⟨r', h4, rfl⟩ := om_some h
    exact .cons (renL_vw hπ v u v' h1 h3) (ih t r' h2 h4)

theorem renObj_ow {ρ' : Nat → Nat} {V' A' : Nat → Prop} {π : Nat → Option Nat} (hπ : ∀ b c, A b → π b = some c → A' c ∧ ρ' c = ρ b ∧ (V' c ↔ V b)) {o o2 : WObj} {o' : AObj} (ho : OW ρ V A o o') (hr : renObj π o = some o2) : OW ρ' V' A' o2 o' := by
  cases o with
  | cells z es mu dt =>
    obtain ⟨es', mu', rfl, h2, h3, h4⟩ := ho
    simp only [renObj] at hr
    split at hr
    · rename_i hd
      cases hr
      exact ⟨es', mu', rfl, h2, h3.mono fun e e' he hee => hee.mono fun x x' hx hxx => hxx.isC (h4 hd e he x hx), h4⟩
    · rename_i hd
      obtain ⟨es2, h5, rfl⟩ := om_some hr
      exact ⟨es', mu', rfl, h2, mapO_ren hπ es es' es2 h3 h5, fun q => absurd q hd⟩
  | map es =>
    simp only [renObj, Option.some.injEq] at hr; subst hr
    obtain ⟨es', rfl, h2⟩ := ho
    exact ⟨es', rfl, h2.mono fun x y _ hxy => ⟨hxy.1, hxy.2.data⟩⟩
  | iter s p =>
    simp only [renObj, Option.some.injEq] at hr; subst hr
    exact ho

theorem renumber_sim {base : Nat} {s s2 : WSt} {s' : St} (S : Sim ρ V A s s') {L : List Nat} (hL : L.Nodup) (hLb : ∀ x ∈ L, base ≤ x) (hr : renumber base s L = some s2) :
    ∃ ρ' V' A', Sim ρ' V' A' s2 s' ∧ base ≤ s2.next ∧ Old base ρ V A ρ' V' A' ∧ (∀ b, A' b → ¬ V' b → ∃ c, A c ∧ ¬ V c ∧ ρ' b = ρ c ∧ (base ≤ b → base ≤ c)) := by
  unfold renumber at hr
  obtain ⟨e, h1, hr⟩ := ob_some hr
  obtain ⟨h1', h2, hr⟩ := ob_some hr
  obtain ⟨h2', h3, rfl⟩ := om_some hr
  let ρ' := fun c => ρ (pre base L c)
  let A' := fun c => ∃ b, A b ∧ newNum base L b = some c
  let V' := fun c => V (pre base L c) ∧ A' c
  have hπ : ∀ b c, A b → newNum base L b = some c → A' c ∧ ρ' c = ρ b ∧ (V' c ↔ V b) := by
    intro b c hb hc
    have := (newNum_pre hc).1
    exact ⟨⟨b, hb, hc⟩, by show ρ (pre base L c) = ρ b; rw [this], by show V (pre base L c) ∧ A' c ↔ V b; rw [this]; exact ⟨fun q => q.1, fun q => ⟨q, b, hb, hc⟩⟩⟩
  have hgetH : ∀ c o2, get (h1' ++ h2') c = some o2 → ∃ b o, newNum base L b = some c ∧ get s.heap b = some o ∧ renObj (newNum base L) o = some o2 := by
    intro c o2 hc
    rw [get_append] at hc
    split at hc
    · rename_i x hx
      cases hc
      obtain ⟨q1, o, q2, q3⟩ := renOld_get _ _ h2 c o2 hx
      exact ⟨c, o, by simp [newNum, q1], q2, q3⟩
    · obtain ⟨i, b, o, rfl, q2, q3, q4⟩ := renNew_get _ _ _ h3 c o2 hc
      refine ⟨b, o, ?_, q3, q4⟩
      unfold newNum
      rw [if_neg (by have := hLb b (List.mem_of_getElem? q2); omega)]
      exact place_at hL q2
  refine ⟨ρ', V', A', ⟨S.srt.keys (renEnv_keys _ _ h1), ?_, ?_, ?_⟩, Nat.le_add_right _ _, ?_, ?_⟩
  · intro k v' hk
    obtain ⟨v, q1, q2⟩ := renEnv_ew (ρ' := ρ') (V' := V') (A' := A') hπ _ _ h1 k v' hk
    obtain ⟨u, q3, q4⟩ := S.env k v q1
    exact ⟨u, q3, ren_vw hπ v u v' q4 q2⟩
  · refine ⟨fun c o hc => ?_, fun c o hc hv => ?_, fun c o hc hv => ?_, ?_, ?_⟩
    · obtain ⟨b, o1, q1, q2, q3⟩ := hgetH c o hc
      exact ⟨b, S.heap.dom b o1 q2, q1⟩
    · obtain ⟨b, o1, q1, q2, q3⟩ := hgetH c o hc
      have hvb : V b := ((hπ b c (S.heap.dom b o1 q2) q1).2.2).1 hv
      obtain ⟨z, mu, dt, rfl⟩ := S.heap.virt b o1 q2 hvb
      simp only [renObj, mapO, om] at q3
      split at q3 <;> cases q3 <;> exact ⟨_, _, _, rfl⟩
    · obtain ⟨b, o1, q1, q2, q3⟩ := hgetH c o hc
      obtain ⟨p1, p2, p3⟩ := hπ b c (S.heap.dom b o1 q2) q1
      obtain ⟨o', q4, q5⟩ := S.heap.obj b o1 q2 (fun q => hv (p3.2 q))
      exact ⟨o', by rw [p2]; exact q4, renObj_ow hπ q5 q3⟩
    · exact fun c hc => hc.2
    · rintro c d ⟨b, hb, hbc⟩ ⟨a, ha, had⟩ vc vd hcd
      obtain ⟨_, p2, p3⟩ := hπ b c hb hbc
      obtain ⟨_, r2, r3⟩ := hπ a d ha had
      rw [p2, r2] at hcd
      have := S.heap.inj b a hb ha (fun q => vc (p3.2 q)) (fun q => vd (r3.2 q)) hcd
      subst this
      rw [hbc] at had; cases had; rfl
  · refine ⟨?_, ?_⟩
    · rintro c ⟨b, hb, hbc⟩
      rcases (newNum_pre hbc).2.2.2 with q | q
      · exact Nat.lt_of_lt_of_le q (Nat.le_add_right _ _)
      · exact q
    · rintro c ⟨b, hb, hbc⟩ hv
      obtain ⟨_, p2, p3⟩ := hπ b c hb hbc
      rw [p2]
      exact S.lt.p b hb (fun q => hv (p3.2 q))
  · intro b hb
    have hnb : newNum base L b = some b := by simp [newNum, hb]
    refine ⟨fun ha => hπ b b ha hnb, ?_⟩
    rintro ⟨c, hc, hcb⟩
    have := (newNum_pre hcb).2.2.1 hb
    rw [this]; exact hc
  · rintro c ⟨b, hb, hbc⟩ hv
    obtain ⟨_, p2, p3⟩ := hπ b c hb hbc
    exact ⟨b, hb, fun q => hv (p3.2 q), p2, fun q => by have := (newNum_pre hbc).2.1; omega⟩

theorem grow_sim {base : Nat} : ∀ (g : List (Nat × Nat)) (s : WSt) (s' : St) (ρ : Nat → Nat) (V A : Nat → Prop), Sim ρ V A s s' → base ≤ s.next →
    ∃ V' A', Sim ρ V' A' (growAll g s) s' ∧ base ≤ (growAll g s).next ∧ Old base ρ V A ρ V' A' ∧ ∀ b, A' b → ¬ V' b → A b ∧ ¬ V b := by
  intro g
  induction g with
  | nil => intro s s' ρ V A S hb; exact ⟨V, A, S, hb, Old.refl base ρ V A, fun b h1 h2 => ⟨h1, h2⟩⟩
  | cons x g ih =>
    intro s s' ρ V A S hb
    obtain ⟨k, z⟩ := x
    simp only [growAll]
    split
    · rename_i v hk
      have key : ∃ V' A', Sim ρ V' A' (growOne s k z v) s' ∧ base ≤ (growOne s k z v).next ∧ Old base ρ V A ρ V' A' ∧ ∀ b, A' b → ¬ V' b → A b ∧ ¬ V b := by
        unfold growOne
        split
        · rename_i z'
          split
          · rename_i hz
            subst hz
            obtain ⟨v', h1, h2⟩ := S.env k _ hk
            have hn : ¬ A s.next := fun q => Nat.lt_irrefl _ (S.lt.w _ q)
            have hu : ∀ b, A b → addN A s.next b ∧ ρ b = ρ b ∧ ((V b ∨ b = s.next) ↔ V b) := fun b hb => ⟨.inl hb, rfl, ⟨fun q => q.elim id fun e => absurd (e ▸ hb) hn, .inl⟩⟩
            have hv' : v' = .nils ∨ v' = .ro z' [] true := by
              rcases h2.ro_inv with ⟨_, rfl⟩ | ⟨es', ex', rfl, hx, hr, _⟩
              · exact .inl rfl
              · rw [hr.inv_nil, hx rfl]; exact .inr rfl
            refine ⟨fun b => V b ∨ b = s.next, addN A s.next, ⟨S.srt.put _ _, ?_, ?_, ?_⟩, by simp only; omega, ?_, ?_⟩
            · intro j u hj
              simp only at hj
              rw [get_putE] at hj
              split at hj
              · rename_i hkj
                cases hj; subst hkj
                exact ⟨v', h1, .slv _ _ _ _ (.inr rfl) (.inr rfl) hv'⟩
              · exact (S.env.mono hu) j u hj
            · have H := S.heap
              refine ⟨fun b o hb => ?_, fun b o hb hv => ?_, fun b o hb hv => ?_, ?_, ?_⟩
              · rw [get_put] at hb
                split at hb
                · rename_i q; exact .inr q.symm
                · exact .inl (H.dom b o hb)
              · rw [get_put] at hb
                split at hb
                · cases hb; exact ⟨_, _, _, rfl⟩
                · rename_i q
                  rcases hv with hv | hv
                  · exact H.virt b o hb hv
                  · exact absurd hv.symm q
              · rw [get_put] at hb
                split at hb
                · rename_i q; exact absurd (.inr q.symm) hv
                · obtain ⟨o', q1, q2⟩ := H.obj b o hb (fun q => hv (.inl q))
                  exact ⟨o', q1, q2.mono hu⟩
              · rintro b (hb | hb)
                · exact .inl (H.sub b hb)
                · exact .inr hb
              · rintro b c (hb | hb) (hc | hc) vb vc hbc
                · exact H.inj b c hb hc (fun q => vb (.inl q)) (fun q => vc (.inl q)) hbc
                · exact absurd (.inr hc) vc
                · exact absurd (.inr hb) vb
                · exact absurd (.inr hb) vb
            · refine ⟨?_, ?_⟩
              · rintro b (hb | rfl)
                · exact Nat.lt_succ_of_lt (S.lt.w b hb)
                · exact Nat.lt_succ_self _
              · rintro b (hb | rfl) hv
                · exact S.lt.p b hb (fun q => hv (.inl q))
                · exact absurd (.inr rfl) hv
            · intro b hbb
              exact ⟨hu b, fun q => q.elim id fun e => by omega⟩
            · rintro b (hb | rfl) hv
              · exact ⟨hb, fun q => hv (.inl q)⟩
              · exact absurd (.inr rfl) hv
          · exact ⟨V, A, S, hb, Old.refl base ρ V A, fun b h1 h2 => ⟨h1, h2⟩⟩
        · exact ⟨V, A, S, hb, Old.refl base ρ V A, fun b h1 h2 => ⟨h1, h2⟩⟩
      obtain ⟨V1, A1, S1, b1, o1, n1⟩ := key
      obtain ⟨V2, A2, S2, b2, o2, n2⟩ := ih _ s' ρ V1 A1 S1 b1
      exact ⟨V2, A2, S2, b2, o1.trans o2, fun b q1 q2 => by obtain ⟨q3, q4⟩ := n2 b q1 q2; exact n1 b q3 q4⟩
    · exact ih s s' ρ V A S hb

theorem testBit_bitsOf (k : Nat) : ∀ l : List Nat, (bitsOf l).testBit k = l.contains k := by
  intro l
  induction l with
  | nil => simp [bitsOf]
  | cons a l ih =>
    simp only [bitsOf, Nat.testBit_or, ih, Nat.testBit_two_pow, List.contains_cons]
    congr 1
    by_cases h : a = k
    · subst h; simp
    · have : (k == a) = false := by simpa using Ne.symm h
      rw [this]; simpa using h

theorem canon_sim {base : Nat} {a : Ann} {s s2 : WSt} {s' : St} (S : Sim ρ V A s s') (hb : base ≤ s.next) (hc : canon base a s = some s2) {s1 : St} (hs1 : s1 = s' ∨ s1 = dropEnv (maskOf a) s') :
    ∃ ρ' V' A', Sim ρ' V' A' s2 s1 ∧ base ≤ s2.next ∧ Old base ρ V A ρ' V' A' ∧ ∀ b, A' b → ¬ V' b → ∃ c, A c ∧ ¬ V c ∧ ρ' b = ρ c ∧ (base ≤ b → base ≤ c) := by
  cases hcn : a.cn with
  | false =>
    have e1 : maskOf a = 0 := by simp only [maskOf, hcn]
    simp only [canon, hcn, Option.some.injEq] at hc
    subst hc
    have e2 : s1 = s' := by
      rcases hs1 with h | h
      · exact h
      · rw [h, e1]; rfl
    subst e2
    exact ⟨ρ, V, A, S, hb, Old.refl base ρ V A, fun b h1 h2 => ⟨b, h1, h2, rfl, id⟩⟩
  | true =>
  have S0 : Sim ρ V A ⟨keepL a.live s.env, s.heap, s.next⟩ s1 := by
    have ek : ∀ k v, get (keepL a.live s.env) k = some v → get s.env k = some v ∧ a.live.contains k = true := by
      intro k v hk
      obtain ⟨q1, q2⟩ := keepL_sub s.env a.live
      have hm := get_mem hk
      exact ⟨S.srt.get (q1.subset hm), by simpa using q2 _ hm⟩
    have ks : Srt (keepL a.live s.env) := S.srt.sublist (keepL_sub s.env a.live).1
    rcases hs1 with rfl | rfl
    · exact ⟨ks, fun k v hk => S.env k v (ek k v hk).1, S.heap, S.lt⟩
    · refine ⟨ks, fun k v hk => ?_, S.heap, S.lt⟩
      obtain ⟨h1, h2⟩ := ek k v hk
      obtain ⟨v', h3, h4⟩ := S.env k v h1
      refine ⟨v', ?_, h4⟩
      simp only [dropEnv, maskOf, hcn]
      split
      · exact h3
      · rw [get_keep, testBit_bitsOf, h2, if_pos rfl]; exact h3
  obtain ⟨V1, A1, S1, b1, o1, n1⟩ := grow_sim (base := base) a.grow _ s1 ρ V A S0 hb
  simp only [canon, hcn, canonG] at hc
  obtain ⟨q1, q2⟩ := close_ok (base := base) (h := (growAll a.grow ⟨keepL a.live s.env, s.heap, s.next⟩).heap) 1000 (envRefs (growAll a.grow ⟨keepL a.live s.env, s.heap, s.next⟩).env ++ oldRefs base (growAll a.grow ⟨keepL a.live s.env, s.heap, s.next⟩).heap) [] (by simp) (fun x hx => by cases hx)
  obtain ⟨ρ', V', A', S2, b2, o2, n2⟩ := renumber_sim S1 q1 q2 hc
  exact ⟨ρ', V', A', S2, b2, o1.trans o2, fun b h1 h2 => by
    obtain ⟨c, c1, c2, c3⟩ := n2 b h1 h2
    obtain ⟨c4, c5⟩ := n1 c c1 c2
    exact ⟨c, c4, c5, c3⟩⟩

end
end Go.Pw
