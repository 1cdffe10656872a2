/- The relation between the second machine's values and blocks and the evaluator's. -/
import Derived.Test.YtebbokkffdjpdaaPwDefs
import Derived.Test.YtebbokkffdjpdaaPavAll
namespace Go.Pw
open Go Go.Pav

/-- Lists of the same length, element by element. -/
def Rel2 {α β : Type} (R : α → β → Prop) (l : List α) (l' : List β) : Prop := l.length = l'.length ∧ ∀ (j : Nat) (x : α) (x' : β), l[j]? = some x → l'[j]? = some x' → R x x'

namespace Rel2
variable {α β : Type} {R R' : α → β → Prop} {l m : List α} {l' m' : List β}

theorem nil : Rel2 R [] [] := ⟨rfl, fun j x x' h => by simp at h⟩

theorem cons {a : α} {b : β} (h : R a b) (t : Rel2 R l l') : Rel2 R (a :: l) (b :: l') := by
  refine ⟨by simp [t.1], fun j x x' h1 h2 => ?_⟩
  cases j with
  | zero => simp at h1 h2; subst h1; subst h2; exact h
  | succ j => exact t.2 j x x' (by simpa using h1) (by simpa using h2)

theorem uncons {a : α} {b : β} (t : Rel2 R (a :: l) (b :: l')) : R a b ∧ Rel2 R l l' := by
  refine ⟨t.2 0 a b (by simp) (by simp), by simpa using t.1, fun j x x' h1 h2 => t.2 (j + 1) x x' (by simpa using h1) (by simpa using h2)⟩

theorem inv_nil (t : Rel2 R [] l') : l' = [] := List.length_eq_zero_iff.1 t.1.symm

theorem inv_cons {a : α} (t : Rel2 R (a :: l) l') : ∃ b r, l' = b :: r ∧ R a b ∧ Rel2 R l r := by
  cases l' with
  | nil => simp [Rel2] at t
  | cons b r => exact ⟨b, r, rfl, t.uncons.1, t.uncons.2⟩

theorem mono (h : Rel2 R l l') (hr : ∀ x x', x ∈ l → R x x' → R' x x') : Rel2 R' l l' := ⟨h.1, fun j x x' h1 h2 => hr _ _ (List.mem_of_getElem? h1) (h.2 j x x' h1 h2)⟩

theorem get (h : Rel2 R l l') {j : Nat} {x : α} (hj : l[j]? = some x) : ∃ x', l'[j]? = some x' ∧ R x x' := by
  have hlt : j < l'.length := by rw [← h.1]; exact (List.getElem?_eq_some_iff.1 hj).1
  exact ⟨l'[j], List.getElem?_eq_getElem hlt, h.2 j x _ hj (List.getElem?_eq_getElem hlt)⟩

theorem get' (h : Rel2 R l l') {j : Nat} {x' : β} (hj : l'[j]? = some x') : ∃ x, l[j]? = some x ∧ R x x' := by
  have hlt : j < l.length := by rw [h.1]; exact (List.getElem?_eq_some_iff.1 hj).1
  exact ⟨l[j], List.getElem?_eq_getElem hlt, h.2 j _ x' (List.getElem?_eq_getElem hlt) hj⟩

theorem take (h : Rel2 R l l') (n : Nat) : Rel2 R (l.take n) (l'.take n) := by
  refine ⟨by simp [h.1], fun j x x' h1 h2 => ?_⟩
  rw [List.getElem?_take] at h1 h2
  split at h1
  · rename_i hj; rw [if_pos hj] at h2; exact h.2 j x x' h1 h2
  · cases h1

theorem drop (h : Rel2 R l l') (n : Nat) : Rel2 R (l.drop n) (l'.drop n) := by
  refine ⟨by simp [h.1], fun j x x' h1 h2 => ?_⟩
  rw [List.getElem?_drop] at h1 h2
  exact h.2 _ x x' h1 h2

theorem append (h : Rel2 R l l') (k : Rel2 R m m') : Rel2 R (l ++ m) (l' ++ m') := by
  refine ⟨by simp [h.1, k.1], fun j x x' h1 h2 => ?_⟩
  rw [List.getElem?_append] at h1 h2
  split at h1
  · rename_i hj; rw [if_pos (by rw [← h.1]; exact hj)] at h2; exact h.2 j x x' h1 h2
  · rename_i hj; rw [if_neg (by rw [← h.1]; exact hj), ← h.1] at h2; exact k.2 _ x x' h1 h2

theorem set (h : Rel2 R l l') {n : Nat} {a : α} {b : β} (hab : R a b) : Rel2 R (l.set n a) (l'.set n b) := by
  refine ⟨by simp [h.1], fun j x x' h1 h2 => ?_⟩
  rw [List.getElem?_set] at h1 h2
  split at h1
  · rename_i hj
    rw [if_pos hj] at h2
    split at h1
    · cases h1
      split at h2
      · cases h2; exact hab
      · cases h2
    · cases h1
  · rename_i hj; rw [if_neg hj] at h2; exact h.2 j x x' h1 h2

theorem replicate {a : α} {b : β} (hab : R a b) (n : Nat) : Rel2 R (List.replicate n a) (List.replicate n b) := by
  refine ⟨by simp, fun j x x' h1 h2 => ?_⟩
  rw [List.getElem?_replicate] at h1 h2
  split at h1
  · rename_i hj; rw [if_pos hj] at h2; cases h1; cases h2; exact hab
  · cases h1

theorem map {γ δ : Type} {T : γ → δ → Prop} {f : α → γ} {g : β → δ} (h : Rel2 R l l') (hf : ∀ x x', R x x' → T (f x) (g x')) : Rel2 T (l.map f) (l'.map g) := by
  refine ⟨by simp [h.1], fun j x x' h1 h2 => ?_⟩
  rw [List.getElem?_map] at h1 h2
  cases h3 : l[j]? with
  | none => rw [h3] at h1; cases h1
  | some a =>
    cases h4 : l'[j]? with
    | none => rw [h4] at h2; cases h2
    | some b => rw [h3] at h1; rw [h4] at h2; cases h1; cases h2; exact hf _ _ (h.2 j a b h3 h4)

end Rel2

/-- The relation of values: ρ the blocks' numbers, V which blocks have no like (empty slices), A which have been made. -/
inductive VW (ρ : Nat → Nat) (V : Nat → Prop) : (Nat → Prop) → AV → AV → Prop
  | undef {A : Nat → Prop} (v : AV) : VW ρ V A .undef v
  | bool {A : Nat → Prop} (b : Bool) : VW ρ V A (.bool b) (.bool b)
  | int {A : Nat → Prop} (k : IntKind) (n : Int) : VW ρ V A (.int k n) (.int k n)
  | str {A : Nat → Prop} (s : List UInt8) : VW ρ V A (.str s) (.str s)
  | nilp {A : Nat → Prop} : VW ρ V A .nilp .nilp
  | nils {A : Nat → Prop} : VW ρ V A .nils .nils
  | nilm {A : Nat → Prop} : VW ρ V A .nilm .nilm
  | nilf {A : Nat → Prop} : VW ρ V A .nilf .nilf
  | ronil {A : Nat → Prop} (z : Nat) (ex : Bool) : VW ρ V A (.ro z [] ex) .nils
  | ro {A : Nat → Prop} (z : Nat) (es es' : List (List AV)) (ex ex' : Bool) (hc : ∀ e ∈ es, ∀ x ∈ e, isC x = true) (hl : es.length = es'.length) (hx : ex = true → ex' = true)
      (he : ∀ (i : Nat) (e e' : List AV), es[i]? = some e → es'[i]? = some e' → e.length = e'.length)
      (hr : ∀ (i : Nat) (e e' : List AV) (j : Nat) (x x' : AV), es[i]? = some e → es'[i]? = some e' → e[j]? = some x → e'[j]? = some x' → VW ρ V (fun _ => False) x x') :
      VW ρ V A (.ro z es ex) (.ro z es' ex')
  | rop {A : Nat → Prop} (cs cs' : List AV) (hc : ∀ x ∈ cs, isC x = true) (hl : cs.length = cs'.length) (hr : ∀ (j : Nat) (x x' : AV), cs[j]? = some x → cs'[j]? = some x' → VW ρ V (fun _ => False) x x') :
      VW ρ V A (.rop cs) (.rop cs')
  | ptr {A : Nat → Prop} (b i o : Nat) (hA : A b) (hV : ¬ V b) : VW ρ V A (.ptr b i o) (.ptr (ρ b) i o)
  | sl {A : Nat → Prop} (b z i len cap : Nat) (ex ex' : Bool) (hA : A b) (hV : ¬ V b) (hx : ex = true → ex' = true) : VW ρ V A (.sl b z i len cap ex) (.sl (ρ b) z i len cap ex')
  | slv {A : Nat → Prop} (b z : Nat) (ex : Bool) (v : AV) (hA : A b) (hV : V b) (hv : v = .nils ∨ v = .ro z [] true) : VW ρ V A (.sl b z 0 0 0 ex) v
  | map {A : Nat → Prop} (b : Nat) (hA : A b) (hV : ¬ V b) : VW ρ V A (.map b) (.map (ρ b))
  | fn {A : Nat → Prop} (f : Nat) (cs cs' : List AV) (hl : cs.length = cs'.length) (hr : ∀ (j : Nat) (x x' : AV), cs[j]? = some x → cs'[j]? = some x' → VW ρ V A x x') : VW ρ V A (.fn f cs) (.fn f cs')
  | agg {A : Nat → Prop} (cs cs' : List AV) (hl : cs.length = cs'.length) (hr : ∀ (j : Nat) (x x' : AV), cs[j]? = some x → cs'[j]? = some x' → VW ρ V A x x') : VW ρ V A (.agg cs) (.agg cs')
  | tup {A : Nat → Prop} (cs cs' : List AV) (hl : cs.length = cs'.length) (hr : ∀ (j : Nat) (x x' : AV), cs[j]? = some x → cs'[j]? = some x' → VW ρ V A x x') : VW ρ V A (.tup cs) (.tup cs')

/-- Data. -/
abbrev VD (ρ : Nat → Nat) (V : Nat → Prop) : AV → AV → Prop := VW ρ V (fun _ => False)

section
variable {ρ ρ' : Nat → Nat} {V V' A A' : Nat → Prop}

theorem VW.mono {v u : AV} (h : VW ρ V A v u) : ∀ {A' : Nat → Prop}, (∀ b, A b → A' b ∧ ρ' b = ρ b ∧ (V' b ↔ V b)) → VW ρ' V' A' v u := by
  induction h with
  | undef v => intro A' _; exact .undef v
  | bool b => intro A' _; exact .bool b
  | int k n => intro A' _; exact .int k n
  | str s => intro A' _; exact .str s
  | nilp => intro A' _; exact .nilp
  | nils => intro A' _; exact .nils
  | nilm => intro A' _; exact .nilm
  | nilf => intro A' _; exact .nilf
  | ronil z ex => intro A' _; exact .ronil z ex
  | ro z es es' ex ex' hc hl hx he _ ih => intro A' _; exact .ro z es es' ex ex' hc hl hx he fun i e e' j x x' h1 h2 h3 h4 => ih i e e' j x x' h1 h2 h3 h4 fun _ h => h.elim
  | rop cs cs' hc hl _ ih => intro A' _; exact .rop cs cs' hc hl fun j x x' h1 h2 => ih j x x' h1 h2 fun _ h => h.elim
  | ptr b i o hA hV => intro A' h; obtain ⟨h1, h2, h3⟩ := h b hA; rw [← h2]; exact .ptr b i o h1 (fun q => hV (h3.1 q))
  | sl b z i len cap ex ex' hA hV hx => intro A' h; obtain ⟨h1, h2, h3⟩ := h b hA; rw [← h2]; exact .sl b z i len cap ex ex' h1 (fun q => hV (h3.1 q)) hx
  | slv b z ex v hA hV hv => intro A' h; obtain ⟨h1, h2, h3⟩ := h b hA; exact .slv b z ex v h1 (h3.2 hV) hv
  | map b hA hV => intro A' h; obtain ⟨h1, h2, h3⟩ := h b hA; rw [← h2]; exact .map b h1 (fun q => hV (h3.1 q))
  | fn f cs cs' hl _ ih => intro A' h; exact .fn f cs cs' hl fun j x x' h1 h2 => ih j x x' h1 h2 h
  | agg cs cs' hl _ ih => intro A' h; exact .agg cs cs' hl fun j x x' h1 h2 => ih j x x' h1 h2 h
  | tup cs cs' hl _ ih => intro A' h; exact .tup cs cs' hl fun j x x' h1 h2 => ih j x x' h1 h2 h

theorem VW.data {v u : AV} (h : VD ρ V v u) : VW ρ' V' A' v u := h.mono fun _ q => q.elim

theorem VW.int_inv {k : IntKind} {n : Int} {u : AV} (h : VW ρ V A (.int k n) u) : u = .int k n := by cases h; rfl
theorem VW.bool_inv {b : Bool} {u : AV} (h : VW ρ V A (.bool b) u) : u = .bool b := by cases h; rfl
theorem VW.str_inv {s : List UInt8} {u : AV} (h : VW ρ V A (.str s) u) : u = .str s := by cases h; rfl

theorem VW.agg_inv {cs : List AV} {u : AV} (h : VW ρ V A (.agg cs) u) : ∃ cs', u = .agg cs' ∧ Rel2 (VW ρ V A) cs cs' := by
  cases h with | agg _ cs' hl hr => exact ⟨cs', rfl, hl, hr⟩
theorem VW.tup_inv {cs : List AV} {u : AV} (h : VW ρ V A (.tup cs) u) : ∃ cs', u = .tup cs' ∧ Rel2 (VW ρ V A) cs cs' := by
  cases h with | tup _ cs' hl hr => exact ⟨cs', rfl, hl, hr⟩
theorem VW.fn_inv {f : Nat} {cs : List AV} {u : AV} (h : VW ρ V A (.fn f cs) u) : ∃ cs', u = .fn f cs' ∧ Rel2 (VW ρ V A) cs cs' := by
  cases h with | fn _ _ cs' hl hr => exact ⟨cs', rfl, hl, hr⟩
theorem VW.rop_inv {cs : List AV} {u : AV} (h : VW ρ V A (.rop cs) u) : ∃ cs', u = .rop cs' ∧ Rel2 (VD ρ V) cs cs' ∧ ∀ x ∈ cs, isC x = true := by
  cases h with | rop _ cs' hc hl hr => exact ⟨cs', rfl, ⟨hl, hr⟩, hc⟩
theorem VW.ptr_inv {b i o : Nat} {u : AV} (h : VW ρ V A (.ptr b i o) u) : u = .ptr (ρ b) i o ∧ A b ∧ ¬ V b := by
  cases h with | ptr _ _ _ hA hV => exact ⟨rfl, hA, hV⟩
theorem VW.map_inv {b : Nat} {u : AV} (h : VW ρ V A (.map b) u) : u = .map (ρ b) ∧ A b ∧ ¬ V b := by
  cases h with | map _ hA hV => exact ⟨rfl, hA, hV⟩
theorem VW.ro_inv {z : Nat} {es : List (List AV)} {ex : Bool} {u : AV} (h : VW ρ V A (.ro z es ex) u) :
    (es = [] ∧ u = .nils) ∨ ∃ es' ex', u = .ro z es' ex' ∧ (ex = true → ex' = true) ∧ Rel2 (Rel2 (VD ρ V)) es es' ∧ ∀ e ∈ es, ∀ x ∈ e, isC x = true := by
  cases h with
  | ronil => exact .inl ⟨rfl, rfl⟩
  | ro _ _ es' _ ex' hc hl hx he hr => exact .inr ⟨es', ex', rfl, hx, ⟨hl, fun i e e' h1 h2 => ⟨he i e e' h1 h2, fun j x x' h3 h4 => hr i e e' j x x' h1 h2 h3 h4⟩⟩, hc⟩
theorem VW.sl_inv {b z i len cap : Nat} {ex : Bool} {u : AV} (h : VW ρ V A (.sl b z i len cap ex) u) :
    (A b ∧ ¬ V b ∧ ∃ ex', u = .sl (ρ b) z i len cap ex' ∧ (ex = true → ex' = true)) ∨ (A b ∧ V b ∧ i = 0 ∧ len = 0 ∧ cap = 0 ∧ (u = .nils ∨ u = .ro z [] true)) := by
  cases h with
  | sl _ _ _ _ _ _ ex' hA hV hx => exact .inl ⟨hA, hV, ex', rfl, hx⟩
  | slv _ _ _ _ hA hV hv => exact .inr ⟨hA, hV, rfl, rfl, rfl, hv⟩

theorem VW.mkro {z : Nat} {es es' : List (List AV)} {ex ex' : Bool} (h : Rel2 (Rel2 (VD ρ V)) es es') (hc : ∀ e ∈ es, ∀ x ∈ e, Pw.isC x = true) (hx : ex = true → ex' = true) : VW ρ V A (.ro z es ex) (.ro z es' ex') :=
  .ro z es es' ex ex' hc h.1 hx (fun i e e' h1 h2 => (h.2 i e e' h1 h2).1) fun i e e' j x x' h1 h2 h3 h4 => (h.2 i e e' h1 h2).2 j x x' h3 h4
theorem VW.mkrop {cs cs' : List AV} (h : Rel2 (VD ρ V) cs cs') (hc : ∀ x ∈ cs, Pw.isC x = true) : VW ρ V A (.rop cs) (.rop cs') := .rop cs cs' hc h.1 h.2
theorem VW.mkagg {cs cs' : List AV} (h : Rel2 (VW ρ V A) cs cs') : VW ρ V A (.agg cs) (.agg cs') := .agg cs cs' h.1 h.2
theorem VW.mktup {cs cs' : List AV} (h : Rel2 (VW ρ V A) cs cs') : VW ρ V A (.tup cs) (.tup cs') := .tup cs cs' h.1 h.2
theorem VW.mkfn {f : Nat} {cs cs' : List AV} (h : Rel2 (VW ρ V A) cs cs') : VW ρ V A (.fn f cs) (.fn f cs') := .fn f cs cs' h.1 h.2

/-- A cell that names no block is data. -/
theorem VW.isC {v u : AV} (h : VW ρ V A v u) (hc : isC v = true) : VW ρ' V' A' v u := by
  cases h with
  | fn f cs cs' hl hr =>
    cases cs with
    | nil => exact .fn f [] cs' hl fun j x x' h1 => by simp at h1
    | cons a r => simp [Pw.isC] at hc
  | undef => simp [Pw.isC] at hc
  | ptr => simp [Pw.isC] at hc
  | sl => simp [Pw.isC] at hc
  | slv => simp [Pw.isC] at hc
  | map => simp [Pw.isC] at hc
  | agg => simp [Pw.isC] at hc
  | tup => simp [Pw.isC] at hc
  | bool b => exact .bool b
  | int k n => exact .int k n
  | str s => exact .str s
  | nilp => exact .nilp
  | nils => exact .nils
  | nilm => exact .nilm
  | nilf => exact .nilf
  | ronil z ex => exact .ronil z ex
  | ro z es es' ex ex' hc2 hl hx he hr => exact .ro z es es' ex ex' hc2 hl hx he fun i e e' j x x' h1 h2 h3 h4 => (hr i e e' j x x' h1 h2 h3 h4).data
  | rop cs cs' hc2 hl hr => exact .rop cs cs' hc2 hl fun j x x' h1 h2 => (hr j x x' h1 h2).data

theorem VW.isD {v u : AV} (h : VW ρ V A v u) (hc : isD v = true) : VW ρ' V' A' v u := by
  cases h with
  | agg cs cs' hl hr =>
    simp only [Pw.isD, List.all_eq_true] at hc
    exact .agg cs cs' hl fun j x x' h1 h2 => (hr j x x' h1 h2).isC (hc x (List.mem_of_getElem? h1))
  | undef _ => exact .undef _
  | fn f cs cs' hl hr => exact (VW.fn f cs cs' hl hr : VW ρ V A _ _).isC hc
  | ptr => simp [Pw.isD, Pw.isC] at hc
  | sl => simp [Pw.isD, Pw.isC] at hc
  | slv => simp [Pw.isD, Pw.isC] at hc
  | map => simp [Pw.isD, Pw.isC] at hc
  | tup => simp [Pw.isD, Pw.isC] at hc
  | bool b => exact .bool b
  | int k n => exact .int k n
  | str s => exact .str s
  | nilp => exact .nilp
  | nils => exact .nils
  | nilm => exact .nilm
  | nilf => exact .nilf
  | ronil z ex => exact .ronil z ex
  | ro z es es' ex ex' hc2 hl hx he hr => exact .ro z es es' ex ex' hc2 hl hx he fun i e e' j x x' h1 h2 h3 h4 => (hr i e e' j x x' h1 h2 h3 h4).data
  | rop cs cs' hc2 hl hr => exact .rop cs cs' hc2 hl fun j x x' h1 h2 => (hr j x x' h1 h2).data

theorem VW.cell {v u : AV} (h : VW ρ V A v u) (hc : v.cell = true) : u.cell = true := by
  cases h with
  | slv b z ex w hA hV hv => rcases hv with e | e <;> subst e <;> rfl
  | undef => simp [AV.cell] at hc
  | agg => simp [AV.cell] at hc
  | tup => simp [AV.cell] at hc
  | _ => rfl

theorem cell_cells {v : AV} (hc : v.cell = true) : v.cells = [v] := by
  cases v <;> simp_all [AV.cell, AV.cells]

theorem VW.cells {v u : AV} (h : VW ρ V A v u) (hc : v.cells.all AV.cell = true) : Rel2 (VW ρ V A) v.cells u.cells ∧ u.cells.all AV.cell = true := by
  have one : ∀ {v u : AV}, VW ρ V A v u → v.cell = true → Rel2 (VW ρ V A) v.cells u.cells ∧ u.cells.all AV.cell = true := by
    intro v u h hc
    rw [cell_cells hc, cell_cells (h.cell hc)]
    exact ⟨.cons h .nil, by simp [h.cell hc]⟩
  cases hv : v with
  | agg cs =>
    subst hv
    obtain ⟨cs', rfl, hr⟩ := h.agg_inv
    refine ⟨hr, ?_⟩
    simp only [AV.cells, List.all_eq_true] at hc ⊢
    intro x' hx'
    obtain ⟨j, hj, e⟩ := List.getElem_of_mem hx'
    obtain ⟨x, h1, h2⟩ := hr.get' (List.getElem?_eq_getElem hj)
    rw [e] at h2
    exact h2.cell (hc x (List.mem_of_getElem? h1))
  | undef => subst hv; simp [AV.cells, AV.cell] at hc
  | tup cs => subst hv; simp [AV.cells, AV.cell] at hc
  | _ => subst hv; exact one h rfl

end

/-- The relation of blocks. -/
def OW (ρ : Nat → Nat) (V A : Nat → Prop) : WObj → AObj → Prop
  | .cells z es mu dt, o => ∃ es' mu', o = .cells z es' mu' ∧ (mu = true → mu' = true) ∧ Rel2 (Rel2 (VW ρ V A)) es es' ∧ (dt = true → ∀ e ∈ es, ∀ x ∈ e, isC x = true)
  | .map es, o => ∃ es', o = .map es' ∧ Rel2 (fun (x y : AV × AV) => x.1 = y.1 ∧ VD ρ V x.2 y.2) es es'
  | .iter s p, o => o = .iter s p

/-- Environments. -/
def EW (ρ : Nat → Nat) (V A : Nat → Prop) (e : Env) (e' : Env) : Prop := ∀ k v, get e k = some v → ∃ v', get e' k = some v' ∧ VW ρ V A v v'

/-- Heaps. -/
structure HW (ρ : Nat → Nat) (V A : Nat → Prop) (h : WHeap) (h' : Heap) : Prop where
  dom : ∀ b o, get h b = some o → A b
  virt : ∀ b o, get h b = some o → V b → ∃ z mu dt, o = .cells z [] mu dt
  obj : ∀ b o, get h b = some o → ¬ V b → ∃ o', get h' (ρ b) = some o' ∧ OW ρ V A o o'
  sub : ∀ b, V b → A b
  inj : ∀ b c, A b → A c → ¬ V b → ¬ V c → ρ b = ρ c → b = c

section
variable {ρ ρ' : Nat → Nat} {V V' A A' : Nat → Prop}

theorem OW.mono {o : WObj} {o' : AObj} (h : OW ρ V A o o') (hm : ∀ b, A b → A' b ∧ ρ' b = ρ b ∧ (V' b ↔ V b)) : OW ρ' V' A' o o' := by
  cases o with
  | cells z es mu dt =>
    obtain ⟨es', mu', h1, h2, h3, h4⟩ := h
    exact ⟨es', mu', h1, h2, h3.mono fun e e' _ he => he.mono fun x x' _ hx => hx.mono hm, h4⟩
  | map es =>
    obtain ⟨es', h1, h2⟩ := h
    exact ⟨es', h1, h2.mono fun x x' _ hx => ⟨hx.1, hx.2.data⟩⟩
  | iter s p => exact h

theorem EW.mono {e e' : Env} (h : EW ρ V A e e') (hm : ∀ b, A b → A' b ∧ ρ' b = ρ b ∧ (V' b ↔ V b)) : EW ρ' V' A' e e' := by
  intro k v hk
  obtain ⟨v', h1, h2⟩ := h k v hk
  exact ⟨v', h1, h2.mono hm⟩

theorem get_putE (l : Env) (n : Nat) (x : AV) (k : Nat) : get (putE l n x) k = if n = k then some x else get l k := by
  induction l with
  | nil => simp [putE, Pav.get]
  | cons a r ih =>
    obtain ⟨j, v⟩ := a
    simp only [putE]
    by_cases h1 : j < n
    · simp only [h1, if_true, Pav.get]
    · rw [if_neg h1]
      by_cases h2 : j = n
      · subst h2
        simp only [if_true, Pav.get]
        by_cases h3 : j = k <;> simp [h3]
      · simp only [h2, if_false, Pav.get, ih]
        by_cases h3 : j = k
        · subst h3; simp [Ne.symm h2]
        · simp [h3]

theorem EW.put {e e' : Env} (h : EW ρ V A e e') {d : Nat} {v v' : AV} (hv : VW ρ V A v v') : EW ρ V A (putE e d v) (put e' d v') := by
  intro k u hk
  rw [get_putE] at hk
  rw [get_put]
  split at hk
  · rename_i hd; cases hk; exact ⟨v', by rw [if_pos hd], hv⟩
  · rename_i hd; rw [if_neg hd]; exact h k u hk

theorem EW.setDst {e e' : Env} (h : EW ρ V A e e') {d : Option Nat} {v v' : AV} (hv : VW ρ V A v v') : EW ρ V A (setD e d v) (setDst e' d v') := by
  cases d with
  | none => exact h
  | some d => exact h.put hv

theorem okV_vw (v : AV) : okV v = true → VW ρ V A v (er v) := by
  refine AV.rec (motive_1 := fun v => okV v = true → VW ρ V A v (er v)) (motive_2 := fun _ => True) (motive_3 := fun l => okL l = true → Rel2 (VW ρ V A) l (erL l))
    ?_ ?_ ?_ ?_ ?_ ?_ ?_ ?_ ?_ ?_ ?_ ?_ ?_ ?_ ?_ ?_ ?_ ?_ ?_ ?_ v
  · intro h; simp [okV] at h
  · intro b _; exact .bool b
  · intro k n _; exact .int k n
  · intro s _; exact .str s
  · intro _; exact .nilp
  · intro _; exact .nils
  · intro _; exact .nilm
  · intro _; exact .nilf
  · intro z es ex _ h
    simp only [okV, List.isEmpty_iff] at h
    subst h
    cases ex with
    | true => exact .ronil z true
    | false => exact VW.mkro .nil (fun _ h => by cases h) id
  · intro cs _ h; simp [okV] at h
  · intro b i o h; simp [okV] at h
  · intro b z i len cap ex h; simp [okV] at h
  · intro b h; simp [okV] at h
  · intro f cs ih h; exact VW.mkfn (ih h)
  · intro cs ih h; exact VW.mkagg (ih h)
  · intro cs ih h; exact VW.mktup (ih h)
  · trivial
  · intros; trivial
  · intro _; exact .nil
  · intro v r ih1 ih2 h
    simp only [okL, Bool.and_eq_true] at h
    exact .cons (ih1 h.1) (ih2 h.2)

theorem okL_vw : ∀ l : List AV, okL l = true → Rel2 (VW ρ V A) l (erL l) := by
  intro l
  induction l with
  | nil => intro _; exact .nil
  | cons v r ih =>
    intro h
    simp only [okL, Bool.and_eq_true] at h
    exact .cons (okV_vw v h.1) (ih h.2)

theorem EW.opd {e e' : Env} (h : EW ρ V A e e') {x : Opd} (hx : okO x = true) : VW ρ V A (x.ev e) ((erO x).ev e') := by
  cases x with
  | t s =>
    simp only [Opd.ev, erO]
    cases hg : get e s with
    | none => exact .undef _
    | some v =>
      obtain ⟨v', h1, h2⟩ := h s v hg
      rw [h1]; exact h2
  | c v => exact okV_vw v hx

end
end Go.Pw
