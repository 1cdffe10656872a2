/- Small things for contracts: how data is laid, lists. -/
import Derived.Test.YtebbokkffdjpdaaPwSimp
namespace Go.Pw
open Go Go.Pav

/-- A cell of a number, a string, a bool. -/
@[simp] def eI (x : Int) : List AV := [.int .i64 x]
@[simp] def eU8 (x : Int) : List AV := [.int .u8 x]
@[simp] def eU64 (x : Int) : List AV := [.int .u64 x]
@[simp] def eS (x : List UInt8) : List AV := [.str x]
@[simp] def eB (x : Bool) : List AV := [.bool x]

/-- A list of numbers. -/
abbrev L1 (xs : List Int) (e : Bool) : AV := .ro 1 (xs.map eI) e

attribute [simp] Int.natCast_inj
attribute [-simp] List.getElem_cons_drop

section
variable (a n : Nat)
@[simp] theorem lit_lt_cast : ((no_index (OfNat.ofNat a) : Int) < (n : Int)) = ((no_index (OfNat.ofNat a) : Nat) < n) := propext (Int.ofNat_lt (n := (OfNat.ofNat a : Nat)) (m := n))
@[simp] theorem cast_lt_lit : ((n : Int) < (no_index (OfNat.ofNat a) : Int)) = (n < (no_index (OfNat.ofNat a) : Nat)) := propext (Int.ofNat_lt (m := (OfNat.ofNat a : Nat)) (n := n))
@[simp] theorem lit_le_cast : ((no_index (OfNat.ofNat a) : Int) ≤ (n : Int)) = ((no_index (OfNat.ofNat a) : Nat) ≤ n) := propext (Int.ofNat_le (m := (OfNat.ofNat a : Nat)) (n := n))
@[simp] theorem cast_le_lit : ((n : Int) ≤ (no_index (OfNat.ofNat a) : Int)) = (n ≤ (no_index (OfNat.ofNat a) : Nat)) := propext (Int.ofNat_le (n := (OfNat.ofNat a : Nat)) (m := n))
end

/-- A list that is being filled. -/
theorem fill_get {α β : Type} {f : α → β} {acc : List α} {n i : Nat} {z : β} (h : acc.length = i) : (List.map f acc ++ List.replicate (n + 1) z)[i]? = some z := by
  rw [List.getElem?_append_right (by simp; omega)]
  simp [h]
theorem fill_set {α β : Type} {f : α → β} {acc : List α} {n i : Nat} {z v : β} (h : acc.length = i) : (List.map f acc ++ List.replicate (n + 1) z).set i v = List.map f acc ++ v :: List.replicate n z := by
  rw [List.set_append, if_neg (by simp; omega)]
  simp [h, List.replicate_succ]

@[simp] theorem app_le (a b : Nat) : (a + (b + 1) ≤ a) = False := eq_false (by omega)

theorem drop_cons {α : Type} {l : List α} {i : Nat} (h : i < l.length) : l.drop i = l[i] :: l.drop (i + 1) := List.drop_eq_getElem_cons h

theorem isC_map {α : Type} {f : α → List AV} (hf : ∀ x, (f x).all isC = true) (xs : List α) : ((xs.map f).all fun e => e.all isC) = true := by
  simp [List.all_map, hf]

end Go.Pw
