/- Soundness of single operations: operands, and the operations that leave the world alone. -/
import Derived.Test.YtebbokkffdjpdaaPavInv
import Derived.Laws.Strings
import Derived.Laws.Concat
import Derived.Laws.Cover1
namespace Go.Pav
open Go

/-- What stands at the beginning of an operation. -/
structure Cx (P : Program) (φ : FuncId → Option Nat) (ψ : Nat → FuncId) (N : Nat) (w0 w : World) (S : Nat → Prop) (m : Nat → Nat × Nat) (A : Nat → Prop) (h : Heap) (e : Env) (a : Act) : Prop where
  inv : Inv ψ N w0 w S m A h
  env : EnvR ψ w S m A e a.tmps
  ids : ∀ f g, φ f = some g → ψ g = f

/-- What an operation comes to. -/
def Snd (P : Program) (ψ : Nat → FuncId) (N : Nat) (w0 w : World) (S : Nat → Prop) (m : Nat → Nat × Nat) (A : Nat → Prop) (x : Sem Next) (h' : Heap) (v : AV) (nid : Nat) : Prop :=
  ∃ cv w' m' A', (x.run P w = .ok (.value cv) w' ∨ (x.run P w = .ok .skip w' ∧ cv = Go.undef)) ∧ VR ψ w' S m' A' v cv ∧ Inv ψ N w0 w' S m' A' h' ∧ Le w S m A w' S m' A' ∧
    ∀ b, A' b → A b ∨ b = nid

section
variable {P : Program} {φ : FuncId → Option Nat} {ψ : Nat → FuncId} {N : Nat} {w0 w : World} {S : Nat → Prop} {m : Nat → Nat × Nat} {A : Nat → Prop} {h : Heap} {e : Env} {a : Act}

theorem Snd.quiet {x : Sem Next} {cv : Value} {v : AV} (i : Inv ψ N w0 w S m A h) (hr : x.run P w = .ok (.value cv) w) (hv : VR ψ w S m A v cv) (nid : Nat) :
    Snd P ψ N w0 w S m A x h v nid :=
  ⟨cv, w, m, A, .inl hr, hv, i, Le.refl .., fun _ hb => .inl hb⟩

theorem bytes_eta (s : ByteArray) : s = ⟨⟨s.data.toList⟩⟩ := by cases s; rfl

theorem avCell_vr {v : Value} {x : AV} (hx : avCell v = some x) : VR ψ w S m A x v ∧ x.cell = true ∧ x.cells = [x] ∧ v.cells = #[v] := by
  unfold avCell at hx
  split at hx <;> first
    | (cases hx; exact ⟨by constructor, rfl, rfl, rfl⟩)
    | (cases hx; refine ⟨?_, rfl, rfl, rfl⟩; rename_i s; have := VR.str (ψ := ψ) (w := w) (S := S) (m := m) (A := A) s.data.toList; rwa [← bytes_eta s] at this)
    | cases hx

theorem mapM_some {α β : Type} {f : α → Option β} : ∀ {l : List α} {r : List β}, l.mapM f = some r → r.length = l.length ∧ ∀ (i : Nat) (b : β), r[i]? = some b → ∃ a, l[i]? = some a ∧ f a = some b := by
  intro l
  induction l with
  | nil => intro r h; simp at h; subst h; simp
  | cons a l ih =>
    intro r h
    simp only [List.mapM_cons, Option.bind_eq_bind, Option.bind_eq_some_iff, Option.pure_def, Option.some.injEq] at h
    obtain ⟨b, hb, bs, hbs, rfl⟩ := h
    obtain ⟨hl, hi⟩ := ih hbs
    refine ⟨by simp [hl], ?_⟩
    intro i x hx
    cases i with
    | zero => simp at hx; subst hx; exact ⟨a, by simp, hb⟩
    | succ i => simpa using hi i x (by simpa using hx)

theorem mapM_avCell {cs : Array Value} {r : List AV} (hr : cs.toList.mapM avCell = some r) :
    cs.size = r.length ∧ (∀ (j : Nat) (x : AV), r[j]? = some x → x.cell = true) ∧ ∀ (j : Nat) (x : AV), r[j]? = some x → VR ψ w S m A x (cs.getD j Go.undef) := by
  obtain ⟨hl, hi⟩ := mapM_some hr
  refine ⟨by simpa using hl.symm, fun j x hx => ?_, fun j x hx => ?_⟩
  · obtain ⟨v, _, h2⟩ := hi j x hx
    exact (avCell_vr (ψ := ψ) (w := w) (S := S) (m := m) (A := A) h2).2.1
  · obtain ⟨v, h1, h2⟩ := hi j x hx
    have h3 := (avCell_vr (ψ := ψ) (w := w) (S := S) (m := m) (A := A) h2).1
    have : cs.getD j Go.undef = v := by
      rw [Array.getD_eq_getD_getElem?]
      simp only [Array.getElem?_toList] at h1
      simp [h1]
    rwa [this]

theorem avOf_vr {v : Value} {x : AV} (hx : avOf v = some x) : VR ψ w S m A x v := by
  unfold avOf at hx
  split at hx
  · rename_i cs
    simp only [Option.map_eq_some_iff] at hx
    obtain ⟨r, hr, rfl⟩ := hx
    obtain ⟨h1, h2, h3⟩ := mapM_avCell (ψ := ψ) (w := w) (S := S) (m := m) (A := A) hr
    exact .agg r cs h1 h2 h3
  · exact (avCell_vr hx).1

/-- An operand. -/
theorem Cx.opd (cx : Cx P φ ψ N w0 w S m A h e a) {x : Operand} {y : Opd} (hy : cOpd φ x = some y) : VR ψ w S m A (y.ev e) (a.eval x) := by
  unfold cOpd at hy
  split at hy
  · cases hy
    rename_i t
    simp only [Opd.ev]
    cases hg : get e t with
    | none => exact .undef _
    | some v => exact cx.env t v hg
  · simp only [Option.map_eq_some_iff] at hy
    obtain ⟨v, hv, rfl⟩ := hy
    exact avOf_vr hv
  · simp only [Option.map_eq_some_iff] at hy
    obtain ⟨g, hg, rfl⟩ := hy
    rename_i f
    have := VR.fn (ψ := ψ) (w := w) (S := S) (m := m) (A := A) g [] #[] rfl (by simp)
    rw [cx.ids f g hg] at this
    exact this
  · cases hy

theorem Cx.opds (cx : Cx P φ ψ N w0 w S m A h e a) {xs : Array Operand} {ys : List Opd} (hy : cOpds φ xs.toList = some ys) :
    xs.size = ys.length ∧ ∀ (j : Nat) (y : Opd), ys[j]? = some y → ∃ x, xs[j]? = some x ∧ VR ψ w S m A (y.ev e) (a.eval x) := by
  obtain ⟨hl, hi⟩ := mapM_some hy
  refine ⟨by simpa using hl.symm, fun j y hj => ?_⟩
  obtain ⟨x, h1, h2⟩ := hi j y hj
  exact ⟨x, by simpa using h1, cx.opd h2⟩

section inversions
variable {c : Value}
theorem VR.inv_int {k : IntKind} {n : Int} (hv : VR ψ w S m A (.int k n) c) : c = .int k n := by cases hv; rfl
theorem VR.inv_bool {b : Bool} (hv : VR ψ w S m A (.bool b) c) : c = .bool b := by cases hv; rfl
theorem VR.inv_str {s : List UInt8} (hv : VR ψ w S m A (.str s) c) : c = .string ⟨⟨s⟩⟩ := by cases hv; rfl
theorem VR.inv_nils (hv : VR ψ w S m A .nils c) : c = .slice none 0 0 := by cases hv; rfl
theorem VR.inv_nilp (hv : VR ψ w S m A .nilp c) : c = .pointer none := by cases hv; rfl
theorem VR.inv_nilm (hv : VR ψ w S m A .nilm c) : c = .map none := by cases hv; rfl
theorem VR.inv_nilf (hv : VR ψ w S m A .nilf c) : c = .nilFunc := by cases hv; rfl
theorem VR.inv_ptr {b i o : Nat} (hv : VR ψ w S m A (.ptr b i o) c) : A b ∧ c = .pointer (some ⟨(m b).1, i * (m b).2 + o, none⟩) := by cases hv; rename_i h; exact ⟨h, rfl⟩
theorem VR.inv_map {b : Nat} (hv : VR ψ w S m A (.map b) c) : A b ∧ c = .map (some (m b).1) := by cases hv; rename_i h; exact ⟨h, rfl⟩
theorem VR.inv_sl {b z i len cap : Nat} {ex : Bool} (hv : VR ψ w S m A (.sl b z i len cap ex) c) : ∃ cc, c = .slice (some ⟨(m b).1, i * z, none⟩) len cc ∧ A b ∧ (m b).2 = z ∧ len ≤ cc ∧ cap ≤ cc ∧
    (ex = true → cc = cap) ∧ ∃ cur t fr, w.heap[(m b).1]? = some (.cells cur t fr) ∧ (i + cc) * z ≤ cur.size := by
  cases hv with
  | sl b z i len cap ex cc hA hz hl hc hx hrow => exact ⟨cc, rfl, hA, hz, hl, hc, hx, hrow⟩
theorem VR.inv_ro {z : Nat} {es : List (List AV)} {ex : Bool} (hv : VR ψ w S m A (.ro z es ex) c) : (∃ (b off cap : Nat) (cs : Nat → Nat → Value), c = .slice (some ⟨b, off, none⟩) es.length cap ∧ S b ∧
    (∀ (i : Nat) (e : List AV), es[i]? = some e → e.length = z) ∧ es.length ≤ cap ∧ (ex = true → cap = es.length) ∧
    (∀ (i : Nat) (e : List AV) (j : Nat) (x : AV), es[i]? = some e → e[j]? = some x → x.cell = true ∧ w.cell? ⟨b, off + i * z + j, none⟩ = some (cs i j)) ∧
    ∀ (i : Nat) (e : List AV) (j : Nat) (x : AV), es[i]? = some e → e[j]? = some x → VR ψ w S m (fun _ => False) x (cs i j)) ∨
    (es = [] ∧ ∃ a : Addr, c = .slice (some a) 0 0) := by
  cases hv with
  | ro z es ex b off cap cs hS hz hc hx hcell hrep => exact .inl ⟨b, off, cap, cs, rfl, hS, hz, hc, hx, hcell, hrep⟩
  | roe z ex a => exact .inr ⟨rfl, a, rfl⟩
theorem VR.inv_rop {cs : List AV} (hv : VR ψ w S m A (.rop cs) c) : ∃ (b off : Nat) (vs : Nat → Value), c = .pointer (some ⟨b, off, none⟩) ∧ S b ∧
    (∀ (j : Nat) (x : AV), cs[j]? = some x → x.cell = true ∧ w.cell? ⟨b, off + j, none⟩ = some (vs j)) ∧
    ∀ (j : Nat) (x : AV), cs[j]? = some x → VR ψ w S m (fun _ => False) x (vs j) := by
  cases hv with
  | rop cs b off vs hS hcell hrep => exact ⟨b, off, vs, rfl, hS, hcell, hrep⟩
theorem VR.inv_fn {f : Nat} {caps : List AV} (hv : VR ψ w S m A (.fn f caps) c) : ∃ vs, c = .func (.func (ψ f)) #[] vs ∧ vs.size = caps.length ∧
    ∀ (j : Nat) (x : AV), caps[j]? = some x → VR ψ w S m A x (vs.getD j Go.undef) := by cases hv; rename_i vs h1 h2; exact ⟨vs, rfl, h1, h2⟩
theorem VR.inv_agg {cs : List AV} (hv : VR ψ w S m A (.agg cs) c) : ∃ vs, c = .agg vs ∧ vs.size = cs.length ∧ (∀ (j : Nat) (x : AV), cs[j]? = some x → x.cell = true) ∧
    ∀ (j : Nat) (x : AV), cs[j]? = some x → VR ψ w S m A x (vs.getD j Go.undef) := by cases hv; rename_i vs h1 h2 h3; exact ⟨vs, rfl, h1, h2, h3⟩
theorem VR.inv_tup {cs : List AV} (hv : VR ψ w S m A (.tup cs) c) : ∃ vs, c = .tuple vs ∧ vs.size = cs.length ∧
    ∀ (j : Nat) (x : AV), cs[j]? = some x → VR ψ w S m A x (vs.getD j Go.undef) := by cases hv; rename_i vs h1 h2; exact ⟨vs, rfl, h1, h2⟩

/-- What is closed stands under any A. -/
theorem VR.open_ {v : AV} {A' : Nat → Prop} (hv : VR ψ w S m (fun _ => False) v c) : VR ψ w S m A' v c :=
  hv.mono' (fun _ _ => rfl) (fun _ c _ _ h => ⟨c, h, rfl⟩) (fun _ h => h) (fun _ h => h.elim) (fun _ h => h.elim)
end inversions

theorem nat?_some {n : Int} {k : Nat} (hn : nat? n = some k) : n = (k : Int) := by
  cases n with
  | ofNat a => simp [nat?] at hn; subst hn; rfl
  | negSucc a => simp [nat?] at hn

theorem ov_some {x : Option AV} {v : AV} {u : Upd} (hx : ov x = some (v, u)) : x = some v ∧ u = [] := by
  obtain ⟨y, h1, h2⟩ := om_some hx
  cases h2
  exact ⟨h1, rfl⟩

/-- Operations of the form: a value, the world as it was. -/
theorem Snd.val {o : Oper} {s : Sem Value} (i : Inv ψ N w0 w S m A h) (hx : execOp a.eval o = (do pure (.value (← s)))) {cv : Value} {v : AV} (hr : s.run P w = .ok cv w) (hv : VR ψ w S m A v cv) (nid : Nat) :
    Snd P ψ N w0 w S m A (execOp a.eval o) h v nid :=
  Snd.quiet i (by rw [hx]; simp [hr]) hv nid

theorem bytesLess_eq : ∀ (x y : List UInt8), bytesLess x y = Op.bytesLess x y
  | _, [] => by simp [bytesLess, Op.bytesLess]
  | [], _ :: _ => rfl
  | a :: x, b :: y => by
    simp only [bytesLess, Op.bytesLess, bytesLess_eq x y]
    congr 1

theorem toList_bytes (s : List UInt8) : (⟨⟨s⟩⟩ : ByteArray).toList = s := ByteArray.toList_eq _

theorem append_bytes (x y : List UInt8) : (⟨⟨x⟩⟩ ++ ⟨⟨y⟩⟩ : ByteArray) = ⟨⟨x ++ y⟩⟩ := by
  have : (⟨⟨x⟩⟩ ++ ⟨⟨y⟩⟩ : ByteArray).data = ⟨x ++ y⟩ := by
    rw [ByteArray.data_append]
    simp
  calc (⟨⟨x⟩⟩ ++ ⟨⟨y⟩⟩ : ByteArray) = ⟨(⟨⟨x⟩⟩ ++ ⟨⟨y⟩⟩ : ByteArray).data⟩ := rfl
    _ = _ := by rw [this]

theorem binInt_run {op : BinOp} {t : TypeId} {k : IntKind} {x y : Int} {v : AV} (hv : binInt op k x y = some v) (hs : isShift op = false) (X Y : Operand) :
    ∃ cv, (do eqGuard op t X Y (.int k x) (.int k y); binOp op t (.int k x) (.int k y) : Sem Value).run P w = .ok cv w ∧ VR ψ w S m A v cv := by
  cases op <;> simp [isShift] at hs <;> simp only [binInt] at hv
  case quo => split at hv <;> cases hv; refine ⟨_, ?_, .int _ _⟩; simp_all [binOp, Op.intDiv, eqGuard_at_int]
  case rem => split at hv <;> cases hv; refine ⟨_, ?_, .int _ _⟩; simp_all [binOp, Op.intDiv, eqGuard_at_int]
  all_goals (cases hv; first | refine ⟨_, ?_, .int _ _⟩ | refine ⟨_, ?_, .bool _⟩)
  all_goals simp [binOp, Op.intArith, Op.intBits, Op.intCmp, eqGuard_at_int]

theorem shift_run {op : BinOp} {t : TypeId} {k k' : IntKind} {x : Int} {n : Nat} {v : AV} (hv : shiftInt op k x n = some v) (X Y : Operand) :
    ∃ cv, (do eqGuard op t X Y (.int k x) (.int k' n); binOp op t (.int k x) (.int k' n) : Sem Value).run P w = .ok cv w ∧ VR ψ w S m A v cv := by
  have h0 : ¬ ((n : Int) < 0) := by omega
  cases op <;> simp only [shiftInt] at hv <;> cases hv <;> refine ⟨_, ?_, .int _ _⟩ <;> simp [binOp, Op.shift, eqGuard_at_int, h0]

theorem binStr_run {op : BinOp} {t : TypeId} {x y : List UInt8} {v : AV} (hv : binStr op x y = some v) (X Y : Operand) :
    ∃ cv, (do eqGuard op t X Y (.string ⟨⟨x⟩⟩) (.string ⟨⟨y⟩⟩); binOp op t (.string ⟨⟨x⟩⟩) (.string ⟨⟨y⟩⟩) : Sem Value).run P w = .ok cv w ∧ VR ψ w S m A v cv := by
  have sz : ∀ s : List UInt8, (⟨⟨s⟩⟩ : ByteArray).size = s.length := fun s => rfl
  cases op <;> simp only [binStr] at hv
  case add =>
    split at hv
    · rename_i hl
      cases hv
      refine ⟨_, ?_, .str _⟩
      rw [eqGuard_at_string]
      simp only [pure_bind, binOp_string_add]
      have hl' : (⟨⟨x⟩⟩ : ByteArray).size + (⟨⟨y⟩⟩ : ByteArray).size ≤ 9223372036854775807 := by rw [sz, sz]; simp only [maxStr] at hl; omega
      rw [run_string_add_sum w ⟨⟨x⟩⟩ ⟨⟨y⟩⟩ hl', append_bytes]
    · cases hv
  all_goals (cases hv)
  all_goals (refine ⟨_, ?_, .bool _⟩; rw [eqGuard_at_string]; simp only [pure_bind, binOp_string_eql, binOp_string_neq, binOp_string_lss, binOp_string_leq, binOp_string_gtr, binOp_string_geq, Sem.run_pure, toList_bytes, bytesLess_eq])

theorem evBin_run {op : BinOp} {t : TypeId} {x y : AV} {v : AV} (hv : evBin op x y = some v) {cx cy : Value}
    (hx : VR ψ w S m A x cx) (hy : VR ψ w S m A y cy) (X Y : Operand) :
    ∃ cv, (do eqGuard op t X Y cx cy; binOp op t cx cy : Sem Value).run P w = .ok cv w ∧ VR ψ w S m A v cv := by
  unfold evBin at hv
  split at hv
  · cases hx.inv_int
    cases hy.inv_int
    by_cases hs : isShift op = true
    · rw [if_pos hs] at hv
      obtain ⟨n, hn, hv⟩ := ob_some hv
      cases nat?_some hn
      exact shift_run hv X Y
    · rw [if_neg hs] at hv
      split at hv
      · rename_i hk
        subst hk
        exact binInt_run hv (by simpa using hs) X Y
      · cases hv
  · cases hx.inv_str
    cases hy.inv_str
    exact binStr_run hv X Y
  · cases hv

end
end Go.Pav
