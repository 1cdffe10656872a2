/- Soundness: structs and slices that are built. -/
import Derived.Test.YtebbokkffdjpdaaPavSnd3
import Derived.Great.BuildSlice
namespace Go.Pav
open Go

section
variable {P : Program} {φ : FuncId → Option Nat} {ψ : Nat → FuncId} {N : Nat} {w0 w : World} {S : Nat → Prop} {m : Nat → Nat × Nat} {A : Nat → Prop} {h : Heap} {e : Env} {a : Act}

/-- A list of cells and the model's array of them. -/
def CsR (ψ : Nat → FuncId) (w : World) (S : Nat → Prop) (m : Nat → Nat × Nat) (A : Nat → Prop) (cs : List AV) (vs : Array Value) : Prop :=
  vs.size = cs.length ∧ ∀ (j : Nat) (x : AV), cs[j]? = some x → x.cell = true ∧ VR ψ w S m A x (vs.getD j Go.undef)

theorem zip_fold (off : Nat) : ∀ (l : List Value) (k : Nat) (cells : Array Value), off + k + l.length ≤ cells.size →
    ((l.zipIdx k).foldl (fun cs (x : Value × Nat) => cs.setIfInBounds (off + x.2) x.1) cells).size = cells.size ∧
    ∀ q, ((l.zipIdx k).foldl (fun cs (x : Value × Nat) => cs.setIfInBounds (off + x.2) x.1) cells)[q]? = if off + k ≤ q ∧ q < off + k + l.length then l[q - (off + k)]? else cells[q]?
  | [], k, cells, _ => by
    refine ⟨rfl, fun q => ?_⟩
    rw [if_neg (by simp only [List.length_nil]; omega)]
    rfl
  | v :: l, k, cells, hl => by
    simp only [List.length_cons] at hl
    obtain ⟨h1, h2⟩ := zip_fold off l (k + 1) (cells.setIfInBounds (off + k) v) (by simp; omega)
    simp only [List.zipIdx_cons, List.foldl_cons]
    refine ⟨by rw [h1]; simp, fun q => ?_⟩
    rw [h2 q]
    by_cases hq : q = off + k
    · subst hq
      have hlt : off + k < cells.size := by omega
      rw [if_neg (by omega), if_pos (by simp)]
      simp [hlt]
    · by_cases hr : off + (k + 1) ≤ q ∧ q < off + (k + 1) + l.length
      · rw [if_pos hr, if_pos (by simp; omega)]
        rw [show q - (off + k) = (q - (off + (k + 1))) + 1 by omega]
        simp
      · rw [if_neg hr, if_neg (by simp; omega)]
        rw [Array.getElem?_setIfInBounds_ne (by omega)]

theorem fold_toList (vs : Array Value) (off : Nat) (cells : Array Value) :
    vs.zipIdx.foldl (fun cs (x : Value × Nat) => cs.setIfInBounds (off + x.2) x.1) cells = (vs.toList.zipIdx 0).foldl (fun cs (x : Value × Nat) => cs.setIfInBounds (off + x.2) x.1) cells := by
  rw [← Array.foldl_toList]
  simp

theorem getD_of_get {vs : Array Value} {j : Nat} {v : Value} (hv : vs[j]? = some v) : vs.getD j Go.undef = v := by
  rw [Array.getD_eq_getD_getElem?, hv]; rfl

/-- One part laid into cells. -/
theorem CsR.fill {cs : List AV} {vs : Array Value} (hc : CsR ψ w S m A cs vs) {x : AV} {c : Value} (hx : VR ψ w S m A x c) (hall : x.cells.all AV.cell = true) {off : Nat} (hl : off + x.cells.length ≤ cs.length) :
    CsR ψ w S m A (splice cs off x.cells) (c.cells.zipIdx.foldl (fun cs (x : Value × Nat) => cs.setIfInBounds (off + x.2) x.1) vs) := by
  obtain ⟨q1, q2, q3⟩ := hx.cells hall
  have hsz : c.cells.toList.length = x.cells.length := by simp [q1]
  rw [fold_toList]
  obtain ⟨h1, h2⟩ := zip_fold off c.cells.toList 0 vs (by rw [hc.1]; omega)
  refine ⟨by rw [h1, length_splice hl, hc.1], fun j y hy => ?_⟩
  rw [splice_get hl] at hy
  rw [Array.getD_eq_getD_getElem?, h2 j]
  simp only [Nat.add_zero, hsz]
  by_cases hr : off ≤ j ∧ j < off + x.cells.length
  · rw [if_pos hr] at hy ⊢
    refine ⟨List.all_eq_true.1 hall _ (List.mem_of_getElem? hy), ?_⟩
    have := q2 _ _ hy
    rw [Array.getD_eq_getD_getElem?] at this
    simpa using this
  · rw [if_neg hr] at hy ⊢
    have := hc.2 j y hy
    rw [Array.getD_eq_getD_getElem?] at this
    exact this

theorem fillC_run (cx : Cx P φ ψ N w0 w S m A h e a) (fs : Nat → Option (Nat × Nat)) : ∀ (ps : List (Nat × Operand)) (ps' : List (Nat × Nat × Opd)) (cs cs' : List AV) (vs : Array Value),
    cParts φ fs ps = some ps' → fillC e cs ps' = some cs' → CsR ψ w S m A cs vs →
    ∃ vs', Instr.fill fs vs (ps.map fun x => (x.1, a.eval x.2)) = some vs' ∧ CsR ψ w S m A cs' vs'
  | [], ps', cs, cs', vs, h1, h2, h3 => by
    simp only [cParts] at h1
    cases h1
    simp only [fillC] at h2
    cases h2
    exact ⟨vs, rfl, h3⟩
  | (i, x) :: r, ps', cs, cs', vs, h1, h2, h3 => by
    simp only [cParts, Option.bind_eq_bind, Option.bind_eq_some_iff] at h1
    obtain ⟨⟨off, n⟩, hf, y, hy, ys, hys, h1⟩ := h1
    cases h1
    simp only [fillC] at h2
    split at h2
    · rename_i hc
      obtain ⟨c1, c2, c3⟩ := hc
      have hx := cx.opd hy
      obtain ⟨q1, _, _⟩ := hx.cells c3
      obtain ⟨vs', h4, h5⟩ := fillC_run cx fs r ys _ cs' _ hys h2 (h3.fill hx c3 (by omega))
      refine ⟨vs', ?_, h5⟩
      simp only [List.map_cons, Instr.fill, hf]
      rw [if_neg (by rw [h3.1]; simp; omega)]
      exact h4
    · cases h2

theorem build_snd (cx : Cx P φ ψ N w0 w S m A h e a) {o : Oper} {t : TypeId} {ps : Array (Nat × Operand)} (ho : o.op = .build t ps) {cop : COp} (hc : cOp P φ (.build t ps) = some cop)
    {v : AV} {u : Upd} {nid : Nat} (hs : stepOp cop e h nid = some (v, u)) : Snd P ψ N w0 w S m A (execOp a.eval o) (applyUpd h u) v nid := by
  simp only [cOp, Option.bind_eq_bind, Option.bind_eq_some_iff] at hc
  obtain ⟨z, hz, d, hd, hc⟩ := hc
  obtain ⟨it, zv, hit, hzv, z1, z2, z3, z4⟩ := zeroCells_some (ψ := ψ) (w := w) (S := S) (m := m) (A := A) hz
  have hzr : CsR ψ w S m A z zv.cells := ⟨z1, fun j x hx => ⟨z3 j x hx, z4 j x hx⟩⟩
  have fin : ∀ (fs : Nat → Option (Nat × Nat)) (ps' : List (Nat × Nat × Opd)), cParts φ fs ps.toList = some ps' → cop = .build z ps' →
      (∀ parts, Instr.fill fs zv.cells parts = P.built t parts) → Snd P ψ N w0 w S m A (execOp a.eval o) (applyUpd h u) v nid := by
    intro fs ps' hp hcop hb
    subst hcop
    simp only [stepOp, sBuild] at hs
    obtain ⟨cs', h1, h2⟩ := om_some hs
    cases h2
    obtain ⟨vs', h3, h4⟩ := fillC_run cx fs ps.toList ps' z cs' zv.cells hp h1 hzr
    rw [hb] at h3
    refine Snd.quiet (cv := .agg vs') cx.inv ?_ (.agg cs' vs' h4.1 (fun j x hx => (h4.2 j x hx).1) fun j x hx => (h4.2 j x hx).2) nid
    have hr := run_build w t (ps.map fun x => (x.1, a.eval x.2)) vs' (by simpa using h3)
    simp only [execOp, ho, Sem.run_bind]
    rw [hr]
    rfl
  split at hc
  · rename_i fields
    simp only [Option.bind_eq_some_iff] at hc
    obtain ⟨pl, hpl, ps', hp, hc⟩ := hc
    cases hc
    refine fin (fun i => pl[i]?) ps' hp rfl fun parts => ?_
    unfold Program.built
    simp only [hit, hd, hzv, hpl]
    simp
  · rename_i len el
    simp only [Option.bind_eq_some_iff] at hc
    obtain ⟨n, hn, ps', hp, hc⟩ := hc
    cases hc
    refine fin (fun i => some (i * n, n)) ps' hp rfl fun parts => ?_
    unfold sizeT at hn
    simp only [Option.map_eq_some_iff] at hn
    obtain ⟨ie, hie, rfl⟩ := hn
    unfold Program.built
    simp only [hit, hd, hzv, hie]
  · cases hc

/-- A list of elements, each of z cells, and the model's row of them. -/
structure EsR (ψ : Nat → FuncId) (w : World) (S : Nat → Prop) (m : Nat → Nat × Nat) (A : Nat → Prop) (z : Nat) (es : List (List AV)) (vs : Array Value) : Prop where
  size : vs.size = es.length * z
  wide : ∀ (k : Nat) (e : List AV), es[k]? = some e → e.length = z
  cell : ∀ (k : Nat) (e : List AV) (j : Nat) (x : AV), es[k]? = some e → e[j]? = some x → x.cell = true ∧ VR ψ w S m A x (vs.getD (k * z + j) Go.undef)

theorem EsR.at_ {z : Nat} {es : List (List AV)} {vs : Array Value} (hr : EsR ψ w S m A z es vs) {k : Nat} {e : List AV} {j : Nat} {x : AV} (he : es[k]? = some e) (hx : e[j]? = some x) :
    x.cell = true ∧ ∃ u, vs[k * z + j]? = some u ∧ VR ψ w S m A x u := by
  obtain ⟨h1, h2⟩ := hr.cell k e j x he hx
  have hk : k < es.length := (List.getElem?_eq_some_iff.1 he).1
  have hj : j < z := by rw [← hr.wide k e he]; exact (List.getElem?_eq_some_iff.1 hx).1
  have := row_lt hk hj
  exact ⟨h1, _, getElem?_of_getD (by rw [hr.size]; exact this), h2⟩

theorem EsR.fill {z : Nat} {es : List (List AV)} {vs : Array Value} (hr : EsR ψ w S m A z es vs) {x : AV} {c : Value} (hx : VR ψ w S m A x c) (hall : x.cells.all AV.cell = true) {i : Nat} (hi : i < es.length) (hz : x.cells.length = z) :
    EsR ψ w S m A z (es.set i x.cells) (c.cells.zipIdx.foldl (fun cs (x : Value × Nat) => cs.setIfInBounds (i * z + x.2) x.1) vs) := by
  obtain ⟨q1, q2, q3⟩ := hx.cells hall
  have hsz : c.cells.toList.length = z := by simp [q1, hz]
  have hfit : i * z + z ≤ vs.size := by
    rw [hr.size]
    have := Nat.mul_le_mul_right z (show i + 1 ≤ es.length from hi)
    rw [Nat.add_mul, Nat.one_mul] at this
    exact this
  rw [fold_toList]
  obtain ⟨h1, h2⟩ := zip_fold (i * z) c.cells.toList 0 vs (by omega)
  refine ⟨by rw [h1, hr.size]; simp, fun k e he => ?_, fun k e j y he hy => ?_⟩
  · rw [List.getElem?_set] at he
    by_cases hk : i = k
    · subst hk; rw [if_pos rfl, if_pos hi] at he; cases he; exact hz
    · rw [if_neg hk] at he; exact hr.wide k e he
  · rw [Array.getD_eq_getD_getElem?, h2]
    simp only [Nat.add_zero, hsz]
    rw [List.getElem?_set] at he
    by_cases hk : i = k
    · subst hk
      rw [if_pos rfl, if_pos hi] at he
      cases he
      have hj : j < z := by rw [← hz]; exact (List.getElem?_eq_some_iff.1 hy).1
      rw [if_pos (by omega), show i * z + j - i * z = j by omega]
      refine ⟨List.all_eq_true.1 hall _ (List.mem_of_getElem? hy), ?_⟩
      have := q2 _ _ hy
      rw [Array.getD_eq_getD_getElem?] at this
      simpa using this
    · rw [if_neg hk] at he
      have hj : j < z := by rw [← hr.wide k e he]; exact (List.getElem?_eq_some_iff.1 hy).1
      have hne : ¬ (i * z ≤ k * z + j ∧ k * z + j < i * z + z) := by
        rcases Nat.lt_or_gt_of_ne hk with hlt | hgt
        · have := Nat.mul_le_mul_right z (show i + 1 ≤ k from hlt)
          rw [Nat.add_mul, Nat.one_mul] at this
          omega
        · have := row_lt hgt hj
          omega
      rw [if_neg hne]
      have := hr.cell k e j y he hy
      rw [Array.getD_eq_getD_getElem?] at this
      exact this

theorem fillS_run (cx : Cx P φ ψ N w0 w S m A h e a) (z : Nat) : ∀ (ps : List (Nat × Operand)) (ps' : List (Nat × Opd)) (es es' : List (List AV)) (vs : Array Value),
    cElems φ ps = some ps' → fillS e z es ps' = some es' → EsR ψ w S m A z es vs →
    ∃ vs', Instr.fill (fun i => some (i * z, z)) vs (ps.map fun x => (x.1, a.eval x.2)) = some vs' ∧ EsR ψ w S m A z es' vs'
  | [], ps', es, es', vs, h1, h2, h3 => by
    simp only [cElems] at h1
    cases h1
    simp only [fillS] at h2
    cases h2
    exact ⟨vs, rfl, h3⟩
  | (i, x) :: r, ps', es, es', vs, h1, h2, h3 => by
    simp only [cElems, Option.bind_eq_bind, Option.bind_eq_some_iff] at h1
    obtain ⟨y, hy, ys, hys, h1⟩ := h1
    cases h1
    simp only [fillS] at h2
    split at h2
    · rename_i hc
      obtain ⟨c1, c2, c3⟩ := hc
      have hx := cx.opd hy
      obtain ⟨q1, _, _⟩ := hx.cells c3
      obtain ⟨vs', h4, h5⟩ := fillS_run cx z r ys _ es' _ hys h2 (h3.fill hx c3 c2 c1)
      refine ⟨vs', ?_, h5⟩
      simp only [List.map_cons, Instr.fill]
      have hb := Nat.mul_le_mul_right z (show i + 1 ≤ es.length from c2)
      rw [Nat.add_mul, Nat.one_mul] at hb
      rw [if_neg (by rw [h3.size]; simp; omega)]
      exact h4
    · cases h2

theorem zeros_EsR {z : List AV} {zc : Array Value} (h1 : zc.size = z.length) (h3 : ∀ (j : Nat) (x : AV), z[j]? = some x → x.cell = true)
    (h4 : ∀ (j : Nat) (x : AV), z[j]? = some x → VR ψ w S m A x (zc.getD j Go.undef)) (len : Nat) :
    EsR ψ w S m A z.length (List.replicate len z) ((Array.range (len * z.length)).map (zc[· % zc.size]!)) := by
  refine ⟨by simp, fun k e he => ?_, fun k e j x he hx => ?_⟩
  · rw [List.getElem?_replicate] at he
    split at he
    · cases he; rfl
    · cases he
  · rw [List.getElem?_replicate] at he
    split at he
    · rename_i hk
      cases he
      have hj : j < z.length := (List.getElem?_eq_some_iff.1 hx).1
      have hlt := row_lt hk hj
      refine ⟨h3 j x hx, ?_⟩
      have : ((Array.range (len * z.length)).map (zc[· % zc.size]!)).getD (k * z.length + j) Go.undef = zc.getD j Go.undef := by
        rw [Array.getD_eq_getD_getElem?]
        simp only [Array.getElem?_map, Array.getElem?_range, hlt, if_true, Option.map_some, Option.getD_some]
        rw [h1, Nat.mul_comm, Nat.mul_add_mod, Nat.mod_eq_of_lt hj]
        rw [Array.getD_eq_getD_getElem?]
        have hj' : j < zc.size := by omega
        simp [hj']
      rw [this]
      exact h4 j x hx
    · cases he

/-- A new slice. -/
theorem Snd.newSl {x : Sem Next} {w' : World} (i : Inv ψ N w0 w S m A h) {nid : Nat} (hn : ¬ A nid) {len cap : Nat} (hr : x.run P w = .ok (.value (.slice (some ⟨w.heap.size, 0, none⟩) len cap)) w')
    {c : Array Value} {t : TypeId} (hh : w'.heap = w.heap.push (.cells c t (0, 0))) (ho : w'.os = w.os) (ht : w'.output = w.output) {z : Nat} {es : List (List AV)} {cs : Array Value} (he : EsR ψ w S m A z es cs)
    (hc : ∀ q, q < cs.size → c[q]? = cs[q]?) (hcs : cs.size ≤ c.size) {len' cap' : Nat} {ex : Bool} (hl : len' = len) (hlc : len ≤ cap) (hcap : cap' ≤ cap) (hex : ex = true → cap = cap') (hsz : cap * z ≤ c.size) :
    Snd P ψ N w0 w S m A x (put h nid (.cells z es true)) (.sl nid z 0 len' cap' ex) nid := by
  subst hl
  refine Snd.newCells i hn hr hh ho ht z es he.wide (by rw [← he.size]; exact hcs) (fun k e j x hk hx => ?_) (fun {w' m' A'} hm hA hb => ?_)
  · obtain ⟨h1, u, h2, h3⟩ := he.at_ hk hx
    exact ⟨h1, u, by rw [hc _ ((Array.getElem?_eq_some_iff.1 h2).1)]; exact h2, h3⟩
  · have := VR.sl (ψ := ψ) (w := w') (S := S) (m := m') (A := A') nid z 0 len' cap' ex cap hA (by rw [hm]) hlc hcap hex ⟨c, t, (0, 0), by rw [hm]; exact hb, by rw [Nat.zero_add]; exact hsz⟩
    rw [hm] at this
    simpa using this

theorem buildS_snd (cx : Cx P φ ψ N w0 w S m A h e a) {o : Oper} {t : TypeId} {len : Nat} {ps : Array (Nat × Operand)} (ho : o.op = .buildSlice t len ps) {cop : COp} (hc : cOp P φ (.buildSlice t len ps) = some cop)
    {v : AV} {u : Upd} {nid : Nat} (hn : ¬ A nid) (hs : stepOp cop e h nid = some (v, u)) : Snd P ψ N w0 w S m A (execOp a.eval o) (applyUpd h u) v nid := by
  simp only [cOp, Option.bind_eq_bind, Option.bind_eq_some_iff] at hc
  obtain ⟨d, hd, hc⟩ := hc
  split at hc
  · rename_i el
    simp only [Option.bind_eq_some_iff] at hc
    obtain ⟨z, hz, hc⟩ := hc
    split at hc
    · cases hc
    · rename_i hsm
      simp only [Option.bind_eq_some_iff] at hc
      obtain ⟨ps', hp, hc⟩ := hc
      cases hc
      obtain ⟨it, zv, hit, hzv, z1, z2, z3, z4⟩ := zeroCells_some (ψ := ψ) (w := w) (S := S) (m := m) (A := A) hz
      simp only [stepOp, sBuildS] at hs
      obtain ⟨es', h1, h2⟩ := om_some hs
      cases h2
      obtain ⟨vs', h3, h4⟩ := fillS_run cx z.length ps.toList ps' _ es' _ hp h1 (zeros_EsR z1 z3 z4 len)
      have hlen : es'.length = len := by
        have : ∀ (ps : List (Nat × Opd)) (es es' : List (List AV)), fillS e z.length es ps = some es' → es'.length = es.length := by
          intro ps
          induction ps with
          | nil => intro es es' hf; simp only [fillS] at hf; cases hf; rfl
          | cons p r ih =>
            intro es es' hf
            obtain ⟨i, x⟩ := p
            simp only [fillS] at hf
            split at hf
            · rw [ih _ _ hf]; simp
            · cases hf
        rw [this _ _ _ h1]; simp
      by_cases hl0 : len = 0
      · subst hl0
        have hes : es' = [] := List.eq_nil_of_length_eq_zero hlen
        subst hes
        have hv0 : vs' = #[] := by
          have := h4.size
          simp at this
          exact this
        subst hv0
        have hpe : ps.toList.map (fun x => (x.1, a.eval x.2)) = (ps.map fun x => (x.1, a.eval x.2)).toList := by simp
        refine Snd.newSl (w' := w.alloc (.cells #[] el)) (c := #[]) (t := el) (cs := #[]) cx.inv hn (len := 0) (cap := 0) ?_ rfl rfl rfl h4 (by simp) (by simp) rfl (by simp) (by simp) (by simp) (by simp)
        simp only [execOp, ho, Sem.run_bind]
        have h3' : Instr.fill (fun i => some (i * it.size, it.size)) #[] (ps.toList.map fun x => (x.1, a.eval x.2)) = some #[] := by
          have hr0 : Array.range 0 = #[] := rfl
          rw [z2]
          rw [Nat.zero_mul, hr0, Array.map_empty] at h3
          exact h3
        have hr0 : Array.range 0 = #[] := rfl
        simp only [Instr.buildSlice, run_underlying hd, Sem.run_bind, Result.andThen_ok, sizeOf, typeInfo, hit, run_program, Sem.run_pure, Nat.zero_mul]
        simp [hr0, h3', Go.newRow]
      · have hpe : ps.toList.map (fun x => (x.1, a.eval x.2)) = (ps.map fun x => (x.1, a.eval x.2)).toList := by simp
        have hzz : z.length ≠ 0 := fun hz0 => hsm (.inl hz0)
        have hne : len * z.length ≠ 0 := Nat.mul_ne_zero hl0 hzz
        have hr := run_buildSlice (P := P) w t el len (ps.map fun x => (x.1, a.eval x.2)) vs' it zv hd hit hzv (by rw [z2]; exact fun hg => hsm (.inr hg)) (by rw [z2]; exact hne)
          (by rw [z2, ← hpe]; exact h3)
        refine Snd.newSl (w' := w.alloc (.cells vs' el)) (c := vs') (t := el) (cs := vs') cx.inv hn (len := len) (cap := len) ?_ rfl rfl rfl h4 (fun _ _ => rfl) (Nat.le_refl _) rfl (Nat.le_refl _) (Nat.le_refl _) (fun _ => rfl) (by rw [h4.size, hlen]; exact Nat.le_refl _)
        simp only [execOp, ho, Sem.run_bind]
        rw [hr]
        rfl
  · cases hc

end
end Go.Pav
