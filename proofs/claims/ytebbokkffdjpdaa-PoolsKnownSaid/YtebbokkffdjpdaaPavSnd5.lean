/- Soundness: the plain operations on values and addresses. -/
import Derived.Test.YtebbokkffdjpdaaPavSnd4
import Derived.Laws.StructEq
namespace Go.Pav
open Go

section
variable {P : Program} {φ : FuncId → Option Nat} {ψ : Nat → FuncId} {N : Nat} {w0 w : World} {S : Nat → Prop} {m : Nat → Nat × Nat} {A : Nat → Prop} {h : Heap} {e : Env} {a : Act} {o : Oper}
  {v : AV} {u : Upd} {nid : Nat}

/-- The claim for one operation. -/
abbrev Ok (P : Program) (φ : FuncId → Option Nat) (ψ : Nat → FuncId) (N : Nat) (w0 w : World) (S : Nat → Prop) (m : Nat → Nat × Nat) (A : Nat → Prop) (h : Heap) (e : Env) (a : Act) (o : Oper) : Prop :=
  ∀ cop v u nid, cOp P φ o.op = some cop → stepOp cop e h nid = some (v, u) → ¬ A nid → Snd P ψ N w0 w S m A (execOp a.eval o) (applyUpd h u) v nid

theorem mv_ok (cx : Cx P φ ψ N w0 w S m A h e a) {x : Operand} (ho : o.op = .move x ∨ o.op = .assign x) : Ok P φ ψ N w0 w S m A h e a o := by
  intro cop v u nid hc hs hn
  have hc' : (cOpd φ x).map COp.mv = some cop := by rcases ho with ho | ho <;> rw [ho] at hc <;> exact hc
  simp only [Option.map_eq_some_iff] at hc'
  obtain ⟨y, hy, rfl⟩ := hc'
  simp only [stepOp, sMv] at hs
  cases hs
  refine Snd.quiet cx.inv ?_ (cx.opd hy) nid
  rcases ho with ho | ho <;> simp [execOp, ho]

theorem pick_ok (cx : Cx P φ ψ N w0 w S m A h e a) {c x y : Operand} (ho : o.op = .pick c x y) : Ok P φ ψ N w0 w S m A h e a o := by
  intro cop v u nid hc hs hn
  rw [ho] at hc
  simp only [cOp, Option.bind_eq_bind, Option.bind_eq_some_iff, Option.some.injEq] at hc
  obtain ⟨c', hc', x', hx', y', hy', rfl⟩ := hc
  simp only [stepOp, sPick] at hs
  split at hs
  · rename_i t ht
    cases hs
    have h1 := cx.opd hc'
    rw [ht] at h1
    have h2 := h1.inv_bool
    refine Snd.quiet (cv := if t then a.eval x else a.eval y) cx.inv ?_ ?_ nid
    · simp only [execOp, ho, h2, asBool, Sem.run_bind, Sem.run_pure, Result.andThen_ok]
    · cases t
      · exact cx.opd hy'
      · exact cx.opd hx'
  · cases hs

theorem alloc_ok (cx : Cx P φ ψ N w0 w S m A h e a) {t : TypeId} (ho : o.op = .alloc t) : Ok P φ ψ N w0 w S m A h e a o := by
  intro cop v u nid hc hs hn
  rw [ho] at hc
  simp only [cOp, Option.map_eq_some_iff] at hc
  obtain ⟨z, hz, rfl⟩ := hc
  simp only [stepOp, sAlloc] at hs
  cases hs
  obtain ⟨it, zv, hit, hzv, z1, z2, z3, z4⟩ := zeroCells_some (ψ := ψ) (w := w) (S := S) (m := m) (A := A) hz
  refine Snd.one (w' := w.alloc (.cells zv.cells t)) (c := zv.cells) (t := t) cx.inv hn ?_ rfl rfl rfl z z1 z3 z4
  simp [execOp, ho, Instr.alloc, zeroValue, typeInfo, hit, hzv, Go.newVar, Go.newRow]

theorem box_ok (cx : Cx P φ ψ N w0 w S m A h e a) {t : TypeId} {x : Operand} (ho : o.op = .box t x) : Ok P φ ψ N w0 w S m A h e a o := by
  intro cop v u nid hc hs hn
  rw [ho] at hc
  simp only [cOp, Option.map_eq_some_iff] at hc
  obtain ⟨y, hy, rfl⟩ := hc
  simp only [stepOp, sBox, boxed] at hs
  split at hs
  · rename_i hall
    cases hs
    obtain ⟨q1, q2, q3⟩ := (cx.opd hy).cells hall
    refine Snd.one (w' := w.alloc (.cells (a.eval x).cells t)) (c := (a.eval x).cells) (t := t) cx.inv hn ?_ rfl rfl rfl _ q1 (fun j y hj => List.all_eq_true.1 hall _ (List.mem_of_getElem? hj)) q2
    simp [execOp, ho, Instr.box, Go.newVar, Go.newRow]
  · cases hs

theorem load_ok (cx : Cx P φ ψ N w0 w S m A h e a) {t : TypeId} {x : Operand} (ho : o.op = .load t x) : Ok P φ ψ N w0 w S m A h e a o := by
  intro cop v u nid hc hs hn
  rw [ho] at hc
  simp only [cOp, Option.bind_eq_bind, Option.bind_eq_some_iff, Option.some.injEq] at hc
  obtain ⟨n, hn', ag, hag, y, hy, rfl⟩ := hc
  simp only [stepOp, sLoad] at hs
  obtain ⟨key, rfl⟩ := ov_some hs
  obtain ⟨cv, h1, h2⟩ := sLoad_run (P := P) cx.inv (cx.opd hy) hn' hag key
  exact Snd.val cx.inv (by simp [execOp, ho]) h1 h2 nid

theorem store_ok (cx : Cx P φ ψ N w0 w S m A h e a) {t : TypeId} {p x : Operand} (ho : o.op = .store t p x) : Ok P φ ψ N w0 w S m A h e a o := by
  intro cop v u nid hc hs hn
  rw [ho] at hc
  simp only [cOp, Option.bind_eq_bind, Option.bind_eq_some_iff, Option.some.injEq] at hc
  obtain ⟨n, hn', y, hy, z, hz, rfl⟩ := hc
  simp only [stepOp, sStore] at hs
  exact sStore_snd cx.inv ho rfl rfl (cx.opd hy) (cx.opd hz) hn' hs nid

theorem nilchk_ok (cx : Cx P φ ψ N w0 w S m A h e a) {x : Operand} (ho : o.op = .nilCheck x) : Ok P φ ψ N w0 w S m A h e a o := by
  intro cop v u nid hc hs hn
  rw [ho] at hc
  simp only [cOp, Option.map_eq_some_iff] at hc
  obtain ⟨y, hy, rfl⟩ := hc
  have hx := cx.opd hy
  simp only [stepOp, sNilchk] at hs
  split at hs
  · rename_i b k off he
    cases hs
    rw [he] at hx
    obtain ⟨_, h2⟩ := hx.inv_ptr
    exact Snd.quiet cx.inv (by simp [execOp, ho, h2]) (h2 ▸ hx) nid
  · rename_i cs he
    cases hs
    rw [he] at hx
    obtain ⟨b, off, vs, h2, _⟩ := hx.inv_rop
    exact Snd.quiet cx.inv (by simp [execOp, ho, h2]) (h2 ▸ hx) nid
  · rename_i f cs he
    cases hs
    rw [he] at hx
    obtain ⟨vs, h2, _⟩ := hx.inv_fn
    exact Snd.quiet cx.inv (by simp [execOp, ho, h2]) (h2 ▸ hx) nid
  · cases hs

theorem eqSl_run {x y : AV} {b : Bool} (hb : eqSl x y = some b) {cx cy : Value} (hx : VR ψ w S m A x cx) (hy : VR ψ w S m A y cy) {t el : TypeId} (ht : P.underlying t = some (.slice el)) (d : Nat) :
    (Op.equalIn (d + 1) t cx cy).run P w = .ok b w ∧ ∀ op X Y, eqGuard op t X Y cx cy = pure () := by
  unfold eqSl at hb
  split at hb <;> cases hb
  · cases hx.inv_nils; cases hy.inv_nils
    exact ⟨by simp [Op.equalIn, run_underlying ht], fun op X Y => eqGuard_at_slice ..⟩
  · cases hx.inv_nils; rcases hy.inv_ro with ⟨b', off, cap, cs, rfl, _⟩ | ⟨_, ad, rfl⟩ <;>
    exact ⟨by simp [Op.equalIn, run_underlying ht], fun op X Y => eqGuard_at_slice ..⟩
  · cases hx.inv_nils; obtain ⟨cc, rfl, _⟩ := hy.inv_sl
    exact ⟨by simp [Op.equalIn, run_underlying ht], fun op X Y => eqGuard_at_slice ..⟩
  · cases hy.inv_nils; rcases hx.inv_ro with ⟨b', off, cap, cs, rfl, _⟩ | ⟨_, ad, rfl⟩ <;>
    exact ⟨by simp [Op.equalIn, run_underlying ht], fun op X Y => eqGuard_at_slice ..⟩
  · cases hy.inv_nils; obtain ⟨cc, rfl, _⟩ := hx.inv_sl
    exact ⟨by simp [Op.equalIn, run_underlying ht], fun op X Y => eqGuard_at_slice ..⟩

theorem eqFn_run {x y : AV} {b : Bool} (hb : eqFn x y = some b) {cx cy : Value} (hx : VR ψ w S m A x cx) (hy : VR ψ w S m A y cy) {t : TypeId} {ps rs : Array TypeId} {vd : Bool} (ht : P.underlying t = some (.func ps rs vd)) (d : Nat) :
    (Op.equalIn (d + 1) t cx cy).run P w = .ok b w ∧ ∀ op X Y, eqGuard op t X Y cx cy = pure () := by
  unfold eqFn at hb
  split at hb <;> cases hb
  · cases hx.inv_nilf; cases hy.inv_nilf
    exact ⟨by simp [Op.equalIn, run_underlying ht], fun op X Y => eqGuard_at_nilFunc ..⟩
  · cases hx.inv_nilf; obtain ⟨vs, rfl, _⟩ := hy.inv_fn
    exact ⟨by simp [Op.equalIn, run_underlying ht], fun op X Y => eqGuard_at_nilFunc ..⟩
  · cases hy.inv_nilf; obtain ⟨vs, rfl, _⟩ := hx.inv_fn
    exact ⟨by simp [Op.equalIn, run_underlying ht], fun op X Y => eqGuard_at_func ..⟩

theorem eqPtr_run {x y : AV} {b : Bool} (hb : eqPtr x y = some b) {cx cy : Value} (hx : VR ψ w S m A x cx) (hy : VR ψ w S m A y cy) {t el : TypeId} (ht : P.underlying t = some (.pointer el)) (d : Nat) :
    (Op.equalIn (d + 1) t cx cy).run P w = .ok b w ∧ ∀ op X Y, eqGuard op t X Y cx cy = pure () := by
  unfold eqPtr at hb
  split at hb <;> cases hb
  · cases hx.inv_nilp; cases hy.inv_nilp
    exact ⟨by simp [Op.equalIn, run_underlying ht], fun op X Y => eqGuard_at_pointer ..⟩
  · cases hx.inv_nilp; obtain ⟨_, rfl⟩ := hy.inv_ptr
    exact ⟨by simp [Op.equalIn, run_underlying ht], fun op X Y => eqGuard_at_pointer ..⟩
  · cases hy.inv_nilp; obtain ⟨_, rfl⟩ := hx.inv_ptr
    exact ⟨by simp [Op.equalIn, run_underlying ht], fun op X Y => eqGuard_at_pointer ..⟩
  · cases hx.inv_nilp; obtain ⟨b', off, vs, rfl, _⟩ := hy.inv_rop
    exact ⟨by simp [Op.equalIn, run_underlying ht], fun op X Y => eqGuard_at_pointer ..⟩
  · cases hy.inv_nilp; obtain ⟨b', off, vs, rfl, _⟩ := hx.inv_rop
    exact ⟨by simp [Op.equalIn, run_underlying ht], fun op X Y => eqGuard_at_pointer ..⟩

theorem eqMap_run {x y : AV} {b : Bool} (hb : eqMap x y = some b) {cx cy : Value} (hx : VR ψ w S m A x cx) (hy : VR ψ w S m A y cy) {t kt el : TypeId} (ht : P.underlying t = some (.map kt el)) (d : Nat) :
    (Op.equalIn (d + 1) t cx cy).run P w = .ok b w ∧ ∀ op X Y, eqGuard op t X Y cx cy = pure () := by
  unfold eqMap at hb
  split at hb <;> cases hb
  · cases hx.inv_nilm; cases hy.inv_nilm
    exact ⟨by simp [Op.equalIn, run_underlying ht], fun op X Y => eqGuard_at_map ..⟩
  · cases hx.inv_nilm; obtain ⟨_, rfl⟩ := hy.inv_map
    exact ⟨by simp [Op.equalIn, run_underlying ht], fun op X Y => eqGuard_at_map ..⟩
  · cases hy.inv_nilm; obtain ⟨_, rfl⟩ := hx.inv_map
    exact ⟨by simp [Op.equalIn, run_underlying ht], fun op X Y => eqGuard_at_map ..⟩

theorem eqBool_run {x y : AV} {b : Bool} (hb : eqBool x y = some b) {cx cy : Value} (hx : VR ψ w S m A x cx) (hy : VR ψ w S m A y cy) {t : TypeId} (ht : P.underlying t = some .bool) (d : Nat) :
    (Op.equalIn (d + 1) t cx cy).run P w = .ok b w ∧ ∀ op X Y, eqGuard op t X Y cx cy = pure () := by
  unfold eqBool at hb
  split at hb
  · cases hb
    cases hx.inv_bool; cases hy.inv_bool
    exact ⟨by simp [Op.equalIn, run_underlying ht], fun op X Y => eqGuard_at_bool ..⟩
  · cases hb

theorem keyKind_some {t : TypeId} {kd : Nat} (ht : keyKind P t = some kd) : (∃ k, P.underlying t = some (.int k) ∧ kd = 0) ∨ (P.underlying t = some .string ∧ kd = 1) ∨ (P.underlying t = some .bool ∧ kd = 2) := by
  unfold keyKind at ht
  split at ht
  · rename_i k hk; cases ht; exact .inl ⟨k, hk, rfl⟩
  · rename_i hk; cases ht; exact .inr (.inl ⟨hk, rfl⟩)
  · rename_i hk; cases ht; exact .inr (.inr ⟨hk, rfl⟩)
  · cases ht

theorem eqCell_run {x y : AV} {b : Bool} (hb : eqCell x y = some b) {cx cy : Value} (hx : VR ψ w S m A x cx) (hy : VR ψ w S m A y cy) {t : TypeId} {kd : Nat} (ht : keyKind P t = some kd) (hk : keyOk kd x = true) (d : Nat) :
    (Op.equalIn (d + 1) t cx cy).run P w = .ok b w := by
  have hkk := keyKind_some ht
  unfold eqCell at hb
  split at hb
  · split at hb
    · rename_i hk'
      subst hk'
      cases hb
      have h0 : kd = 0 := by simpa [keyOk] using hk
      subst h0
      rcases hkk with ⟨k', hk', _⟩ | ⟨_, h⟩ | ⟨_, h⟩
      · cases hx.inv_int; cases hy.inv_int
        exact run_equalIn_int w d t _ k' _ _ hk'
      · cases h
      · cases h
    · cases hb
  · cases hb
    have h0 : kd = 1 := by simpa [keyOk] using hk
    subst h0
    rcases hkk with ⟨k', _, h⟩ | ⟨hk', _⟩ | ⟨_, h⟩
    · cases h
    · cases hx.inv_str; cases hy.inv_str
      rw [run_equalIn_string w d t _ _ hk', toList_bytes, toList_bytes]
    · cases h
  · cases hb
    have h0 : kd = 2 := by simpa [keyOk] using hk
    subst h0
    rcases hkk with ⟨k', _, h⟩ | ⟨_, h⟩ | ⟨hk', _⟩
    · cases h
    · cases h
    · cases hx.inv_bool; cases hy.inv_bool
      exact run_equalIn_bool' w d t _ _ hk'
  · cases hb

theorem eqCells_run (xs ys : Array Value) (d : Nat) : ∀ (fs : List Field) (k : Nat) (ks : List Nat) (x y : List AV) (b : Bool), plainFields P k fs = some ks → eqCells ks x y = some b →
    (∀ (j : Nat) (v : AV), x[j]? = some v → v.cell = true ∧ k + j < xs.size ∧ VR ψ w S m A v (xs.getD (k + j) Go.undef)) → (∀ (j : Nat) (v : AV), y[j]? = some v → v.cell = true ∧ k + j < ys.size ∧ VR ψ w S m A v (ys.getD (k + j) Go.undef)) →
    (Op.eqFields (d + 1) xs ys fs).run P w = .ok b w
  | [], k, ks, x, y, b, h1, h2, _, _ => by
    simp only [plainFields] at h1
    cases h1
    cases x <;> cases y <;> simp only [eqCells] at h2 <;> cases h2
    simp [Op.eqFields]
  | f :: fs, k, ks, x, y, b, h1, h2, h3, h4 => by
    simp only [plainFields] at h1
    split at h1
    · rename_i hc
      obtain ⟨c1, c2, c3⟩ := hc
      simp only [Option.bind_eq_bind, Option.bind_eq_some_iff, Option.some.injEq] at h1
      obtain ⟨kd, hkd, ks', hks, rfl⟩ := h1
      cases x with
      | nil => simp only [eqCells] at h2; cases h2
      | cons vx x =>
        cases y with
        | nil => simp only [eqCells] at h2; cases h2
        | cons vy y =>
          simp only [eqCells] at h2
          split at h2
          · rename_i hko
            obtain ⟨r, hr, h2⟩ := ob_some h2
            obtain ⟨s, hs, h2⟩ := om_some h2
            obtain ⟨x1, x2, x3⟩ := h3 0 vx (by simp)
            obtain ⟨y1, y2, y3⟩ := h4 0 vy (by simp)
            simp only [Nat.add_zero] at x2 x3 y2 y3
            have hq := eqCell_run (P := P) (d := d) hr x3 y3 hkd hko
            have ih := eqCells_run xs ys d fs (k + 1) ks' x y s hks hs (fun j v hj => by have := h3 (j + 1) v (by simpa using hj); rwa [show k + (j + 1) = k + 1 + j by omega] at this)
              (fun j v hj => by have := h4 (j + 1) v (by simpa using hj); rwa [show k + (j + 1) = k + 1 + j by omega] at this)
            have hag : (isAgg f.type).run P w = .ok false w := by
              unfold isAgg
              rcases keyKind_some hkd with ⟨k', hk', _⟩ | ⟨hk', _⟩ | ⟨hk', _⟩ <;> rw [Sem.run_bind, run_underlying hk'] <;> rfl
            have hpart : ∀ (zs : Array Value), k < zs.size → (part f.type zs f.offset).run P w = .ok (zs.getD k Go.undef) w := by
              intro zs hz
              unfold part
              rw [Sem.run_bind, hag]
              simp only [Result.andThen_ok, Bool.false_eq_true, if_false, c1]
              rw [getElem?_of_getD hz]
              rfl
            simp only [Op.eqFields]
            rw [if_pos c2]
            simp only [Sem.run_bind, hpart xs x2, hpart ys y2, Result.andThen_ok, hq]
            cases r
            · simp at h2; subst h2; simp
            · simp at h2; subst h2; simp [ih]
          · cases h2
    · cases h1

end
end Go.Pav
