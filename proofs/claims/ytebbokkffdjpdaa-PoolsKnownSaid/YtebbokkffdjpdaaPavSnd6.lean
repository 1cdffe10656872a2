/- Soundness: comparison, arithmetic, functions, addresses, lengths. -/
import Derived.Test.YtebbokkffdjpdaaPavSnd5
import Derived.Laws.Unary
namespace Go.Pav
open Go

section
variable {P : Program} {φ : FuncId → Option Nat} {ψ : Nat → FuncId} {N : Nat} {w0 w : World} {S : Nat → Prop} {m : Nat → Nat × Nat} {A : Nat → Prop} {h : Heap} {e : Env} {a : Act} {o : Oper}

theorem eqv_fin (cx : Cx P φ ψ N w0 w S m A h e a) {op : BinOp} {t t' : TypeId} {X Y : Operand} (ho : o.op = .binOp op t X Y t') {x y : Opd} {kd : Nat} {ks : List Nat} {cop : COp} (hc : cEq kd ks op x y = some cop)
    {v : AV} {u : Upd} {nid : Nat} (hs : stepOp cop e h nid = some (v, u))
    (hr : ∀ b, eqVals kd ks (x.ev e) (y.ev e) = some b → (Op.equalIn 10000 t (a.eval X) (a.eval Y)).run P w = .ok b w ∧ (eqGuard op t X Y (a.eval X) (a.eval Y)).run P w = .ok () w)
    (hform : binOp .eql t (a.eval X) (a.eval Y) = (do pure (.bool (← Op.equal t (a.eval X) (a.eval Y)))) ∧
      binOp .neq t (a.eval X) (a.eval Y) = (do pure (.bool (!(← Op.equal t (a.eval X) (a.eval Y)))))) : Snd P ψ N w0 w S m A (execOp a.eval o) (applyUpd h u) v nid := by
  have fin : ∀ ne, cop = .eqv kd ks ne x y → (op = if ne then .neq else .eql) → Snd P ψ N w0 w S m A (execOp a.eval o) (applyUpd h u) v nid := by
    intro ne hcop hop
    subst hcop
    simp only [stepOp, sEqv] at hs
    obtain ⟨b, h1, h2⟩ := om_some hs
    cases h2
    obtain ⟨h3, h4⟩ := hr b h1
    refine Snd.quiet (cv := .bool (b != ne)) cx.inv ?_ (.bool _) nid
    have he : (Op.equal t (a.eval X) (a.eval Y)).run P w = .ok b w := h3
    simp only [execOp, ho, Sem.run_bind, h4, Result.andThen_ok]
    cases ne
    · simp only [Bool.false_eq_true, if_false] at hop
      subst hop
      rw [hform.1]
      simp [he]
    · simp only [if_true] at hop
      subst hop
      rw [hform.2]
      simp [he]
  unfold cEq at hc
  split at hc
  · cases hc; exact fin false rfl rfl
  · cases hc; exact fin true rfl rfl
  · cases hc

/-- Two values that are no numbers and no strings are compared by 'equal'. -/
theorem binOp_form {x y : Value} (t : TypeId) (hx : (∀ k n, x ≠ .int k n) ∧ (∀ k n, x ≠ .float k n) ∧ (∀ k n l, x ≠ .complex k n l) ∧ ∀ s, x ≠ .string s) :
    binOp .eql t x y = (do pure (.bool (← Op.equal t x y))) ∧ binOp .neq t x y = (do pure (.bool (!(← Op.equal t x y)))) := by
  obtain ⟨h1, h2, h3, h4⟩ := hx
  cases x <;> first
    | exact absurd rfl (h1 _ _)
    | exact absurd rfl (h2 _ _)
    | exact absurd rfl (h3 _ _ _)
    | exact absurd rfl (h4 _)
    | (constructor <;> cases y <;> rfl)

theorem VR.form {x : AV} {c : Value} (hx : VR ψ w S m A x c) (hn : (∀ k n, x ≠ .int k n) ∧ (∀ s, x ≠ .str s) ∧ x ≠ .undef) :
    (∀ k n, c ≠ .int k n) ∧ (∀ k n, c ≠ .float k n) ∧ (∀ k n l, c ≠ .complex k n l) ∧ ∀ s, c ≠ .string s := by
  cases hx <;> simp_all

theorem eqVals_form {kd : Nat} {ks : List Nat} {x y : AV} {b : Bool} (hb : eqVals kd ks x y = some b) : (∀ k n, x ≠ .int k n) ∧ (∀ s, x ≠ .str s) ∧ x ≠ .undef := by
  unfold eqVals at hb
  split at hb
  · unfold eqSl at hb; split at hb <;> simp_all
  · split at hb
    · unfold eqFn at hb; split at hb <;> simp_all
    · split at hb
      · unfold eqPtr at hb; split at hb <;> simp_all
      · split at hb
        · unfold eqMap at hb; split at hb <;> simp_all
        · split at hb
          · unfold eqAgg at hb; split at hb <;> simp_all
          · unfold eqBool at hb; split at hb <;> simp_all

theorem eqv_go (cx : Cx P φ ψ N w0 w S m A h e a) {op : BinOp} {t t' : TypeId} {X Y : Operand} (ho : o.op = .binOp op t X Y t') {x y : Opd} (hx : cOpd φ X = some x) {kd : Nat} {ks : List Nat} {cop : COp} (hc : cEq kd ks op x y = some cop)
    {v : AV} {u : Upd} {nid : Nat} (hs : stepOp cop e h nid = some (v, u))
    (hr : ∀ b, eqVals kd ks (x.ev e) (y.ev e) = some b → (Op.equalIn 10000 t (a.eval X) (a.eval Y)).run P w = .ok b w ∧ (eqGuard op t X Y (a.eval X) (a.eval Y)).run P w = .ok () w) : Snd P ψ N w0 w S m A (execOp a.eval o) (applyUpd h u) v nid := by
  have hsome : ∃ b, eqVals kd ks (x.ev e) (y.ev e) = some b := by
    unfold cEq at hc
    split at hc
    · cases hc; simp only [stepOp, sEqv] at hs; obtain ⟨b, h1, _⟩ := om_some hs; exact ⟨b, h1⟩
    · cases hc; simp only [stepOp, sEqv] at hs; obtain ⟨b, h1, _⟩ := om_some hs; exact ⟨b, h1⟩
    · cases hc
  obtain ⟨b, hb⟩ := hsome
  exact eqv_fin cx ho hc hs hr (binOp_form t ((cx.opd hx).form (eqVals_form hb)))

theorem bin_ok (cx : Cx P φ ψ N w0 w S m A h e a) {op : BinOp} {t t' : TypeId} {X Y : Operand} (ho : o.op = .binOp op t X Y t') : Ok P φ ψ N w0 w S m A h e a o := by
  intro cop v u nid hc hs hn
  rw [ho] at hc
  simp only [cOp, Option.bind_eq_bind, Option.bind_eq_some_iff] at hc
  obtain ⟨x, hx, y, hy, d, hd, hc⟩ := hc
  have hX := cx.opd hx
  have hY := cx.opd hy
  have plain : cop = .bin op x y → Snd P ψ N w0 w S m A (execOp a.eval o) (applyUpd h u) v nid := by
    intro hcop
    subst hcop
    simp only [stepOp, sBin] at hs
    obtain ⟨h1, rfl⟩ := ov_some hs
    obtain ⟨cv, h2, h3⟩ := evBin_run (P := P) (t := t) h1 hX hY X Y
    refine Snd.val cx.inv ?_ h2 h3 nid
    simp [execOp, ho]
  split at hc
  · cases hc; exact plain rfl
  · cases hc; exact plain rfl
  · refine eqv_go cx ho hx hc hs fun b hb => ?_
    obtain ⟨h1, h2⟩ := eqSl_run (P := P) (by simpa [eqVals] using hb) hX hY hd 9999
    exact ⟨h1, by rw [h2]; rfl⟩
  · refine eqv_go cx ho hx hc hs fun b hb => ?_
    obtain ⟨h1, h2⟩ := eqFn_run (P := P) (by simpa [eqVals] using hb) hX hY hd 9999
    exact ⟨h1, by rw [h2]; rfl⟩
  · refine eqv_go cx ho hx hc hs fun b hb => ?_
    obtain ⟨h1, h2⟩ := eqPtr_run (P := P) (by simpa [eqVals] using hb) hX hY hd 9999
    exact ⟨h1, by rw [h2]; rfl⟩
  · refine eqv_go cx ho hx hc hs fun b hb => ?_
    obtain ⟨h1, h2⟩ := eqMap_run (P := P) (by simpa [eqVals] using hb) hX hY hd 9999
    exact ⟨h1, by rw [h2]; rfl⟩
  · refine eqv_go cx ho hx hc hs fun b hb => ?_
    obtain ⟨h1, h2⟩ := eqBool_run (P := P) (by simpa [eqVals] using hb) hX hY hd 9999
    exact ⟨h1, by rw [h2]; rfl⟩
  · rename_i fs
    simp only [Option.bind_eq_some_iff] at hc
    obtain ⟨ks, hks, hc⟩ := hc
    split at hc
    · rename_i hg
      obtain ⟨g1, g2⟩ := hg
      refine eqv_go cx ho hx hc hs fun b hb => ?_
      have hb' : eqAgg ks (x.ev e) (y.ev e) = some b := by simpa [eqVals] using hb
      unfold eqAgg at hb'
      split at hb'
      · rename_i xs ys ex ey
        rw [ex] at hX
        rw [ey] at hY
        obtain ⟨vx, e1, n1, c1, r1⟩ := hX.inv_agg
        obtain ⟨vy, e2, n2, c2, r2⟩ := hY.inv_agg
        rw [e1, e2]
        have hf : P.fieldsOf t = fs := by unfold Program.fieldsOf; rw [hd]
        constructor
        · have hst := run_equalIn_struct (P := P) w 9999 t vx vy (by rw [hf]; exact hd) g2
          show (Op.equalIn (9999 + 1) t (.agg vx) (.agg vy)).run P w = .ok b w
          rw [hst, hf]
          refine eqCells_run (ψ := ψ) (S := S) (m := m) (A := A) vx vy 9998 fs.toList 0 ks xs ys b hks hb' (fun j v hj => ?_) (fun j v hj => ?_)
          · rw [Nat.zero_add]
            exact ⟨c1 j v hj, by rw [n1]; exact (List.getElem?_eq_some_iff.1 hj).1, r1 j v hj⟩
          · rw [Nat.zero_add]
            exact ⟨c2 j v hj, by rw [n2]; exact (List.getElem?_eq_some_iff.1 hj).1, r2 j v hj⟩
        · exact run_eqGuard_agg w op t X Y vx vy g1
      · cases hb'
    · cases hc
  · cases hc

theorem un_ok (cx : Cx P φ ψ N w0 w S m A h e a) {op : UnOp} {t : TypeId} {X : Operand} (ho : o.op = .unOp op t X) : Ok P φ ψ N w0 w S m A h e a o := by
  intro cop v u nid hc hs hn
  rw [ho] at hc
  simp only [cOp, Option.map_eq_some_iff] at hc
  obtain ⟨x, hx, rfl⟩ := hc
  have hX := cx.opd hx
  simp only [stepOp, sUn] at hs
  obtain ⟨h1, rfl⟩ := ov_some hs
  unfold evUn at h1
  split at h1
  · rename_i k n he
    rw [he] at hX
    have hc := hX.inv_int
    split at h1 <;> cases h1
    · exact Snd.val cx.inv (s := Op.unary .neg (a.eval X)) (by simp [execOp, ho]) (by rw [hc]; simp [Op.unary, Op.intArith]) (.int _ _) nid
    · exact Snd.val cx.inv (s := Op.unary .xor (a.eval X)) (by simp [execOp, ho]) (by rw [hc]; simp [Op.unary, Op.intBits]) (.int _ _) nid
  · rename_i b he
    rw [he] at hX
    have hc := hX.inv_bool
    split at h1 <;> cases h1
    exact Snd.val cx.inv (s := Op.unary .not (a.eval X)) (by simp [execOp, ho]) (by rw [hc]; simp [Op.unary]) (.bool _) nid
  · cases h1

theorem cvt_ok (cx : Cx P φ ψ N w0 w S m A h e a) {t t' : TypeId} {X : Operand} (ho : o.op = .convert t t' X) : Ok P φ ψ N w0 w S m A h e a o := by
  intro cop v u nid hc hs hn
  rw [ho] at hc
  simp only [cOp, Option.bind_eq_bind, Option.bind_eq_some_iff] at hc
  obtain ⟨x, hx, d1, hd1, d2, hd2, hc⟩ := hc
  have hX := cx.opd hx
  split at hc
  · cases hc
    simp only [stepOp, sCvt] at hs
    split at hs
    · rename_i k' n he
      cases hs
      rw [he] at hX
      have hc := hX.inv_int
      refine Snd.val cx.inv (s := convert t t' (a.eval X)) (by simp [execOp, ho]) ?_ (.int _ _) nid
      rw [hc]
      simp [convert, run_underlying hd1, run_underlying hd2, Conv.intToInt]
    · cases hs
  · cases hc
    simp only [stepOp, sCvs] at hs
    split at hs
    · rename_i s he
      cases hs
      rw [he] at hX
      have hc := hX.inv_str
      refine Snd.val cx.inv (s := convert t t' (a.eval X)) (by simp [execOp, ho]) ?_ (.str _) nid
      rw [hc]
      simp [convert, run_underlying hd1, run_underlying hd2]
    · cases hs
  · cases hc

theorem mkfn_ok (cx : Cx P φ ψ N w0 w S m A h e a) {fn : Fn} {first caps : Array Operand} (ho : o.op = .makeFunc fn first caps) : Ok P φ ψ N w0 w S m A h e a o := by
  intro cop v u nid hc hs hn
  rw [ho] at hc
  cases fn <;> simp only [cOp] at hc <;> try (cases hc; done)
  rename_i f
  simp only [Option.bind_eq_bind, Option.bind_eq_some_iff] at hc
  obtain ⟨g, hg, hc⟩ := hc
  split at hc
  · rename_i hf
    simp only [Option.bind_eq_some_iff] at hc
    obtain ⟨ys, hys, hc⟩ := hc
    cases hc
    simp only [stepOp, sMkfn] at hs
    split at hs
    · cases hs
      obtain ⟨hl, hi⟩ := cx.opds hys
      have hfe : first = #[] := Array.eq_empty_of_size_eq_zero hf
      refine Snd.val cx.inv (s := Instr.makeFunc (.func f) (first.map a.eval) (caps.map a.eval)) (cv := .func (.func (ψ g)) #[] (caps.map a.eval)) (by simp [execOp, ho]) ?_ (.fn g _ _ (by simp [hl]) fun j x hj => ?_) nid
      · rw [cx.ids f g hg, hfe]; simp [Instr.makeFunc]
      · simp only [List.getElem?_map, Option.map_eq_some_iff] at hj
        obtain ⟨y, hj, rfl⟩ := hj
        obtain ⟨x, h1, h2⟩ := hi j y hj
        rw [Array.getD_eq_getD_getElem?]
        simp only [Array.getElem?_map, h1, Option.map_some, Option.getD_some]
        exact h2
    · cases hs
  · cases hc

theorem mkmap_ok (cx : Cx P φ ψ N w0 w S m A h e a) {t : TypeId} {r : Option Operand} (ho : o.op = .makeMap t r) : Ok P φ ψ N w0 w S m A h e a o := by
  intro cop v u nid hc hs hn
  rw [ho] at hc
  cases r with
  | some x => simp only [cOp] at hc; cases hc
  | none =>
    simp only [cOp] at hc
    cases hc
    simp only [stepOp, sMkmap] at hs
    cases hs
    have le := Le.push (w := w) (w' := w.alloc (.map #[] 0)) (m := m) (A := A) (obj := .map #[] 0) rfl cx.inv.sb hn (w.heap.size, 0)
    have hnew : (w.alloc (.map #[] 0)).heap[w.heap.size]? = some (.map #[] 0) := by show (w.heap.push _)[_]? = _; simp
    refine ⟨.map (some w.heap.size), w.alloc (.map #[] 0), updM m nid (w.heap.size, 0), addA A nid, .inl ?_, ?_, cx.inv.push (w' := w.alloc (.map #[] 0)) (obj := .map #[] 0) rfl rfl rfl hn 0 (.map []) ?_ rfl, le, fun b hb => hb⟩
    · simp [execOp, ho, Instr.makeMap]
    · have := VR.map (ψ := ψ) (w := w.alloc (.map #[] 0)) (S := S) (m := updM m nid (w.heap.size, 0)) (A := addA A nid) nid (.inr rfl)
      simpa [updM] using this
    · exact ⟨#[], 0, hnew, rfl, fun i k v hi => by simp at hi⟩

theorem range_ok (cx : Cx P φ ψ N w0 w S m A h e a) {t : TypeId} {X : Operand} (ho : o.op = .range t X) : Ok P φ ψ N w0 w S m A h e a o := by
  intro cop v u nid hc hs hn
  rw [ho] at hc
  simp only [cOp, Option.bind_eq_bind, Option.bind_eq_some_iff] at hc
  obtain ⟨x, hx, d, hd, hc⟩ := hc
  have hX := cx.opd hx
  split at hc
  · cases hc
    simp only [stepOp, sRange] at hs
    split at hs
    · rename_i s he
      cases hs
      rw [he] at hX
      have hc := hX.inv_str
      have le := Le.push (w := w) (w' := w.alloc (.stringIter ⟨⟨s⟩⟩ 0)) (m := m) (A := A) (obj := .stringIter ⟨⟨s⟩⟩ 0) rfl cx.inv.sb hn (w.heap.size, 0)
      have hnew : (w.alloc (.stringIter ⟨⟨s⟩⟩ 0)).heap[w.heap.size]? = some (.stringIter ⟨⟨s⟩⟩ 0) := by show (w.heap.push _)[_]? = _; simp
      refine ⟨.pointer (some ⟨w.heap.size, 0, none⟩), w.alloc (.stringIter ⟨⟨s⟩⟩ 0), updM m nid (w.heap.size, 0), addA A nid, .inl ?_, ?_, cx.inv.push (w' := w.alloc (.stringIter ⟨⟨s⟩⟩ 0)) (obj := .stringIter ⟨⟨s⟩⟩ 0) rfl rfl rfl hn 0 (.iter s 0) hnew rfl, le, fun b hb => hb⟩
      · simp [execOp, ho, Instr.range, run_underlying hd, hc]
      · have := VR.ptr (ψ := ψ) (w := w.alloc (.stringIter ⟨⟨s⟩⟩ 0)) (S := S) (m := updM m nid (w.heap.size, 0)) (A := addA A nid) nid 0 0 (.inr rfl)
        simpa [updM] using this
    · cases hs
  · cases hc

theorem ext_ok (cx : Cx P φ ψ N w0 w S m A h e a) {X : Operand} {k : Nat} (ho : o.op = .extract X k) : Ok P φ ψ N w0 w S m A h e a o := by
  intro cop v u nid hc hs hn
  rw [ho] at hc
  simp only [cOp, Option.map_eq_some_iff] at hc
  obtain ⟨x, hx, rfl⟩ := hc
  have hX := cx.opd hx
  simp only [stepOp, sExt] at hs
  split at hs
  · rename_i vs he
    obtain ⟨h1, rfl⟩ := ov_some hs
    rw [he] at hX
    obtain ⟨cs, e1, n1, r1⟩ := hX.inv_tup
    have hk : k < cs.size := by rw [n1]; exact (List.getElem?_eq_some_iff.1 h1).1
    refine Snd.val cx.inv (s := Instr.extract (a.eval X) k) (by simp [execOp, ho]) ?_ (r1 k v h1) nid
    rw [e1]
    simp only [Instr.extract, getElem?_of_getD hk]
    rfl
  · cases hs

theorem mx_run (k : IntKind) (x y : Int) : (Builtin.max2 (.int k x) (.int k y)).run P w = .ok (.int k (if y > x then y else x)) w := rfl

end
end Go.Pav
