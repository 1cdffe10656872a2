/- Soundness: maps, ranges over strings; all operations but calls. -/
import Derived.Test.YtebbokkffdjpdaaPavSndB
set_option linter.unusedSimpArgs false
namespace Go.Pav
open Go

section
variable {P : Program} {φ : FuncId → Option Nat} {ψ : Nat → FuncId} {N : Nat} {w0 w : World} {S : Nat → Prop} {m : Nat → Nat × Nat} {A : Nat → Prop} {h : Heap} {e : Env} {a : Act} {o : Oper}

theorem sameNow_of {x y : AV} {b : Bool} (hb : eqCell x y = some b) {cx cy : Value} (hx : VR ψ w S m A x cx) (hy : VR ψ w S m A y cy) {kd : Nat} {t : TypeId} (ht : keyKind P t = some kd) (hk : keyOk kd x = true) :
    ∃ d, P.underlying t = some d ∧ Instr.sameNow d cx cy = some b := by
  have hkk := keyKind_some ht
  unfold eqCell at hb
  split at hb
  · split at hb
    · rename_i hk'
      subst hk'
      cases hb
      have h0 : kd = 0 := by simpa [keyOk] using hk
      subst h0
      rcases hkk with ⟨k', hk', _⟩ | ⟨_, h⟩ | ⟨_, h⟩
      · cases hx.inv_int; cases hy.inv_int
        exact ⟨_, hk', by simp [Instr.sameNow]⟩
      · cases h
      · cases h
    · cases hb
  · cases hb
    have h0 : kd = 1 := by simpa [keyOk] using hk
    subst h0
    rcases hkk with ⟨k', _, h⟩ | ⟨hk', _⟩ | ⟨_, h⟩
    · cases h
    · cases hx.inv_str; cases hy.inv_str
      refine ⟨_, hk', ?_⟩
      simp only [Instr.sameNow]
      rw [beq_toListBytes, toList_bytes, toList_bytes]
    · cases h
  · cases hb
    have h0 : kd = 2 := by simpa [keyOk] using hk
    subst h0
    rcases hkk with ⟨k', _, h⟩ | ⟨_, h⟩ | ⟨hk', _⟩
    · cases h
    · cases h
    · cases hx.inv_bool; cases hy.inv_bool
      exact ⟨_, hk', by simp [Instr.sameNow]⟩
  · cases hb

/-- The entries of a map. -/
def EntR (ψ : Nat → FuncId) (w : World) (S : Nat → Prop) (m : Nat → Nat × Nat) (A : Nat → Prop) : List (AV × AV) → List MapEntry → Prop
  | [], [] => True
  | (k, v) :: r, x :: s => k.cell = true ∧ VR ψ w S m A k x.key ∧ VR ψ w S m A v x.val ∧ EntR ψ w S m A r s
  | _, _ => False

theorem EntR.of : ∀ (es : List (AV × AV)) (xs : List MapEntry), xs.length = es.length → (∀ (i : Nat) (k v : AV), es[i]? = some (k, v) → k.cell = true ∧ ∃ x, xs[i]? = some x ∧ VR ψ w S m A k x.key ∧ VR ψ w S m A v x.val) → EntR ψ w S m A es xs
  | [], [], _, _ => trivial
  | [], _ :: _, h, _ => by simp at h
  | _ :: _, [], h, _ => by simp at h
  | (k, v) :: r, x :: s, h1, h2 => by
    obtain ⟨q1, x', q2, q3, q4⟩ := h2 0 k v (by simp)
    simp at q2
    subst q2
    refine ⟨q1, q3, q4, EntR.of r s (by simpa using h1) fun i k v hi => ?_⟩
    obtain ⟨r1, x', r2, r3⟩ := h2 (i + 1) k v (by simpa using hi)
    exact ⟨r1, x', by simpa using r2, r3⟩

theorem EntR.to : ∀ (es : List (AV × AV)) (xs : List MapEntry), EntR ψ w S m A es xs → xs.length = es.length ∧ ∀ (i : Nat) (k v : AV), es[i]? = some (k, v) → k.cell = true ∧ ∃ x, xs[i]? = some x ∧ VR ψ w S m A k x.key ∧ VR ψ w S m A v x.val
  | [], [], _ => ⟨rfl, fun i k v hi => by simp at hi⟩
  | [], _ :: _, h => h.elim
  | _ :: _, [], h => h.elim
  | (k, v) :: r, x :: s, h => by
    obtain ⟨h1, h2, h3, h4⟩ := h
    obtain ⟨q1, q2⟩ := EntR.to r s h4
    refine ⟨by simp [q1], fun i k' v' hi => ?_⟩
    cases i with
    | zero =>
      simp at hi
      obtain ⟨rfl, rfl⟩ := hi
      exact ⟨h1, x, by simp, h2, h3⟩
    | succ i =>
      obtain ⟨r1, x', r2, r3⟩ := q2 i k' v' (by simpa using hi)
      exact ⟨r1, x', by simpa using r2, r3⟩

theorem mapGet_run {kd : Nat} {t : TypeId} {d : TypeDesc} (ht : keyKind P t = some kd) (hd : P.underlying t = some d) {x : AV} {cx : Value} (hx : VR ψ w S m A x cx) (hk : keyOk kd x = true) :
    ∀ (es : List (AV × AV)) (xs : List MapEntry) (k : Nat) (r : Option AV), EntR ψ w S m A es xs → mapGet es x = some r →
      ∃ q, Instr.findNow d cx xs k = some q ∧ (match r, q with | none, none => True | some v, some (_, c) => VR ψ w S m A v c | _, _ => False)
  | [], [], k, r, _, h => by simp only [mapGet] at h; cases h; exact ⟨none, rfl, trivial⟩
  | [], _ :: _, _, _, h, _ => h.elim
  | _ :: _, [], _, _, h, _ => h.elim
  | (ky, v) :: es, y :: xs, k, r, h1, h2 => by
    obtain ⟨_, c2, c3, c4⟩ := h1
    simp only [mapGet] at h2
    obtain ⟨b, hb, h2⟩ := ob_some h2
    obtain ⟨d', hd', hs⟩ := sameNow_of (P := P) hb hx c2 ht hk
    rw [hd] at hd'
    cases hd'
    cases b with
    | true =>
      simp only [if_true, Option.some.injEq] at h2
      subst h2
      exact ⟨some (k, y.val), by simp only [Instr.findNow, hs], c3⟩
    | false =>
      simp only [Bool.false_eq_true, if_false] at h2
      obtain ⟨q, q1, q2⟩ := mapGet_run ht hd hx hk es xs (k + 1) r c4 h2
      exact ⟨q, by simp only [Instr.findNow, hs]; exact q1, q2⟩

theorem checkKey_run {kd : Nat} {t : TypeId} (ht : keyKind P t = some kd) (emp : Bool) (v : Value) (n : Nat) : (Instr.checkKey emp (n + 1) t v).run P w = .ok () w := by
  rcases keyKind_some ht with ⟨k', hk', _⟩ | ⟨hk', _⟩ | ⟨hk', _⟩ <;> simp [Instr.checkKey, run_underlying hk']

theorem look_ok (cx : Cx P φ ψ N w0 w S m A h e a) {t : TypeId} {M K : Operand} {ok : Bool} (ho : o.op = .lookup t M K ok) : Ok P φ ψ N w0 w S m A h e a o := by
  intro cop v u nid hc hs hn
  rw [ho] at hc
  simp only [cOp, Option.bind_eq_bind, Option.bind_eq_some_iff] at hc
  obtain ⟨mm, hm, k, hk, d, hd, hc⟩ := hc
  have hM := cx.opd hm
  have hK := cx.opd hk
  split at hc
  · rename_i kt et
    simp only [Option.bind_eq_some_iff, Option.some.injEq] at hc
    obtain ⟨it, hit, zc, hzc, z, hz, kd, hkd, rfl⟩ := hc
    have hZ : VR ψ w S m A z zc := avOf_vr hz
    obtain ⟨dk, hdk⟩ : ∃ dk, P.underlying kt = some dk := by
      rcases keyKind_some hkd with ⟨k', hk', _⟩ | ⟨hk', _⟩ | ⟨hk', _⟩ <;> exact ⟨_, hk'⟩
    have hex : execOp a.eval o = (do pure (.value (← Instr.lookup t (a.eval M) (a.eval K) ok))) := by simp [execOp, ho]
    have fin : ∀ (r : Option AV) (es : Array MapEntry), ((a.eval M = .map none ∧ es = #[]) ∨ ∃ g clock, a.eval M = .map (some g) ∧ w.heap[g]? = some (.map es clock)) →
        (∃ q, Instr.findNow dk (a.eval K) es.toList 0 = some q ∧ (match r, q with | none, none => True | some v, some (_, c) => VR ψ w S m A v c | _, _ => False)) →
        ∃ cv, (Instr.lookup t (a.eval M) (a.eval K) ok).run P w = .ok cv w ∧ VR ψ w S m A (found z ok r) cv := by
      intro r es hes hq
      obtain ⟨q, q1, q2⟩ := hq
      have hfk : (Instr.findKey kt (a.eval K) es.toList).run P w = .ok q w := by
        unfold Instr.findKey
        rw [Sem.run_bind, run_underlying hdk]
        simp only [Result.andThen_ok, q1, Sem.run_pure]
      have hrun : ∀ (f : Option (Nat × Value) → Sem Value), f = (fun r => do
          let (v, ok') ← match r with
            | some (_, v) => pure (v, true)
            | none => pure (← zeroValue et, false)
          pure (if ok then .tuple #[v, .bool ok'] else v)) → (Instr.lookup t (a.eval M) (a.eval K) ok).run P w = (f q).run P w := by
        intro f hf
        subst hf
        unfold Instr.lookup
        simp only [Sem.run_bind, run_underlying hd, Result.andThen_ok]
        rcases hes with ⟨e1, e2⟩ | ⟨g, clock, e1, e2⟩
        · subst e2
          rw [e1]
          simp only [Sem.run_pure, Result.andThen_ok, checkKey_run hkd, Sem.run_bind, hfk]
          cases q <;> rfl
        · rw [e1]
          simp only [Sem.run_bind, run_getObj_map w _ _ _ e2, Sem.run_pure, Result.andThen_ok, checkKey_run hkd, hfk]
          cases q <;> rfl
      rw [hrun _ rfl]
      simp only [Sem.run_bind]
      cases r with
      | none =>
        cases q with
        | some q => exact q2.elim
        | none =>
          simp only [Sem.run_bind, zeroValue, typeInfo, run_program, Result.andThen_ok, hit, hzc, Sem.run_pure]
          cases ok
          · exact ⟨zc, rfl, hZ⟩
          · refine ⟨.tuple #[zc, .bool false], rfl, .tup _ _ rfl fun j y hj => ?_⟩
            cases j with
            | zero => simp at hj; subst hj; exact hZ
            | succ j => cases j with
              | zero => simp at hj; subst hj; exact .bool _
              | succ j => simp at hj
      | some rv =>
        cases q with
        | none => exact q2.elim
        | some q =>
          obtain ⟨qi, qv⟩ := q
          simp only [Sem.run_pure, Result.andThen_ok]
          cases ok
          · exact ⟨qv, rfl, q2⟩
          · refine ⟨.tuple #[qv, .bool true], rfl, .tup _ _ rfl fun j y hj => ?_⟩
            cases j with
            | zero => simp at hj; subst hj; exact q2
            | succ j => cases j with
              | zero => simp at hj; subst hj; exact .bool _
              | succ j => simp at hj
    simp only [stepOp, sLook] at hs
    split at hs
    · rename_i hko
      split at hs
      · rename_i em
        cases hs
        rw [em] at hM
        have e1 := hM.inv_nilm
        obtain ⟨cv, q1, q2⟩ := fin none #[] (.inl ⟨e1, rfl⟩) ⟨none, rfl, trivial⟩
        exact Snd.val cx.inv hex q1 q2 nid
      · rename_i b em
        obtain ⟨h1, rfl⟩ := ov_some hs
        unfold lookIn at h1
        split at h1
        · rename_i es hg
          obtain ⟨r, hr, rfl⟩ := om_some h1
          rw [em] at hM
          obtain ⟨hA, e1⟩ := hM.inv_map
          obtain ⟨es', clock, q1, q2, q3⟩ := cx.inv.obj b _ hg
          have hent : EntR ψ w S m A es es'.toList := EntR.of es es'.toList (by simpa using q2) (fun i k v hi => by
            obtain ⟨c1, x, c2, c3⟩ := q3 i k v hi
            exact ⟨c1, x, by simpa using c2, c3⟩)
          obtain ⟨cv, q4, q5⟩ := fin r es' (.inr ⟨_, clock, e1, q1⟩) (mapGet_run hkd hdk hK hko es es'.toList 0 r hent hr)
          exact Snd.val cx.inv hex q4 q5 nid
        · cases h1
      · cases hs
    · cases hs
  · cases hc

theorem next_ok (cx : Cx P φ ψ N w0 w S m A h e a) {X : Operand} (ho : o.op = .next X true) : Ok P φ ψ N w0 w S m A h e a o := by
  intro cop v u nid hc hs hn
  rw [ho] at hc
  simp only [cOp, Option.map_eq_some_iff] at hc
  obtain ⟨x, hx, rfl⟩ := hc
  have hX := cx.opd hx
  simp only [stepOp, sNext] at hs
  split at hs
  · rename_i b ex
    rw [ex] at hX
    obtain ⟨hA, e1⟩ := hX.inv_ptr
    simp only [Nat.zero_mul, Nat.add_zero] at e1
    unfold nextIter at hs
    split at hs
    · rename_i s pos hg
      have hobj : w.heap[(m b).1]? = some (.stringIter ⟨⟨s⟩⟩ pos) := cx.inv.obj b _ hg
      have hget : (getObj (m b).1).run P w = .ok (.stringIter ⟨⟨s⟩⟩ pos) w := by simp [getObj, Sem.run, hobj]
      have hsz : (⟨⟨s⟩⟩ : ByteArray).size = s.length := rfl
      split at hs
      · rename_i hpos
        cases hs
        have hset : ∀ o', (setObj (m b).1 o').run P w = .ok () { w with heap := w.heap.setIfInBounds (m b).1 o' } := by intro o'; simp [setObj, Sem.run, hobj]
        have hlt : (m b).1 < w.heap.size := (Array.getElem?_eq_some_iff.1 hobj).1
        have hoth : ∀ o' c, c ≠ (m b).1 → (w.heap.setIfInBounds (m b).1 o')[c]? = w.heap[c]? := fun o' c hc => by rw [Array.getElem?_setIfInBounds_ne (Ne.symm hc)]
        refine ⟨.tuple #[.bool true, goInt pos, .int .i32 (Utf8.decode ⟨⟨s⟩⟩ pos).1], _, m, A, .inl ?_, ?_, cx.inv.write hg rfl rfl (w' := { w with heap := w.heap.setIfInBounds (m b).1 (.stringIter ⟨⟨s⟩⟩ (pos + (Utf8.decode ⟨⟨s⟩⟩ pos).2)) }) (hoth _) (by simp) rfl rfl ?_ ?_,
          Le.write (cx.inv.live b _ hg rfl).1 (hoth _) (by simp) ?_, fun _ q => .inl q⟩
        · simp only [execOp, ho, Sem.run_bind]
          rw [e1]
          simp only [Instr.next, Sem.run_bind, hget, Result.andThen_ok, hsz]
          rw [if_pos hpos]
          simp only [Sem.run_bind, hset, Result.andThen_ok, Sem.run_pure]
        · refine .tup _ #[.bool true, goInt pos, .int .i32 (Utf8.decode ⟨⟨s⟩⟩ pos).1] rfl fun j y hj => ?_
          match j, hj with
          | 0, hj => simp at hj; subst hj; exact .bool _
          | 1, hj => simp at hj; subst hj; exact .int _ _
          | 2, hj => simp at hj; subst hj; exact .int _ _
          | j + 3, hj => simp at hj
        · intro c t fr hc; rw [hobj] at hc; cases hc
        · show (w.heap.setIfInBounds (m b).1 _)[(m b).1]? = _
          simp [hlt]
        · intro c t fr hc; rw [hobj] at hc; cases hc
      · rename_i hpos
        cases hs
        refine Snd.val cx.inv (s := Instr.next (a.eval X) true o.type) (cv := .tuple #[.bool false]) (by simp [execOp, ho]) ?_ (.tup _ _ rfl fun j y hj => ?_) nid
        · rw [e1]
          simp only [Instr.next, Sem.run_bind, hget, Result.andThen_ok, hsz]
          rw [if_neg hpos]
          rfl
        · cases j with
          | zero => simp at hj; subst hj; exact .bool _
          | succ j => simp at hj
    · cases hs
  · cases hs

theorem same_of_eq {x y : AV} (hb : eqCell x y = some true) {cx cy : Value} (hx : VR ψ w S m A x cx) (hy : VR ψ w S m A y cy) (n : Nat) : Instr.sameBits n cy cx = true := by
  unfold eqCell at hb
  split at hb
  · split at hb
    · rename_i hk
      subst hk
      cases hx.inv_int; cases hy.inv_int
      simp only [Option.some.injEq, beq_iff_eq] at hb
      subst hb
      simp [Instr.sameBits]
    · cases hb
  · cases hx.inv_str; cases hy.inv_str
    simp only [Option.some.injEq, beq_iff_eq] at hb
    subst hb
    simp only [Instr.sameBits]
    rw [beq_toListBytes]
    simp
  · cases hx.inv_bool; cases hy.inv_bool
    simp only [Option.some.injEq, beq_iff_eq] at hb
    subst hb
    simp [Instr.sameBits]
  · cases hb

theorem keyOk_cell {kd : Nat} {x : AV} (hk : keyOk kd x = true) : x.cell = true := by
  cases x <;> simp [keyOk] at hk <;> rfl

theorem mapPut_run {kd : Nat} {t : TypeId} {d : TypeDesc} (ht : keyKind P t = some kd) (hd : P.underlying t = some d) {x : AV} {cx : Value} (hx : VR ψ w S m A x cx) (hk : keyOk kd x = true) {v : AV} {cv : Value} (hv : VR ψ w S m A v cv) :
    ∀ (es es' : List (AV × AV)) (xs : List MapEntry) (k : Nat), EntR ψ w S m A es xs → mapPut es x v = some es' →
      (∃ i old c, Instr.findNow d cx xs k = some (some (k + i, c)) ∧ xs[i]? = some old ∧ Instr.sameBits 10000 old.key cx = true ∧ EntR ψ w S m A es' (xs.modify i fun e => { e with key := cx, val := cv })) ∨
      (Instr.findNow d cx xs k = some none ∧ ∀ born, EntR ψ w S m A es' (xs ++ [{ key := cx, val := cv, born := born }]))
  | [], es', [], k, _, h => by
    simp only [mapPut] at h
    cases h
    exact .inr ⟨rfl, fun born => ⟨keyOk_cell hk, hx, hv, trivial⟩⟩
  | [], _, _ :: _, _, h, _ => h.elim
  | _ :: _, _, [], _, h, _ => h.elim
  | (ky, vy) :: es, es', y :: xs, k, h1, h2 => by
    obtain ⟨c1, c2, c3, c4⟩ := h1
    simp only [mapPut] at h2
    obtain ⟨b, hb, h2⟩ := ob_some h2
    obtain ⟨d', hd', hs⟩ := sameNow_of (P := P) hb hx c2 ht hk
    rw [hd] at hd'
    cases hd'
    cases b with
    | true =>
      simp only [if_true, Option.some.injEq] at h2
      subst h2
      left
      refine ⟨0, y, y.val, by simp only [Instr.findNow, hs, Nat.add_zero], by simp, same_of_eq hb hx c2 10000, ?_⟩
      simp only [List.modify_zero_cons]
      exact ⟨keyOk_cell hk, hx, hv, c4⟩
    | false =>
      simp only [Bool.false_eq_true, if_false] at h2
      obtain ⟨es1, q1, rfl⟩ := om_some h2
      rcases mapPut_run ht hd hx hk hv es es1 xs (k + 1) c4 q1 with ⟨i, old, c, r1, r2, r3, r4⟩ | ⟨r1, r2⟩
      · left
        refine ⟨i + 1, old, c, ?_, by simpa using r2, r3, ?_⟩
        · simp only [Instr.findNow, hs]
          rw [show k + (i + 1) = k + 1 + i by omega]
          exact r1
        · simp only [List.modify_succ_cons]
          exact ⟨c1, c2, c3, r4⟩
      · right
        exact ⟨by simp only [Instr.findNow, hs]; exact r1, fun born => ⟨c1, c2, c3, r2 born⟩⟩

theorem EntR.mono {w' : World} {S' : Nat → Prop} {m' : Nat → Nat × Nat} {A' : Nat → Prop} (le : Le w S m A w' S' m' A') : ∀ (es : List (AV × AV)) (xs : List MapEntry), EntR ψ w S m A es xs → EntR ψ w' S' m' A' es xs
  | [], [], _ => trivial
  | [], _ :: _, h => h.elim
  | _ :: _, [], h => h.elim
  | (_, _) :: r, _ :: s, h => ⟨h.1, h.2.1.mono le, h.2.2.1.mono le, EntR.mono le r s h.2.2.2⟩

theorem upd_ok (cx : Cx P φ ψ N w0 w S m A h e a) {t : TypeId} {M K V : Operand} (ho : o.op = .mapUpdate t M K V ∨ o.op = .insert t M K V) : Ok P φ ψ N w0 w S m A h e a o := by
  intro cop v u nid hc hs hn
  have hc' : cOp P φ (.mapUpdate t M K V) = some cop := by
    rcases ho with ho | ho <;> rw [ho] at hc
    · exact hc
    · simpa only [cOp] using hc
  simp only [cOp, Option.bind_eq_bind, Option.bind_eq_some_iff] at hc'
  obtain ⟨mm, hm, k, hk, vv, hvv, d, hd, hc'⟩ := hc'
  have hM := cx.opd hm
  have hK := cx.opd hk
  have hV := cx.opd hvv
  split at hc'
  · rename_i kt et
    simp only [Option.bind_eq_some_iff, Option.some.injEq] at hc'
    obtain ⟨kd, hkd, rfl⟩ := hc'
    obtain ⟨dk, hdk⟩ : ∃ dk, P.underlying kt = some dk := by
      rcases keyKind_some hkd with ⟨k', hk', _⟩ | ⟨hk', _⟩ | ⟨hk', _⟩ <;> exact ⟨_, hk'⟩
    have hex : ∀ w', (Instr.mapUpdate t (a.eval M) (a.eval K) (a.eval V)).run P w = .ok () w' → (execOp a.eval o).run P w = .ok .skip w' := by
      intro w' hr
      rcases ho with ho | ho <;> simp [execOp, ho, hr]
    simp only [stepOp, sUpd] at hs
    split at hs
    · rename_i hko
      split at hs
      · rename_i b em
        unfold updIn at hs
        split at hs
        · rename_i es hg
          obtain ⟨es1, hp, hs'⟩ := om_some hs
          cases hs'
          rw [em] at hM
          obtain ⟨hA, e1⟩ := hM.inv_map
          obtain ⟨es', clock, q1, q2, q3⟩ := cx.inv.obj b _ hg
          have hlt : (m b).1 < w.heap.size := (Array.getElem?_eq_some_iff.1 q1).1
          have hent : EntR ψ w S m A es es'.toList := EntR.of es es'.toList (by simpa using q2) (fun i k v hi => by
            obtain ⟨c1, x, c2, c3⟩ := q3 i k v hi
            exact ⟨c1, x, by simpa using c2, c3⟩)
          have hoth : ∀ o' c, c ≠ (m b).1 → (w.heap.setIfInBounds (m b).1 o')[c]? = w.heap[c]? := fun o' c hc => by rw [Array.getElem?_setIfInBounds_ne (Ne.symm hc)]
          have fin : ∀ (xs : Array MapEntry) (ck : Nat), (Instr.mapUpdate t (a.eval M) (a.eval K) (a.eval V)).run P w = .ok () { w with heap := w.heap.setIfInBounds (m b).1 (.map xs ck) } → EntR ψ w S m A es1 xs.toList →
              Snd P ψ N w0 w S m A (execOp a.eval o) (applyUpd h [(b, some (.map es1))]) (.tup []) nid := by
            intro xs ck hr he
            have le : Le w S m A { w with heap := w.heap.setIfInBounds (m b).1 (.map xs ck) } S m A := Le.write (cx.inv.live b _ hg rfl).1 (hoth _) (by simp) (fun c t fr hc => by rw [q1] at hc; cases hc)
            refine ⟨Go.undef, _, m, A, .inr ⟨hex _ hr, rfl⟩, .tup [] #[] rfl (by simp), cx.inv.write hg rfl rfl (hoth _) (by simp) rfl rfl (fun c t fr hc => by rw [q1] at hc; cases hc) ?_, le, fun _ q => .inl q⟩
            obtain ⟨l1, l2⟩ := EntR.to es1 xs.toList (EntR.mono le es1 xs.toList he)
            refine ⟨xs, ck, ?_, by simpa using l1, fun i k v hi => ?_⟩
            · show (w.heap.setIfInBounds (m b).1 _)[(m b).1]? = _
              simp [hlt]
            · obtain ⟨c1, x, c2, c3⟩ := l2 i k v hi
              exact ⟨c1, x, by simpa using c2, c3⟩
          have hset : ∀ o', (setObj (m b).1 o').run P w = .ok () { w with heap := w.heap.setIfInBounds (m b).1 o' } := by intro o'; simp [setObj, Sem.run, q1]
          rcases mapPut_run (P := P) hkd hdk hK hko hV es es1 es'.toList 0 hent hp with ⟨i, old, c, r1, r2, r3, r4⟩ | ⟨r1, r2⟩
          · refine fin (es'.modify i fun e => { e with key := a.eval K, val := a.eval V }) clock ?_ (by rw [Array.toList_modify]; exact r4)
            have hfk : (Instr.findKey kt (a.eval K) es'.toList).run P w = .ok (some (i, c)) w := by
              unfold Instr.findKey
              rw [Sem.run_bind, run_underlying hdk]
              simp only [Result.andThen_ok, r1, Sem.run_pure, Nat.zero_add]
            have ho' : es'[i]? = some old := by simpa using r2
            unfold Instr.mapUpdate
            rw [e1]
            simp only [Sem.run_bind, run_underlying hd, Result.andThen_ok, run_getObj_map w _ _ _ q1, checkKey_run hkd, hfk, ho', Option.map_some, Option.getD_some, Instr.keyThatStays, r3, if_true, Sem.run_pure, hset]
          · refine fin (es'.push { key := a.eval K, val := a.eval V, born := clock }) (clock + 1) ?_ (by rw [Array.toList_push]; exact r2 clock)
            have hfk : (Instr.findKey kt (a.eval K) es'.toList).run P w = .ok none w := by
              unfold Instr.findKey
              rw [Sem.run_bind, run_underlying hdk]
              simp only [Result.andThen_ok, r1, Sem.run_pure]
            unfold Instr.mapUpdate
            rw [e1]
            simp only [Sem.run_bind, run_underlying hd, Result.andThen_ok, run_getObj_map w _ _ _ q1, checkKey_run hkd, hfk, hset]
        · cases hs
      · cases hs
    · cases hs
  · cases hc'

/-- Every operation but a call of a function. -/
theorem step_ok (cx : Cx P φ ψ N w0 w S m A h e a) {cop : COp} {v : AV} {u : Upd} {nid : Nat} (hc : cOp P φ o.op = some cop) (hs : stepOp cop e h nid = some (v, u)) (hn : ¬ A nid) :
    Snd P ψ N w0 w S m A (execOp a.eval o) (applyUpd h u) v nid := by
  cases ho : o.op with
  | move x => exact mv_ok cx (.inl ho) cop v u nid hc hs hn
  | assign x => exact mv_ok cx (.inr ho) cop v u nid hc hs hn
  | pick c x y => exact pick_ok cx ho cop v u nid hc hs hn
  | alloc t => exact alloc_ok cx ho cop v u nid hc hs hn
  | box t x => exact box_ok cx ho cop v u nid hc hs hn
  | build t ps => rw [ho] at hc; exact build_snd cx ho hc hs
  | buildSlice t len ps => rw [ho] at hc; exact buildS_snd cx ho hc hn hs
  | load t x => exact load_ok cx ho cop v u nid hc hs hn
  | store t p x => exact store_ok cx ho cop v u nid hc hs hn
  | nilCheck x => exact nilchk_ok cx ho cop v u nid hc hs hn
  | binOp op t X Y t' => exact bin_ok cx ho cop v u nid hc hs hn
  | unOp op t X => exact un_ok cx ho cop v u nid hc hs hn
  | convert t t' X => exact cvt_ok cx ho cop v u nid hc hs hn
  | makeFunc fn f cs => exact mkfn_ok cx ho cop v u nid hc hs hn
  | makeMap t r => exact mkmap_ok cx ho cop v u nid hc hs hn
  | makeSlice t l c => exact mksl_ok cx ho cop v u nid hc hs hn
  | slice t x lo hi mx => exact slice_ok cx ho cop v u nid hc hs hn
  | fieldAddr t x f => exact fld_ok cx ho cop v u nid hc hs hn
  | field t x f => exact fldv_ok cx ho cop v u nid hc hs hn
  | indexAddr t x i => exact idxs_ok cx ho cop v u nid hc hs hn
  | index t x i => exact index_ok cx ho cop v u nid hc hs hn
  | lookup t M K ok => exact look_ok cx ho cop v u nid hc hs hn
  | mapUpdate t M K V => exact upd_ok cx (.inl ho) cop v u nid hc hs hn
  | insert t M K V => exact upd_ok cx (.inr ho) cop v u nid hc hs hn
  | range t X => exact range_ok cx ho cop v u nid hc hs hn
  | next X b =>
    cases b with
    | true => exact next_ok cx ho cop v u nid hc hs hn
    | false => rw [ho] at hc; simp only [cOp] at hc; cases hc
  | extract X k => exact ext_ok cx ho cop v u nid hc hs hn
  | call c =>
    cases hcal : c.callee with
    | builtin b =>
      cases b with
      | len => exact len_ok cx ho hcal cop v u nid hc hs hn
      | cap => exact cap_ok cx ho hcal cop v u nid hc hs hn
      | append => exact app_ok cx ho hcal cop v u nid hc hs hn
      | copy => exact cpy_ok cx ho hcal cop v u nid hc hs hn
      | max => exact mx_ok cx ho (mxx := true) hcal cop v u nid hc hs hn
      | min => exact mx_ok cx ho (mxx := false) hcal cop v u nid hc hs hn
      | _ => rw [ho] at hc; simp only [cOp, hcal, cBuiltin] at hc; cases hc
    | value f =>
      rw [ho] at hc
      cases f with
      | func f =>
        simp only [cOp, hcal, Option.bind_eq_bind, Option.bind_eq_some_iff, Option.some.injEq] at hc
        obtain ⟨_, _, _, _, rfl⟩ := hc
        simp only [stepOp, sNone] at hs
        cases hs
      | _ =>
        simp only [cOp, hcal, Option.bind_eq_bind, Option.bind_eq_some_iff, Option.some.injEq] at hc
        obtain ⟨_, _, _, _, rfl⟩ := hc
        simp only [stepOp, sNone] at hs
        cases hs
    | invoke r n => rw [ho] at hc; simp only [cOp, hcal] at hc; cases hc
  | _ => rw [ho] at hc; simp only [cOp] at hc; cases hc

end
end Go.Pav
