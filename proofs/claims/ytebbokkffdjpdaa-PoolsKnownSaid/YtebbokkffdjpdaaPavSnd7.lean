/- Soundness: fields, elements, slices, lengths. -/
import Derived.Test.YtebbokkffdjpdaaPavSnd6
namespace Go.Pav
open Go

section
variable {P : Program} {φ : FuncId → Option Nat} {ψ : Nat → FuncId} {N : Nat} {w0 w : World} {S : Nat → Prop} {m : Nat → Nat × Nat} {A : Nat → Prop} {h : Heap} {e : Env} {a : Act} {o : Oper}

theorem VR.rop_drop {cs : List AV} {b off : Nat} (hv : VR ψ w S m A (.rop cs) (.pointer (some ⟨b, off, none⟩))) (k : Nat) : VR ψ w S m A (.rop (cs.drop k)) (.pointer (some ⟨b, off + k, none⟩)) := by
  obtain ⟨b', off', vs, e1, hS, hcell, hrep⟩ := hv.inv_rop
  cases e1
  refine .rop (cs.drop k) b (off + k) (fun j => vs (k + j)) hS (fun j x hx => ?_) (fun j x hx => ?_)
  · rw [List.getElem?_drop] at hx
    obtain ⟨h1, h2⟩ := hcell _ x hx
    exact ⟨h1, by rw [Nat.add_assoc]; exact h2⟩
  · rw [List.getElem?_drop] at hx
    exact hrep _ x hx

theorem VR.ptr_add {b i o : Nat} {c : Value} (hv : VR ψ w S m A (.ptr b i o) c) (k : Nat) : VR ψ w S m A (.ptr b i (o + k)) (.pointer (some ⟨(m b).1, i * (m b).2 + o + k, none⟩)) := by
  obtain ⟨hA, _⟩ := hv.inv_ptr
  have := VR.ptr (ψ := ψ) (w := w) (S := S) (m := m) (A := A) b i (o + k) hA
  rwa [← Nat.add_assoc] at this

theorem fld_ok (cx : Cx P φ ψ N w0 w S m A h e a) {t : TypeId} {X : Operand} {f : Nat} (ho : o.op = .fieldAddr t X f) : Ok P φ ψ N w0 w S m A h e a o := by
  intro cop v u nid hc hs hn
  rw [ho] at hc
  simp only [cOp, Option.bind_eq_bind, Option.bind_eq_some_iff] at hc
  obtain ⟨x, hx, d, hd, hc⟩ := hc
  have hX := cx.opd hx
  split at hc
  · rename_i fs
    simp only [Option.bind_eq_some_iff] at hc
    obtain ⟨fd, hf, n, hn', hc⟩ := hc
    split at hc
    · cases hc
    · rename_i hne
      cases hc
      have run : ∀ b off, a.eval X = .pointer (some ⟨b, off, none⟩) → (Instr.fieldAt t (a.eval X) f).run P w = .ok (.pointer (some ⟨b, off + fd.offset, none⟩)) w := by
        intro b off he
        rw [he]
        simp only [Instr.fieldAt, Sem.run_bind, run_underlying hd, Result.andThen_ok, hf, Instr.sureAddr, Sem.run_pure, fieldPlace, sizeOf_run hn']
        rw [if_neg hne]
        simp [add_row]
      simp only [stepOp, sFld] at hs
      split at hs
      · rename_i cs he
        cases hs
        rw [he] at hX
        obtain ⟨b, off, vs, e1, _⟩ := hX.inv_rop
        refine Snd.val cx.inv (s := Instr.fieldAt t (a.eval X) f) (by simp [execOp, ho]) (run b off e1) ?_ nid
        rw [e1] at hX
        exact hX.rop_drop _
      · rename_i b i o' he
        cases hs
        rw [he] at hX
        obtain ⟨_, e1⟩ := hX.inv_ptr
        exact Snd.val cx.inv (s := Instr.fieldAt t (a.eval X) f) (by simp [execOp, ho]) (run _ _ e1) (hX.ptr_add _) nid
      · cases hs
  · cases hc

/-- A part of an aggregate. -/
theorem part_run {t : TypeId} {n : Nat} {ag : Bool} (hs : sizeT P t = some n) (hag : isAggT P t = some ag) {cs : List AV} {vs : Array Value} (hn : vs.size = cs.length)
    (hcell : ∀ (j : Nat) (x : AV), cs[j]? = some x → x.cell = true) (hr : ∀ (j : Nat) (x : AV), cs[j]? = some x → VR ψ w S m A x (vs.getD j Go.undef)) {off : Nat} {v : AV}
    (hl : loadC n ag (cs.drop off) = some v) : ∃ cv, (part t vs off).run P w = .ok cv w ∧ VR ψ w S m A v cv := by
  unfold loadC at hl
  cases ag with
  | true =>
    simp only [if_true] at hl
    by_cases hle : n ≤ (cs.drop off).length
    · rw [if_pos hle] at hl
      cases hl
      rw [List.length_drop] at hle
      have get : ∀ (j : Nat) (x : AV), ((cs.drop off).take n)[j]? = some x → j < n ∧ cs[off + j]? = some x := by
        intro j x hx
        rw [List.getElem?_take] at hx
        split at hx
        · rename_i hj
          rw [List.getElem?_drop] at hx
          exact ⟨hj, hx⟩
        · cases hx
      refine ⟨.agg (vs.extract off (off + n)), ?_, .agg _ _ ?_ (fun j x hx => hcell _ x (get j x hx).2) (fun j x hx => ?_)⟩
      · unfold part
        rw [Sem.run_bind, isAgg_run hag]
        simp [sizeOf_run hs]
      · by_cases h0 : n = 0
        · subst h0; simp; omega
        · simp; omega
      · obtain ⟨hj, h2⟩ := get j x hx
        have h3 := hr _ x h2
        have hlt : off + j < vs.size := by rw [hn]; exact (List.getElem?_eq_some_iff.1 h2).1
        rw [Array.getD_eq_getD_getElem?] at h3 ⊢
        rw [Array.getElem?_extract]
        rw [if_pos (by omega)]
        exact h3
    · rw [if_neg hle] at hl; cases hl
  | false =>
    simp only [Bool.false_eq_true, if_false] at hl
    rw [List.head?_drop] at hl
    have hlt : off < vs.size := by rw [hn]; exact (List.getElem?_eq_some_iff.1 hl).1
    refine ⟨vs.getD off Go.undef, ?_, hr off v hl⟩
    unfold part
    rw [Sem.run_bind, isAgg_run hag]
    simp only [Result.andThen_ok, Bool.false_eq_true, if_false]
    rw [getElem?_of_getD hlt]
    rfl

theorem fldv_ok (cx : Cx P φ ψ N w0 w S m A h e a) {t : TypeId} {X : Operand} {f : Nat} (ho : o.op = .field t X f) : Ok P φ ψ N w0 w S m A h e a o := by
  intro cop v u nid hc hs hn
  rw [ho] at hc
  simp only [cOp, Option.bind_eq_bind, Option.bind_eq_some_iff] at hc
  obtain ⟨x, hx, d, hd, hc⟩ := hc
  have hX := cx.opd hx
  split at hc
  · rename_i fs
    simp only [Option.bind_eq_some_iff] at hc
    obtain ⟨fd, hf, n, hn', ag, hag, hc⟩ := hc
    cases hc
    simp only [stepOp, sFldv] at hs
    split at hs
    · rename_i cs he
      obtain ⟨h1, rfl⟩ := ov_some hs
      rw [he] at hX
      obtain ⟨vs, e1, n1, c1, r1⟩ := hX.inv_agg
      obtain ⟨cv, h2, h3⟩ := part_run (P := P) hn' hag n1 c1 r1 h1
      refine Snd.val cx.inv (s := Instr.field t (a.eval X) f) (by simp [execOp, ho]) ?_ h3 nid
      rw [e1]
      simp only [Instr.field, Sem.run_bind, run_underlying hd, Result.andThen_ok, hf, asAgg, Sem.run_pure, h2]
    · cases hs
  · cases hc

theorem idx_run {k : IntKind} {n : Nat} {g off : Nat} {t el : TypeId} {len cap z : Nat} (hd : P.underlying t = some (.slice el)) (hz : sizeT P el = some z) (hl : n < len) :
    (Instr.indexAt t (.slice (some ⟨g, off, none⟩) len cap) (.int k n)).run P w = .ok (.pointer (some ⟨g, off + n * z, none⟩)) w := by
  have h1 : (0 : Int) ≤ n ∧ (n : Int) < len := by omega
  simp only [Instr.indexAt, asIntOf, Sem.run_bind, Sem.run_pure, run_underlying hd, Result.andThen_ok]
  rw [if_pos h1]
  simp [sizeOf_run hz, add_row]

theorem idxs_ok (cx : Cx P φ ψ N w0 w S m A h e a) {t : TypeId} {X I : Operand} (ho : o.op = .indexAddr t X I) : Ok P φ ψ N w0 w S m A h e a o := by
  intro cop v u nid hc hs hn
  rw [ho] at hc
  simp only [cOp, Option.bind_eq_bind, Option.bind_eq_some_iff] at hc
  obtain ⟨x, hx, ix, hix, d, hd, hc⟩ := hc
  have hX := cx.opd hx
  have hI := cx.opd hix
  split at hc
  · rename_i el
    simp only [Option.bind_eq_some_iff] at hc
    obtain ⟨z, hz, hc⟩ := hc
    split at hc
    · cases hc
    · cases hc
      simp only [stepOp, sIdxs] at hs
      split at hs
      · rename_i k n he
        obtain ⟨n', hn', hs1⟩ := ob_some hs
        replace hs := hs1; clear hs1
        cases nat?_some hn'
        rw [he] at hI
        have eI := hI.inv_int
        cases hxv : x.ev e <;> rw [hxv] at hs hX <;> simp only [idxsAt] at hs <;> try (cases hs; done)
        · rename_i z' es ex
          split at hs
          · rename_i hzz
            subst hzz
            obtain ⟨cs, hcs, hs⟩ := ob_some hs
            cases hs
            have hlt : n' < es.length := (List.getElem?_eq_some_iff.1 hcs).1
            rcases hX.inv_ro with ⟨b, off, cap, vs, e1, hS, hw, hcap, hex, hcell, hrep⟩ | ⟨rfl, _⟩
            case inr => simp at hlt
            refine Snd.val cx.inv (s := Instr.indexAt t (a.eval X) (a.eval I)) (by simp [execOp, ho]) (by rw [e1, eI]; exact idx_run hd hz hlt) ?_ nid
            exact .rop cs b (off + n' * z') (vs n') hS (fun j y hy => hcell n' cs j y hcs hy) (fun j y hy => hrep n' cs j y hcs hy)
          · cases hs
        · rename_i b z' j len cap ex
          split at hs
          · rename_i hzz
            obtain ⟨hzz, hlt⟩ := hzz
            subst hzz
            cases hs
            obtain ⟨cc, e1, hA, hmz, _⟩ := hX.inv_sl
            refine Snd.val cx.inv (s := Instr.indexAt t (a.eval X) (a.eval I)) (by simp [execOp, ho]) (by rw [e1, eI]; exact idx_run hd hz hlt) ?_ nid
            have := VR.ptr (ψ := ψ) (w := w) (S := S) (m := m) (A := A) b (j + n') 0 hA
            rw [hmz, Nat.add_zero, Nat.add_mul] at this
            exact this
          · cases hs
      · cases hs
  · rename_i len el
    simp only [Option.bind_eq_some_iff] at hc
    obtain ⟨z, hz, hc⟩ := hc
    split at hc
    · cases hc
    · cases hc
      simp only [stepOp, sIdxa] at hs
      split at hs
      · rename_i k n he
        obtain ⟨n', hn', hs1⟩ := ob_some hs
        replace hs := hs1; clear hs1
        cases nat?_some hn'
        rw [he] at hI
        have eI := hI.inv_int
        split at hs
        · rename_i hlt
          have run : ∀ b off, a.eval X = .pointer (some ⟨b, off, none⟩) → (Instr.indexAt t (a.eval X) (a.eval I)).run P w = .ok (.pointer (some ⟨b, off + n' * z, none⟩)) w := by
            intro b off e1
            rw [e1, eI]
            have h1 : (0 : Int) ≤ n' ∧ (n' : Int) < len := by omega
            simp only [Instr.indexAt, asIntOf, Sem.run_bind, Sem.run_pure, run_underlying hd, Result.andThen_ok, Instr.sureAddr]
            rw [if_pos h1]
            simp [sizeOf_run hz, add_row]
          cases hxv : x.ev e <;> rw [hxv] at hs hX <;> simp only [idxaAt] at hs <;> try (cases hs; done)
          · rename_i cs
            cases hs
            obtain ⟨b, off, vs, e1, _⟩ := hX.inv_rop
            refine Snd.val cx.inv (s := Instr.indexAt t (a.eval X) (a.eval I)) (by simp [execOp, ho]) (run b off e1) ?_ nid
            rw [e1] at hX
            exact hX.rop_drop _
          · rename_i b i o'
            cases hs
            obtain ⟨_, e1⟩ := hX.inv_ptr
            exact Snd.val cx.inv (s := Instr.indexAt t (a.eval X) (a.eval I)) (by simp [execOp, ho]) (run _ _ e1) (hX.ptr_add _) nid
        · cases hs
      · cases hs
  · cases hc

theorem index_ok (cx : Cx P φ ψ N w0 w S m A h e a) {t : TypeId} {X I : Operand} (ho : o.op = .index t X I) : Ok P φ ψ N w0 w S m A h e a o := by
  intro cop v u nid hc hs hn
  rw [ho] at hc
  simp only [cOp, Option.bind_eq_bind, Option.bind_eq_some_iff] at hc
  obtain ⟨x, hx, ix, hix, d, hd, hc⟩ := hc
  have hX := cx.opd hx
  have hI := cx.opd hix
  split at hc
  · cases hc
    simp only [stepOp, sIdxstr] at hs
    split at hs
    · rename_i s k n ex ei
      obtain ⟨n', hn', hs1⟩ := ob_some hs
      replace hs := hs1; clear hs1
      cases nat?_some hn'
      obtain ⟨c, hc', hs⟩ := ob_some hs
      cases hs
      rw [ex] at hX
      rw [ei] at hI
      have eX := hX.inv_str
      have eI := hI.inv_int
      refine Snd.val cx.inv (s := Instr.index t (a.eval X) (a.eval I)) (cv := .int .u8 c.toNat) (by simp [execOp, ho]) ?_ (.int _ _) nid
      rw [eX, eI]
      have h0 : (0 : Int) ≤ n' := by omega
      have hlt : n' < s.length := (List.getElem?_eq_some_iff.1 hc').1
      have hb : (⟨⟨s⟩⟩ : ByteArray)[n']? = some c := by
        have hsz : (⟨⟨s⟩⟩ : ByteArray).size = s.length := rfl
        rw [getElem?_pos (⟨⟨s⟩⟩ : ByteArray) n' (by rw [hsz]; exact hlt)]
        congr 1
        have := (List.getElem?_eq_some_iff.1 hc').2
        rw [← this]
        rfl
      simp only [Instr.index, asIntOf, Sem.run_bind, Sem.run_pure, run_underlying hd, Result.andThen_ok]
      rw [if_pos h0]
      simp [hb]
    · cases hs
  · rename_i len el
    simp only [Option.bind_eq_some_iff] at hc
    obtain ⟨z, hz, ag, hag, hc⟩ := hc
    cases hc
    simp only [stepOp, sIdxv] at hs
    split at hs
    · rename_i cs k n ex ei
      obtain ⟨n', hn', hs1⟩ := ob_some hs
      replace hs := hs1; clear hs1
      cases nat?_some hn'
      split at hs
      · rename_i hlt
        obtain ⟨h1, rfl⟩ := ov_some hs
        rw [ex] at hX
        rw [ei] at hI
        obtain ⟨vs, e1, n1, c1, r1⟩ := hX.inv_agg
        have eI := hI.inv_int
        obtain ⟨cv, h2, h3⟩ := part_run (P := P) hz hag n1 c1 r1 h1
        refine Snd.val cx.inv (s := Instr.index t (a.eval X) (a.eval I)) (by simp [execOp, ho]) ?_ h3 nid
        rw [e1, eI]
        have h0 : (0 : Int) ≤ n' ∧ (n' : Int) < len := by omega
        simp only [Instr.index, asIntOf, Sem.run_bind, Sem.run_pure, run_underlying hd, Result.andThen_ok]
        rw [if_pos h0]
        simp [sizeOf_run hz, h2]
      · cases hs
    · cases hs
  · cases hc

end
end Go.Pav
