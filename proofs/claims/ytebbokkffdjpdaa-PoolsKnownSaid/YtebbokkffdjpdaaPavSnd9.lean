/- Soundness: making slices, lengths, append, copy. -/
import Derived.Test.YtebbokkffdjpdaaPavSnd8
import Derived.WideLaws
namespace Go.Pav
open Go

section
variable {P : Program} {φ : FuncId → Option Nat} {ψ : Nat → FuncId} {N : Nat} {w0 w : World} {S : Nat → Prop} {m : Nat → Nat × Nat} {A : Nat → Prop} {h : Heap} {e : Env} {a : Act} {o : Oper}

theorem wrap_i64 {n : Nat} (hn : n ≤ maxBytes) : IntKind.i64.wrap (n : Int) = (n : Int) := by
  simp only [maxBytes] at hn
  simp only [IntKind.wrap, IntKind.bits, IntKind.signed]
  have : (n : Int) % 2 ^ 64 = n := Int.emod_eq_of_lt (by omega) (by omega)
  simp only [this]
  rw [if_neg]
  simp
  omega

theorem mksl_ok (cx : Cx P φ ψ N w0 w S m A h e a) {t : TypeId} {L C : Operand} (ho : o.op = .makeSlice t L C) : Ok P φ ψ N w0 w S m A h e a o := by
  intro cop v u nid hc hs hn
  rw [ho] at hc
  simp only [cOp, Option.bind_eq_bind, Option.bind_eq_some_iff] at hc
  obtain ⟨l, hl, c, hcc, d, hd, hc⟩ := hc
  have hL := cx.opd hl
  have hC := cx.opd hcc
  split at hc
  · rename_i el
    simp only [Option.bind_eq_some_iff] at hc
    obtain ⟨z, hz, i, hi, hc⟩ := hc
    split at hc
    · cases hc
    · cases hc
      simp only [stepOp, sMksl] at hs
      split at hs
      · rename_i k1 n1 k2 n2 e1 e2
        obtain ⟨nl, hnl, hs'⟩ := ob_some hs
        replace hs := hs'; clear hs'
        obtain ⟨nc, hnc, hs'⟩ := ob_some hs
        replace hs := hs'; clear hs'
        split at hs
        · rename_i hcond
          obtain ⟨c1, c2⟩ := hcond
          cases hs
          rw [e1] at hL
          rw [e2] at hC
          have eL := hL.inv_int
          have eC := hC.inv_int
          have q1 := nat?_some hnl
          have q2 := nat?_some hnc
          subst q1 q2
          obtain ⟨it, zv, hit, hzv, z1, z2, z3, z4⟩ := zeroCells_some (ψ := ψ) (w := w) (S := S) (m := m) (A := A) hz
          rw [hi] at hit
          cases hit
          have hcb : nc ≤ maxBytes := Nat.le_trans (Nat.le_mul_of_pos_right nc (Nat.succ_pos _)) c2
          have hlb : nl ≤ maxBytes := Nat.le_trans c1 hcb
          have hbig : ¬ ((i.bytes : Int) * (nc : Int) > 2 ^ 48) := by
            have h1 : nc * i.bytes ≤ nc * (i.bytes + 1) := Nat.mul_le_mul_left nc (Nat.le_succ _)
            have h2 : nc * i.bytes ≤ maxBytes := Nat.le_trans h1 c2
            simp only [maxBytes] at h2
            rw [Nat.mul_comm] at h2
            have h3 : ((i.bytes * nc : Nat) : Int) ≤ 35184372088832 := by omega
            rw [Int.natCast_mul] at h3
            omega
          have hrow := zeros_EsR (ψ := ψ) (w := w) (S := S) (m := m) (A := A) z1 z3 z4 nc
          refine Snd.newSl (w' := w.alloc (.cells ((Array.range (nc * z.length)).map (zv.cells[· % zv.cells.size]!)) el)) (c := (Array.range (nc * z.length)).map (zv.cells[· % zv.cells.size]!)) (t := el) cx.inv hn (len := nl) (cap := nc) ?_ rfl rfl rfl hrow (fun _ _ => rfl) (Nat.le_refl _) rfl c1 (Nat.le_refl _) (fun _ => rfl) (by simp)
          simp only [execOp, ho, Sem.run_bind]
          have : (Instr.makeSlice t (a.eval L) (a.eval C)).run P w = .ok (.slice (some ⟨w.heap.size, 0, none⟩) nl nc) (w.alloc (.cells ((Array.range (nc * z.length)).map (zv.cells[· % zv.cells.size]!)) el)) := by
            rw [eL, eC]
            unfold Instr.makeSlice
            simp only [Sem.run_bind, run_underlying hd, Result.andThen_ok, asInt, asIntOf, Sem.run_pure, typeInfo, run_program, hi]
            rw [wrap_i64 hlb, wrap_i64 hcb]
            have t1 : (decide ((nc : Int) < 0) || decide ((i.bytes : Int) * (nc : Int) > 2 ^ 48)) = false := by
              rw [decide_eq_false hbig]
              simp
            have t2 : decide ((nl : Int) < 0) = false := by rw [decide_eq_false]; omega
            have t3 : decide ((nl : Int) > (nc : Int)) = false := by rw [decide_eq_false]; omega
            simp only [t1, t2, t3, Bool.or_false, Bool.false_eq_true, if_false, Sem.run_bind, run_askRoom, Result.andThen_ok, sizeOf, typeInfo, run_program, hi, Sem.run_pure, z2, Int.toNat_natCast]
            by_cases hz0 : nc * z.length = 0
            · rw [if_pos hz0]
              have hr0 : Array.range 0 = #[] := rfl
              simp [hz0, hr0, Go.newRow]
            · rw [if_neg hz0]
              simp [zeroValue, typeInfo, hi, hzv, Go.newRow]
          rw [this]
          rfl
        · cases hs
      · cases hs
  · cases hc

theorem call_builtin {c : Call} {b : Builtin} (ho : o.op = .call c) (hb : c.callee = .builtin b) {s : Sem Value} (hs : ∀ consts, builtin b c.argTypes o.type consts (c.args.map a.eval) = (do pure (.value (← s)))) :
    execOp a.eval o = (do pure (.value (← s))) := by
  simp only [execOp, ho, resolve, hb, pure_bind, invoke]
  exact hs _

theorem arr1 {α : Type} {xs : Array α} {x : α} (hx : xs.toList = [x]) : xs = #[x] := by
  apply Array.ext'; simpa using hx
theorem arr2 {α : Type} {xs : Array α} {x y : α} (hx : xs.toList = [x, y]) : xs = #[x, y] := by
  apply Array.ext'; simpa using hx

theorem len_ok (cx : Cx P φ ψ N w0 w S m A h e a) {c : Call} (ho : o.op = .call c) (hb : c.callee = .builtin .len) : Ok P φ ψ N w0 w S m A h e a o := by
  intro cop v u nid hc hs hn
  rw [ho] at hc
  simp only [cOp, hb, cBuiltin] at hc
  unfold cLen at hc
  split at hc
  · rename_i X t hargs htys
    simp only [Option.bind_eq_bind, Option.bind_eq_some_iff] at hc
    obtain ⟨x, hx, d, hd, hc⟩ := hc
    have hX := cx.opd hx
    have ea := arr1 hargs
    have et := arr1 htys
    have hex : execOp a.eval o = (do pure (.value (← Builtin.len_ #[t] o.type #[a.eval X]))) := call_builtin ho hb (fun _ => by rw [ea, et]; simp [builtin])
    have fin : ∀ kd, cop = .len kd x → (∀ v, evLen kd h (x.ev e) = some v → ∃ cv, (Builtin.len_ #[t] o.type #[a.eval X]).run P w = .ok cv w ∧ VR ψ w S m A v cv) → Snd P ψ N w0 w S m A (execOp a.eval o) (applyUpd h u) v nid := by
      intro kd hcop hr
      subst hcop
      simp only [stepOp, sLen] at hs
      obtain ⟨h1, rfl⟩ := ov_some hs
      obtain ⟨cv, h2, h3⟩ := hr v h1
      exact Snd.val cx.inv hex h2 h3 nid
    split at hc
    · cases hc
      refine fin 0 rfl fun v hv => ?_
      cases hxv : x.ev e <;> rw [hxv] at hv hX <;> simp only [evLen] at hv <;> first
        | (cases hv; done)
        | (simp at hv; done)
        | skip
      rename_i s
      simp only [if_true] at hv
      cases hv
      rw [hX.inv_str]
      refine ⟨_, ?_, .int _ _⟩
      have hsz : (⟨⟨s⟩⟩ : ByteArray).size = s.length := rfl
      simp [Builtin.len_, run_underlying hd, goInt, hsz]
    · cases hc
      refine fin 1 rfl fun v hv => ?_
      cases hxv : x.ev e <;> rw [hxv] at hv hX <;> simp only [evLen] at hv <;> first
        | (cases hv; done)
        | (simp at hv; done)
        | skip
      · simp only [if_true] at hv
        cases hv
        rw [hX.inv_nils]
        refine ⟨_, ?_, .int _ _⟩
        simp [Builtin.len_, run_underlying hd, goInt]
      · simp only [if_true] at hv
        cases hv
        rcases hX.inv_ro with ⟨b, off, cap, cs, e1, _⟩ | ⟨rfl, ad, e1⟩ <;>
        · rw [e1]
          refine ⟨_, ?_, .int _ _⟩
          simp [Builtin.len_, run_underlying hd, goInt]
      · simp only [if_true] at hv
        cases hv
        obtain ⟨cc, e1, _⟩ := hX.inv_sl
        rw [e1]
        refine ⟨_, ?_, .int _ _⟩
        simp [Builtin.len_, run_underlying hd, goInt]
    · cases hc
      refine fin 2 rfl fun v hv => ?_
      cases hxv : x.ev e <;> rw [hxv] at hv hX <;> simp only [evLen] at hv <;> first
        | (cases hv; done)
        | (simp at hv; done)
        | skip
      · simp only [if_true] at hv
        cases hv
        rw [hX.inv_nilm]
        refine ⟨_, ?_, .int _ _⟩
        simp [Builtin.len_, run_underlying hd, goInt]
      · rename_i b
        simp only [if_true] at hv
        unfold lenMap at hv
        split at hv
        · rename_i es hg
          cases hv
          obtain ⟨hA, e1⟩ := hX.inv_map
          obtain ⟨es', clock, q1, q2, _⟩ := cx.inv.obj b _ hg
          rw [e1]
          refine ⟨_, ?_, .int _ _⟩
          simp [Builtin.len_, run_underlying hd, goInt, run_getObj_map w _ _ _ q1, q2]
        · cases hv
    · cases hc
  · cases hc

theorem cap_ok (cx : Cx P φ ψ N w0 w S m A h e a) {c : Call} (ho : o.op = .call c) (hb : c.callee = .builtin .cap) : Ok P φ ψ N w0 w S m A h e a o := by
  intro cop v u nid hc hs hn
  rw [ho] at hc
  simp only [cOp, hb, cBuiltin] at hc
  unfold cCap at hc
  split at hc
  · rename_i X t hargs htys
    simp only [Option.bind_eq_bind, Option.bind_eq_some_iff] at hc
    obtain ⟨x, hx, d, hd, hc⟩ := hc
    have hX := cx.opd hx
    have ea := arr1 hargs
    have et := arr1 htys
    have hex : execOp a.eval o = (do pure (.value (← Builtin.cap_ #[t] o.type #[a.eval X]))) := call_builtin ho hb (fun _ => by rw [ea, et]; simp [builtin])
    split at hc
    · cases hc
      simp only [stepOp, sCap] at hs
      obtain ⟨h1, rfl⟩ := ov_some hs
      cases hxv : x.ev e <;> rw [hxv] at h1 hX <;> simp only [evCap] at h1 <;> try (cases h1; done)
      · cases h1
        have e1 := hX.inv_nils
        exact Snd.val cx.inv hex (cv := .int .i64 0) (by rw [e1]; simp [Builtin.cap_, run_underlying hd, goInt]) (.int _ _) nid
      · split at h1
        · rename_i hx'
          cases h1
          rcases hX.inv_ro with ⟨b, off, cap, cs, e1, _, _, _, hex', _⟩ | ⟨rfl, ad, e1⟩
          case inr => exact Snd.val cx.inv hex (cv := .int .i64 0) (by rw [e1]; simp [Builtin.cap_, run_underlying hd, goInt]) (.int _ _) nid
          exact Snd.val cx.inv hex (cv := .int .i64 _) (by rw [e1, hex' hx']; simp [Builtin.cap_, run_underlying hd, goInt]) (.int _ _) nid
        · cases h1
      · split at h1
        · rename_i hx'
          cases h1
          obtain ⟨cc, e1, _, _, _, _, hex', _⟩ := hX.inv_sl
          exact Snd.val cx.inv hex (cv := .int .i64 _) (by rw [e1, hex' hx']; simp [Builtin.cap_, run_underlying hd, goInt]) (.int _ _) nid
        · cases h1
    · cases hc
  · cases hc

theorem mx_ok (cx : Cx P φ ψ N w0 w S m A h e a) {c : Call} (ho : o.op = .call c) {mxx : Bool} (hb : c.callee = .builtin (if mxx then .max else .min)) : Ok P φ ψ N w0 w S m A h e a o := by
  intro cop v u nid hc hs hn
  rw [ho] at hc
  have hc' : cMax φ mxx c.args.toList = some cop := by
    simp only [cOp, hb, cBuiltin] at hc
    cases mxx <;> exact hc
  clear hc
  unfold cMax at hc'
  split at hc'
  · rename_i X Y hargs
    simp only [Option.bind_eq_bind, Option.bind_eq_some_iff, Option.some.injEq] at hc'
    obtain ⟨x, hx, y, hy, rfl⟩ := hc'
    have hX := cx.opd hx
    have hY := cx.opd hy
    have ea := arr2 hargs
    cases mxx
    · have hex : execOp a.eval o = (do pure (.value (← Builtin.min_ c.argTypes o.type #[a.eval X, a.eval Y]))) := call_builtin ho hb (fun _ => by rw [ea]; simp [builtin])
      simp only [Bool.false_eq_true, if_false, stepOp, sMn] at hs
      split at hs
      · rename_i k n k' n' ex ey
        split at hs
        · rename_i hk
          subst hk
          cases hs
          rw [ex] at hX
          rw [ey] at hY
          have e1 := hX.inv_int
          have e2 := hY.inv_int
          exact Snd.val cx.inv hex (cv := .int k _) (by rw [e1, e2]; simp [Builtin.min_, Builtin.min2]) (.int _ _) nid
        · cases hs
      · cases hs
    · have hex : execOp a.eval o = (do pure (.value (← Builtin.max_ c.argTypes o.type #[a.eval X, a.eval Y]))) := call_builtin ho hb (fun _ => by rw [ea]; simp [builtin])
      simp only [if_true, stepOp, sMx] at hs
      split at hs
      · rename_i k n k' n' ex ey
        split at hs
        · rename_i hk
          subst hk
          cases hs
          rw [ex] at hX
          rw [ey] at hY
          have e1 := hX.inv_int
          have e2 := hY.inv_int
          exact Snd.val cx.inv hex (cv := .int k _) (by rw [e1, e2]; simp [Builtin.max_, Builtin.max2]) (.int _ _) nid
        · cases hs
      · cases hs
  · cases hc'

end
end Go.Pav
