/- Soundness of whole functions. -/
import Derived.Test.YtebbokkffdjpdaaPavEv
namespace Go.Pav
open Go

section
variable {P : Program} {φ : FuncId → Option Nat} {ψ : Nat → FuncId} {N : Nat} {w0 w : World} {S : Nat → Prop} {m : Nat → Nat × Nat} {A : Nat → Prop} {h : Heap} {a : Act} {run : Run} {C : Prog}

theorem Fit.mono {nt nt' : Nat} (hn : nt ≤ nt') {c : Code} {cc : CCode} (h : Fit P φ nt c cc) : Fit P φ nt' c cc := by
  induction h with
  | fail c => exact .fail c
  | skip => exact .skip
  | ops id ops live hd => exact .ops id ops live fun o ho x hx => Nat.lt_of_lt_of_le (hd o ho x hx) hn
  | draw id ops live hd he hu => exact .draw id ops live (fun o ho x hx => Nat.lt_of_lt_of_le (hd o ho x hx) hn) he hu
  | seq _ _ iha ihb => exact .seq iha ihb
  | cond hc _ _ iha ihb => exact .cond hc iha ihb
  | block id _ ih => exact .block id ih
  | loop live _ ih => exact .loop live ih
  | exit id => exact .exit id
  | ret => exact .ret

/-- One result of a function, in the model. -/
def resultOf (tmps : Array Value) : ResultVar → Sem Value
  | .tmp t => pure (tmps.getD t Go.undef)
  | .cell a t => do loadVar t (← asAddr (tmps.getD a Go.undef))

theorem results_eq (fn : Func) (tmps : Array Value) : Go.results fn tmps = (do
    let vs ← fn.results.toList.mapM (resultOf tmps)
    pure (if h : vs.toArray.size = 1 then vs.toArray[0] else .tuple vs.toArray)) := by
  have : Go.results fn tmps = (do
    let vs ← fn.results.mapM (resultOf tmps)
    pure (if h : vs.size = 1 then vs[0] else .tuple vs)) := rfl
  rw [this, Array.mapM_eq_mapM_toList]
  simp

theorem resOf_run (i : Inv ψ N w0 w S m A h) {e : Env} {tmps : Array Value} (env : EnvR ψ w S m A e tmps) {r : ResultVar} {cr : CRes} (hc : cRes P r = some cr) {v : AV} (hv : resOf e h cr = some v) :
    ∃ cv, (resultOf tmps r).run P w = .ok cv w ∧ VR ψ w S m A v cv := by
  cases r with
  | tmp t =>
    simp only [cRes, Option.some.injEq] at hc
    subst hc
    exact ⟨_, by simp [resultOf], env t v hv⟩
  | cell t ty =>
    simp only [cRes, Option.bind_eq_bind, Option.bind_eq_some_iff, Option.some.injEq] at hc
    obtain ⟨n, hn, ag, hag, rfl⟩ := hc
    simp only [resOf] at hv
    split at hv
    · rename_i b i0 o hg
      have hp := env t _ hg
      obtain ⟨_, e1⟩ := hp.inv_ptr
      simp only [loadAt] at hv
      split at hv
      · rename_i z es mu hb
        obtain ⟨cs, hk, hl⟩ := ob_some hv
        obtain ⟨cv, h1, h2⟩ := loadVar_run (P := P) ((i.cellsAt hb hk).drop o) hn hag hl
        exact ⟨cv, by simp only [resultOf, e1, asAddr, Sem.run_bind, Sem.run_pure, Result.andThen_ok, h1], h2⟩
      · cases hv
    · cases hv

theorem mapM_run : ∀ (rs : List ResultVar) (cs : List CRes) (vs : List AV) {e : Env} {tmps : Array Value}, Inv ψ N w0 w S m A h → EnvR ψ w S m A e tmps → rs.mapM (cRes P) = some cs → mapO (resOf e h) cs = some vs →
    ∃ us : List Value, (rs.mapM (resultOf tmps)).run P w = .ok us w ∧ us.length = vs.length ∧ ∀ (j : Nat) (x : AV), vs[j]? = some x → VR ψ w S m A x (us.toArray.getD j Go.undef) := by
  intro rs
  induction rs with
  | nil =>
    intro cs vs e tmps i env hc hv
    simp only [List.mapM_nil, Option.pure_def, Option.some.injEq] at hc
    subst hc
    simp only [mapO, Option.some.injEq] at hv
    subst hv
    exact ⟨[], by simp, rfl, fun j x hj => by simp at hj⟩
  | cons r rs ih =>
    intro cs vs e tmps i env hc hv
    simp only [List.mapM_cons, Option.bind_eq_bind, Option.bind_eq_some_iff, Option.pure_def, Option.some.injEq] at hc
    obtain ⟨c, hc1, cs', hcs, rfl⟩ := hc
    simp only [mapO] at hv
    obtain ⟨v, hv1, hv⟩ := ob_some hv
    obtain ⟨vs', hvs, rfl⟩ := om_some hv
    obtain ⟨cv, r1, r2⟩ := resOf_run (P := P) i env hc1 hv1
    obtain ⟨us, q1, q2, q3⟩ := ih cs' vs' i env hcs hvs
    refine ⟨cv :: us, ?_, by simp [q2], fun j x hj => ?_⟩
    · simp only [List.mapM_cons, Sem.run_bind, r1, Result.andThen_ok, q1, Sem.run_pure]
    · cases j with
      | zero => simp at hj; subst hj; simpa using r2
      | succ j => simpa using q3 j x (by simpa using hj)

theorem results_run (i : Inv ψ N w0 w S m A h) {e : Env} {tmps : Array Value} (env : EnvR ψ w S m A e tmps) {fn : Func} {cs : List CRes} (hc : fn.results.toList.mapM (cRes P) = some cs) {v : AV} (hv : results e h cs = some v) :
    ∃ cv, (Go.results fn tmps).run P w = .ok cv w ∧ VR ψ w S m A v cv := by
  obtain ⟨vs, hvs, rfl⟩ := om_some hv
  obtain ⟨us, q1, q2, q3⟩ := mapM_run (P := P) _ _ _ i env hc hvs
  rw [results_eq]
  refine ⟨(if h : us.toArray.size = 1 then us.toArray[0] else Value.tuple us.toArray), by simp only [Sem.run_bind, q1, Result.andThen_ok, Sem.run_pure], ?_⟩
  match vs, us, q2, q3 with
  | [v], [u], _, q3 => simpa [tupled] using q3 0 v rfl
  | [], [], _, q3 => exact .tup [] #[] rfl (by simp)
  | v1 :: v2 :: vs, u1 :: u2 :: us, q2, q3 =>
    have : ¬ (u1 :: u2 :: us).toArray.size = 1 := by simp
    rw [dif_neg this]
    exact .tup _ _ (by simpa using q2) q3

theorem get_argEnv : ∀ (l : List AV) (k s : Nat) (v : AV), get (argEnv k l) s = some v → k ≤ s ∧ l[s - k]? = some v := by
  intro l
  induction l with
  | nil => intro k s v h; simp [argEnv, get] at h
  | cons x l ih =>
    intro k s v h
    simp only [argEnv, get] at h
    by_cases e : k = s
    · subst e; simp at h; subst h; simp
    · rw [if_neg e] at h
      obtain ⟨h1, h2⟩ := ih (k + 1) s v h
      refine ⟨by omega, ?_⟩
      have : s - k = (s - (k + 1)) + 1 := by omega
      rw [this]; simpa using h2

theorem cFn_some {fn : Func} {cf : CFn} (hc : cFn P φ fn = some cf) : ∃ c, fn.body = some c ∧ fn.name ≠ "runtime.NumGoroutine" ∧ fn.results.toList.mapM (cRes P) = some cf.res ∧ Fit P φ fn.ntmps c cf.body := by
  unfold cFn at hc
  simp only [Option.bind_eq_bind, Option.bind_eq_some_iff] at hc
  obtain ⟨c, hb, hc⟩ := hc
  split at hc
  · cases hc
  · rename_i hfit
    obtain ⟨res, hres, hc⟩ := Option.bind_eq_some_iff.1 hc
    split at hc
    · cases hc
    · rename_i hname
      cases hc
      exact ⟨c, hb, hname, hres, liveC_fit (cCode_fit c (by simpa using hfit)) _ _⟩

/-- A function's run, when the evaluation of code is sound. -/
theorem run_step (hL : Linked P φ ψ C) {fuel : Nat} (hc : CodeOk P φ ψ C fuel) : RunOk P ψ (runWith C (evC C fuel)) := by
  intro g args h n v h' n' hrun
  obtain ⟨cf, hcf, hrun⟩ := ob_some hrun
  split at hrun
  case isFalse => cases hrun
  rename_i hlen
  obtain ⟨⟨ex, s'⟩, hev, hend⟩ := ob_some hrun
  obtain ⟨fn, hfn, hcfn⟩ := hL.fns g cf hcf
  obtain ⟨c0, hc0, hst⟩ := Option.map_eq_some_iff.1 hcfn
  obtain ⟨c, hb, hname, hres0, hfit0⟩ := cFn_some hc0
  simp only [stripF, CFn.mk.injEq] at hst
  have hres : fn.results.toList.mapM (cRes P) = some cf.res := by rw [← hst.2.1]; exact hres0
  have hfit : Fit P φ fn.ntmps c cf.body := fit_mz hfit0 _ hst.2.2.symm
  refine ⟨⟨fn, c, hfn, hname, hb⟩, ?_⟩
  intro N w0 w S m A cargs i hA hsz hargs
  refine calls_of_wp hfn hb ?_
  have hts : (cargs ++ Array.replicate (fn.ntmps - cargs.size) Go.undef).size = max cargs.size fn.ntmps := by simp; omega
  refine (hc _ c cf.body (hfit.mono (Nat.le_max_right cargs.size fn.ntmps)) ⟨argEnv 0 args, h, n⟩ ex s' hev N w0 w S m A _ _ i ?_ hA hts ?_).1
  · intro s x hs
    obtain ⟨_, h2⟩ := get_argEnv args 0 s x hs
    have h3 := hargs s x (by simpa using h2)
    have hlt : s < cargs.size := by rw [hsz]; exact (List.getElem?_eq_some_iff.1 (by simpa using h2)).1
    rw [Array.getD_eq_getD_getElem?, Array.getElem?_append, if_pos hlt, ← Array.getD_eq_getD_getElem?]
    exact h3
  · rintro a' w' ⟨S', m', A', r1, r2, r3, r4, r5, r6, r7, r8⟩
    have fin : om (results s'.env s'.heap cf.res) (fun v => (v, s'.heap, s'.next)) = some (v, h', n') → a'.defers = [] ∧ ∃ cv, (Go.results fn a'.tmps).run P w' = .ok cv w' ∧
        ∃ cv', (Ending.returned cv = .returned cv') ∧ Out ψ N w0 w S m A n w' v cv' h' n' := by
      intro hfin
      obtain ⟨v1, hv1, hfin⟩ := om_some hfin
      cases hfin
      obtain ⟨cv, q1, q2⟩ := results_run (P := P) r1 r2 hres hv1
      exact ⟨r4, cv, q1, cv, rfl, S', m', A', q2, r1, r5, r6, r7, r8⟩
    unfold fnEnd at hend
    cases ex with
    | norm => exact fin hend
    | ret => exact fin hend
    | exit id => cases hend

/-- All of it, given the drawn regions. -/
theorem all_ok (hL : Linked P φ ψ C) (hd : ∀ run, RunOk P ψ run → DrawOk P φ ψ C run) : ∀ fuel, CodeOk P φ ψ C fuel := by
  intro fuel
  induction fuel with
  | zero => intro nt c cc _ s ex s' he; simp only [evC] at he; cases he
  | succ fuel ih => exact code_step hL ih (run_step hL ih) (hd _ (run_step hL ih))

end
end Go.Pav
