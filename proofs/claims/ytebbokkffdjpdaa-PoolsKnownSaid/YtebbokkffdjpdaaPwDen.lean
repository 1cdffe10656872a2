/- The second machine without fuel. -/
import Derived.Test.YtebbokkffdjpdaaPwCode
namespace Go.Pw
open Go Go.Pav

def RunLeW (r r' : WRun) : Prop := ∀ f args h n x, r f args h n = some x → r' f args h n = some x

section
variable {C : WProg} {r r' : WRun}

theorem evCallW_mono (hr : RunLeW r r') {f : Nat} {args : List AV} {h : WHeap} {n : Nat} {c : WCalled} (hc : evCallW C r f args h n = some c) : evCallW C r' f args h n = some c := by
  unfold evCallW at hc ⊢
  split
  · rename_i hi; rw [if_pos hi] at hc; exact om_mono hc fun x hx => hr _ _ _ _ _ hx
  · rename_i hi
    rw [if_neg hi] at hc
    split
    · rename_i hp; rw [if_pos hp] at hc; exact om_mono hc fun x hx => hr _ _ _ _ _ hx
    · rename_i hp
      rw [if_neg hp] at hc
      exact ob_mono hc (fun x hx => hx) fun as has => om_mono has fun v hv => ob_mono hv (fun x hx => hr _ _ _ _ _ hx) fun x hx => hx

theorem evActW_mono (hr : RunLeW r r') {op : COp} {nid : Nat} {e : Env} {h : WHeap} {n : Nat} {d : WDid} (hd : evActW C r op nid e h n = some d) : evActW C r' op nid e h n = some d := by
  unfold evActW at hd ⊢
  split
  · rename_i hc; rw [hc] at hd; cases hd
  · rename_i hc; rw [hc] at hd; exact om_mono hd fun c hc => evCallW_mono hr hc
  · rename_i hc; rw [hc] at hd; exact hd

theorem evOpW_mono (hr : RunLeW r r') {o : COper} {nid : Nat} {e : Env} {h : WHeap} {n : Nat} {d : WDid} (hd : evOpW C r o nid e h n = some d) : evOpW C r' o nid e h n = some d := by
  unfold evOpW at hd ⊢
  split
  · rename_i hc; rw [hc] at hd; cases hd
  · rename_i hc; rw [hc] at hd; exact hd
  · rename_i hc; rw [hc] at hd; exact evActW_mono hr hd

theorem evOpsW_mono (hr : RunLeW r r') : ∀ (l : List COper) (s s' : WSt), evOpsW C r l s = some s' → evOpsW C r' l s = some s' := by
  intro l
  induction l with
  | nil => intro s s' h; exact h
  | cons o l ih => intro s s' h; exact ob_mono h (fun d hd => evOpW_mono hr hd) fun d hd => ih _ _ hd

theorem evDrawW_mono (hr : RunLeW r r') : ∀ (l : List COper) (nid : Nat) (s : WSt) (ds : List WDid) (x : WSt × List WDid), evDrawW C r l nid s ds = some x → evDrawW C r' l nid s ds = some x := by
  intro l
  induction l with
  | nil => intro nid s ds x h; exact h
  | cons o l ih => intro nid s ds x h; exact ob_mono h (fun d hd => evOpW_mono hr hd) fun d hd => ih _ _ _ _ hd

theorem runWithW_mono {ev ev' : WEv} (he : ∀ b c s x, ev b c s = some x → ev' b c s = some x) : RunLeW (runWithW C ev) (runWithW C ev') := by
  intro f args h n x hx
  refine ob_mono hx (fun a ha => ha) fun fn hfn => ?_
  split
  · rename_i hl
    rw [if_pos hl] at hfn
    exact ob_mono hfn (fun a ha => he _ _ _ _ ha) fun a ha => ha
  · rename_i hl
    rw [if_neg hl] at hfn; cases hfn

theorem evSeqW_mono {b b' : WSt → Option (Ex × WSt)} (h : ∀ s x, b s = some x → b' s = some x) {r : Ex × WSt} {x : Ex × WSt} (hx : evSeqW b r = some x) : evSeqW b' r = some x := by
  unfold evSeqW at hx ⊢
  split
  · rename_i hr; rw [hr] at hx; exact h _ _ hx
  · split at hx
    · rename_i h1 _ h2; exact absurd h2 h1
    · exact hx

theorem evW_mono : ∀ (n m : Nat), n ≤ m → ∀ (base : Nat) (c : WCode) (s : WSt) (x : Ex × WSt), evW C n base c s = some x → evW C m base c s = some x := by
  intro n
  induction n with
  | zero => intro m _ base c s x h; simp only [evW] at h; cases h
  | succ n ih =>
    intro m hm base c s x h
    obtain ⟨m, rfl⟩ : ∃ k, m = k + 1 := ⟨m - 1, by omega⟩
    have ih' := ih m (by omega)
    have hr : RunLeW (runWithW C (evW C n)) (runWithW C (evW C m)) := runWithW_mono ih'
    cases c with
    | skip => exact h
    | exit id => exact h
    | ret => exact h
    | fail => exact h
    | ops l a => simp only [evW] at h ⊢; exact ob_mono h (fun s' hs => evOpsW_mono hr l s s' hs) fun x hx => hx
    | draw l un a => simp only [evW] at h ⊢; exact ob_mono h (fun x hx => evDrawW_mono hr l _ _ _ x hx) fun x hx => hx
    | seq a b => simp only [evW] at h ⊢; exact ob_mono h (fun x hx => ih' _ _ _ _ hx) fun x hx => evSeqW_mono (fun s x hx => ih' _ _ _ _ hx) hx
    | cond c a b =>
      simp only [evW] at h ⊢
      unfold evCondW at h ⊢
      split
      · rename_i t hv
        rw [hv] at h
        cases t with
        | true => exact ih' _ _ _ _ h
        | false => exact ih' _ _ _ _ h
      · split at h
        · rename_i h1 _ t hv; exact absurd hv (h1 t)
        · cases h
    | block id b a => simp only [evW] at h ⊢; exact ob_mono h (fun x hx => ih' _ _ _ _ hx) fun x hx => hx
    | loop a b => simp only [evW] at h ⊢; exact ob_mono h (fun x hx => hx) fun s hs => ob_mono hs (fun x hx => ih' _ _ _ _ hx) fun x hx => evSeqW_mono (fun s x hx => ih' _ _ _ _ hx) hx

theorem runW_mono {n m : Nat} (h : n ≤ m) : RunLeW (runW C n) (runW C m) := runWithW_mono (evW_mono n m h)

end

section
variable (C : WProg)
noncomputable def CdW : WEv := fun base c s => lim fun n => evW C n base c s
noncomputable def RnW : WRun := runWithW C (CdW C)
noncomputable def FnW (f : Nat) (args : List AV) : Option AV := pureCallW (RnW C) f args
end

section
variable {C : WProg} {base : Nat}

theorem mono_W (base : Nat) (c : WCode) (s : WSt) : Mono fun n => evW C n base c s := fun n m h a ha => evW_mono n m h base c s a ha

theorem cdW_iff {c : WCode} {s : WSt} {x : Ex × WSt} : CdW C base c s = some x ↔ ∃ n, evW C n base c s = some x := lim_iff (mono_W base c s)

theorem evW_cd {n : Nat} {c : WCode} {s : WSt} {x : Ex × WSt} (h : evW C n base c s = some x) : CdW C base c s = some x := cdW_iff.2 ⟨n, h⟩

theorem runle_rnW (n : Nat) : RunLeW (runW C n) (RnW C) := runWithW_mono fun _ _ _ _ h => evW_cd h

theorem rnW_run {f : Nat} {args : List AV} {h : WHeap} {n : Nat} {x : AV × WHeap × Nat} (hx : RnW C f args h n = some x) : ∃ k, runW C k f args h n = some x := by
  unfold RnW runWithW at hx
  obtain ⟨fn, hf, hx⟩ := ob_some hx
  split at hx
  · rename_i hl
    obtain ⟨y, hc, hx⟩ := ob_some hx
    obtain ⟨k, hk⟩ := cdW_iff.1 hc
    refine ⟨k, ?_⟩
    unfold runW runWithW
    rw [hf]
    simp only [ob, if_pos hl, hk]
    exact hx
  · cases hx

theorem evCallW_cont {f : Nat} {args : List AV} {h : WHeap} {n : Nat} {c : WCalled} (hc : evCallW C (RnW C) f args h n = some c) : ∃ k, evCallW C (runW C k) f args h n = some c := by
  unfold evCallW at hc ⊢
  split
  · rename_i hi
    rw [if_pos hi] at hc
    obtain ⟨r, h1, rfl⟩ := om_some hc
    obtain ⟨k, hk⟩ := rnW_run h1
    exact ⟨k, by rw [hk]; rfl⟩
  · rename_i hi
    rw [if_neg hi] at hc
    split
    · rename_i hp
      rw [if_pos hp] at hc
      obtain ⟨r, h1, rfl⟩ := om_some hc
      obtain ⟨k, hk⟩ := rnW_run h1
      exact ⟨k, by rw [hk]; rfl⟩
    · rename_i hp
      rw [if_neg hp] at hc
      obtain ⟨as, h1, hc⟩ := ob_some hc
      obtain ⟨v, h2, rfl⟩ := om_some hc
      obtain ⟨r, h3, h4⟩ := ob_some h2
      obtain ⟨k, hk⟩ := rnW_run h3
      exact ⟨k, by rw [h1]; simp only [ob, pureCallW, hk, h4]; rfl⟩

theorem evOpW_cont {o : COper} {nid : Nat} {e : Env} {h : WHeap} {n : Nat} {d : WDid} (hd : evOpW C (RnW C) o nid e h n = some d) : ∃ k, evOpW C (runW C k) o nid e h n = some d := by
  unfold evOpW at hd ⊢
  split
  · rename_i hc; rw [hc] at hd; cases hd
  · rename_i hc; rw [hc] at hd; exact ⟨0, hd⟩
  · rename_i hc
    rw [hc] at hd
    simp only at hd
    unfold evActW at hd ⊢
    split
    · rename_i hc; rw [hc] at hd; cases hd
    · rename_i hc
      rw [hc] at hd
      simp only at hd
      obtain ⟨r, h1, rfl⟩ := om_some hd
      obtain ⟨k, hk⟩ := evCallW_cont h1
      exact ⟨k, by rw [hk]; rfl⟩
    · rename_i hc; rw [hc] at hd; exact ⟨0, hd⟩

theorem evOpsW_cont : ∀ (l : List COper) (s s' : WSt), evOpsW C (RnW C) l s = some s' → ∃ k, evOpsW C (runW C k) l s = some s' := by
  intro l
  induction l with
  | nil => intro s s' h; exact ⟨0, h⟩
  | cons o l ih =>
    intro s s' h
    simp only [evOpsW] at h ⊢
    obtain ⟨d, hd, h⟩ := ob_some h
    obtain ⟨k1, h1⟩ := evOpW_cont hd
    obtain ⟨k2, h2⟩ := ih _ _ h
    refine ⟨max k1 k2, ?_⟩
    rw [evOpW_mono (runW_mono (Nat.le_max_left k1 k2)) h1]
    exact evOpsW_mono (runW_mono (Nat.le_max_right k1 k2)) _ _ _ h2

theorem evDrawW_cont : ∀ (l : List COper) (nid : Nat) (s : WSt) (ds : List WDid) (x : WSt × List WDid), evDrawW C (RnW C) l nid s ds = some x → ∃ k, evDrawW C (runW C k) l nid s ds = some x := by
  intro l
  induction l with
  | nil => intro nid s ds x h; exact ⟨0, h⟩
  | cons o l ih =>
    intro nid s ds x h
    simp only [evDrawW] at h ⊢
    obtain ⟨d, hd, h⟩ := ob_some h
    obtain ⟨k1, h1⟩ := evOpW_cont hd
    obtain ⟨k2, h2⟩ := ih _ _ _ _ h
    refine ⟨max k1 k2, ?_⟩
    rw [evOpW_mono (runW_mono (Nat.le_max_left k1 k2)) h1]
    exact evDrawW_mono (runW_mono (Nat.le_max_right k1 k2)) _ _ _ _ _ h2

theorem cw_skip (s : WSt) : CdW C base .skip s = some (.norm, s) := evW_cd (n := 1) rfl
theorem cw_exit (id : Nat) (s : WSt) : CdW C base (.exit id) s = some (.exit id, s) := evW_cd (n := 1) rfl
theorem cw_ret (s : WSt) : CdW C base .ret s = some (.ret, s) := evW_cd (n := 1) rfl

theorem cw_succ {c : WCode} {s : WSt} {x : Ex × WSt} : CdW C base c s = some x ↔ ∃ n, evW C (n + 1) base c s = some x := by
  rw [cdW_iff]
  constructor
  · rintro ⟨n, h⟩; exact ⟨n, evW_mono n (n + 1) (Nat.le_succ n) base c s x h⟩
  · rintro ⟨n, h⟩; exact ⟨_, h⟩

theorem evSeqW_iff {b : WCode} {r x : Ex × WSt} : evSeqW (CdW C base b) r = some x ↔ ∃ n, evSeqW (evW C n base b) r = some x := by
  obtain ⟨ex, s⟩ := r
  cases ex with
  | norm => simp only [evSeqW]; exact cdW_iff
  | exit id => simp [evSeqW]
  | ret => simp [evSeqW]

theorem cw_seq (a b : WCode) (s : WSt) : CdW C base (.seq a b) s = ob (CdW C base a s) (evSeqW (CdW C base b)) := by
  refine opt_ext fun x => ?_
  rw [cw_succ, ob_iff]
  simp only [evW, ob_iff]
  constructor
  · rintro ⟨n, r, h1, h2⟩; exact ⟨r, evW_cd h1, evSeqW_iff.2 ⟨n, h2⟩⟩
  · rintro ⟨r, h1, h2⟩
    obtain ⟨n, h1⟩ := cdW_iff.1 h1
    obtain ⟨m, h2⟩ := evSeqW_iff.1 h2
    exact ⟨max n m, r, evW_mono _ _ (Nat.le_max_left n m) _ _ _ _ h1, evSeqW_mono (fun s x hx => evW_mono _ _ (Nat.le_max_right n m) _ _ _ _ hx) h2⟩

theorem cw_loop (a : Ann) (b : WCode) (s : WSt) : CdW C base (.loop a b) s = ob (canon base a s) fun s => ob (CdW C base b s) (evSeqW (CdW C base (.loop a b))) := by
  refine opt_ext fun x => ?_
  rw [cw_succ, ob_iff]
  simp only [evW, ob_iff]
  constructor
  · rintro ⟨n, s0, h0, r, h1, h2⟩; exact ⟨s0, h0, r, evW_cd h1, evSeqW_iff.2 ⟨n, h2⟩⟩
  · rintro ⟨s0, h0, r, h1, h2⟩
    obtain ⟨n, h1⟩ := cdW_iff.1 h1
    obtain ⟨m, h2⟩ := evSeqW_iff.1 h2
    exact ⟨max n m, s0, h0, r, evW_mono _ _ (Nat.le_max_left n m) _ _ _ _ h1, evSeqW_mono (fun s x hx => evW_mono _ _ (Nat.le_max_right n m) _ _ _ _ hx) h2⟩

theorem cw_block (id : Nat) (b : WCode) (a : Ann) (s : WSt) : CdW C base (.block id b a) s = ob (CdW C base b s) (evBlockW base id a) := by
  refine opt_ext fun x => ?_
  rw [cw_succ, ob_iff]
  simp only [evW, ob_iff]
  constructor
  · rintro ⟨n, r, h1, h2⟩; exact ⟨r, evW_cd h1, h2⟩
  · rintro ⟨r, h1, h2⟩
    obtain ⟨n, h1⟩ := cdW_iff.1 h1
    exact ⟨n, r, h1, h2⟩

theorem cw_cond (c : Opd) (a b : WCode) (s : WSt) : CdW C base (.cond c a b) s = evCondW (CdW C base a) (CdW C base b) (c.ev s.env) s := by
  refine opt_ext fun x => ?_
  rw [cw_succ]
  simp only [evW]
  unfold evCondW
  split
  · rename_i t _
    cases t with
    | true => exact cdW_iff.symm
    | false => exact cdW_iff.symm
  · simp

theorem cw_ops (l : List COper) (a : Ann) (s : WSt) : CdW C base (.ops l a) s = ob (evOpsW C (RnW C) l s) fun s => om (canon base a s) fun s => (.norm, s) := by
  refine opt_ext fun x => ?_
  rw [cw_succ, ob_iff]
  simp only [evW, ob_iff]
  constructor
  · rintro ⟨n, r, h1, h2⟩; exact ⟨r, evOpsW_mono (runle_rnW n) _ _ _ h1, h2⟩
  · rintro ⟨r, h1, h2⟩
    obtain ⟨n, h1⟩ := evOpsW_cont _ _ _ h1
    exact ⟨n, r, h1, h2⟩

theorem cw_draw (l : List COper) (un : List (Nat × Nat)) (a : Ann) (s : WSt) : CdW C base (.draw l un a) s = ob (evDrawW C (RnW C) l s.next ⟨s.env, s.heap, s.next + l.length⟩ []) (drawEndW base un a) := by
  refine opt_ext fun x => ?_
  rw [cw_succ, ob_iff]
  simp only [evW, ob_iff]
  constructor
  · rintro ⟨n, r, h1, h2⟩; exact ⟨r, evDrawW_mono (runle_rnW n) _ _ _ _ _ h1, h2⟩
  · rintro ⟨r, h1, h2⟩
    obtain ⟨n, h1⟩ := evDrawW_cont _ _ _ _ _ h1
    exact ⟨n, r, h1, h2⟩

theorem fnW_call {f : Nat} {args : List AV} {v : AV} : FnW C f args = some v ↔ ∃ n, callW C n f args = some v := by
  unfold FnW callW pureCallW
  simp only [ob_iff]
  constructor
  · rintro ⟨r, h1, h2⟩
    obtain ⟨k, h1⟩ := rnW_run h1
    exact ⟨k, r, h1, h2⟩
  · rintro ⟨k, r, h1, h2⟩; exact ⟨r, runle_rnW k _ _ _ _ _ h1, h2⟩

end
end Go.Pw
