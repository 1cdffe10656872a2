/- The evaluator without fuel: what code comes to in the limit, and the equations of it. -/
import Derived.Test.YtebbokkffdjpdaaPavMono
namespace Go.Pav
open Go

section
open Classical

/-- The limit of answers that only grow. -/
noncomputable def lim {α : Type} (g : Nat → Option α) : Option α := if h : ∃ n a, g n = some a then some (Classical.choose (Classical.choose_spec h)) else none

def Mono {α : Type} (g : Nat → Option α) : Prop := ∀ n m, n ≤ m → ∀ a, g n = some a → g m = some a

theorem lim_eq {α : Type} {g : Nat → Option α} (hm : Mono g) {n : Nat} {a : α} (h : g n = some a) : lim g = some a := by
  have hx : ∃ n a, g n = some a := ⟨n, a, h⟩
  unfold lim
  rw [dif_pos hx]
  have h1 := Classical.choose_spec (Classical.choose_spec hx)
  have h2 := hm _ _ (Nat.le_max_left n (Classical.choose hx)) _ h
  have h3 := hm _ _ (Nat.le_max_right n (Classical.choose hx)) _ h1
  rw [h2] at h3
  exact h3.symm

theorem lim_some {α : Type} {g : Nat → Option α} (_hm : Mono g) {a : α} (h : lim g = some a) : ∃ n, g n = some a := by
  unfold lim at h
  split at h
  · rename_i hx
    cases h
    exact ⟨_, Classical.choose_spec (Classical.choose_spec hx)⟩
  · cases h

theorem lim_iff {α : Type} {g : Nat → Option α} (hm : Mono g) {a : α} : lim g = some a ↔ ∃ n, g n = some a :=
  ⟨lim_some hm, fun ⟨_, h⟩ => lim_eq hm h⟩

theorem opt_ext {α : Type} {x y : Option α} (h : ∀ a, x = some a ↔ y = some a) : x = y := by
  cases x with
  | none => cases y with
    | none => rfl
    | some b => exact absurd ((h b).2 rfl) (by simp)
  | some a => exact ((h a).1 rfl).symm

end

section
variable (C : Prog)

noncomputable def Cd (c : CCode) (s : St) : Option (Ex × St) := lim fun n => evC C n c s
noncomputable def Rn : Run := runWith C (Cd C)
noncomputable def Fn (f : Nat) (args : List AV) : Option AV := pureCall (Rn C) f args

end

section
variable {C : Prog}

theorem mono_C (c : CCode) (s : St) : Mono fun n => evC C n c s := fun n m h a ha => evC_mono n m h c s a ha

theorem cd_iff {c : CCode} {s : St} {x : Ex × St} : Cd C c s = some x ↔ ∃ n, evC C n c s = some x := lim_iff (mono_C c s)

theorem ev_cd {n : Nat} {c : CCode} {s : St} {x : Ex × St} (h : evC C n c s = some x) : Cd C c s = some x := cd_iff.2 ⟨n, h⟩

theorem runle_rn (n : Nat) : RunLe (Pav.run C n) (Rn C) := runWith_mono fun _ _ _ h => ev_cd h

theorem rn_run {f : Nat} {args : List AV} {h : Heap} {n : Nat} {x : AV × Heap × Nat} (hx : Rn C f args h n = some x) : ∃ k, Pav.run C k f args h n = some x := by
  unfold Rn runWith at hx
  cases hf : C.fns.get f with
  | none => rw [hf] at hx; simp [ob] at hx
  | some fn =>
    rw [hf] at hx
    simp only [ob] at hx
    split at hx
    · rename_i hl
      cases hc : Cd C fn.body ⟨argEnv 0 args, h, n⟩ with
      | none => rw [hc] at hx; cases hx
      | some y =>
        rw [hc] at hx
        obtain ⟨k, hk⟩ := cd_iff.1 hc
        refine ⟨k, ?_⟩
        unfold Pav.run runWith
        rw [hf]
        simp only [ob, if_pos hl, hk]
        exact hx
    · cases hx

theorem evCall_cont {f : Nat} {args : List AV} {h : Heap} {n : Nat} {c : Called} (hc : evCall C (Rn C) f args h n = some c) : ∃ k, evCall C (Pav.run C k) f args h n = some c := by
  unfold evCall at hc ⊢
  split
  · rename_i as ha
    rw [ha] at hc
    simp only at hc
    cases hp : pureCall (Rn C) f as with
    | none => rw [hp] at hc; cases hc
    | some v =>
      unfold pureCall at hp
      cases hr : Rn C f as [] 0 with
      | none => rw [hr] at hp; cases hp
      | some r =>
        obtain ⟨k, hk⟩ := rn_run hr
        refine ⟨k, ?_⟩
        unfold pureCall
        rw [hr] at hp
        rw [hk, hp, ← hc]
        unfold pureCall
        rw [hr, hp]
  · rename_i ha
    rw [ha] at hc
    simp only at hc
    unfold inlineCall at hc
    cases hr : Rn C f args h n with
    | none => rw [hr] at hc; cases hc
    | some r =>
      obtain ⟨k, hk⟩ := rn_run hr
      refine ⟨k, ?_⟩
      unfold inlineCall
      rw [hk, ← hc, hr]

theorem evOp_cont {o : COper} {nid : Nat} {e : Env} {h : Heap} {n : Nat} {d : Did} (hd : evOp C (Rn C) o nid e h n = some d) : ∃ k, evOp C (Pav.run C k) o nid e h n = some d := by
  unfold evOp at hd ⊢
  split
  · rename_i hc; rw [hc] at hd; cases hd
  · rename_i hc; rw [hc] at hd; exact ⟨0, hd⟩
  · rename_i hc
    rw [hc] at hd
    simp only at hd
    unfold evAct at hd ⊢
    split
    · rename_i hc; rw [hc] at hd; cases hd
    · rename_i hc
      rw [hc] at hd
      simp only at hd
      cases hr : evCall C (Rn C) _ _ h n with
      | none => rw [hr] at hd; cases hd
      | some r =>
        obtain ⟨k, hk⟩ := evCall_cont hr
        exact ⟨k, by rw [hk, ← hd, hr]⟩
    · rename_i hc; rw [hc] at hd; exact ⟨0, hd⟩

theorem evOps_cont : ∀ (l : List COper) (s s' : St), evOps C (Rn C) l s = some s' → ∃ k, evOps C (Pav.run C k) l s = some s' := by
  intro l
  induction l with
  | nil => intro s s' h; exact ⟨0, h⟩
  | cons o l ih =>
    intro s s' h
    simp only [evOps] at h ⊢
    cases hd : evOp C (Rn C) o s.next s.env s.heap (s.next + 1) with
    | none => rw [hd] at h; cases h
    | some d =>
      rw [hd] at h
      simp only [ob] at h
      obtain ⟨k1, h1⟩ := evOp_cont hd
      obtain ⟨k2, h2⟩ := ih _ _ h
      refine ⟨max k1 k2, ?_⟩
      rw [evOp_mono (run_mono (Nat.le_max_left k1 k2)) h1]
      exact evOps_mono (run_mono (Nat.le_max_right k1 k2)) _ _ _ h2

theorem evDraw_cont : ∀ (l : List COper) (nid : Nat) (s : St) (ds : List Did) (x : St × List Did), evDraw C (Rn C) l nid s ds = some x → ∃ k, evDraw C (Pav.run C k) l nid s ds = some x := by
  intro l
  induction l with
  | nil => intro nid s ds x h; exact ⟨0, h⟩
  | cons o l ih =>
    intro nid s ds x h
    simp only [evDraw] at h ⊢
    cases hd : evOp C (Rn C) o nid s.env s.heap s.next with
    | none => rw [hd] at h; cases h
    | some d =>
      rw [hd] at h
      simp only [ob] at h
      obtain ⟨k1, h1⟩ := evOp_cont hd
      obtain ⟨k2, h2⟩ := ih _ _ _ _ h
      refine ⟨max k1 k2, ?_⟩
      rw [evOp_mono (run_mono (Nat.le_max_left k1 k2)) h1]
      exact evDraw_mono (run_mono (Nat.le_max_right k1 k2)) _ _ _ _ _ h2

theorem cd_skip (s : St) : Cd C .skip s = some (.norm, s) := ev_cd (n := 1) rfl
theorem cd_exit (id : Nat) (s : St) : Cd C (.exit id) s = some (.exit id, s) := ev_cd (n := 1) rfl
theorem cd_ret (s : St) : Cd C .ret s = some (.ret, s) := ev_cd (n := 1) rfl

theorem cd_succ {c : CCode} {s : St} {x : Ex × St} : Cd C c s = some x ↔ ∃ n, evC C (n + 1) c s = some x := by
  rw [cd_iff]
  constructor
  · rintro ⟨n, h⟩; exact ⟨n, evC_mono n (n + 1) (Nat.le_succ n) c s x h⟩
  · rintro ⟨n, h⟩; exact ⟨_, h⟩

theorem ob_iff {α β : Type} {x : Option α} {f : α → Option β} {b : β} : ob x f = some b ↔ ∃ a, x = some a ∧ f a = some b := by
  cases x <;> simp [ob]

theorem om_iff {α β : Type} {x : Option α} {f : α → β} {b : β} : om x f = some b ↔ ∃ a, x = some a ∧ f a = b := by
  cases x <;> simp [om]

theorem evSeq_iff {b : CCode} {r x : Ex × St} : evSeq (Cd C b) r = some x ↔ ∃ n, evSeq (evC C n b) r = some x := by
  obtain ⟨ex, s⟩ := r
  cases ex with
  | norm => simp only [evSeq]; exact cd_iff
  | exit id => simp [evSeq]
  | ret => simp [evSeq]

theorem cd_seq (a b : CCode) (s : St) : Cd C (.seq a b) s = ob (Cd C a s) (evSeq (Cd C b)) := by
  refine opt_ext fun x => ?_
  rw [cd_succ, ob_iff]
  simp only [evC, ob_iff]
  constructor
  · rintro ⟨n, r, h1, h2⟩; exact ⟨r, ev_cd h1, evSeq_iff.2 ⟨n, h2⟩⟩
  · rintro ⟨r, h1, h2⟩
    obtain ⟨n, h1⟩ := cd_iff.1 h1
    obtain ⟨m, h2⟩ := evSeq_iff.1 h2
    exact ⟨max n m, r, evC_mono _ _ (Nat.le_max_left n m) _ _ _ h1, evSeq_mono (fun s x hx => evC_mono _ _ (Nat.le_max_right n m) _ _ _ hx) h2⟩

theorem cd_loop (live : Nat) (b : CCode) (s : St) : Cd C (.loop live b) s = ob (Cd C b (dropEnv live s)) (evSeq (Cd C (.loop live b))) := by
  refine opt_ext fun x => ?_
  rw [cd_succ, ob_iff]
  simp only [evC, ob_iff]
  constructor
  · rintro ⟨n, r, h1, h2⟩; exact ⟨r, ev_cd h1, evSeq_iff.2 ⟨n, h2⟩⟩
  · rintro ⟨r, h1, h2⟩
    obtain ⟨n, h1⟩ := cd_iff.1 h1
    obtain ⟨m, h2⟩ := evSeq_iff.1 h2
    exact ⟨max n m, r, evC_mono _ _ (Nat.le_max_left n m) _ _ _ h1, evSeq_mono (fun s x hx => evC_mono _ _ (Nat.le_max_right n m) _ _ _ hx) h2⟩

theorem cd_block (id : Nat) (b : CCode) (s : St) : Cd C (.block id b) s = om (Cd C b s) (evBlock id) := by
  refine opt_ext fun x => ?_
  rw [cd_succ, om_iff]
  simp only [evC, om_iff]
  constructor
  · rintro ⟨n, r, h1, h2⟩; exact ⟨r, ev_cd h1, h2⟩
  · rintro ⟨r, h1, h2⟩
    obtain ⟨n, h1⟩ := cd_iff.1 h1
    exact ⟨n, r, h1, h2⟩

theorem cd_cond (c : Opd) (a b : CCode) (s : St) : Cd C (.cond c a b) s = evCond (Cd C a) (Cd C b) (c.ev s.env) s := by
  refine opt_ext fun x => ?_
  rw [cd_succ]
  simp only [evC]
  unfold evCond
  split
  · rename_i t _
    cases t with
    | true => exact cd_iff.symm
    | false => exact cd_iff.symm
  · simp

theorem cd_ops (l : List COper) (live : Nat) (s : St) : Cd C (.ops l live) s = om (evOps C (Rn C) l s) fun s => (.norm, dropEnv live s) := by
  refine opt_ext fun x => ?_
  rw [cd_succ, om_iff]
  simp only [evC, om_iff]
  constructor
  · rintro ⟨n, r, h1, h2⟩; exact ⟨r, evOps_mono (runle_rn n) _ _ _ h1, h2⟩
  · rintro ⟨r, h1, h2⟩
    obtain ⟨n, h1⟩ := evOps_cont _ _ _ h1
    exact ⟨n, r, h1, h2⟩

theorem cd_draw (l : List COper) (un : List (Nat × Nat)) (live : Nat) (s : St) : Cd C (.draw l un live) s = ob (evDraw C (Rn C) l s.next ⟨s.env, s.heap, s.next + l.length⟩ []) (drawEnd un live) := by
  refine opt_ext fun x => ?_
  rw [cd_succ, ob_iff]
  simp only [evC, ob_iff]
  constructor
  · rintro ⟨n, r, h1, h2⟩; exact ⟨r, evDraw_mono (runle_rn n) _ _ _ _ _ h1, h2⟩
  · rintro ⟨r, h1, h2⟩
    obtain ⟨n, h1⟩ := evDraw_cont _ _ _ _ _ h1
    exact ⟨n, r, h1, h2⟩

theorem fn_call {f : Nat} {args : List AV} {v : AV} : Fn C f args = some v ↔ ∃ n, callF C n f args = some v := by
  unfold Fn callF pureCall
  simp only [ob_iff]
  constructor
  · rintro ⟨r, h1, h2⟩
    obtain ⟨k, h1⟩ := rn_run h1
    exact ⟨k, r, h1, h2⟩
  · rintro ⟨k, r, h1, h2⟩; exact ⟨r, runle_rn k _ _ _ _ _ h1, h2⟩

end
end Go.Pav
