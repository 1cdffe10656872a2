/- More fuel, the same answer. -/
import Derived.Test.YtebbokkffdjpdaaPavDefs
namespace Go.Pav
open Go

/-- One run says at least what another says. -/
def RunLe (r r' : Run) : Prop := ∀ f args h n x, r f args h n = some x → r' f args h n = some x

theorem ob_mono {α β : Type} {x x' : Option α} {f f' : α → Option β} {b : β} (h : ob x f = some b) (hx : ∀ a, x = some a → x' = some a) (hf : ∀ a, f a = some b → f' a = some b) : ob x' f' = some b := by
  cases x with
  | none => simp [ob] at h
  | some a => rw [hx a rfl]; exact hf a h

theorem om_mono {α β : Type} {x x' : Option α} {f : α → β} {b : β} (h : om x f = some b) (hx : ∀ a, x = some a → x' = some a) : om x' f = some b := by
  cases x with
  | none => simp [om] at h
  | some a => rw [hx a rfl]; exact h

section
variable {C : Prog} {r r' : Run}

theorem evCall_mono (hr : RunLe r r') {f : Nat} {args : List AV} {h : Heap} {n : Nat} {c : Called} (hc : evCall C r f args h n = some c) : evCall C r' f args h n = some c := by
  unfold evCall at hc ⊢
  split
  · rename_i as ha
    rw [ha] at hc
    exact om_mono hc fun v hv => ob_mono hv (fun x hx => hr _ _ _ _ _ hx) fun x hx => hx
  · rename_i ha
    rw [ha] at hc
    exact om_mono hc fun v hv => om_mono hv fun x hx => hr _ _ _ _ _ hx

theorem evAct_mono (hr : RunLe r r') {op : COp} {nid : Nat} {e : Env} {h : Heap} {n : Nat} {d : Did} (hd : evAct C r op nid e h n = some d) : evAct C r' op nid e h n = some d := by
  unfold evAct at hd ⊢
  split
  · rename_i hc; rw [hc] at hd; cases hd
  · rename_i hc; rw [hc] at hd; exact om_mono hd fun c hc => evCall_mono hr hc
  · rename_i hc; rw [hc] at hd; exact hd

theorem evOp_mono (hr : RunLe r r') {o : COper} {nid : Nat} {e : Env} {h : Heap} {n : Nat} {d : Did} (hd : evOp C r o nid e h n = some d) : evOp C r' o nid e h n = some d := by
  unfold evOp at hd ⊢
  split
  · rename_i hc; rw [hc] at hd; cases hd
  · rename_i hc; rw [hc] at hd; exact hd
  · rename_i hc; rw [hc] at hd; exact evAct_mono hr hd

theorem evOps_mono (hr : RunLe r r') : ∀ (l : List COper) (s s' : St), evOps C r l s = some s' → evOps C r' l s = some s' := by
  intro l
  induction l with
  | nil => intro s s' h; exact h
  | cons o l ih => intro s s' h; exact ob_mono h (fun d hd => evOp_mono hr hd) fun d hd => ih _ _ hd

theorem evDraw_mono (hr : RunLe r r') : ∀ (l : List COper) (nid : Nat) (s : St) (ds : List Did) (x : St × List Did), evDraw C r l nid s ds = some x → evDraw C r' l nid s ds = some x := by
  intro l
  induction l with
  | nil => intro nid s ds x h; exact h
  | cons o l ih => intro nid s ds x h; exact ob_mono h (fun d hd => evOp_mono hr hd) fun d hd => ih _ _ _ _ hd

theorem runWith_mono {ev ev' : CCode → St → Option (Ex × St)} (he : ∀ c s x, ev c s = some x → ev' c s = some x) : RunLe (runWith C ev) (runWith C ev') := by
  intro f args h n x hx
  refine ob_mono hx (fun a ha => ha) fun fn hfn => ?_
  split
  · rename_i hl
    rw [if_pos hl] at hfn
    exact ob_mono hfn (fun a ha => he _ _ _ ha) fun a ha => ha
  · rename_i hl
    rw [if_neg hl] at hfn; cases hfn

theorem evSeq_mono {b b' : St → Option (Ex × St)} (h : ∀ s x, b s = some x → b' s = some x) {r : Ex × St} {x : Ex × St} (hx : evSeq b r = some x) : evSeq b' r = some x := by
  unfold evSeq at hx ⊢
  split
  · rename_i hr; rw [hr] at hx; exact h _ _ hx
  · split at hx
    · rename_i h1 _ h2; exact absurd h2 h1
    · exact hx

theorem evC_mono : ∀ (n m : Nat), n ≤ m → ∀ (c : CCode) (s : St) (x : Ex × St), evC C n c s = some x → evC C m c s = some x := by
  intro n
  induction n with
  | zero => intro m _ c s x h; simp only [evC] at h; cases h
  | succ n ih =>
    intro m hm c s x h
    obtain ⟨m, rfl⟩ : ∃ k, m = k + 1 := ⟨m - 1, by omega⟩
    have ih' := ih m (by omega)
    have hr : RunLe (runWith C (evC C n)) (runWith C (evC C m)) := runWith_mono ih'
    cases c with
    | skip => exact h
    | exit id => exact h
    | ret => exact h
    | fail => exact h
    | ops l live => simp only [evC] at h ⊢; exact om_mono h fun s' hs => evOps_mono hr l s s' hs
    | draw l un live => simp only [evC] at h ⊢; exact ob_mono h (fun x hx => evDraw_mono hr l _ _ _ x hx) fun x hx => hx
    | seq a b => simp only [evC] at h ⊢; exact ob_mono h (fun x hx => ih' _ _ _ hx) fun x hx => evSeq_mono (fun s x hx => ih' _ _ _ hx) hx
    | cond c a b =>
      simp only [evC] at h ⊢
      unfold evCond at h ⊢
      split
      · rename_i t hv
        rw [hv] at h
        cases t with
        | true => exact ih' _ _ _ h
        | false => exact ih' _ _ _ h
      · split at h
        · rename_i h1 _ t hv; exact absurd hv (h1 t)
        · cases h
    | block id b => simp only [evC] at h ⊢; exact om_mono h fun x hx => ih' _ _ _ hx
    | loop live b => simp only [evC] at h ⊢; exact ob_mono h (fun x hx => ih' _ _ _ hx) fun x hx => evSeq_mono (fun s x hx => ih' _ _ _ hx) hx

theorem run_mono {n m : Nat} (h : n ≤ m) : RunLe (Pav.run C n) (Pav.run C m) := runWith_mono (evC_mono n m h)

end
end Go.Pav
