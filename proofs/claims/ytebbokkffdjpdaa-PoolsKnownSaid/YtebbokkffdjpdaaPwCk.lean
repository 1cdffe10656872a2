/- The second machine with its continuation laid open: equations for walking. -/
import Derived.Test.YtebbokkffdjpdaaPwDen
namespace Go.Pw
open Go Go.Pav

inductive Frame where
  | sq (b : WCode)
  | bk (id : Nat) (a : Ann)
  | lp (a : Ann) (b : WCode)

/-- The value in a slot is known. -/
def setE : Env → Nat → AV → Env
  | [], _, _ => []
  | (k, v) :: r, g, x => if k = g then (k, x) :: r else (k, v) :: setE r g x

section
variable {β : Type}

noncomputable def RK (C : WProg) (base : Nat) : List Frame → Ex × WSt → Option (Ex × WSt)
  | [], r => some r
  | .sq b :: k, r => ob (evSeqW (CdW C base b) r) (RK C base k)
  | .bk id a :: k, r => ob (evBlockW base id a r) (RK C base k)
  | .lp a b :: k, r => ob (evSeqW (CdW C base (.loop a b)) r) (RK C base k)

/-- From code on to the end. -/
noncomputable def CK (C : WProg) (base : Nat) (fin : Ex × WSt → Option β) (k : List Frame) (c : WCode) (s : WSt) : Option β := ob (CdW C base c s) fun r => ob (RK C base k r) fin
/-- From what a code came to on to the end. -/
noncomputable def NK (C : WProg) (base : Nat) (fin : Ex × WSt → Option β) (k : List Frame) (ex : Ex) (s : WSt) : Option β := ob (RK C base k (ex, s)) fin
noncomputable def AK (C : WProg) (base : Nat) (fin : Ex × WSt → Option β) (k : List Frame) (s : Option WSt) : Option β := ob s fun s => NK C base fin k .norm s
noncomputable def LK (C : WProg) (base : Nat) (fin : Ex × WSt → Option β) (k : List Frame) (b : WCode) (s : Option WSt) : Option β := ob s fun s => CK C base fin k b s
noncomputable def OK (C : WProg) (base : Nat) (fin : Ex × WSt → Option β) (k : List Frame) (a : Ann) (l : List COper) (s : WSt) : Option β :=
  ob (evOpsW C (RnW C) l s) fun s => AK C base fin k (canon base a s)
noncomputable def SK (C : WProg) (base : Nat) (fin : Ex × WSt → Option β) (k : List Frame) (a : Ann) (l : List COper) (d : Option Nat) (e : Env) (h : WHeap) (n : Nat) (x : Option (AV × WUpd)) : Option β :=
  ob x fun x => OK C base fin k a l ⟨setD e d x.1, applyW h x.2, n⟩
noncomputable def condK (C : WProg) (base : Nat) (fin : Ex × WSt → Option β) (k : List Frame) (a b : WCode) (s : WSt) (v : AV) : Option β :=
  match v with
  | .bool t => if t = true then CK C base fin k a s else CK C base fin k b s
  | _ => none
noncomputable def GK (C : WProg) (base : Nat) (fin : Ex × WSt → Option β) (k : List Frame) (a : Ann) (l : List COper) (d : Option Nat) (op : COp) (g : Nat) (w : Bool) (e : Env) (h : WHeap) (n : Nat) (v : Option AV) : Option β :=
  match v with
  | some (.bool b) => if b = w then OK C base fin k a (⟨d, none, op⟩ :: l) ⟨setE e g (.bool w), h, n⟩ else OK C base fin k a l ⟨setD (setE e g (.bool (!w))) d (.tup []), h, n + 1⟩
  | some (.tup []) => OK C base fin k a l ⟨setD e d (.tup []), h, n + 1⟩
  | _ => none
/-- A call: what the function gives on data, or how it runs on the heap. -/
noncomputable def VK (C : WProg) (base : Nat) (fin : Ex × WSt → Option β) (k : List Frame) (a : Ann) (l : List COper) (d : Option Nat) (e : Env) (h : WHeap) (n : Nat) (args : List AV) (v : Option AV) : Option β :=
  ob v fun v => OK C base fin k a l ⟨setD e d v, applyW h (marksW h args v), n⟩
noncomputable def WK (C : WProg) (base : Nat) (fin : Ex × WSt → Option β) (k : List Frame) (a : Ann) (l : List COper) (d : Option Nat) (e : Env) (r : Option (AV × WHeap × Nat)) : Option β :=
  ob r fun r => OK C base fin k a l ⟨setD e d r.1, r.2.1, r.2.2⟩
noncomputable def PK (C : WProg) (base : Nat) (fin : Ex × WSt → Option β) (k : List Frame) (a : Ann) (l : List COper) (d : Option Nat) (e : Env) (h : WHeap) (n : Nat) (f : Nat) (args : List AV) (as : Option (List AV)) : Option β :=
  ob as fun as => VK C base fin k a l d e h n args (FnW C f as)
noncomputable def FK (C : WProg) (base : Nat) (fin : Ex × WSt → Option β) (k : List Frame) (a : Ann) (l : List COper) (d : Option Nat) (e : Env) (h : WHeap) (n : Nat) (f : Nat) (args : List AV) (inl ptr : Bool) : Option β :=
  if inl = true then WK C base fin k a l d e (RnW C f args h n) else if ptr = true then WK C base fin k a l d e (RnW C f args h n) else PK C base fin k a l d e h n f args (mapO (frzW h frzDepth) args)
noncomputable def QK (C : WProg) (base : Nat) (fin : Ex × WSt → Option β) (k : List Frame) (a : Ann) (l : List COper) (d : Option Nat) (e : Env) (h : WHeap) (n : Nat) (args : List AV) (g : AV) : Option β :=
  match g with
  | .fn f caps => FK C base fin k a l d e h n f (args ++ caps) (C.inl f) (hasPtrL (args ++ caps))
  | _ => none

/-- Regions whose order is drawn: each operation's reads and writes are kept. -/
abbrev RW := Bool × List Nat × List Nat
def rwOf (d : WDid) : RW := (d.bar, d.rd, d.wr)
def clashR (a b : RW) : Bool := a.1 || (b.1 || (meets a.2.2 b.2.2 || (meets a.2.2 b.2.1 || meets a.2.1 b.2.2)))
def apartR (ds : List RW) (p : Nat × Nat) : Bool :=
  match ds[p.1]?, ds[p.2]? with
  | some a, some b => !clashR a b
  | _, _ => false
noncomputable def EK (C : WProg) (base : Nat) (fin : Ex × WSt → Option β) (k : List Frame) (a : Ann) (s : WSt) (ok : Bool) : Option β :=
  if ok = true then AK C base fin k (canon base a s) else none
noncomputable def DK (C : WProg) (base : Nat) (fin : Ex × WSt → Option β) (k : List Frame) (a : Ann) (un : List (Nat × Nat)) (l : List COper) (nid : Nat) (s : WSt) (ds : List RW) : Option β :=
  ob (evDrawW C (RnW C) l nid s []) fun r => EK C base fin k a r.1 (un.all (apartR (ds ++ r.2.map rwOf)))
noncomputable def DSK (C : WProg) (base : Nat) (fin : Ex × WSt → Option β) (k : List Frame) (a : Ann) (un : List (Nat × Nat)) (l : List COper) (nid : Nat) (d : Option Nat) (e : Env) (h : WHeap) (n : Nat) (ds : List RW) (rd : List Nat) (x : Option (AV × WUpd)) : Option β :=
  ob x fun x => DK C base fin k a un l nid ⟨setD e d x.1, applyW h x.2, n⟩ (ds ++ [(false, rd, x.2.map (·.1))])
noncomputable def DGK (C : WProg) (base : Nat) (fin : Ex × WSt → Option β) (k : List Frame) (a : Ann) (un : List (Nat × Nat)) (l : List COper) (nid : Nat) (d : Option Nat) (op : COp) (g : Nat) (w : Bool) (e : Env) (h : WHeap) (n : Nat) (ds : List RW) (v : Option AV) : Option β :=
  match v with
  | some (.bool b) => if b = w then DK C base fin k a un (⟨d, none, op⟩ :: l) nid ⟨setE e g (.bool w), h, n⟩ ds else DK C base fin k a un l (nid + 1) ⟨setD (setE e g (.bool (!w))) d (.tup []), h, n⟩ (ds ++ [(false, [], [])])
  | some (.tup []) => DK C base fin k a un l (nid + 1) ⟨setD e d (.tup []), h, n⟩ (ds ++ [(false, [], [])])
  | _ => none
noncomputable def DVK (C : WProg) (base : Nat) (fin : Ex × WSt → Option β) (k : List Frame) (a : Ann) (un : List (Nat × Nat)) (l : List COper) (nid : Nat) (d : Option Nat) (e : Env) (h : WHeap) (n : Nat) (ds : List RW) (args : List AV) (v : Option AV) : Option β :=
  ob v fun v => DK C base fin k a un l nid ⟨setD e d v, applyW h (marksW h args v), n⟩ (ds ++ [(false, args.flatMap (reachW h frzDepth), (marksW h args v).map (·.1))])
noncomputable def DWK (C : WProg) (base : Nat) (fin : Ex × WSt → Option β) (k : List Frame) (a : Ann) (un : List (Nat × Nat)) (l : List COper) (nid : Nat) (d : Option Nat) (e : Env) (ds : List RW) (r : Option (AV × WHeap × Nat)) : Option β :=
  ob r fun r => DK C base fin k a un l nid ⟨setD e d r.1, r.2.1, r.2.2⟩ (ds ++ [(true, [], [])])
noncomputable def DPK (C : WProg) (base : Nat) (fin : Ex × WSt → Option β) (k : List Frame) (a : Ann) (un : List (Nat × Nat)) (l : List COper) (nid : Nat) (d : Option Nat) (e : Env) (h : WHeap) (n : Nat) (ds : List RW) (f : Nat) (args : List AV) (as : Option (List AV)) : Option β :=
  ob as fun as => DVK C base fin k a un l nid d e h n ds args (FnW C f as)
noncomputable def DFK (C : WProg) (base : Nat) (fin : Ex × WSt → Option β) (k : List Frame) (a : Ann) (un : List (Nat × Nat)) (l : List COper) (nid : Nat) (d : Option Nat) (e : Env) (h : WHeap) (n : Nat) (ds : List RW) (f : Nat) (args : List AV) (inl ptr : Bool) : Option β :=
  if inl = true then DWK C base fin k a un l nid d e ds (RnW C f args h n) else if ptr = true then DWK C base fin k a un l nid d e ds (RnW C f args h n) else DPK C base fin k a un l nid d e h n ds f args (mapO (frzW h frzDepth) args)
noncomputable def DQK (C : WProg) (base : Nat) (fin : Ex × WSt → Option β) (k : List Frame) (a : Ann) (un : List (Nat × Nat)) (l : List COper) (nid : Nat) (d : Option Nat) (e : Env) (h : WHeap) (n : Nat) (ds : List RW) (args : List AV) (g : AV) : Option β :=
  match g with
  | .fn f caps => DFK C base fin k a un l nid d e h n ds f (args ++ caps) (C.inl f) (hasPtrL (args ++ caps))
  | _ => none

/-- The end of a function on data. -/
def pureFin (res : List CRes) (r : Ex × WSt) : Option AV := ob (fnEndW res r) fun r => frzW r.2.1 frzDepth r.1

end

section
variable {β : Type} {C : WProg} {base : Nat} {fin : Ex × WSt → Option β} {k : List Frame}

theorem ob_assoc {α γ δ : Type} (x : Option α) (f : α → Option γ) (g : γ → Option δ) : ob (ob x f) g = ob x fun a => ob (f a) g := by cases x <;> rfl
theorem ob_om {α γ δ : Type} (x : Option α) (f : α → γ) (g : γ → Option δ) : ob (om x f) g = ob x fun a => g (f a) := by cases x <;> rfl
theorem ob_ite {α γ : Type} {c : Prop} [Decidable c] (x y : Option α) (g : α → Option γ) : ob (if c then x else y) g = if c then ob x g else ob y g := by split <;> rfl

theorem ck_seq (a b : WCode) (s : WSt) : CK C base fin k (.seq a b) s = CK C base fin (.sq b :: k) a s := by
  unfold CK; rw [cw_seq]; simp only [RK, ob_assoc]
theorem ck_skip (s : WSt) : CK C base fin k .skip s = NK C base fin k .norm s := by unfold CK NK; rw [cw_skip]; rfl
theorem ck_exit (i : Nat) (s : WSt) : CK C base fin k (.exit i) s = NK C base fin k (.exit i) s := by unfold CK NK; rw [cw_exit]; rfl
theorem ck_ret (s : WSt) : CK C base fin k .ret s = NK C base fin k .ret s := by unfold CK NK; rw [cw_ret]; rfl
theorem ck_cond (c : Opd) (a b : WCode) (s : WSt) : CK C base fin k (.cond c a b) s = condK C base fin k a b s (c.ev s.env) := by
  unfold CK condK; rw [cw_cond]; unfold evCondW
  cases c.ev s.env <;> try rfl
  rename_i t; cases t <;> rfl
theorem ck_block (id : Nat) (b : WCode) (a : Ann) (s : WSt) : CK C base fin k (.block id b a) s = CK C base fin (.bk id a :: k) b s := by
  unfold CK; rw [cw_block]; simp only [RK, ob_assoc]
theorem ck_loop (a : Ann) (b : WCode) (s : WSt) : CK C base fin k (.loop a b) s = LK C base fin (.lp a b :: k) b (canon base a s) := by
  unfold CK LK CK; rw [cw_loop]; simp only [RK, ob_assoc]
/-- A loop, by its name. -/
theorem ck_lp {L : WCode} {a : Ann} {b : WCode} {s : WSt} (hL : L = .loop a b) : CK C base fin k L s = LK C base fin (.sq L :: k) b (canon base a s) := by
  subst hL; unfold CK LK CK; rw [cw_loop]; simp only [RK, ob_assoc]
/-- A code, by its name. -/
theorem ck_unf {c c' : WCode} {s : WSt} (hc : c = c') : CK C base fin k c s = CK C base fin k c' s := by rw [hc]
theorem ck_ops (l : List COper) (a : Ann) (s : WSt) : CK C base fin k (.ops l a) s = OK C base fin k a l s := by
  unfold CK OK AK NK; rw [cw_ops]; simp only [ob_assoc, ob_om]
theorem ck_draw (l : List COper) (un : List (Nat × Nat)) (a : Ann) (e : Env) (h : WHeap) (n : Nat) : CK C base fin k (.draw l un a) ⟨e, h, n⟩ = DK C base fin k a un l n ⟨e, h, n + l.length⟩ [] := by
  unfold CK DK EK AK NK; rw [cw_draw]; simp only [ob_assoc]
  have : ∀ r : WSt × List WDid, (ob (drawEndW base un a r) fun r => ob (RK C base k r) fin) = (if (un.all (apartR ([] ++ r.2.map rwOf))) = true then ob (canon base a r.1) fun s => ob (RK C base k (.norm, s)) fin else none) := by
    rintro ⟨s, ds⟩
    have e1 : un.all (apartW ds) = un.all (apartR ([] ++ ds.map rwOf)) := by
      congr 1
      funext p
      simp only [apartW, apartR, List.nil_append, List.getElem?_map]
      cases ds[p.1]? <;> cases ds[p.2]? <;> rfl
    simp only [drawEndW, e1]
    split
    · simp only [ob_om]
    · rfl
  simp only [this]
theorem nk_nil (ex : Ex) (s : WSt) : NK C base fin [] ex s = fin (ex, s) := rfl
theorem nk_sq (b : WCode) (s : WSt) : NK C base fin (.sq b :: k) .norm s = CK C base fin k b s := by unfold NK CK; simp only [RK, evSeqW, ob_assoc]
theorem nk_sq_exit (b : WCode) (i : Nat) (s : WSt) : NK C base fin (.sq b :: k) (.exit i) s = NK C base fin k (.exit i) s := by unfold NK; simp only [RK, evSeqW, ob]
theorem nk_sq_ret (b : WCode) (s : WSt) : NK C base fin (.sq b :: k) .ret s = NK C base fin k .ret s := by unfold NK; simp only [RK, evSeqW, ob]
theorem nk_lp (a : Ann) (b : WCode) (s : WSt) : NK C base fin (.lp a b :: k) .norm s = CK C base fin k (.loop a b) s := by unfold NK CK; simp only [RK, evSeqW, ob_assoc]
theorem nk_lp_exit (a : Ann) (b : WCode) (i : Nat) (s : WSt) : NK C base fin (.lp a b :: k) (.exit i) s = NK C base fin k (.exit i) s := by unfold NK; simp only [RK, evSeqW, ob]
theorem nk_lp_ret (a : Ann) (b : WCode) (s : WSt) : NK C base fin (.lp a b :: k) .ret s = NK C base fin k .ret s := by unfold NK; simp only [RK, evSeqW, ob]
theorem nk_bk (id : Nat) (a : Ann) (s : WSt) : NK C base fin (.bk id a :: k) .norm s = AK C base fin k (canon base a s) := by unfold NK AK NK; simp only [RK, evBlockW, ob_assoc, ob_om]
theorem nk_bk_exit (id : Nat) (a : Ann) (i : Nat) (s : WSt) : NK C base fin (.bk id a :: k) (.exit i) s = if i = id then AK C base fin k (canon base a s) else NK C base fin k (.exit i) s := by
  unfold NK AK NK; simp only [RK, evBlockW]
  split
  · simp only [ob_assoc, ob_om]
  · rfl
theorem nk_bk_ret (id : Nat) (a : Ann) (s : WSt) : NK C base fin (.bk id a :: k) .ret s = NK C base fin k .ret s := by unfold NK; simp only [RK, evBlockW, ob]
theorem ak_some (s : WSt) : AK C base fin k (some s) = NK C base fin k .norm s := rfl
theorem lk_some (b : WCode) (s : WSt) : LK C base fin k b (some s) = CK C base fin k b s := rfl
theorem condK_true (a b : WCode) (s : WSt) : condK C base fin k a b s (.bool true) = CK C base fin k a s := rfl
theorem condK_false (a b : WCode) (s : WSt) : condK C base fin k a b s (.bool false) = CK C base fin k b s := rfl
theorem condK_bool (a b : WCode) (s : WSt) (t : Bool) : condK C base fin k a b s (.bool t) = if t = true then CK C base fin k a s else CK C base fin k b s := rfl

variable {a : Ann} {l : List COper} {d : Option Nat} {e : Env} {h : WHeap} {n : Nat}

theorem ok_nil (s : WSt) : OK C base fin k a [] s = AK C base fin k (canon base a s) := rfl

theorem ok_step {op : COp} (hc : callOf e op = some none) : OK C base fin k a (⟨d, none, op⟩ :: l) ⟨e, h, n⟩ = SK C base fin k a l d e h (n + 1) (stepW op e h n) := by
  unfold OK SK OK
  simp only [evOpsW, evOpW, wants, evActW, hc]
  cases stepW op e h n <;> rfl

theorem sk_some (v : AV) (u : WUpd) : SK C base fin k a l d e h n (some (v, u)) = OK C base fin k a l ⟨setD e d v, applyW h u, n⟩ := rfl

theorem setE_same : ∀ {e : Env} {g : Nat} {v : AV}, get e g = some v → setE e g v = e := by
  intro e
  induction e with
  | nil => intro g v h; rfl
  | cons x e ih =>
    intro g v hg
    obtain ⟨j, u⟩ := x
    simp only [Pav.get] at hg
    simp only [setE]
    split at hg
    · rename_i hj; cases hg; rw [if_pos hj]
    · rename_i hj; rw [if_neg hj, ih hg]

theorem gk_bool {op : COp} {g : Nat} {w b : Bool} : GK C base fin k a l d op g w e h n (some (.bool b)) = if b = w then OK C base fin k a (⟨d, none, op⟩ :: l) ⟨setE e g (.bool w), h, n⟩ else OK C base fin k a l ⟨setD (setE e g (.bool (!w))) d (.tup []), h, n + 1⟩ := rfl
theorem gk_true_true {op : COp} {g : Nat} : GK C base fin k a l d op g true e h n (some (.bool true)) = OK C base fin k a (⟨d, none, op⟩ :: l) ⟨setE e g (.bool true), h, n⟩ := rfl
theorem gk_false_false {op : COp} {g : Nat} : GK C base fin k a l d op g false e h n (some (.bool false)) = OK C base fin k a (⟨d, none, op⟩ :: l) ⟨setE e g (.bool false), h, n⟩ := rfl
theorem gk_true_false {op : COp} {g : Nat} : GK C base fin k a l d op g true e h n (some (.bool false)) = OK C base fin k a l ⟨setD (setE e g (.bool false)) d (.tup []), h, n + 1⟩ := rfl
theorem gk_false_true {op : COp} {g : Nat} : GK C base fin k a l d op g false e h n (some (.bool true)) = OK C base fin k a l ⟨setD (setE e g (.bool true)) d (.tup []), h, n + 1⟩ := rfl
theorem gk_tup {op : COp} {g : Nat} {w : Bool} : GK C base fin k a l d op g w e h n (some (.tup [])) = OK C base fin k a l ⟨setD e d (.tup []), h, n + 1⟩ := rfl

theorem ok_guard {op : COp} {g : Nat} {w : Bool} : OK C base fin k a (⟨d, some (g, w), op⟩ :: l) ⟨e, h, n⟩ = GK C base fin k a l d op g w e h n (get e g) := by
  unfold OK GK
  simp only [evOpsW, evOpW, wants]
  cases hg : get e g with
  | none => rfl
  | some v =>
    cases v with
    | bool b =>
      simp only
      by_cases hw : b = w
      · subst hw
        rw [setE_same hg, if_pos rfl]
        simp only [OK, evOpsW, evOpW, wants, beq_self_eq_true]
      · have e1 : (b == w) = false := by simpa using hw
        have e2 : (!w) = b := by cases b <;> cases w <;> simp_all
        rw [if_neg hw, e2, setE_same hg]
        simp only [e1, ob, OK]
    | tup vs =>
      cases vs with
      | nil => rfl
      | cons _ _ => rfl
    | _ => rfl

theorem vk_some {args : List AV} (v : AV) : VK C base fin k a l d e h n args (some v) = OK C base fin k a l ⟨setD e d v, applyW h (marksW h args v), n⟩ := rfl
theorem wk_some (r : AV × WHeap × Nat) : WK C base fin k a l d e (some r) = OK C base fin k a l ⟨setD e d r.1, r.2.1, r.2.2⟩ := rfl
theorem pk_some {f : Nat} {args : List AV} (as : List AV) : PK C base fin k a l d e h n f args (some as) = VK C base fin k a l d e h n args (FnW C f as) := rfl
theorem fk_pure {f : Nat} {args : List AV} : FK C base fin k a l d e h n f args false false = PK C base fin k a l d e h n f args (mapO (frzW h frzDepth) args) := rfl
theorem fk_inl {f : Nat} {args : List AV} {p : Bool} : FK C base fin k a l d e h n f args true p = WK C base fin k a l d e (RnW C f args h n) := rfl
theorem fk_ptr {f : Nat} {args : List AV} : FK C base fin k a l d e h n f args false true = WK C base fin k a l d e (RnW C f args h n) := rfl
theorem qk_fn {f : Nat} {args caps : List AV} : QK C base fin k a l d e h n args (.fn f caps) = FK C base fin k a l d e h n f (args ++ caps) (C.inl f) (hasPtrL (args ++ caps)) := rfl

theorem fk_eq {f : Nat} {args : List AV} : (ob (om (evCallW C (RnW C) f args h n) (doneCallW h n args)) fun r => OK C base fin k a l ⟨setD e d r.v, r.h, r.n⟩) = FK C base fin k a l d e h n f args (C.inl f) (hasPtrL args) := by
  unfold FK evCallW WK PK VK FnW
  split
  · cases RnW C f args h n <;> rfl
  · split
    · cases RnW C f args h n <;> rfl
    · cases mapO (frzW h frzDepth) args with
      | none => rfl
      | some as =>
        simp only [ob]
        cases pureCallW (RnW C) f as <;> rfl

theorem ok_call {f : Nat} {xs : List Opd} : OK C base fin k a (⟨d, none, .call f xs⟩ :: l) ⟨e, h, n⟩ = FK C base fin k a l d e h (n + 1) f (xs.map fun x => x.ev e) (C.inl f) (hasPtrL (xs.map fun x => x.ev e)) := by
  rw [← fk_eq]
  unfold OK
  simp only [evOpsW, evOpW, wants, evActW, callOf, ob_assoc]

theorem ok_callv {g : Opd} {xs : List Opd} : OK C base fin k a (⟨d, none, .callv g xs⟩ :: l) ⟨e, h, n⟩ = QK C base fin k a l d e h (n + 1) (xs.map fun x => x.ev e) (g.ev e) := by
  unfold QK
  cases hg : g.ev e with
  | fn f caps =>
    simp only
    rw [← fk_eq]
    unfold OK
    simp only [evOpsW, evOpW, wants, evActW, callOf, hg, ob_assoc]
  | _ =>
    unfold OK
    simp only [evOpsW, evOpW, wants, evActW, callOf, hg]
    rfl

/- Drawn regions. -/
variable {un : List (Nat × Nat)} {nid : Nat} {ds : List RW}

theorem evDrawW_acc {r : WRun} : ∀ (l : List COper) (nid : Nat) (s : WSt) (ds : List WDid), evDrawW C r l nid s ds = om (evDrawW C r l nid s []) fun x => (x.1, ds ++ x.2) := by
  intro l
  induction l with
  | nil => intro nid s ds; simp [evDrawW, om]
  | cons o l ih =>
    intro nid s ds
    simp only [evDrawW]
    cases evOpW C r o nid s.env s.heap s.next with
    | none => rfl
    | some d =>
      simp only [ob]
      rw [ih, ih _ _ ([] ++ [d])]
      cases evDrawW C r l (nid + 1) _ [] <;> simp [om]

theorem dk_nil (s : WSt) : DK C base fin k a un [] nid s ds = EK C base fin k a s (un.all (apartR ds)) := by
  unfold DK; simp only [evDrawW, ob, List.map_nil, List.append_nil]
theorem ek_true (s : WSt) : EK C base fin k a s true = AK C base fin k (canon base a s) := rfl

theorem dk_cons {o : COper} {s : WSt} : DK C base fin k a un (o :: l) nid s ds = ob (evOpW C (RnW C) o nid s.env s.heap s.next) fun x => DK C base fin k a un l (nid + 1) ⟨setD s.env o.dst x.v, x.h, x.n⟩ (ds ++ [rwOf x]) := by
  unfold DK
  simp only [evDrawW, ob_assoc]
  congr 1
  funext x
  rw [evDrawW_acc]
  simp only [ob_om, List.nil_append, List.map_append, List.map_cons, List.map_nil, List.append_assoc]

theorem dk_step {op : COp} (hc : callOf e op = some none) : DK C base fin k a un (⟨d, none, op⟩ :: l) nid ⟨e, h, n⟩ ds = DSK C base fin k a un l (nid + 1) d e h n ds (readsOf e op) (stepW op e h nid) := by
  rw [dk_cons]
  unfold DSK
  simp only [evOpW, wants, evActW, hc, ob_om]
  rfl

theorem dsk_some {rd : List Nat} (v : AV) (u : WUpd) : DSK C base fin k a un l nid d e h n ds rd (some (v, u)) = DK C base fin k a un l nid ⟨setD e d v, applyW h u, n⟩ (ds ++ [(false, rd, u.map (·.1))]) := rfl

theorem dgk_bool {op : COp} {g : Nat} {w b : Bool} : DGK C base fin k a un l nid d op g w e h n ds (some (.bool b)) = if b = w then DK C base fin k a un (⟨d, none, op⟩ :: l) nid ⟨setE e g (.bool w), h, n⟩ ds else DK C base fin k a un l (nid + 1) ⟨setD (setE e g (.bool (!w))) d (.tup []), h, n⟩ (ds ++ [(false, [], [])]) := rfl
theorem dgk_true_true {op : COp} {g : Nat} : DGK C base fin k a un l nid d op g true e h n ds (some (.bool true)) = DK C base fin k a un (⟨d, none, op⟩ :: l) nid ⟨setE e g (.bool true), h, n⟩ ds := rfl
theorem dgk_false_false {op : COp} {g : Nat} : DGK C base fin k a un l nid d op g false e h n ds (some (.bool false)) = DK C base fin k a un (⟨d, none, op⟩ :: l) nid ⟨setE e g (.bool false), h, n⟩ ds := rfl
theorem dgk_true_false {op : COp} {g : Nat} : DGK C base fin k a un l nid d op g true e h n ds (some (.bool false)) = DK C base fin k a un l (nid + 1) ⟨setD (setE e g (.bool false)) d (.tup []), h, n⟩ (ds ++ [(false, [], [])]) := rfl
theorem dgk_false_true {op : COp} {g : Nat} : DGK C base fin k a un l nid d op g false e h n ds (some (.bool true)) = DK C base fin k a un l (nid + 1) ⟨setD (setE e g (.bool true)) d (.tup []), h, n⟩ (ds ++ [(false, [], [])]) := rfl
theorem dgk_tup {op : COp} {g : Nat} {w : Bool} : DGK C base fin k a un l nid d op g w e h n ds (some (.tup [])) = DK C base fin k a un l (nid + 1) ⟨setD e d (.tup []), h, n⟩ (ds ++ [(false, [], [])]) := rfl

theorem dk_guard {op : COp} {g : Nat} {w : Bool} : DK C base fin k a un (⟨d, some (g, w), op⟩ :: l) nid ⟨e, h, n⟩ ds = DGK C base fin k a un l nid d op g w e h n ds (get e g) := by
  unfold DGK
  cases hg : get e g with
  | none => rw [dk_cons]; simp only [evOpW, wants, hg]; rfl
  | some v =>
    cases v with
    | bool b =>
      simp only
      by_cases hw : b = w
      · subst hw
        rw [setE_same hg, if_pos rfl, dk_cons, dk_cons]
        simp only [evOpW, wants, hg, beq_self_eq_true]
      · have e1 : (b == w) = false := by simpa using hw
        have e2 : (!w) = b := by cases b <;> cases w <;> simp_all
        rw [if_neg hw, e2, setE_same hg, dk_cons]
        simp only [evOpW, wants, hg, e1, ob, rwOf]
    | tup vs =>
      cases vs with
      | nil => rw [dk_cons]; simp only [evOpW, wants, hg]; rfl
      | cons _ _ => rw [dk_cons]; simp only [evOpW, wants, hg]; rfl
    | _ => rw [dk_cons]; simp only [evOpW, wants, hg]; rfl

theorem dvk_some {args : List AV} (v : AV) : DVK C base fin k a un l nid d e h n ds args (some v) = DK C base fin k a un l nid ⟨setD e d v, applyW h (marksW h args v), n⟩ (ds ++ [(false, args.flatMap (reachW h frzDepth), (marksW h args v).map (·.1))]) := rfl
theorem dwk_some (r : AV × WHeap × Nat) : DWK C base fin k a un l nid d e ds (some r) = DK C base fin k a un l nid ⟨setD e d r.1, r.2.1, r.2.2⟩ (ds ++ [(true, [], [])]) := rfl
theorem dpk_some {f : Nat} {args : List AV} (as : List AV) : DPK C base fin k a un l nid d e h n ds f args (some as) = DVK C base fin k a un l nid d e h n ds args (FnW C f as) := rfl
theorem dfk_pure {f : Nat} {args : List AV} : DFK C base fin k a un l nid d e h n ds f args false false = DPK C base fin k a un l nid d e h n ds f args (mapO (frzW h frzDepth) args) := rfl
theorem dfk_inl {f : Nat} {args : List AV} {p : Bool} : DFK C base fin k a un l nid d e h n ds f args true p = DWK C base fin k a un l nid d e ds (RnW C f args h n) := rfl
theorem dfk_ptr {f : Nat} {args : List AV} : DFK C base fin k a un l nid d e h n ds f args false true = DWK C base fin k a un l nid d e ds (RnW C f args h n) := rfl
theorem dqk_fn {f : Nat} {args caps : List AV} : DQK C base fin k a un l nid d e h n ds args (.fn f caps) = DFK C base fin k a un l nid d e h n ds f (args ++ caps) (C.inl f) (hasPtrL (args ++ caps)) := rfl

theorem dfk_eq {f : Nat} {args : List AV} : (ob (om (evCallW C (RnW C) f args h n) (doneCallW h n args)) fun r => DK C base fin k a un l nid ⟨setD e d r.v, r.h, r.n⟩ (ds ++ [rwOf r])) = DFK C base fin k a un l nid d e h n ds f args (C.inl f) (hasPtrL args) := by
  unfold DFK evCallW DWK DPK DVK FnW
  split
  · cases RnW C f args h n <;> rfl
  · split
    · cases RnW C f args h n <;> rfl
    · cases mapO (frzW h frzDepth) args with
      | none => rfl
      | some as =>
        simp only [ob]
        cases pureCallW (RnW C) f as <;> rfl

theorem dk_call {f : Nat} {xs : List Opd} : DK C base fin k a un (⟨d, none, .call f xs⟩ :: l) nid ⟨e, h, n⟩ ds = DFK C base fin k a un l (nid + 1) d e h n ds f (xs.map fun x => x.ev e) (C.inl f) (hasPtrL (xs.map fun x => x.ev e)) := by
  rw [← dfk_eq, dk_cons]
  simp only [evOpW, wants, evActW, callOf]

theorem dk_callv {g : Opd} {xs : List Opd} : DK C base fin k a un (⟨d, none, .callv g xs⟩ :: l) nid ⟨e, h, n⟩ ds = DQK C base fin k a un l (nid + 1) d e h n ds (xs.map fun x => x.ev e) (g.ev e) := by
  unfold DQK
  rw [dk_cons]
  cases hg : g.ev e with
  | fn f caps =>
    simp only
    rw [← dfk_eq]
    simp only [evOpW, wants, evActW, callOf, hg]
  | _ =>
    simp only [evOpW, wants, evActW, callOf, hg]
    rfl

/- Functions. -/

theorem fnW_eq {f : Nat} {fn : WFn} (hf : C.fns.get f = some fn) {args : List AV} (hl : args.length = fn.np) : FnW C f args = CK C 0 (pureFin fn.res) [] fn.body ⟨argW 0 args [], [], 0⟩ := by
  unfold FnW pureCallW RnW runWithW CK pureFin
  rw [hf]
  simp only [ob, if_pos hl, RK]
  cases CdW C 0 fn.body ⟨argW 0 args [], [], 0⟩ with
  | none => rfl
  | some r => rfl

theorem rnW_eq {f : Nat} {fn : WFn} (hf : C.fns.get f = some fn) {args : List AV} (hl : args.length = fn.np) (h : WHeap) (n : Nat) : RnW C f args h n = CK C n (fnEndW fn.res) [] fn.body ⟨argW 0 args [], h, n⟩ := by
  unfold RnW runWithW CK
  rw [hf]
  simp only [ob, if_pos hl, RK]

end
end Go.Pw
