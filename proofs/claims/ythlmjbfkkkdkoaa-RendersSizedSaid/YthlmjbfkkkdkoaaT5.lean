/- Part of the theory that the claims of this work use: D22, D23, D24, D25, D26, D27, D28, D29, D32, D34, D35, D36, GTy, V27, E01, E02, E03, E04, E05. No conditions of its own. -/
import Derived.Test.YthlmjbfkkkdkoaaT4
section
set_option linter.unusedSimpArgs false
set_option linter.unusedVariables false
namespace Go.D
open Go Go.Pav Go.Pw P
set_option maxRecDepth 10000
set_option maxHeartbeats 4000000
set_option linter.unusedSimpArgs false
set_option linter.unusedVariables false
attribute [-simp] List.getElem_cons_drop
variable {C : WProg}
end Go.D
end
section
set_option linter.unusedSimpArgs false
set_option linter.unusedVariables false
namespace Go.D
open Go Go.Pav Go.Pw P
set_option linter.unusedSimpArgs false
set_option linter.unusedVariables false
structure Kd where
 p : Pt
 b : Int
 st : Bool
 pl : Int
structure En where
 i : It
 s : Int
 kn : Bool
@[simp] def eKd (k : Kd) : List AV := [.int .u8 k.p.k, .str k.p.t, .str k.p.y, .ro 3 (k.p.s.map eSl) k.p.se, .str k.p.x, .ro 6 (k.p.ch.map Pt.c) k.p.ce, .int .i64 k.b, .bool k.st, .int .i64 k.pl]
@[simp] def cIt (i : It) : List AV := [.int .u64 i.k, .int .u8 i.t, .str i.x, .ro 1 (i.m.map eS) i.e]
@[simp] def eEn (e : En) : List AV := [.int .u64 e.i.k, .int .u8 e.i.t, .str e.i.x, .ro 1 (e.i.m.map eS) e.i.e, .int .i64 e.s, .bool e.kn]
abbrev aL (l : List En) (e : Bool) : AV := .agg [.ro 6 (l.map eEn) e]
abbrev aE (e : En) : AV := .agg (eEn e)
def hOk (n : Int) : Bool := decide (1 ≤ n) && decide (n ≤ 2305843009213693952)
def totG : Int → List En → Int
 | sum, [] => sum
 | sum, e :: r => if 4611686018427387904 - sum < imax e.s 0 then 4611686018427387905 else totG (sum + imax e.s 0) r
def tot (l : List En) : Int := totG 0 l
def ovE (l : List En) : Int := if 4611686018427387904 < tot l then 13 else 0
end Go.D
end
section
set_option linter.unusedSimpArgs false
set_option linter.unusedVariables false
namespace Go.D
open Go Go.Pav Go.Pw P
set_option maxRecDepth 10000
set_option maxHeartbeats 4000000
set_option linter.unusedSimpArgs false
set_option linter.unusedVariables false
attribute [-simp] List.getElem_cons_drop
variable {C : WProg}
structure HasL (C : WProg) : Prop extends HasS C where
 f111 : C.fns.get 111 = some w111
 f402 : C.fns.get 402 = some w402
 f504 : C.fns.get 504 = some w504
 f407 : C.fns.get 407 = some w407
theorem imax_bd (s : Int) (h1 : -9223372036854775808 ≤ s) (h2 : s ≤ 9223372036854775807) : 0 ≤ imax s 0 ∧ imax s 0 ≤ 9223372036854775807 := by
 unfold imax; split <;> omega
theorem tot_loop (H : HasL C) (l : List En) (e : Bool) (hl : l.length ≤ 1000000) (hs : ∀ x ∈ l, -9223372036854775808 ≤ x.s ∧ x.s ≤ 9223372036854775807) : ∀ n i, n + i = l.length → ∀ sum : Int, 0 ≤ sum → sum ≤ 4611686018427387904 →
 w111_K0 C ⟨[(10, .int .i64 i), (9, .int .i64 l.length), (8, .ro 6 (l.map eEn) e), (3, .int .i64 sum)], [], 0⟩ = some (.int .i64 (totG sum (l.drop i))) := by
 intro n
 induction n with
 | zero =>
  intro i hi sum s1 s2
  simp only [w111_K0]; rw [ck_unf w111_B0.eq_1]
  have h1 : l.drop i = [] := List.drop_eq_nil_of_le (by omega)
  have h3 : ¬ i < l.length := by omega
  simp [ck_unf w111_c0.eq_1, h1, h3, totG]
 | succ n ih =>
  intro i hi sum s1 s2
  have h1 : i < l.length := by omega
  have hb := imax_bd l[i].s (hs _ (List.getElem_mem h1)).1 (hs _ (List.getElem_mem h1)).2
  rw [drop_cons h1, totG]
  generalize hM : imax l[i].s 0 = M at *
  by_cases c : 4611686018427387904 - sum < M
  · rw [if_pos c]
    simp only [w111_K0]; rw [ck_unf w111_B0.eq_1]
    simp (disch := omega) [h1, wI64, hM, c]
  · rw [if_neg c]
    have := ih (i + 1) (by omega) (sum + M) (by omega) (by omega)
    simp only [w111_K0] at this ⊢; rw [ck_unf w111_B0.eq_1]
    simp at this
    simp (disch := omega) [h1, wI64, hM, c, this]
theorem totW_ok (H : HasL C) (l : List En) (e : Bool) (hl : l.length ≤ 1000000) (hs : ∀ x ∈ l, -9223372036854775808 ≤ x.s ∧ x.s ≤ 9223372036854775807) : FnW C 111 [aL l e] = some (.int .i64 (tot l)) := by
 have h := tot_loop H l e hl hs l.length 0 (by simp) 0 (by omega) (by omega)
 simp only [w111_K0] at h
 simp at h
 rw [fnW_eq H.f111 rfl]
 unfold tot
 simp [w111, h]
theorem rtot_loop (H : HasL C) (l : List En) (e : Bool) (hl : l.length ≤ 1000000) (hs : ∀ x ∈ l, -9223372036854775808 ≤ x.s ∧ x.s ≤ 9223372036854775807) : ∀ n i, n + i = l.length → ∀ sum : Int, 0 ≤ sum → sum ≤ 4611686018427387904 →
 w504_K0 C ⟨[(4, .int .i64 i), (3, .int .u64 sum), (0, .ro 6 (l.map eEn) e)], [], 0⟩ = some (.int .i64 (totG sum (l.drop i))) := by
 intro n
 induction n with
 | zero =>
  intro i hi sum s1 s2
  simp only [w504_K0]; rw [ck_unf w504_B0.eq_1]
  have h1 : l.drop i = [] := List.drop_eq_nil_of_le (by omega)
  have h3 : ¬ i < l.length := by omega
  simp (disch := omega) [ck_unf w504_c0.eq_1, h1, h3, totG, wI64]
 | succ n ih =>
  intro i hi sum s1 s2
  have h1 : i < l.length := by omega
  have hx := hs _ (List.getElem_mem h1)
  have hb := imax_bd l[i].s hx.1 hx.2
  rw [drop_cons h1, totG]
  by_cases p : 0 < l[i].s
  · rw [imax_l (by omega : (0 : Int) ≤ l[i].s)] at *
    by_cases c : 4611686018427387904 - sum < l[i].s
    · rw [if_pos c]
      have c' : 4611686018427387904 < sum + l[i].s := by omega
      simp only [w504_K0]; rw [ck_unf w504_B0.eq_1]
      simp (disch := omega) [h1, wI64, wU64, p, c']
    · rw [if_neg c]
      have c' : ¬ 4611686018427387904 < sum + l[i].s := by omega
      have := ih (i + 1) (by omega) (sum + l[i].s) (by omega) (by omega)
      simp only [w504_K0] at this ⊢; rw [ck_unf w504_B0.eq_1]
      simp at this
      simp (disch := omega) [h1, wI64, wU64, p, c', this]
  · rw [imax_r (by omega : l[i].s ≤ (0 : Int)), if_neg (by omega), Int.add_zero]
    have c' : ¬ 4611686018427387904 < sum := by omega
    have := ih (i + 1) (by omega) sum (by omega) (by omega)
    simp only [w504_K0] at this ⊢; rw [ck_unf w504_B0.eq_1]
    simp at this
    simp (disch := omega) [h1, wI64, wU64, p, c', this]
theorem rtotW_ok (H : HasL C) (l : List En) (e : Bool) (hl : l.length ≤ 1000000) (hs : ∀ x ∈ l, -9223372036854775808 ≤ x.s ∧ x.s ≤ 9223372036854775807) : FnW C 504 [.ro 6 (l.map eEn) e] = some (.int .i64 (tot l)) := by
 have h := rtot_loop H l e hl hs l.length 0 (by simp) 0 (by omega) (by omega)
 simp only [w504_K0] at h
 simp at h
 rw [fnW_eq H.f504 rfl]
 unfold tot
 simp [w504, h]
end Go.D
end
section
set_option linter.unusedSimpArgs false
set_option linter.unusedVariables false
namespace Go.D
open Go Go.Pav Go.Pw P
set_option maxRecDepth 10000
set_option maxHeartbeats 4000000
set_option linter.unusedSimpArgs false
set_option linter.unusedVariables false
attribute [-simp] List.getElem_cons_drop
variable {C : WProg}
section
variable {β : Type} {base : Nat} {fin : Ex × WSt → Option β} {K : List Pw.Frame} {a : Ann} {l : List COper} {d : Option Nat} {e : Env} {n : Nat}
end
end Go.D
end
section
set_option linter.unusedSimpArgs false
set_option linter.unusedVariables false
namespace Go.D
open Go Go.Pav Go.Pw P
set_option maxRecDepth 10000
set_option maxHeartbeats 4000000
set_option linter.unusedSimpArgs false
set_option linter.unusedVariables false
attribute [-simp] List.getElem_cons_drop
variable {C : WProg}
end Go.D
end
section
set_option linter.unusedSimpArgs false
set_option linter.unusedVariables false
namespace Go.D
open Go Go.Pav Go.Pw P
set_option maxRecDepth 10000
set_option maxHeartbeats 4000000
set_option linter.unusedSimpArgs false
set_option linter.unusedVariables false
attribute [-simp] List.getElem_cons_drop
variable {C : WProg}
end Go.D
end
section
set_option linter.unusedSimpArgs false
set_option linter.unusedVariables false
namespace Go.D
open Go Go.Pav Go.Pw P
set_option maxRecDepth 10000
set_option maxHeartbeats 4000000
set_option linter.unusedSimpArgs false
set_option linter.unusedVariables false
attribute [-simp] List.getElem_cons_drop
variable {C : WProg}
end Go.D
end
section
set_option linter.unusedSimpArgs false
set_option linter.unusedVariables false
namespace Go.D
open Go Go.Pav Go.Pw P
set_option maxRecDepth 10000
set_option maxHeartbeats 4000000
set_option linter.unusedSimpArgs false
set_option linter.unusedVariables false
attribute [-simp] List.getElem_cons_drop
variable {C : WProg}
end Go.D
end
section
set_option linter.unusedSimpArgs false
set_option linter.unusedVariables false
namespace Go.D
open Go Go.Pav Go.Pw P
set_option maxRecDepth 10000
set_option maxHeartbeats 4000000
set_option linter.unusedSimpArgs false
set_option linter.unusedVariables false
attribute [-simp] List.getElem_cons_drop
variable {C : WProg}
end Go.D
end
section
set_option linter.unusedSimpArgs false
set_option linter.unusedVariables false
namespace Go.D
open Go Go.Pav Go.Pw P
set_option maxRecDepth 10000
set_option maxHeartbeats 4000000
set_option linter.unusedSimpArgs false
set_option linter.unusedVariables false
attribute [-simp] List.getElem_cons_drop
variable {C : WProg}
structure Good (i : It) : Prop where
 k : 1 ≤ i.k ∧ i.k ≤ 60
 t : 0 ≤ i.t ∧ i.t ≤ 2
 x : isText i.x = true
 l : i.m.length ≤ 8
 m : i.m.all isName = true
structure Q4 where
 (a b c d : Int)
@[simp] def eQ (q : Q4) : List AV := [.int .u8 q.a, .int .u8 q.b, .int .u8 q.c, .int .u8 q.d]
end Go.D
end
section
set_option linter.unusedSimpArgs false
set_option linter.unusedVariables false
namespace Go.D
open Go Go.Pav Go.Pw P
set_option maxRecDepth 10000
set_option maxHeartbeats 4000000
set_option linter.unusedSimpArgs false
set_option linter.unusedVariables false
attribute [-simp] List.getElem_cons_drop
variable {C : WProg}
theorem Good.ok {i : It} (h : Good i) : itOk 3 i = true := by
 have h1 := h.k; have h2 := h.t; have h3 := h.x; have h4 := h.l; have h5 := h.m
 unfold itOk
 simp only [Bool.and_eq_true, decide_eq_true_eq]
 exact ⟨⟨⟨by omega, by omega⟩, h3⟩, h4, h5⟩
end Go.D
end
section
set_option linter.unusedSimpArgs false
set_option linter.unusedVariables false
namespace Go.D
open Go Go.Pav Go.Pw P
set_option maxRecDepth 10000
set_option maxHeartbeats 4000000
set_option linter.unusedSimpArgs false
set_option linter.unusedVariables false
attribute [-simp] List.getElem_cons_drop
variable {C : WProg}
end Go.D
end
section
set_option linter.unusedSimpArgs false
set_option linter.unusedVariables false
namespace Go.D
open Go Go.Pav Go.Pw
abbrev enT : List CT := [.int .u64, .int .u8, .str, .slice [.str], .int .i64, .bool]
structure EnTy (e : En) : Prop where
 k : 0 ≤ e.i.k ∧ e.i.k < 18446744073709551616
 t : 0 ≤ e.i.t ∧ e.i.t ≤ 255
 s : -9223372036854775808 ≤ e.s ∧ e.s ≤ 9223372036854775807
 m : e.i.m.length ≤ 9223372036854775807
theorem ty_marks {a : AV} (h : Ty (.slice [.str]) a) : ∃ (m : List Bs) (e : Bool), a = .ro 1 (m.map eS) e ∧ m.length ≤ 9223372036854775807 := by
 obtain ⟨m, me, rfl, hl, h4⟩ := ty_slice h
 obtain ⟨ms, rfl, _⟩ := ty_map2 (g := eS) (R := fun _ : Bs => True) (fun l q => by
  obtain ⟨q1, q2⟩ := q
  match l, q1 with
  | [v], _ =>
   obtain ⟨n, rfl, _⟩ := ty_str (q2 0 _ v rfl rfl)
   exact ⟨n, rfl, trivial⟩) m h4
 refine ⟨ms, me, rfl, ?_⟩
 simp at hl; omega
theorem ty_en {l : List AV} (q1 : l.length = 6) (q2 : ∀ (j : Nat) (ct : CT) (v : AV), enT[j]? = some ct → l[j]? = some v → Ty ct v) : ∃ e : En, l = eEn e ∧ EnTy e := by
 match l, q1 with
 | [u, v, w, x, y, z], _ =>
  obtain ⟨k, rfl, h1⟩ := ty_u64 (q2 0 _ u rfl rfl)
  obtain ⟨t, rfl, h2⟩ := ty_u8 (q2 1 _ v rfl rfl)
  obtain ⟨s, rfl, h3⟩ := ty_str (q2 2 _ w rfl rfl)
  obtain ⟨m, me, rfl, h4⟩ := ty_marks (q2 3 _ x rfl rfl)
  obtain ⟨n, rfl, h5⟩ := ty_i64 (q2 4 _ y rfl rfl)
  obtain ⟨b, rfl⟩ := ty_bool (q2 5 _ z rfl rfl)
  exact ⟨⟨⟨k, t, s, m, me⟩, n, b⟩, rfl, ⟨h1.1, by simp only; omega⟩, h2, h5, h4⟩
theorem ty_ens {a : AV} (h : Ty (.slice enT) a) : ∃ (l : List En) (e : Bool), a = .ro 6 (l.map eEn) e ∧ (∀ x ∈ l, EnTy x) ∧ l.length ≤ 9223372036854775807 := by
 obtain ⟨es, e, rfl, hl, hx⟩ := ty_slice h
 obtain ⟨xs, rfl, hr⟩ := ty_map2 (g := eEn) (R := EnTy) (fun l q => ty_en q.1 q.2) es hx
 refine ⟨xs, e, rfl, hr, ?_⟩
 simp at hl; omega
end Go.D
end
section
set_option linter.unusedSimpArgs false
set_option linter.unusedVariables false
end
section
set_option linter.unusedSimpArgs false
set_option linter.unusedVariables false
namespace Go.D
open Go Go.Pav Go.Pw P
set_option linter.unusedSimpArgs false
set_option linter.unusedVariables false
def sm : List En → Int
 | [] => 0
 | e :: r => e.s + sm r
def top (l : List En) (i : Nat) : Int := sm (l.take i)
theorem top_0 (l : List En) : top l 0 = 0 := rfl
theorem sm_app : ∀ (a b : List En), sm (a ++ b) = sm a + sm b
 | [], b => by simp [sm]
 | e :: r, b => by simp only [List.cons_append, sm]; rw [sm_app r b]; omega
theorem top_succ {l : List En} {i : Nat} (h : i < l.length) : top l (i + 1) = top l i + l[i].s := by
 unfold top
 rw [List.take_add_one, List.getElem?_eq_getElem h, sm_app]
 simp [sm]
theorem top_len (l : List En) : top l l.length = sm l := by unfold top; rw [List.take_length]
theorem top_ge {l : List En} {i : Nat} (h : l.length ≤ i) : top l i = sm l := by unfold top; rw [List.take_of_length_le h]
def szE (l : List En) : Int := if 1024 < l.length then 3 else if l.any (fun e => !hOk e.s) then 12 else ovE l
structure Szd (l : List En) : Prop where
 n : l.length ≤ 1024
 s : ∀ x ∈ l, 1 ≤ x.s ∧ x.s ≤ 2305843009213693952
 t : sm l ≤ 4611686018427387904
theorem sm_nn : ∀ (l : List En), (∀ x ∈ l, 1 ≤ x.s) → 0 ≤ sm l
 | [], _ => by simp [sm]
 | e :: r, h => by
  have h1 := h e (by simp)
  have h2 := sm_nn r fun x hx => h x (by simp [hx])
  rw [sm]; omega
theorem totG_sm : ∀ (l : List En) (s : Int), (∀ x ∈ l, 1 ≤ x.s) → s ≤ 4611686018427387904 →
 (s + sm l ≤ 4611686018427387904 ∧ totG s l = s + sm l) ∨ (4611686018427387904 < s + sm l ∧ totG s l = 4611686018427387905)
 | [], s, _, h => by left; simp [sm, totG, h]
 | e :: r, s, hs, h => by
  have h1 := hs e (by simp)
  have h2 := sm_nn r fun x hx => hs x (by simp [hx])
  have h3 : imax e.s 0 = e.s := imax_l (by omega)
  rw [totG, sm, h3]
  by_cases c : 4611686018427387904 - s < e.s
  · right; rw [if_pos c]; omega
  · rw [if_neg c]
    have := totG_sm r (s + e.s) (fun x hx => hs x (by simp [hx])) (by omega)
    rw [← Int.add_assoc]; exact this
theorem hOk_iff (n : Int) : hOk n = true ↔ 1 ≤ n ∧ n ≤ 2305843009213693952 := by unfold hOk; simp
theorem szd_of {l : List En} (h : szE l = 0) : Szd l := by
 unfold szE at h
 by_cases c1 : 1024 < l.length
 · rw [if_pos c1] at h; omega
 · rw [if_neg c1] at h
   by_cases c2 : l.any (fun e => !hOk e.s) = true
   · rw [if_pos c2] at h; omega
   · rw [if_neg c2] at h
     have hs : ∀ x ∈ l, 1 ≤ x.s ∧ x.s ≤ 2305843009213693952 := by
      intro x hx
      rw [← hOk_iff]
      simp only [List.any_eq_true, not_exists, not_and] at c2
      simpa using c2 x hx
     refine ⟨by omega, hs, ?_⟩
     rcases totG_sm l 0 (fun x hx => (hs x hx).1) (by omega) with q | q
     · omega
     · unfold ovE tot at h
       rw [q.2] at h
       simp at h
theorem Szd.tot {l : List En} (h : Szd l) : tot l = sm l := by
 unfold Go.D.tot
 have h2 := h.t
 rcases totG_sm l 0 (fun x hx => (h.s x hx).1) (by omega) with q | q
 · omega
 · omega
theorem szE_of {l : List En} (h : Szd l) : szE l = 0 := by
 have h1 := h.n
 have h2 := h.t
 have h3 : ovE l = 0 := by unfold ovE; rw [h.tot, if_neg (by omega)]
 unfold szE
 rw [if_neg (by omega), h3, if_neg]
 intro c
 obtain ⟨x, hx, c⟩ := List.any_eq_true.1 c
 have := (hOk_iff x.s).2 (h.s x hx)
 rw [this] at c
 cases c
theorem Szd.nn {l : List En} (h : Szd l) : 0 ≤ sm l := sm_nn l fun x hx => (h.s x hx).1
theorem Szd.lt {l : List En} (h : Szd l) {i : Nat} (hi : i < l.length) : top l i + 1 ≤ top l (i + 1) := by
 rw [top_succ hi]
 have := (h.s _ (List.getElem_mem hi)).1
 omega
theorem Szd.mono {l : List En} (h : Szd l) {i : Nat} : ∀ {j : Nat}, i ≤ j → j ≤ l.length → top l i + ((j : Int) - i) ≤ top l j := by
 intro j hij
 induction j with
 | zero => intro _; have : i = 0 := by omega
           subst this; simp
 | succ j ih =>
  intro hj
  by_cases c : i = j + 1
  · subst c; omega
  · have h1 := ih (by omega) (by omega)
    have h2 := h.lt (i := j) (by omega)
    omega
theorem Szd.rng {l : List En} (h : Szd l) (i : Nat) : 0 ≤ top l i ∧ top l i ≤ sm l := by
 by_cases c : i ≤ l.length
 · have h1 := h.mono (i := 0) (j := i) (by omega) c
   have h2 := h.mono (i := i) (j := l.length) c (by omega)
   rw [top_0] at h1
   rw [top_len] at h2
   omega
 · rw [top_ge (by omega)]; have := h.nn; omega
theorem Szd.small {l : List En} (h : Szd l) (i : Nat) : -9223372036854775808 ≤ top l i ∧ top l i ≤ 4611686018427387904 := by
 have := h.rng i
 have := h.t
 omega
def rowF (l : List En) (x : Int) : Nat → Nat → Int
 | 0, _ => -1
 | n + 1, i => if top l i ≤ x ∧ x < top l (i + 1) then i else rowF l x n (i + 1)
def rowA (l : List En) (x : Int) : Int := rowF l x l.length 0
theorem Szd.rowF_eq {l : List En} (h : Szd l) {x : Int} {p : Nat} (hp : p < l.length) (h1 : top l p ≤ x) (h2 : x < top l (p + 1)) : ∀ n i, n + i = l.length → i ≤ p → rowF l x n i = p := by
 intro n
 induction n with
 | zero => intro i hi hip; omega
 | succ n ih =>
  intro i hi hip
  rw [rowF]
  by_cases c : i = p
  · subst c; rw [if_pos ⟨h1, h2⟩]
  · have := h.mono (i := i + 1) (j := p) (by omega) (by omega)
    rw [if_neg (by omega)]
    exact ih (i + 1) (by omega) (by omega)
theorem Szd.rowA_eq {l : List En} (h : Szd l) {x : Int} {p : Nat} (hp : p < l.length) (h1 : top l p ≤ x) (h2 : x < top l (p + 1)) : rowA l x = p := h.rowF_eq hp h1 h2 _ _ (by simp) (by omega)
theorem Szd.rowF_no {l : List En} (h : Szd l) {x : Int} (hx : x < 0 ∨ sm l ≤ x) : ∀ n i, n + i = l.length → rowF l x n i = -1 := by
 intro n
 induction n with
 | zero => intro i _; rfl
 | succ n ih =>
  intro i hi
  have h1 := h.rng i
  have h2 := h.rng (i + 1)
  rw [rowF, if_neg (by omega)]
  exact ih (i + 1) (by omega)
theorem Szd.rowA_no {l : List En} (h : Szd l) {x : Int} (hx : x < 0 ∨ sm l ≤ x) : rowA l x = -1 := h.rowF_no hx _ _ (by simp)
theorem Szd.row {l : List En} (h : Szd l) {x : Int} (h0 : 0 ≤ x) (h1 : x < sm l) : ∃ p, p < l.length ∧ top l p ≤ x ∧ x < top l (p + 1) := by
 have key : ∀ n, n ≤ l.length → top l n ≤ x ∨ ∃ p, p < n ∧ top l p ≤ x ∧ x < top l (p + 1) := by
  intro n
  induction n with
  | zero => intro _; left; rw [top_0]; exact h0
  | succ n ih =>
   intro hn
   rcases ih (by omega) with q | ⟨p, q1, q2⟩
   · by_cases c : top l (n + 1) ≤ x
     · exact .inl c
     · exact .inr ⟨n, by omega, q, by omega⟩
   · exact .inr ⟨p, by omega, q2⟩
 rcases key l.length (by omega) with q | ⟨p, q⟩
 · rw [top_len] at q; omega
 · exact ⟨p, q⟩
def mostS (l : List En) (v : Int) : Int := if sm l < v then 0 else sm l - v
def vpE (l : List En) (s v : Int) : Int := if szE l ≠ 0 then szE l else if v < 1 ∨ 2147483648 < v then 1 else if s < 0 ∨ mostS l v < s then 4 else 0
def visF (l : List En) (s v : Int) : Int := if l.length = 0 then 0 else rowA l s
def visT (l : List En) (s v : Int) : Int := if l.length = 0 then 0 else rowA l (imin (s + v) (sm l) - 1) + 1
structure Vp (l : List En) (o v : Int) : Prop extends Szd l where
 v0 : 1 ≤ v ∧ v ≤ 2147483648
 s0 : 0 ≤ o ∧ o ≤ mostS l v
theorem vp_of {l : List En} {s v : Int} (h : vpE l s v = 0) : Vp l s v := by
 unfold vpE at h
 by_cases c1 : szE l = 0
 · rw [if_neg (by simpa using c1)] at h
   by_cases c2 : v < 1 ∨ 2147483648 < v
   · rw [if_pos c2] at h; omega
   · rw [if_neg c2] at h
     by_cases c3 : s < 0 ∨ mostS l v < s
     · rw [if_pos c3] at h; omega
     · exact ⟨szd_of c1, by omega, by omega⟩
 · rw [if_pos c1] at h; exact absurd h c1
theorem Vp.ends {l : List En} {s v : Int} (h : Vp l s v) (hl : 0 < l.length) : ∃ p q : Nat, p < l.length ∧ q < l.length ∧ p ≤ q ∧ (top l p ≤ s ∧ s < top l (p + 1)) ∧ (top l q ≤ imin (s + v) (sm l) - 1 ∧ imin (s + v) (sm l) - 1 < top l (q + 1)) := by
 have h1 := h.v0
 have h2 := h.s0
 have h3 : 1 ≤ sm l := by
  have := h.mono (i := 0) (j := l.length) (by omega) (by omega)
  rw [top_0, top_len] at this; omega
 have h4 : s < sm l := by unfold mostS at h2; split at h2 <;> omega
 have h5 : s + 1 ≤ imin (s + v) (sm l) ∧ imin (s + v) (sm l) ≤ sm l := by unfold imin; split <;> omega
 obtain ⟨p, p1, p2, p3⟩ := h.row h2.1 h4
 obtain ⟨q, q1, q2, q3⟩ := h.row (x := imin (s + v) (sm l) - 1) (by omega) (by omega)
 refine ⟨p, q, p1, q1, ?_, ⟨p2, p3⟩, q2, q3⟩
 by_cases c : p ≤ q
 · exact c
 · have := h.mono (i := q + 1) (j := p) (by omega) (by omega)
   omega
theorem Vp.seen {l : List En} {s v : Int} (h : Vp l s v) {p q : Nat} (hp : p < l.length) (hq : q < l.length) (h1 : top l p ≤ s ∧ s < top l (p + 1)) (h2 : top l q ≤ imin (s + v) (sm l) - 1 ∧ imin (s + v) (sm l) - 1 < top l (q + 1)) {i : Nat} (hi : i < l.length) :
 (top l i < s + v ∧ s < top l (i + 1)) ↔ (p ≤ i ∧ i ≤ q) := by
 have e1 : imin (s + v) (sm l) ≤ s + v := by unfold imin; split <;> omega
 have hm := h.rng (i + 1)
 have hlt := h.lt hi
 constructor
 · rintro ⟨a, b⟩
   constructor
   · by_cases c : p ≤ i
     · exact c
     · have := h.mono (i := i + 1) (j := p) (by omega) (by omega); omega
   · by_cases c : i ≤ q
     · exact c
     · have := h.mono (i := q + 1) (j := i) (by omega) (by omega)
       have e2 : s + v ≤ top l i := by
        unfold imin at h2; split at h2 <;> omega
       omega
 · rintro ⟨a, b⟩
   have m1 := h.mono (i := i) (j := q) b (by omega)
   have m2 := h.mono (i := p + 1) (j := i + 1) (by omega) (by omega)
   omega
end Go.D
end
section
set_option linter.unusedSimpArgs false
set_option linter.unusedVariables false
namespace Go.D
open Go Go.Pav Go.Pw P
set_option maxRecDepth 10000
set_option maxHeartbeats 4000000
set_option linter.unusedSimpArgs false
set_option linter.unusedVariables false
attribute [-simp] List.getElem_cons_drop
variable {C : WProg}
structure HasSz (C : WProg) : Prop extends HasL C where
 f122 : C.fns.get 122 = some w122
 f249 : C.fns.get 249 = some w249
 f250 : C.fns.get 250 = some w250
 f246 : C.fns.get 246 = some w246
 f247 : C.fns.get 247 = some w247
 f411 : C.fns.get 411 = some w411
 f412 : C.fns.get 412 = some w412
 f120 : C.fns.get 120 = some w120
 f248 : C.fns.get 248 = some w248
 f121 : C.fns.get 121 = some w121
 f251 : C.fns.get 251 = some w251
 f252 : C.fns.get 252 = some w252
 f253 : C.fns.get 253 = some w253
 f254 : C.fns.get 254 = some w254
 f255 : C.fns.get 255 = some w255
 f272 : C.fns.get 272 = some w272
 f327 : C.fns.get 327 = some w327
def SzB (l : List En) : Prop := ∀ x ∈ l, -9223372036854775808 ≤ x.s ∧ x.s ≤ 9223372036854775807
def szF : Nat → List En → Int
 | _, [] => -1
 | i, e :: r => if hOk e.s = true then szF (i + 1) r else i
theorem szF_any : ∀ (l : List En) (i : Nat), decide (0 ≤ szF i l) = l.any (fun e => !hOk e.s)
 | [], i => by simp [szF]
 | e :: r, i => by
  rw [szF, List.any_cons]
  cases c : hOk e.s
  · simp
  · simp [szF_any r (i + 1)]
theorem szbad_ok (H : HasSz C) (x : En) : FnW C 250 [aE x] = some (.bool (!hOk x.s)) := by
 rw [fnW_eq H.f250 rfl]
 unfold hOk
 by_cases c1 : 1 ≤ x.s
 · have c1' : ¬ x.s < 1 := by omega
   by_cases c2 : x.s ≤ 2305843009213693952
   · have c2' : ¬ 2305843009213693952 < x.s := by omega
     simp [w250, c1, c1', c2, c2']
   · have c2' : 2305843009213693952 < x.s := by omega
     simp [w250, c1, c1', c2, c2']
 · have c1' : x.s < 1 := by omega
   simp [w250, c1, c1']
theorem szidx_loop (H : HasSz C) (l : List En) (e : Bool) (hl : l.length ≤ 1000000) : ∀ n i, n + i = l.length →
 w402_K0 C ⟨[(8, .int .i64 i), (7, .int .i64 l.length), (1, .fn 250 []), (0, .ro 6 (l.map eEn) e)], [], 0⟩ = some (.int .i64 (szF i (l.drop i))) := by
 intro n
 induction n with
 | zero =>
  intro i hi
  simp only [w402_K0]; rw [ck_unf w402_B0.eq_1]
  have h1 : l.drop i = [] := List.drop_eq_nil_of_le (by omega)
  have h3 : ¬ i < l.length := by omega
  simp (disch := omega) [ck_unf w402_c0.eq_1, h1, h3, szF]
 | succ n ih =>
  intro i hi
  have h1 : i < l.length := by omega
  have hf := szbad_ok H l[i]
  have := ih (i + 1) (by omega)
  rw [drop_cons h1, szF]
  simp only [aE, eEn] at hf
  cases c : hOk l[i].s
  · rw [if_neg (by simp)]
    simp [c] at hf
    simp only [w402_K0]; rw [ck_unf w402_B0.eq_1]
    simp (disch := omega) [h1, wI64, hf, H.inl, inlB, H.pp, ppB]
  · rw [if_pos rfl]
    simp [c] at hf
    simp only [w402_K0] at this ⊢; rw [ck_unf w402_B0.eq_1]
    simp at this
    simp (disch := omega) [h1, wI64, hf, H.inl, inlB, H.pp, ppB, this]
theorem szcon_ok (H : HasSz C) (l : List En) (e : Bool) (hl : l.length ≤ 1000000) : FnW C 249 [.ro 6 (l.map eEn) e, .fn 250 []] = some (.bool (l.any fun e => !hOk e.s)) := by
 have h := szidx_loop H l e hl l.length 0 (by simp)
 have key : FnW C 402 [.ro 6 (l.map eEn) e, .fn 250 []] = some (.int .i64 (szF 0 l)) := by
  simp only [w402_K0] at h
  simp at h
  rw [fnW_eq H.f402 rfl]
  simp [w402, h]
 have h2 := szF_any l 0
 rw [fnW_eq H.f249 rfl, ← h2]
 simp [w249, key, H.inl, inlB, H.pp, ppB]
theorem sized_ok (H : HasSz C) (l : List En) (e : Bool) (hl : l.length ≤ 1000000) (hs : SzB l) : FnW C 122 [aL l e] = some (.int .i64 (szE l)) := by
 have h1 := szcon_ok H l e hl
 have h2 := totW_ok H.toHasL l e hl hs
 rw [fnW_eq H.f122 rfl]
 unfold szE ovE
 generalize tot l = T at *
 by_cases c1 : 1024 < l.length
 · simp [w122, c1]
 · cases c2 : l.any fun e => !hOk e.s
   · rw [c2] at h1
     by_cases c3 : 4611686018427387904 < T <;> simp [w122, c1, h1, h2, c3, H.inl, inlB, H.pp, ppB]
   · rw [c2] at h1
     simp [w122, c1, h1, h2, H.inl, inlB, H.pp, ppB]
theorem roverW_ok (H : HasL C) (l : List En) (e : Bool) (hl : l.length ≤ 1000000) (hs : SzB l) : FnW C 407 [.ro 6 (l.map eEn) e] = some (.int .i64 (ovE l)) := by
 have h := rtotW_ok H l e hl hs
 rw [fnW_eq H.f407 rfl]
 unfold ovE
 by_cases c : 4611686018427387904 < tot l <;> simp [w407, h, H.inl, inlB, H.pp, ppB, c]
theorem rsized_loop (H : HasSz C) (l : List En) (e : Bool) (hl : l.length ≤ 1000000) (hs : SzB l) : ∀ n i, n + i = l.length →
 w251_K0 C ⟨[(3, .int .i64 i), (0, .ro 6 (l.map eEn) e)], [], 0⟩ = some (.int .i64 (if (l.drop i).any (fun e => !hOk e.s) then 12 else ovE l)) := by
 intro n
 induction n with
 | zero =>
  intro i hi
  have h1 : l.drop i = [] := List.drop_eq_nil_of_le (by omega)
  have h3 : ¬ i < l.length := by omega
  have ht := roverW_ok H.toHasL l e hl hs
  simp only [w251_K0]; rw [ck_unf w251_B0.eq_1]
  simp (disch := omega) [ck_unf w251_c0.eq_1, h1, h3, ht, H.inl, inlB, H.pp, ppB]
 | succ n ih =>
  intro i hi
  have h1 : i < l.length := by omega
  have := ih (i + 1) (by omega)
  rw [drop_cons h1, List.any_cons]
  generalize (l.drop (i + 1)).any (fun e => !hOk e.s) = X at *
  unfold hOk
  by_cases c1 : 1 ≤ l[i].s
  · have c1' : ¬ l[i].s < 1 := by omega
    by_cases c2 : l[i].s ≤ 2305843009213693952
    · have c2' : ¬ 2305843009213693952 < l[i].s := by omega
      simp only [w251_K0] at this ⊢; rw [ck_unf w251_B0.eq_1]
      simp at this
      simp (disch := omega) [h1, wI64, c1, c1', c2, c2', this]
    · have c2' : 2305843009213693952 < l[i].s := by omega
      simp only [w251_K0]; rw [ck_unf w251_B0.eq_1]
      simp (disch := omega) [h1, wI64, c1, c1', c2, c2']
  · have c1' : l[i].s < 1 := by omega
    simp only [w251_K0]; rw [ck_unf w251_B0.eq_1]
    simp (disch := omega) [h1, wI64, c1, c1']
theorem rsized_ok (H : HasSz C) (l : List En) (e : Bool) (hl : l.length ≤ 1000000) (hs : SzB l) : FnW C 251 [.ro 6 (l.map eEn) e] = some (.int .i64 (szE l)) := by
 have h := rsized_loop H l e hl hs l.length 0 (by simp)
 rw [List.drop_zero] at h
 rw [fnW_eq H.f251 rfl]
 unfold szE
 by_cases c1 : 1024 < l.length
 · simp [w251, c1]
 · generalize l.any (fun e => !hOk e.s) = X at *
   simp only [w251_K0] at h
   simp at h
   simp [w251, c1, h]
def tps (l : List En) : List Int := (List.range (l.length + 1)).map (top l)
theorem tps_len (l : List En) : (tps l).length = l.length + 1 := by simp [tps]
theorem tps_get (l : List En) {i : Nat} (h : i < (tps l).length) : (tps l)[i] = top l i := by simp [tps]
theorem tops_loop (H : HasSz C) (l : List En) (e : Bool) (hz : Szd l) : ∀ n i, n + i = l.length → ∀ G : List Int, G = (List.range (i + 1)).map (top l) → G.length = i + 1 →
 w246_K0 C ⟨[(20, .int .i64 i), (19, .int .i64 l.length), (5, .sl 0 1 0 (l.length + 1) (l.length + 1) true), (1, .ptr 1 0 0)], [(0, .cells 1 (G.map eI ++ List.replicate n [.int .i64 0]) true true), (1, .cells 1 [[.ro 6 (l.map eEn) e]] true true)], 2⟩ =
  some (.tup [.ro 1 ((tps l).map eI) true, .int .i64 0]) := by
 intro n
 induction n with
 | zero =>
  intro i hi G hG hGl
  have h3 : ¬ i < l.length := by omega
  have h6 : List.take (l.length + 1) (List.map eI G) = List.map eI G := List.take_of_length_le (by simp; omega)
  have h7 : G.length = l.length + 1 := by omega
  have h8 : tps l = G := by rw [hG]; unfold tps; rw [show i = l.length by omega]
  rw [h8]
  simp only [w246_K0]; rw [ck_unf w246_B0.eq_1]
  simp [ck_unf w246_c0.eq_1, h3, h6, h7]
 | succ n ih =>
  intro i hi G hG hGl
  have hn := hz.n
  have h1 : i < l.length := by omega
  have hr := hz.small i
  have hr2 := hz.small (i + 1)
  have this := ih (i + 1) (by omega) (G ++ [top l (i + 1)]) (by rw [List.range_succ, List.map_append, ← hG]; rfl) (by simp [hGl])
  have hg : (G.map eI ++ List.replicate (n + 1) [AV.int .i64 0])[i]? = some (eI (top l i)) := by
   rw [List.getElem?_append_left (by simp; omega), List.getElem?_map, hG]
   simp
  have h1b : i < l.length + 1 := by omega
  rw [top_succ h1] at hr2 this
  simp only [w246_K0] at this ⊢; rw [ck_unf w246_B0.eq_1]
  simp at this
  simp (disch := omega) [h1, h1b, wI64, hg, fill_get, fill_set, hGl, this]
end Go.D
end
section
set_option linter.unusedSimpArgs false
set_option linter.unusedVariables false
namespace Go.D
open Go Go.Pav Go.Pw P
set_option maxRecDepth 10000
set_option maxHeartbeats 4000000
set_option linter.unusedSimpArgs false
set_option linter.unusedVariables false
attribute [-simp] List.getElem_cons_drop
variable {C : WProg}
theorem tops_ok (H : HasSz C) (l : List En) (e : Bool) (hz : Szd l) : FnW C 246 [aL l e] = some (.tup [.ro 1 ((tps l).map eI) true, .int .i64 0]) := by
 have hn := hz.n
 have h1 := sized_ok H l e (by omega) (fun x hx => by have := hz.s x hx; omega)
 rw [szE_of hz] at h1
 have h := tops_loop H l e hz l.length 0 (by simp) [0] (by simp [top_0]) rfl
 have h2 : (l.length + 1) * 9 ≤ 35184372088832 := by omega
 have h3 : (l.length : Int) + 1 = ((l.length + 1 : Nat) : Int) := by omega
 rw [fnW_eq H.f246 rfl]
 simp only [w246_K0] at h
 simp at h
 simp (disch := omega) [w246, h1, h2, wI64, List.replicate_succ, h, H.inl, inlB, H.pp, ppB]
theorem tops_bad (H : HasSz C) (l : List En) (e : Bool) (hl : l.length ≤ 1000000) (hs : SzB l) (hz : szE l ≠ 0) : FnW C 246 [aL l e] = some (.tup [.ro 1 [] true, .int .i64 (szE l)]) := by
 have h1 := sized_ok H l e hl hs
 rw [fnW_eq H.f246 rfl]
 generalize szE l = E at *
 simp (disch := omega) [w246, h1, hz, H.inl, inlB, H.pp, ppB]
theorem ftest_ok (H : HasSz C) (l : List En) (x : Int) (k : Nat) (hk : k < l.length) (hn : l.length ≤ 1024) :
 FnW C 412 [.int .i64 k, .rop [.ro 1 ((tps l).map eI) true], .rop [.int .i64 x]] = some (.bool (decide (x < top l (k + 1)))) := by
 have h1 : k + 1 < (tps l).length := by rw [tps_len]; omega
 have h2 := tps_get l h1
 rw [fnW_eq H.f412 rfl]
 simp (disch := omega) [w412, wI64, h1, h2]
theorem search_loop (H : HasSz C) (l : List En) (x : Int) (hz : Szd l) (p : Nat) (hp : p < l.length) (hp1 : top l p ≤ x) (hp2 : x < top l (p + 1)) : ∀ (n i j : Nat), j - i ≤ n → i ≤ p → p ≤ j → j ≤ l.length →
 w411_K0 C ⟨[(6, .int .i64 j), (5, .int .i64 i), (1, .fn 412 [.rop [.ro 1 ((tps l).map eI) true], .rop [.int .i64 x]])], [], 0⟩ = some (.int .i64 p) := by
 intro n
 induction n with
 | zero =>
  intro i j h1 h2 h3 h4
  have h5 : i = p := by omega
  have h6 : j = p := by omega
  subst h5
  subst h6
  simp only [w411_K0]; rw [ck_unf w411_B0.eq_1]
  simp (disch := omega) [ck_unf w411_c0.eq_1]
 | succ n ih =>
  intro i j h1 h2 h3 h4
  have hn := hz.n
  by_cases c : i < j
  · obtain ⟨m, hm⟩ : ∃ m, m = (i + j) / 2 := ⟨_, rfl⟩
    have hk : m < l.length := by omega
    have hf := ftest_ok H l x m hk hn
    have hw : IntKind.i64.wrap ((IntKind.u64.wrap ((i : Int) + j)).fdiv (2 ^ min 1 IntKind.u64.bits)) = m := by
     have e1 : (2 : Int) ^ min 1 IntKind.u64.bits = 2 := by decide
     rw [wU64 (by omega) (by omega), e1, Int.fdiv_eq_ediv_of_nonneg _ (by omega)]
     have e2 : ((i : Int) + j) / 2 = m := by omega
     rw [e2, wI64 (by omega) (by omega)]
    by_cases c2 : x < top l (m + 1)
    · have h7 : p ≤ m := by
       by_cases d : p ≤ m
       · exact d
       · have := hz.mono (i := m + 1) (j := p) (by omega) (by omega); omega
      have this := ih i m (by omega) h2 h7 (by omega)
      rw [decide_eq_true c2] at hf
      simp only [w411_K0] at this ⊢; rw [ck_unf w411_B0.eq_1]
      try simp at this
      simp (disch := omega) [c, wI64, hw, hf, this, H.inl, inlB, H.pp, ppB]
    · have h7 : m + 1 ≤ p := by
       by_cases d : m + 1 ≤ p
       · exact d
       · have := hz.mono (i := p + 1) (j := m + 1) (by omega) (by omega); omega
      have this := ih (m + 1) j (by omega) h7 h3 h4
      rw [decide_eq_false c2] at hf
      simp only [w411_K0] at this ⊢; rw [ck_unf w411_B0.eq_1]
      try simp at this
      simp (disch := omega) [c, wI64, hw, hf, this, H.inl, inlB, H.pp, ppB]
  · have h5 : i = p := by omega
    have h6 : j = p := by omega
    subst h5
    subst h6
    simp only [w411_K0]; rw [ck_unf w411_B0.eq_1]
    simp (disch := omega) [ck_unf w411_c0.eq_1]
theorem findT_ok (H : HasSz C) (l : List En) (x : Int) (hz : Szd l) (p : Nat) (hp : p < l.length) (hp1 : top l p ≤ x) (hp2 : x < top l (p + 1)) : FnW C 247 [.ro 1 ((tps l).map eI) true, .int .i64 x] = some (.int .i64 p) := by
 have hn := hz.n
 have h := search_loop H l x hz p hp hp1 hp2 l.length 0 l.length (by omega) (by omega) (by omega) (by omega)
 have key : FnW C 411 [.int .i64 l.length, .fn 412 [.rop [.ro 1 ((tps l).map eI) true], .rop [.int .i64 x]]] = some (.int .i64 p) := by
  rw [fnW_eq H.f411 rfl]
  simp only [w411_K0] at h
  simp at h
  simp [w411, h]
 have h3 : ((l.length : Int) + 1) - 1 = l.length := by omega
 rw [fnW_eq H.f247 rfl]
 simp (disch := omega) [w247, tps_len, wI64, h3, key, H.inl, inlB, H.pp, ppB]
theorem tps_last (l : List En) (h : l.length < (tps l).length) : (tps l)[l.length] = sm l := by
 rw [tps_get, top_len]
def atR (l : List En) (x : Int) : AV := if szE l ≠ 0 then .tup [.int .i64 0, .int .i64 (szE l)] else if x < 0 ∨ sm l ≤ x then .tup [.int .i64 0, .int .i64 4] else .tup [.int .i64 (rowA l x), .int .i64 0]
theorem at_ok (H : HasSz C) (l : List En) (e : Bool) (hl : l.length ≤ 1000000) (hs : SzB l) (x : Int) : FnW C 120 [aL l e, .int .i64 x] = some (atR l x) := by
 unfold atR
 by_cases hz0 : szE l = 0
 · rw [if_neg (by simpa using hz0)]
   have hz := szd_of hz0
   have hn := hz.n
   have h1 := tops_ok H l e hz
   have h3 : ((l.length : Int) + 1) - 1 = l.length := by omega
   have h4 := tps_last l
   have h5' : l.length < (tps l).length := by rw [tps_len]; omega
   have h5 : l.length < (tps l).length := by rw [tps_len]; omega
   rw [fnW_eq H.f120 rfl]
   by_cases c1 : x < 0
   · rw [if_pos (.inl c1)]
     simp (disch := omega) [w120, h1, c1, H.inl, inlB, H.pp, ppB]
   · by_cases c2 : sm l ≤ x
     · rw [if_pos (.inr c2)]
       simp (disch := omega) [w120, h1, c1, c2, tps_len, h3, h4, h5', wI64, H.inl, inlB, H.pp, ppB]
     · rw [if_neg (by omega)]
       obtain ⟨p, p1, p2, p3⟩ := hz.row (by omega : 0 ≤ x) (by omega)
       have h6 := findT_ok H l x hz p p1 p2 p3
       rw [hz.rowA_eq p1 p2 p3]
       simp (disch := omega) [w120, h1, c1, c2, tps_len, h3, h4, h5', h6, wI64, H.inl, inlB, H.pp, ppB]
 · rw [if_pos hz0]
   have h1 := tops_bad H l e hl hs hz0
   rw [fnW_eq H.f120 rfl]
   generalize szE l = E at *
   simp (disch := omega) [w120, h1, hz0, H.inl, inlB, H.pp, ppB]
theorem viewport_ok (H : HasSz C) (l : List En) (e : Bool) (hl : l.length ≤ 1000000) (hs : SzB l) (o v : Int) (ho : -9223372036854775808 ≤ o ∧ o ≤ 9223372036854775807) (hv : -9223372036854775808 ≤ v ∧ v ≤ 9223372036854775807) :
 FnW C 248 [aL l e, .int .i64 o, .int .i64 v] = some (.int .i64 (vpE l o v)) := by
 have h1 := sized_ok H l e hl hs
 rw [fnW_eq H.f248 rfl]
 unfold vpE
 by_cases hz0 : szE l = 0
 · rw [hz0] at h1 ⊢
   have hz := szd_of hz0
   have h2 := totW_ok H.toHasL l e hl hs
   have h3 := hz.nn
   have h4 := hz.t
   rw [hz.tot] at h2
   rw [if_neg (by simp)]
   by_cases c1 : v < 1
   · simp (disch := omega) [w248, h1, c1, H.inl, inlB, H.pp, ppB]
   · by_cases c2 : 2147483648 < v
     · simp (disch := omega) [w248, h1, c1, c2, H.inl, inlB, H.pp, ppB]
     · rw [if_neg (by omega)]
       by_cases c3 : o < 0
       · simp (disch := omega) [w248, h1, c1, c2, c3, H.inl, inlB, H.pp, ppB]
       · have h5 : (if v < sm l then sm l - v else 0) = mostS l v := by unfold mostS; split <;> split <;> omega
         by_cases c4 : mostS l v < o
         · simp (disch := omega) [w248, h1, c1, c2, c3, c4, h2, h5, wI64, imax, H.inl, inlB, H.pp, ppB]
         · simp (disch := omega) [w248, h1, c1, c2, c3, c4, h2, h5, wI64, imax, H.inl, inlB, H.pp, ppB]
 · rw [if_pos hz0]
   generalize szE l = E at *
   simp (disch := omega) [w248, h1, hz0, H.inl, inlB, H.pp, ppB]
theorem visible_ok (H : HasSz C) (l : List En) (e : Bool) (hl : l.length ≤ 1000000) (hs : SzB l) (o v : Int) (ho : -9223372036854775808 ≤ o ∧ o ≤ 9223372036854775807) (hv : -9223372036854775808 ≤ v ∧ v ≤ 9223372036854775807) :
 FnW C 121 [aL l e, .int .i64 o, .int .i64 v] = some (if vpE l o v ≠ 0 then .tup [.int .i64 0, .int .i64 0, .int .i64 (vpE l o v)] else .tup [.int .i64 (visF l o v), .int .i64 (visT l o v), .int .i64 0]) := by
 have h1 := viewport_ok H l e hl hs o v ho hv
 rw [fnW_eq H.f121 rfl]
 by_cases c0 : vpE l o v = 0
 · rw [if_neg (by simpa using c0)]
   have hp := vp_of c0
   have hn := hp.n
   rw [c0] at h1
   have h2 := tops_ok H l e hp.toSzd
   have h4 := tps_last l
   have h5' : l.length < (tps l).length := by rw [tps_len]; omega
   have h3 : ((l.length : Int) + 1) - 1 = l.length := by omega
   have hv0 := hp.v0
   have hs0 := hp.s0
   have ht := hp.t
   have hnn := hp.nn
   unfold visF visT
   by_cases c1 : l.length = 0
   · simp (disch := omega) [w121, h1, h2, c1, tps_len, wI64, H.inl, inlB, H.pp, ppB]
   · rw [if_neg c1, if_neg c1]
     obtain ⟨p, q, p1, q1, hpq, a, b⟩ := hp.ends (by omega)
     have hm : imin (o + v) (sm l) ≤ sm l := by unfold imin; split <;> omega
     have hlo : mostS l v ≤ sm l := by unfold mostS; split <;> omega
     have h5 := findT_ok H l o hp.toSzd p p1 a.1 a.2
     have h6 := findT_ok H l _ hp.toSzd q q1 b.1 b.2
     have hq := hp.rng q
     rw [hp.rowA_eq p1 a.1 a.2, hp.rowA_eq q1 b.1 b.2]
     have c1' : ¬ ((l.length : Int) + 1 = 1) := by omega
     generalize hM : imin (o + v) (sm l) = M at *
     simp (disch := omega) [w121, h1, h2, c1', tps_len, h3, h4, h5', h5, h6, hM, wI64, H.inl, inlB, H.pp, ppB]
 · rw [if_pos c0]
   generalize vpE l o v = E at *
   simp (disch := omega) [w121, h1, c0, H.inl, inlB, H.pp, ppB]
end Go.D
end
section
set_option linter.unusedSimpArgs false
set_option linter.unusedVariables false
namespace Go.D
open Go Go.Pav Go.Pw P
set_option maxRecDepth 10000
set_option maxHeartbeats 4000000
set_option linter.unusedSimpArgs false
set_option linter.unusedVariables false
attribute [-simp] List.getElem_cons_drop
variable {C : WProg}
theorem rtop_loop (H : HasSz C) (l : List En) (e : Bool) (hz : Szd l) (j : Nat) (hj : j ≤ l.length) : ∀ n i, n + i = j →
 w253_K0 C ⟨[(6, .int .i64 i), (5, .int .i64 (top l i)), (1, .int .i64 j), (0, .ro 6 (l.map eEn) e)], [], 0⟩ = some (.int .i64 (top l j)) := by
 intro n
 induction n with
 | zero =>
  intro i hi
  have h1 : i = j := by omega
  subst h1
  simp only [w253_K0]; rw [ck_unf w253_B0.eq_1]
  simp (disch := omega) [ck_unf w253_c0.eq_1]
 | succ n ih =>
  intro i hi
  have h1 : i < l.length := by omega
  have h2 : i < j := by omega
  have hn := hz.n
  have hr := hz.small (i + 1)
  have this := ih (i + 1) (by omega)
  rw [top_succ h1] at this hr
  simp only [w253_K0] at this ⊢; rw [ck_unf w253_B0.eq_1]
  simp at this
  simp (disch := omega) [h1, h2, wI64, this]
theorem rtop_ok (H : HasSz C) (l : List En) (e : Bool) (hz : Szd l) (j : Nat) (hj : j ≤ l.length) : FnW C 253 [.ro 6 (l.map eEn) e, .int .i64 j] = some (.int .i64 (top l j)) := by
 have h := rtop_loop H l e hz j hj j 0 (by simp)
 rw [top_0] at h
 rw [fnW_eq H.f253 rfl]
 simp only [w253_K0] at h
 try simp at h
 simp [w253, h]
theorem rtop_ok1 (H : HasSz C) (l : List En) (e : Bool) (hz : Szd l) (j : Nat) (hj : j < l.length) : FnW C 253 [.ro 6 (l.map eEn) e, .int .i64 ((j : Int) + 1)] = some (.int .i64 (top l (j + 1))) := rtop_ok H l e hz (j + 1) hj
theorem rat_loop (H : HasSz C) (l : List En) (e : Bool) (hz : Szd l) (x : Int) : ∀ n i, n + i = l.length →
 w254_K0 C ⟨[(5, .int .i64 i), (1, .int .i64 x), (0, .ro 6 (l.map eEn) e)], [], 0⟩ = some (.int .i64 (rowF l x n i)) := by
 intro n
 induction n with
 | zero =>
  intro i hi
  have h3 : ¬ i < l.length := by omega
  simp only [w254_K0]; rw [ck_unf w254_B0.eq_1]
  simp (disch := omega) [ck_unf w254_c0.eq_1, h3, rowF]
 | succ n ih =>
  intro i hi
  have h1 : i < l.length := by omega
  have hn := hz.n
  have this := ih (i + 1) (by omega)
  have q1 := rtop_ok H l e hz i (by omega)
  have q2 := rtop_ok1 H l e hz i h1
  rw [rowF]
  generalize rowF l x n (i + 1) = R at *
  by_cases c1 : top l i ≤ x
  · by_cases c2 : x < top l (i + 1)
    · rw [if_pos ⟨c1, c2⟩]
      simp only [w254_K0]; rw [ck_unf w254_B0.eq_1]
      simp (disch := omega) [h1, wI64, q1, q2, c1, c2, H.inl, inlB, H.pp, ppB]
    · rw [if_neg (fun q => c2 q.2)]
      simp only [w254_K0] at this ⊢; rw [ck_unf w254_B0.eq_1]
      simp at this
      simp (disch := omega) [h1, wI64, q1, q2, c1, c2, H.inl, inlB, H.pp, ppB, this]
  · rw [if_neg (fun q => c1 q.1)]
    simp only [w254_K0] at this ⊢; rw [ck_unf w254_B0.eq_1]
    simp at this
    simp (disch := omega) [h1, wI64, q1, q2, c1, H.inl, inlB, H.pp, ppB, this]
theorem rat_ok (H : HasSz C) (l : List En) (e : Bool) (hz : Szd l) (x : Int) : FnW C 254 [.ro 6 (l.map eEn) e, .int .i64 x] = some (.int .i64 (rowA l x)) := by
 have h := rat_loop H l e hz x l.length 0 (by simp)
 rw [fnW_eq H.f254 rfl]
 unfold rowA
 generalize rowF l x l.length 0 = R at *
 simp only [w254_K0] at h
 simp at h
 simp [w254, h]
theorem rmost_ok (H : HasSz C) (l : List En) (e : Bool) (hz : Szd l) (v : Int) (hv : -9223372036854775808 ≤ sm l - v ∧ sm l - v ≤ 9223372036854775807) : FnW C 327 [.ro 6 (l.map eEn) e, .int .i64 v] = some (.int .i64 (mostS l v)) := by
 have h := rtop_ok H l e hz l.length (Nat.le_refl _)
 rw [top_len] at h
 rw [fnW_eq H.f327 rfl]
 unfold mostS
 by_cases c : sm l < v
 · simp (disch := omega) [w327, h, c, wI64, H.inl, inlB, H.pp, ppB]
 · simp (disch := omega) [w327, h, c, wI64, H.inl, inlB, H.pp, ppB]
theorem rviewport_ok (H : HasSz C) (l : List En) (e : Bool) (hl : l.length ≤ 1000000) (hs : SzB l) (o v : Int) (ho : -9223372036854775808 ≤ o ∧ o ≤ 9223372036854775807) (hv : -9223372036854775808 ≤ v ∧ v ≤ 9223372036854775807) :
 FnW C 252 [.ro 6 (l.map eEn) e, .int .i64 o, .int .i64 v] = some (.int .i64 (vpE l o v)) := by
 have h1 := rsized_ok H l e hl hs
 rw [fnW_eq H.f252 rfl]
 unfold vpE
 by_cases hz0 : szE l = 0
 · rw [hz0] at h1 ⊢
   have hz := szd_of hz0
   have h3 := hz.nn
   have h4 := hz.t
   rw [if_neg (by simp)]
   by_cases c1 : v < 1
   · simp (disch := omega) [w252, h1, c1, H.inl, inlB, H.pp, ppB]
   · by_cases c2 : 2147483648 < v
     · simp (disch := omega) [w252, h1, c1, c2, H.inl, inlB, H.pp, ppB]
     · rw [if_neg (by omega)]
       have h2 := rmost_ok H l e hz v (by omega)
       by_cases c3 : o < 0
       · simp (disch := omega) [w252, h1, c1, c2, c3, H.inl, inlB, H.pp, ppB]
       · by_cases c4 : mostS l v < o
         · simp (disch := omega) [w252, h1, c1, c2, c3, c4, h2, wI64, H.inl, inlB, H.pp, ppB]
         · simp (disch := omega) [w252, h1, c1, c2, c3, c4, h2, wI64, H.inl, inlB, H.pp, ppB]
 · rw [if_pos hz0]
   have hp : 0 < szE l := by
    have : 0 ≤ szE l := by unfold szE ovE; repeat (first | omega | split)
    omega
   generalize szE l = E at *
   simp (disch := omega) [w252, h1, hz0, hp, H.inl, inlB, H.pp, ppB]
theorem rseen_ok (H : HasSz C) (l : List En) (e : Bool) (o v : Int) (hp : Vp l o v) (i : Nat) (hi : i < l.length) : FnW C 272 [.ro 6 (l.map eEn) e, .int .i64 o, .int .i64 v, .int .i64 i] = some (.int .i64 (if top l i < o + v ∧ o < top l (i + 1) then 1 else 0)) := by
 have hn := hp.n
 have hv := hp.v0
 have ho := hp.s0
 have ht := hp.t
 have hnn := hp.nn
 have hlo : mostS l v ≤ sm l := by unfold mostS; split <;> omega
 have q1 := rtop_ok H l e hp.toSzd i (by omega)
 have q2 := rtop_ok1 H l e hp.toSzd i hi
 rw [fnW_eq H.f272 rfl]
 by_cases c1 : top l i < o + v
 · by_cases c2 : o < top l (i + 1)
   · rw [if_pos ⟨c1, c2⟩]
     simp (disch := omega) [w272, q1, q2, c1, c2, wI64, H.inl, inlB, H.pp, ppB]
   · rw [if_neg (fun q => c2 q.2)]
     simp (disch := omega) [w272, q1, q2, c1, c2, wI64, H.inl, inlB, H.pp, ppB]
 · rw [if_neg (fun q => c1 q.1)]
   simp (disch := omega) [w272, q1, q2, c1, wI64, H.inl, inlB, H.pp, ppB]
theorem rvis_loop (H : HasSz C) (l : List En) (e : Bool) (o v : Int) (hp : Vp l o v) (p q : Nat) (hpl : p < l.length) (hql : q < l.length) (hpq : p ≤ q)
 (hseen : ∀ i, i < l.length → ((top l i < o + v ∧ o < top l (i + 1)) ↔ (p ≤ i ∧ i ≤ q))) : ∀ n : Nat, n ≤ l.length →
 w255_K0 C ⟨[(10, .int .i64 ((n : Int) - 1)), (9, .int .i64 (if q < n then 0 else if p < n then (q : Int) + 1 - n else (q : Int) + 1 - p)), (8, .int .i64 (if q < n then 0 else if p < n then (n : Int) else p)), (2, .int .i64 v), (1, .int .i64 o), (0, .ro 6 (l.map eEn) e)], [], 0⟩ =
  some (.tup [.int .i64 p, .int .i64 ((q : Int) + 1)]) := by
 intro n
 induction n with
 | zero =>
  intro _
  have hn := hp.n
  rw [if_neg (by omega), if_neg (by omega), if_neg (by omega), if_neg (by omega)]
  have e1 : (p : Int) + ((q : Int) + 1 - p) = (q : Int) + 1 := by omega
  simp only [w255_K0]; rw [ck_unf w255_B0.eq_1]
  simp (disch := omega) [ck_unf w255_c0.eq_1, wI64, e1]
 | succ n ih =>
  intro hn1
  have hn := hp.n
  have hi : n < l.length := by omega
  have this := ih (by omega)
  have hsn := rseen_ok H l e o v hp n hi
  have e1 : ((n + 1 : Nat) : Int) - 1 = n := by omega
  rw [e1]
  by_cases c1 : q < n
  · rw [if_neg (fun w => by have := (hseen n hi).1 w; omega)] at hsn
    rw [if_pos c1, if_pos c1] at this
    rw [if_pos (by omega), if_pos (by omega)]
    simp only [w255_K0] at this ⊢; rw [ck_unf w255_B0.eq_1]
    try simp at this
    simp (disch := omega) [wI64, hsn, H.inl, inlB, H.pp, ppB, this]
  · rw [if_neg c1, if_neg c1] at this
    by_cases c2 : p ≤ n
    · rw [if_pos ((hseen n hi).2 ⟨c2, by omega⟩)] at hsn
      have e2 : (if q < n + 1 then (0 : Int) else if p < n + 1 then (q : Int) + 1 - ((n + 1 : Nat) : Int) else (q : Int) + 1 - p) = (q : Int) - n := by
       split
       · omega
       · rw [if_pos (by omega)]; omega
      have e3 : (if p < n then (q : Int) + 1 - n else (q : Int) + 1 - p) = (q : Int) + 1 - n := by split <;> omega
      have e4 : (if p < n then (n : Int) else p) = n := by split <;> omega
      have e5 : (q : Int) - n + 1 = (q : Int) + 1 - n := by omega
      rw [e2]
      rw [e3, e4] at this
      generalize (if q < n + 1 then (0 : Int) else if p < n + 1 then ((n + 1 : Nat) : Int) else p) = Z at *
      simp only [w255_K0] at this ⊢; rw [ck_unf w255_B0.eq_1]
      try simp at this
      simp (disch := omega) [wI64, hsn, e5, H.inl, inlB, H.pp, ppB, this]
    · rw [if_neg (fun w => by have := (hseen n hi).1 w; omega)] at hsn
      rw [if_neg (by omega), if_neg (by omega)] at this
      rw [if_neg (by omega), if_neg (by omega), if_neg (by omega), if_neg (by omega)]
      simp only [w255_K0] at this ⊢; rw [ck_unf w255_B0.eq_1]
      try simp at this
      simp (disch := omega) [wI64, hsn, H.inl, inlB, H.pp, ppB, this]
theorem rvisible_ok (H : HasSz C) (l : List En) (e : Bool) (o v : Int) (hp : Vp l o v) : FnW C 255 [.ro 6 (l.map eEn) e, .int .i64 o, .int .i64 v] = some (.tup [.int .i64 (visF l o v), .int .i64 (visT l o v)]) := by
 have hn := hp.n
 rw [fnW_eq H.f255 rfl]
 unfold visF visT
 by_cases c1 : l.length = 0
 · have hnil : l = [] := List.length_eq_zero_iff.1 c1
   subst hnil
   simp (disch := omega) [w255, ck_unf w255_B0.eq_1, ck_unf w255_c0.eq_1, wI64]
 · rw [if_neg c1, if_neg c1]
   obtain ⟨p, q, p1, q1, hpq, a, b⟩ := hp.ends (by omega)
   have h := rvis_loop H l e o v hp p q p1 q1 hpq (fun i hi => hp.seen p1 q1 a b hi) l.length (Nat.le_refl _)
   rw [if_pos q1, if_pos q1] at h
   rw [hp.rowA_eq p1 a.1 a.2, hp.rowA_eq q1 b.1 b.2]
   simp only [w255_K0] at h
   try simp at h
   simp (disch := omega) [w255, wI64, h]
end Go.D
end
section
set_option linter.unusedSimpArgs false
set_option linter.unusedVariables false
namespace Go.D
open Go Go.Pav Go.Pw P
set_option maxRecDepth 10000
set_option maxHeartbeats 4000000
set_option linter.unusedSimpArgs false
set_option linter.unusedVariables false
attribute [-simp] List.getElem_cons_drop
variable {C : WProg}
structure HasRs (C : WProg) : Prop extends HasSz C where
 f123 : C.fns.get 123 = some w123
theorem rs_loop (H : HasRs C) (hlives : FnW C 128 [] = some (.bool true)) (l : List En) (e : Bool) (hz : Szd l) (hl : l.length ≤ 40) (x o v : Int) (a1 a2 : Int) (hat : atR l x = .tup [.int .i64 a1, .int .i64 a2]) (w f t : Int) (hw : w = vpE l o v)
 (hft : if w ≠ 0 then f = 0 ∧ t = 0 else f = visF l o v ∧ t = visT l o v) : ∀ n i, n + i = l.length + 1 →
 w123_K0 C ⟨[(16, .int .i64 i), (15, .int .i64 w), (13, .int .i64 t), (12, .int .i64 f), (11, .int .i64 a2), (10, .int .i64 a1), (8, .ro 1 ((tps l).map eI) true), (5, .ptr 0 0 0), (3, .ptr 1 0 0), (1, .int .i64 x)], [(0, .cells 2 [[.int .i64 o, .int .i64 v]] true true), (1, .cells 1 [[.ro 6 (l.map eEn) e]] true true)], 2⟩ = some (.bool true) := by
 intro n
 induction n with
 | zero =>
  intro i hi
  have h3 : ¬ (i : Int) < l.length + 1 := by omega
  have q1 := rat_ok H.toHasSz l e hz x
  have hW : (w = 0 ∧ f = visF l o v ∧ t = visT l o v ∧ FnW C 255 [.ro 6 (l.map eEn) e, .int .i64 o, .int .i64 v] = some (.tup [.int .i64 (visF l o v), .int .i64 (visT l o v)])) ∨ (w ≠ 0 ∧ f = 0 ∧ t = 0) := by
   by_cases c : w = 0
   · left
     rw [if_neg (by simpa using c)] at hft
     exact ⟨c, hft.1, hft.2, rvisible_ok H.toHasSz l e o v (vp_of (by omega))⟩
   · right
     rw [if_pos c] at hft
     exact ⟨c, hft⟩
  unfold atR at hat
  rw [szE_of hz, if_neg (by simp)] at hat
  by_cases c1 : x < 0 ∨ sm l ≤ x
  · rw [if_pos c1] at hat
    rw [hz.rowA_no c1] at q1
    simp only [AV.tup.injEq, List.cons.injEq, AV.int.injEq, and_true, true_and] at hat
    obtain ⟨rfl, rfl⟩ := hat
    rcases hW with ⟨rfl, rfl, rfl, q2⟩ | ⟨c, rfl, rfl⟩
    · simp only [w123_K0]; rw [ck_unf w123_B0.eq_1]
      simp (disch := omega) [ck_unf w123_c0.eq_1, tps_len, h3, q1, q2, hlives, H.inl, inlB, H.pp, ppB]
    · simp only [w123_K0]; rw [ck_unf w123_B0.eq_1]
      simp (disch := omega) [ck_unf w123_c0.eq_1, tps_len, h3, q1, c, hlives, H.inl, inlB, H.pp, ppB]
  · rw [if_neg c1] at hat
    obtain ⟨p, p1, p2, p3⟩ := hz.row (by omega : 0 ≤ x) (by omega)
    rw [hz.rowA_eq p1 p2 p3] at q1 hat
    simp only [AV.tup.injEq, List.cons.injEq, AV.int.injEq, and_true, true_and] at hat
    obtain ⟨rfl, rfl⟩ := hat
    have h4 : ¬ (p : Int) < 0 := by omega
    rcases hW with ⟨rfl, rfl, rfl, q2⟩ | ⟨c, rfl, rfl⟩
    · simp only [w123_K0]; rw [ck_unf w123_B0.eq_1]
      simp (disch := omega) [ck_unf w123_c0.eq_1, tps_len, h3, h4, q1, q2, hlives, H.inl, inlB, H.pp, ppB]
    · simp only [w123_K0]; rw [ck_unf w123_B0.eq_1]
      simp (disch := omega) [ck_unf w123_c0.eq_1, tps_len, h3, h4, q1, c, hlives, H.inl, inlB, H.pp, ppB]
 | succ n ih =>
  intro i hi
  have h1 : i < l.length + 1 := by omega
  have h1' : (i : Int) < l.length + 1 := by omega
  have h2 : i < (tps l).length := by rw [tps_len]; exact h1
  have this := ih (i + 1) (by omega)
  have q1 := rtop_ok H.toHasSz l e hz i (by omega)
  have q2 := tps_get l h2
  simp only [w123_K0] at this ⊢; rw [ck_unf w123_B0.eq_1]
  simp at this
  simp (disch := omega) [tps_len, h1, h1', h2, q1, q2, wI64, H.inl, inlB, H.pp, ppB, this]
theorem rslaw_ok (H : HasRs C) (hlives : FnW C 128 [] = some (.bool true)) (l : List En) (e : Bool) (hll : l.length ≤ 9223372036854775807) (hs : SzB l) (x o v : Int) (hx : -9223372036854775808 ≤ x ∧ x ≤ 9223372036854775807)
 (ho : -9223372036854775808 ≤ o ∧ o ≤ 9223372036854775807) (hv : -9223372036854775808 ≤ v ∧ v ≤ 9223372036854775807) :
 FnW C 123 [aL l e, .int .i64 x, .agg [.int .i64 o, .int .i64 v]] = some (.bool true) := by
 rw [fnW_eq H.f123 rfl]
 by_cases c1 : l.length ≤ 40
 · have c1' : ¬ (40 : Int) < l.length := by omega
   have q1 := rsized_ok H.toHasSz l e (by omega) hs
   have q3 := at_ok H.toHasSz l e (by omega) hs x
   have q4 := visible_ok H.toHasSz l e (by omega) hs o v ho hv
   have q5 := rviewport_ok H.toHasSz l e (by omega) hs o v ho hv
   have q6 := sized_ok H.toHasSz l e (by omega) hs
   have q7 := viewport_ok H.toHasSz l e (by omega) hs o v ho hv
   by_cases hz0 : szE l = 0
   · have hz := szd_of hz0
     have q2 := tops_ok H.toHasSz l e hz
     obtain ⟨a1, a2, hat⟩ : ∃ a1 a2, atR l x = .tup [.int .i64 a1, .int .i64 a2] := by
      unfold atR; split
      · exact ⟨_, _, rfl⟩
      · split
        · exact ⟨_, _, rfl⟩
        · exact ⟨_, _, rfl⟩
     obtain ⟨f, t, hvis, hft⟩ : ∃ f t : Int, FnW C 121 [aL l e, .int .i64 o, .int .i64 v] = some (.tup [.int .i64 f, .int .i64 t, .int .i64 (vpE l o v)]) ∧ (if vpE l o v ≠ 0 then f = 0 ∧ t = 0 else f = visF l o v ∧ t = visT l o v) := by
      by_cases c : vpE l o v = 0
      · rw [if_neg (by simpa using c)] at q4
        exact ⟨_, _, by rw [q4, c], by rw [if_neg (by simpa using c)]; exact ⟨rfl, rfl⟩⟩
      · rw [if_pos c] at q4
        exact ⟨_, _, q4, by rw [if_pos c]; exact ⟨rfl, rfl⟩⟩
     have h := rs_loop H hlives l e hz c1 x o v a1 a2 hat (vpE l o v) f t rfl hft (l.length + 1) 0 (by omega)
     rw [hat] at q3
     rw [hz0] at q1 q6
     generalize vpE l o v = W at *
     simp only [w123_K0] at h
     simp at h
     simp (disch := omega) [w123, c1, c1', q1, q2, q3, hvis, q5, q6, q7, tps_len, wI64, h, H.inl, inlB, H.pp, ppB]
   · have q2 := tops_bad H.toHasSz l e (by omega) hs hz0
     have hw : vpE l o v = szE l := by unfold vpE; rw [if_pos hz0]
     unfold atR at q3
     rw [if_pos hz0] at q3
     rw [hw] at q4 q5 q7
     rw [if_pos hz0] at q4
     generalize szE l = E at *
     simp (disch := omega) [w123, c1, c1', q1, q2, q3, q4, q5, q6, q7, hz0, wI64, hlives, H.inl, inlB, H.pp, ppB]
 · have c1' : (40 : Int) < l.length := by omega
   simp (disch := omega) [w123, c1, c1', hlives, H.inl, inlB, H.pp, ppB]
end Go.D
end
