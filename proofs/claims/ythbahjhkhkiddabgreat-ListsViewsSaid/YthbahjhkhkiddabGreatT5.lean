/- Part of the theory that the claims of this work use: D21, D22, D23, D24, D25, D26, D27, D28, D29, D32, D34, D35, D36, PwGlue, PwGlue2, G24, GTy, D30, D31, D38, D40, D46, V600, D47, D48, D49. No conditions of its own. -/
import Derived.Test.YthbahjhkhkiddabGreatT4
import Derived.ChangeSame
import Derived.ChangeArms
import Derived.ReadAgain
import Derived.Handed
import Derived.JoinedOf
import Derived.RowKit
import Derived.Test.YthbahjhkhkiddabGreatRows
import Derived.ProofKit
section
set_option linter.unusedSimpArgs false
set_option linter.unusedVariables false
namespace Go.D
open Go Go.Pav Go.Pw P
set_option maxRecDepth 10000
set_option maxHeartbeats 4000000
set_option linter.unusedSimpArgs false
set_option linter.unusedVariables false
attribute [-simp] List.getElem_cons_drop
variable {C : WProg}
structure HasZ (C : WProg) : Prop extends HasY C, HasR C where
 f547 : C.fns.get 547 = some w547
 f513 : C.fns.get 513 = some w513
 f501 : C.fns.get 501 = some w501
 f425 : C.fns.get 425 = some w425
@[simp] theorem Nd.c_hasRef (n : Nd) (k : Nat) : n.c.any (hasRefW (k + 1)) = true := by rw [Nd.c_eq]; rfl
@[simp] theorem Nd.c_hasRef2 (n : Nd) (k : Nat) : (∃ x, x ∈ n.c ∧ hasRefW (k + 1) x = true) = True := by
 refine eq_true ⟨.ro 2 (n.a.map eA) n.ae, ?_, rfl⟩
 rw [Nd.c_eq]; simp
theorem made_in (H : HasZ C) (x : It) (hk : 0 ≤ x.k ∧ x.k < 18446744073709551616) (hm : x.m.length ≤ 8) (l : List Pt) (e : Bool) (hl : l.length ≤ 16) (p : Pt) (hp : pOne p = true ∧ Fits p) (hk5 : p.k = 5) (i : Nat) (hi : i < l.length)
 (hnext : ∀ G : List Nd, G.length ≤ 8 * (i + 1) → w547_K0 C ⟨[(12, .int .i64 ((i : Int) + 1)), (11, .int .i64 l.length), (10, .ro 6 (l.map Pt.c) e), (5, .sl 0 6 0 G.length G.length false), (2, .ptr 1 0 0)], [(0, .cells 6 (G.map Nd.c) true true), (1, .cells 4 [[.int .u64 x.k, .int .u8 x.t, .str x.x, .ro 1 (x.m.map eS) x.e]] true true)], 2⟩ =
  some (.ro 6 ((G ++ mks x (l.drop (i + 1))).map Nd.c) false)) : ∀ n k, n + k = x.m.length → ∀ G : List Nd, G.length ≤ 8 * i + k →
 w547_K1 C ⟨[(65, .int .i64 k), (64, .int .i64 x.m.length), (63, .ro 1 (x.m.map eS) x.e), (12, .int .i64 i), (11, .int .i64 l.length), (10, .ro 6 (l.map Pt.c) e), (7, .ptr 0 0 0), (5, .sl 1 6 0 G.length G.length false), (2, .ptr 2 0 0)], [(0, .cells 6 [p.c] true true), (1, .cells 6 (G.map Nd.c) true true), (2, .cells 4 [[.int .u64 x.k, .int .u8 x.t, .str x.x, .ro 1 (x.m.map eS) x.e]] true true)], 3⟩ =
  some (.ro 6 ((G ++ (x.m.drop k).map (fun m => elemN x p m [wordsN m]) ++ mks x (l.drop (i + 1))).map Nd.c) false) := by
 intro n
 induction n with
 | zero =>
  intro k hk2 G hG
  have h1 : x.m.drop k = [] := List.drop_eq_nil_of_le (by omega)
  have h3 : ¬ k < x.m.length := by omega
  have := hnext G (by omega)
  simp only [w547_K0] at this
  simp at this
  simp only [w547_K1]; rw [ck_unf w547_B1.eq_1]
  simp (disch := omega) [ck_unf w547_c1.eq_1, h1, h3, wI64, this]
 | succ n ih =>
  intro k hk2 G hG
  have h1 : k < x.m.length := by omega
  have hs := pOne_s hp.1
  have he := element_ok H.toHasY x hk (by omega) p hs.1 (fun s q => ⟨hp.2.f s q, hs.2 s q⟩) x.m[k] [wordsN x.m[k]] true
  have hw := words_ok2 H.toHasY x.m[k]
  have := ih (k + 1) (by omega) (G ++ [elemN x p x.m[k] [wordsN x.m[k]]]) (by simp; omega)
  have hfit : (G.length + 1) * 105 ≤ 35184372088832 := by omega
  rw [drop_cons h1]
  simp only [w547_K1] at this ⊢; rw [ck_unf w547_B1.eq_1]
  simp at this
  simp at he
  simp (disch := omega) [h1, wI64, hfit, hw, he, H.inl, inlB, H.pp, ppB, this]
theorem make_loop (H : HasZ C) (x : It) (hk : 0 ≤ x.k ∧ x.k < 18446744073709551616) (hm : x.m.length ≤ 8) (l : List Pt) (e : Bool) (hl : l.length ≤ 16) (ho : ∀ p ∈ l, Okp p)
 (ih : ∀ p ∈ l, FnW C 547 [eIt x, .ro 6 (p.ch.map Pt.c) p.ce] = some (.ro 6 ((mks x p.ch).map Nd.c) false)) : ∀ n i, n + i = l.length → ∀ G : List Nd, G.length ≤ 8 * i →
 w547_K0 C ⟨[(12, .int .i64 i), (11, .int .i64 l.length), (10, .ro 6 (l.map Pt.c) e), (5, .sl 0 6 0 G.length G.length false), (2, .ptr 1 0 0)], [(0, .cells 6 (G.map Nd.c) true true), (1, .cells 4 [[.int .u64 x.k, .int .u8 x.t, .str x.x, .ro 1 (x.m.map eS) x.e]] true true)], 2⟩ =
  some (.ro 6 ((G ++ mks x (l.drop i)).map Nd.c) false) := by
 intro n
 induction n with
 | zero =>
  intro i hi G hG
  have h1 : l.drop i = [] := List.drop_eq_nil_of_le (by omega)
  have h3 : ¬ i < l.length := by omega
  simp only [w547_K0]; rw [ck_unf w547_B0.eq_1]
  cases G with
  | nil => simp [ck_unf w547_c0.eq_1, h1, h3, mks]
  | cons g G => simp (disch := (first | omega | (simp; done) | (simp; omega))) [ck_unf w547_c0.eq_1, h1, h3, mks, List.take_of_length_le]
 | succ n ihn =>
  intro i hi G hG
  have h1 : i < l.length := by omega
  have hp := ho _ (List.getElem_mem h1)
  have hpo : pOne l[i] = true := by cases hp; assumption
  have hpf : Fits l[i] := by cases hp; assumption
  have hs := pOne_s hpo
  have hnext : ∀ G : List Nd, G.length ≤ 8 * (i + 1) → w547_K0 C ⟨[(12, .int .i64 ((i : Int) + 1)), (11, .int .i64 l.length), (10, .ro 6 (l.map Pt.c) e), (5, .sl 0 6 0 G.length G.length false), (2, .ptr 1 0 0)], [(0, .cells 6 (G.map Nd.c) true true), (1, .cells 4 [[.int .u64 x.k, .int .u8 x.t, .str x.x, .ro 1 (x.m.map eS) x.e]] true true)], 2⟩ =
   some (.ro 6 ((G ++ mks x (l.drop (i + 1))).map Nd.c) false) := fun G q => by
    have := ihn (i + 1) (by omega) G q
    simpa using this
  have hfit : (G.length + 1) * 105 ≤ 35184372088832 := by omega
  rw [drop_cons h1, mks]
  have step : ∀ N : Nd, w547_K0 C ⟨[(12, .int .i64 ((i : Int) + 1)), (11, .int .i64 l.length), (10, .ro 6 (l.map Pt.c) e), (5, .sl 0 6 0 (G.length + 1) (G.length + 1) false), (2, .ptr 1 0 0)], [(0, .cells 6 (G.map Nd.c ++ [N.c]) true true), (1, .cells 4 [[.int .u64 x.k, .int .u8 x.t, .str x.x, .ro 1 (x.m.map eS) x.e]] true true)], 2⟩ =
   some (.ro 6 ((G ++ ([N] ++ mks x (l.drop (i + 1)))).map Nd.c) false) := fun N => by
    have := hnext (G ++ [N]) (by simp; omega)
    simpa using this
  rcases pOne_k hpo with k1 | k1 | k1 | k1 | k1
  · have he := element_ok H.toHasY x hk (by omega) l[i] hs.1 (fun s q => ⟨hpf.f s q, hs.2 s q⟩) l[i].y (mks x l[i].ch) false
    have hr := ih _ (List.getElem_mem h1)
    have := step (elemN x l[i] l[i].y (mks x l[i].ch))
    have hq : mk x l[i] = [elemN x l[i] l[i].y (mks x l[i].ch)] := by rw [mk_eq, if_pos k1]
    rw [hq]
    simp only [w547_K0] at this ⊢; rw [ck_unf w547_B0.eq_1]
    simp at this
    simp (disch := omega) [ck_unf w547_c1.eq_1, h1, k1, wI64, hfit, he, hr, H.inl, inlB, H.pp, ppB, this]
  · have hw := words_ok2 H.toHasY l[i].x
    have := step (wordsN l[i].x)
    have hq : mk x l[i] = [wordsN l[i].x] := by rw [mk_eq, if_neg (by omega), if_pos k1]
    rw [hq]
    simp only [w547_K0] at this ⊢; rw [ck_unf w547_B0.eq_1]
    simp at this
    simp (disch := omega) [ck_unf w547_c1.eq_1, h1, k1, wI64, hfit, hw, H.inl, inlB, H.pp, ppB, this]
  · have hw := words_ok2 H.toHasY x.x
    have := step (wordsN x.x)
    have hq : mk x l[i] = [wordsN x.x] := by rw [mk_eq, if_neg (by omega), if_neg (by omega), if_pos k1]
    rw [hq]
    simp only [w547_K0] at this ⊢; rw [ck_unf w547_B0.eq_1]
    simp at this
    simp (disch := omega) [ck_unf w547_c1.eq_1, h1, k1, wI64, hfit, hw, H.inl, inlB, H.pp, ppB, this]
  · obtain ⟨k, hk2⟩ : ∃ k : Nat, x.k = k := ⟨x.k.toNat, by omega⟩
    have hd := tdec_ok H.toHasW k (by omega)
    have hw := words_ok2 H.toHasY (dec x.k.toNat)
    have := step (wordsN (dec x.k.toNat))
    have hq : mk x l[i] = [wordsN (dec x.k.toNat)] := by rw [mk_eq, if_neg (by omega), if_neg (by omega), if_neg (by omega), if_pos k1]
    rw [hq]
    rw [hk2] at this hw ⊢
    simp only [w547_K0] at this ⊢; rw [ck_unf w547_B0.eq_1]
    simp at this hw
    simp (disch := omega) [ck_unf w547_c1.eq_1, h1, k1, wI64, hfit, hd, hw, H.inl, inlB, H.pp, ppB, this]
  · have := made_in H x hk hm l e hl l[i] ⟨hpo, hpf⟩ k1 i h1 hnext x.m.length 0 (by simp) G (by omega)
    have hq : mk x l[i] = x.m.map fun m => elemN x l[i] m [wordsN m] := by rw [mk_eq, if_neg (by omega), if_neg (by omega), if_neg (by omega), if_neg (by omega), if_pos k1]
    rw [hq, ← List.append_assoc]
    rw [List.drop_zero] at this
    generalize G ++ List.map (fun m => elemN x l[i] m [wordsN m]) x.m ++ mks x (l.drop (i + 1)) = R at *
    simp only [w547_K0]
    simp only [w547_K1] at this
    rw [ck_unf w547_B0.eq_1]
    simp at this
    simp (disch := omega) [ck_unf w547_c1.eq_1, h1, k1, wI64, H.inl, inlB, H.pp, ppB, this]
theorem make_step (H : HasZ C) (x : It) (hk : 0 ≤ x.k ∧ x.k < 18446744073709551616) (hm : x.m.length ≤ 8) (l : List Pt) (e : Bool) (hl : l.length ≤ 16) (ho : ∀ p ∈ l, Okp p)
 (ih : ∀ p ∈ l, FnW C 547 [eIt x, .ro 6 (p.ch.map Pt.c) p.ce] = some (.ro 6 ((mks x p.ch).map Nd.c) false)) : FnW C 547 [eIt x, .ro 6 (l.map Pt.c) e] = some (.ro 6 ((mks x l).map Nd.c) false) := by
 have h := make_loop H x hk hm l e hl ho ih l.length 0 (by simp) [] (by simp)
 simp only [w547_K0] at h
 simp at h
 rw [fnW_eq H.f547 rfl]
 simp [w547, h]
theorem make_all (H : HasZ C) (x : It) (hk : 0 ≤ x.k ∧ x.k < 18446744073709551616) (hm : x.m.length ≤ 8) (p : Pt) (hp : Okp p) : FnW C 547 [eIt x, .ro 6 (p.ch.map Pt.c) p.ce] = some (.ro 6 ((mks x p.ch).map Nd.c) false) := by
 have ho : ∀ m ∈ p.ch, Okp m := by cases hp; assumption
 have hl : p.ch.length ≤ 16 := pOne_len (by cases hp; assumption)
 exact make_step H x hk hm p.ch p.ce hl ho fun m q => make_all H x hk hm m (ho m q)
termination_by SizeOf.sizeOf p
decreasing_by
 have := List.sizeOf_lt_of_mem q
 have := Pt.size_ch p
 omega
theorem make_ok (H : HasZ C) (x : It) (hk : 0 ≤ x.k ∧ x.k < 18446744073709551616) (hm : x.m.length ≤ 8) (l : List Pt) (e : Bool) (hl : l.length ≤ 16) (ho : ∀ p ∈ l, Okp p) :
 FnW C 547 [eIt x, .ro 6 (l.map Pt.c) e] = some (.ro 6 ((mks x l).map Nd.c) false) :=
 make_step H x hk hm l e hl ho fun m q => make_all H x hk hm m (ho m q)
end Go.D
end
section
set_option linter.unusedSimpArgs false
set_option linter.unusedVariables false
namespace Go.D
open Go Go.Pav Go.Pw P
set_option maxRecDepth 10000
set_option maxHeartbeats 4000000
set_option linter.unusedSimpArgs false
set_option linter.unusedVariables false
attribute [-simp] List.getElem_cons_drop
variable {C : WProg}
theorem elemR_c (x : It) (p : Pt) (m : Bs) : (elemR x p m [wordsN m] true).c = [.int .u8 1, .str p.t, .str m, .ro 2 ((p.s.map (attrOf x)).map eA) false, .str [], .ro 6 [[.int .u8 2, .str [], .str [], .ro 2 [] true, .str m, .ro 6 [] true]] true] := by
 rw [Nd.c_eq]; simp only [elemR, List.map_cons, List.map_nil]; rw [Nd.c_eq]; simp [wordsN]
theorem made5_8 (H : HasZ C) (x : It) (hk : 0 ≤ x.k ∧ x.k < 18446744073709551616) (hl8 : x.m.length ≤ 8) (p : Pt) (hl : p.s.length ≤ 8) (m1 m2 m3 m4 m5 m6 m7 m8 : Bs) (r : List Bs) (hm : x.m = [m1, m2, m3, m4, m5, m6, m7, m8] ++ r) :
 w513_K1 C ⟨[(6, .int .i64 8), (5, .sl 0 6 0 8 8 false), (3, .ptr 9 0 0), (2, .ptr 10 0 0)], [(0, .cells 6 [[.int .u8 1, .str p.t, .str m1, .ro 2 ((p.s.map (attrOf x)).map eA) false, .str [], .sl 1 6 0 1 1 true], [.int .u8 1, .str p.t, .str m2, .ro 2 ((p.s.map (attrOf x)).map eA) false, .str [], .sl 2 6 0 1 1 true], [.int .u8 1, .str p.t, .str m3, .ro 2 ((p.s.map (attrOf x)).map eA) false, .str [], .sl 3 6 0 1 1 true], [.int .u8 1, .str p.t, .str m4, .ro 2 ((p.s.map (attrOf x)).map eA) false, .str [], .sl 4 6 0 1 1 true], [.int .u8 1, .str p.t, .str m5, .ro 2 ((p.s.map (attrOf x)).map eA) false, .str [], .sl 5 6 0 1 1 true], [.int .u8 1, .str p.t, .str m6, .ro 2 ((p.s.map (attrOf x)).map eA) false, .str [], .sl 6 6 0 1 1 true], [.int .u8 1, .str p.t, .str m7, .ro 2 ((p.s.map (attrOf x)).map eA) false, .str [], .sl 7 6 0 1 1 true], [.int .u8 1, .str p.t, .str m8, .ro 2 ((p.s.map (attrOf x)).map eA) false, .str [], .sl 8 6 0 1 1 true]] true false), (1, .cells 6 [[.int .u8 2, .str [], .str [], .ro 2 [] true, .str m1, .ro 6 [] true]] true true), (2, .cells 6 [[.int .u8 2, .str [], .str [], .ro 2 [] true, .str m2, .ro 6 [] true]] true true), (3, .cells 6 [[.int .u8 2, .str [], .str [], .ro 2 [] true, .str m3, .ro 6 [] true]] true true), (4, .cells 6 [[.int .u8 2, .str [], .str [], .ro 2 [] true, .str m4, .ro 6 [] true]] true true), (5, .cells 6 [[.int .u8 2, .str [], .str [], .ro 2 [] true, .str m5, .ro 6 [] true]] true true), (6, .cells 6 [[.int .u8 2, .str [], .str [], .ro 2 [] true, .str m6, .ro 6 [] true]] true true), (7, .cells 6 [[.int .u8 2, .str [], .str [], .ro 2 [] true, .str m7, .ro 6 [] true]] true true), (8, .cells 6 [[.int .u8 2, .str [], .str [], .ro 2 [] true, .str m8, .ro 6 [] true]] true true), (9, .cells 4 [[.int .u64 x.k, .int .u8 x.t, .str x.x, .ro 1 (x.m.map eS) x.e]] true true), (10, .cells 6 [p.c] true true)], 11⟩ =
  some (.ro 6 (([m1, m2, m3, m4, m5, m6, m7, m8] ++ r).map fun m => (elemR x p m [wordsN m] true).c) false) := by
 simp only [w513_K1]; rw [ck_unf w513_B1.eq_1]
 have hxl : x.m.length = 8 + r.length := by rw [hm]; simp; omega
 cases r with
 | nil =>
  simp at hxl
  simp [ck_unf w513_c2.eq_1, hxl, elemR_c]
 | cons m9 r => simp at hxl; omega
theorem made5_7 (H : HasZ C) (x : It) (hk : 0 ≤ x.k ∧ x.k < 18446744073709551616) (hl8 : x.m.length ≤ 8) (p : Pt) (hl : p.s.length ≤ 8) (m1 m2 m3 m4 m5 m6 m7 : Bs) (r : List Bs) (hm : x.m = [m1, m2, m3, m4, m5, m6, m7] ++ r) :
 w513_K1 C ⟨[(6, .int .i64 7), (5, .sl 0 6 0 7 7 false), (3, .ptr 8 0 0), (2, .ptr 9 0 0)], [(0, .cells 6 [[.int .u8 1, .str p.t, .str m1, .ro 2 ((p.s.map (attrOf x)).map eA) false, .str [], .sl 1 6 0 1 1 true], [.int .u8 1, .str p.t, .str m2, .ro 2 ((p.s.map (attrOf x)).map eA) false, .str [], .sl 2 6 0 1 1 true], [.int .u8 1, .str p.t, .str m3, .ro 2 ((p.s.map (attrOf x)).map eA) false, .str [], .sl 3 6 0 1 1 true], [.int .u8 1, .str p.t, .str m4, .ro 2 ((p.s.map (attrOf x)).map eA) false, .str [], .sl 4 6 0 1 1 true], [.int .u8 1, .str p.t, .str m5, .ro 2 ((p.s.map (attrOf x)).map eA) false, .str [], .sl 5 6 0 1 1 true], [.int .u8 1, .str p.t, .str m6, .ro 2 ((p.s.map (attrOf x)).map eA) false, .str [], .sl 6 6 0 1 1 true], [.int .u8 1, .str p.t, .str m7, .ro 2 ((p.s.map (attrOf x)).map eA) false, .str [], .sl 7 6 0 1 1 true]] true false), (1, .cells 6 [[.int .u8 2, .str [], .str [], .ro 2 [] true, .str m1, .ro 6 [] true]] true true), (2, .cells 6 [[.int .u8 2, .str [], .str [], .ro 2 [] true, .str m2, .ro 6 [] true]] true true), (3, .cells 6 [[.int .u8 2, .str [], .str [], .ro 2 [] true, .str m3, .ro 6 [] true]] true true), (4, .cells 6 [[.int .u8 2, .str [], .str [], .ro 2 [] true, .str m4, .ro 6 [] true]] true true), (5, .cells 6 [[.int .u8 2, .str [], .str [], .ro 2 [] true, .str m5, .ro 6 [] true]] true true), (6, .cells 6 [[.int .u8 2, .str [], .str [], .ro 2 [] true, .str m6, .ro 6 [] true]] true true), (7, .cells 6 [[.int .u8 2, .str [], .str [], .ro 2 [] true, .str m7, .ro 6 [] true]] true true), (8, .cells 4 [[.int .u64 x.k, .int .u8 x.t, .str x.x, .ro 1 (x.m.map eS) x.e]] true true), (9, .cells 6 [p.c] true true)], 10⟩ =
  some (.ro 6 (([m1, m2, m3, m4, m5, m6, m7] ++ r).map fun m => (elemR x p m [wordsN m] true).c) false) := by
 simp only [w513_K1]; rw [ck_unf w513_B1.eq_1]
 have hxl : x.m.length = 7 + r.length := by rw [hm]; simp; omega
 cases r with
 | nil =>
  simp at hxl
  simp [ck_unf w513_c2.eq_1, hxl, elemR_c]
 | cons m8 r =>
  have h1 : 7 < x.m.length := by rw [hxl]; simp
  have hg : x.m[7] = m8 := by
   have q : x.m[7]? = some m8 := by rw [hm]; simp
   rw [List.getElem?_eq_getElem h1] at q
   exact Option.some.inj q
  have ha := rattrs_ok H.toHasX x hk (by omega) p.s p.se hl
  have this := made5_8 H x hk hl8 p hl m1 m2 m3 m4 m5 m6 m7 m8 r (by rw [hm]; simp)
  simp only [w513_K1] at this
  simp [elemR_c] at this
  have h2 : (7 : Int) < x.m.length := by omega
  simp (disch := omega) [h1, h2, hg, wI64, elemR_c, ha, H.inl, inlB, H.pp, ppB, this]
theorem made5_6 (H : HasZ C) (x : It) (hk : 0 ≤ x.k ∧ x.k < 18446744073709551616) (hl8 : x.m.length ≤ 8) (p : Pt) (hl : p.s.length ≤ 8) (m1 m2 m3 m4 m5 m6 : Bs) (r : List Bs) (hm : x.m = [m1, m2, m3, m4, m5, m6] ++ r) :
 w513_K1 C ⟨[(6, .int .i64 6), (5, .sl 0 6 0 6 6 false), (3, .ptr 7 0 0), (2, .ptr 8 0 0)], [(0, .cells 6 [[.int .u8 1, .str p.t, .str m1, .ro 2 ((p.s.map (attrOf x)).map eA) false, .str [], .sl 1 6 0 1 1 true], [.int .u8 1, .str p.t, .str m2, .ro 2 ((p.s.map (attrOf x)).map eA) false, .str [], .sl 2 6 0 1 1 true], [.int .u8 1, .str p.t, .str m3, .ro 2 ((p.s.map (attrOf x)).map eA) false, .str [], .sl 3 6 0 1 1 true], [.int .u8 1, .str p.t, .str m4, .ro 2 ((p.s.map (attrOf x)).map eA) false, .str [], .sl 4 6 0 1 1 true], [.int .u8 1, .str p.t, .str m5, .ro 2 ((p.s.map (attrOf x)).map eA) false, .str [], .sl 5 6 0 1 1 true], [.int .u8 1, .str p.t, .str m6, .ro 2 ((p.s.map (attrOf x)).map eA) false, .str [], .sl 6 6 0 1 1 true]] true false), (1, .cells 6 [[.int .u8 2, .str [], .str [], .ro 2 [] true, .str m1, .ro 6 [] true]] true true), (2, .cells 6 [[.int .u8 2, .str [], .str [], .ro 2 [] true, .str m2, .ro 6 [] true]] true true), (3, .cells 6 [[.int .u8 2, .str [], .str [], .ro 2 [] true, .str m3, .ro 6 [] true]] true true), (4, .cells 6 [[.int .u8 2, .str [], .str [], .ro 2 [] true, .str m4, .ro 6 [] true]] true true), (5, .cells 6 [[.int .u8 2, .str [], .str [], .ro 2 [] true, .str m5, .ro 6 [] true]] true true), (6, .cells 6 [[.int .u8 2, .str [], .str [], .ro 2 [] true, .str m6, .ro 6 [] true]] true true), (7, .cells 4 [[.int .u64 x.k, .int .u8 x.t, .str x.x, .ro 1 (x.m.map eS) x.e]] true true), (8, .cells 6 [p.c] true true)], 9⟩ =
  some (.ro 6 (([m1, m2, m3, m4, m5, m6] ++ r).map fun m => (elemR x p m [wordsN m] true).c) false) := by
 simp only [w513_K1]; rw [ck_unf w513_B1.eq_1]
 have hxl : x.m.length = 6 + r.length := by rw [hm]; simp; omega
 cases r with
 | nil =>
  simp at hxl
  simp [ck_unf w513_c2.eq_1, hxl, elemR_c]
 | cons m7 r =>
  have h1 : 6 < x.m.length := by rw [hxl]; simp
  have hg : x.m[6] = m7 := by
   have q : x.m[6]? = some m7 := by rw [hm]; simp
   rw [List.getElem?_eq_getElem h1] at q
   exact Option.some.inj q
  have ha := rattrs_ok H.toHasX x hk (by omega) p.s p.se hl
  have this := made5_7 H x hk hl8 p hl m1 m2 m3 m4 m5 m6 m7 r (by rw [hm]; simp)
  simp only [w513_K1] at this
  simp [elemR_c] at this
  have h2 : (6 : Int) < x.m.length := by omega
  simp (disch := omega) [h1, h2, hg, wI64, elemR_c, ha, H.inl, inlB, H.pp, ppB, this]
theorem made5_5 (H : HasZ C) (x : It) (hk : 0 ≤ x.k ∧ x.k < 18446744073709551616) (hl8 : x.m.length ≤ 8) (p : Pt) (hl : p.s.length ≤ 8) (m1 m2 m3 m4 m5 : Bs) (r : List Bs) (hm : x.m = [m1, m2, m3, m4, m5] ++ r) :
 w513_K1 C ⟨[(6, .int .i64 5), (5, .sl 0 6 0 5 5 false), (3, .ptr 6 0 0), (2, .ptr 7 0 0)], [(0, .cells 6 [[.int .u8 1, .str p.t, .str m1, .ro 2 ((p.s.map (attrOf x)).map eA) false, .str [], .sl 1 6 0 1 1 true], [.int .u8 1, .str p.t, .str m2, .ro 2 ((p.s.map (attrOf x)).map eA) false, .str [], .sl 2 6 0 1 1 true], [.int .u8 1, .str p.t, .str m3, .ro 2 ((p.s.map (attrOf x)).map eA) false, .str [], .sl 3 6 0 1 1 true], [.int .u8 1, .str p.t, .str m4, .ro 2 ((p.s.map (attrOf x)).map eA) false, .str [], .sl 4 6 0 1 1 true], [.int .u8 1, .str p.t, .str m5, .ro 2 ((p.s.map (attrOf x)).map eA) false, .str [], .sl 5 6 0 1 1 true]] true false), (1, .cells 6 [[.int .u8 2, .str [], .str [], .ro 2 [] true, .str m1, .ro 6 [] true]] true true), (2, .cells 6 [[.int .u8 2, .str [], .str [], .ro 2 [] true, .str m2, .ro 6 [] true]] true true), (3, .cells 6 [[.int .u8 2, .str [], .str [], .ro 2 [] true, .str m3, .ro 6 [] true]] true true), (4, .cells 6 [[.int .u8 2, .str [], .str [], .ro 2 [] true, .str m4, .ro 6 [] true]] true true), (5, .cells 6 [[.int .u8 2, .str [], .str [], .ro 2 [] true, .str m5, .ro 6 [] true]] true true), (6, .cells 4 [[.int .u64 x.k, .int .u8 x.t, .str x.x, .ro 1 (x.m.map eS) x.e]] true true), (7, .cells 6 [p.c] true true)], 8⟩ =
  some (.ro 6 (([m1, m2, m3, m4, m5] ++ r).map fun m => (elemR x p m [wordsN m] true).c) false) := by
 simp only [w513_K1]; rw [ck_unf w513_B1.eq_1]
 have hxl : x.m.length = 5 + r.length := by rw [hm]; simp; omega
 cases r with
 | nil =>
  simp at hxl
  simp [ck_unf w513_c2.eq_1, hxl, elemR_c]
 | cons m6 r =>
  have h1 : 5 < x.m.length := by rw [hxl]; simp
  have hg : x.m[5] = m6 := by
   have q : x.m[5]? = some m6 := by rw [hm]; simp
   rw [List.getElem?_eq_getElem h1] at q
   exact Option.some.inj q
  have ha := rattrs_ok H.toHasX x hk (by omega) p.s p.se hl
  have this := made5_6 H x hk hl8 p hl m1 m2 m3 m4 m5 m6 r (by rw [hm]; simp)
  simp only [w513_K1] at this
  simp [elemR_c] at this
  have h2 : (5 : Int) < x.m.length := by omega
  simp (disch := omega) [h1, h2, hg, wI64, elemR_c, ha, H.inl, inlB, H.pp, ppB, this]
theorem made5_4 (H : HasZ C) (x : It) (hk : 0 ≤ x.k ∧ x.k < 18446744073709551616) (hl8 : x.m.length ≤ 8) (p : Pt) (hl : p.s.length ≤ 8) (m1 m2 m3 m4 : Bs) (r : List Bs) (hm : x.m = [m1, m2, m3, m4] ++ r) :
 w513_K1 C ⟨[(6, .int .i64 4), (5, .sl 0 6 0 4 4 false), (3, .ptr 5 0 0), (2, .ptr 6 0 0)], [(0, .cells 6 [[.int .u8 1, .str p.t, .str m1, .ro 2 ((p.s.map (attrOf x)).map eA) false, .str [], .sl 1 6 0 1 1 true], [.int .u8 1, .str p.t, .str m2, .ro 2 ((p.s.map (attrOf x)).map eA) false, .str [], .sl 2 6 0 1 1 true], [.int .u8 1, .str p.t, .str m3, .ro 2 ((p.s.map (attrOf x)).map eA) false, .str [], .sl 3 6 0 1 1 true], [.int .u8 1, .str p.t, .str m4, .ro 2 ((p.s.map (attrOf x)).map eA) false, .str [], .sl 4 6 0 1 1 true]] true false), (1, .cells 6 [[.int .u8 2, .str [], .str [], .ro 2 [] true, .str m1, .ro 6 [] true]] true true), (2, .cells 6 [[.int .u8 2, .str [], .str [], .ro 2 [] true, .str m2, .ro 6 [] true]] true true), (3, .cells 6 [[.int .u8 2, .str [], .str [], .ro 2 [] true, .str m3, .ro 6 [] true]] true true), (4, .cells 6 [[.int .u8 2, .str [], .str [], .ro 2 [] true, .str m4, .ro 6 [] true]] true true), (5, .cells 4 [[.int .u64 x.k, .int .u8 x.t, .str x.x, .ro 1 (x.m.map eS) x.e]] true true), (6, .cells 6 [p.c] true true)], 7⟩ =
  some (.ro 6 (([m1, m2, m3, m4] ++ r).map fun m => (elemR x p m [wordsN m] true).c) false) := by
 simp only [w513_K1]; rw [ck_unf w513_B1.eq_1]
 have hxl : x.m.length = 4 + r.length := by rw [hm]; simp; omega
 cases r with
 | nil =>
  simp at hxl
  simp [ck_unf w513_c2.eq_1, hxl, elemR_c]
 | cons m5 r =>
  have h1 : 4 < x.m.length := by rw [hxl]; simp
  have hg : x.m[4] = m5 := by
   have q : x.m[4]? = some m5 := by rw [hm]; simp
   rw [List.getElem?_eq_getElem h1] at q
   exact Option.some.inj q
  have ha := rattrs_ok H.toHasX x hk (by omega) p.s p.se hl
  have this := made5_5 H x hk hl8 p hl m1 m2 m3 m4 m5 r (by rw [hm]; simp)
  simp only [w513_K1] at this
  simp [elemR_c] at this
  have h2 : (4 : Int) < x.m.length := by omega
  simp (disch := omega) [h1, h2, hg, wI64, elemR_c, ha, H.inl, inlB, H.pp, ppB, this]
theorem made5_3 (H : HasZ C) (x : It) (hk : 0 ≤ x.k ∧ x.k < 18446744073709551616) (hl8 : x.m.length ≤ 8) (p : Pt) (hl : p.s.length ≤ 8) (m1 m2 m3 : Bs) (r : List Bs) (hm : x.m = [m1, m2, m3] ++ r) :
 w513_K1 C ⟨[(6, .int .i64 3), (5, .sl 0 6 0 3 3 false), (3, .ptr 4 0 0), (2, .ptr 5 0 0)], [(0, .cells 6 [[.int .u8 1, .str p.t, .str m1, .ro 2 ((p.s.map (attrOf x)).map eA) false, .str [], .sl 1 6 0 1 1 true], [.int .u8 1, .str p.t, .str m2, .ro 2 ((p.s.map (attrOf x)).map eA) false, .str [], .sl 2 6 0 1 1 true], [.int .u8 1, .str p.t, .str m3, .ro 2 ((p.s.map (attrOf x)).map eA) false, .str [], .sl 3 6 0 1 1 true]] true false), (1, .cells 6 [[.int .u8 2, .str [], .str [], .ro 2 [] true, .str m1, .ro 6 [] true]] true true), (2, .cells 6 [[.int .u8 2, .str [], .str [], .ro 2 [] true, .str m2, .ro 6 [] true]] true true), (3, .cells 6 [[.int .u8 2, .str [], .str [], .ro 2 [] true, .str m3, .ro 6 [] true]] true true), (4, .cells 4 [[.int .u64 x.k, .int .u8 x.t, .str x.x, .ro 1 (x.m.map eS) x.e]] true true), (5, .cells 6 [p.c] true true)], 6⟩ =
  some (.ro 6 (([m1, m2, m3] ++ r).map fun m => (elemR x p m [wordsN m] true).c) false) := by
 simp only [w513_K1]; rw [ck_unf w513_B1.eq_1]
 have hxl : x.m.length = 3 + r.length := by rw [hm]; simp; omega
 cases r with
 | nil =>
  simp at hxl
  simp [ck_unf w513_c2.eq_1, hxl, elemR_c]
 | cons m4 r =>
  have h1 : 3 < x.m.length := by rw [hxl]; simp
  have hg : x.m[3] = m4 := by
   have q : x.m[3]? = some m4 := by rw [hm]; simp
   rw [List.getElem?_eq_getElem h1] at q
   exact Option.some.inj q
  have ha := rattrs_ok H.toHasX x hk (by omega) p.s p.se hl
  have this := made5_4 H x hk hl8 p hl m1 m2 m3 m4 r (by rw [hm]; simp)
  simp only [w513_K1] at this
  simp [elemR_c] at this
  have h2 : (3 : Int) < x.m.length := by omega
  simp (disch := omega) [h1, h2, hg, wI64, elemR_c, ha, H.inl, inlB, H.pp, ppB, this]
theorem made5_2 (H : HasZ C) (x : It) (hk : 0 ≤ x.k ∧ x.k < 18446744073709551616) (hl8 : x.m.length ≤ 8) (p : Pt) (hl : p.s.length ≤ 8) (m1 m2 : Bs) (r : List Bs) (hm : x.m = [m1, m2] ++ r) :
 w513_K1 C ⟨[(6, .int .i64 2), (5, .sl 0 6 0 2 2 false), (3, .ptr 3 0 0), (2, .ptr 4 0 0)], [(0, .cells 6 [[.int .u8 1, .str p.t, .str m1, .ro 2 ((p.s.map (attrOf x)).map eA) false, .str [], .sl 1 6 0 1 1 true], [.int .u8 1, .str p.t, .str m2, .ro 2 ((p.s.map (attrOf x)).map eA) false, .str [], .sl 2 6 0 1 1 true]] true false), (1, .cells 6 [[.int .u8 2, .str [], .str [], .ro 2 [] true, .str m1, .ro 6 [] true]] true true), (2, .cells 6 [[.int .u8 2, .str [], .str [], .ro 2 [] true, .str m2, .ro 6 [] true]] true true), (3, .cells 4 [[.int .u64 x.k, .int .u8 x.t, .str x.x, .ro 1 (x.m.map eS) x.e]] true true), (4, .cells 6 [p.c] true true)], 5⟩ =
  some (.ro 6 (([m1, m2] ++ r).map fun m => (elemR x p m [wordsN m] true).c) false) := by
 simp only [w513_K1]; rw [ck_unf w513_B1.eq_1]
 have hxl : x.m.length = 2 + r.length := by rw [hm]; simp; omega
 cases r with
 | nil =>
  simp at hxl
  simp [ck_unf w513_c2.eq_1, hxl, elemR_c]
 | cons m3 r =>
  have h1 : 2 < x.m.length := by rw [hxl]; simp
  have hg : x.m[2] = m3 := by
   have q : x.m[2]? = some m3 := by rw [hm]; simp
   rw [List.getElem?_eq_getElem h1] at q
   exact Option.some.inj q
  have ha := rattrs_ok H.toHasX x hk (by omega) p.s p.se hl
  have this := made5_3 H x hk hl8 p hl m1 m2 m3 r (by rw [hm]; simp)
  simp only [w513_K1] at this
  simp [elemR_c] at this
  have h2 : (2 : Int) < x.m.length := by omega
  simp (disch := omega) [h1, h2, hg, wI64, elemR_c, ha, H.inl, inlB, H.pp, ppB, this]
theorem made5_1 (H : HasZ C) (x : It) (hk : 0 ≤ x.k ∧ x.k < 18446744073709551616) (hl8 : x.m.length ≤ 8) (p : Pt) (hl : p.s.length ≤ 8) (m1 : Bs) (r : List Bs) (hm : x.m = [m1] ++ r) :
 w513_K1 C ⟨[(6, .int .i64 1), (5, .sl 0 6 0 1 1 false), (3, .ptr 2 0 0), (2, .ptr 3 0 0)], [(0, .cells 6 [[.int .u8 1, .str p.t, .str m1, .ro 2 ((p.s.map (attrOf x)).map eA) false, .str [], .sl 1 6 0 1 1 true]] true false), (1, .cells 6 [[.int .u8 2, .str [], .str [], .ro 2 [] true, .str m1, .ro 6 [] true]] true true), (2, .cells 4 [[.int .u64 x.k, .int .u8 x.t, .str x.x, .ro 1 (x.m.map eS) x.e]] true true), (3, .cells 6 [p.c] true true)], 4⟩ =
  some (.ro 6 (([m1] ++ r).map fun m => (elemR x p m [wordsN m] true).c) false) := by
 simp only [w513_K1]; rw [ck_unf w513_B1.eq_1]
 have hxl : x.m.length = 1 + r.length := by rw [hm]; simp; omega
 cases r with
 | nil =>
  simp at hxl
  simp [ck_unf w513_c2.eq_1, hxl, elemR_c]
 | cons m2 r =>
  have h1 : 1 < x.m.length := by rw [hxl]; simp
  have hg : x.m[1] = m2 := by
   have q : x.m[1]? = some m2 := by rw [hm]; simp
   rw [List.getElem?_eq_getElem h1] at q
   exact Option.some.inj q
  have ha := rattrs_ok H.toHasX x hk (by omega) p.s p.se hl
  have this := made5_2 H x hk hl8 p hl m1 m2 r (by rw [hm]; simp)
  simp only [w513_K1] at this
  simp [elemR_c] at this
  have h2 : (1 : Int) < x.m.length := by omega
  simp (disch := omega) [h1, h2, hg, wI64, elemR_c, ha, H.inl, inlB, H.pp, ppB, this]
theorem made5_0 (H : HasZ C) (x : It) (hk : 0 ≤ x.k ∧ x.k < 18446744073709551616) (hl8 : x.m.length ≤ 8) (p : Pt) (hl : p.s.length ≤ 8) (r : List Bs) (hm : x.m = r) :
 w513_K1 C ⟨[(6, .int .i64 0), (5, .sl 0 6 0 0 0 false), (3, .ptr 1 0 0), (2, .ptr 2 0 0)], [(0, .cells 6 [] true true), (1, .cells 4 [[.int .u64 x.k, .int .u8 x.t, .str x.x, .ro 1 (x.m.map eS) x.e]] true true), (2, .cells 6 [p.c] true true)], 3⟩ =
  some (.ro 6 (r.map fun m => (elemR x p m [wordsN m] true).c) false) := by
 simp only [w513_K1]; rw [ck_unf w513_B1.eq_1]
 have hxl : x.m.length = 0 + r.length := by rw [hm]; simp
 cases r with
 | nil =>
  simp at hxl
  simp [ck_unf w513_c2.eq_1, hxl, elemR_c]
 | cons m1 r =>
  have h1 : 0 < x.m.length := by rw [hxl]; simp
  have hg : x.m[0] = m1 := by
   have q : x.m[0]? = some m1 := by rw [hm]; simp
   rw [List.getElem?_eq_getElem h1] at q
   exact Option.some.inj q
  have ha := rattrs_ok H.toHasX x hk (by omega) p.s p.se hl
  have this := made5_1 H x hk hl8 p hl  m1 r (by rw [hm]; simp)
  simp only [w513_K1] at this
  simp [elemR_c] at this
  have h2 : (0 : Int) < x.m.length := by omega
  simp (disch := omega) [h1, h2, hg, wI64, elemR_c, ha, H.inl, inlB, H.pp, ppB, this]
def mdF (p : Pt) : Bool := decide (p.k ≠ 5)
theorem made_sl (H : HasZ C) (x : It) (hk : 0 ≤ x.k ∧ x.k < 18446744073709551616) (hm : x.m.length ≤ 8) (p : Pt) (hl : p.ch.length ≤ 16)
 (ih : ∀ m ∈ p.ch, FnW C 513 [.agg m.c, eIt x] = some (.ro 6 ((md x m).map Nd.c) (mdF m))) : ∀ n i, n + i = p.ch.length → ∀ G : List Nd, G.length ≤ 8 * i →
 w513_K0 C ⟨[(8, .int .i64 i), (7, .ptr 0 0 0), (3, .ptr 2 0 0), (2, .ptr 3 0 0)], [(0, .cells 6 [[.int .u8 1, .str p.t, .str p.y, .ro 2 ((p.s.map (attrOf x)).map eA) false, .str [], .sl 1 6 0 G.length G.length false]] true false), (1, .cells 6 (G.map Nd.c) true true), (2, .cells 4 [[.int .u64 x.k, .int .u8 x.t, .str x.x, .ro 1 (x.m.map eS) x.e]] true true), (3, .cells 6 [p.c] true true)], 4⟩ =
  some (.ro 6 [(elemR x p p.y (G ++ mds x (p.ch.drop i)) false).c] true) := by
 intro n
 induction n with
 | zero =>
  intro i hi G hG
  have h1 : p.ch.drop i = [] := List.drop_eq_nil_of_le (by omega)
  have h3 : ¬ i < p.ch.length := by omega
  have h4 : List.take G.length (List.map Nd.c G) = List.map Nd.c G := List.take_of_length_le (by simp)
  have hw : (elemR x p p.y G false).c = [.int .u8 1, .str p.t, .str p.y, .ro 2 ((p.s.map (attrOf x)).map eA) false, .str [], .ro 6 (G.map Nd.c) false] := by rw [Nd.c_eq]; rfl
  rw [h1, mds, List.append_nil, hw]
  simp only [w513_K0]; rw [ck_unf w513_B0.eq_1]
  simp (disch := omega) [ck_unf w513_c0.eq_1, h3, h4]
 | succ n ihn =>
  intro i hi G hG
  have h1 : i < p.ch.length := by omega
  have hr := ih _ (List.getElem_mem h1)
  have hlen := md_len x hm p.ch[i]
  have := ihn (i + 1) (by omega) (G ++ md x p.ch[i]) (by simp; omega)
  have hfit : (G.length + (md x p.ch[i]).length) * 105 ≤ 35184372088832 := by omega
  rw [drop_cons h1, mds, ← List.append_assoc]
  generalize (elemR x p p.y (G ++ md x p.ch[i] ++ mds x (List.drop (i + 1) p.ch)) false).c = R at *
  by_cases hE : md x p.ch[i] = []
  · simp only [w513_K0] at this ⊢; rw [ck_unf w513_B0.eq_1]
    simp [hE] at this
    simp (disch := omega) [h1, wI64, hr, hE, H.inl, inlB, H.pp, ppB, this]
  · simp only [w513_K0] at this ⊢; rw [ck_unf w513_B0.eq_1]
    simp at this
    simp (disch := omega) [h1, wI64, hr, hE, isE hE, hfit, H.inl, inlB, H.pp, ppB, this]
theorem made_nil (H : HasZ C) (x : It) (hk : 0 ≤ x.k ∧ x.k < 18446744073709551616) (hm : x.m.length ≤ 8) (p : Pt) (hl : p.ch.length ≤ 16)
 (ih : ∀ m ∈ p.ch, FnW C 513 [.agg m.c, eIt x] = some (.ro 6 ((md x m).map Nd.c) (mdF m))) : ∀ n i, n + i = p.ch.length →
 w513_K0 C ⟨[(8, .int .i64 i), (7, .ptr 0 0 0), (3, .ptr 1 0 0), (2, .ptr 2 0 0)], [(0, .cells 6 [[.int .u8 1, .str p.t, .str p.y, .ro 2 ((p.s.map (attrOf x)).map eA) false, .str [], .ro 6 [] true]] true true), (1, .cells 4 [[.int .u64 x.k, .int .u8 x.t, .str x.x, .ro 1 (x.m.map eS) x.e]] true true), (2, .cells 6 [p.c] true true)], 3⟩ =
  some (.ro 6 [(elemR x p p.y (mds x (p.ch.drop i)) (mds x (p.ch.drop i)).isEmpty).c] true) := by
 intro n
 induction n with
 | zero =>
  intro i hi
  have h1 : p.ch.drop i = [] := List.drop_eq_nil_of_le (by omega)
  have h3 : ¬ i < p.ch.length := by omega
  have hw : (elemR x p p.y [] true).c = [.int .u8 1, .str p.t, .str p.y, .ro 2 ((p.s.map (attrOf x)).map eA) false, .str [], .ro 6 [] true] := by rw [Nd.c_eq]; rfl
  rw [h1, mds, List.isEmpty_nil, hw]
  simp only [w513_K0]; rw [ck_unf w513_B0.eq_1]
  simp (disch := omega) [ck_unf w513_c0.eq_1, h3]
 | succ n ihn =>
  intro i hi
  have h1 : i < p.ch.length := by omega
  have hr := ih _ (List.getElem_mem h1)
  have hlen := md_len x hm p.ch[i]
  have hfit : ((md x p.ch[i]).length) * 105 ≤ 35184372088832 := by omega
  rw [drop_cons h1, mds]
  by_cases hE : md x p.ch[i] = []
  · have := ihn (i + 1) (by omega)
    rw [hE, List.nil_append]
    generalize (elemR x p p.y (mds x (List.drop (i + 1) p.ch)) (mds x (List.drop (i + 1) p.ch)).isEmpty).c = R at *
    simp only [w513_K0] at this ⊢; rw [ck_unf w513_B0.eq_1]
    simp at this
    simp (disch := omega) [h1, wI64, hr, hE, H.inl, inlB, H.pp, ppB, this]
  · have := made_sl H x hk hm p hl ih n (i + 1) (by omega) (md x p.ch[i]) (by omega)
    have he : (md x p.ch[i] ++ mds x (List.drop (i + 1) p.ch)).isEmpty = false := isE (by simp [hE])
    rw [he]
    generalize (elemR x p p.y (md x p.ch[i] ++ mds x (List.drop (i + 1) p.ch)) false).c = R at *
    simp only [w513_K0] at this ⊢; rw [ck_unf w513_B0.eq_1]
    simp at this
    simp (disch := omega) [h1, wI64, hr, hE, isE hE, hfit, H.inl, inlB, H.pp, ppB, this]
theorem made_step (H : HasZ C) (x : It) (hk : 0 ≤ x.k ∧ x.k < 18446744073709551616) (hm : x.m.length ≤ 8) (p : Pt) (hp : pOne p = true)
 (ih : ∀ m ∈ p.ch, FnW C 513 [.agg m.c, eIt x] = some (.ro 6 ((md x m).map Nd.c) (mdF m))) : FnW C 513 [.agg p.c, eIt x] = some (.ro 6 ((md x p).map Nd.c) (mdF p)) := by
 have hl := pOne_len hp
 have hs := pOne_s hp
 rw [fnW_eq H.f513 rfl, md_eq]
 unfold mdF
 have hw : ∀ s : Bs, (wordsN s).c = [.int .u8 2, .str [], .str [], .ro 2 [] true, .str s, .ro 6 [] true] := fun s => by rw [Nd.c_eq]; rfl
 rcases pOne_k hp with k1 | k1 | k1 | k1 | k1
 · have h := made_nil H x hk hm p hl ih p.ch.length 0 (by simp)
   have ha := rattrs_ok H.toHasX x hk (by omega) p.s p.se hs.1
   rw [if_neg (by omega), if_neg (by omega), if_neg (by omega), if_neg (by omega)]
   rw [List.drop_zero] at h
   simp only [List.map_cons, List.map_nil]
   generalize (elemR x p p.y (mds x p.ch) (mds x p.ch).isEmpty).c = R at *
   simp only [w513_K0] at h
   simp at h
   simp [w513, ck_unf w513_c1.eq_1, k1, ha, H.inl, inlB, H.pp, ppB, h]
 · simp [w513, k1, hw]
 · simp [w513, k1, hw]
 · obtain ⟨k, hk2⟩ : ∃ k : Nat, x.k = k := ⟨x.k.toNat, by omega⟩
   have hd := rdec_ok H.toHasW k (by omega)
   simp [w513, k1, hw, hk2, hd, H.inl, inlB, H.pp, ppB]
 · have h := made5_0 H x hk hm p hs.1 x.m rfl
   rw [if_neg (by omega), if_neg (by omega), if_neg (by omega), if_pos k1, List.map_map]
   have hq : (Nd.c ∘ fun m => elemR x p m [wordsN m] true) = fun m => (elemR x p m [wordsN m] true).c := rfl
   rw [hq]
   generalize List.map (fun m => (elemR x p m [wordsN m] true).c) x.m = R at *
   simp only [w513_K1] at h
   simp [w513, k1, h]
theorem made_ok (H : HasZ C) (x : It) (hk : 0 ≤ x.k ∧ x.k < 18446744073709551616) (hm : x.m.length ≤ 8) (p : Pt) (hp : Okp p) : FnW C 513 [.agg p.c, eIt x] = some (.ro 6 ((md x p).map Nd.c) (mdF p)) := by
 have ho : ∀ m ∈ p.ch, Okp m := by cases hp; assumption
 exact made_step H x hk hm p (by cases hp; assumption) fun m q => made_ok H x hk hm m (ho m q)
termination_by SizeOf.sizeOf p
decreasing_by
 have := List.sizeOf_lt_of_mem q
 have := Pt.size_ch p
 omega
theorem itOk2_m {x : It} (h : itOk2 x = true) : x.m.length ≤ 8 := by
 unfold itOk2 at h
 simp at h
 exact h.2.1
theorem render_ok (H : HasZ C) (p : Pt) (hf : FitsAll p) (x : It) (hk : 0 ≤ x.k ∧ x.k < 18446744073709551616) (most : Int) :
 FnW C 501 [.agg p.c, eIt x, .int .i64 most] = some (.tup [.agg (rndN p x most).c, .int .i64 (rndE p x most)]) := by
 have hz : zN.c = [.int .u8 0, .str [], .str [], .ro 2 [] true, .str [], .ro 6 [] true] := by rw [Nd.c_eq]; rfl
 have hc := tCheck_ok H.toHasT p
 have hi := tItem_ok H.toHasV x
 rw [fnW_eq H.f501 rfl]
 unfold rndN rndE
 by_cases c1 : most < 1
 · simp [w501, c1, hz]
 · by_cases c2 : 64 < most
   · simp [w501, c1, c2, hz]
   · by_cases c3 : tcnt p = 0
     · rw [c3] at hc
       simp at hc
       simp [w501, c1, c2, c3, hc, hz, H.inl, inlB, H.pp, ppB]
     · rw [if_neg c3] at hc
       cases c4 : itOk2 x
       · rw [c4] at hi
         simp at hi
         simp [w501, c1, c2, c3, hc, hi, hz, H.inl, inlB, H.pp, ppB]
       · rw [c4] at hi
         simp at hi
         have hk1 := tcnt_k c3
         have hmk := make_ok H x hk (itOk2_m c4) [p] true (by simp) (by simpa using tcnt_okp hf c3)
         have hq : mks x [p] = [mkN x p] := by unfold mkN; rw [mks, mks, mk_eq, if_pos hk1]; rfl
         rw [hq] at hmk
         have hn := count_ok H.toHasM (mkN x p)
         generalize hN : mkN x p = N at *
         generalize cnt N = K at *
         simp at hmk
         by_cases c5 : K = 0
         · subst c5
           simp [w501, c1, c2, c3, hc, hi, hz, hmk, hn, H.inl, inlB, H.pp, ppB]
         · by_cases c6 : most < K
           · simp [w501, c1, c2, c3, hc, hi, hz, hmk, hn, c5, c6, H.inl, inlB, H.pp, ppB]
           · simp [w501, c1, c2, c3, hc, hi, hz, hmk, hn, c5, c6, H.inl, inlB, H.pp, ppB]
theorem rRender_ok (H : HasZ C) (p : Pt) (hf : FitsAll p) (x : It) (hk : 0 ≤ x.k ∧ x.k < 18446744073709551616) (most : Int) :
 FnW C 425 [.agg p.c, eIt x, .int .i64 most] = some (.tup [.agg (rndR p x most).c, .int .i64 (rndE p x most)]) := by
 have hz : zN.c = [.int .u8 0, .str [], .str [], .ro 2 [] true, .str [], .ro 6 [] true] := by rw [Nd.c_eq]; rfl
 have hc := trCheck_ok H.toHasU p hf
 have hi := rItem_ok H.toHasV x
 rw [fnW_eq H.f425 rfl]
 unfold rndR rndE
 by_cases c1 : most < 1
 · simp [w425, c1, hz]
 · by_cases c2 : 64 < most
   · simp [w425, c1, c2, hz]
   · by_cases c3 : tcnt p = 0
     · rw [c3] at hc
       simp at hc
       simp [w425, c1, c2, c3, hc, hz, H.inl, inlB, H.pp, ppB]
     · rw [if_neg c3] at hc
       cases c4 : itOk2 x
       · rw [c4] at hi
         simp at hi
         simp [w425, c1, c2, c3, hc, hi, hz, H.inl, inlB, H.pp, ppB]
       · rw [c4] at hi
         simp at hi
         have hk1 := tcnt_k c3
         have ho := tcnt_okp hf c3
         have hmk := made_ok H x hk (itOk2_m c4) p ho
         have hq : md x p = [mdN x p] := by unfold mdN; rw [md_eq, if_neg (by omega), if_neg (by omega), if_neg (by omega), if_neg (by omega)]; rfl
         rw [hq] at hmk
         have hn := rCount_ok H.toHasR (mdN x p)
         have hn2 := rCheck_ok H.toHasR (mdN x p)
         have hcz : cnt (mkN x p) = cnt (mdN x p) := by rw [← cnt_z, mkN_z x p ho, cnt_z]
         rw [hcz]
         generalize hN : mdN x p = N at *
         generalize cnt N = K at *
         simp at hmk
         by_cases c5 : K = 0
         · subst c5
           simp at hn2
           simp [w425, c1, c2, c3, hc, hi, hz, hmk, hn, hn2, H.inl, inlB, H.pp, ppB]
         · simp [c5] at hn2
           by_cases c6 : most < K
           · simp [w425, c1, c2, c3, hc, hi, hz, hmk, hn, hn2, c5, c6, H.inl, inlB, H.pp, ppB]
           · simp [w425, c1, c2, c3, hc, hi, hz, hmk, hn, hn2, c5, c6, H.inl, inlB, H.pp, ppB]
end Go.D
end
section
set_option linter.unusedSimpArgs false
set_option linter.unusedVariables false
namespace Go.D
open Go Go.Pav Go.Pw P
set_option linter.unusedSimpArgs false
set_option linter.unusedVariables false
structure Kd where
 p : Pt
 b : Int
 st : Bool
 pl : Int
structure En where
 i : It
 s : Int
 kn : Bool
@[simp] def eKd (k : Kd) : List AV := [.int .u8 k.p.k, .str k.p.t, .str k.p.y, .ro 3 (k.p.s.map eSl) k.p.se, .str k.p.x, .ro 6 (k.p.ch.map Pt.c) k.p.ce, .int .i64 k.b, .bool k.st, .int .i64 k.pl]
@[simp] def cIt (i : It) : List AV := [.int .u64 i.k, .int .u8 i.t, .str i.x, .ro 1 (i.m.map eS) i.e]
@[simp] def eEn (e : En) : List AV := [.int .u64 e.i.k, .int .u8 e.i.t, .str e.i.x, .ro 1 (e.i.m.map eS) e.i.e, .int .i64 e.s, .bool e.kn]
abbrev aR (ks : List Kd) (ke : Bool) (cap : Int) : AV := .agg [.ro 9 (ks.map eKd) ke, .int .i64 cap]
abbrev aL (l : List En) (e : Bool) : AV := .agg [.ro 6 (l.map eEn) e]
abbrev aE (e : En) : AV := .agg (eEn e)
structure ItIn (i : It) : Prop where
 k : 0 ≤ i.k ∧ i.k < 18446744073709551616
 t : 0 ≤ i.t ∧ i.t ≤ 255
 m : i.m.length ≤ 1000000
structure EnIn (e : En) : Prop where
 i : ItIn e.i
 s : -9223372036854775808 ≤ e.s ∧ e.s ≤ 9223372036854775807
structure RuIn (ks : List Kd) : Prop where
 n : ks.length ≤ 1000000
 f : ∀ k ∈ ks, FitsAll k.p
def hOk (n : Int) : Bool := decide (1 ≤ n) && decide (n ≤ 2305843009213693952)
def kdOk (k : Kd) : Bool := hOk k.b && decide (tcnt k.p ≠ 0)
def ruOk (ks : List Kd) (cap : Int) : Bool := decide (1 ≤ ks.length) && decide (ks.length ≤ 8) && decide (1 ≤ cap) && decide (cap ≤ 64) && ks.all kdOk
def zP : Pt := ⟨0, [], [], [], true, [], [], true⟩
def kdAt (ks : List Kd) (t : Int) : Kd := (ks[t.toNat]?).getD ⟨zP, 0, false, 0⟩
def itE (ks : List Kd) (cap : Int) (x : It) (seen : Bool) : Int :=
 if itOk ks.length x = false then 6 else if seen = true then 8 else if rndE (kdAt ks x.t).p x cap = 0 then 0 else 14
def enE (ks : List Kd) (cap : Int) (e : En) (seen : Bool) : Int :=
 if itE ks cap e.i seen ≠ 0 then itE ks cap e.i seen else if hOk e.s = true ∧ (e.kn = true ∨ e.s = (kdAt ks e.i.t).b) then 0 else 12
def chk (ks : List Kd) (cap : Int) : List Int → List En → Int
 | _, [] => 0
 | seen, e :: r => if enE ks cap e (seen.contains e.i.k) ≠ 0 then enE ks cap e (seen.contains e.i.k) else chk ks cap (seen ++ [e.i.k]) r
def totG : Int → List En → Int
 | sum, [] => sum
 | sum, e :: r => if 4611686018427387904 - sum < imax e.s 0 then 4611686018427387905 else totG (sum + imax e.s 0) r
def tot (l : List En) : Int := totG 0 l
def ovE (l : List En) : Int := if 4611686018427387904 < tot l then 13 else 0
def ckE (ks : List Kd) (cap : Int) (l : List En) : Int :=
 if ruOk ks cap = false then 7 else if 1024 < l.length then 3 else if chk ks cap [] l ≠ 0 then chk ks cap [] l else ovE l
def sameIt (a b : It) : Bool := decide (a.k = b.k) && decide (a.t = b.t) && decide (a.x = b.x) && decide (a.m = b.m)
def sameEn (a b : En) : Bool := decide (a.s = b.s) && decide (a.kn = b.kn) && sameIt a.i b.i
def sameL : List En → List En → Bool
 | [], [] => true
 | a :: r, b :: s => sameEn a b && sameL r s
 | _, _ => false
def fre (ks : List Kd) (x : It) : En := ⟨x, (kdAt ks x.t).b, false⟩
end Go.D
end
section
set_option linter.unusedSimpArgs false
set_option linter.unusedVariables false
namespace Go.D
open Go Go.Pav Go.Pw P
set_option maxRecDepth 10000
set_option maxHeartbeats 4000000
set_option linter.unusedSimpArgs false
set_option linter.unusedVariables false
attribute [-simp] List.getElem_cons_drop
variable {C : WProg}
structure HasL (C : WProg) : Prop extends HasS C where
 f225 : C.fns.get 225 = some w225
 f111 : C.fns.get 111 = some w111
 f227 : C.fns.get 227 = some w227
 f403 : C.fns.get 403 = some w403
 f402 : C.fns.get 402 = some w402
 f224 : C.fns.get 224 = some w224
 f504 : C.fns.get 504 = some w504
 f239 : C.fns.get 239 = some w239
 f240 : C.fns.get 240 = some w240
 f172 : C.fns.get 172 = some w172
 f112 : C.fns.get 112 = some w112
 f423 : C.fns.get 423 = some w423
theorem height_ok (H : HasL C) (n : Int) : FnW C 225 [.int .i64 n] = some (.bool (hOk n)) := by
 rw [fnW_eq H.f225 rfl]
 unfold hOk
 by_cases c1 : 1 ≤ n <;> by_cases c2 : n ≤ 2305843009213693952 <;> simp [w225, c1, c2]
theorem imax_bd (s : Int) (h1 : -9223372036854775808 ≤ s) (h2 : s ≤ 9223372036854775807) : 0 ≤ imax s 0 ∧ imax s 0 ≤ 9223372036854775807 := by
 unfold imax; split <;> omega
theorem tot_loop (H : HasL C) (l : List En) (e : Bool) (hl : l.length ≤ 1000000) (hs : ∀ x ∈ l, -9223372036854775808 ≤ x.s ∧ x.s ≤ 9223372036854775807) : ∀ n i, n + i = l.length → ∀ sum : Int, 0 ≤ sum → sum ≤ 4611686018427387904 →
 w111_K0 C ⟨[(10, .int .i64 i), (9, .int .i64 l.length), (8, .ro 6 (l.map eEn) e), (3, .int .i64 sum)], [], 0⟩ = some (.int .i64 (totG sum (l.drop i))) := by
 intro n
 induction n with
 | zero =>
  intro i hi sum s1 s2
  simp only [w111_K0]; rw [ck_unf w111_B0.eq_1]
  have h1 : l.drop i = [] := List.drop_eq_nil_of_le (by omega)
  have h3 : ¬ i < l.length := by omega
  simp [ck_unf w111_c0.eq_1, h1, h3, totG]
 | succ n ih =>
  intro i hi sum s1 s2
  have h1 : i < l.length := by omega
  have hb := imax_bd l[i].s (hs _ (List.getElem_mem h1)).1 (hs _ (List.getElem_mem h1)).2
  rw [drop_cons h1, totG]
  generalize hM : imax l[i].s 0 = M at *
  by_cases c : 4611686018427387904 - sum < M
  · rw [if_pos c]
    simp only [w111_K0]; rw [ck_unf w111_B0.eq_1]
    simp (disch := omega) [h1, wI64, hM, c]
  · rw [if_neg c]
    have := ih (i + 1) (by omega) (sum + M) (by omega) (by omega)
    simp only [w111_K0] at this ⊢; rw [ck_unf w111_B0.eq_1]
    simp at this
    simp (disch := omega) [h1, wI64, hM, c, this]
theorem totW_ok (H : HasL C) (l : List En) (e : Bool) (hl : l.length ≤ 1000000) (hs : ∀ x ∈ l, -9223372036854775808 ≤ x.s ∧ x.s ≤ 9223372036854775807) : FnW C 111 [aL l e] = some (.int .i64 (tot l)) := by
 have h := tot_loop H l e hl hs l.length 0 (by simp) 0 (by omega) (by omega)
 simp only [w111_K0] at h
 simp at h
 rw [fnW_eq H.f111 rfl]
 unfold tot
 simp [w111, h]
theorem tot_ok (H : HasL C) (l : List En) (e : Bool) (hl : l.length ≤ 1000000) (hs : ∀ x ∈ l, EnIn x) : FnW C 111 [aL l e] = some (.int .i64 (tot l)) := totW_ok H l e hl fun x hx => (hs x hx).s
theorem total_ok (H : HasL C) (l : List En) (e : Bool) (hl : l.length ≤ 1000000) (hs : ∀ x ∈ l, EnIn x) : FnW C 227 [aL l e] = some (.int .i64 (ovE l)) := by
 have h := tot_ok H l e hl hs
 rw [fnW_eq H.f227 rfl]
 unfold ovE
 by_cases c : 4611686018427387904 < tot l <;> simp [w227, h, H.inl, inlB, H.pp, ppB, c]
theorem rtot_loop (H : HasL C) (l : List En) (e : Bool) (hl : l.length ≤ 1000000) (hs : ∀ x ∈ l, -9223372036854775808 ≤ x.s ∧ x.s ≤ 9223372036854775807) : ∀ n i, n + i = l.length → ∀ sum : Int, 0 ≤ sum → sum ≤ 4611686018427387904 →
 w504_K0 C ⟨[(4, .int .i64 i), (3, .int .u64 sum), (0, .ro 6 (l.map eEn) e)], [], 0⟩ = some (.int .i64 (totG sum (l.drop i))) := by
 intro n
 induction n with
 | zero =>
  intro i hi sum s1 s2
  simp only [w504_K0]; rw [ck_unf w504_B0.eq_1]
  have h1 : l.drop i = [] := List.drop_eq_nil_of_le (by omega)
  have h3 : ¬ i < l.length := by omega
  simp (disch := omega) [ck_unf w504_c0.eq_1, h1, h3, totG, wI64]
 | succ n ih =>
  intro i hi sum s1 s2
  have h1 : i < l.length := by omega
  have hx := hs _ (List.getElem_mem h1)
  have hb := imax_bd l[i].s hx.1 hx.2
  rw [drop_cons h1, totG]
  by_cases p : 0 < l[i].s
  · rw [imax_l (by omega : (0 : Int) ≤ l[i].s)] at *
    by_cases c : 4611686018427387904 - sum < l[i].s
    · rw [if_pos c]
      have c' : 4611686018427387904 < sum + l[i].s := by omega
      simp only [w504_K0]; rw [ck_unf w504_B0.eq_1]
      simp (disch := omega) [h1, wI64, wU64, p, c']
    · rw [if_neg c]
      have c' : ¬ 4611686018427387904 < sum + l[i].s := by omega
      have := ih (i + 1) (by omega) (sum + l[i].s) (by omega) (by omega)
      simp only [w504_K0] at this ⊢; rw [ck_unf w504_B0.eq_1]
      simp at this
      simp (disch := omega) [h1, wI64, wU64, p, c', this]
  · rw [imax_r (by omega : l[i].s ≤ (0 : Int)), if_neg (by omega), Int.add_zero]
    have c' : ¬ 4611686018427387904 < sum := by omega
    have := ih (i + 1) (by omega) sum (by omega) (by omega)
    simp only [w504_K0] at this ⊢; rw [ck_unf w504_B0.eq_1]
    simp at this
    simp (disch := omega) [h1, wI64, wU64, p, c', this]
theorem rtotW_ok (H : HasL C) (l : List En) (e : Bool) (hl : l.length ≤ 1000000) (hs : ∀ x ∈ l, -9223372036854775808 ≤ x.s ∧ x.s ≤ 9223372036854775807) : FnW C 504 [.ro 6 (l.map eEn) e] = some (.int .i64 (tot l)) := by
 have h := rtot_loop H l e hl hs l.length 0 (by simp) 0 (by omega) (by omega)
 simp only [w504_K0] at h
 simp at h
 rw [fnW_eq H.f504 rfl]
 unfold tot
 simp [w504, h]
def fndF (k : Int) : Nat → List En → Int
 | _, [] => -1
 | i, e :: r => if e.i.k = k then i else fndF k (i + 1) r
def fndI (k : Int) : Nat → List It → Int
 | _, [] => -1
 | i, x :: r => if x.k = k then i else fndI k (i + 1) r
theorem find1_ok (H : HasL C) (x : En) (k : Int) : FnW C 403 [aE x, .rop [.int .u64 k]] = some (.bool (decide (x.i.k = k))) := by
 rw [fnW_eq H.f403 rfl]
 by_cases c : x.i.k = k <;> simp [w403, c]
theorem index_loop2 (H : HasL C) (l : List En) (e : Bool) (k : Int) (hl : l.length ≤ 1000000) : ∀ n i, n + i = l.length →
 w402_K0 C ⟨[(8, .int .i64 i), (7, .int .i64 l.length), (1, .fn 403 [.rop [.int .u64 k]]), (0, .ro 6 (l.map eEn) e)], [], 0⟩ = some (.int .i64 (fndF k i (l.drop i))) := by
 intro n
 induction n with
 | zero =>
  intro i hi
  simp only [w402_K0]; rw [ck_unf w402_B0.eq_1]
  have h1 : l.drop i = [] := List.drop_eq_nil_of_le (by omega)
  have h3 : ¬ i < l.length := by omega
  simp (disch := omega) [ck_unf w402_c0.eq_1, h1, h3, fndF]
 | succ n ih =>
  intro i hi
  have h1 : i < l.length := by omega
  have hf := find1_ok H l[i] k
  have := ih (i + 1) (by omega)
  rw [drop_cons h1, fndF]
  simp only [aE, eEn] at hf
  by_cases c : l[i].i.k = k
  · rw [if_pos c]
    simp [c] at hf
    simp only [w402_K0]; rw [ck_unf w402_B0.eq_1]
    simp (disch := omega) [h1, wI64, hf, H.inl, inlB, H.pp, ppB, c]
  · rw [if_neg c]
    simp [c] at hf
    simp only [w402_K0] at this ⊢; rw [ck_unf w402_B0.eq_1]
    simp at this
    simp (disch := omega) [h1, wI64, hf, H.inl, inlB, H.pp, ppB, c, this]
theorem index_ok2 (H : HasL C) (l : List En) (e : Bool) (k : Int) (hl : l.length ≤ 1000000) : FnW C 402 [.ro 6 (l.map eEn) e, .fn 403 [.rop [.int .u64 k]]] = some (.int .i64 (fndF k 0 l)) := by
 have h := index_loop2 H l e k hl l.length 0 (by simp)
 simp only [w402_K0] at h
 simp at h
 rw [fnW_eq H.f402 rfl]
 simp [w402, h]
theorem find_ok (H : HasL C) (l : List En) (e : Bool) (k : Int) (hl : l.length ≤ 1000000) : FnW C 224 [aL l e, .int .u64 k] = some (.tup [.int .i64 (imax (fndF k 0 l) 0), .bool (decide (0 ≤ fndF k 0 l))]) := by
 have h := index_ok2 H l e k hl
 rw [fnW_eq H.f224 rfl]
 simp [w224, h, H.inl, inlB, H.pp, ppB]
theorem rfind_loop (H : HasL C) (l : List En) (e : Bool) (k : Int) (hl : l.length ≤ 1000000) : ∀ n i, n + i = l.length →
 w239_K0 C ⟨[(5, .int .i64 i), (1, .int .u64 k), (0, .ro 6 (l.map eEn) e)], [], 0⟩ = some (.int .i64 (fndF k i (l.drop i))) := by
 intro n
 induction n with
 | zero =>
  intro i hi
  simp only [w239_K0]; rw [ck_unf w239_B0.eq_1]
  have h1 : l.drop i = [] := List.drop_eq_nil_of_le (by omega)
  have h3 : ¬ i < l.length := by omega
  simp (disch := omega) [ck_unf w239_c0.eq_1, h1, h3, fndF]
 | succ n ih =>
  intro i hi
  have h1 : i < l.length := by omega
  have := ih (i + 1) (by omega)
  rw [drop_cons h1, fndF]
  by_cases c : l[i].i.k = k
  · rw [if_pos c]
    simp only [w239_K0]; rw [ck_unf w239_B0.eq_1]
    simp (disch := omega) [h1, wI64, c]
  · rw [if_neg c]
    simp only [w239_K0] at this ⊢; rw [ck_unf w239_B0.eq_1]
    simp at this
    simp (disch := omega) [h1, wI64, c, this]
theorem rfind_ok (H : HasL C) (l : List En) (e : Bool) (k : Int) (hl : l.length ≤ 1000000) : FnW C 239 [.ro 6 (l.map eEn) e, .int .u64 k] = some (.int .i64 (fndF k 0 l)) := by
 have h := rfind_loop H l e k hl l.length 0 (by simp)
 simp only [w239_K0] at h
 simp at h
 rw [fnW_eq H.f239 rfl]
 simp [w239, h]
theorem ifind_loop (H : HasL C) (l : List It) (e : Bool) (k : Int) (hl : l.length ≤ 1000000) : ∀ n i, n + i = l.length →
 w423_K0 C ⟨[(5, .int .i64 i), (1, .int .u64 k), (0, .ro 4 (l.map cIt) e)], [], 0⟩ = some (.int .i64 (fndI k i (l.drop i))) := by
 intro n
 induction n with
 | zero =>
  intro i hi
  simp only [w423_K0]; rw [ck_unf w423_B0.eq_1]
  have h1 : l.drop i = [] := List.drop_eq_nil_of_le (by omega)
  have h3 : ¬ i < l.length := by omega
  simp (disch := omega) [ck_unf w423_c0.eq_1, h1, h3, fndI]
 | succ n ih =>
  intro i hi
  have h1 : i < l.length := by omega
  have := ih (i + 1) (by omega)
  rw [drop_cons h1, fndI]
  by_cases c : l[i].k = k
  · rw [if_pos c]
    simp only [w423_K0]; rw [ck_unf w423_B0.eq_1]
    simp (disch := omega) [h1, wI64, c]
  · rw [if_neg c]
    simp only [w423_K0] at this ⊢; rw [ck_unf w423_B0.eq_1]
    simp at this
    simp (disch := omega) [h1, wI64, c, this]
theorem ifind_ok (H : HasL C) (l : List It) (e : Bool) (k : Int) (hl : l.length ≤ 1000000) : FnW C 423 [.ro 4 (l.map cIt) e, .int .u64 k] = some (.int .i64 (fndI k 0 l)) := by
 have h := ifind_loop H l e k hl l.length 0 (by simp)
 simp only [w423_K0] at h
 simp at h
 rw [fnW_eq H.f423 rfl]
 simp [w423, h]
end Go.D
end
section
set_option linter.unusedSimpArgs false
set_option linter.unusedVariables false
namespace Go.D
open Go Go.Pav Go.Pw P
set_option maxRecDepth 10000
set_option maxHeartbeats 4000000
set_option linter.unusedSimpArgs false
set_option linter.unusedVariables false
attribute [-simp] List.getElem_cons_drop
variable {C : WProg}
section
variable {β : Type} {base : Nat} {fin : Ex × WSt → Option β} {K : List Pw.Frame} {a : Ann} {l : List COper} {d : Option Nat} {e : Env} {n : Nat}
end
end Go.D
end
section
set_option linter.unusedSimpArgs false
set_option linter.unusedVariables false
namespace Go.D
open Go Go.Pav Go.Pw P
set_option maxRecDepth 10000
set_option maxHeartbeats 4000000
set_option linter.unusedSimpArgs false
set_option linter.unusedVariables false
attribute [-simp] List.getElem_cons_drop
variable {C : WProg}
structure HasK (C : WProg) : Prop extends HasZ C, HasL C where
 f399 : C.fns.get 399 = some w399
 f230 : C.fns.get 230 = some w230
 f405 : C.fns.get 405 = some w405
 f232 : C.fns.get 232 = some w232
 f115 : C.fns.get 115 = some w115
 f271 : C.fns.get 271 = some w271
 f223 : C.fns.get 223 = some w223
theorem kdAt_get {ks : List Kd} {t : Nat} (h : t < ks.length) : kdAt ks t = ks[t] := by
 unfold kdAt; simp [h]
theorem itOk_t {n : Int} {x : It} (h : itOk n x = true) : x.t < n := by
 unfold itOk at h; simp at h; exact h.1.1.2
theorem rrender_ok (H : HasK C) (ks : List Kd) (ke : Bool) (cap : Int) (x : It) (hx : ItIn x) (ht : x.t < ks.length) (hr : RuIn ks) :
 FnW C 399 [aR ks ke cap, eIt x] = some (.tup [.agg (rndN (kdAt ks x.t).p x cap).c, .int .i64 (rndE (kdAt ks x.t).p x cap)]) := by
 obtain ⟨t, hT⟩ : ∃ t : Nat, x.t = t := ⟨x.t.toNat, by have := hx.t; omega⟩
 have h1 : t < ks.length := by omega
 have h := render_ok H.toHasZ ks[t].p (hr.f _ (List.getElem_mem h1)) x hx.k cap
 rw [hT, kdAt_get h1]
 rw [fnW_eq H.f399 rfl]
 generalize (rndN ks[t].p x cap) = N at *
 generalize rndE ks[t].p x cap = E at *
 rw [Pt.c_eq] at h
 simp only [eIt, hT] at h
 simp (disch := omega) [w399, hT, h1, h, H.inl, inlB, H.pp, ppB]
theorem bad_ok (H : HasK C) (k : Kd) : FnW C 230 [.agg (eKd k)] = some (.bool (!kdOk k)) := by
 have h1 := height_ok H.toHasL k.b
 have h2 := tCheck_ok H.toHasT k.p
 rw [Pt.c_eq] at h2
 rw [fnW_eq H.f230 rfl]
 unfold kdOk
 generalize hOk k.b = X at *
 cases X
 · simp [w230, h1, H.inl, inlB, H.pp, ppB]
 · by_cases c : tcnt k.p = 0
   · simp [c] at h2
     simp [w230, h1, h2, c, H.inl, inlB, H.pp, ppB]
   · simp [c] at h2
     simp [w230, h1, h2, c, H.inl, inlB, H.pp, ppB]
theorem indexK_loop (H : HasK C) (ks : List Kd) (e : Bool) (hl : ks.length ≤ 1000000) : ∀ n i, n + i = ks.length →
 ∃ v : Int, w405_K0 C ⟨[(8, .int .i64 i), (7, .int .i64 ks.length), (1, .fn 230 []), (0, .ro 9 (ks.map eKd) e)], [], 0⟩ = some (.int .i64 v) ∧ decide (v < 0) = (ks.drop i).all kdOk := by
 intro n
 induction n with
 | zero =>
  intro i hi
  simp only [w405_K0]; rw [ck_unf w405_B0.eq_1]
  have h1 : ks.drop i = [] := List.drop_eq_nil_of_le (by omega)
  have h3 : ¬ i < ks.length := by omega
  exact ⟨-1, by simp (disch := omega) [ck_unf w405_c0.eq_1, h1, h3], by simp [h1]⟩
 | succ n ih =>
  intro i hi
  have h1 : i < ks.length := by omega
  have hb := bad_ok H ks[i]
  simp only [eKd] at hb
  rw [drop_cons h1]
  cases c : kdOk ks[i]
  · refine ⟨i, ?_, by simp [c]⟩
    rw [c] at hb
    simp only [w405_K0]; rw [ck_unf w405_B0.eq_1]
    simp (disch := omega) [h1, hb, H.inl, inlB, H.pp, ppB]
  · obtain ⟨v, hv, hq⟩ := ih (i + 1) (by omega)
    refine ⟨v, ?_, by simp [hq, c]⟩
    rw [c] at hb
    simp only [w405_K0] at hv ⊢; rw [ck_unf w405_B0.eq_1]
    simp at hv
    simp (disch := omega) [h1, wI64, hb, H.inl, inlB, H.pp, ppB, hv]
theorem containsK_ok (H : HasK C) (ks : List Kd) (e : Bool) (hl : ks.length ≤ 1000000) : FnW C 232 [.ro 9 (ks.map eKd) e, .fn 230 []] = some (.bool (!ks.all kdOk)) := by
 obtain ⟨v, h, q⟩ := indexK_loop H ks e hl ks.length 0 (by simp)
 simp only [w405_K0] at h
 simp at h
 have h2 : FnW C 405 [.ro 9 (ks.map eKd) e, .fn 230 []] = some (.int .i64 v) := by
  rw [fnW_eq H.f405 rfl]
  simp [w405, h]
 rw [fnW_eq H.f232 rfl]
 rw [List.drop_zero] at q
 rw [← q]
 by_cases c : v < 0
 · have c' : ¬ 0 ≤ v := by omega
   simp [w232, H.inl, inlB, H.pp, ppB, h2, c, c']
 · have c' : 0 ≤ v := by omega
   simp [w232, H.inl, inlB, H.pp, ppB, h2, c, c']
theorem valid_ok (H : HasK C) (ks : List Kd) (ke : Bool) (cap : Int) (hr : RuIn ks) : FnW C 115 [aR ks ke cap] = some (.int .i64 (if ruOk ks cap = true then 0 else 7)) := by
 have h := containsK_ok H ks ke hr.n
 have hl := hr.n
 rw [fnW_eq H.f115 rfl]
 unfold ruOk
 by_cases c1 : 1 ≤ ks.length
 · have c1' : ¬ ((ks.length : Int) < 1) := by omega
   by_cases c2 : ks.length ≤ 8
   · have c2' : ¬ (8 < (ks.length : Int)) := by omega
     by_cases c3 : 1 ≤ cap
     · have c3' : ¬ cap < 1 := by omega
       by_cases c4 : cap ≤ 64
       · have c4' : ¬ 64 < cap := by omega
         cases c5 : ks.all kdOk
         · rw [c5] at h
           simp [w115, c1, c1', c2, c2', c3, c3', c4, c4', h, H.inl, inlB, H.pp, ppB]
         · rw [c5] at h
           simp [w115, c1, c1', c2, c2', c3, c3', c4, c4', h, H.inl, inlB, H.pp, ppB]
       · have c4' : 64 < cap := by omega
         simp [w115, c1, c1', c2, c2', c3, c3', c4, c4']
     · have c3' : cap < 1 := by omega
       simp [w115, c1, c1', c2, c2', c3, c3']
   · have c2' : (8 < (ks.length : Int)) := by omega
     simp [w115, c1, c1', c2, c2']
 · have c1' : ((ks.length : Int) < 1) := by omega
   simp [w115, c1, c1']
theorem ritem_ok (H : HasK C) (ks : List Kd) (ke : Bool) (cap : Int) (x : It) (hx : ItIn x) (hr : RuIn ks) (seen : Bool) :
 FnW C 271 [aR ks ke cap, eIt x, .int .i64 (if seen = true then 1 else 0)] = some (.int .i64 (itE ks cap x seen)) := by
 have hc := rcheck_ok H.toHasI x ks.length hx.t hx.m
 rw [fnW_eq H.f271 rfl]
 unfold itE
 cases c1 : itOk ks.length x
 · rw [c1] at hc
   simp at hc
   simp [w271, hc, H.inl, inlB, H.pp, ppB]
 · rw [c1] at hc
   cases seen
   · have ht := itOk_t c1
     obtain ⟨t, hT⟩ : ∃ t : Nat, x.t = t := ⟨x.t.toNat, by have := hx.t; omega⟩
     have h1 : t < ks.length := by omega
     have h := rRender_ok H.toHasZ ks[t].p (hr.f _ (List.getElem_mem h1)) x hx.k cap
     rw [hT, kdAt_get h1]
     have hE : 0 ≤ rndE ks[t].p x cap := by unfold rndE; repeat (first | omega | split)
     generalize (rndR ks[t].p x cap) = N at *
     generalize rndE ks[t].p x cap = E at *
     rw [Pt.c_eq] at h
     simp only [eIt, hT] at h hc
     by_cases c : E = 0
     · subst c
       simp at hc
       simp (disch := omega) [w271, hc, hT, h1, h, H.inl, inlB, H.pp, ppB]
     · have c' : 0 < E := by omega
       simp at hc
       simp (disch := omega) [w271, hc, hT, h1, h, c, c', H.inl, inlB, H.pp, ppB]
   · simp at hc
     simp [w271, hc, H.inl, inlB, H.pp, ppB]
end Go.D
end
section
set_option linter.unusedSimpArgs false
set_option linter.unusedVariables false
namespace Go.D
open Go Go.Pav Go.Pw P
set_option maxRecDepth 10000
set_option maxHeartbeats 4000000
set_option linter.unusedSimpArgs false
set_option linter.unusedVariables false
attribute [-simp] List.getElem_cons_drop
variable {C : WProg}
def kmap (s : List Int) : List (AV × AV) := s.map fun k => (.int .u64 k, .bool true)
theorem kmap_nil : kmap [] = [] := rfl
theorem kmap_get (k : Int) : ∀ s : List Int, mapGet (kmap s) (.int .u64 k) = some (if s.contains k = true then some (.bool true) else none)
 | [] => rfl
 | a :: r => by
  have ih := kmap_get k r
  unfold kmap at ih ⊢
  rw [List.map_cons, mapGet]
  simp only [eqCell, if_true, ob]
  by_cases c : k = a
  · subst c; simp
  · simp [c, ih]
theorem kmap_put (k : Int) : ∀ s : List Int, s.contains k = false → mapPut (kmap s) (.int .u64 k) (.bool true) = some (kmap (s ++ [k]))
 | [], _ => rfl
 | a :: r, h => by
  simp at h
  have ih := kmap_put k r (by simpa using h.2)
  unfold kmap at ih ⊢
  rw [List.map_cons, mapPut]
  simp only [eqCell, if_true, ob]
  simp [h.1, ih, om]
abbrev keysE (l : List En) : List Int := l.map fun e => e.i.k
theorem check_loop (H : HasK C) (ks : List Kd) (ke : Bool) (cap : Int) (hr : RuIn ks) (l : List En) (e : Bool) (hl : l.length ≤ 1000000) (hs : ∀ x ∈ l, EnIn x) : ∀ n i, n + i = l.length → ∀ seen : List Int,
 w223_K0 C ⟨[(25, .int .i64 i), (24, .int .i64 l.length), (23, .ro 6 (l.map eEn) e), (6, .map 0), (3, .ptr 1 0 0), (2, .ptr 2 0 0)], [(0, .map (kmap seen)), (1, .cells 1 [[.ro 6 (l.map eEn) e]] true true), (2, .cells 2 [[.ro 9 (ks.map eKd) ke, .int .i64 cap]] true true)], 3⟩ =
  some (.int .i64 (if chk ks cap seen (l.drop i) ≠ 0 then chk ks cap seen (l.drop i) else ovE l)) := by
 intro n
 induction n with
 | zero =>
  intro i hi seen
  have ht := total_ok H.toHasL l e hl hs
  simp only [w223_K0]; rw [ck_unf w223_B0.eq_1]
  have h1 : l.drop i = [] := List.drop_eq_nil_of_le (by omega)
  have h3 : ¬ i < l.length := by omega
  simp (disch := omega) [ck_unf w223_c0.eq_1, h1, h3, chk, ht, H.inl, inlB, H.pp, ppB]
 | succ n ih =>
  intro i hi seen
  have h1 : i < l.length := by omega
  have hx := hs _ (List.getElem_mem h1)
  have hc := icheck_ok H.toHasI l[i].i ks.length hx.i.t
  have hg := kmap_get l[i].i.k seen
  rw [drop_cons h1, chk]
  cases c1 : itOk ks.length l[i].i
  · have hE : enE ks cap l[i] (seen.contains l[i].i.k) = 6 := by unfold enE itE; simp [c1]
    rw [hE]
    rw [c1] at hc
    simp at hc
    simp only [w223_K0]; rw [ck_unf w223_B0.eq_1]
    simp (disch := omega) [h1, hc, H.inl, inlB, H.pp, ppB]
  · rw [c1] at hc
    simp at hc
    cases c2 : seen.contains l[i].i.k
    · have ht := itOk_t c1
      obtain ⟨t, hT⟩ : ∃ t : Nat, l[i].i.t = t := ⟨l[i].i.t.toNat, by have := hx.i.t; omega⟩
      have h2 : t < ks.length := by omega
      have hp := kmap_put l[i].i.k seen c2
      have hre := rrender_ok H ks ke cap l[i].i hx.i ht hr
      have hh := height_ok H.toHasL l[i].s
      have this := ih (i + 1) (by omega) (seen ++ [l[i].i.k])
      rw [c2] at hg
      simp only [aR, eIt] at hre
      have hk := kdAt_get h2
      have hE : enE ks cap l[i] false = if rndE ks[t].p l[i].i cap = 0 then (if hOk l[i].s = true ∧ (l[i].kn = true ∨ l[i].s = ks[t].b) then 0 else 12) else 14 := by
       unfold enE itE
       rw [c1, hT, hk]
       by_cases q : rndE ks[t].p l[i].i cap = 0 <;> simp [q]
      simp only [eIt, hT, hk] at hc hre
      generalize rndN ks[t].p l[i].i cap = N at *
      generalize rndE ks[t].p l[i].i cap = E at *
      by_cases c3 : E = 0
      · subst c3
        cases c4 : hOk l[i].s
        · rw [c4] at hh
          have hE' : enE ks cap l[i] false = 12 := by rw [hE]; simp [c4]
          rw [hE']
          simp only [w223_K0]; rw [ck_unf w223_B0.eq_1]
          simp (disch := omega) [h1, h2, hT, hc, hg, hp, hre, hh, H.inl, inlB, H.pp, ppB]
        · rw [c4] at hh
          cases c5 : l[i].kn
          · by_cases c6 : l[i].s = ks[t].b
            · have hE' : enE ks cap l[i] false = 0 := by rw [hE, if_pos rfl, if_pos ⟨c4, .inr c6⟩]
              rw [hE']
              simp only [w223_K0] at this ⊢; rw [ck_unf w223_B0.eq_1]
              generalize chk ks cap (seen ++ [l[i].i.k]) (List.drop (i + 1) l) = Z at *
              simp at this
              simp (disch := omega) [h1, h2, hT, hc, hg, hp, hre, hh, c5, eq_true c6, wI64, H.inl, inlB, H.pp, ppB, this]
            · have hE' : enE ks cap l[i] false = 12 := by rw [hE]; simp [c5, c6]
              rw [hE']
              simp only [w223_K0]; rw [ck_unf w223_B0.eq_1]
              simp (disch := omega) [h1, h2, hT, hc, hg, hp, hre, hh, c5, c6, H.inl, inlB, H.pp, ppB]
          · have hE' : enE ks cap l[i] false = 0 := by rw [hE]; simp [c4, c5]
            rw [hE']
            simp only [w223_K0] at this ⊢; rw [ck_unf w223_B0.eq_1]
            generalize chk ks cap (seen ++ [l[i].i.k]) (List.drop (i + 1) l) = Z at *
            simp at this
            simp (disch := omega) [h1, h2, hT, hc, hg, hp, hre, hh, c5, wI64, H.inl, inlB, H.pp, ppB, this]
      · have hE' : enE ks cap l[i] false = 14 := by rw [hE]; simp [c3]
        rw [hE']
        simp only [w223_K0]; rw [ck_unf w223_B0.eq_1]
        simp (disch := omega) [h1, h2, hT, hc, hg, hp, hre, c3, H.inl, inlB, H.pp, ppB]
    · have hE : enE ks cap l[i] true = 8 := by unfold enE itE; simp [c1]
      rw [hE]
      rw [c2] at hg
      simp only [w223_K0]; rw [ck_unf w223_B0.eq_1]
      simp (disch := omega) [h1, hc, hg, H.inl, inlB, H.pp, ppB]
theorem lcheck_ok (H : HasK C) (ks : List Kd) (ke : Bool) (cap : Int) (hr : RuIn ks) (l : List En) (e : Bool) (hl : l.length ≤ 1000000) (hs : ∀ x ∈ l, EnIn x) :
 FnW C 223 [aR ks ke cap, aL l e] = some (.int .i64 (ckE ks cap l)) := by
 have hv := valid_ok H ks ke cap hr
 have h := check_loop H ks ke cap hr l e hl hs l.length 0 (by simp) []
 rw [List.drop_zero, kmap_nil] at h
 rw [fnW_eq H.f223 rfl]
 unfold ckE
 generalize (if chk ks cap [] l ≠ 0 then chk ks cap [] l else ovE l) = R at *
 simp only [w223_K0] at h
 simp at h
 cases c1 : ruOk ks cap
 · rw [c1] at hv
   simp at hv
   simp [w223, hv, H.inl, inlB, H.pp, ppB]
 · rw [c1] at hv
   simp at hv
   by_cases c2 : 1024 < l.length
   · have c2' : 1024 < (l.length : Int) := by omega
     simp [w223, hv, c2, c2', H.inl, inlB, H.pp, ppB]
   · have c2' : ¬ 1024 < (l.length : Int) := by omega
     simp [w223, hv, c2, c2', h, H.inl, inlB, H.pp, ppB]
end Go.D
end
section
set_option linter.unusedSimpArgs false
set_option linter.unusedVariables false
namespace Go.D
open Go Go.Pav Go.Pw P
set_option maxRecDepth 10000
set_option maxHeartbeats 4000000
set_option linter.unusedSimpArgs false
set_option linter.unusedVariables false
attribute [-simp] List.getElem_cons_drop
variable {C : WProg}
end Go.D
end
section
set_option linter.unusedSimpArgs false
set_option linter.unusedVariables false
namespace Go.D
open Go Go.Pav Go.Pw P
set_option maxRecDepth 10000
set_option maxHeartbeats 4000000
set_option linter.unusedSimpArgs false
set_option linter.unusedVariables false
attribute [-simp] List.getElem_cons_drop
variable {C : WProg}
structure HasO (C : WProg) : Prop extends HasK C
theorem rfresh_ok (H : HasK C) (ks : List Kd) (ke : Bool) (cap : Int) (x : It) (hx : ItIn x) (ht : x.t < ks.length) :
 FnW C 240 [aR ks ke cap, eIt x] = some (aE (fre ks x)) := by
 obtain ⟨t, hT⟩ : ∃ t : Nat, x.t = t := ⟨x.t.toNat, by have := hx.t; omega⟩
 have h1 : t < ks.length := by omega
 rw [fnW_eq H.f240 rfl]
 unfold fre
 rw [hT, kdAt_get h1]
 simp (disch := omega) [w240, hT, h1]
end Go.D
end
section
set_option linter.unusedSimpArgs false
set_option linter.unusedVariables false
namespace Go.D
open Go Go.Pav Go.Pw P
set_option maxRecDepth 10000
set_option maxHeartbeats 4000000
set_option linter.unusedSimpArgs false
set_option linter.unusedVariables false
attribute [-simp] List.getElem_cons_drop
variable {C : WProg}
structure HasQ (C : WProg) : Prop extends HasO C
theorem rsame1_loop (H : HasL C) (a b : It) (hl : a.m.length = b.m.length) (hb : a.m.length ≤ 9223372036854775807) : ∀ n i, n + i = a.m.length →
 w112_K0 C ⟨[(5, .int .i64 i), (3, .ptr 0 0 0), (2, .ptr 1 0 0)], [(0, .cells 4 [[.int .u64 b.k, .int .u8 b.t, .str b.x, .ro 1 (b.m.map eS) b.e]] true true), (1, .cells 4 [[.int .u64 a.k, .int .u8 a.t, .str a.x, .ro 1 (a.m.map eS) a.e]] true true)], 2⟩ =
  some (.int .i64 (if decide (a.m.drop i = b.m.drop i) = true then 1 else 0)) := by
 intro n
 induction n with
 | zero =>
  intro i hi
  have h1 : a.m.drop i = [] := List.drop_eq_nil_of_le (by omega)
  have h2 : b.m.drop i = [] := List.drop_eq_nil_of_le (by omega)
  have h3 : ¬ i < b.m.length := by omega
  simp only [w112_K0]; rw [ck_unf w112_B0.eq_1]
  simp (disch := omega) [ck_unf w112_c0.eq_1, h1, h2, h3, hl]
 | succ n ih =>
  intro i hi
  have h1 : i < a.m.length := by omega
  have h2 : i < b.m.length := by omega
  have this := ih (i + 1) (by omega)
  rw [drop_cons h1, drop_cons h2]
  by_cases c : a.m[i] = b.m[i]
  · have hq : decide (a.m[i] :: a.m.drop (i + 1) = b.m[i] :: b.m.drop (i + 1)) = decide (a.m.drop (i + 1) = b.m.drop (i + 1)) := by simp [c]
    rw [hq]
    generalize decide (a.m.drop (i + 1) = b.m.drop (i + 1)) = X at *
    simp only [w112_K0] at this ⊢; rw [ck_unf w112_B0.eq_1]
    simp at this
    simp (disch := omega) [h1, h2, eq_true c, wI64, this]
  · have hq : decide (a.m[i] :: a.m.drop (i + 1) = b.m[i] :: b.m.drop (i + 1)) = false := by simp [c]
    rw [hq]
    simp only [w112_K0]; rw [ck_unf w112_B0.eq_1]
    simp (disch := omega) [h1, h2, c]
theorem rsame1_ok (H : HasL C) (a b : It) (hb : a.m.length ≤ 9223372036854775807) (hb2 : b.m.length ≤ 9223372036854775807) : FnW C 112 [eIt a, eIt b] = some (.int .i64 (if sameIt a b = true then 1 else 0)) := by
 rw [fnW_eq H.f112 rfl]
 unfold sameIt
 by_cases c1 : a.k = b.k
 · by_cases c2 : a.t = b.t
   · by_cases c3 : a.x = b.x
     · by_cases c4 : a.m.length = b.m.length
       · have h := rsame1_loop H a b c4 hb a.m.length 0 (by simp)
         rw [List.drop_zero, List.drop_zero] at h
         rw [decide_eq_true c1, decide_eq_true c2, decide_eq_true c3, Bool.true_and, Bool.true_and, Bool.true_and]
         generalize decide (a.m = b.m) = X at *
         simp only [w112_K0] at h
         simp at h
         simp [w112, eq_true c1, eq_true c2, eq_true c3, eq_true c4, h]
       · have c5 : ¬ a.m = b.m := fun q => c4 (by rw [q])
         simp [w112, eq_true c1, eq_true c2, eq_true c3, c4, c5]
     · simp [w112, eq_true c1, eq_true c2, c3]
   · simp [w112, eq_true c1, c2]
 · simp [w112, c1]
theorem rsame_loop (H : HasL C) (a b : List En) (e f : Bool) (hl : a.length = b.length) (hb : a.length ≤ 1000000) (ha : ∀ x ∈ a, x.i.m.length ≤ 9223372036854775807) (hbm : ∀ x ∈ b, x.i.m.length ≤ 9223372036854775807) : ∀ n i, n + i = a.length →
 w172_K0 C ⟨[(5, .int .i64 i), (1, .ro 6 (b.map eEn) f), (0, .ro 6 (a.map eEn) e)], [], 0⟩ = some (.int .i64 (if sameL (a.drop i) (b.drop i) = true then 1 else 0)) := by
 intro n
 induction n with
 | zero =>
  intro i hi
  have h1 : a.drop i = [] := List.drop_eq_nil_of_le (by omega)
  have h2 : b.drop i = [] := List.drop_eq_nil_of_le (by omega)
  have h3 : ¬ i < b.length := by omega
  simp only [w172_K0]; rw [ck_unf w172_B0.eq_1]
  simp (disch := omega) [ck_unf w172_c0.eq_1, h1, h2, h3, hl, sameL]
 | succ n ih =>
  intro i hi
  have h1 : i < a.length := by omega
  have h2 : i < b.length := by omega
  have this := ih (i + 1) (by omega)
  have hs := rsame1_ok H a[i].i b[i].i (ha _ (List.getElem_mem h1)) (hbm _ (List.getElem_mem h2))
  rw [drop_cons h1, drop_cons h2, sameL]
  unfold sameEn
  simp only [eIt] at hs
  generalize sameL (a.drop (i + 1)) (b.drop (i + 1)) = Y at *
  generalize sameIt a[i].i b[i].i = X at *
  by_cases c1 : a[i].s = b[i].s
  · by_cases c2 : a[i].kn = b[i].kn
    · rw [decide_eq_true c1, decide_eq_true c2, Bool.true_and, Bool.true_and]
      cases X
      · simp at hs
        simp only [w172_K0]; rw [ck_unf w172_B0.eq_1]
        simp (disch := omega) [h1, h2, eq_true c1, eq_true c2, hs, H.inl, inlB, H.pp, ppB]
      · simp at hs
        simp only [w172_K0] at this ⊢; rw [ck_unf w172_B0.eq_1]
        simp at this
        simp (disch := omega) [h1, h2, eq_true c1, eq_true c2, hs, wI64, H.inl, inlB, H.pp, ppB, this]
    · rw [decide_eq_true c1, decide_eq_false c2]
      simp only [w172_K0]; rw [ck_unf w172_B0.eq_1]
      simp (disch := omega) [h1, h2, eq_true c1, c2]
  · rw [decide_eq_false c1]
    simp only [w172_K0]; rw [ck_unf w172_B0.eq_1]
    simp (disch := omega) [h1, h2, c1]
theorem rsameW_ok (H : HasL C) (a b : List En) (e f : Bool) (hb : a.length ≤ 1000000) (hb2 : b.length ≤ 1000000) (ha : ∀ x ∈ a, x.i.m.length ≤ 9223372036854775807) (hbm : ∀ x ∈ b, x.i.m.length ≤ 9223372036854775807) :
 FnW C 172 [.ro 6 (a.map eEn) e, .ro 6 (b.map eEn) f] = some (.int .i64 (if (decide (a.length = b.length) && sameL a b) = true then 1 else 0)) := by
 rw [fnW_eq H.f172 rfl]
 by_cases c : a.length = b.length
 · have h := rsame_loop H a b e f c hb ha hbm a.length 0 (by simp)
   rw [List.drop_zero, List.drop_zero] at h
   rw [decide_eq_true c, Bool.true_and]
   generalize sameL a b = X at *
   simp only [w172_K0] at h
   simp at h
   simp [w172, eq_true c, h]
 · simp [w172, c]
end Go.D
end
section
set_option linter.unusedSimpArgs false
set_option linter.unusedVariables false
namespace Go.D
open Go Go.Pav Go.Pw P
set_option maxRecDepth 10000
set_option maxHeartbeats 4000000
set_option linter.unusedSimpArgs false
set_option linter.unusedVariables false
attribute [-simp] List.getElem_cons_drop
variable {C : WProg}
structure HasG (C : WProg) : Prop extends HasQ C where
 f422 : C.fns.get 422 = some w422
 f270 : C.fns.get 270 = some w270
 f126 : C.fns.get 126 = some w126
 f130 : C.fns.get 130 = some w130
structure Good (i : It) : Prop where
 k : 1 ≤ i.k ∧ i.k ≤ 60
 t : 0 ≤ i.t ∧ i.t ≤ 2
 x : isText i.x = true
 l : i.m.length ≤ 8
 m : i.m.all isName = true
def OneR (k t : Int) (x : Bs) (o : Option AV) : Prop := ∃ (m : List Bs) (e : Bool), o = some (eIt ⟨k, t, x, m, e⟩) ∧ m.length ≤ 8 ∧ m.all isName = true
theorem one_sl3 (H : HasG C) (k t a b c d : Int) (hd : 0 ≤ d ∧ d ≤ 255) (x : Bs) (G : List Bs) (hG : G ≠ []) (hl : G.length ≤ 3) (hm : G.all isName = true) :
 OneR k t x (w422_K0 C ⟨[(4, .int .i64 3), (3, .ptr 0 0 0), (2, .ptr 2 0 0), (1, .ptr 3 0 0)], [(0, .cells 4 [[.int .u64 k, .int .u8 t, .str x, .sl 1 1 0 G.length G.length false]] true false), (1, .cells 1 (G.map eS) true true), (2, .cells 4 [[.int .u64 0, .int .u8 0, .str [], .ro 1 [] true]] true true), (3, .cells 4 [[.int .u8 a, .int .u8 b, .int .u8 c, .int .u8 d]] true true)], 4⟩) := by
 have hfit : (G.length + 1) * 17 ≤ 35184372088832 := by omega
 have hfit2 : (G.length + 2) * 17 ≤ 35184372088832 := by omega
 have h4 : List.take G.length (List.map eS G) = List.map eS G := List.take_of_length_le (by simp)
 by_cases c1 : 240 ≤ d
 · refine ⟨G ++ [[97], [97]], false, ?_, by simp; omega, by simp only [List.all_append, hm]; decide⟩
   have h5 : List.take (G.length + 2) (List.map eS G ++ [[.str [97]], [.str [97]]]) = List.map eS G ++ [[.str [97]], [.str [97]]] := List.take_of_length_le (by simp)
   simp only [w422_K0]; rw [ck_unf w422_B0.eq_1]
   simp (disch := omega) [ck_unf w422_c0.eq_1, c1, h4, h5, hfit2]
 · refine ⟨G, false, ?_, by omega, hm⟩
   simp only [w422_K0]; rw [ck_unf w422_B0.eq_1]
   simp (disch := omega) [ck_unf w422_c0.eq_1, c1, h4]
theorem one_nil3 (H : HasG C) (k t a b c d : Int) (hd : 0 ≤ d ∧ d ≤ 255) (x : Bs) :
 OneR k t x (w422_K0 C ⟨[(4, .int .i64 3), (3, .ptr 0 0 0), (2, .ptr 1 0 0), (1, .ptr 2 0 0)], [(0, .cells 4 [[.int .u64 k, .int .u8 t, .str x, .ro 1 [] true]] true true), (1, .cells 4 [[.int .u64 0, .int .u8 0, .str [], .ro 1 [] true]] true true), (2, .cells 4 [[.int .u8 a, .int .u8 b, .int .u8 c, .int .u8 d]] true true)], 3⟩) := by
 by_cases c1 : 240 ≤ d
 · refine ⟨[[97], [97]], false, ?_, by simp, by decide⟩
   simp only [w422_K0]; rw [ck_unf w422_B0.eq_1]
   simp (disch := omega) [ck_unf w422_c0.eq_1, c1]
 · refine ⟨[], true, ?_, by simp, rfl⟩
   simp only [w422_K0]; rw [ck_unf w422_B0.eq_1]
   simp (disch := omega) [ck_unf w422_c0.eq_1, c1]
theorem one_sl2 (H : HasG C) (k t a b c d : Int) (hd : 0 ≤ d ∧ d ≤ 255) (x : Bs) (G : List Bs) (hG : G ≠ []) (hl : G.length ≤ 2) (hm : G.all isName = true) :
 OneR k t x (w422_K0 C ⟨[(4, .int .i64 2), (3, .ptr 0 0 0), (2, .ptr 2 0 0), (1, .ptr 3 0 0)], [(0, .cells 4 [[.int .u64 k, .int .u8 t, .str x, .sl 1 1 0 G.length G.length false]] true false), (1, .cells 1 (G.map eS) true true), (2, .cells 4 [[.int .u64 0, .int .u8 0, .str [], .ro 1 [] true]] true true), (3, .cells 4 [[.int .u8 a, .int .u8 b, .int .u8 c, .int .u8 d]] true true)], 4⟩) := by
 have hfit : (G.length + 1) * 17 ≤ 35184372088832 := by omega
 have hfit2 : (G.length + 2) * 17 ≤ 35184372088832 := by omega
 have h4 : List.take G.length (List.map eS G) = List.map eS G := List.take_of_length_le (by simp)
 have h6 : d.tdiv 8 = d / 8 := Int.tdiv_eq_ediv_of_nonneg (by omega)
 have h5 : (2 + d / 8).tmod 3 = (2 + d / 8) % 3 := Int.tmod_eq_emod_of_nonneg (by omega)
 have hJ : (2 + d / 8) % 3 = 0 ∨ (2 + d / 8) % 3 = 1 ∨ (2 + d / 8) % 3 = 2 := by omega
 simp only [w422_K0]; rw [ck_unf w422_B0.eq_1]
 rcases hJ with hj | hj | hj
 · simp (disch := omega) [wI64, wU8, h5, h6, hj, h4, hfit]
   split
   · have h := one_sl3 H k t a b c d hd x (G ++ [[97]]) (by simp) (by simp; omega) (by simp only [List.all_append, hm]; decide)
     simp only [w422_K0] at h
     simpa using h
   · exact one_sl3 H k t a b c d hd x G hG (by omega) hm
 · simp (disch := omega) [wI64, wU8, h5, h6, hj, h4, hfit]
   split
   · have h := one_sl3 H k t a b c d hd x (G ++ [[98, 50]]) (by simp) (by simp; omega) (by simp only [List.all_append, hm]; decide)
     simp only [w422_K0] at h
     simpa using h
   · exact one_sl3 H k t a b c d hd x G hG (by omega) hm
 · simp (disch := omega) [wI64, wU8, h5, h6, hj, h4, hfit]
   split
   · have h := one_sl3 H k t a b c d hd x (G ++ [[107, 101, 121]]) (by simp) (by simp; omega) (by simp only [List.all_append, hm]; decide)
     simp only [w422_K0] at h
     simpa using h
   · exact one_sl3 H k t a b c d hd x G hG (by omega) hm
theorem one_nil2 (H : HasG C) (k t a b c d : Int) (hd : 0 ≤ d ∧ d ≤ 255) (x : Bs) :
 OneR k t x (w422_K0 C ⟨[(4, .int .i64 2), (3, .ptr 0 0 0), (2, .ptr 1 0 0), (1, .ptr 2 0 0)], [(0, .cells 4 [[.int .u64 k, .int .u8 t, .str x, .ro 1 [] true]] true true), (1, .cells 4 [[.int .u64 0, .int .u8 0, .str [], .ro 1 [] true]] true true), (2, .cells 4 [[.int .u8 a, .int .u8 b, .int .u8 c, .int .u8 d]] true true)], 3⟩) := by
 have h6 : d.tdiv 8 = d / 8 := Int.tdiv_eq_ediv_of_nonneg (by omega)
 have h5 : (2 + d / 8).tmod 3 = (2 + d / 8) % 3 := Int.tmod_eq_emod_of_nonneg (by omega)
 have hJ : (2 + d / 8) % 3 = 0 ∨ (2 + d / 8) % 3 = 1 ∨ (2 + d / 8) % 3 = 2 := by omega
 simp only [w422_K0]; rw [ck_unf w422_B0.eq_1]
 rcases hJ with hj | hj | hj
 · simp (disch := omega) [wI64, wU8, h5, h6, hj]
   split
   · exact one_sl3 H k t a b c d hd x [[97]] (by simp) (by simp) (by decide)
   · exact one_nil3 H k t a b c d hd x
 · simp (disch := omega) [wI64, wU8, h5, h6, hj]
   split
   · exact one_sl3 H k t a b c d hd x [[98, 50]] (by simp) (by simp) (by decide)
   · exact one_nil3 H k t a b c d hd x
 · simp (disch := omega) [wI64, wU8, h5, h6, hj]
   split
   · exact one_sl3 H k t a b c d hd x [[107, 101, 121]] (by simp) (by simp) (by decide)
   · exact one_nil3 H k t a b c d hd x
theorem one_sl1 (H : HasG C) (k t a b c d : Int) (hd : 0 ≤ d ∧ d ≤ 255) (x : Bs) (G : List Bs) (hG : G ≠ []) (hl : G.length ≤ 1) (hm : G.all isName = true) :
 OneR k t x (w422_K0 C ⟨[(4, .int .i64 1), (3, .ptr 0 0 0), (2, .ptr 2 0 0), (1, .ptr 3 0 0)], [(0, .cells 4 [[.int .u64 k, .int .u8 t, .str x, .sl 1 1 0 G.length G.length false]] true false), (1, .cells 1 (G.map eS) true true), (2, .cells 4 [[.int .u64 0, .int .u8 0, .str [], .ro 1 [] true]] true true), (3, .cells 4 [[.int .u8 a, .int .u8 b, .int .u8 c, .int .u8 d]] true true)], 4⟩) := by
 have hfit : (G.length + 1) * 17 ≤ 35184372088832 := by omega
 have hfit2 : (G.length + 2) * 17 ≤ 35184372088832 := by omega
 have h4 : List.take G.length (List.map eS G) = List.map eS G := List.take_of_length_le (by simp)
 have h6 : d.tdiv 8 = d / 8 := Int.tdiv_eq_ediv_of_nonneg (by omega)
 have h5 : (1 + d / 8).tmod 3 = (1 + d / 8) % 3 := Int.tmod_eq_emod_of_nonneg (by omega)
 have hJ : (1 + d / 8) % 3 = 0 ∨ (1 + d / 8) % 3 = 1 ∨ (1 + d / 8) % 3 = 2 := by omega
 simp only [w422_K0]; rw [ck_unf w422_B0.eq_1]
 rcases hJ with hj | hj | hj
 · simp (disch := omega) [wI64, wU8, h5, h6, hj, h4, hfit]
   split
   · have h := one_sl2 H k t a b c d hd x (G ++ [[97]]) (by simp) (by simp; omega) (by simp only [List.all_append, hm]; decide)
     simp only [w422_K0] at h
     simpa using h
   · exact one_sl2 H k t a b c d hd x G hG (by omega) hm
 · simp (disch := omega) [wI64, wU8, h5, h6, hj, h4, hfit]
   split
   · have h := one_sl2 H k t a b c d hd x (G ++ [[98, 50]]) (by simp) (by simp; omega) (by simp only [List.all_append, hm]; decide)
     simp only [w422_K0] at h
     simpa using h
   · exact one_sl2 H k t a b c d hd x G hG (by omega) hm
 · simp (disch := omega) [wI64, wU8, h5, h6, hj, h4, hfit]
   split
   · have h := one_sl2 H k t a b c d hd x (G ++ [[107, 101, 121]]) (by simp) (by simp; omega) (by simp only [List.all_append, hm]; decide)
     simp only [w422_K0] at h
     simpa using h
   · exact one_sl2 H k t a b c d hd x G hG (by omega) hm
theorem one_nil1 (H : HasG C) (k t a b c d : Int) (hd : 0 ≤ d ∧ d ≤ 255) (x : Bs) :
 OneR k t x (w422_K0 C ⟨[(4, .int .i64 1), (3, .ptr 0 0 0), (2, .ptr 1 0 0), (1, .ptr 2 0 0)], [(0, .cells 4 [[.int .u64 k, .int .u8 t, .str x, .ro 1 [] true]] true true), (1, .cells 4 [[.int .u64 0, .int .u8 0, .str [], .ro 1 [] true]] true true), (2, .cells 4 [[.int .u8 a, .int .u8 b, .int .u8 c, .int .u8 d]] true true)], 3⟩) := by
 have h6 : d.tdiv 8 = d / 8 := Int.tdiv_eq_ediv_of_nonneg (by omega)
 have h5 : (1 + d / 8).tmod 3 = (1 + d / 8) % 3 := Int.tmod_eq_emod_of_nonneg (by omega)
 have hJ : (1 + d / 8) % 3 = 0 ∨ (1 + d / 8) % 3 = 1 ∨ (1 + d / 8) % 3 = 2 := by omega
 simp only [w422_K0]; rw [ck_unf w422_B0.eq_1]
 rcases hJ with hj | hj | hj
 · simp (disch := omega) [wI64, wU8, h5, h6, hj]
   split
   · exact one_sl2 H k t a b c d hd x [[97]] (by simp) (by simp) (by decide)
   · exact one_nil2 H k t a b c d hd x
 · simp (disch := omega) [wI64, wU8, h5, h6, hj]
   split
   · exact one_sl2 H k t a b c d hd x [[98, 50]] (by simp) (by simp) (by decide)
   · exact one_nil2 H k t a b c d hd x
 · simp (disch := omega) [wI64, wU8, h5, h6, hj]
   split
   · exact one_sl2 H k t a b c d hd x [[107, 101, 121]] (by simp) (by simp) (by decide)
   · exact one_nil2 H k t a b c d hd x
theorem one_nil0 (H : HasG C) (k t a b c d : Int) (hd : 0 ≤ d ∧ d ≤ 255) (x : Bs) :
 OneR k t x (w422_K0 C ⟨[(4, .int .i64 0), (3, .ptr 0 0 0), (2, .ptr 1 0 0), (1, .ptr 2 0 0)], [(0, .cells 4 [[.int .u64 k, .int .u8 t, .str x, .ro 1 [] true]] true true), (1, .cells 4 [[.int .u64 0, .int .u8 0, .str [], .ro 1 [] true]] true true), (2, .cells 4 [[.int .u8 a, .int .u8 b, .int .u8 c, .int .u8 d]] true true)], 3⟩) := by
 have h6 : d.tdiv 8 = d / 8 := Int.tdiv_eq_ediv_of_nonneg (by omega)
 have h5 : (0 + d / 8).tmod 3 = (0 + d / 8) % 3 := Int.tmod_eq_emod_of_nonneg (by omega)
 have hJ : (0 + d / 8) % 3 = 0 ∨ (0 + d / 8) % 3 = 1 ∨ (0 + d / 8) % 3 = 2 := by omega
 simp only [w422_K0]; rw [ck_unf w422_B0.eq_1]
 simp only [Int.zero_add] at h5 hJ
 rcases hJ with hj | hj | hj
 · simp (disch := omega) [wI64, wU8, h5, h6, hj]
   split
   · exact one_sl1 H k t a b c d hd x [[97]] (by simp) (by simp) (by decide)
   · exact one_nil1 H k t a b c d hd x
 · simp (disch := omega) [wI64, wU8, h5, h6, hj]
   split
   · exact one_sl1 H k t a b c d hd x [[98, 50]] (by simp) (by simp) (by decide)
   · exact one_nil1 H k t a b c d hd x
 · simp (disch := omega) [wI64, wU8, h5, h6, hj]
   split
   · exact one_sl1 H k t a b c d hd x [[107, 101, 121]] (by simp) (by simp) (by decide)
   · exact one_nil1 H k t a b c d hd x
structure Q4 where
 (a b c d : Int)
@[simp] def eQ (q : Q4) : List AV := [.int .u8 q.a, .int .u8 q.b, .int .u8 q.c, .int .u8 q.d]
structure QIn (q : Q4) : Prop where
 a : 0 ≤ q.a ∧ q.a ≤ 255
 b : 0 ≤ q.b ∧ q.b ≤ 255
 c : 0 ≤ q.c ∧ q.c ≤ 255
 d : 0 ≤ q.d ∧ q.d ≤ 255
theorem item1_ok (H : HasG C) (q : Q4) (hq : QIn q) : ∃ i : It, FnW C 422 [.agg (eQ q)] = some (eIt i) ∧ Good i := by
 obtain ⟨a, b, c, d⟩ := q
 obtain ⟨ha, hb, hc, hd⟩ := hq
 simp only at ha hb hc hd
 have h1 : a.tmod 60 = a % 60 := Int.tmod_eq_emod_of_nonneg (by omega)
 have h2 : b.tmod 3 = b % 3 := Int.tmod_eq_emod_of_nonneg (by omega)
 have h3 : c.tmod 8 = c % 8 := Int.tmod_eq_emod_of_nonneg (by omega)
 have hx : ∀ x : Bs, isText x = true → ∃ i : It, w422_K0 C ⟨[(4, .int .i64 0), (3, .ptr 0 0 0), (2, .ptr 1 0 0), (1, .ptr 2 0 0)], [(0, .cells 4 [[.int .u64 (1 + a % 60), .int .u8 (b % 3), .str x, .ro 1 [] true]] true true), (1, .cells 4 [[.int .u64 0, .int .u8 0, .str [], .ro 1 [] true]] true true), (2, .cells 4 [[.int .u8 a, .int .u8 b, .int .u8 c, .int .u8 d]] true true)], 3⟩ = some (eIt i) ∧ Good i := by
  intro x hx
  obtain ⟨m, e, h, r1, r2⟩ := one_nil0 H (1 + a % 60) (b % 3) a b c d hd x
  exact ⟨_, h, ⟨by simp only; omega, by simp only; omega, hx, r1, r2⟩⟩
 rw [fnW_eq H.f422 rfl]
 have hJ : c % 8 = 0 ∨ c % 8 = 1 ∨ c % 8 = 2 ∨ c % 8 = 3 ∨ c % 8 = 4 ∨ c % 8 = 5 ∨ c % 8 = 6 ∨ c % 8 = 7 := by omega
 rcases hJ with hj | hj | hj | hj | hj | hj | hj | hj
 · obtain ⟨i, h, g⟩ := hx [] (by decide)
   refine ⟨i, ?_, g⟩
   simp only [w422_K0] at h
   simp (disch := omega) [w422, h1, h2, h3, hj, wI64, wU8, wU64, h]
 · obtain ⟨i, h, g⟩ := hx [97] (by decide)
   refine ⟨i, ?_, g⟩
   simp only [w422_K0] at h
   simp (disch := omega) [w422, h1, h2, h3, hj, wI64, wU8, wU64, h]
 · obtain ⟨i, h, g⟩ := hx [114, 111, 119] (by decide)
   refine ⟨i, ?_, g⟩
   simp only [w422_K0] at h
   simp (disch := omega) [w422, h1, h2, h3, hj, wI64, wU8, wU64, h]
 · obtain ⟨i, h, g⟩ := hx [116, 119, 111, 32, 119, 111, 114, 100, 115] (by decide)
   refine ⟨i, ?_, g⟩
   simp only [w422_K0] at h
   simp (disch := omega) [w422, h1, h2, h3, hj, wI64, wU8, wU64, h]
 · obtain ⟨i, h, g⟩ := hx [32, 32] (by decide)
   refine ⟨i, ?_, g⟩
   simp only [w422_K0] at h
   simp (disch := omega) [w422, h1, h2, h3, hj, wI64, wU8, wU64, h]
 · obtain ⟨i, h, g⟩ := hx [126, 33, 45, 44] (by decide)
   refine ⟨i, ?_, g⟩
   simp only [w422_K0] at h
   simp (disch := omega) [w422, h1, h2, h3, hj, wI64, wU8, wU64, h]
 · obtain ⟨i, h, g⟩ := hx [97, 32, 108, 111, 110, 103, 101, 114, 32, 116, 101, 120, 116, 32, 111, 102, 32, 116, 104, 105, 115, 32, 107, 105, 110, 100] (by decide)
   refine ⟨i, ?_, g⟩
   simp only [w422_K0] at h
   simp (disch := omega) [w422, h1, h2, h3, hj, wI64, wU8, wU64, h]
 · obtain ⟨i, h, g⟩ := hx [57] (by decide)
   refine ⟨i, ?_, g⟩
   simp only [w422_K0] at h
   simp (disch := omega) [w422, h1, h2, h3, hj, wI64, wU8, wU64, h]
end Go.D
end
section
set_option linter.unusedSimpArgs false
set_option linter.unusedVariables false
namespace Go.D
open Go Go.Pav Go.Pw P
set_option maxRecDepth 10000
set_option maxHeartbeats 4000000
set_option linter.unusedSimpArgs false
set_option linter.unusedVariables false
attribute [-simp] List.getElem_cons_drop
variable {C : WProg}
theorem Good.it {i : It} (h : Good i) : ItIn i := ⟨by have := h.k; omega, by have := h.t; omega, by have := h.l; omega⟩
theorem Good.ok {i : It} (h : Good i) : itOk 3 i = true := by
 have h1 := h.k; have h2 := h.t; have h3 := h.x; have h4 := h.l; have h5 := h.m
 unfold itOk
 simp only [Bool.and_eq_true, decide_eq_true_eq]
 exact ⟨⟨⟨by omega, by omega⟩, h3⟩, h4, h5⟩
theorem fndI_no {k : Int} : ∀ (l : List It) (i : Nat), fndI k i l < 0 → ∀ x ∈ l, x.k ≠ k
 | [], _, _ => by simp
 | e :: r, i, h => by
  rw [fndI] at h
  split at h
  · omega
  · rename_i c
    intro x hx
    rcases List.mem_cons.1 hx with rfl | hx
    · exact c
    · exact fndI_no r (i + 1) h x hx
theorem items_loop (H : HasG C) (hone : ∀ q : Q4, QIn q → ∃ i : It, FnW C 422 [.agg (eQ q)] = some (eIt i) ∧ Good i) (l : List Q4) (e : Bool) (hq : ∀ q ∈ l, QIn q) : ∀ n i, n + i = min l.length 12 → ∀ G : List It, G.length ≤ i → (∀ x ∈ G, Good x) → (G.map It.k).Nodup →
 ∃ R : List It, w270_K0 C ⟨[(4, .int .i64 i), (3, .sl 0 4 0 G.length G.length false), (1, .ptr 1 0 0)], [(0, .cells 4 (G.map cIt) true true), (1, .cells 1 [[.ro 4 (l.map eQ) e]] true true)], 2⟩ = some (.ro 4 (R.map cIt) false) ∧
  R.length ≤ 12 ∧ (∀ x ∈ R, Good x) ∧ (R.map It.k).Nodup := by
 intro n
 induction n with
 | zero =>
  intro i hi G hG hg hn
  refine ⟨G, ?_, by omega, hg, hn⟩
  simp only [w270_K0]; rw [ck_unf w270_B0.eq_1]
  have h6 : List.take G.length (List.map cIt G) = List.map cIt G := List.take_of_length_le (by simp)
  by_cases h3 : i < l.length
  · have h4 : ¬ (i : Int) < 12 := by omega
    simp [ck_unf w270_c0.eq_1, h3, h4, h6]
  · simp [ck_unf w270_c0.eq_1, h3, h6]
 | succ n ih =>
  intro i hi G hG hg hn
  have h1 : i < l.length := by omega
  have h2 : (i : Int) < 12 := by omega
  obtain ⟨x, hx, gx⟩ := hone l[i] (hq _ (List.getElem_mem h1))
  have hf := ifind_ok H.toHasL G false x.k (by omega)
  have h6 : List.take G.length (List.map cIt G) = List.map cIt G := List.take_of_length_le (by simp)
  have hfit : (G.length + 1) * 57 ≤ 35184372088832 := by omega
  simp only [eQ] at hx
  by_cases c : fndI x.k 0 G < 0
  · have hno := fndI_no G 0 c
    obtain ⟨R, this, r1, r2, r3⟩ := ih (i + 1) (by omega) (G ++ [x]) (by simp; omega) (by
     intro y hy
     rcases List.mem_append.1 hy with q | q
     · exact hg y q
     · simp at q; rw [q]; exact gx) (by
     rw [List.map_append, List.nodup_append]
     refine ⟨hn, by simp, ?_⟩
     intro a ha b hb
     simp at hb
     obtain ⟨y, hy, rfl⟩ := List.mem_map.1 ha
     rw [hb]; exact hno y hy)
    refine ⟨R, ?_, r1, r2, r3⟩
    simp only [w270_K0] at this ⊢; rw [ck_unf w270_B0.eq_1]
    simp at this
    simp (disch := omega) [h1, h2, hx, hf, h6, c, hfit, wI64, H.inl, inlB, H.pp, ppB, this]
  · obtain ⟨R, this, r1, r2, r3⟩ := ih (i + 1) (by omega) G (by omega) hg hn
    refine ⟨R, ?_, r1, r2, r3⟩
    simp only [w270_K0] at this ⊢; rw [ck_unf w270_B0.eq_1]
    simp at this
    simp (disch := omega) [h1, h2, hx, hf, h6, c, wI64, H.inl, inlB, H.pp, ppB, this]
theorem items_ok (H : HasG C) (hone : ∀ q : Q4, QIn q → ∃ i : It, FnW C 422 [.agg (eQ q)] = some (eIt i) ∧ Good i) (l : List Q4) (e : Bool) (hq : ∀ q ∈ l, QIn q) :
 ∃ R : List It, FnW C 270 [.agg [.ro 4 (l.map eQ) e]] = some (.ro 4 (R.map cIt) false) ∧ R.length ≤ 12 ∧ (∀ x ∈ R, Good x) ∧ (R.map It.k).Nodup := by
 obtain ⟨R, h, r⟩ := items_loop H hone l e hq (min l.length 12) 0 (by simp) [] (by simp) (by simp) (by simp)
 refine ⟨R, ?_, r⟩
 simp only [w270_K0] at h
 simp at h
 rw [fnW_eq H.f270 rfl]
 simp [w270, h]
def leafP (k : Int) (t : Bs) : Pt := ⟨k, [], [], [], true, t, [], true⟩
def tmRow : Pt := ⟨1, [114, 111, 119], [], [⟨[110], 3, []⟩, ⟨[116, 101, 120, 116], 1, []⟩], true, [], [leafP 3 []], true⟩
def tmHead : Pt := ⟨1, [104, 101, 97, 100], [104], [⟨[105, 100], 2, []⟩], true, [], [leafP 2 [35], leafP 4 []], true⟩
def tmTags : Pt := ⟨1, [114, 111, 119], [], [], true, [], [⟨1, [98], [98, 50], [], true, [], [leafP 3 []], true⟩, ⟨5, [116, 97, 103], [], [⟨[111, 102], 2, []⟩], true, [], [], true⟩], true⟩
def kindsOf (n : Int) : List Kd := [⟨tmRow, 10 + n % 7, false, n % 4⟩, ⟨tmHead, 6 + n % 3, true, n / 4 % 3⟩, ⟨tmTags, 20, decide (n % 16 = 15), n / 8 % 3⟩]
theorem kinds_ok (H : HasG C) (n : Int) (hn : 0 ≤ n ∧ n ≤ 255) : FnW C 126 [.int .u8 n] = some (.ro 9 ((kindsOf n).map eKd) true) := by
 rw [fnW_eq H.f126 rfl]
 have h1 : n.tmod 7 = n % 7 := Int.tmod_eq_emod_of_nonneg (by omega)
 have h2 : n.tmod 4 = n % 4 := Int.tmod_eq_emod_of_nonneg (by omega)
 have h3 : n.tmod 3 = n % 3 := Int.tmod_eq_emod_of_nonneg (by omega)
 have h4 : n.tdiv 4 = n / 4 := Int.tdiv_eq_ediv_of_nonneg (by omega)
 have h5 : n.tdiv 8 = n / 8 := Int.tdiv_eq_ediv_of_nonneg (by omega)
 have h6 : (n / 4).tmod 3 = n / 4 % 3 := Int.tmod_eq_emod_of_nonneg (by omega)
 have h7 : (n / 8).tmod 3 = n / 8 % 3 := Int.tmod_eq_emod_of_nonneg (by omega)
 have h8 : n.tmod 16 = n % 16 := Int.tmod_eq_emod_of_nonneg (by omega)
 simp (disch := omega) [w126, kindsOf, tmRow, tmHead, tmTags, leafP, h1, h2, h3, h4, h5, h6, h7, h8, wI64, wU8, Pt.c_eq]
 rfl
theorem fits_leaf (k : Int) (t : Bs) : FitsAll (leafP k t) := .mk _ ⟨by simp [leafP], by simp [leafP], by simp [leafP]⟩ (by simp [leafP])
theorem fits_row : FitsAll tmRow := .mk _ ⟨by simp [tmRow], by simp [tmRow], by simp [tmRow]⟩ (by simp only [tmRow, List.mem_cons, List.not_mem_nil, or_false]; rintro m rfl; exact fits_leaf _ _)
theorem fits_head : FitsAll tmHead := .mk _ ⟨by simp [tmHead], by simp [tmHead], by simp [tmHead]⟩ (by simp only [tmHead, List.mem_cons, List.not_mem_nil, or_false]; rintro m (rfl | rfl) <;> exact fits_leaf _ _)
theorem fits_tags : FitsAll tmTags := .mk _ ⟨by simp [tmTags], by simp [tmTags], by simp [tmTags]⟩ (by
 simp only [tmTags, List.mem_cons, List.not_mem_nil, or_false]
 rintro m (rfl | rfl)
 · exact .mk _ ⟨by simp, by simp, by simp⟩ (by simp only [List.mem_cons, List.not_mem_nil, or_false]; rintro m rfl; exact fits_leaf _ _)
 · exact .mk _ ⟨by simp, by simp, by simp⟩ (by simp))
theorem ru_in (n : Int) : RuIn (kindsOf n) := ⟨by simp [kindsOf], by
 simp only [kindsOf, List.mem_cons, List.not_mem_nil, or_false]
 rintro k (rfl | rfl | rfl)
 · exact fits_row
 · exact fits_head
 · exact fits_tags⟩
theorem tc_row : tcnt tmRow ≠ 0 := by decide +kernel
theorem tc_head : tcnt tmHead ≠ 0 := by decide +kernel
theorem tc_tags : tcnt tmTags ≠ 0 := by decide +kernel
theorem ru_ok (n : Int) (hn : 0 ≤ n ∧ n ≤ 255) : ruOk (kindsOf n) 12 = true := by
 have e1 : (1 : Int) ≤ 10 + n % 7 ∧ 10 + n % 7 ≤ 2305843009213693952 := by omega
 have e2 : (1 : Int) ≤ 6 + n % 3 ∧ 6 + n % 3 ≤ 2305843009213693952 := by omega
 simp [ruOk, kdOk, hOk, kindsOf, tc_row, tc_head, tc_tags, e1, e2]
theorem kd_base (n : Int) (hn : 0 ≤ n ∧ n ≤ 255) (t : Int) (ht : 0 ≤ t ∧ t ≤ 2) : 1 ≤ (kdAt (kindsOf n) t).b ∧ (kdAt (kindsOf n) t).b ≤ 30 := by
 have : t = 0 ∨ t = 1 ∨ t = 2 := by omega
 rcases this with rfl | rfl | rfl <;> simp [kdAt, kindsOf] <;> omega
end Go.D
end
section
set_option linter.unusedSimpArgs false
set_option linter.unusedVariables false
namespace Go.D
open Go Go.Pav Go.Pw P
set_option maxRecDepth 10000
set_option maxHeartbeats 4000000
set_option linter.unusedSimpArgs false
set_option linter.unusedVariables false
attribute [-simp] List.getElem_cons_drop
variable {C : WProg}
structure GoodE (ks : List Kd) (e : En) : Prop where
 i : Good e.i
 ok : itE ks 12 e.i false = 0
 s : 1 ≤ e.s ∧ e.s ≤ 40
 b : e.kn = true ∨ e.s = (kdAt ks e.i.t).b
structure KsIn (ks : List Kd) : Prop where
 r : RuIn ks
 l : ks.length = 3
 b : ∀ t : Int, 0 ≤ t → t ≤ 2 → 1 ≤ (kdAt ks t).b ∧ (kdAt ks t).b ≤ 30
theorem ks_in (n : Int) (hn : 0 ≤ n ∧ n ≤ 255) : KsIn (kindsOf n) := ⟨ru_in n, rfl, fun t h1 h2 => kd_base n hn t ⟨h1, h2⟩⟩
theorem lof_sl (H : HasG C) (ks : List Kd) (hks : KsIn ks) (l : List It) (le : Bool) (hl : l.length ≤ 12) (hg : ∀ x ∈ l, Good x) (q : List Q4) (qe : Bool) (z : List Int) (ze : Bool) (hz : ∀ s ∈ z, 0 ≤ s ∧ s ≤ 255) (hzl : z.length < 9223372036854775808) (r : Int) : ∀ n i, n + i = l.length →
 ∀ G : List En, G ≠ [] → G.length ≤ i → (∀ x ∈ G, GoodE ks x) → (keysE G ++ (l.drop i).map It.k).Nodup →
 ∃ (R : List En) (f : Bool), w130_K0 C ⟨[(7, .int .i64 i), (6, .ptr 0 0 0), (5, .ro 4 (l.map cIt) le), (4, .ptr 2 0 0), (3, .ptr 3 0 0), (2, .ptr 4 0 0), (1, .ptr 5 0 0)], [(0, .cells 1 [[.sl 1 6 0 G.length G.length false]] true false), (1, .cells 6 (G.map eEn) true true), (2, .cells 2 [[.ro 9 (ks.map eKd) true, .int .i64 12]] true true), (3, .cells 1 [[.ro 6 [] true]] true true), (4, .cells 2 [[.ro 9 [] true, .int .i64 0]] true true), (5, .cells 3 [[.ro 4 (q.map eQ) qe, .ro 1 (z.map eU8) ze, .int .u8 r]] true true)], 6⟩ = some (.tup [aR ks true 12, aL R f]) ∧ R.length ≤ 12 ∧ (∀ e ∈ R, GoodE ks e) ∧ (keysE R).Nodup := by
 intro n
 induction n with
 | zero =>
  intro i hi G hne hG hge hn
  have h1 : l.drop i = [] := List.drop_eq_nil_of_le (by omega)
  have h3 : ¬ i < l.length := by omega
  have h6 : List.take G.length (List.map eEn G) = List.map eEn G := List.take_of_length_le (by simp)
  refine ⟨G, false, ?_, by omega, hge, by rw [h1] at hn; simpa using hn⟩
  simp only [w130_K0]; rw [ck_unf w130_B0.eq_1]
  simp [ck_unf w130_c0.eq_1, h3, h6]
 | succ n ih =>
  intro i hi G hne hG hge hn
  have h1 : i < l.length := by omega
  have gx := hg _ (List.getElem_mem h1)
  have hii := ritem_ok H.toHasK ks true 12 l[i] gx.it hks.r false
  have hfr := rfresh_ok H.toHasK ks true 12 l[i] gx.it (by have := gx.t; have := hks.l; omega)
  have hbase := hks.b l[i].t gx.t.1 gx.t.2
  rw [drop_cons h1, List.map_cons] at hn
  have hfit : (G.length + 1) * 73 ≤ 35184372088832 := by omega
  simp only [aR, eIt, Bool.false_eq_true, if_false] at hii
  simp only [aR, eIt, aE, eEn, fre] at hfr
  have hE0 : 0 ≤ itE ks 12 l[i] false := by unfold itE; repeat (first | omega | split)
  by_cases c1 : itE ks 12 l[i] false = 0
  · have step : ∀ e : En, e.i = l[i] → GoodE ks e → ∃ (R : List En) (f : Bool), w130_K0 C ⟨[(7, .int .i64 ((i : Int) + 1)), (6, .ptr 0 0 0), (5, .ro 4 (l.map cIt) le), (4, .ptr 2 0 0), (3, .ptr 3 0 0), (2, .ptr 4 0 0), (1, .ptr 5 0 0)], [(0, .cells 1 [[.sl 1 6 0 (G.length + 1) (G.length + 1) false]] true false), (1, .cells 6 (G.map eEn ++ [eEn e]) true true), (2, .cells 2 [[.ro 9 (ks.map eKd) true, .int .i64 12]] true true), (3, .cells 1 [[.ro 6 [] true]] true true), (4, .cells 2 [[.ro 9 [] true, .int .i64 0]] true true), (5, .cells 3 [[.ro 4 (q.map eQ) qe, .ro 1 (z.map eU8) ze, .int .u8 r]] true true)], 6⟩ = some (.tup [aR ks true 12, aL R f]) ∧ R.length ≤ 12 ∧ (∀ e ∈ R, GoodE ks e) ∧ (keysE R).Nodup := by
     intro e he hge2
     have := ih (i + 1) (by omega) (G ++ [e]) (by simp) (by simp; omega) (by
      intro y hy
      rcases List.mem_append.1 hy with q | q
      · exact hge y q
      · simp at q; rw [q]; exact hge2) (by simpa [keysE, he] using hn)
     simpa using this
    by_cases c2 : G.length < z.length
    · by_cases c3 : (0 : Int) < z[G.length]
      · have hzz := hz _ (List.getElem_mem c2)
        have hm : z[G.length].tmod 40 = z[G.length] % 40 := Int.tmod_eq_emod_of_nonneg hzz.1
        have hm1 : (0 : Int) ≤ z[G.length] % 40 := Int.emod_nonneg _ (by omega)
        have hm2 : z[G.length] % 40 < 40 := Int.emod_lt_of_pos _ (by omega)
        obtain ⟨R, f, this, hR⟩ := step ⟨l[i], 1 + z[G.length] % 40, true⟩ rfl ⟨gx, c1, by simp only; omega, .inl rfl⟩
        refine ⟨R, f, ?_, hR⟩
        rw [c1] at hii
        generalize z[G.length] % 40 = M at *
        simp only [w130_K0] at this ⊢; rw [ck_unf w130_B0.eq_1]
        simp at this
        simp (disch := omega) [h1, c2, c3, hm, hii, hfr, hfit, wI64, wU8, H.inl, inlB, H.pp, ppB, this]
      · obtain ⟨R, f, this, hR⟩ := step (fre ks l[i]) rfl ⟨gx, c1, by unfold fre; simp only; omega, .inr rfl⟩
        refine ⟨R, f, ?_, hR⟩
        rw [c1] at hii
        simp only [fre] at this
        simp only [w130_K0] at this ⊢; rw [ck_unf w130_B0.eq_1]
        simp at this
        simp (disch := omega) [h1, c2, c3, hii, hfr, hfit, wI64, wU8, H.inl, inlB, H.pp, ppB, this]
    · obtain ⟨R, f, this, hR⟩ := step (fre ks l[i]) rfl ⟨gx, c1, by unfold fre; simp only; omega, .inr rfl⟩
      refine ⟨R, f, ?_, hR⟩
      rw [c1] at hii
      simp only [fre] at this
      simp only [w130_K0] at this ⊢; rw [ck_unf w130_B0.eq_1]
      simp at this
      simp (disch := omega) [h1, c2, hii, hfr, hfit, wI64, wU8, H.inl, inlB, H.pp, ppB, this]
  · have c1' : 0 < itE ks 12 l[i] false := by omega
    obtain ⟨R, f, this, hR⟩ := ih (i + 1) (by omega) G hne (by omega) hge (by
     refine List.Nodup.sublist ?_ hn; exact List.Sublist.append (List.Sublist.refl _) (List.sublist_cons_self _ _))
    refine ⟨R, f, ?_, hR⟩
    generalize itE ks 12 l[i] false = E at *
    simp only [w130_K0] at this ⊢; rw [ck_unf w130_B0.eq_1]
    simp at this
    simp (disch := omega) [h1, c1', hii, wI64, H.inl, inlB, H.pp, ppB, this]
theorem lof_nil (H : HasG C) (ks : List Kd) (hks : KsIn ks) (l : List It) (le : Bool) (hl : l.length ≤ 12) (hg : ∀ x ∈ l, Good x) (q : List Q4) (qe : Bool) (z : List Int) (ze : Bool) (hz : ∀ s ∈ z, 0 ≤ s ∧ s ≤ 255) (hzl : z.length < 9223372036854775808) (r : Int) : ∀ n i, n + i = l.length →
 (keysE [] ++ (l.drop i).map It.k).Nodup →
 ∃ (R : List En) (f : Bool), w130_K0 C ⟨[(7, .int .i64 i), (6, .ptr 0 0 0), (5, .ro 4 (l.map cIt) le), (4, .ptr 1 0 0), (3, .ptr 2 0 0), (2, .ptr 3 0 0), (1, .ptr 4 0 0)], [(0, .cells 1 [[.ro 6 [] true]] true true), (1, .cells 2 [[.ro 9 (ks.map eKd) true, .int .i64 12]] true true), (2, .cells 1 [[.ro 6 [] true]] true true), (3, .cells 2 [[.ro 9 [] true, .int .i64 0]] true true), (4, .cells 3 [[.ro 4 (q.map eQ) qe, .ro 1 (z.map eU8) ze, .int .u8 r]] true true)], 5⟩ = some (.tup [aR ks true 12, aL R f]) ∧ R.length ≤ 12 ∧ (∀ e ∈ R, GoodE ks e) ∧ (keysE R).Nodup := by
 intro n
 induction n with
 | zero =>
  intro i hi  hn
  have h1 : l.drop i = [] := List.drop_eq_nil_of_le (by omega)
  have h3 : ¬ i < l.length := by omega
  refine ⟨[], true, ?_, by simp, by simp, by simp⟩
  simp only [w130_K0]; rw [ck_unf w130_B0.eq_1]
  simp [ck_unf w130_c0.eq_1, h3]
 | succ n ih =>
  intro i hi  hn
  have h1 : i < l.length := by omega
  have gx := hg _ (List.getElem_mem h1)
  have hii := ritem_ok H.toHasK ks true 12 l[i] gx.it hks.r false
  have hfr := rfresh_ok H.toHasK ks true 12 l[i] gx.it (by have := gx.t; have := hks.l; omega)
  have hbase := hks.b l[i].t gx.t.1 gx.t.2
  rw [drop_cons h1, List.map_cons] at hn
  simp only [aR, eIt, Bool.false_eq_true, if_false] at hii
  simp only [aR, eIt, aE, eEn, fre] at hfr
  have hE0 : 0 ≤ itE ks 12 l[i] false := by unfold itE; repeat (first | omega | split)
  by_cases c1 : itE ks 12 l[i] false = 0
  · have step : ∀ e : En, e.i = l[i] → GoodE ks e → ∃ (R : List En) (f : Bool), w130_K0 C ⟨[(7, .int .i64 ((i : Int) + 1)), (6, .ptr 0 0 0), (5, .ro 4 (l.map cIt) le), (4, .ptr 2 0 0), (3, .ptr 3 0 0), (2, .ptr 4 0 0), (1, .ptr 5 0 0)], [(0, .cells 1 [[.sl 1 6 0 1 1 false]] true false), (1, .cells 6 [eEn e] true true), (2, .cells 2 [[.ro 9 (ks.map eKd) true, .int .i64 12]] true true), (3, .cells 1 [[.ro 6 [] true]] true true), (4, .cells 2 [[.ro 9 [] true, .int .i64 0]] true true), (5, .cells 3 [[.ro 4 (q.map eQ) qe, .ro 1 (z.map eU8) ze, .int .u8 r]] true true)], 6⟩ = some (.tup [aR ks true 12, aL R f]) ∧ R.length ≤ 12 ∧ (∀ e ∈ R, GoodE ks e) ∧ (keysE R).Nodup := by
     intro e he hge2
     have := lof_sl H ks hks l le hl hg q qe z ze hz hzl r n (i + 1) (by omega) [e] (by simp) (by simp) (by simpa using hge2) (by simpa [keysE, he] using hn)
     simpa using this
    by_cases c2 : 0 < z.length
    · by_cases c3 : (0 : Int) < z[0]
      · have hzz := hz _ (List.getElem_mem c2)
        have hm : z[0].tmod 40 = z[0] % 40 := Int.tmod_eq_emod_of_nonneg hzz.1
        have hm1 : (0 : Int) ≤ z[0] % 40 := Int.emod_nonneg _ (by omega)
        have hm2 : z[0] % 40 < 40 := Int.emod_lt_of_pos _ (by omega)
        obtain ⟨R, f, this, hR⟩ := step ⟨l[i], 1 + z[0] % 40, true⟩ rfl ⟨gx, c1, by simp only; omega, .inl rfl⟩
        refine ⟨R, f, ?_, hR⟩
        rw [c1] at hii
        generalize z[0] % 40 = M at *
        simp only [w130_K0] at this ⊢; rw [ck_unf w130_B0.eq_1]
        simp at this
        simp (disch := omega) [h1, c2, c3, hm, hii, hfr, wI64, wU8, H.inl, inlB, H.pp, ppB, this]
      · obtain ⟨R, f, this, hR⟩ := step (fre ks l[i]) rfl ⟨gx, c1, by unfold fre; simp only; omega, .inr rfl⟩
        refine ⟨R, f, ?_, hR⟩
        rw [c1] at hii
        simp only [fre] at this
        simp only [w130_K0] at this ⊢; rw [ck_unf w130_B0.eq_1]
        simp at this
        simp (disch := omega) [h1, c2, c3, hii, hfr, wI64, wU8, H.inl, inlB, H.pp, ppB, this]
    · obtain ⟨R, f, this, hR⟩ := step (fre ks l[i]) rfl ⟨gx, c1, by unfold fre; simp only; omega, .inr rfl⟩
      refine ⟨R, f, ?_, hR⟩
      rw [c1] at hii
      simp only [fre] at this
      simp only [w130_K0] at this ⊢; rw [ck_unf w130_B0.eq_1]
      simp at this
      simp (disch := omega) [h1, c2, hii, hfr, wI64, wU8, H.inl, inlB, H.pp, ppB, this]
  · have c1' : 0 < itE ks 12 l[i] false := by omega
    obtain ⟨R, f, this, hR⟩ := ih (i + 1) (by omega) (by
     simp only [keysE, List.map_nil, List.nil_append] at hn ⊢; exact (List.nodup_cons.1 hn).2)
    refine ⟨R, f, ?_, hR⟩
    generalize itE ks 12 l[i] false = E at *
    simp only [w130_K0] at this ⊢; rw [ck_unf w130_B0.eq_1]
    simp at this
    simp (disch := omega) [h1, c1', hii, wI64, H.inl, inlB, H.pp, ppB, this]
theorem lof_ok (H : HasG C) (hone : ∀ q : Q4, QIn q → ∃ i : It, FnW C 422 [.agg (eQ q)] = some (eIt i) ∧ Good i) (q : List Q4) (qe : Bool) (hq : ∀ x ∈ q, QIn x) (z : List Int) (ze : Bool) (hz : ∀ s ∈ z, 0 ≤ s ∧ s ≤ 255) (hzl : z.length < 9223372036854775808) (r : Int) (hr : 0 ≤ r ∧ r ≤ 255) :
 ∃ (R : List En) (f : Bool), FnW C 130 [.agg [.ro 4 (q.map eQ) qe, .ro 1 (z.map eU8) ze, .int .u8 r]] = some (.tup [aR (kindsOf r) true 12, aL R f]) ∧ R.length ≤ 12 ∧ (∀ e ∈ R, GoodE (kindsOf r) e) ∧ (keysE R).Nodup := by
 obtain ⟨I, hI, l1, l2, l3⟩ := items_ok H hone q qe hq
 have hk := kinds_ok H r hr
 obtain ⟨R, f, h, hR⟩ := lof_nil H (kindsOf r) (ks_in r hr) I false l1 l2 q qe z ze hz hzl r I.length 0 (by simp) (by simpa [keysE] using l3)
 refine ⟨R, f, ?_, hR⟩
 rw [fnW_eq H.f130 rfl]
 generalize kindsOf r = ks at *
 simp only [w130_K0] at h
 simp at h
 simp [w130, hI, hk, h, H.inl, inlB, H.pp, ppB]
theorem chk_good (ks : List Kd) (hb : ∀ t : Int, 0 ≤ t → t ≤ 2 → 1 ≤ (kdAt ks t).b ∧ (kdAt ks t).b ≤ 30) : ∀ (l : List En) (s : List Int), (∀ e ∈ l, GoodE ks e) → (s ++ keysE l).Nodup → chk ks 12 s l = 0
 | [], _, _, _ => rfl
 | e :: r, s, hg, hn => by
  have h1 := hg e (by simp)
  have h2 : s.contains e.i.k = false := by
   simp only [keysE, List.map_cons] at hn
   have := (List.nodup_append.1 hn).2.2
   simp only [List.contains_eq_mem, decide_eq_false_iff_not]
   intro q
   exact this _ q _ (by simp) rfl
  have h3 : enE ks 12 e false = 0 := by
   unfold enE
   rw [h1.ok]
   have hh : hOk e.s = true := by unfold hOk; have := h1.s; simp; omega
   simp [hh, h1.b]
  rw [chk, h2, h3]
  simp only [ne_eq, not_true_eq_false, if_false]
  refine chk_good ks hb r _ (fun x hx => hg x (by simp [hx])) ?_
  simpa [keysE] using hn
theorem tot_good (ks : List Kd) : ∀ (l : List En) (s : Int), (∀ e ∈ l, GoodE ks e) → 0 ≤ s → s + 40 * l.length ≤ 4611686018427387904 → totG s l ≤ s + 40 * l.length
 | [], s, _, _, _ => by simp [totG]
 | e :: r, s, hg, h0, h => by
  have h1 := (hg e (by simp)).s
  have h2 : imax e.s 0 = e.s := imax_l (by omega)
  simp only [List.length_cons] at h ⊢
  rw [totG, h2, if_neg (by omega)]
  have := tot_good ks r (s + e.s) (fun x hx => hg x (by simp [hx])) (by omega) (by omega)
  omega
theorem ck_good (r : Int) (hr : 0 ≤ r ∧ r ≤ 255) (l : List En) (hl : l.length ≤ 1024) (hg : ∀ e ∈ l, GoodE (kindsOf r) e) (hn : (keysE l).Nodup) : ckE (kindsOf r) 12 l = 0 := by
 have h1 := chk_good (kindsOf r) (fun t a b => kd_base r hr t ⟨a, b⟩) l [] hg (by simpa using hn)
 have h2 := tot_good (kindsOf r) l 0 hg (by omega) (by omega)
 have h3 : ovE l = 0 := by unfold ovE tot; rw [if_neg (by omega)]
 unfold ckE
 rw [ru_ok r hr, h1, if_neg (by simp), if_neg (by omega), if_neg (by simp), h3]
theorem GoodE.en {ks : List Kd} {e : En} (h : GoodE ks e) : EnIn e := ⟨h.i.it, by have := h.s; omega⟩
end Go.D
end
section
set_option linter.unusedSimpArgs false
set_option linter.unusedVariables false
namespace Go.Pw
open Go Go.Pav
inductive CT where
 | bool
 | int (k : IntKind)
 | str
 | slice (ts : List CT)
inductive Ty : CT → AV → Prop
 | bool (b : Bool) : Ty .bool (.bool b)
 | int (k : IntKind) (n : Int) (h1 : k.min ≤ n) (h2 : n ≤ k.max) : Ty (.int k) (.int k n)
 | str (s : List UInt8) (h : s.length < 2 ^ 63) : Ty .str (.str s)
 | slice (ts : List CT) (es : List (List AV)) (ex : Bool) (hn : es.length < 2 ^ 63) (hw : ∀ (i : Nat) (e : List AV), es[i]? = some e → e.length = ts.length)
  (h : ∀ (i : Nat) (e : List AV) (j : Nat) (ct : CT) (x : AV), es[i]? = some e → ts[j]? = some ct → e[j]? = some x → Ty ct x) : Ty (.slice ts) (.ro ts.length es ex)
theorem Ty.isC {ct : CT} {a : AV} (h : Ty ct a) : Pw.isC a = true := by cases h <;> rfl
def fieldsT (F : TypeId → Option (List CT)) (P : Program) : List Field → Nat → Option (List CT)
 | [], _ => some []
 | f :: r, off => (F f.type).bind fun ts => if f.offset = off ∧ ts.length = P.cellsOf f.type then (fieldsT F P r (off + ts.length)).map (ts ++ ·) else none
def flatT (P : Program) : Nat → TypeId → Option (List CT)
 | 0, _ => none
 | n + 1, t => match P.underlying t with
  | some .bool => some [.bool]
  | some (.int k) => some [.int k]
  | some .string => some [.str]
  | some (.slice e) => (flatT P n e).bind fun ts => if ts.length = P.cellsOf e ∧ 0 < ts.length then some [.slice ts] else none
  | some (.struct fs) => (fieldsT (flatT P n) P fs.toList 0).bind fun ts => if ts.length = P.cellsOf t then some ts else none
  | some (.array m e) => (flatT P n e).bind fun ts => if ts.length = P.cellsOf e ∧ m * ts.length = P.cellsOf t then some (List.replicate m ts).flatten else none
  | _ => none
theorem flatten_rep {α : Type} (ts : List α) : ∀ (m j : Nat), j < m * ts.length → (List.replicate m ts).flatten[j]? = ts[j % ts.length]?
 | 0, j, h => by simp at h
 | m + 1, j, h => by
  rw [List.replicate_succ, List.flatten_cons]
  rcases Nat.lt_or_ge j ts.length with hl | hl
  · rw [List.getElem?_append_left hl, Nat.mod_eq_of_lt hl]
  · rw [List.getElem?_append_right hl, flatten_rep ts m (j - ts.length) (by rw [Nat.add_mul] at h; omega), Nat.mod_eq_sub_mod hl]
theorem trod_array {H : Type} {enc : TypeId × Value → H} {P : Program} {w : World} {base : Nat} {spare : Nat → Bool} {held : Bool} {fuel : Nat} {t : TypeId} {cs : List Value} {x : DataW H × List MemPlace} {m : Nat} {e : TypeId}
 (ht : P.underlying t = some (.array m e)) (h : DataW.trod enc P w base spare held fuel t cs = some x) :
 ∃ (xs : List (DataW H × List MemPlace)) (n : Nat), fuel = n + 1 ∧ cs.length = P.cellsOf t ∧ xs.length = m ∧
  ∀ i, i < m → DataW.trod enc P w base spare held n e ((cs.drop (i * P.cellsOf e)).take (P.cellsOf e)) = xs[i]? := by
 cases fuel with
 | zero => simp [DataW.trod] at h
 | succ n =>
  unfold DataW.trod at h
  rw [ht] at h
  split at h <;> simp_all
  obtain ⟨hl, xs, hp, hd⟩ := h
  exact ⟨xs, by simpa using mapM_some_length hp, fun i hi => mapM_some_get hp i i (List.getElem?_range hi)⟩
def CellOk (ψ : Nat → FuncId) (W : World) (ct : CT) (v : Value) : Prop :=
 ∃ a a', Ty ct a ∧ VD id (fun _ => False) a a' ∧ a'.cell = true ∧ VR ψ W (fun c => c < W.heap.size) (fun _ => (0, 0)) (fun _ => False) a' v
section
variable {H : Type} {enc : TypeId × Value → H} {P : Program} {W : World} {ψ : Nat → FuncId}
theorem fields_open {F : TypeId → Option (List CT)} {n : Nat} {cs : List Value}
 (hF : ∀ t cs x ts, F t = some ts → DataW.trod enc P W 0 (fun _ => true) true n t cs = some x → cs.length = ts.length ∧ ∀ (j : Nat) (ct : CT), ts[j]? = some ct → ∃ v, cs[j]? = some v ∧ CellOk ψ W ct v) :
 ∀ (fs : List Field) (off : Nat) (ts : List CT), fieldsT F P fs off = some ts → (∀ f ∈ fs, ∃ x, DataW.trod enc P W 0 (fun _ => true) true n f.type ((cs.drop f.offset).take (P.cellsOf f.type)) = some x) →
  ∀ (j : Nat) (ct : CT), ts[j]? = some ct → ∃ v, cs[off + j]? = some v ∧ CellOk ψ W ct v := by
 intro fs
 induction fs with
 | nil => intro off ts h _ j ct hj; simp only [fieldsT, Option.some.injEq] at h; subst h; simp at hj
 | cons f r ih =>
  intro off ts h hx j ct hj
  simp only [fieldsT, Option.bind_eq_some_iff] at h
  obtain ⟨t1, h1, h⟩ := h
  split at h
  · rename_i hc
    simp only [Option.map_eq_some_iff] at h
    obtain ⟨t2, h2, rfl⟩ := h
    rcases Nat.lt_or_ge j t1.length with hl | hl
    · rw [List.getElem?_append_left hl] at hj
      obtain ⟨x, q⟩ := hx f (by simp)
      obtain ⟨v, q1, q2⟩ := (hF _ _ _ _ h1 q).2 j ct hj
      refine ⟨v, ?_, q2⟩
      rw [List.getElem?_take] at q1
      split at q1
      · rw [List.getElem?_drop] at q1; rw [← hc.1]; exact q1
      · cases q1
    · rw [List.getElem?_append_right hl] at hj
      obtain ⟨v, q1, q2⟩ := ih _ _ h2 (fun f hf => hx f (by simp [hf])) _ ct hj
      exact ⟨v, by rw [← q1]; congr 1; omega, q2⟩
  · cases h
theorem cells_open : ∀ (n k : Nat) (t : TypeId) (cs : List Value) (x : DataW H × List MemPlace) (ts : List CT), flatT P k t = some ts → DataW.trod enc P W 0 (fun _ => true) true n t cs = some x →
 cs.length = ts.length ∧ ∀ (j : Nat) (ct : CT), ts[j]? = some ct → ∃ v, cs[j]? = some v ∧ CellOk ψ W ct v := by
 intro n
 induction n with
 | zero => intro k t cs x ts _ h; simp [DataW.trod] at h
 | succ n ih =>
  intro k t cs x ts hf h
  cases k with
  | zero => simp [flatT] at hf
  | succ k =>
   have one : ∀ {v : Value} {ct : CT}, cs = [v] → ts = [ct] → CellOk ψ W ct v → cs.length = ts.length ∧ ∀ (j : Nat) (ct : CT), ts[j]? = some ct → ∃ v, cs[j]? = some v ∧ CellOk ψ W ct v := by
    intro v ct h1 h2 h3
    subst h1; subst h2
    refine ⟨rfl, fun j ct' hj => ?_⟩
    cases j with
    | zero => simp only [List.getElem?_cons_zero, Option.some.injEq] at hj; subst hj; exact ⟨v, rfl, h3⟩
    | succ j => simp at hj
   unfold flatT at hf
   split at hf
   · rename_i ht
     cases hf
     obtain ⟨b, e, _⟩ := DataW.trod_bool ht h
     exact one e rfl ⟨_, _, .bool b, .bool b, rfl, .bool b⟩
   · rename_i k' ht
     cases hf
     obtain ⟨m, e, _, hw⟩ := DataW.trod_int ht h
     simp only [Lit.wf, Bool.and_eq_true, decide_eq_true_eq] at hw
     exact one e rfl ⟨_, _, .int k' m hw.1 hw.2, .int k' m, rfl, .int k' m⟩
   · rename_i ht
     cases hf
     obtain ⟨s, e, _, hw⟩ := DataW.trod_string ht h
     refine one e rfl ⟨.str s.data.toList, _, .str _ ?_, .str _, rfl, ?_⟩
     · simp only [maxLen] at hw
       have : s.data.toList.length = s.size := rfl
       omega
     · have := VR.str (ψ := ψ) (w := W) (S := fun c => c < W.heap.size) (m := fun _ => (0, 0)) (A := fun _ => False) s.data.toList
       exact this
   · rename_i el ht
     simp only [Option.bind_eq_some_iff] at hf
     obtain ⟨us, hu, hf⟩ := hf
     split at hf
     · rename_i hz
       obtain ⟨hz, hz0⟩ := hz
       cases hf
       rcases DataW.trod_slice ht h with ⟨e, _⟩ | ⟨a, len, cap, elems, rest, n', hn, e, _, _, hl, hm, hlen, hel, hsp, _⟩
       · exact one e rfl ⟨.ro us.length [] true, .nils, .slice us [] true (by simp) (by simp) (by simp), .ronil _ _, rfl, .nils⟩
       · cases hn
         refine one e rfl ?_
         have row : ∀ i, i < cap → ∃ vs y, W.cells? 0 (a.add (i * us.length)) us.length = some vs ∧ DataW.trod enc P W 0 (fun _ => true) true n el vs = some y := by
          intro i hi
          rcases Nat.lt_or_ge i len with hil | hil
          · have := hel i hil
            rw [List.getElem?_eq_getElem (by omega), Option.bind_eq_some_iff, ← hz] at this
            obtain ⟨vs, q1, q2⟩ := this
            exact ⟨vs, _, q1, q2⟩
          · obtain ⟨q0, q⟩ := hsp rfl
            have := q (i - len) (by omega)
            rw [List.getElem?_eq_getElem (by omega), Option.bind_eq_some_iff, ← hz, show len + (i - len) = i by omega] at this
            obtain ⟨vs, q1, q2⟩ := this
            exact ⟨vs, _, q1, q2⟩
         rcases Nat.eq_zero_or_pos cap with hc0 | hc0
         · subst hc0
           obtain rfl : len = 0 := by omega
           exact ⟨.ro us.length [] true, .ro us.length [] true, .slice us [] true (by simp) (by simp) (by simp), .ro _ [] [] true true (by simp) rfl id (by simp) (by simp), rfl, .roe _ _ _⟩
         · obtain ⟨b, off, spot⟩ := a
           have hfirst : ∃ v, W.cell? ⟨b, off, spot⟩ = some v := by
            obtain ⟨vs, _, q1, _⟩ := row 0 hc0
            obtain ⟨_, q2, q3⟩ := World.cells?_some q1
            have := q3 0 hz0
            rw [List.getElem?_eq_getElem (by omega)] at this
            exact ⟨_, by simpa [Addr.add] using this⟩
           obtain ⟨v0, hv0⟩ := hfirst
           obtain rfl : spot = none := World.cell?_spot hv0
           have hS : b < W.heap.size := by
            unfold World.cell? at hv0
            split at hv0
            · rename_i hb; exact (Array.getElem?_eq_some_iff.1 hb).1
            · cases hv0
           have key : ∀ p : Nat × Nat, ∃ q : Value × AV × AV, p.1 < len → ∀ ct, us[p.2]? = some ct → W.cell? ⟨b, off + p.1 * us.length + p.2, none⟩ = some q.1 ∧ Ty ct q.2.1 ∧ VD id (fun _ => False) q.2.1 q.2.2 ∧ q.2.2.cell = true ∧
            VR ψ W (fun c => c < W.heap.size) (fun _ => (0, 0)) (fun _ => False) q.2.2 q.1 := by
            intro ⟨i, j⟩
            by_cases hi : i < len
            · cases hj : us[j]? with
              | none => exact ⟨default, fun _ ct q => by cases q⟩
              | some ct =>
               obtain ⟨vs, y, q1, q2⟩ := row i (by omega)
               obtain ⟨v, q3, c1, c2, q4, q5, q6, q7⟩ := (ih _ _ _ _ _ hu q2).2 j ct hj
               refine ⟨(v, c1, c2), fun _ ct' q => ?_⟩
               cases q
               refine ⟨?_, q4, q5, q6, q7⟩
               obtain ⟨_, r1, r2⟩ := World.cells?_some q1
               have hjl : j < us.length := (List.getElem?_eq_some_iff.1 hj).1
               have := r2 j hjl
               rw [q3] at this
               rw [← this]
               congr 1
               simp only [Addr.add]
               split <;> split <;> simp_all <;> omega
            · exact ⟨default, fun q => absurd q hi⟩
           obtain ⟨F, hF⟩ := Classical.axiomOfChoice key
           let es : List (List AV) := (List.range len).map fun i => (List.range us.length).map fun j => (F (i, j)).2.1
           let es' : List (List AV) := (List.range len).map fun i => (List.range us.length).map fun j => (F (i, j)).2.2
           have g1 : ∀ (i : Nat) (e : List AV), es[i]? = some e → i < len ∧ e = (List.range us.length).map fun j => (F (i, j)).2.1 := by
            intro i e he
            simp only [es, List.getElem?_map, Option.map_eq_some_iff] at he
            obtain ⟨i', q1, q2⟩ := he
            have := List.getElem?_eq_some_iff.1 q1
            obtain ⟨q3, q4⟩ := this
            simp at q3 q4
            subst q4
            exact ⟨q3, q2.symm⟩
           have g1' : ∀ (i : Nat) (e : List AV), es'[i]? = some e → i < len ∧ e = (List.range us.length).map fun j => (F (i, j)).2.2 := by
            intro i e he
            simp only [es', List.getElem?_map, Option.map_eq_some_iff] at he
            obtain ⟨i', q1, q2⟩ := he
            have := List.getElem?_eq_some_iff.1 q1
            obtain ⟨q3, q4⟩ := this
            simp at q3 q4
            subst q4
            exact ⟨q3, q2.symm⟩
           have g2 : ∀ (G : Nat → AV) (j : Nat) (x : AV), ((List.range us.length).map G)[j]? = some x → ∃ ct, us[j]? = some ct ∧ x = G j := by
            intro G j x hx
            simp only [List.getElem?_map, Option.map_eq_some_iff] at hx
            obtain ⟨j', q1, q2⟩ := hx
            obtain ⟨q3, q4⟩ := List.getElem?_eq_some_iff.1 q1
            simp at q3 q4
            subst q4
            exact ⟨us[j], List.getElem?_eq_getElem q3, q2.symm⟩
           have l1 : es.length = len := by simp [es]
           have l2 : es'.length = len := by simp [es']
           refine ⟨.ro us.length es (decide (cap = len)), .ro us.length es' (decide (cap = len)), .slice us es _ ?_ ?_ ?_, .ro _ es es' _ _ ?_ (by rw [l1, l2]) id ?_ ?_, rfl, ?_⟩
           · rw [l1]; simp only [maxLen] at hm; omega
           · intro i e he; rw [(g1 i e he).2]; simp
           · intro i e j ct y he hct hy
             obtain ⟨q1, rfl⟩ := g1 i e he
             obtain ⟨ct', q2, rfl⟩ := g2 _ j y hy
             rw [hct] at q2
             cases q2
             exact (hF (i, j) q1 ct hct).2.1
           · intro e he y hy
             obtain ⟨i, he⟩ := List.getElem?_of_mem he
             obtain ⟨j, hy⟩ := List.getElem?_of_mem hy
             obtain ⟨q1, rfl⟩ := g1 i e he
             obtain ⟨ct', q2, rfl⟩ := g2 _ j y hy
             exact (hF (i, j) q1 ct' q2).2.1.isC
           · intro i e e' he he'
             rw [(g1 i e he).2, (g1' i e' he').2]; simp
           · intro i e e' j y y' he he' hy hy'
             obtain ⟨q1, rfl⟩ := g1 i e he
             obtain ⟨_, rfl⟩ := g1' i e' he'
             obtain ⟨ct', q2, rfl⟩ := g2 _ j y hy
             obtain ⟨_, _, rfl⟩ := g2 _ j y' hy'
             exact (hF (i, j) q1 ct' q2).2.2.1
           · have := VR.ro (ψ := ψ) (w := W) (S := fun c => c < W.heap.size) (m := fun _ => (0, 0)) (A := fun _ => False) us.length es' (decide (cap = len)) b off cap (fun i j => (F (i, j)).1) hS
              (fun i e he => by rw [(g1' i e he).2]; simp) (by rw [l2]; exact hl) (fun q => by rw [l2]; simpa using q)
              (fun i e j y he hy => by
               obtain ⟨q1, rfl⟩ := g1' i e he
               obtain ⟨ct', q2, rfl⟩ := g2 _ j y hy
               have := hF (i, j) q1 ct' q2
               exact ⟨this.2.2.2.1, this.1⟩)
              (fun i e j y he hy => by
               obtain ⟨q1, rfl⟩ := g1' i e he
               obtain ⟨ct', q2, rfl⟩ := g2 _ j y hy
               exact (hF (i, j) q1 ct' q2).2.2.2.2)
             rw [l2] at this
             exact this
     · cases hf
   · rename_i fs ht
     simp only [Option.bind_eq_some_iff] at hf
     obtain ⟨us, hu, hf⟩ := hf
     split at hf
     · rename_i hz
       cases hf
       obtain ⟨xs, n', hn, _, hcl, hxl, hx⟩ := DataW.trod_struct ht h
       cases hn
       refine ⟨by rw [hcl, hz], fun j ct hj => ?_⟩
       have := fields_open (cs := cs) (F := flatT P k) (n := n) (fun t cs x ts h1 h2 => ih k t cs x ts h1 h2) fs.toList 0 _ hu (fun f hf => by
        obtain ⟨i, hi⟩ := List.getElem?_of_mem hf
        have hi' : fs[i]? = some f := by simpa using hi
        have hlt : i < fs.size := (Array.getElem?_eq_some_iff.1 hi').1
        have := hx i f hi'
        rw [List.getElem?_eq_getElem (by omega)] at this
        exact ⟨_, this⟩) j ct hj
       simpa using this
     · cases hf
   · rename_i m' e ht
     simp only [Option.bind_eq_some_iff] at hf
     obtain ⟨us, hu, hf⟩ := hf
     split at hf
     · rename_i hz
       obtain ⟨hz1, hz2⟩ := hz
       cases hf
       obtain ⟨xs, n', hn, hcl, hxl, hx⟩ := trod_array ht h
       cases hn
       have hlen : (List.replicate m' us).flatten.length = m' * us.length := by simp
       refine ⟨by rw [hcl, hlen, hz2], fun j ct hj => ?_⟩
       have hjl : j < m' * us.length := by rw [← hlen]; exact (List.getElem?_eq_some_iff.1 hj).1
       have hk : 0 < us.length := by
        rcases Nat.eq_zero_or_pos us.length with q | q
        · rw [q, Nat.mul_zero] at hjl; omega
        · exact q
       rw [flatten_rep us m' j hjl] at hj
       have hq : j / us.length < m' := Nat.div_lt_of_lt_mul (by rw [Nat.mul_comm]; exact hjl)
       have hxq := hx (j / us.length) hq
       rw [List.getElem?_eq_getElem (by omega)] at hxq
       obtain ⟨v, q1, q2⟩ := (ih k e _ _ us hu hxq).2 (j % us.length) ct hj
       refine ⟨v, ?_, q2⟩
       rw [List.getElem?_take] at q1
       split at q1
       · rw [List.getElem?_drop, ← hz1] at q1
         rw [← q1]; congr 1
         exact (Nat.div_add_mod' j us.length).symm
       · cases q1
     · cases hf
   · cases hf
inductive AT where
 | c (ct : CT)
 | g (ts : List CT)
def AT.has : AT → AV → Prop
 | .c ct, a => Ty ct a
 | .g ts, a => ∃ es, a = .agg es ∧ es.length = ts.length ∧ ∀ (j : Nat) (ct : CT) (x : AV), ts[j]? = some ct → es[j]? = some x → Ty ct x
def argT (P : Program) (t : TypeId) : Option AT :=
 match P.underlying t with
 | some (.struct _) => (flatT P 20 t).map .g
 | some (.array _ _) => (flatT P 20 t).map .g
 | some .bool | some (.int _) | some .string | some (.slice _) => match flatT P 20 t with | some [ct] => some (.c ct) | _ => none
 | _ => none
theorem cells_plain {t : TypeId} {base : Nat} {v : Value} (hu : P.underlying t = some .bool ∨ (∃ k, P.underlying t = some (.int k)) ∨ P.underlying t = some .string ∨ ∃ e, P.underlying t = some (.slice e)) (h : Value.okWide P W .any base t v) :
 v.cells = #[v] := by
 cases v <;> try rfl
 rcases hu with hu | ⟨k, hu⟩ | hu | ⟨e, hu⟩ <;> simp [Value.okWide, hu, Cell.okWide, Cell.ok] at h
theorem arg_open {t : TypeId} {at_ : AT} (ha : argT P t = some at_) {base : Nat} {v : Value} (hv : Value.okWide P W .any base t v) {d : DataW H} {p : List MemPlace} (h : DataW.Trod enc P W 0 (fun _ => true) true t v d p) :
 ∃ a a', at_.has a ∧ VD id (fun _ => False) a a' ∧ VR ψ W (fun c => c < W.heap.size) (fun _ => (0, 0)) (fun _ => False) a' v := by
 obtain ⟨fuel, h⟩ := h
 have plain : (P.underlying t = some .bool ∨ (∃ k, P.underlying t = some (.int k)) ∨ P.underlying t = some .string ∨ ∃ e, P.underlying t = some (.slice e)) →
  (match flatT P 20 t with | some [ct] => some (AT.c ct) | _ => none) = some at_ → ∃ a a', at_.has a ∧ VD id (fun _ => False) a a' ∧ VR ψ W (fun c => c < W.heap.size) (fun _ => (0, 0)) (fun _ => False) a' v := by
  intro hu he
  split at he
  · rename_i ct hf
    cases he
    rw [cells_plain hu hv] at h
    obtain ⟨_, q⟩ := cells_open (ψ := ψ) _ _ _ _ _ _ hf h
    obtain ⟨v', q1, a, a', q2, q3, _, q4⟩ := q 0 ct rfl
    simp only [List.getElem?_cons_zero, Option.some.injEq] at q1
    subst q1
    exact ⟨a, a', q2, q3, q4⟩
  · cases he
 have whole : (∃ cs, v = .agg cs) → (flatT P 20 t).map AT.g = some at_ → ∃ a a', at_.has a ∧ VD id (fun _ => False) a a' ∧ VR ψ W (fun c => c < W.heap.size) (fun _ => (0, 0)) (fun _ => False) a' v := by
  rintro ⟨cs, rfl⟩ ha
  simp only [Option.map_eq_some_iff] at ha
  obtain ⟨ts, hf, rfl⟩ := ha
  obtain ⟨hl, q⟩ := cells_open (ψ := ψ) _ _ _ _ _ _ hf h
  simp only [Value.cells] at hl q
  have key : ∀ j : Nat, ∃ x : AV × AV, ∀ ct, ts[j]? = some ct → Ty ct x.1 ∧ VD id (fun _ => False) x.1 x.2 ∧ x.2.cell = true ∧ ∃ v, cs.toList[j]? = some v ∧ VR ψ W (fun c => c < W.heap.size) (fun _ => (0, 0)) (fun _ => False) x.2 v := by
   intro j
   cases hj : ts[j]? with
   | none => exact ⟨default, fun _ q => by cases q⟩
   | some ct =>
    obtain ⟨v, q1, a, a', q2, q3, q4, q5⟩ := q j ct hj
    exact ⟨(a, a'), fun ct' e => by cases e; exact ⟨q2, q3, q4, v, q1, q5⟩⟩
  obtain ⟨F, hF⟩ := Classical.axiomOfChoice key
  have g2 : ∀ (G : Nat → AV) (j : Nat) (x : AV), ((List.range ts.length).map G)[j]? = some x → ∃ ct, ts[j]? = some ct ∧ x = G j := by
   intro G j x hx
   simp only [List.getElem?_map, Option.map_eq_some_iff] at hx
   obtain ⟨j', q1, q2⟩ := hx
   obtain ⟨q3, q4⟩ := List.getElem?_eq_some_iff.1 q1
   simp at q3 q4
   subst q4
   exact ⟨ts[j], List.getElem?_eq_getElem q3, q2.symm⟩
  refine ⟨.agg ((List.range ts.length).map fun j => (F j).1), .agg ((List.range ts.length).map fun j => (F j).2), ⟨_, rfl, by simp, ?_⟩, .agg _ _ (by simp) ?_, .agg _ _ ?_ ?_ ?_⟩
  · intro j ct x hct hx
    obtain ⟨ct', q1, rfl⟩ := g2 _ j x hx
    exact (hF j ct hct).1
  · intro j x x' hx hx'
    obtain ⟨ct, q1, rfl⟩ := g2 _ j x hx
    obtain ⟨_, _, rfl⟩ := g2 _ j x' hx'
    exact (hF j ct q1).2.1
  · simp only [List.length_map, List.length_range]
    rw [← hl]; simp
  · intro j x hx
    obtain ⟨ct, q1, rfl⟩ := g2 _ j x hx
    exact (hF j ct q1).2.2.1
  · intro j x hx
    obtain ⟨ct, q1, rfl⟩ := g2 _ j x hx
    obtain ⟨v, q2, q3⟩ := (hF j ct q1).2.2.2
    have e : cs[j]? = some v := by simpa using q2
    rw [Array.getD_eq_getD_getElem?, e]
    exact q3
 unfold argT at ha
 split at ha
 · rename_i fs ht
   simp only [Value.okWide, ht] at hv
   obtain ⟨cs, hv, _, _⟩ := hv
   exact whole ⟨cs, hv⟩ ha
 · rename_i m e ht
   simp only [Value.okWide, ht] at hv
   obtain ⟨cs, hv, _, _⟩ := hv
   exact whole ⟨cs, hv⟩ ha
 · rename_i ht; exact plain (.inl ht) ha
 · rename_i k ht; exact plain (.inr (.inl ⟨k, ht⟩)) ha
 · rename_i ht; exact plain (.inr (.inr (.inl ht))) ha
 · rename_i e ht; exact plain (.inr (.inr (.inr ⟨e, ht⟩))) ha
 · cases ha
def TyAll : List AT → List AV → Prop
 | [], [] => True
 | a :: r, x :: s => a.has x ∧ TyAll r s
 | _, _ => False
theorem args_open {base : Nat} : ∀ {ts : List TypeId} {ats : List AT} {vs : List Value} {ds : List (DataW H)} {p : List MemPlace}, ts.map (argT P) = ats.map some →
 (∀ (j : Nat) (t : TypeId) (v : Value), ts[j]? = some t → vs[j]? = some v → Value.okWide P W .any base t v) → DataW.TrodAll enc P W 0 (fun _ => true) true ts vs ds p →
 ∃ us us', TyAll ats us ∧ Rel2 (VD id fun _ => False) us us' ∧ us'.length = vs.length ∧ ∀ (j : Nat) (x : AV) (v : Value), us'[j]? = some x → vs[j]? = some v → VR ψ W (fun c => c < W.heap.size) (fun _ => (0, 0)) (fun _ => False) x v
 | [], [], vs, ds, p, _, _, h => by
  obtain ⟨rfl, _, _⟩ := ChangeShapes.trodAll_nil h
  exact ⟨[], [], trivial, ⟨rfl, by simp⟩, rfl, by simp⟩
 | t :: ts, at_ :: ats, _, _, _, hm, hv, h => by
  obtain ⟨v, vs1, d, ds1, p1, q1, rfl, rfl, rfl, h1, h2⟩ := ChangeShapes.trodAll_cons h
  simp only [List.map_cons, List.cons.injEq] at hm
  obtain ⟨a, a', r1, r2, r3⟩ := arg_open (ψ := ψ) hm.1 (hv 0 t v rfl rfl) h1
  obtain ⟨us, us', s1, s2, s3, s4⟩ := args_open hm.2 (fun j t v e1 e2 => hv (j + 1) t v e1 e2) h2
  refine ⟨a :: us, a' :: us', ⟨r1, s1⟩, ⟨by simp [s2.1], fun j x x' e1 e2 => ?_⟩, by simp [s3], fun j x v' e1 e2 => ?_⟩
  · cases j with
    | zero => cases e1; cases e2; exact r2
    | succ j => exact s2.2 j x x' e1 e2
  · cases j with
    | zero => cases e1; cases e2; exact r3
    | succ j => exact s4 j x v' e1 e2
 | [], _ :: _, _, _, _, hm, _, _ => by simp at hm
 | _ :: _, [], _, _, _, hm, _, _ => by simp at hm
theorem law_calls {Φ : Nat → FuncId → Option Nat} {D : WProg} (hL : Linked P Φ ψ (erProg D)) (hok : okTree D.fns = true) {f : Nat} {ts : List TypeId} {ats : List AT} (hts : ts.map (argT P) = ats.map some)
 (core : ∀ us, TyAll ats us → FnW D f us = some (.bool true)) {base : Nat} {args : Array Value} {ds : List (DataW H)} {p : List MemPlace}
 (hv : ∀ (j : Nat) (t : TypeId) (v : Value), ts[j]? = some t → args[j]? = some v → Value.okWide P W .any base t v) (hA : DataW.TrodAll enc P W 0 (fun _ => true) true ts args.toList ds p) :
 Calls P (ψ f) args W fun e W' => e = .returned (.bool true) ∧ (∀ c, c < W.heap.size → W'.heap[c]? = W.heap[c]?) ∧ W.heap.size ≤ W'.heap.size ∧ W'.os = W.os ∧ W'.output = W.output := by
 obtain ⟨us, us', h1, h2, h3, h4⟩ := args_open (ψ := ψ) hts (fun j t v e1 e2 => hv j t v e1 (by simpa using e2)) hA
 obtain ⟨n, hc⟩ := fnW_call.1 (core us h1)
 obtain ⟨v', hc', hvd⟩ := callW_ok hok h2 hc
 rw [hvd.bool_inv] at hc'
 refine (callF_ok hL hc' (w := W) (S := fun c => c < W.heap.size) (m := fun _ => (0, 0)) (cargs := args) (fun _ h => h) (by rw [h3]; simp) fun j x hx => ?_).mono ?_
 · have hj : j < args.size := by have := (List.getElem?_eq_some_iff.1 hx).1; rw [h3] at this; simpa using this
   rw [Array.getD_eq_getD_getElem?, Array.getElem?_eq_getElem hj]
   exact h4 j x _ hx (by simp [hj])
 · rintro e W' ⟨cv, S', m', rfl, hr, q1, q2, q3, q4⟩
   rw [hr.inv_bool]
   exact ⟨rfl, q1, q2, q3, q4⟩
theorem trodAll_old {W' : World} (hh : ∀ c, c < W.heap.size → W'.heap[c]? = W.heap[c]?) {base : Nat} {sp : Nat → Bool} {held : Bool} : ∀ {ts : List TypeId} {vs : List Value} {ds : List (DataW H)} {ps : List MemPlace},
 DataW.TrodAll enc P W base sp held ts vs ds ps → (∀ p ∈ ps, p.block < W.heap.size) → DataW.TrodAll enc P W' base sp held ts vs ds ps
 | [], [], [], _, h, _ => h
 | _ :: _, _ :: _, _ :: _, _, ⟨p, q, ⟨n, h1⟩, h2, e⟩, hs => ⟨p, q, ⟨n, DataW.trod_carry n _ _ _ h1 fun x hx => by
  have hlt := hs x (by rw [e]; exact List.mem_append_left _ hx)
  cases x with
  | cell b off => simp only [World.sameAt, World.cell?]; rw [hh b hlt]
  | map b => exact hh b hlt⟩, trodAll_old hh h2 (fun x hx => hs x (by rw [e]; exact List.mem_append_right _ hx)), e⟩
theorem keptBut_old {W' : World} (hh : ∀ c, c < W.heap.size → W'.heap[c]? = W.heap[c]?) (ho : W'.os = W.os) (hp : W'.output = W.output) (may : MemPlace → Prop) : W.keptBut W' may := by
 have h := World.keptBut_refl W may
 refine ⟨ho, hp, fun i hi => ?_⟩
 have := h.2.2 i hi
 rw [hh i hi]
 exact this
theorem law_post {f : Func} {s : ChangeSpec} {fresh handsOn again : Bool} {W' : World} {args : Array Value} {ds gs : List (DataW H)} {before : List MemPlace} {tb : TypeId}
 (kids : Kids P (· < P.types.size)) (full : ∀ t e, t < P.types.size → P.underlying t = some (.slice e) → 0 < P.cellsOf e)
 (hvars0 : s.vars = []) (hW : DataW.Whole enc P f.params.toList s.vars false W args.toList ds gs before) (hfn : s.fn H (ds ++ gs) = { results := [.lit (.bool true)], args := ds })
 (hps : ∀ t ∈ f.params.toList, t < P.types.size) (hr : f.resultTypes = #[tb]) (htb : P.underlying tb = some .bool)
 (hh : ∀ c, c < W.heap.size → W'.heap[c]? = W.heap[c]?) (_hsz : W.heap.size ≤ W'.heap.size) (ho : W'.os = W.os) (hp : W'.output = W.output) :
 s.post enc P f false fresh handsOn again W args (.bool true) W' := by
 have hlt : ∀ p ∈ before, p.block < W.heap.size := hW.lt
 have hW' := hW
 obtain ⟨p, q, hA, hV, rfl, hz, _⟩ := hW
 rw [hvars0] at hV
 obtain ⟨rfl, rfl⟩ := ChangeShapes.trodVars_none hV
 simp only [List.append_nil] at hlt hz hW' hfn
 have hargs : ∀ sp : Nat → Bool, (∀ x ∈ p, sp x.block = true) → DataW.TrodAll enc P W' 0 sp true f.params.toList args.toList ds p := fun sp hsp =>
  trodAll_old hh (DataW.TrodAll.respare kids full hps hA hsp) hlt
 have hvars : ∀ sp : Nat → Bool, DataW.TrodVars enc P W' sp s.vars [] [] := fun sp => by rw [hvars0]; rfl
 have hres : ∀ (b : Nat) (sp : Nat → Bool) (hd : Bool), DataW.TrodAll enc P W' b sp hd f.resultTypes.toList ((Value.bool true).resultList f.resultTypes.size) [.lit (.bool true)] [] := fun b sp hd => by
  rw [hr]; exact ChangeShapes.trodAll_mk1 (RowKit.shut_bool htb true)
 have hok : ∀ (j : Nat) (t : TypeId) (r : Value), f.resultTypes[j]? = some t → ((Value.bool true).resultList f.resultTypes.size)[j]? = some r → Value.okWide P W' .any 0 t r :=
  RowKit.ok_one hr rfl (by simp [Value.okWide, htb, Cell.okWide, Cell.ok])
 have hold : ∀ x ∈ p, (fun b => decide (b < W.heap.size)) x.block = true := fun x hx => by simpa using hlt x hx
 refine ⟨ds, [], p, [], p, [], hW', ?_, ?_, ?_, keptBut_old hh ho hp _, fun _ => ⟨hok, [.lit (.bool true)] ++ ds, [], ([] ++ p) ++ [], ⟨[] ++ p, [], ?_, hvars _, rfl, ?_, fun h => by cases h⟩, ?_⟩⟩
 · rw [List.append_nil, hfn]; exact hres _ _ _
 · rw [List.append_nil, hfn]; exact hargs _ hold
 · rw [List.append_nil, hfn]; exact hvars _
 · exact ChangeShapes.trodAll_append (hargs _ fun _ _ => rfl) (hres _ _ _)
 · intro b off hb
   simp only [List.nil_append, List.append_nil] at hb
   have := hz b off hb
   unfold World.frozen? at this ⊢
   rw [hh b (hlt _ hb)]
   exact this
 · intro x hx _
   simpa using hx
theorem trodAll_len {base : Nat} {sp : Nat → Bool} {held : Bool} : ∀ {ts : List TypeId} {vs : List Value} {ds : List (DataW H)} {ps : List MemPlace}, DataW.TrodAll enc P W base sp held ts vs ds ps → ds.length = ts.length
 | [], [], [], _, _ => rfl
 | _ :: _, _ :: _, _ :: _, _, ⟨_, _, _, h2, _⟩ => by simp [trodAll_len h2]
def isTrue : Option AV → Bool
 | some (.bool true) => true
 | _ => false
theorem isTrue_eq {o : Option AV} (h : isTrue o = true) : o = some (.bool true) := by
 unfold isTrue at h
 split at h
 · rfl
 · cases h
end
end Go.Pw
end
section
set_option linter.unusedSimpArgs false
set_option linter.unusedVariables false
namespace Go.Pw
open Go Go.Pav
theorem ty_map2 {α : Type} {g : α → List AV} {Q : List AV → Prop} {R : α → Prop} (h : ∀ a, Q a → ∃ x, a = g x ∧ R x) : ∀ (xs : List (List AV)), (∀ x ∈ xs, Q x) → ∃ ys : List α, xs = ys.map g ∧ ∀ y ∈ ys, R y := by
 intro xs
 induction xs with
 | nil => intro _; exact ⟨[], rfl, by simp⟩
 | cons a r ih =>
  intro hx
  obtain ⟨y, rfl, hy⟩ := h a (hx a (by simp))
  obtain ⟨ys, rfl, hys⟩ := ih fun x q => hx x (by simp [q])
  exact ⟨y :: ys, rfl, by simpa using ⟨hy, hys⟩⟩
theorem ty_slice {ts : List CT} {a : AV} (h : Ty (.slice ts) a) : ∃ (es : List (List AV)) (e : Bool), a = .ro ts.length es e ∧ es.length < 2 ^ 63 ∧ ∀ x ∈ es, x.length = ts.length ∧ ∀ (j : Nat) (ct : CT) (v : AV), ts[j]? = some ct → x[j]? = some v → Ty ct v := by
 cases h with
 | slice ts es ex hn hw h =>
  refine ⟨es, ex, rfl, hn, fun x hx => ?_⟩
  obtain ⟨i, hi⟩ := List.getElem?_of_mem hx
  exact ⟨hw i x hi, fun j ct v e1 e2 => h i x j ct v hi e1 e2⟩
theorem ty_u8 {v : AV} (h : Ty (.int .u8) v) : ∃ n : Int, v = .int .u8 n ∧ 0 ≤ n ∧ n ≤ 255 := by
 cases h with
 | int k n h1 h2 => exact ⟨n, rfl, h1, h2⟩
theorem ty_u64 {v : AV} (h : Ty (.int .u64) v) : ∃ n : Int, v = .int .u64 n ∧ 0 ≤ n ∧ n ≤ 18446744073709551615 := by
 cases h with
 | int k n h1 h2 => exact ⟨n, rfl, h1, h2⟩
theorem ty_i64 {v : AV} (h : Ty (.int .i64) v) : ∃ n : Int, v = .int .i64 n ∧ -9223372036854775808 ≤ n ∧ n ≤ 9223372036854775807 := by
 cases h with
 | int k n h1 h2 => exact ⟨n, rfl, h1, h2⟩
theorem ty_str {v : AV} (h : Ty .str v) : ∃ s : List UInt8, v = .str s ∧ s.length < 9223372036854775808 := by
 cases h with
 | str s h => exact ⟨s, rfl, h⟩
theorem ty_bool {v : AV} (h : Ty .bool v) : ∃ b : Bool, v = .bool b := by
 cases h with
 | bool b => exact ⟨b, rfl⟩
end Go.Pw
end
section
set_option linter.unusedSimpArgs false
set_option linter.unusedVariables false
namespace Go.Proofs.YthbahjhkhkiddabGreat
open Go.ChangeShapes Go.WideShapes Go.ChangeAt Go.RowKit Go.Pav Go.Pw P
theorem own_ : ownKnob Tryz.prog.godebug = none := by kernel_rfl
theorem kids_ : Kids Tryz.prog (· < Tryz.prog.types.size) := kids_rows (by kernel_rfl) (by kernel_rfl)
theorem full_ : ∀ t e, t < Tryz.prog.types.size → Tryz.prog.underlying t = some (.slice e) → 0 < Tryz.prog.cellsOf e := slices_full_of Tryz.prog (by kernel_rfl)
theorem has_ : Go.D.HasG prog := { f561 := rfl, f517 := rfl, f557 := rfl, f556 := rfl, f511 := rfl, f510 := rfl, f560 := rfl, f545 := rfl, f578 := rfl, f543 := rfl, f495 := rfl, f516 := rfl, f500 := rfl, inl := rfl, pp := rfl, f434 := rfl, f519 := rfl, f518 := rfl, f562 := rfl, f433 := rfl, f282 := rfl, f140 := rfl, f439 := rfl, f581 := rfl, f579 := rfl, f585 := rfl, f549 := rfl, f502 := rfl, f503 := rfl, f548 := rfl, f404 := rfl, f231 := rfl, f594 := rfl, f586 := rfl, f550 := rfl, f505 := rfl, f408 := rfl, f398 := rfl, f424 := rfl, f494 := rfl, f496 := rfl, f497 := rfl, f498 := rfl, f499 := rfl, f544 := rfl, f546 := rfl, f580 := rfl, f512 := rfl, f584 := rfl, f558 := rfl, f559 := rfl, f592 := rfl, f582 := rfl, f583 := rfl, f593 := rfl, f563 := rfl, f520 := rfl, f442 := rfl, f441 := rfl, f547 := rfl, f513 := rfl, f501 := rfl, f425 := rfl, f225 := rfl, f111 := rfl, f227 := rfl, f403 := rfl, f402 := rfl, f224 := rfl, f504 := rfl, f239 := rfl, f240 := rfl, f172 := rfl, f112 := rfl, f423 := rfl, f399 := rfl, f230 := rfl, f405 := rfl, f232 := rfl, f115 := rfl, f271 := rfl, f223 := rfl, f422 := rfl, f270 := rfl, f126 := rfl, f130 := rfl }
theorem lives_ : FnW prog 119 [] = some (.bool true) := fnW_call.2 ⟨400, isTrue_eq (by kernel_rfl)⟩
theorem ty_four {a : AV} (h : Ty (.slice [.int .u8, .int .u8, .int .u8, .int .u8]) a) : ∃ (xs : List Go.D.Q4) (e : Bool), a = .ro 4 (xs.map Go.D.eQ) e ∧ ∀ s ∈ xs, Go.D.QIn s := by
 obtain ⟨es, e, rfl, _, hx⟩ := ty_slice h
 obtain ⟨xs, rfl, hr⟩ := ty_map2 (g := Go.D.eQ) (R := Go.D.QIn) (fun l q => by
  obtain ⟨q1, q2⟩ := q
  match l, q1 with
  | [u, v, w, x], _ =>
   obtain ⟨n1, rfl, h1⟩ := ty_u8 (q2 0 _ u rfl rfl)
   obtain ⟨n2, rfl, h2⟩ := ty_u8 (q2 1 _ v rfl rfl)
   obtain ⟨n3, rfl, h3⟩ := ty_u8 (q2 2 _ w rfl rfl)
   obtain ⟨n4, rfl, h4⟩ := ty_u8 (q2 3 _ x rfl rfl)
   exact ⟨⟨n1, n2, n3, n4⟩, rfl, h1, h2, h3, h4⟩) es hx
 exact ⟨xs, e, rfl, hr⟩
theorem ty_bytes2 {a : AV} (h : Ty (.slice [.int .u8]) a) : ∃ (xs : List Int) (e : Bool), a = .ro 1 (xs.map eU8) e ∧ (∀ x ∈ xs, 0 ≤ x ∧ x ≤ 255) ∧ xs.length < 9223372036854775808 := by
 obtain ⟨es, e, rfl, hl, hx⟩ := ty_slice h
 obtain ⟨xs, rfl, hr⟩ := ty_map2 (g := eU8) (R := fun x : Int => 0 ≤ x ∧ x ≤ 255) (fun l q => by
  obtain ⟨q1, q2⟩ := q
  match l, q1 with
  | [v], _ =>
   obtain ⟨n, rfl, h1⟩ := ty_u8 (q2 0 _ v rfl rfl)
   exact ⟨n, rfl, h1⟩) es hx
 exact ⟨xs, e, rfl, hr, by simpa using hl⟩
end Go.Proofs.YthbahjhkhkiddabGreat
end
section
set_option linter.unusedSimpArgs false
set_option linter.unusedVariables false
namespace Go.D
open Go Go.Pav Go.Pw
abbrev enT : List CT := [.int .u64, .int .u8, .str, .slice [.str], .int .i64, .bool]
structure EnTy (e : En) : Prop where
 k : 0 ≤ e.i.k ∧ e.i.k < 18446744073709551616
 t : 0 ≤ e.i.t ∧ e.i.t ≤ 255
 s : -9223372036854775808 ≤ e.s ∧ e.s ≤ 9223372036854775807
 m : e.i.m.length ≤ 9223372036854775807
theorem ty_marks {a : AV} (h : Ty (.slice [.str]) a) : ∃ (m : List Bs) (e : Bool), a = .ro 1 (m.map eS) e ∧ m.length ≤ 9223372036854775807 := by
 obtain ⟨m, me, rfl, hl, h4⟩ := ty_slice h
 obtain ⟨ms, rfl, _⟩ := ty_map2 (g := eS) (R := fun _ : Bs => True) (fun l q => by
  obtain ⟨q1, q2⟩ := q
  match l, q1 with
  | [v], _ =>
   obtain ⟨n, rfl, _⟩ := ty_str (q2 0 _ v rfl rfl)
   exact ⟨n, rfl, trivial⟩) m h4
 refine ⟨ms, me, rfl, ?_⟩
 simp at hl; omega
theorem ty_en {l : List AV} (q1 : l.length = 6) (q2 : ∀ (j : Nat) (ct : CT) (v : AV), enT[j]? = some ct → l[j]? = some v → Ty ct v) : ∃ e : En, l = eEn e ∧ EnTy e := by
 match l, q1 with
 | [u, v, w, x, y, z], _ =>
  obtain ⟨k, rfl, h1⟩ := ty_u64 (q2 0 _ u rfl rfl)
  obtain ⟨t, rfl, h2⟩ := ty_u8 (q2 1 _ v rfl rfl)
  obtain ⟨s, rfl, h3⟩ := ty_str (q2 2 _ w rfl rfl)
  obtain ⟨m, me, rfl, h4⟩ := ty_marks (q2 3 _ x rfl rfl)
  obtain ⟨n, rfl, h5⟩ := ty_i64 (q2 4 _ y rfl rfl)
  obtain ⟨b, rfl⟩ := ty_bool (q2 5 _ z rfl rfl)
  exact ⟨⟨⟨k, t, s, m, me⟩, n, b⟩, rfl, ⟨h1.1, by simp only; omega⟩, h2, h5, h4⟩
theorem ty_ens {a : AV} (h : Ty (.slice enT) a) : ∃ (l : List En) (e : Bool), a = .ro 6 (l.map eEn) e ∧ (∀ x ∈ l, EnTy x) ∧ l.length ≤ 9223372036854775807 := by
 obtain ⟨es, e, rfl, hl, hx⟩ := ty_slice h
 obtain ⟨xs, rfl, hr⟩ := ty_map2 (g := eEn) (R := EnTy) (fun l q => ty_en q.1 q.2) es hx
 refine ⟨xs, e, rfl, hr, ?_⟩
 simp at hl; omega
end Go.D
end
section
set_option linter.unusedSimpArgs false
set_option linter.unusedVariables false
namespace Go.D
open Go Go.Pav Go.Pw P
set_option maxRecDepth 10000
set_option maxHeartbeats 4000000
set_option linter.unusedSimpArgs false
set_option linter.unusedVariables false
attribute [-simp] List.getElem_cons_drop
variable {C : WProg}
end Go.D
end
section
set_option linter.unusedSimpArgs false
set_option linter.unusedVariables false
namespace Go.D
open Go Go.Pav Go.Pw P
set_option maxRecDepth 10000
set_option maxHeartbeats 4000000
set_option linter.unusedSimpArgs false
set_option linter.unusedVariables false
attribute [-simp] List.getElem_cons_drop
variable {C : WProg}
@[simp] theorem oldRefs_zero : ∀ h : WHeap, oldRefs 0 h = []
 | [] => rfl
 | (b, o) :: r => by rw [oldRefs, if_neg (by omega), oldRefs_zero r]
@[simp] theorem renOld_zero (π : Nat → Option Nat) : ∀ h : WHeap, renOld 0 π h = some []
 | [] => rfl
 | (b, o) :: r => by rw [renOld, if_neg (by omega), renOld_zero π r]
end Go.D
end
section
set_option linter.unusedSimpArgs false
set_option linter.unusedVariables false
namespace Go.D
open Go Go.Pav Go.Pw P
set_option maxRecDepth 10000
set_option maxHeartbeats 4000000
set_option linter.unusedSimpArgs false
set_option linter.unusedVariables false
attribute [-simp] List.getElem_cons_drop
variable {C : WProg}
@[simp] theorem getp (h : WHeap) (n : Nat) (o : WObj) (k : Nat) : Pav.get (Pav.put h n o) k = if n = k then some o else Pav.get h k := get_put h n o k
end Go.D
end
section
set_option linter.unusedSimpArgs false
set_option linter.unusedVariables false
namespace Go.D
open Go Go.Pav Go.Pw P
set_option maxRecDepth 10000
set_option linter.unusedSimpArgs false
set_option linter.unusedVariables false
attribute [-simp] List.getElem_cons_drop
variable {C : WProg} {α β : Type}
theorem itE_rnd {ks : List Kd} {x : It} (h : itE ks 12 x false = 0) : itOk ks.length x = true ∧ rndE (kdAt ks x.t).p x 12 = 0 := by
 unfold itE at h
 cases c : itOk ks.length x
 · rw [c] at h; simp at h
 · rw [c] at h
   by_cases d : rndE (kdAt ks x.t).p x 12 = 0
   · exact ⟨rfl, d⟩
   · simp [d] at h
end Go.D
end
section
set_option linter.unusedSimpArgs false
set_option linter.unusedVariables false
namespace Go.D
open Go Go.Pav Go.Pw P
set_option maxRecDepth 10000
set_option maxHeartbeats 4000000
set_option linter.unusedSimpArgs false
set_option linter.unusedVariables false
attribute [-simp] List.getElem_cons_drop
variable {C : WProg}
structure HasTr (C : WProg) : Prop extends HasG C where
 f238 : C.fns.get 238 = some w238
theorem tree_at (H : HasTr C) (ks : List Kd) (ke : Bool) (cap : Int) (hr : RuIn ks) (l : List En) (e : Bool) (hl : l.length ≤ 10000) (hs : ∀ x ∈ l, EnIn x) (hck : ckE ks cap l = 0) (a : Nat) (ha : a < l.length) (ht : l[a].i.t < ks.length) :
 FnW C 238 [aR ks ke cap, aL l e, .int .i64 a] = some (.tup [.agg (rndN (kdAt ks l[a].i.t).p l[a].i cap).c, .int .i64 (rndE (kdAt ks l[a].i.t).p l[a].i cap)]) := by
 have hc := lcheck_ok H.toHasK ks ke cap hr l e (by omega) hs
 rw [hck] at hc
 have h := rrender_ok H.toHasK ks ke cap l[a].i (hs _ (List.getElem_mem ha)).i ht hr
 rw [fnW_eq H.f238 rfl]
 generalize rndN (kdAt ks l[a].i.t).p l[a].i cap = N at *
 generalize rndE (kdAt ks l[a].i.t).p l[a].i cap = E at *
 rw [Nd.c_eq] at h ⊢
 simp only [aR, eIt] at h
 have a1 : ¬ (a : Int) < 0 := by omega
 have a2 : ¬ (l.length : Int) ≤ a := by omega
 simp (disch := omega) [w238, hc, h, ha, a1, a2, H.inl, inlB, H.pp, ppB]
theorem tree_rng (H : HasTr C) (ks : List Kd) (ke : Bool) (cap : Int) (hr : RuIn ks) (l : List En) (e : Bool) (hl : l.length ≤ 10000) (hs : ∀ x ∈ l, EnIn x) (hck : ckE ks cap l = 0) (a : Int) (ha : a < 0 ∨ (l.length : Int) ≤ a) :
 FnW C 238 [aR ks ke cap, aL l e, .int .i64 a] = some (.tup [.agg [.int .u8 0, .str [], .str [], .ro 2 [] true, .str [], .ro 6 [] true], .int .i64 4]) := by
 have hc := lcheck_ok H.toHasK ks ke cap hr l e (by omega) hs
 rw [hck] at hc
 rw [fnW_eq H.f238 rfl]
 by_cases a1 : a < 0
 · simp (disch := omega) [w238, hc, a1, H.inl, inlB, H.pp, ppB]
 · have a2 : (l.length : Int) ≤ a := by omega
   simp (disch := omega) [w238, hc, a1, a2, H.inl, inlB, H.pp, ppB]
end Go.D
end
section
set_option linter.unusedSimpArgs false
set_option linter.unusedVariables false
end
section
set_option linter.unusedSimpArgs false
set_option linter.unusedVariables false
namespace Go.D
open Go Go.Pav Go.Pw P
set_option maxRecDepth 10000
set_option maxHeartbeats 4000000
set_option linter.unusedSimpArgs false
set_option linter.unusedVariables false
attribute [-simp] List.getElem_cons_drop
variable {C : WProg}
structure HasV2 (C : WProg) : Prop extends HasG C where
 f356 : C.fns.get 356 = some w356
 f468 : C.fns.get 468 = some w468
 f601 : C.fns.get 601 = some w601
 f602 : C.fns.get 602 = some w602
 f603 : C.fns.get 603 = some w603
theorem eqs_loop (H : HasV2 C) (a b : List Bs) (e f : Bool) (hl : a.length = b.length) (hm : a.length ≤ 9223372036854775807) : ∀ n i, n + i = a.length →
 w468_K0 C ⟨[(13, .int .i64 i), (12, .int .i64 a.length), (1, .ro 1 (b.map eS) f), (0, .ro 1 (a.map eS) e)], [], 0⟩ = some (.bool (decide (a.drop i = b.drop i))) := by
 intro n
 induction n with
 | zero =>
  intro i hi
  have h1 : a.drop i = [] := List.drop_eq_nil_of_le (by omega)
  have h2 : b.drop i = [] := List.drop_eq_nil_of_le (by omega)
  have h3 : ¬ i < a.length := by omega
  simp only [w468_K0]; rw [ck_unf w468_B0.eq_1]
  simp (disch := omega) [ck_unf w468_c0.eq_1, h1, h2, h3]
 | succ n ih =>
  intro i hi
  have h1 : i < a.length := by omega
  have h2 : i < b.length := by omega
  have this := ih (i + 1) (by omega)
  rw [drop_cons h1, drop_cons h2]
  by_cases c : a[i] = b[i]
  · have hq : decide (a[i] :: a.drop (i + 1) = b[i] :: b.drop (i + 1)) = decide (a.drop (i + 1) = b.drop (i + 1)) := by simp [c]
    rw [hq]
    generalize decide (a.drop (i + 1) = b.drop (i + 1)) = X at *
    simp only [w468_K0] at this ⊢; rw [ck_unf w468_B0.eq_1]
    simp at this
    simp (disch := omega) [h1, h2, eq_true c, wI64, this]
  · have hq : decide (a[i] :: a.drop (i + 1) = b[i] :: b.drop (i + 1)) = false := by simp [c]
    rw [hq]
    simp only [w468_K0]; rw [ck_unf w468_B0.eq_1]
    simp (disch := omega) [h1, h2, c, wI64]
theorem eqs_ok (H : HasV2 C) (a b : List Bs) (e f : Bool) (hm : a.length ≤ 9223372036854775807) : FnW C 468 [.ro 1 (a.map eS) e, .ro 1 (b.map eS) f] = some (.bool (decide (a = b))) := by
 rw [fnW_eq H.f468 rfl]
 by_cases c : a.length = b.length
 · have h := eqs_loop H a b e f c hm a.length 0 (by simp)
   rw [List.drop_zero, List.drop_zero] at h
   generalize decide (a = b) = X at *
   simp only [w468_K0] at h
   simp at h
   simp [w468, eq_true c, h]
 · have c2 : decide (a = b) = false := by
    simp; intro q; exact c (by rw [q])
   rw [c2]
   simp [w468, c]
theorem isame_ok (H : HasV2 C) (a b : It) (hm : a.m.length ≤ 9223372036854775807) : FnW C 356 [eIt a, eIt b] = some (.bool (sameIt a b)) := by
 have h := eqs_ok H a.m b.m a.e b.e hm
 rw [fnW_eq H.f356 rfl]
 unfold sameIt
 by_cases c1 : a.k = b.k
 · by_cases c2 : a.t = b.t
   · by_cases c3 : a.x = b.x
     · simp [w356, eq_true c1, eq_true c2, eq_true c3, h, H.inl, inlB, H.pp, ppB]
     · simp [w356, eq_true c1, eq_true c2, c3, H.inl, inlB, H.pp, ppB]
   · simp [w356, eq_true c1, c2, H.inl, inlB, H.pp, ppB]
 · simp [w356, c1, H.inl, inlB, H.pp, ppB]
theorem esame_ok (H : HasV2 C) (a b : En) (hm : a.i.m.length ≤ 9223372036854775807) : FnW C 603 [aE a, aE b] = some (.bool (sameEn a b)) := by
 have h := isame_ok H a.i b.i hm
 rw [fnW_eq H.f603 rfl]
 unfold sameEn
 simp only [eIt] at h
 by_cases c1 : a.s = b.s
 · by_cases c2 : a.kn = b.kn
   · simp [w603, eq_true c1, eq_true c2, h, H.inl, inlB, H.pp, ppB]
   · simp [w603, eq_true c1, c2, H.inl, inlB, H.pp, ppB]
 · simp [w603, c1, H.inl, inlB, H.pp, ppB]
theorem eqf_loop (H : HasV2 C) (a b : List En) (e f : Bool) (hl : a.length = b.length) (hm : a.length ≤ 9223372036854775807) (ha : ∀ x ∈ a, x.i.m.length ≤ 9223372036854775807) : ∀ n i, n + i = a.length →
 w602_K0 C ⟨[(17, .int .i64 i), (16, .int .i64 a.length), (15, .ro 6 (a.map eEn) e), (2, .fn 603 []), (1, .ro 6 (b.map eEn) f)], [], 0⟩ = some (.bool (sameL (a.drop i) (b.drop i))) := by
 intro n
 induction n with
 | zero =>
  intro i hi
  have h1 : a.drop i = [] := List.drop_eq_nil_of_le (by omega)
  have h2 : b.drop i = [] := List.drop_eq_nil_of_le (by omega)
  have h3 : ¬ i < a.length := by omega
  simp only [w602_K0]; rw [ck_unf w602_B0.eq_1]
  simp (disch := omega) [ck_unf w602_c0.eq_1, h1, h2, h3, sameL]
 | succ n ih =>
  intro i hi
  have h1 : i < a.length := by omega
  have h2 : i < b.length := by omega
  have this := ih (i + 1) (by omega)
  have hs := esame_ok H a[i] b[i] (ha _ (List.getElem_mem h1))
  rw [drop_cons h1, drop_cons h2, sameL]
  simp only [aE, eEn] at hs
  generalize sameL (a.drop (i + 1)) (b.drop (i + 1)) = X at *
  cases c : sameEn a[i] b[i]
  · rw [c] at hs
    simp only [w602_K0]; rw [ck_unf w602_B0.eq_1]
    simp (disch := omega) [h1, h2, hs, wI64, H.inl, inlB, H.pp, ppB]
  · rw [c] at hs
    simp only [w602_K0] at this ⊢; rw [ck_unf w602_B0.eq_1]
    simp at this
    simp (disch := omega) [h1, h2, hs, wI64, H.inl, inlB, H.pp, ppB, this]
theorem lsame_ok (H : HasV2 C) (a b : List En) (e f : Bool) (hm : a.length ≤ 9223372036854775807) (ha : ∀ x ∈ a, x.i.m.length ≤ 9223372036854775807) : FnW C 601 [aL a e, aL b f] = some (.bool (decide (a.length = b.length) && sameL a b)) := by
 have key : FnW C 602 [.ro 6 (a.map eEn) e, .ro 6 (b.map eEn) f, .fn 603 []] = some (.bool (decide (a.length = b.length) && sameL a b)) := by
  rw [fnW_eq H.f602 rfl]
  by_cases c : a.length = b.length
  · have h := eqf_loop H a b e f c hm ha a.length 0 (by simp)
    rw [List.drop_zero, List.drop_zero] at h
    rw [decide_eq_true c, Bool.true_and]
    generalize sameL a b = X at *
    simp only [w602_K0] at h
    simp at h
    simp [w602, eq_true c, h]
  · simp [w602, c]
 rw [fnW_eq H.f601 rfl]
 generalize (decide (a.length = b.length) && sameL a b) = X at *
 simp [w601, key, H.inl, inlB, H.pp, ppB]
end Go.D
end
section
set_option linter.unusedSimpArgs false
set_option linter.unusedVariables false
namespace Go.D
open Go Go.Pav Go.Pw P
set_option maxRecDepth 10000
set_option maxHeartbeats 4000000
set_option linter.unusedSimpArgs false
set_option linter.unusedVariables false
attribute [-simp] List.getElem_cons_drop
variable {C : WProg}
structure HasNs (C : WProg) : Prop extends HasG C where
 f600 : C.fns.get 600 = some w600
inductive Small : Nd → Prop
 | mk (n : Nd) (h1 : n.a.length ≤ 4611686018427387904) (h2 : n.ch.length ≤ 4611686018427387904) (h : ∀ m ∈ n.ch, Small m) : Small n
theorem ns_ch (H : HasNs C) (a b : Nd) (hl : a.ch.length = b.ch.length) (h2 : a.ch.length ≤ 4611686018427387904)
 (ih : ∀ i (h : i < a.ch.length), FnW C 600 [.agg a.ch[i].c, .agg (b.ch[i]'(by omega)).c] = some (.int .i64 1)) : ∀ n i, n + i = a.ch.length →
 w600_K0 C ⟨[(6, .int .i64 i), (3, .ptr 0 0 0), (2, .ptr 1 0 0)], [(0, .cells 6 [b.c] true true), (1, .cells 6 [a.c] true true)], 2⟩ = some (.int .i64 1) := by
 intro n
 induction n with
 | zero =>
  intro i hi
  have h3 : ¬ i < a.ch.length := by omega
  simp only [w600_K0]; rw [ck_unf w600_B0.eq_1]
  simp (disch := omega) [ck_unf w600_c0.eq_1, h3]
 | succ n ihn =>
  intro i hi
  have h1 : i < a.ch.length := by omega
  have h1' : i < b.ch.length := by omega
  have this := ihn (i + 1) (by omega)
  have hs := ih i h1
  simp only [w600_K0] at this ⊢; rw [ck_unf w600_B0.eq_1]
  simp at this
  simp (disch := omega) [h1, h1', hs, wI64, H.inl, inlB, H.pp, ppB, this]
theorem ns_at (H : HasNs C) (a b : Nd) (ha : a.a = b.a) (h1 : a.a.length ≤ 4611686018427387904)
 (h0 : w600_K0 C ⟨[(6, .int .i64 0), (3, .ptr 0 0 0), (2, .ptr 1 0 0)], [(0, .cells 6 [b.c] true true), (1, .cells 6 [a.c] true true)], 2⟩ = some (.int .i64 1)) : ∀ n i, n + i = a.a.length →
 w600_K1 C ⟨[(5, .int .i64 i), (3, .ptr 0 0 0), (2, .ptr 1 0 0)], [(0, .cells 6 [b.c] true true), (1, .cells 6 [a.c] true true)], 2⟩ = some (.int .i64 1) := by
 intro n
 induction n with
 | zero =>
  intro i hi
  have h3 : ¬ i < a.a.length := by omega
  have h3' : ¬ i < b.a.length := by rw [← ha]; exact h3
  simp only [w600_K0] at h0
  simp only [w600_K1]; rw [ck_unf w600_B1.eq_1]
  simp (disch := omega) [ck_unf w600_c1.eq_1, h3, h3', h0]
 | succ n ihn =>
  intro i hi
  have hi1 : i < a.a.length := by omega
  have hi2 : i < b.a.length := by rw [← ha]; exact hi1
  have he : b.a[i] = a.a[i] := by simp [ha]
  have this := ihn (i + 1) (by omega)
  simp only [w600_K1] at this ⊢; rw [ck_unf w600_B1.eq_1]
  simp at this
  simp (disch := omega) [hi1, hi2, he, wI64, H.inl, inlB, H.pp, ppB, this]
theorem nsame_ok (H : HasNs C) {a : Nd} (ha : Small a) : ∀ b : Nd, a.z = b.z → FnW C 600 [.agg a.c, .agg b.c] = some (.int .i64 1) := by
 induction ha with
 | mk a h1 h2 h ih =>
  intro b hz
  rw [Nd.z_eq, Nd.z_eq] at hz
  simp only [Nd.mk.injEq, true_and, and_true] at hz
  obtain ⟨e1, e2, e3, e4, e5, e6⟩ := hz
  have hl : a.ch.length = b.ch.length := by have := congrArg List.length e6; simpa using this
  have h0 := ns_ch H a b hl h2 (fun i hi => ih _ (List.getElem_mem hi) _ (by
   have : (a.ch.map Nd.z)[i]? = (b.ch.map Nd.z)[i]? := by rw [e6]
   rw [List.getElem?_map, List.getElem?_map, List.getElem?_eq_getElem hi, List.getElem?_eq_getElem (by omega)] at this
   simpa using this)) a.ch.length 0 (by simp)
  have hA := ns_at H a b e4 h1 h0 a.a.length 0 (by simp)
  rw [fnW_eq H.f600 rfl]
  simp only [w600_K1] at hA
  simp at hA
  have la : a.a.length = b.a.length := by rw [e4]
  simp (disch := omega) [w600, e1, e2, e3, e5, la, hl, hA, H.inl, inlB, H.pp, ppB]
end Go.D
end
section
set_option linter.unusedSimpArgs false
set_option linter.unusedVariables false
namespace Go.D
open Go Go.Pav Go.Pw P
set_option maxRecDepth 10000
set_option maxHeartbeats 4000000
set_option linter.unusedSimpArgs false
set_option linter.unusedVariables false
attribute [-simp] List.getElem_cons_drop
variable {C : WProg}
structure HasVw (C : WProg) : Prop extends HasTr C, HasV2 C, HasNs C where
 f599 : C.fns.get 599 = some w599
theorem fndF_yes {k : Int} : ∀ (l : List En) (i : Nat), k ∈ keysE l → 0 ≤ fndF k i l
 | [], _, h => by simp [keysE] at h
 | e :: r, i, h => by
  rw [fndF]
  by_cases c : e.i.k = k
  · rw [if_pos c]; omega
  · rw [if_neg c]
    simp only [keysE, List.map_cons, List.mem_cons] at h
    rcases h with h | h
    · exact absurd h.symm c
    · exact fndF_yes r (i + 1) h
structure EnS (l : List En) : Prop where
 n : l.length ≤ 40
 s : ∀ x ∈ l, -9223372036854775808 ≤ x.s ∧ x.s ≤ 9223372036854775807
 m : ∀ x ∈ l, x.i.m.length ≤ 9223372036854775807
abbrev vwH (R a b : List En) (f e g : Bool) : WHeap := [(0, .cells 1 [[.ro 6 (R.map eEn) f]] true true), (1, .cells 2 [[.ro 6 (a.map eEn) e, .ro 6 (b.map eEn) g]] true true)]
theorem sameL_rfl : ∀ l : List En, sameL l l = true
 | [] => rfl
 | e :: r => by simp [sameL, sameEn, sameIt, sameL_rfl r]
theorem vw_end (H : HasVw C) (hlives : FnW C 119 [] = some (.bool true)) (R a b : List En) (f e g : Bool) (hR : R.length ≤ 12) (h0 : fndF 0 0 R < 0) (ha : EnS a) (hb : EnS b) :
 w599_K0 C ⟨[(13, .int .i64 2), (8, .ptr 0 0 0), (4, .ptr 1 0 0)], vwH R a b f e g, 2⟩ = some (.bool true) := by
 have q1 := find_ok H.toHasL R f 0 (by omega)
 have q2 := lsame_ok H.toHasV2 a b e g (by have := ha.n; omega) ha.m
 have q3 := rsameW_ok H.toHasL a b e g (by have := ha.n; omega) (by have := hb.n; omega) ha.m hb.m
 rw [show decide (0 ≤ fndF 0 0 R) = false by simp; omega] at q1
 generalize hX : (decide (a.length = b.length) && sameL a b) = X at *
 generalize imax (fndF 0 0 R) 0 = F at *
 cases X
 · simp only [Bool.false_eq_true, if_false] at q3
   simp only [w599_K0, vwH]; rw [ck_unf w599_B0.eq_1]
   simp (disch := omega) [ck_unf w599_c0.eq_1, q1, q2, q3, hlives, H.inl, inlB, H.pp, ppB]
 · simp only [if_true] at q3
   simp only [w599_K0, vwH]; rw [ck_unf w599_B0.eq_1]
   simp (disch := omega) [ck_unf w599_c0.eq_1, q1, q2, q3, hlives, H.inl, inlB, H.pp, ppB]
theorem vw_in1 (H : HasVw C) (R a b : List En) (f e g : Bool) (hb : EnS b)
 (hnext : w599_K0 C ⟨[(13, .int .i64 2), (8, .ptr 0 0 0), (4, .ptr 1 0 0)], vwH R a b f e g, 2⟩ = some (.bool true)) : ∀ n j, n + j = b.length →
 w599_K1 C ⟨[(14, .int .i64 j), (13, .int .i64 1), (8, .ptr 0 0 0), (4, .ptr 1 0 0)], vwH R a b f e g, 2⟩ = some (.bool true) := by
 intro n
 induction n with
 | zero =>
  intro j hj
  have h3 : ¬ j < b.length := by omega
  simp only [w599_K0, vwH] at hnext
  try simp at hnext
  simp only [w599_K1, vwH]; rw [ck_unf w599_B1.eq_1]
  simp (disch := omega) [ck_unf w599_c1.eq_1, h3, wI64, hnext]
 | succ n ih =>
  intro j hj
  have h1 : j < b.length := by omega
  have hn := hb.n
  have this := ih (j + 1) (by omega)
  have q1 := find_ok H.toHasL b g b[j].i.k (by omega)
  have q2 := rfind_ok H.toHasL b g b[j].i.k (by omega)
  have q3 := fndF_yes b 0 (List.mem_map_of_mem (f := fun e : En => e.i.k) (List.getElem_mem h1))
  rw [imax_l (by omega), decide_eq_true q3] at q1
  generalize fndF b[j].i.k 0 b = F at *
  simp only [w599_K1, vwH] at this ⊢; rw [ck_unf w599_B1.eq_1]
  simp at this
  simp (disch := omega) [h1, q1, q2, wI64, H.inl, inlB, H.pp, ppB, this]
theorem vw_in0 (H : HasVw C) (R a b : List En) (f e g : Bool) (ha : EnS a)
 (hnext : w599_K0 C ⟨[(13, .int .i64 1), (8, .ptr 0 0 0), (4, .ptr 1 0 0)], vwH R a b f e g, 2⟩ = some (.bool true)) : ∀ n j, n + j = a.length →
 w599_K1 C ⟨[(14, .int .i64 j), (13, .int .i64 0), (8, .ptr 0 0 0), (4, .ptr 1 0 0)], vwH R a b f e g, 2⟩ = some (.bool true) := by
 intro n
 induction n with
 | zero =>
  intro j hj
  have h3 : ¬ j < a.length := by omega
  simp only [w599_K0, vwH] at hnext
  try simp at hnext
  simp only [w599_K1, vwH]; rw [ck_unf w599_B1.eq_1]
  simp (disch := omega) [ck_unf w599_c1.eq_1, h3, wI64, hnext]
 | succ n ih =>
  intro j hj
  have h1 : j < a.length := by omega
  have hn := ha.n
  have this := ih (j + 1) (by omega)
  have q1 := find_ok H.toHasL a e a[j].i.k (by omega)
  have q2 := rfind_ok H.toHasL a e a[j].i.k (by omega)
  have q3 := fndF_yes a 0 (List.mem_map_of_mem (f := fun e : En => e.i.k) (List.getElem_mem h1))
  rw [imax_l (by omega), decide_eq_true q3] at q1
  generalize fndF a[j].i.k 0 a = F at *
  simp only [w599_K1, vwH] at this ⊢; rw [ck_unf w599_B1.eq_1]
  simp at this
  simp (disch := omega) [h1, q1, q2, wI64, H.inl, inlB, H.pp, ppB, this]
theorem vw_1 (H : HasVw C) (R a b : List En) (f e g : Bool) (hb : EnS b)
 (hnext : w599_K0 C ⟨[(13, .int .i64 2), (8, .ptr 0 0 0), (4, .ptr 1 0 0)], vwH R a b f e g, 2⟩ = some (.bool true)) :
 w599_K0 C ⟨[(13, .int .i64 1), (8, .ptr 0 0 0), (4, .ptr 1 0 0)], vwH R a b f e g, 2⟩ = some (.bool true) := by
 have h := vw_in1 H R a b f e g hb hnext b.length 0 (by simp)
 have hn := hb.n
 have q1 := totW_ok H.toHasL b g (by omega) hb.s
 have q2 := rtotW_ok H.toHasL b g (by omega) hb.s
 have q3 := lsame_ok H.toHasV2 b b g g (by omega) hb.m
 rw [sameL_rfl, decide_eq_true rfl] at q3
 generalize tot b = T at *
 simp only [w599_K1, vwH] at h
 simp at h
 simp only [w599_K0, vwH]; rw [ck_unf w599_B0.eq_1]
 simp (disch := omega) [q1, q2, q3, h, wI64, H.inl, inlB, H.pp, ppB]
theorem vw_0 (H : HasVw C) (R a b : List En) (f e g : Bool) (ha : EnS a)
 (hnext : w599_K0 C ⟨[(13, .int .i64 1), (8, .ptr 0 0 0), (4, .ptr 1 0 0)], vwH R a b f e g, 2⟩ = some (.bool true)) :
 w599_K0 C ⟨[(13, .int .i64 0), (8, .ptr 0 0 0), (4, .ptr 1 0 0)], vwH R a b f e g, 2⟩ = some (.bool true) := by
 have h := vw_in0 H R a b f e g ha hnext a.length 0 (by simp)
 have hn := ha.n
 have q1 := totW_ok H.toHasL a e (by omega) ha.s
 have q2 := rtotW_ok H.toHasL a e (by omega) ha.s
 have q3 := lsame_ok H.toHasV2 a a e e (by omega) ha.m
 rw [sameL_rfl, decide_eq_true rfl] at q3
 generalize tot a = T at *
 simp only [w599_K1, vwH] at h
 simp at h
 simp only [w599_K0, vwH]; rw [ck_unf w599_B0.eq_1]
 simp (disch := omega) [q1, q2, q3, h, wI64, H.inl, inlB, H.pp, ppB]
theorem fnd0 {ks : List Kd} : ∀ (l : List En) (i : Nat), (∀ e ∈ l, GoodE ks e) → fndF 0 i l < 0
 | [], _, _ => by simp [fndF]
 | e :: r, i, h => by
  have := (h e (by simp)).i.k
  rw [fndF, if_neg (by omega)]
  exact fnd0 r (i + 1) fun x hx => h x (by simp [hx])
theorem small_w (b : Bs) : Small (wordsN b) := .mk _ (by simp [wordsN]) (by simp [wordsN]) (by simp [wordsN])
mutual
theorem mk_small (x : It) (hx : x.m.length ≤ 8) : ∀ (p : Pt), Okp p → ∀ n ∈ mk x p, Small n
 | ⟨k, t, y, s, se, tx, ch, ce⟩, h => by
  have ho : pOne ⟨k, t, y, s, se, tx, ch, ce⟩ = true := by cases h; assumption
  have hk := pOne_k ho
  have hs := (pOne_s ho).1
  have hc := pOne_len ho
  have hm : ∀ m ∈ ch, Okp m := by cases h; assumption
  have ih := mks_small x hx ch hm
  have hl := mks_len x hx ch
  simp only at hk hs hc
  rw [mk]
  rcases hk with rfl | rfl | rfl | rfl | rfl
  · intro n hn
    simp only [if_true, List.mem_cons, List.not_mem_nil, or_false] at hn
    rw [hn]
    exact .mk _ (by simp; omega) (by simp; omega) ih
  · intro n hn
    simp at hn
    rw [hn]; exact small_w _
  · intro n hn
    simp at hn
    rw [hn]; exact small_w _
  · intro n hn
    simp at hn
    rw [hn]; exact small_w _
  · intro n hn
    simp at hn
    obtain ⟨m, _, rfl⟩ := hn
    exact .mk _ (by simp; omega) (by simp) (by simp; exact small_w _)
theorem mks_small (x : It) (hx : x.m.length ≤ 8) : ∀ (l : List Pt), (∀ m ∈ l, Okp m) → ∀ n ∈ mks x l, Small n
 | [], _ => by rw [mks]; simp
 | p :: r, h => by
  rw [mks]
  intro n hn
  rcases List.mem_append.1 hn with q | q
  · exact mk_small x hx p (h p (by simp)) n q
  · exact mks_small x hx r (fun m hm => h m (by simp [hm])) n q
end
theorem mkN_small (x : It) (hx : x.m.length ≤ 8) (p : Pt) (h : Okp p) : Small (mkN x p) := by
 have := mk_small x hx p h
 unfold mkN
 cases h1 : mk x p with
 | nil => exact .mk _ (by simp [zN]) (by simp [zN]) (by simp [zN])
 | cons n r => rw [h1] at this; exact this n (by simp)
theorem viewslaw_ok (H : HasVw C) (hone : ∀ q : Q4, QIn q → ∃ i : It, FnW C 422 [.agg (eQ q)] = some (eIt i) ∧ Good i) (hlives : FnW C 119 [] = some (.bool true))
 (q : List Q4) (qe : Bool) (hq : ∀ x ∈ q, QIn x) (z : List Int) (ze : Bool) (hz : ∀ s ∈ z, 0 ≤ s ∧ s ≤ 255) (hzl : z.length < 9223372036854775808) (r : Int) (hr : 0 ≤ r ∧ r ≤ 255)
 (a b : List En) (e g : Bool) (ha : ∀ x ∈ a, (-9223372036854775808 ≤ x.s ∧ x.s ≤ 9223372036854775807) ∧ x.i.m.length ≤ 9223372036854775807)
 (hb : ∀ x ∈ b, (-9223372036854775808 ≤ x.s ∧ x.s ≤ 9223372036854775807) ∧ x.i.m.length ≤ 9223372036854775807) (at_ : Int) :
 FnW C 599 [.agg [.ro 4 (q.map eQ) qe, .ro 1 (z.map eU8) ze, .int .u8 r], .agg [.ro 6 (a.map eEn) e, .ro 6 (b.map eEn) g], .int .i64 at_] = some (.bool true) := by
 obtain ⟨R, f, hof, hl, hg, hn⟩ := lof_ok H.toHasG hone q qe hq z ze hz hzl r hr
 have hck := ck_good r hr R (by omega) hg hn
 have hin : ∀ x ∈ R, EnIn x := fun x hx => (hg x hx).en
 have hru := ru_in r
 rw [fnW_eq H.f599 rfl]
 by_cases c1 : a.length ≤ 40
 · have c1' : ¬ (40 : Int) < a.length := by omega
   by_cases c2 : b.length ≤ 40
   · have c2' : ¬ (40 : Int) < b.length := by omega
     have ea : EnS a := ⟨c1, fun x hx => (ha x hx).1, fun x hx => (ha x hx).2⟩
     have eb : EnS b := ⟨c2, fun x hx => (hb x hx).1, fun x hx => (hb x hx).2⟩
     have key := vw_0 H R a b f e g ea (vw_1 H R a b f e g eb (vw_end H hlives R a b f e g hl (fnd0 R 0 hg) ea eb))
     simp only [w599_K0, vwH] at key
     try simp at key
     by_cases c3 : at_ < 0 ∨ (R.length : Int) ≤ at_
     · have ht := tree_rng H.toHasTr (kindsOf r) true 12 hru R f (by omega) hin hck at_ c3
       generalize kindsOf r = ks at *
       by_cases c4 : at_ < 0
       · simp (disch := omega) [w599, hof, c1, c1', c2, c2', ht, c4, key, wI64, H.inl, inlB, H.pp, ppB]
       · have c5 : (R.length : Int) ≤ at_ := by omega
         simp (disch := omega) [w599, hof, c1, c1', c2, c2', ht, c4, c5, key, wI64, H.inl, inlB, H.pp, ppB]
     · obtain ⟨j, rfl⟩ : ∃ j : Nat, at_ = j := ⟨at_.toNat, by omega⟩
       have hj : j < R.length := by omega
       have gj := hg _ (List.getElem_mem hj)
       have ht : R[j].i.t < (kindsOf r).length := by have := gj.i.t; rw [(ks_in r hr).l]; omega
       have h1 := tree_at H.toHasTr (kindsOf r) true 12 hru R f (by omega) hin hck j hj ht
       obtain ⟨tn, htn⟩ : ∃ tn : Nat, R[j].i.t = tn := ⟨R[j].i.t.toNat, by have := gj.i.t; omega⟩
       have htl : tn < (kindsOf r).length := by omega
       have hf := hru.f _ (List.getElem_mem htl)
       have h2 := rRender_ok H.toHasZ (kindsOf r)[tn].p hf R[j].i gj.en.i.k 12
       have hz0 := (itE_rnd gj.ok).2
       rw [htn, kdAt_get htl] at hz0 h1
       have hsm : Small (rndN (kindsOf r)[tn].p R[j].i 12) := by
        unfold rndN; rw [if_pos hz0]
        exact mkN_small _ gj.i.l _ (rndE_okp hf hz0)
       have h3 := nsame_ok H.toHasNs hsm (rndR (kindsOf r)[tn].p R[j].i 12) (rnd_z _ hf _ _)
       rw [hz0] at h1 h2
       generalize rndN (kindsOf r)[tn].p R[j].i 12 = N1 at *
       generalize rndR (kindsOf r)[tn].p R[j].i 12 = N2 at *
       have c4 : ¬ ((j : Int) < 0) := by omega
       have c5 : ¬ ((R.length : Int) ≤ j) := by omega
       rw [Pt.c_eq] at h2
       rw [Nd.c_eq] at h1 h2 h3
       rw [Nd.c_eq N2] at h3
       simp only [eIt, htn] at h2
       generalize kindsOf r = ks at *
       simp (disch := omega) [w599, hof, c1, c1', c2, c2', h1, h2, h3, c4, c5, hj, htn, htl, key, wI64, H.inl, inlB, H.pp, ppB]
   · have c2' : (40 : Int) < b.length := by omega
     simp (disch := omega) [w599, hof, c1, c1', c2, c2', hlives, wI64, H.inl, inlB, H.pp, ppB]
 · have c1' : (40 : Int) < a.length := by omega
   simp (disch := omega) [w599, hof, c1, c1', hlives, wI64, H.inl, inlB, H.pp, ppB]
end Go.D
end
