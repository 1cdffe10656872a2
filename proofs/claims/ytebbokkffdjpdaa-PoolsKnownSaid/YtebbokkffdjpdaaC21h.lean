/- What the law PoolsKnown computes. No conditions. -/
import Derived.Test.YtebbokkffdjpdaaC21g
namespace Go.C21
open Go Go.Pav Go.Pw P21
set_option maxRecDepth 10000
set_option maxHeartbeats 4000000
attribute [-simp] List.getElem_cons_drop
variable {C : WProg} (H : Has C)
include H

def rg (i : Nat) : List Int := (List.range i).map Int.ofNat

omit H in
theorem rg_succ (i : Nat) : rg (i + 1) = rg i ++ [(i : Int)] := by simp [rg, List.range_succ]
omit H in
theorem rg_len (i : Nat) : (rg i).length = i := by simp [rg]

def r30 : List Int := (rg 100).drop 70
def r29 : List Int := r30.take 29

theorem known_main (bs : List Int) (hb : bs = [65536]) (hlives : FnW C 18 [] = some (.bool true)) :
    CK C 0 (pureFin [.tmp 0]) [] w4_c0 ⟨[(5, .ptr 0 0 0)], [(0, .cells 2 [[L1 bs true, .ro 1 [[L1 (rg 100) true]] true]] true true)], 1⟩ = some (.bool true) := by
  have ht := trim_ok H bs true [(rg 100, true)] true 30 (by decide)
  have c1 : chk bs [(rg 100, true)] = 0 := by rw [hb]; decide
  have c2 : List.map (tr (Int.toNat 30)) [(rg 100, true)] = [(r30, true)] := by decide
  have c3 : gone (Int.toNat 30) [(rg 100, true)] = rg 70 := by decide
  rw [c1, c2, c3] at ht
  have hp := pop_ok H bs true [(r30, true)] true 0
  have d1 : ofE bs [(r30, true)] 0 = 0 := by rw [hb]; decide
  have d2 : withR [(r30, true)] (Int.toNat 0) ((([(r30, true)] : List (List Int × Bool))[Int.toNat 0]?.getD ([], true)).1.take ((([(r30, true)] : List (List Int × Bool))[Int.toNat 0]?.getD ([], true)).1.length - 1)) 0 = [(r29, true)] := by decide
  have d3 : ((([(r30, true)] : List (List Int × Bool))[Int.toNat 0]?.getD ([], true)).1[(([(r30, true)] : List (List Int × Bool))[Int.toNat 0]?.getD ([], true)).1.length - 1]?.getD 0) = 99 := by decide
  have d4 : ¬ (([(r30, true)] : List (List Int × Bool))[Int.toNat 0]?.getD ([], true)).1.length = 0 := by decide
  rw [d1, d2, d3, if_pos rfl, if_neg d4] at hp
  have hl := len_ok H bs true [(r29, true)] true 0
  have e1 : ofE bs [(r29, true)] 0 = 0 := by rw [hb]; decide
  have e2 : (([(r29, true)] : List (List Int × Bool))[Int.toNat 0]?.getD ([], true)).1.length = 29 := by decide
  rw [e1, e2, if_pos rfl] at hl
  obtain ⟨r, hr⟩ : ∃ r, r = rg 70 := ⟨_, rfl⟩
  have l70 : r.length = 70 := by rw [hr]; exact rg_len 70
  have g69 : r[69]'(by omega) = 69 := by subst hr; rfl
  rw [← hr] at ht
  simp [eP] at ht hp hl
  rw [ck_unf w4_c0.eq_1]
  simp (disch := omega) [ht, hp, hl, l70, hlives, H.inl, g69, wI64]

theorem known_loop (bs : List Int) (hb : bs = [65536]) (hlives : FnW C 18 [] = some (.bool true)) : ∀ n i : Nat, n + i = 100 →
    w4_K0 C ⟨[(9, .int .i64 i), (5, .ptr 0 0 0)], [(0, .cells 2 [[L1 bs true, .ro 1 [[L1 (rg i) true]] true]] true true)], 1⟩ = some (.bool true) := by
  intro n
  induction n with
  | zero =>
    intro i hi
    obtain rfl : i = 100 := by omega
    simp only [w4_K0]; rw [ck_unf w4_B0.eq_1]
    have := known_main H bs hb hlives
    simp [this]
  | succ n ih =>
    intro i hi
    have := ih (i + 1) (by omega)
    simp only [w4_K0] at this ⊢; rw [ck_unf w4_B0.eq_1]
    have hp := push_ok H bs true [(rg i, true)] true 0 i
    have hi2 : ((rg i).length : Int) ≤ 65536 := by rw [rg_len]; omega
    have c1 : chk bs [(rg i, true)] = 0 := by rw [hb]; simp [chk, allOk, okP, hi2]
    have hbl : bs.length = 1 := by rw [hb]; rfl
    have c2 : ofE bs [(rg i, true)] 0 = 0 := by simp [ofE, c1, hbl]
    have c3 : bs[0]?.getD 0 = 65536 := by rw [hb]; rfl
    have h5 : ¬ (i : Int) = 65536 := by omega
    simp [eP, c2, c3, h5, rg_len, withR] at hp
    rw [rg_succ] at this
    have h3 : (i : Int) < 100 := by omega
    simp at this
    simp (disch := omega) [h3, wI64, hp, this, H.inl]

theorem known_ok (h4 : C.fns.get 4 = some w4) (hlives : FnW C 18 [] = some (.bool true)) : FnW C 4 [] = some (.bool true) := by
  rw [fnW_eq h4 rfl]
  have n8 := new_ok H [0, 0, 0, 0, 0, 0, 0, 0] true
  have n9 := new_ok H [0, 0, 0, 0, 0, 0, 0, 0, 0] true
  have n1 := new_ok H [65536] true
  have n2 := new_ok H [65537] true
  simp [L1, eP, chk, allOk, b01, okP] at n8 n9 n1 n2
  have := known_loop H [65536] rfl hlives 100 0 rfl
  simp only [w4_K0] at this
  simp [rg, L1] at this
  simp (disch := omega) [w4, H.inl, n8, n9, n1, n2, wI64, this]

end Go.C21
