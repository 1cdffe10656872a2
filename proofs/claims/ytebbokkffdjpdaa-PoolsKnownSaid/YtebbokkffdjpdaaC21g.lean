/- Part of the theory that the claims of this work use: C21g. No conditions of its own. -/
import Derived.Test.YtebbokkffdjpdaaC21f
namespace Go.C21
open Go Go.Pav Go.Pw P21
set_option maxRecDepth 10000
set_option maxHeartbeats 4000000
attribute [-simp] List.getElem_cons_drop
variable {C : WProg} (H : Has C)
include H

theorem errors_loop (hlives : FnW C 18 [] = some (.bool true)) (bs : List Int) (e : Bool) (rs : List (List Int × Bool)) (f : Bool) (kind to : Int) (h2 : rs.length ≤ 10)
    (hmain : CK C 0 (pureFin [.tmp 6]) [] w3_c0 ⟨[(7, .ptr 0 0 0), (3, .ptr 1 0 0), (2, .int .i64 to), (1, .int .i64 kind)], [(0, .cells 2 [[L1 bs e, .ro 1 (rs.map eR) f]] true true), (1, .cells 2 [[L1 bs e, .ro 1 (rs.map eR) f]] true true)], 2⟩ = some (.bool true)) : ∀ n i, n + i = rs.length →
    w3_K0 C ⟨[(8, .int .i64 i), (7, .ptr 0 0 0), (3, .ptr 1 0 0), (2, .int .i64 to), (1, .int .i64 kind)], [(0, .cells 2 [[L1 bs e, .ro 1 (rs.map eR) f]] true true), (1, .cells 2 [[L1 bs e, .ro 1 (rs.map eR) f]] true true)], 2⟩ = some (.bool true) := by
  intro n
  induction n with
  | zero =>
    intro i hi
    simp only [w3_K0]; rw [ck_unf w3_B0.eq_1]
    have h3 : ¬ i < rs.length := by omega
    simp [h3, hmain]
  | succ n ih =>
    intro i hi
    have h3 : i < rs.length := by omega
    have := ih (i + 1) (by omega)
    simp only [w3_K0] at this ⊢; rw [ck_unf w3_B0.eq_1]
    simp at this
    by_cases c : 20 < rs[i].1.length
    · simp (disch := omega) [h3, wI64, this, c, hlives, H.inl]
    · simp (disch := omega) [h3, wI64, this, c]

theorem errors_main (hlives : FnW C 18 [] = some (.bool true)) (bs : List Int) (e : Bool) (rs : List (List Int × Bool)) (f : Bool) (kind to : Int) (ht : to < 9223372036854775808) (h1 : bs.length ≤ 10) :
    CK C 0 (pureFin [.tmp 6]) [] w3_c0 ⟨[(7, .ptr 0 0 0), (3, .ptr 1 0 0), (2, .int .i64 to), (1, .int .i64 kind)], [(0, .cells 2 [[L1 bs e, .ro 1 (rs.map eR) f]] true true), (1, .cells 2 [[L1 bs e, .ro 1 (rs.map eR) f]] true true)], 2⟩ = some (.bool true) := by
  obtain ⟨rs0, hrs0⟩ : ∃ rs : List (List Int × Bool), bs.map (fun _ => (([] : List Int), true)) = rs := ⟨_, rfl⟩
  have k1 : List.replicate bs.length [AV.ro 1 [] true] = rs0.map eR := by
    rw [← hrs0, List.map_map]
    exact (List.map_const' ..).symm
  have k2 : rs0.length = bs.length := by rw [← hrs0]; simp
  have k3 : List.take bs.length (List.map eR rs0) = List.map eR rs0 := List.take_of_length_le (by simp [k2])
  have n1 := new_ok H bs e
  rw [hrs0] at n1
  have a1 := all_ok H bs e rs f
  have t1 := trim_ok H bs e rs f to ht
  have p1 := push_ok H bs e rs f kind 7
  have q1 := pop_ok H bs e rs f kind
  have l1 := len_ok H bs e rs f kind
  have r1 := rcheck_ok H bs e rs f
  have r2 := rcheck_ok H bs e rs0 true
  have cc : ∀ x y, chk x y = 0 ∨ chk x y = 1 := by
    intro x y; unfold chk b01; split <;> simp
  have cn := check_ok H bs e rs f
  rw [ck_unf w3_c0.eq_1]
  rcases cc bs rs0 with d0 | d0 <;> rcases cc bs rs with d | d
  · rw [d0] at r2 n1
    rw [d] at r1 cn a1 t1
    by_cases d2 : kind < 0 ∨ (bs.length : Int) ≤ kind
    · have o1 : ofE bs rs kind = 4 := by simp [ofE, d, d2]
      rw [o1] at p1 q1 l1
      by_cases d1 : to < 0
      · simp [d1] at n1 a1 t1 p1 q1 l1
        by_cases d3 : kind < 0
        · simp (disch := omega) [H.inl, r1, r2, cn, n1, a1, t1, p1, q1, l1, hlives, fits, k1, k2, k3, wI64, d1, d3]
        · have d4 : (bs.length : Int) ≤ kind := by omega
          simp (disch := omega) [H.inl, r1, r2, cn, n1, a1, t1, p1, q1, l1, hlives, fits, k1, k2, k3, wI64, d1, d3, d4]
      · simp [d1] at n1 a1 t1 p1 q1 l1
        by_cases d3 : kind < 0
        · simp (disch := omega) [H.inl, r1, r2, cn, n1, a1, t1, p1, q1, l1, hlives, fits, k1, k2, k3, wI64, d1, d3]
        · have d4 : (bs.length : Int) ≤ kind := by omega
          simp (disch := omega) [H.inl, r1, r2, cn, n1, a1, t1, p1, q1, l1, hlives, fits, k1, k2, k3, wI64, d1, d3, d4]
    · have o1 : ofE bs rs kind = 0 := by simp [ofE, d, d2]
      have d3 : ¬ kind < 0 := by omega
      have d4 : ¬ (bs.length : Int) ≤ kind := by omega
      rw [o1] at p1 q1 l1
      obtain ⟨pl, hpl⟩ : ∃ pl : List (List Int × Bool) × Bool, (if ((rs[kind.toNat]?.getD ([], true)).1.length : Int) = bs[kind.toNat]?.getD 0 then [eP bs true (withR rs kind.toNat (rs[kind.toNat]?.getD ([], true)).1 0) true, AV.bool true, AV.int .i64 0]
        else [eP bs true (withR rs kind.toNat ((rs[kind.toNat]?.getD ([], true)).1 ++ [7]) 0) true, .bool false, .int .i64 0]) = [eP bs true pl.1 true, .bool pl.2, .int .i64 0] := by
        split
        · exact ⟨(_, true), rfl⟩
        · exact ⟨(_, false), rfl⟩
      obtain ⟨ql, hql⟩ : ∃ ql : List (List Int × Bool) × Int × Bool, (if (rs[kind.toNat]?.getD ([], true)).1.length = 0 then [eP bs true (withR rs kind.toNat [] 0) true, AV.int .i64 0, AV.bool false, AV.int .i64 0]
        else [eP bs true (withR rs kind.toNat ((rs[kind.toNat]?.getD ([], true)).1.take ((rs[kind.toNat]?.getD ([], true)).1.length - 1)) 0) true, .int .i64 ((rs[kind.toNat]?.getD ([], true)).1[(rs[kind.toNat]?.getD ([], true)).1.length - 1]?.getD 0), .bool true, .int .i64 0]) =
          [eP bs true ql.1 true, .int .i64 ql.2.1, .bool ql.2.2, .int .i64 0] := by
        split
        · exact ⟨(_, _, _), rfl⟩
        · exact ⟨(_, _, _), rfl⟩
      rw [if_pos rfl, hpl] at p1
      rw [if_pos rfl, hql] at q1
      rw [if_pos rfl] at l1
      by_cases d1 : to < 0
      · simp [d1] at n1 a1 t1
        simp (disch := omega) [H.inl, r1, r2, cn, n1, a1, t1, p1, q1, l1, hlives, fits, k1, k2, k3, wI64, d1, d3, d4]
      · simp [d1] at n1 a1 t1
        simp (disch := omega) [H.inl, r1, r2, cn, n1, a1, t1, p1, q1, l1, hlives, fits, k1, k2, k3, wI64, d1, d3, d4]
  · rw [d0] at r2 n1
    have o1 : ofE bs rs kind = 1 := by simp [ofE, d]
    rw [d] at r1 cn a1 t1
    rw [o1] at p1 q1 l1
    simp at n1 a1 t1 p1 q1 l1
    simp (disch := omega) [H.inl, r1, r2, cn, n1, a1, t1, p1, q1, l1, hlives, fits, k1, k2, k3, wI64]
  · rw [d0] at r2 n1
    rw [d] at r1 cn a1 t1
    by_cases d2 : kind < 0 ∨ (bs.length : Int) ≤ kind
    · have o1 : ofE bs rs kind = 4 := by simp [ofE, d, d2]
      rw [o1] at p1 q1 l1
      by_cases d1 : to < 0
      · simp [d1] at n1 a1 t1 p1 q1 l1
        by_cases d3 : kind < 0
        · simp (disch := omega) [H.inl, r1, r2, cn, n1, a1, t1, p1, q1, l1, hlives, fits, k1, k2, k3, wI64, d1, d3]
        · have d4 : (bs.length : Int) ≤ kind := by omega
          simp (disch := omega) [H.inl, r1, r2, cn, n1, a1, t1, p1, q1, l1, hlives, fits, k1, k2, k3, wI64, d1, d3, d4]
      · simp [d1] at n1 a1 t1 p1 q1 l1
        by_cases d3 : kind < 0
        · simp (disch := omega) [H.inl, r1, r2, cn, n1, a1, t1, p1, q1, l1, hlives, fits, k1, k2, k3, wI64, d1, d3]
        · have d4 : (bs.length : Int) ≤ kind := by omega
          simp (disch := omega) [H.inl, r1, r2, cn, n1, a1, t1, p1, q1, l1, hlives, fits, k1, k2, k3, wI64, d1, d3, d4]
    · have o1 : ofE bs rs kind = 0 := by simp [ofE, d, d2]
      have d3 : ¬ kind < 0 := by omega
      have d4 : ¬ (bs.length : Int) ≤ kind := by omega
      rw [o1] at p1 q1 l1
      obtain ⟨pl, hpl⟩ : ∃ pl : List (List Int × Bool) × Bool, (if ((rs[kind.toNat]?.getD ([], true)).1.length : Int) = bs[kind.toNat]?.getD 0 then [eP bs true (withR rs kind.toNat (rs[kind.toNat]?.getD ([], true)).1 0) true, AV.bool true, AV.int .i64 0]
        else [eP bs true (withR rs kind.toNat ((rs[kind.toNat]?.getD ([], true)).1 ++ [7]) 0) true, .bool false, .int .i64 0]) = [eP bs true pl.1 true, .bool pl.2, .int .i64 0] := by
        split
        · exact ⟨(_, true), rfl⟩
        · exact ⟨(_, false), rfl⟩
      obtain ⟨ql, hql⟩ : ∃ ql : List (List Int × Bool) × Int × Bool, (if (rs[kind.toNat]?.getD ([], true)).1.length = 0 then [eP bs true (withR rs kind.toNat [] 0) true, AV.int .i64 0, AV.bool false, AV.int .i64 0]
        else [eP bs true (withR rs kind.toNat ((rs[kind.toNat]?.getD ([], true)).1.take ((rs[kind.toNat]?.getD ([], true)).1.length - 1)) 0) true, .int .i64 ((rs[kind.toNat]?.getD ([], true)).1[(rs[kind.toNat]?.getD ([], true)).1.length - 1]?.getD 0), .bool true, .int .i64 0]) =
          [eP bs true ql.1 true, .int .i64 ql.2.1, .bool ql.2.2, .int .i64 0] := by
        split
        · exact ⟨(_, _, _), rfl⟩
        · exact ⟨(_, _, _), rfl⟩
      rw [if_pos rfl, hpl] at p1
      rw [if_pos rfl, hql] at q1
      rw [if_pos rfl] at l1
      by_cases d1 : to < 0
      · simp [d1] at n1 a1 t1
        simp (disch := omega) [H.inl, r1, r2, cn, n1, a1, t1, p1, q1, l1, hlives, fits, k1, k2, k3, wI64, d1, d3, d4]
      · simp [d1] at n1 a1 t1
        simp (disch := omega) [H.inl, r1, r2, cn, n1, a1, t1, p1, q1, l1, hlives, fits, k1, k2, k3, wI64, d1, d3, d4]
  · rw [d0] at r2 n1
    have o1 : ofE bs rs kind = 1 := by simp [ofE, d]
    rw [d] at r1 cn a1 t1
    rw [o1] at p1 q1 l1
    simp at n1 a1 t1 p1 q1 l1
    simp (disch := omega) [H.inl, r1, r2, cn, n1, a1, t1, p1, q1, l1, hlives, fits, k1, k2, k3, wI64]

theorem errors_ok (h3 : C.fns.get 3 = some w3) (hlives : FnW C 18 [] = some (.bool true)) (bs : List Int) (e : Bool) (rs : List (List Int × Bool)) (f : Bool) (kind to : Int) (ht : to < 9223372036854775808) :
    FnW C 3 [eP bs e rs f, .int .i64 kind, .int .i64 to] = some (.bool true) := by
  rw [fnW_eq h3 rfl]
  by_cases c1 : 10 < bs.length
  · simp [w3, H.inl, c1, hlives]
  by_cases c2 : 10 < rs.length
  · simp [w3, H.inl, c1, c2, hlives]
  have := errors_loop H hlives bs e rs f kind to (by omega) (errors_main H hlives bs e rs f kind to ht (by omega)) rs.length 0 (by simp)
  simp only [w3_K0] at this
  simp at this
  simp [w3, H.inl, c1, c2, hlives, this]
end Go.C21
