/- Part of the theory that the claims of this work use: C21n, C21j. No conditions of its own. -/
import Derived.Test.YtebbokkffdjpdaaT4
section
set_option linter.unusedSimpArgs false
set_option linter.unusedVariables false
/- The first loop of PoolsEach. No conditions. -/
namespace Go.C21
open Go Go.Pav Go.Pw P21
set_option maxRecDepth 10000
set_option maxHeartbeats 4000000
attribute [-simp] List.getElem_cons_drop
variable {C : WProg} (H : Has C)
include H

omit H in
theorem chk_withR {B : List Int} {rs : List (List Int × Bool)} {k : Nat} {row : List Int} (hc : chk B rs = 0) (hr : ∀ b, B[k]? = some b → (row.length : Int) ≤ b) : chk B (withR rs k row 0) = 0 := by
  have h1 := withR_fst rs k 0 row
  rw [Nat.zero_add] at h1
  rw [okp_chk, h1]
  exact (okp_chk.1 hc).set hr

omit H in
theorem perm_same {rs : List (List Int × Bool)} {k : Nat} {G : List Int} {q : Nat} (h : k < rs.length) (hp : (G ++ cat rs).Perm (rg q)) : ((G ++ [(q : Int)]) ++ cat (withR rs k rs[k].1 0)).Perm (rg (q + 1)) := by
  have h1 : (cat (withR rs k rs[k].1 0)).Perm (cat rs) := (List.perm_append_left_iff _).1 (cat_withR rs k rs[k].1 h)
  rw [rg_succ, List.append_assoc]
  refine (List.Perm.append_left G ((List.perm_append_comm).trans (List.Perm.append_right _ h1))).trans ?_
  rw [← List.append_assoc]
  exact List.Perm.append_right _ hp

omit H in
theorem perm_push {rs : List (List Int × Bool)} {k : Nat} {G : List Int} {q : Nat} (h : k < rs.length) (hp : (G ++ cat rs).Perm (rg q)) : (G ++ cat (withR rs k (rs[k].1 ++ [(q : Int)]) 0)).Perm (rg (q + 1)) := by
  have h0 := cat_withR rs k (rs[k].1 ++ [(q : Int)]) h
  rw [List.append_assoc] at h0
  have h1 := (List.perm_append_left_iff _).1 h0
  rw [rg_succ]
  refine (List.Perm.append_left G (h1.trans List.perm_append_comm)).trans ?_
  rw [← List.append_assoc]
  exact List.Perm.append_right _ hp

omit H in
theorem perm_pop0 {rs : List (List Int × Bool)} {k : Nat} {G : List Int} {q : Nat} (h : k < rs.length) (h0 : rs[k].1.length = 0) (hp : (G ++ cat rs).Perm (rg q)) : (G ++ cat (withR rs k [] 0)).Perm (rg q) := by
  have h1 := cat_withR rs k [] h
  rw [List.length_eq_zero_iff.1 h0] at h1
  exact (List.Perm.append_left G h1).trans hp

omit H in
theorem perm_pop {rs : List (List Int × Bool)} {k : Nat} {G : List Int} {q : Nat} (h : k < rs.length) (h0 : ¬ rs[k].1.length = 0) (hp : (G ++ cat rs).Perm (rg q)) :
    ((G ++ [rs[k].1[rs[k].1.length - 1]?.getD 0]) ++ cat (withR rs k (rs[k].1.take (rs[k].1.length - 1)) 0)).Perm (rg q) := by
  have h1 := cat_withR rs k (rs[k].1.take (rs[k].1.length - 1)) h
  have e : rs[k].1 = rs[k].1.take (rs[k].1.length - 1) ++ [rs[k].1[rs[k].1.length - 1]?.getD 0] := by
    rw [List.getElem?_eq_getElem (by omega), Option.getD_some, ← List.take_succ_eq_append_getElem (by omega), List.take_of_length_le (by omega)]
  have h2 : ([rs[k].1[rs[k].1.length - 1]?.getD 0] ++ cat (withR rs k (rs[k].1.take (rs[k].1.length - 1)) 0)).Perm (cat rs) := by
    refine (List.perm_append_left_iff (rs[k].1.take (rs[k].1.length - 1))).1 ?_
    rw [← List.append_assoc, ← e]
    exact h1
  rw [List.append_assoc]
  exact (List.Perm.append_left G h2).trans hp

theorem each_loop (hlives : FnW C 18 [] = some (.bool true)) (h6 : C.fns.get 6 = some w6) (bs : List Int) (e : Bool) (cs : List (Int × Int × Int)) (f : Bool) (hb : ∀ x ∈ bs, 0 ≤ x ∧ x ≤ 255)
    (hcs : ∀ o ∈ cs, (0 ≤ o.1 ∧ o.1 ≤ 255) ∧ (0 ≤ o.2.1 ∧ o.2.1 ≤ 255) ∧ (0 ≤ o.2.2 ∧ o.2.2 ≤ 255)) (B : List Int) (hB : B = bnd bs) : ∀ n i, n + i = min cs.length 40 → ∀ (rs : List (List Int × Bool)) (G : List Int) (q : Nat), chk B rs = 0 → (G ++ cat rs).Perm (rg q) → q ≤ i →
    w2_K1 C ⟨[(7, .int .i64 i), (6, .int .i64 q), (5, .sl 0 1 0 G.length G.length false), (3, .ptr 1 0 0), (1, .ptr 2 0 0)],
      [(0, .cells 1 (G.map eI) true true), (1, .cells 2 [[L1 B true, .ro 1 (rs.map eR) true]] true true), (2, .cells 2 [[.ro 1 (bs.map eU8) e, .ro 3 (cs.map eO) f]] true true)], 3⟩ = some (.bool true) := by
  intro n
  induction n with
  | zero =>
    intro i hi rs G q hc hp hq
    simp only [w2_K1]; rw [ck_unf w2_B1.eq_1]
    have hm := each_main H hlives B rs G q hc hp (by omega)
    by_cases c : i < cs.length
    · have c2 : ¬ (i : Int) < 40 := by omega
      simp [c, c2, hm]
    · simp [c, hm]
  | succ n ih =>
    intro i hi rs G q hc hp hq
    have c1 : i < cs.length := by omega
    have c2 : (i : Int) < 40 := by omega
    have ho := hcs _ (List.getElem_mem c1)
    obtain ⟨ex, hbd⟩ := bounds_ok h6 bs e cs f hb
    rw [← hB] at hbd
    have hB1 : 0 < B.length := by rw [hB]; simp [bnd]
    have hB2 : B.length ≤ 4 := by rw [hB]; simp [bnd]; omega
    have hB3 : B ≠ [] := by intro h; rw [h] at hB1; simp at hB1
    have hB4 : ¬ (B.length : Int) = 0 := by omega
    simp only [w2_K1]; rw [ck_unf w2_B1.eq_1]
    obtain ⟨k, hk⟩ : ∃ k : Nat, cs[i].2.1 % (B.length : Int) = k := ⟨(cs[i].2.1 % (B.length : Int)).toNat, by have := Int.emod_nonneg cs[i].2.1 hB4; omega⟩
    have hkB : k < B.length := by have := Int.emod_lt_of_pos cs[i].2.1 (show (0 : Int) < B.length by omega); omega
    have hok := okp_chk.1 hc
    have hrl : rs.length = B.length := by have := hok.2.2.1; simpa using this
    have hkr : k < rs.length := by omega
    have hof : ofE B rs k = 0 := by
      have q1 : ¬ (k : Int) < 0 := by omega
      have q2 : ¬ (B.length : Int) ≤ k := by omega
      simp [ofE, hc, q1, q2]
    have hlen := hok.2.2.2 k B[k] rs[k].1 (List.getElem?_eq_getElem hkB) (by simp [List.getElem?_eq_getElem hkr])
    have hG : G.length ≤ q := by have := hp.length_eq; rw [rg_len, List.length_append] at this; omega
    have hfit : (G.length + 1) * 9 ≤ 35184372088832 := by omega
    have push_ := push_ok H B true rs true k q
    rw [hof, if_pos rfl] at push_
    simp only [Int.toNat_natCast, List.getElem?_eq_getElem hkr, List.getElem?_eq_getElem hkB, Option.getD_some] at push_
    by_cases k1 : cs[i].1 % 8 < 4
    · by_cases k2 : (rs[k].1.length : Int) = B[k]
      · rw [if_pos k2] at push_
        have hp1 : ((G ++ [(q : Int)]) ++ cat (withR rs k rs[k].1 0)).Perm (rg (q + 1)) := perm_same hkr hp
        have hc1 : chk B (withR rs k rs[k].1 0) = 0 := chk_withR hc fun b e => by rw [List.getElem?_eq_getElem hkB] at e; cases e; exact hlen.2.2
        have := ih (i + 1) (by omega) _ (G ++ [(q : Int)]) (q + 1) hc1 hp1 (by omega)
        simp only [w2_K1] at this
        simp at this push_
        simp (disch := omega) [c1, c2, wI64, H.inl, hbd, Int.tmod_eq_emod_of_nonneg, k1, hB3, hk, push_, hfit, this]
      · rw [if_neg k2] at push_
        have hp1 : (G ++ cat (withR rs k (rs[k].1 ++ [(q : Int)]) 0)).Perm (rg (q + 1)) := perm_push hkr hp
        have hc1 : chk B (withR rs k (rs[k].1 ++ [(q : Int)]) 0) = 0 := chk_withR hc fun b e => by rw [List.getElem?_eq_getElem hkB] at e; cases e; have := hlen.2.2; simp; omega
        have := ih (i + 1) (by omega) _ G (q + 1) hc1 hp1 (by omega)
        simp only [w2_K1] at this
        simp at this push_
        simp (disch := omega) [c1, c2, wI64, H.inl, hbd, Int.tmod_eq_emod_of_nonneg, k1, hB3, hk, push_, this]
    · by_cases k3 : cs[i].1 % 8 < 7
      · have pop_ := pop_ok H B true rs true k
        rw [hof, if_pos rfl] at pop_
        simp only [Int.toNat_natCast, List.getElem?_eq_getElem hkr, Option.getD_some] at pop_
        by_cases k4 : rs[k].1.length = 0
        · rw [if_pos k4] at pop_
          have hc1 : chk B (withR rs k [] 0) = 0 := chk_withR hc fun b e => by rw [List.getElem?_eq_getElem hkB] at e; cases e; have := hlen.2.2; simp; omega
          have := ih (i + 1) (by omega) _ G q hc1 (perm_pop0 hkr k4 hp) (by omega)
          simp only [w2_K1] at this
          simp at this pop_
          simp (disch := omega) [c1, c2, wI64, H.inl, hbd, Int.tmod_eq_emod_of_nonneg, k1, k3, hB3, hk, pop_, this]
        · rw [if_neg k4] at pop_
          have hc1 : chk B (withR rs k (rs[k].1.take (rs[k].1.length - 1)) 0) = 0 := chk_withR hc fun b e => by rw [List.getElem?_eq_getElem hkB] at e; cases e; have := hlen.2.2; simp; omega
          have hp1 := perm_pop hkr k4 hp
          generalize rs[k].1[rs[k].1.length - 1]?.getD 0 = z at hp1 pop_
          have := ih (i + 1) (by omega) _ (G ++ [z]) q hc1 hp1 (by omega)
          simp only [w2_K1] at this
          simp at this pop_
          simp (disch := omega) [c1, c2, wI64, H.inl, hbd, Int.tmod_eq_emod_of_nonneg, k1, k3, hB3, hk, pop_, hfit, this]
      · obtain ⟨t, ht⟩ : ∃ t : Nat, cs[i].2.2 % 4 = t := ⟨(cs[i].2.2 % 4).toNat, by omega⟩
        have trim_ := trim_ok H B true rs true t (by omega)
        have q1 : ¬ (t : Int) < 0 := by omega
        rw [hc, if_pos rfl, if_neg q1] at trim_
        simp only [Int.toNat_natCast] at trim_
        have hgc := gone_cat t rs
        have hc1 : chk B (rs.map (tr t)) = 0 := by
          rw [okp_chk, List.map_map]
          have := hok.map (g := fun l => l.drop (l.length - t)) (fun l => by simp)
          simpa [List.map_map, Function.comp_def, tr] using this
        have hp1 : ((G ++ gone t rs) ++ cat (rs.map (tr t))).Perm (rg q) := by
          rw [List.append_assoc]
          exact (List.Perm.append_left G hgc).trans hp
        have hlen2 := hp1.length_eq
        rw [rg_len, List.length_append, List.length_append] at hlen2
        generalize gone t rs = Z at hp1 trim_ hlen2
        have := ih (i + 1) (by omega) _ (G ++ Z) q hc1 hp1 (by omega)
        simp only [w2_K1] at this
        cases Z with
        | nil =>
          simp at this trim_
          simp (disch := omega) [c1, c2, wI64, H.inl, hbd, Int.tmod_eq_emod_of_nonneg, k1, k3, hB3, hk, ht, trim_, this]
        | cons z Z =>
          simp only [List.length_cons] at hlen2
          have hfit2 : (G.length + (Z.length + 1)) * 9 ≤ 35184372088832 := by omega
          simp at this trim_
          simp (disch := omega) [c1, c2, wI64, H.inl, hbd, Int.tmod_eq_emod_of_nonneg, k1, k3, hB3, hk, ht, trim_, hfit2, this]
end Go.C21
end

section
set_option linter.unusedSimpArgs false
set_option linter.unusedVariables false
/- What the law PoolsEach computes. No conditions. -/
namespace Go.C21
open Go Go.Pav Go.Pw P21
set_option maxRecDepth 10000
set_option maxHeartbeats 4000000
attribute [-simp] List.getElem_cons_drop
variable {C : WProg} (H : Has C)
include H

omit H in
theorem bnd_ok (bs : List Int) : chk (bnd bs) ((bnd bs).map fun _ => ([], true)) = 0 := by
  rw [okp_chk]
  refine ⟨by simp [bnd], by simp [bnd]; omega, by simp, fun i b l e1 e2 => ?_⟩
  simp only [List.map_map, List.getElem?_map, Option.map_eq_some_iff] at e2
  obtain ⟨_, _, rfl⟩ := e2
  have hm : b ∈ bnd bs := List.mem_of_getElem? e1
  simp only [bnd, List.mem_cons, List.mem_map] at hm
  rcases hm with rfl | ⟨x, _, rfl⟩
  · simp
  · have h1 := Int.emod_nonneg x (show (4 : Int) ≠ 0 by decide)
    have h2 := Int.emod_lt_of_pos x (show (0 : Int) < 4 by decide)
    exact ⟨h1, by omega, by simpa using h1⟩

theorem each_ok (h2 : C.fns.get 2 = some w2) (h6 : C.fns.get 6 = some w6) (hlives : FnW C 18 [] = some (.bool true)) (bs : List Int) (e : Bool) (cs : List (Int × Int × Int)) (f : Bool) (hb : ∀ x ∈ bs, 0 ≤ x ∧ x ≤ 255)
    (hcs : ∀ o ∈ cs, (0 ≤ o.1 ∧ o.1 ≤ 255) ∧ (0 ≤ o.2.1 ∧ o.2.1 ≤ 255) ∧ (0 ≤ o.2.2 ∧ o.2.2 ≤ 255)) :
    FnW C 2 [.agg [.ro 1 (bs.map eU8) e, .ro 3 (cs.map eO) f]] = some (.bool true) := by
  obtain ⟨ex, hbd⟩ := bounds_ok h6 bs e cs f hb
  have hc := bnd_ok bs
  have hl : (bnd bs).length ≠ 0 := by simp [bnd]
  obtain ⟨B, hB⟩ : ∃ B, B = bnd bs := ⟨_, rfl⟩
  rw [← hB] at hbd hc hl
  obtain ⟨rs0, hrs0⟩ : ∃ rs : List (List Int × Bool), B.map (fun _ => (([] : List Int), true)) = rs := ⟨_, rfl⟩
  have hn := new_ok H B ex
  rw [hrs0] at hn hc
  rw [hc, if_pos rfl] at hn
  have hcat : cat rs0 = [] := by rw [← hrs0]; simp [cat]
  have := each_loop H hlives h6 bs e cs f hb hcs B hB (min cs.length 40) 0 rfl rs0 [] 0 hc (by rw [hcat]; exact List.Perm.refl _) (Nat.le_refl _)
  simp only [w2_K1] at this
  simp at this
  rw [fnW_eq h2 rfl]
  simp (disch := omega) [w2, H.inl, hbd, hn, hl, this]
end Go.C21
end

