/- Part of the theory that the claims of this work use: C21c. No conditions of its own. -/
import Derived.Test.YtebbokkffdjpdaaC21b
namespace Go.C21
open Go Go.Pav Go.Pw P21
set_option maxRecDepth 10000
set_option maxHeartbeats 4000000
attribute [-simp] List.getElem_cons_drop
variable {C : WProg} (H : Has C)
include H

omit H in
def fl (r : List Int × Bool) : List Int × Bool := (r.1, true)
omit H in
theorem withR_at : ∀ (rs : List (List Int × Bool)) (k : Nat) (row : List Int) (i : Nat), k < i → withR rs k row i = rs.map fl := by
  intro rs
  induction rs with
  | nil => intros; rfl
  | cons r rs ih => intro k row i h; simp [withR, fl, ih k row (i + 1) (by omega), show ¬ i = k by omega]
omit H in
theorem withR_mid : ∀ (pre : List (List Int × Bool)) (r : List Int × Bool) (post : List (List Int × Bool)) (row : List Int) (i : Nat), withR (pre ++ r :: post) (i + pre.length) row i = pre.map fl ++ (row, true) :: post.map fl := by
  intro pre
  induction pre with
  | nil => intro r post row i; simp [withR, withR_at post i row (i + 1) (by omega)]
  | cons a pre ih =>
    intro r post row i
    have := ih r post row (i + 1)
    simp only [List.cons_append, withR, List.map_cons, List.length_cons]
    rw [if_neg (by omega), show i + (pre.length + 1) = i + 1 + pre.length by omega, this]; rfl

omit H in
def tr (to : Nat) (r : List Int × Bool) : List Int × Bool := (r.1.drop (r.1.length - to), true)
omit H in
def gone (to : Nat) (rs : List (List Int × Bool)) : List Int := rs.flatMap fun r => r.1.take (r.1.length - to)

theorem trim_loop (bs : List Int) (rs : List (List Int × Bool)) (f : Bool) (to : Nat) (ht : (to : Int) < 9223372036854775808) (hb : bs.length ≤ 8) (h2 : rs.length ≤ 8) (hr : ∀ r ∈ rs, r.1.length ≤ 65536) : ∀ n i, n + i = rs.length → ∀ (e2 f2 : Bool) (pre rest : List (List Int × Bool)) (G : List Int),
    pre.length = i → rest.map (·.1) = (rs.drop i).map (·.1) → (∀ r ∈ pre, r.1.length ≤ 65536) → G.length ≤ 65536 * i →
    w12_K0 C ⟨[(24, .int .i64 i), (23, .int .i64 rs.length), (22, .ro 1 (rs.map eR) f), (5, .sl 0 1 0 G.length G.length false), (4, .ptr 1 0 0), (1, .int .i64 to)],
      [(0, .cells 1 (G.map eI) true true), (1, .cells 2 [[L1 bs e2, .ro 1 ((pre ++ rest).map eR) f2]] true true)], 2⟩ =
      some (.tup [if n = 0 then eP bs e2 pre f2 else eP bs true (pre.map fl ++ (rs.drop i).map (tr to)) true, L1 (G ++ gone to (rs.drop i)) true, .int .i64 0]) := by
  intro n
  induction n with
  | zero =>
    intro i hi e2 f2 pre rest G hp hrest hpre hG
    simp only [w12_K0]; rw [ck_unf w12_B0.eq_1]
    have h3 : ¬ i < rs.length := by omega
    have h4 : rs.drop i = [] := List.drop_eq_nil_of_le (by omega)
    have h5 : rest = [] := by rw [h4] at hrest; simpa using hrest
    have h6 := clip_ok H G false
    simp only [L1] at h6
    simp (disch := (first | omega | (simp; done) | (simp; omega))) [ck_unf w12_c0.eq_1, h3, h4, h5, gone, H.inl, List.take_of_length_le, h6]
  | succ n ih =>
    intro i hi e2 f2 pre rest G hp hrest hpre hG
    have h3 : i < rs.length := by omega
    have hri := hr _ (List.getElem_mem h3)
    rw [drop_cons h3] at hrest ⊢
    cases rest with
    | nil => simp at hrest
    | cons r rest =>
      simp only [List.map_cons, List.cons.injEq] at hrest
      obtain ⟨hr1, hrest⟩ := hrest
      have hcur : ∀ q ∈ pre ++ r :: rest, q.1.length ≤ 1000000 := by
        intro q hq
        rcases List.mem_append.1 hq with h | h
        · have := hpre q h; omega
        · have hm : q.1 ∈ (rs.drop i).map (·.1) := by
            rw [drop_cons h3, List.map_cons, ← hr1, ← hrest]
            exact List.mem_map_of_mem (f := (·.1)) h
          obtain ⟨q2, hq2, e⟩ := List.mem_map.1 hm
          have := hr q2 (List.mem_of_mem_drop hq2)
          rw [← e]; omega
      have hlen : (pre ++ r :: rest).length = rs.length := by
        have := congrArg List.length hrest
        simp at this
        simp; omega
      have hw : ∀ row g, row.length ≤ 1000000 → FnW C 25 [eP bs e2 (pre ++ r :: rest) f2, .int .i64 i, L1 row g] = some (eP bs true (pre.map fl ++ (row, true) :: rest.map fl) true) := by
        intro row g hg
        have := with_ok H bs e2 (pre ++ r :: rest) f2 i row g (by omega) (by omega) hcur hg
        rw [this, ← hp]
        have := withR_mid pre r rest row 0
        rw [Nat.zero_add] at this
        rw [this]
      obtain ⟨row, hrow⟩ : ∃ row, rs[i].1 = row := ⟨_, rfl⟩
      rw [hrow] at hri
      have hih := fun G' (hG' : G'.length ≤ 65536 * (i + 1)) => ih (i + 1) (by omega) true true (pre.map fl ++ [(row.drop (row.length - to), true)]) (rest.map fl) G' (by simp [hp]) (by
          rw [← hrest, List.map_map]; rfl) (by
          intro q hq
          rcases List.mem_append.1 hq with h | h
          · obtain ⟨q2, h2, rfl⟩ := List.mem_map.1 h
            exact hpre q2 h2
          · simp at h; subst h; simp; omega) hG'
      simp only [w12_K0] at hih ⊢
      have hfl : fl ∘ fl = fl := rfl
      have htr : tr to rs[i] = (row.drop (row.length - to), true) := by unfold tr; rw [hrow]
      have hgo : gone to (rs[i] :: rs.drop (i + 1)) = row.take (row.length - to) ++ gone to (rs.drop (i + 1)) := by
        unfold gone; rw [List.flatMap_cons, hrow]
      have hfin : (if n = 0 then eP bs true (pre.map fl ++ [(row.drop (row.length - to), true)]) true
          else eP bs true ((pre.map fl ++ [(row.drop (row.length - to), true)]).map fl ++ (rs.drop (i + 1)).map (tr to)) true) =
          eP bs true (pre.map fl ++ tr to rs[i] :: (rs.drop (i + 1)).map (tr to)) true := by
        rw [htr]
        split
        · rename_i hn
          have hd : rs.drop (i + 1) = [] := List.drop_eq_nil_of_le (by omega)
          rw [hd]; simp
        · simp [hfl, fl]
      rw [hgo, if_neg (by omega), List.map_cons, ← hfin, ← List.append_assoc]
      clear hfin
      generalize (if n = 0 then eP bs true (pre.map fl ++ [(row.drop (row.length - to), true)]) true
          else eP bs true ((pre.map fl ++ [(row.drop (row.length - to), true)]).map fl ++ (rs.drop (i + 1)).map (tr to)) true) = R at hih ⊢
      by_cases hm : row.length ≤ to
      · have h8 : row.length - to = 0 := by omega
        have hw2 := hw row rs[i].2 (by omega)
        have hih2 := hih G (by omega)
        rw [h8] at hih2
        rw [h8]
        have h9 : IntKind.i64.wrap ((row.length : Int) - to) = (row.length : Int) - to := wI64 (by omega) (by omega)
        have h10 : imax ((row.length : Int) - to) 0 = 0 := imax_r (by omega)
        rw [ck_unf w12_B0.eq_1]
        simp [L1, eP] at hih2 hw2
        simp (disch := (first | omega | (simp; done) | (simp; omega))) [h3, hrow, h9, h10, H.inl, hw2, List.take_of_length_le, hih2, wI64]
      · obtain ⟨m, hm2⟩ : ∃ m, row.length - to = m + 1 := ⟨row.length - to - 1, by omega⟩
        have h9 : IntKind.i64.wrap ((row.length : Int) - to) = ((m + 1 : Nat) : Int) := by rw [wI64 (by omega) (by omega)]; omega
        have h10 : imax ((m + 1 : Nat) : Int) 0 = ((m + 1 : Nat) : Int) := imax_l (by omega)
        cases row with
        | nil => simp at hm
        | cons a row =>
          rw [hm2] at hih ⊢
          have hmr : m ≤ row.length := by simp at hm2; omega
          have hih2 := hih (G ++ (a :: row).take (m + 1)) (by simp at hri ⊢; omega)
          have hw2 := hw ((a :: row).drop (m + 1)) rs[i].2 (by simp at hri ⊢; omega)
          rw [ck_unf w12_B0.eq_1]
          simp [L1, eP, Nat.min_eq_left hmr] at hih2 hw2 h9 h10
          simp (disch := (first | omega | (simp; done) | (simp; omega))) [h3, hrow, h9, h10, H.inl, hw2, List.take_of_length_le, hih2, wI64, fits, hmr]
end Go.C21
