/- Part of the theory that the claims of this work use: C21d. No conditions of its own. -/
import Derived.Test.YtebbokkffdjpdaaC21c
namespace Go.C21
open Go Go.Pav Go.Pw P21
set_option maxRecDepth 10000
set_option maxHeartbeats 4000000
attribute [-simp] List.getElem_cons_drop
variable {C : WProg} (H : Has C)
include H

theorem trim_ok (bs : List Int) (e : Bool) (rs : List (List Int × Bool)) (f : Bool) (to : Int) (ht : to < 9223372036854775808) :
    FnW C 12 [eP bs e rs f, .int .i64 to] = some (.tup (if chk bs rs = 0 then (if to < 0 then [zP, .ro 1 [] true, .int .i64 4] else [eP bs true (rs.map (tr to.toNat)) true, L1 (gone to.toNat rs) true, .int .i64 0]) else [zP, .ro 1 [] true, .int .i64 (chk bs rs)])) := by
  have h := check_ok H bs e rs f
  rw [fnW_eq H.f12 rfl]
  by_cases c : chk bs rs = 0
  · by_cases c1 : to < 0
    · simp [w12, H.inl, h, c, c1]
    · obtain ⟨h6, h5, h7, h8⟩ := of_rows c
      obtain ⟨to, rfl⟩ : ∃ n : Nat, to = n := ⟨to.toNat, by omega⟩
      have h1 : rs.length ≠ 0 := by
        intro q
        have : bs.length = 0 := by omega
        unfold chk at c
        simp [this] at c
      have := trim_loop H bs rs f to ht h6 (by omega) h7 rs.length 0 (by simp) e f [] rs [] rfl rfl (by simp) (by simp)
      simp only [w12_K0] at this
      simp [h1] at this
      simp [w12, H.inl, h, c, c1, this]
  · simp [w12, H.inl, h, c]

omit H in
def cat (rs : List (List Int × Bool)) : List Int := rs.flatMap (·.1)

omit H in
theorem sum_loop (rs : List (List Int × Bool)) (f : Bool) (hr : ∀ r ∈ rs, r.1.length ≤ 65536) (h2 : rs.length ≤ 8) : ∀ n i, n + i = rs.length → ∀ s : Nat, s + (cat (rs.drop i)).length = (cat rs).length → (cat rs).length ≤ 1000000 →
    w28_K1 C ⟨[(11, .int .i64 i), (10, .int .i64 rs.length), (9, .ro 1 (rs.map eR) f), (3, .int .i64 s), (0, .ro 1 (rs.map eR) f)], [], 0⟩ =
    CK C 0 (pureFin [.tmp 2]) [] w28_c1 ⟨[(3, .int .i64 (cat rs).length), (0, .ro 1 (rs.map eR) f)], [], 0⟩ := by
  intro n
  induction n with
  | zero =>
    intro i hi s hs ht
    simp only [w28_K1]; rw [ck_unf w28_B1.eq_1]
    have h3 : ¬ i < rs.length := by omega
    have h4 : rs.drop i = [] := List.drop_eq_nil_of_le (by omega)
    have h5 : s = (cat rs).length := by rw [h4] at hs; simpa [cat] using hs
    simp [h3, h5]
  | succ n ih =>
    intro i hi s hs ht
    have h3 : i < rs.length := by omega
    have hri := hr _ (List.getElem_mem h3)
    have h4 : (cat (rs.drop i)).length = rs[i].1.length + (cat (rs.drop (i + 1))).length := by
      rw [drop_cons h3]; simp [cat]
    have := ih (i + 1) (by omega) (s + rs[i].1.length) (by omega) ht
    simp only [w28_K1] at this ⊢; rw [ck_unf w28_B1.eq_1]
    simp at this
    have h5 : IntKind.i64.wrap ((s : Int) + rs[i].1.length) = (s : Int) + rs[i].1.length := wI64 (by omega) (by omega)
    have h6 : ¬ (s : Int) + rs[i].1.length < 0 := by omega
    simp (disch := omega) [h3, h5, h6, wI64, this]
end Go.C21
