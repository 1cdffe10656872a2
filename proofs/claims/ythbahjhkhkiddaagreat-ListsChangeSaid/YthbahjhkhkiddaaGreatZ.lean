/- The law ListsChange says true for every input; its arguments read behind the call as before. No conditions. -/
import Derived.Test.YthbahjhkhkiddaaGreatT6
namespace Go.Proofs.YthbahjhkhkiddaaGreat
open Go.ChangeShapes Go.WideShapes Go.ChangeAt Go.RowKit Go.Pav Go.Pw P

theorem hasC_ : Go.D.HasChg prog := { toHasG := has_, f234 := rfl, f462 := rfl, f598 := rfl, f113 := rfl, f2001 := rfl, f597 := rfl }

theorem ty_its {a : AV} (h : Ty (.slice [.int .u64, .int .u8, .str, .slice [.str]]) a) : ∃ (xs : List Go.D.It) (e : Bool), a = .ro 4 (xs.map Go.D.cIt) e ∧ ∀ y ∈ xs, (0 ≤ y.k ∧ y.k < 18446744073709551616) ∧ 0 ≤ y.t ∧ y.t ≤ 255 := by
  obtain ⟨es, e, rfl, _, hx⟩ := ty_slice h
  obtain ⟨xs, rfl, hr⟩ := ty_map2 (g := Go.D.cIt) (R := fun y : Go.D.It => (0 ≤ y.k ∧ y.k < 18446744073709551616) ∧ 0 ≤ y.t ∧ y.t ≤ 255) (fun l q => by
    obtain ⟨q1, q2⟩ := q
    match l, q1 with
    | [u, v, w, x], _ =>
      obtain ⟨n1, rfl, h1⟩ := ty_u64 (q2 0 _ u rfl rfl)
      obtain ⟨n2, rfl, h2⟩ := ty_u8 (q2 1 _ v rfl rfl)
      obtain ⟨s, rfl, h3⟩ := ty_str (q2 2 _ w rfl rfl)
      obtain ⟨m, me, rfl, _, h4⟩ := ty_slice (q2 3 _ x rfl rfl)
      obtain ⟨ms, rfl, _⟩ := ty_map2 (g := eS) (R := fun _ : Go.D.Bs => True) (fun l q => by
        obtain ⟨q1, q2⟩ := q
        match l, q1 with
        | [v], _ =>
          obtain ⟨n, rfl, _⟩ := ty_str (q2 0 _ v rfl rfl)
          exact ⟨n, rfl, trivial⟩) m h4
      exact ⟨⟨n1, n2, s, ms, me⟩, rfl, ⟨h1.1, by simp only; omega⟩, h2⟩) es hx
  exact ⟨xs, e, rfl, hr⟩

theorem core597 (vs : List AV) (h : TyAll [.g [.slice [.int .u8, .int .u8, .int .u8, .int .u8], .slice [.int .u8], .int .u8], .c (.int .i64), .g [.slice [.int .u64, .int .u8, .str, .slice [.str]], .int .u64, .int .i64]] vs) : FnW prog 597 vs = some (.bool true) := by
  match vs, h with
  | [a, n, b], ⟨⟨es, ha, hl, hes⟩, hn, ⟨fs, hb, hl2, hfs⟩, _⟩ =>
    subst ha
    subst hb
    obtain ⟨at_, rfl, _⟩ := ty_i64 hn
    match es, hl with
    | [x, y, w], _ =>
      obtain ⟨q, qe, rfl, hq⟩ := ty_four (hes 0 _ x rfl rfl)
      obtain ⟨z, ze, rfl, hz, hzl⟩ := ty_bytes2 (hes 1 _ y rfl rfl)
      obtain ⟨r, rfl, hr⟩ := ty_u8 (hes 2 _ w rfl rfl)
      match fs, hl2 with
      | [u, v, t], _ =>
        obtain ⟨xs, xe, rfl, hit⟩ := ty_its (hfs 0 _ u rfl rfl)
        obtain ⟨k, rfl, _⟩ := ty_u64 (hfs 1 _ v rfl rfl)
        obtain ⟨s, rfl, hs⟩ := ty_i64 (hfs 2 _ t rfl rfl)
        exact Go.D.changelaw_ok hasC_ (Go.D.item1_ok has_) lives_ q qe hq z ze hz hzl r hr at_ xs xe hit k s hs

theorem args5 : Tryz.f5.params.toList.map (argT Tryz.prog) = ([.g [.slice [.int .u8, .int .u8, .int .u8, .int .u8], .slice [.int .u8], .int .u8], .c (.int .i64), .g [.slice [.int .u64, .int .u8, .str, .slice [.str]], .int .u64, .int .i64]] : List AT).map some := by kernel_rfl

set_option maxRecDepth 100000 in
theorem lifted5 (os : Os) (started : os.Started) (H : Type) (enc : TypeId × Value → H) :
    ReturnsInHanded {} Tryz.checked os 5 .any (Rows.listsChangeSpec.pre6 enc Tryz.prog Tryz.f5 Rows.listsChangeRow.domain false) (Rows.listsChangeSpec.post enc Tryz.prog Tryz.f5 false true false false) := by
  refine returnsInHanded_of_change (C := Tryz.checked) own_ started (by kernel_rfl) Tryz.func5
    (ChangeSpec.witness6 (enc := enc) (C := Tryz.checked) false ⟨#[], #[.agg #[.slice none 0 0, .slice none 0 0, .int .u8 0], .int .i64 0, .agg #[.slice none 0 0, .int .u64 0, .int .i64 0]], []⟩ 8 (by kernel_rfl) (by kernel_rfl) (by kernel_rfl) (by kernel_rfl)) ?_
  intro W base args ds gs before hval hW hcnd _
  have hW' := hW
  obtain ⟨p, q, hA, hV, rfl, hfz, hnd⟩ := hW
  obtain ⟨rfl, rfl⟩ := trodVars_none hV
  have hlen : ds.length = 3 := (trodAll_len hA).trans (by simp)
  refine (law_calls (enc := enc) link okT (f := 597) args5 core597 (fun j t v e1 e2 => hval j t v (by simpa using e1) e2) hA).mono ?_
  rintro e W' ⟨rfl, h1, h2, h3, h4⟩
  refine ⟨_, rfl, law_post kids_ full_ rfl hW' ?_ (of_decide_eq_true (by kernel_rfl)) rfl (by kernel_rfl) h1 h2 h3 h4⟩
  match ds, hlen with
  | [d1, d2, d3], _ => rfl

theorem listsChange_holds : Rows.ListsChangeSaid :=
  OpenClaim.holds_of_wide 5 Tryz.f5 rfl rfl rfl rfl rfl rfl rfl ⟨rfl, rfl, rfl, rfl, rfl⟩ rfl rfl rfl rfl rfl (by kernel_rfl) Tryz.func5 (by kernel_rfl)
    (of_decide_eq_true (by kernel_rfl)) (by unfold Func.isWrapper; first | (rw [if_pos (by decide +kernel)]; kernel_rfl) | (rw [if_neg (by decide +kernel)]; exact ⟨rfl, rfl⟩))
    (fun os started H enc _ => lifted5 os started H enc)

end Go.Proofs.YthbahjhkhkiddaaGreat
