/- The law ListsBack says true for every input; its arguments read behind the call as before. No conditions. -/
import Derived.Test.YthbahjhkhkiddaaGreatT6
namespace Go.Proofs.YthbahjhkhkiddaaGreat
open Go.ChangeShapes Go.WideShapes Go.ChangeAt Go.RowKit Go.Pav Go.Pw P

theorem hasB_ : Go.D.HasB prog := { toHasG := has_, f217 := rfl, f401 := rfl, f220 := rfl, f218 := rfl, f109 := rfl, f108 := rfl, f117 := rfl }

theorem core117 (vs : List AV) (h : TyAll [.g [.slice [.int .u8, .int .u8, .int .u8, .int .u8], .slice [.int .u8], .int .u8], .g [.slice [.int .u8, .int .u8, .int .u8, .int .u8], .slice [.int .u8], .int .u8], .g [.int .u8, .int .u8, .int .u8]] vs) : FnW prog 117 vs = some (.bool true) := by
  match vs, h with
  | [a, a', b], ⟨⟨es, ha, hl, hes⟩, ⟨es', ha', hl', hes'⟩, ⟨fs, hb, hl2, hfs⟩, _⟩ =>
    subst ha
    subst ha'
    subst hb
    match es, hl with
    | [x, y, w], _ =>
      obtain ⟨q, qe, rfl, hq⟩ := ty_four (hes 0 _ x rfl rfl)
      obtain ⟨z, ze, rfl, hz, hzl⟩ := ty_bytes2 (hes 1 _ y rfl rfl)
      obtain ⟨r, rfl, hr⟩ := ty_u8 (hes 2 _ w rfl rfl)
      match es', hl' with
      | [x', y', w'], _ =>
        obtain ⟨q', qe', rfl, hq'⟩ := ty_four (hes' 0 _ x' rfl rfl)
        obtain ⟨z', ze', rfl, hz', hzl'⟩ := ty_bytes2 (hes' 1 _ y' rfl rfl)
        obtain ⟨r', rfl, hr'⟩ := ty_u8 (hes' 2 _ w' rfl rfl)
        match fs, hl2 with
        | [u, v, t], _ =>
          obtain ⟨n0, rfl, b0⟩ := ty_u8 (hfs 0 _ u rfl rfl)
          obtain ⟨n1, rfl, b1⟩ := ty_u8 (hfs 1 _ v rfl rfl)
          obtain ⟨n2, rfl, b2⟩ := ty_u8 (hfs 2 _ t rfl rfl)
          exact Go.D.back_ok hasB_ (Go.D.item1_ok has_) lives_ q qe hq z ze hz hzl r hr q' qe' hq' z' ze' hz' hzl' r' n0 n1 n2 b0 b1 b2

theorem args6 : Tryz.f6.params.toList.map (argT Tryz.prog) = ([.g [.slice [.int .u8, .int .u8, .int .u8, .int .u8], .slice [.int .u8], .int .u8], .g [.slice [.int .u8, .int .u8, .int .u8, .int .u8], .slice [.int .u8], .int .u8], .g [.int .u8, .int .u8, .int .u8]] : List AT).map some := by kernel_rfl

set_option maxRecDepth 100000 in
theorem lifted6 (os : Os) (started : os.Started) (H : Type) (enc : TypeId × Value → H) :
    ReturnsInHanded {} Tryz.checked os 6 .any (Rows.listsBackSpec.pre6 enc Tryz.prog Tryz.f6 Rows.listsBackRow.domain false) (Rows.listsBackSpec.post enc Tryz.prog Tryz.f6 false true false false) := by
  refine returnsInHanded_of_change (C := Tryz.checked) own_ started (by kernel_rfl) Tryz.func6
    (ChangeSpec.witness6 (enc := enc) (C := Tryz.checked) false ⟨#[], #[.agg #[.slice none 0 0, .slice none 0 0, .int .u8 0], .agg #[.slice none 0 0, .slice none 0 0, .int .u8 0], .agg #[.int .u8 0, .int .u8 0, .int .u8 0]], []⟩ 8 (by kernel_rfl) (by kernel_rfl) (by kernel_rfl) (by kernel_rfl)) ?_
  intro W base args ds gs before hval hW hcnd _
  have hW' := hW
  obtain ⟨p, q, hA, hV, rfl, hfz, hnd⟩ := hW
  obtain ⟨rfl, rfl⟩ := trodVars_none hV
  have hlen : ds.length = 3 := (trodAll_len hA).trans (by simp)
  refine (law_calls (enc := enc) link okT (f := 117) args6 core117 (fun j t v e1 e2 => hval j t v (by simpa using e1) e2) hA).mono ?_
  rintro e W' ⟨rfl, h1, h2, h3, h4⟩
  refine ⟨_, rfl, law_post kids_ full_ rfl hW' ?_ (of_decide_eq_true (by kernel_rfl)) rfl (by kernel_rfl) h1 h2 h3 h4⟩
  match ds, hlen with
  | [d1, d2, d3], _ => rfl

theorem listsBack_holds : Rows.ListsBackSaid :=
  OpenClaim.holds_of_wide 6 Tryz.f6 rfl rfl rfl rfl rfl rfl rfl ⟨rfl, rfl, rfl, rfl, rfl⟩ rfl rfl rfl rfl rfl (by kernel_rfl) Tryz.func6 (by kernel_rfl)
    (of_decide_eq_true (by kernel_rfl)) (by unfold Func.isWrapper; first | (rw [if_pos (by decide +kernel)]; kernel_rfl) | (rw [if_neg (by decide +kernel)]; exact ⟨rfl, rfl⟩))
    (fun os started H enc _ => lifted6 os started H enc)

end Go.Proofs.YthbahjhkhkiddaaGreat
