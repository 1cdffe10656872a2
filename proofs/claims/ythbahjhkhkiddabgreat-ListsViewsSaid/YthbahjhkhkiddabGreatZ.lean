/- The law ListsViews says true for every input; its arguments read behind the call as before. No conditions. -/
import Derived.Test.YthbahjhkhkiddabGreatT5
namespace Go.Proofs.YthbahjhkhkiddabGreat
open Go.ChangeShapes Go.WideShapes Go.ChangeAt Go.RowKit Go.Pav Go.Pw P Go.D
theorem hasV_ : Go.D.HasVw prog := { toHasTr := { toHasG := has_, f238 := rfl }, f356 := rfl, f468 := rfl, f601 := rfl, f602 := rfl, f603 := rfl, f600 := rfl, f599 := rfl }
theorem core599 (vs : List AV) (h : TyAll [.g [.slice [.int .u8, .int .u8, .int .u8, .int .u8], .slice [.int .u8], .int .u8], .g [.slice enT, .slice enT], .c (.int .i64)] vs) : FnW prog 599 vs = some (.bool true) := by
 match vs, h with
 | [a, b, n], ⟨⟨es, ha, hl, hes⟩, ⟨fs, hb, hl2, hfs⟩, hn, _⟩ =>
  subst ha
  subst hb
  obtain ⟨at_, rfl, _⟩ := ty_i64 hn
  match es, hl with
  | [x, y, w], _ =>
   obtain ⟨q, qe, rfl, hq⟩ := ty_four (hes 0 _ x rfl rfl)
   obtain ⟨z, ze, rfl, hz, hzl⟩ := ty_bytes2 (hes 1 _ y rfl rfl)
   obtain ⟨r, rfl, hr⟩ := ty_u8 (hes 2 _ w rfl rfl)
   match fs, hl2 with
   | [u, v], _ =>
    obtain ⟨l1, e1, rfl, h1, _⟩ := ty_ens (hfs 0 _ u rfl rfl)
    obtain ⟨l2, e2, rfl, h2, _⟩ := ty_ens (hfs 1 _ v rfl rfl)
    exact Go.D.viewslaw_ok hasV_ (Go.D.item1_ok has_) lives_ q qe hq z ze hz hzl r hr l1 l2 e1 e2 (fun x hx => ⟨(h1 x hx).s, (h1 x hx).m⟩) (fun x hx => ⟨(h2 x hx).s, (h2 x hx).m⟩) at_
theorem args3 : Tryz.f3.params.toList.map (argT Tryz.prog) = ([.g [.slice [.int .u8, .int .u8, .int .u8, .int .u8], .slice [.int .u8], .int .u8], .g [.slice enT, .slice enT], .c (.int .i64)] : List AT).map some := by kernel_rfl
set_option maxRecDepth 100000 in
theorem lifted3 (os : Os) (started : os.Started) (H : Type) (enc : TypeId × Value → H) :
 ReturnsInHanded {} Tryz.checked os 3 .any (Rows.listsViewsSpec.pre6 enc Tryz.prog Tryz.f3 Rows.listsViewsRow.domain false) (Rows.listsViewsSpec.post enc Tryz.prog Tryz.f3 false true false false) := by
 refine returnsInHanded_of_change (C := Tryz.checked) own_ started (by kernel_rfl) Tryz.func3
  (ChangeSpec.witness6 (enc := enc) (C := Tryz.checked) false ⟨#[], #[.agg #[.slice none 0 0, .slice none 0 0, .int .u8 0], .agg #[.slice none 0 0, .slice none 0 0], .int .i64 0], []⟩ 8 (by kernel_rfl) (by kernel_rfl) (by kernel_rfl) (by kernel_rfl)) ?_
 intro W base args ds gs before hval hW hcnd _
 have hW' := hW
 obtain ⟨p, q, hA, hV, rfl, hfz, hnd⟩ := hW
 obtain ⟨rfl, rfl⟩ := trodVars_none hV
 have hlen : ds.length = 3 := (trodAll_len hA).trans (by simp)
 refine (law_calls (enc := enc) link okT (f := 599) args3 core599 (fun j t v e1 e2 => hval j t v (by simpa using e1) e2) hA).mono ?_
 rintro e W' ⟨rfl, h1, h2, h3, h4⟩
 refine ⟨_, rfl, law_post kids_ full_ rfl hW' ?_ (of_decide_eq_true (by kernel_rfl)) rfl (by kernel_rfl) h1 h2 h3 h4⟩
 match ds, hlen with
 | [d1, d2, d3], _ => rfl
theorem listsViews_holds : Rows.ListsViewsSaid :=
 OpenClaim.holds_of_wide 3 Tryz.f3 rfl rfl rfl rfl rfl rfl rfl ⟨rfl, rfl, rfl, rfl, rfl⟩ rfl rfl rfl rfl rfl (by kernel_rfl) Tryz.func3 (by kernel_rfl)
  (of_decide_eq_true (by kernel_rfl)) (by unfold Func.isWrapper; first | (rw [if_pos (by decide +kernel)]; kernel_rfl) | (rw [if_neg (by decide +kernel)]; exact ⟨rfl, rfl⟩))
  (fun os started H enc _ => lifted3 os started H enc)
end Go.Proofs.YthbahjhkhkiddabGreat
