/- The law HeadsSections says true for every input; its arguments read behind the call as before. No conditions. -/
import Derived.Test.YtfombghmbbfpaaaGreatT7
namespace Go.Proofs.YtfombghmbbfpaaaGreat
open Go.ChangeShapes Go.WideShapes Go.ChangeAt Go.RowKit Go.Pav Go.Pw P Go.D
theorem hasRl_ : HasHs prog := { f561 := rfl, f517 := rfl, f557 := rfl, f556 := rfl, f511 := rfl, f510 := rfl, f560 := rfl, f545 := rfl, f578 := rfl, f543 := rfl, f495 := rfl, f516 := rfl, f500 := rfl, inl := rfl, pp := rfl, f434 := rfl, f519 := rfl, f518 := rfl, f562 := rfl, f433 := rfl, f282 := rfl, f140 := rfl, f439 := rfl, f581 := rfl, f579 := rfl, f585 := rfl, f549 := rfl, f502 := rfl, f503 := rfl, f548 := rfl, f404 := rfl, f231 := rfl, f594 := rfl, f586 := rfl, f550 := rfl, f505 := rfl, f408 := rfl, f398 := rfl, f424 := rfl, f494 := rfl, f496 := rfl, f497 := rfl, f498 := rfl, f499 := rfl, f544 := rfl, f546 := rfl, f580 := rfl, f512 := rfl, f584 := rfl, f558 := rfl, f559 := rfl, f592 := rfl, f582 := rfl, f583 := rfl, f593 := rfl, f563 := rfl, f520 := rfl, f442 := rfl, f441 := rfl, f547 := rfl, f513 := rfl, f501 := rfl, f425 := rfl, f225 := rfl, f111 := rfl, f227 := rfl, f402 := rfl, f240 := rfl, f423 := rfl, f399 := rfl, f230 := rfl, f405 := rfl, f232 := rfl, f115 := rfl, f271 := rfl, f223 := rfl, f422 := rfl, f270 := rfl, f126 := rfl, f130 := rfl, f238 := rfl, f122 := rfl, f249 := rfl, f250 := rfl, f246 := rfl, f247 := rfl, f411 := rfl, f412 := rfl, f248 := rfl, f121 := rfl, f253 := rfl, f327 := rfl, f421 := rfl, f508 := rfl, f509 := rfl, f555 := rfl, f256 := rfl, f507 := rfl, f554 := rfl, f553 := rfl, f418 := rfl, f263 := rfl, f262 := rfl, f309 := rfl, f446 := rfl, f450 := rfl, f447 := rfl, f305 := rfl, f448 := rfl, f306 := rfl, f307 := rfl, f449 := rfl, f152 := rfl, f303 := rfl, f148 := rfl, f310 := rfl, f150 := rfl, f265 := rfl, f264 := rfl, f125 := rfl, f155 := rfl }
theorem lives_ : FnW prog 157 [] = some (.bool true) := fnW_call.2 ⟨400, isTrue_eq (by kernel_rfl)⟩
theorem core155 (vs : List AV) (h : TyAll [.g [.slice [.int .u8, .int .u8, .int .u8, .int .u8], .slice [.int .u8], .int .u8], .g [.int .u8, .int .u16]] vs) : FnW prog 155 vs = some (.bool true) := by
 match vs, h with
 | [a, b], ⟨⟨es, ha, hl, hes⟩, ⟨fs, hb, hl2, hfs⟩, _⟩ =>
  subst ha
  subst hb
  match es, hl with
  | [x, y, w], _ =>
   obtain ⟨q, qe, rfl, hq⟩ := ty_four (hes 0 _ x rfl rfl)
   obtain ⟨z, ze, rfl, hz, hzl⟩ := ty_bytes2 (hes 1 _ y rfl rfl)
   obtain ⟨r, rfl, hr⟩ := ty_u8 (hes 2 _ w rfl rfl)
   match fs, hl2 with
   | [u, v], _ =>
    obtain ⟨a1, rfl, h1⟩ := ty_u8 (hfs 0 _ u rfl rfl)
    obtain ⟨b1, rfl, h2⟩ := ty_u16 (hfs 1 _ v rfl rfl)
    exact hslaw_ok hasRl_ (item1_ok has_) lives_ q qe hq z ze hz hzl r hr a1 b1 h1 h2
theorem args4 : Tryz.f12.params.toList.map (argT Tryz.prog) = ([.g [.slice [.int .u8, .int .u8, .int .u8, .int .u8], .slice [.int .u8], .int .u8], .g [.int .u8, .int .u16]] : List AT).map some := by kernel_rfl
set_option maxRecDepth 100000 in
theorem lifted4 (os : Os) (started : os.Started) (H : Type) (enc : TypeId × Value → H) :
 ReturnsInHanded {} Tryz.checked os 12 .any (Rows.headsSectionsSpec.pre6 enc Tryz.prog Tryz.f12 Rows.headsSectionsRow.domain false) (Rows.headsSectionsSpec.post enc Tryz.prog Tryz.f12 false true false false) := by
 refine returnsInHanded_of_change (C := Tryz.checked) own_ started (by kernel_rfl) Tryz.func12
  (ChangeSpec.witness6 (enc := enc) (C := Tryz.checked) false ⟨#[], #[.agg #[.slice none 0 0, .slice none 0 0, .int .u8 0], .agg #[.int .u8 0, .int .u16 0]], []⟩ 8 (by kernel_rfl) (by kernel_rfl) (by kernel_rfl) (by kernel_rfl)) ?_
 intro W base args ds gs before hval hW hcnd _
 have hW' := hW
 obtain ⟨p, q, hA, hV, rfl, hfz, hnd⟩ := hW
 obtain ⟨rfl, rfl⟩ := trodVars_none hV
 have hlen : ds.length = 2 := (trodAll_len hA).trans (by simp)
 refine (law_calls (enc := enc) link okT (f := 155) args4 core155 (fun j t v e1 e2 => hval j t v (by simpa using e1) e2) hA).mono ?_
 rintro e W' ⟨rfl, h1, h2, h3, h4⟩
 refine ⟨_, rfl, law_post kids_ full_ rfl hW' ?_ (of_decide_eq_true (by kernel_rfl)) rfl (by kernel_rfl) h1 h2 h3 h4⟩
 match ds, hlen with
 | [d1, d2], _ => rfl
theorem jA_ : (Rows.headsSectionsRow.inPlace == Tryz.pinned.checked.prog.inPlace 12) = true := by kernel_rfl
theorem jB_ : (Rows.headsSectionsRow.unfollowed == Tryz.pinned.checked.prog.unfollowed 12) = true := by kernel_rfl
theorem jC_ : (Rows.headsSectionsRow.recurses == Tryz.pinned.checked.prog.recurses 12) = true := by kernel_rfl
theorem jD_ : (Rows.headsSectionsRow.named == Tryz.pinned.checked.prog.varsNamed 12) = true := by kernel_rfl
theorem jJ_ : laidOutB Tryz.pinned.checked.prog = true := by kernel_rfl
theorem jK_ : mapsRowed Tryz.pinned.checked.prog = true := by kernel_rfl
theorem jF_ : Tryz.pinned.checked.prog.stopsHeard = true := by kernel_rfl
theorem jG_ : Tryz.pinned.checked.prog.mayEnter = true := by kernel_rfl
theorem jH_ : (Rows.headsSectionsRow.lifted == Tryz.pinned.checked.prog.liftsFinal) = true := by kernel_rfl
theorem jI_ : (Rows.headsSectionsRow.plainKeys == Tryz.pinned.checked.prog.plainKeys) = true := by kernel_rfl
theorem closed_ : joinedFacts Tryz.pinned.checked.prog 12 Tryz.f12 Rows.headsSectionsSpec Rows.headsSectionsRow = true := by
 unfold joinedFacts
 rw [jA_, jB_, jC_, jD_, jF_, jG_, jH_, jI_, jJ_, jK_]
 kernel_rfl
theorem named_ : Tryz.pinned.checked.prog.funcNamed Rows.headsSectionsRow.func = some 12 := by kernel_rfl
theorem inst_ : Tryz.f12.isInstance Tryz.pinned.checked.prog Rows.headsSectionsRow.origin Rows.headsSectionsRow.targs := of_decide_eq_true (by kernel_rfl)
theorem wrap_ : Tryz.f12.isWrapper Tryz.pinned.checked.prog Rows.headsSectionsRow.wrapper Rows.headsSectionsRow.mainSum := by
 unfold Func.isWrapper; first | (rw [if_pos (by decide +kernel)]; kernel_rfl) | (rw [if_neg (by decide +kernel)]; exact ⟨rfl, rfl⟩)
theorem headsSections_holds : Rows.HeadsSectionsSaid :=
 OpenClaim.holds_of_wide 12 Tryz.f12 rfl rfl rfl rfl rfl rfl rfl ⟨rfl, rfl, rfl, rfl, rfl⟩ rfl rfl rfl rfl rfl named_ Tryz.func12 closed_ inst_ wrap_
  (fun os started H enc _ => lifted4 os started H enc)
end Go.Proofs.YtfombghmbbfpaaaGreat
