/- The law WindowsOf says true for every input; its arguments read behind the call as before. No conditions. -/
import Derived.Test.YtfombghmbbfpaaaGreatT7
namespace Go.Proofs.YtfombghmbbfpaaaGreat
open Go.ChangeShapes Go.WideShapes Go.ChangeAt Go.RowKit Go.Pav Go.Pw P Go.D
theorem hasWl_ : HasWl prog := { f561 := rfl, f517 := rfl, f557 := rfl, f556 := rfl, f511 := rfl, f510 := rfl, f560 := rfl, f545 := rfl, f578 := rfl, f543 := rfl, f495 := rfl, f516 := rfl, f500 := rfl, inl := rfl, pp := rfl, f434 := rfl, f519 := rfl, f518 := rfl, f562 := rfl, f433 := rfl, f282 := rfl, f140 := rfl, f439 := rfl, f581 := rfl, f579 := rfl, f585 := rfl, f549 := rfl, f502 := rfl, f503 := rfl, f548 := rfl, f404 := rfl, f231 := rfl, f594 := rfl, f586 := rfl, f550 := rfl, f505 := rfl, f408 := rfl, f398 := rfl, f424 := rfl, f494 := rfl, f496 := rfl, f497 := rfl, f498 := rfl, f499 := rfl, f544 := rfl, f546 := rfl, f580 := rfl, f512 := rfl, f584 := rfl, f558 := rfl, f559 := rfl, f592 := rfl, f582 := rfl, f583 := rfl, f593 := rfl, f563 := rfl, f520 := rfl, f442 := rfl, f441 := rfl, f547 := rfl, f513 := rfl, f501 := rfl, f425 := rfl, f225 := rfl, f111 := rfl, f227 := rfl, f402 := rfl, f504 := rfl, f407 := rfl, f239 := rfl, f406 := rfl, f240 := rfl, f423 := rfl, f399 := rfl, f230 := rfl, f405 := rfl, f232 := rfl, f115 := rfl, f236 := rfl, f271 := rfl, f223 := rfl, f235 := rfl, f422 := rfl, f270 := rfl, f126 := rfl, f122 := rfl, f249 := rfl, f250 := rfl, f246 := rfl, f247 := rfl, f411 := rfl, f412 := rfl, f248 := rfl, f121 := rfl, f251 := rfl, f252 := rfl, f253 := rfl, f272 := rfl, f327 := rfl, f274 := rfl, f136 := rfl, f132 := rfl, f273 := rfl, f134 := rfl, f149 := rfl, f304 := rfl, f131 := rfl, f133 := rfl, f137 := rfl, f135 := rfl, f276 := rfl, f426 := rfl, f2004 := rfl, f2005 := rfl, f2006 := rfl, f2003 := rfl, f87 := rfl }
theorem lives_ : FnW prog 129 [] = some (.bool true) := fnW_call.2 ⟨400, isTrue_eq (by kernel_rfl)⟩
theorem core87 (vs : List AV) (h : TyAll [.g [.slice [.int .u8, .int .u8, .int .u8, .int .u8], .slice [.int .u8], .int .u8], .g [.int .i64, .int .i64], .g (.int .i64 :: .bool :: enT)] vs) : FnW prog 87 vs = some (.bool true) := by
 match vs, h with
 | [a, b, c], ⟨⟨es, ha, hl, hes⟩, ⟨gs, hb, hl3, hgs⟩, ⟨fs, hc, hl2, hfs⟩, _⟩ =>
  subst ha
  subst hb
  subst hc
  match es, hl with
  | [x, y, w], _ =>
   obtain ⟨q, qe, rfl, hq⟩ := ty_four (hes 0 _ x rfl rfl)
   obtain ⟨z, ze, rfl, hz, hzl⟩ := ty_bytes2 (hes 1 _ y rfl rfl)
   obtain ⟨r, rfl, hr⟩ := ty_u8 (hes 2 _ w rfl rfl)
   match gs, hl3 with
   | [u, v], _ =>
    obtain ⟨a1, rfl, h1⟩ := ty_i64 (hgs 0 _ u rfl rfl)
    obtain ⟨b1, rfl, h2⟩ := ty_i64 (hgs 1 _ v rfl rfl)
    match fs, hl2, hfs with
    | k :: bt :: fs, hl2, hfs =>
     obtain ⟨k, rfl, hk⟩ := ty_i64 (hfs 0 _ k rfl rfl)
     obtain ⟨bt, rfl⟩ := ty_bool (hfs 1 _ bt rfl rfl)
     obtain ⟨e, rfl, he⟩ := ty_en (l := fs) (by simpa using hl2) (fun j t v e1 e2 => hfs (j + 2) t v (by simpa using e1) (by simpa using e2))
     exact wolaw_ok hasWl_ (item1_ok has_) lives_ q qe hq z ze hz hzl r hr e he.k he.t he.s a1 b1 k bt h1 h2
theorem argsN : Tryz.f9.params.toList.map (argT Tryz.prog) = ([.g [.slice [.int .u8, .int .u8, .int .u8, .int .u8], .slice [.int .u8], .int .u8], .g [.int .i64, .int .i64], .g (.int .i64 :: .bool :: enT)] : List AT).map some := by kernel_rfl
set_option maxRecDepth 100000 in
theorem liftedN (os : Os) (started : os.Started) (H : Type) (enc : TypeId × Value → H) :
 ReturnsInHanded {} Tryz.checked os 9 .any (Rows.windowsOfSpec.pre6 enc Tryz.prog Tryz.f9 Rows.windowsOfRow.domain false) (Rows.windowsOfSpec.post enc Tryz.prog Tryz.f9 false true false false) := by
 refine returnsInHanded_of_change (C := Tryz.checked) own_ started (by kernel_rfl) Tryz.func9
  (ChangeSpec.witness6 (enc := enc) (C := Tryz.checked) false ⟨#[], #[.agg #[.slice none 0 0, .slice none 0 0, .int .u8 0], .agg #[.int .i64 0, .int .i64 0], .agg #[.int .i64 0, .bool false, .int .u64 0, .int .u8 0, .string .empty, .slice none 0 0, .int .i64 0, .bool false]], []⟩ 8 (by kernel_rfl) (by kernel_rfl) (by kernel_rfl) (by kernel_rfl)) ?_
 intro W base args ds gs before hval hW hcnd _
 have hW' := hW
 obtain ⟨p, q, hA, hV, rfl, hfz, hnd⟩ := hW
 obtain ⟨rfl, rfl⟩ := trodVars_none hV
 have hlen : ds.length = 3 := (trodAll_len hA).trans (by simp)
 refine (law_calls (enc := enc) link okT (f := 87) argsN core87 (fun j t v e1 e2 => hval j t v (by simpa using e1) e2) hA).mono ?_
 rintro e W' ⟨rfl, h1, h2, h3, h4⟩
 refine ⟨_, rfl, law_post kids_ full_ rfl hW' ?_ (of_decide_eq_true (by kernel_rfl)) rfl (by kernel_rfl) h1 h2 h3 h4⟩
 match ds, hlen with
 | [d1, d2, d3], _ => rfl
theorem jA_ : (Rows.windowsOfRow.inPlace == Tryz.pinned.checked.prog.inPlace 9) = true := by kernel_rfl
theorem jB_ : (Rows.windowsOfRow.unfollowed == Tryz.pinned.checked.prog.unfollowed 9) = true := by kernel_rfl
theorem jC_ : (Rows.windowsOfRow.recurses == Tryz.pinned.checked.prog.recurses 9) = true := by kernel_rfl
theorem jD_ : (Rows.windowsOfRow.named == Tryz.pinned.checked.prog.varsNamed 9) = true := by kernel_rfl
theorem jJ_ : laidOutB Tryz.pinned.checked.prog = true := by kernel_rfl
theorem jK_ : mapsRowed Tryz.pinned.checked.prog = true := by kernel_rfl
theorem jF_ : Tryz.pinned.checked.prog.stopsHeard = true := by kernel_rfl
theorem jG_ : Tryz.pinned.checked.prog.mayEnter = true := by kernel_rfl
theorem jH_ : (Rows.windowsOfRow.lifted == Tryz.pinned.checked.prog.liftsFinal) = true := by kernel_rfl
theorem jI_ : (Rows.windowsOfRow.plainKeys == Tryz.pinned.checked.prog.plainKeys) = true := by kernel_rfl
theorem closed_ : joinedFacts Tryz.pinned.checked.prog 9 Tryz.f9 Rows.windowsOfSpec Rows.windowsOfRow = true := by
  unfold joinedFacts
  rw [jA_, jB_, jC_, jD_, jF_, jG_, jH_, jI_, jJ_, jK_]
  kernel_rfl
theorem named_ : Tryz.pinned.checked.prog.funcNamed Rows.windowsOfRow.func = some 9 := by kernel_rfl
theorem inst_ : Tryz.f9.isInstance Tryz.pinned.checked.prog Rows.windowsOfRow.origin Rows.windowsOfRow.targs := of_decide_eq_true (by kernel_rfl)
theorem wrap_ : Tryz.f9.isWrapper Tryz.pinned.checked.prog Rows.windowsOfRow.wrapper Rows.windowsOfRow.mainSum := by
  unfold Func.isWrapper; first | (rw [if_pos (by decide +kernel)]; kernel_rfl) | (rw [if_neg (by decide +kernel)]; exact ⟨rfl, rfl⟩)

theorem windowsOf_holds : Rows.WindowsOfSaid :=
 OpenClaim.holds_of_wide 9 Tryz.f9 rfl rfl rfl rfl rfl rfl rfl ⟨rfl, rfl, rfl, rfl, rfl⟩ rfl rfl rfl rfl rfl named_ Tryz.func9 closed_ inst_ wrap_
  (fun os started H enc _ => liftedN os started H enc)
end Go.Proofs.YtfombghmbbfpaaaGreat
