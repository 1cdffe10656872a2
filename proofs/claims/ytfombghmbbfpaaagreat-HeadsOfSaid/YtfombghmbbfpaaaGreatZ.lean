/- The law HeadsOf says true for every input; its arguments read behind the call as before. No conditions. -/
import Derived.Test.YtfombghmbbfpaaaGreatT7
namespace Go.Proofs.YtfombghmbbfpaaaGreat
open Go.ChangeShapes Go.WideShapes Go.ChangeAt Go.RowKit Go.Pav Go.Pw P Go.D
theorem hasHo_ : HasHo prog := { f561 := rfl, f517 := rfl, f557 := rfl, f556 := rfl, f511 := rfl, f510 := rfl, f560 := rfl, f545 := rfl, f578 := rfl, f543 := rfl, f495 := rfl, f516 := rfl, f500 := rfl, inl := rfl, pp := rfl, f434 := rfl, f519 := rfl, f518 := rfl, f562 := rfl, f433 := rfl, f282 := rfl, f140 := rfl, f439 := rfl, f581 := rfl, f579 := rfl, f585 := rfl, f549 := rfl, f502 := rfl, f503 := rfl, f548 := rfl, f404 := rfl, f231 := rfl, f594 := rfl, f586 := rfl, f550 := rfl, f505 := rfl, f408 := rfl, f398 := rfl, f424 := rfl, f494 := rfl, f496 := rfl, f497 := rfl, f498 := rfl, f499 := rfl, f544 := rfl, f546 := rfl, f580 := rfl, f512 := rfl, f584 := rfl, f558 := rfl, f559 := rfl, f592 := rfl, f582 := rfl, f583 := rfl, f593 := rfl, f563 := rfl, f520 := rfl, f442 := rfl, f441 := rfl, f547 := rfl, f513 := rfl, f501 := rfl, f425 := rfl, f225 := rfl, f111 := rfl, f227 := rfl, f402 := rfl, f504 := rfl, f407 := rfl, f239 := rfl, f406 := rfl, f240 := rfl, f423 := rfl, f399 := rfl, f230 := rfl, f405 := rfl, f232 := rfl, f115 := rfl, f236 := rfl, f271 := rfl, f223 := rfl, f235 := rfl, f422 := rfl, f270 := rfl, f126 := rfl, f122 := rfl, f249 := rfl, f250 := rfl, f246 := rfl, f253 := rfl, f421 := rfl, f508 := rfl, f509 := rfl, f555 := rfl, f136 := rfl, f149 := rfl, f151 := rfl, f304 := rfl, f446 := rfl, f447 := rfl, f305 := rfl, f448 := rfl, f308 := rfl, f306 := rfl, f307 := rfl, f449 := rfl, f152 := rfl, f303 := rfl, f148 := rfl, f310 := rfl, f150 := rfl, f154 := rfl, f147 := rfl, f311 := rfl, f153 := rfl, f2003 := rfl, f156 := rfl }
theorem lives_ : FnW prog 157 [] = some (.bool true) := fnW_call.2 ⟨400, isTrue_eq (by kernel_rfl)⟩
theorem core156 (vs : List AV) (h : TyAll [.g [.slice [.int .u8, .int .u8, .int .u8, .int .u8], .slice [.int .u8], .int .u8], .c (.int .i64), .g (.bool :: enT)] vs) : FnW prog 156 vs = some (.bool true) := by
 match vs, h with
 | [a, b, c], ⟨⟨es, ha, hl, hes⟩, hb, ⟨fs, hc, hl2, hfs⟩, _⟩ =>
  subst ha
  subst hc
  obtain ⟨s, rfl, hs⟩ := ty_i64 hb
  match es, hl with
  | [x, y, w], _ =>
   obtain ⟨q, qe, rfl, hq⟩ := ty_four (hes 0 _ x rfl rfl)
   obtain ⟨z, ze, rfl, hz, hzl⟩ := ty_bytes2 (hes 1 _ y rfl rfl)
   obtain ⟨r, rfl, hr⟩ := ty_u8 (hes 2 _ w rfl rfl)
   match fs, hl2, hfs with
   | bt :: fs, hl2, hfs =>
    obtain ⟨bt, rfl⟩ := ty_bool (hfs 0 _ bt rfl rfl)
    obtain ⟨e, rfl, he⟩ := ty_en (l := fs) (by simpa using hl2) (fun j t v e1 e2 => hfs (j + 1) t v (by simpa using e1) (by simpa using e2))
    exact holaw_ok hasHo_ (item1_ok has_) lives_ q qe hq z ze hz hzl r hr e he.k he.t he.s s bt hs
theorem argsN : Tryz.f4.params.toList.map (argT Tryz.prog) = ([.g [.slice [.int .u8, .int .u8, .int .u8, .int .u8], .slice [.int .u8], .int .u8], .c (.int .i64), .g (.bool :: enT)] : List AT).map some := by kernel_rfl
set_option maxRecDepth 100000 in
theorem liftedN (os : Os) (started : os.Started) (H : Type) (enc : TypeId × Value → H) :
 ReturnsInHanded {} Tryz.checked os 4 .any (Rows.headsOfSpec.pre6 enc Tryz.prog Tryz.f4 Rows.headsOfRow.domain false) (Rows.headsOfSpec.post enc Tryz.prog Tryz.f4 false true false false) := by
 refine returnsInHanded_of_change (C := Tryz.checked) own_ started (by kernel_rfl) Tryz.func4
  (ChangeSpec.witness6 (enc := enc) (C := Tryz.checked) false ⟨#[], #[.agg #[.slice none 0 0, .slice none 0 0, .int .u8 0], .int .i64 0, .agg #[.bool false, .int .u64 0, .int .u8 0, .string .empty, .slice none 0 0, .int .i64 0, .bool false]], []⟩ 8 (by kernel_rfl) (by kernel_rfl) (by kernel_rfl) (by kernel_rfl)) ?_
 intro W base args ds gs before hval hW hcnd _
 have hW' := hW
 obtain ⟨p, q, hA, hV, rfl, hfz, hnd⟩ := hW
 obtain ⟨rfl, rfl⟩ := trodVars_none hV
 have hlen : ds.length = 3 := (trodAll_len hA).trans (by simp)
 refine (law_calls (enc := enc) link okT (f := 156) argsN core156 (fun j t v e1 e2 => hval j t v (by simpa using e1) e2) hA).mono ?_
 rintro e W' ⟨rfl, h1, h2, h3, h4⟩
 refine ⟨_, rfl, law_post kids_ full_ rfl hW' ?_ (of_decide_eq_true (by kernel_rfl)) rfl (by kernel_rfl) h1 h2 h3 h4⟩
 match ds, hlen with
 | [d1, d2, d3], _ => rfl
theorem jA_ : (Rows.headsOfRow.inPlace == Tryz.pinned.checked.prog.inPlace 4) = true := by kernel_rfl
theorem jB_ : (Rows.headsOfRow.unfollowed == Tryz.pinned.checked.prog.unfollowed 4) = true := by kernel_rfl
theorem jC_ : (Rows.headsOfRow.recurses == Tryz.pinned.checked.prog.recurses 4) = true := by kernel_rfl
theorem jD_ : (Rows.headsOfRow.named == Tryz.pinned.checked.prog.varsNamed 4) = true := by kernel_rfl
theorem jJ_ : laidOutB Tryz.pinned.checked.prog = true := by kernel_rfl
theorem jK_ : mapsRowed Tryz.pinned.checked.prog = true := by kernel_rfl
theorem jF_ : Tryz.pinned.checked.prog.stopsHeard = true := by kernel_rfl
theorem jG_ : Tryz.pinned.checked.prog.mayEnter = true := by kernel_rfl
theorem jH_ : (Rows.headsOfRow.lifted == Tryz.pinned.checked.prog.liftsFinal) = true := by kernel_rfl
theorem jI_ : (Rows.headsOfRow.plainKeys == Tryz.pinned.checked.prog.plainKeys) = true := by kernel_rfl
theorem closed_ : joinedFacts Tryz.pinned.checked.prog 4 Tryz.f4 Rows.headsOfSpec Rows.headsOfRow = true := by
 unfold joinedFacts
 rw [jA_, jB_, jC_, jD_, jF_, jG_, jH_, jI_, jJ_, jK_]
 kernel_rfl
theorem named_ : Tryz.pinned.checked.prog.funcNamed Rows.headsOfRow.func = some 4 := by kernel_rfl
theorem inst_ : Tryz.f4.isInstance Tryz.pinned.checked.prog Rows.headsOfRow.origin Rows.headsOfRow.targs := of_decide_eq_true (by kernel_rfl)
theorem wrap_ : Tryz.f4.isWrapper Tryz.pinned.checked.prog Rows.headsOfRow.wrapper Rows.headsOfRow.mainSum := by
 unfold Func.isWrapper; first | (rw [if_pos (by decide +kernel)]; kernel_rfl) | (rw [if_neg (by decide +kernel)]; exact ⟨rfl, rfl⟩)
theorem headsOf_holds : Rows.HeadsOfSaid :=
 OpenClaim.holds_of_wide 4 Tryz.f4 rfl rfl rfl rfl rfl rfl rfl ⟨rfl, rfl, rfl, rfl, rfl⟩ rfl rfl rfl rfl rfl named_ Tryz.func4 closed_ inst_ wrap_
  (fun os started H enc _ => liftedN os started H enc)
end Go.Proofs.YtfombghmbbfpaaaGreat
