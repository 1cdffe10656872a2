/- The law HeadsKnown says true. No conditions. -/
import Derived.Test.YtfombghmbbfpaaaGreatT7
namespace Go.Proofs.YtfombghmbbfpaaaGreat
open Go.ChangeShapes Go.WideShapes Go.ChangeAt Go.RowKit Go.Pav Go.Pw P Go.D
theorem hasHk_ : HasHk prog := { f561 := rfl, f517 := rfl, f557 := rfl, f556 := rfl, f511 := rfl, f510 := rfl, f560 := rfl, f545 := rfl, f578 := rfl, f543 := rfl, f495 := rfl, f516 := rfl, f500 := rfl, inl := rfl, pp := rfl, f434 := rfl, f519 := rfl, f518 := rfl, f562 := rfl, f433 := rfl, f282 := rfl, f140 := rfl, f439 := rfl, f581 := rfl, f579 := rfl, f585 := rfl, f549 := rfl, f502 := rfl, f503 := rfl, f548 := rfl, f404 := rfl, f231 := rfl, f594 := rfl, f586 := rfl, f550 := rfl, f505 := rfl, f408 := rfl, f398 := rfl, f424 := rfl, f494 := rfl, f496 := rfl, f497 := rfl, f498 := rfl, f499 := rfl, f544 := rfl, f546 := rfl, f580 := rfl, f512 := rfl, f584 := rfl, f558 := rfl, f559 := rfl, f592 := rfl, f582 := rfl, f583 := rfl, f593 := rfl, f563 := rfl, f520 := rfl, f442 := rfl, f441 := rfl, f547 := rfl, f513 := rfl, f501 := rfl, f425 := rfl, f225 := rfl, f111 := rfl, f227 := rfl, f402 := rfl, f504 := rfl, f407 := rfl, f239 := rfl, f406 := rfl, f240 := rfl, f423 := rfl, f399 := rfl, f230 := rfl, f405 := rfl, f232 := rfl, f115 := rfl, f236 := rfl, f271 := rfl, f223 := rfl, f235 := rfl, f422 := rfl, f270 := rfl, f126 := rfl, f130 := rfl, f238 := rfl, f122 := rfl, f249 := rfl, f250 := rfl, f246 := rfl, f247 := rfl, f411 := rfl, f412 := rfl, f248 := rfl, f121 := rfl, f253 := rfl, f327 := rfl, f421 := rfl, f508 := rfl, f509 := rfl, f555 := rfl, f136 := rfl, f256 := rfl, f507 := rfl, f554 := rfl, f553 := rfl, f418 := rfl, f263 := rfl, f262 := rfl, f149 := rfl, f151 := rfl, f304 := rfl, f309 := rfl, f446 := rfl, f450 := rfl, f447 := rfl, f305 := rfl, f448 := rfl, f308 := rfl, f306 := rfl, f307 := rfl, f449 := rfl, f152 := rfl, f303 := rfl, f148 := rfl, f310 := rfl, f150 := rfl, f154 := rfl, f147 := rfl, f311 := rfl, f153 := rfl, f2003 := rfl, f156 := rfl, f265 := rfl, f264 := rfl, f125 := rfl, f155 := rfl }
theorem lives_ : FnW prog 157 [] = some (.bool true) := fnW_call.2 ⟨400, isTrue_eq (by kernel_rfl)⟩
theorem body_ : w89.body = .seq (sqA w89.body) (.seq (sqA (sqB w89.body)) (.seq (.seq (sqA (sqA (sqB (sqB w89.body)))) (.block 0 (.loop aL1 w89_B1) aB0)) w89_c1)) := by kernel_rfl
theorem k0_ : (ob (evO prog orcH 3000 0 (sqA w89.body) ⟨[], [], 0⟩) fun r => ob (norm? r) fun s => ob (evO prog orcH 3000 0 (sqA (sqB w89.body)) s) fun r => ob (norm? r) fun s => ob (evO prog orcH 3000 0 (sqA (sqA (sqB (sqB w89.body)))) s) fun r => ob (norm? r) fun s => canon 0 aL1 s) = some (stK 0) := by kernel_rfl
theorem kE_ : (ob (evO prog orcH 3000 0 w89_B1 (stK 16)) out?) = some (.norm, stE) := by kernel_rfl
theorem kF_ : (ob (evO prog orcH 3000 0 w89_c1 stE) fun r => ob (fnEndW w89.res r) fun r => frzW r.2.1 frzDepth r.1) = some (.bool true) := by kernel_rfl
theorem t0_ : (ob (evO prog orcH 3000 0 w89_B1 (stK 0)) fun r => ob (norm? r) fun s => canon 0 aL1 s) = some (stK 1) := by kernel_rfl
theorem t1_ : (ob (evO prog orcH 3000 0 w89_B1 (stK 1)) fun r => ob (norm? r) fun s => canon 0 aL1 s) = some (stK 2) := by kernel_rfl
theorem t2_ : (ob (evO prog orcH 3000 0 w89_B1 (stK 2)) fun r => ob (norm? r) fun s => canon 0 aL1 s) = some (stK 3) := by kernel_rfl
theorem t3_ : (ob (evO prog orcH 3000 0 w89_B1 (stK 3)) fun r => ob (norm? r) fun s => canon 0 aL1 s) = some (stK 4) := by kernel_rfl
theorem t4_ : (ob (evO prog orcH 3000 0 w89_B1 (stK 4)) fun r => ob (norm? r) fun s => canon 0 aL1 s) = some (stK 5) := by kernel_rfl
theorem t5_ : (ob (evO prog orcH 3000 0 w89_B1 (stK 5)) fun r => ob (norm? r) fun s => canon 0 aL1 s) = some (stK 6) := by kernel_rfl
theorem t6_ : (ob (evO prog orcH 3000 0 w89_B1 (stK 6)) fun r => ob (norm? r) fun s => canon 0 aL1 s) = some (stK 7) := by kernel_rfl
theorem t7_ : (ob (evO prog orcH 3000 0 w89_B1 (stK 7)) fun r => ob (norm? r) fun s => canon 0 aL1 s) = some (stK 8) := by kernel_rfl
theorem t8_ : (ob (evO prog orcH 3000 0 w89_B1 (stK 8)) fun r => ob (norm? r) fun s => canon 0 aL1 s) = some (stK 9) := by kernel_rfl
theorem t9_ : (ob (evO prog orcH 3000 0 w89_B1 (stK 9)) fun r => ob (norm? r) fun s => canon 0 aL1 s) = some (stK 10) := by kernel_rfl
theorem t10_ : (ob (evO prog orcH 3000 0 w89_B1 (stK 10)) fun r => ob (norm? r) fun s => canon 0 aL1 s) = some (stK 11) := by kernel_rfl
theorem t11_ : (ob (evO prog orcH 3000 0 w89_B1 (stK 11)) fun r => ob (norm? r) fun s => canon 0 aL1 s) = some (stK 12) := by kernel_rfl
theorem t12_ : (ob (evO prog orcH 3000 0 w89_B1 (stK 12)) fun r => ob (norm? r) fun s => canon 0 aL1 s) = some (stK 13) := by kernel_rfl
theorem t13_ : (ob (evO prog orcH 3000 0 w89_B1 (stK 13)) fun r => ob (norm? r) fun s => canon 0 aL1 s) = some (stK 14) := by kernel_rfl
theorem t14_ : (ob (evO prog orcH 3000 0 w89_B1 (stK 14)) fun r => ob (norm? r) fun s => canon 0 aL1 s) = some (stK 15) := by kernel_rfl
theorem t15_ : (ob (evO prog orcH 3000 0 w89_B1 (stK 15)) fun r => ob (norm? r) fun s => canon 0 aL1 s) = some (stK 16) := by kernel_rfl
theorem steps_ : ∀ i, i < 16 → HkStep prog 3000 i
 | 0, _ => t0_ | 1, _ => t1_ | 2, _ => t2_ | 3, _ => t3_ | 4, _ => t4_ | 5, _ => t5_ | 6, _ => t6_ | 7, _ => t7_
 | 8, _ => t8_ | 9, _ => t9_ | 10, _ => t10_ | 11, _ => t11_ | 12, _ => t12_ | 13, _ => t13_ | 14, _ => t14_ | 15, _ => t15_
 | n + 16, h => absurd h (by omega)
theorem core89 (vs : List AV) (h : TyAll [] vs) : FnW prog 89 vs = some (.bool true) := by
 match vs, h with
 | [], _ => exact hklaw_ok (orcH_ok hasHk_ (item1_ok has_) lives_) rfl ⟨body_, k0_, kE_, kF_⟩ steps_
theorem args13 : Tryz.f13.params.toList.map (argT Tryz.prog) = ([] : List AT).map some := by kernel_rfl
set_option maxRecDepth 100000 in
theorem lifted13 (os : Os) (started : os.Started) (H : Type) (enc : TypeId × Value → H) :
 ReturnsInHanded {} Tryz.checked os 13 .any (Rows.headsKnownSpec.pre6 enc Tryz.prog Tryz.f13 Rows.headsKnownRow.domain false) (Rows.headsKnownSpec.post enc Tryz.prog Tryz.f13 false true false false) := by
 refine returnsInHanded_of_change (C := Tryz.checked) own_ started (by kernel_rfl) Tryz.func13
  (ChangeSpec.witness6 (enc := enc) (C := Tryz.checked) false ⟨#[], #[], []⟩ 8 (by kernel_rfl) (by kernel_rfl) (by kernel_rfl) (by kernel_rfl)) ?_
 intro W base args ds gs before hval hW hcnd _
 have hW' := hW
 obtain ⟨p, q, hA, hV, rfl, hfz, hnd⟩ := hW
 obtain ⟨rfl, rfl⟩ := trodVars_none hV
 have hlen : ds.length = 0 := (trodAll_len hA).trans (by kernel_rfl)
 refine (law_calls (enc := enc) link okT (f := 89) args13 core89 (fun j t v e1 e2 => hval j t v (by simp at e1) e2) hA).mono ?_
 rintro e W' ⟨rfl, h1, h2, h3, h4⟩
 refine ⟨_, rfl, law_post kids_ full_ rfl hW' ?_ (of_decide_eq_true (by kernel_rfl)) rfl (by kernel_rfl) h1 h2 h3 h4⟩
 match ds, hlen with
 | [], _ => rfl
theorem jA_ : (Rows.headsKnownRow.inPlace == Tryz.pinned.checked.prog.inPlace 13) = true := by kernel_rfl
theorem jB_ : (Rows.headsKnownRow.unfollowed == Tryz.pinned.checked.prog.unfollowed 13) = true := by kernel_rfl
theorem jC_ : (Rows.headsKnownRow.recurses == Tryz.pinned.checked.prog.recurses 13) = true := by kernel_rfl
theorem jD_ : (Rows.headsKnownRow.named == Tryz.pinned.checked.prog.varsNamed 13) = true := by kernel_rfl
theorem jJ_ : laidOutB Tryz.pinned.checked.prog = true := by kernel_rfl
theorem jK_ : mapsRowed Tryz.pinned.checked.prog = true := by kernel_rfl
theorem jF_ : Tryz.pinned.checked.prog.stopsHeard = true := by kernel_rfl
theorem jG_ : Tryz.pinned.checked.prog.mayEnter = true := by kernel_rfl
theorem jH_ : (Rows.headsKnownRow.lifted == Tryz.pinned.checked.prog.liftsFinal) = true := by kernel_rfl
theorem jI_ : (Rows.headsKnownRow.plainKeys == Tryz.pinned.checked.prog.plainKeys) = true := by kernel_rfl
theorem closed_ : joinedFacts Tryz.pinned.checked.prog 13 Tryz.f13 Rows.headsKnownSpec Rows.headsKnownRow = true := by
 unfold joinedFacts
 rw [jA_, jB_, jC_, jD_, jF_, jG_, jH_, jI_, jJ_, jK_]
 kernel_rfl
theorem named_ : Tryz.pinned.checked.prog.funcNamed Rows.headsKnownRow.func = some 13 := by kernel_rfl
theorem inst_ : Tryz.f13.isInstance Tryz.pinned.checked.prog Rows.headsKnownRow.origin Rows.headsKnownRow.targs := of_decide_eq_true (by kernel_rfl)
theorem wrap_ : Tryz.f13.isWrapper Tryz.pinned.checked.prog Rows.headsKnownRow.wrapper Rows.headsKnownRow.mainSum := by
 unfold Func.isWrapper; first | (rw [if_pos (by decide +kernel)]; kernel_rfl) | (rw [if_neg (by decide +kernel)]; exact ⟨rfl, rfl⟩)
theorem headsKnown_holds : Rows.HeadsKnownSaid :=
 OpenClaim.holds_of_wide 13 Tryz.f13 rfl rfl rfl rfl rfl rfl rfl ⟨rfl, rfl, rfl, rfl, rfl⟩ rfl rfl rfl rfl rfl named_ Tryz.func13 closed_ inst_ wrap_
  (fun os started H enc _ => lifted13 os started H enc)
end Go.Proofs.YtfombghmbbfpaaaGreat
