/- The law WindowsBound says true for every input; its arguments read behind the call as before. No conditions. -/
import Derived.Test.YthlmjbfkkkdkoaaGreatT6
namespace Go.Proofs.YthlmjbfkkkdkoaaGreat
open Go.ChangeShapes Go.WideShapes Go.ChangeAt Go.RowKit Go.Pav Go.Pw P Go.D
theorem hasBd_ : HasBd prog := { f561 := rfl, f517 := rfl, f557 := rfl, f556 := rfl, f511 := rfl, f510 := rfl, f560 := rfl, f545 := rfl, f578 := rfl, f543 := rfl, f495 := rfl, f516 := rfl, f500 := rfl, inl := rfl, pp := rfl, f225 := rfl, f111 := rfl, f227 := rfl, f402 := rfl, f240 := rfl, f423 := rfl, f122 := rfl, f249 := rfl, f250 := rfl, f246 := rfl, f247 := rfl, f411 := rfl, f412 := rfl, f248 := rfl, f121 := rfl, f253 := rfl, f272 := rfl, f327 := rfl, f268 := rfl, f419 := rfl, f274 := rfl, f445 := rfl, f177 := rfl, f434 := rfl, f519 := rfl, f518 := rfl, f562 := rfl, f433 := rfl, f282 := rfl, f140 := rfl, f439 := rfl, f581 := rfl, f579 := rfl, f585 := rfl, f549 := rfl, f502 := rfl, f503 := rfl, f548 := rfl, f404 := rfl, f231 := rfl, f594 := rfl, f586 := rfl, f550 := rfl, f505 := rfl, f408 := rfl, f398 := rfl, f424 := rfl, f494 := rfl, f496 := rfl, f497 := rfl, f498 := rfl, f499 := rfl, f544 := rfl, f546 := rfl, f580 := rfl, f512 := rfl, f584 := rfl, f558 := rfl, f559 := rfl, f592 := rfl, f582 := rfl, f583 := rfl, f593 := rfl, f563 := rfl, f520 := rfl, f442 := rfl, f441 := rfl, f547 := rfl, f513 := rfl, f501 := rfl, f425 := rfl, f399 := rfl, f230 := rfl, f405 := rfl, f232 := rfl, f115 := rfl, f271 := rfl, f223 := rfl, f422 := rfl, f270 := rfl, f126 := rfl, f130 := rfl, f132 := rfl, f273 := rfl, f134 := rfl, f256 := rfl, f610 := rfl }
theorem lives_ : FnW prog 129 [] = some (.bool true) := fnW_call.2 ⟨400, isTrue_eq (by kernel_rfl)⟩
theorem core610 (vs : List AV) (h : TyAll [.g [.slice [.int .u8, .int .u8, .int .u8, .int .u8], .slice [.int .u8], .int .u8], .g [.int .u8, .int .u16], .c (.int .u8)] vs) : FnW prog 610 vs = some (.bool true) := by
 match vs, h with
 | [a, b, c], ⟨⟨es, ha, hl, hes⟩, ⟨fs, hb, hl2, hfs⟩, hc, _⟩ =>
  subst ha
  subst hb
  obtain ⟨c1, rfl, h3⟩ := ty_u8 hc
  match es, hl with
  | [x, y, w], _ =>
   obtain ⟨q, qe, rfl, hq⟩ := ty_four (hes 0 _ x rfl rfl)
   obtain ⟨z, ze, rfl, hz, hzl⟩ := ty_bytes2 (hes 1 _ y rfl rfl)
   obtain ⟨r, rfl, hr⟩ := ty_u8 (hes 2 _ w rfl rfl)
   match fs, hl2 with
   | [u, v], _ =>
    obtain ⟨a1, rfl, h1⟩ := ty_u8 (hfs 0 _ u rfl rfl)
    obtain ⟨b1, rfl, h2⟩ := ty_u16 (hfs 1 _ v rfl rfl)
    exact boundlaw_ok hasBd_ (item1_ok has_) lives_ q qe hq z ze hz hzl r hr a1 b1 h1 h2 c1 h3
theorem args6 : Tryz.f6.params.toList.map (argT Tryz.prog) = ([.g [.slice [.int .u8, .int .u8, .int .u8, .int .u8], .slice [.int .u8], .int .u8], .g [.int .u8, .int .u16], .c (.int .u8)] : List AT).map some := by kernel_rfl
set_option maxRecDepth 100000 in
theorem lifted6 (os : Os) (started : os.Started) (H : Type) (enc : TypeId × Value → H) :
 ReturnsInHanded {} Tryz.checked os 6 .any (Rows.windowsBoundSpec.pre6 enc Tryz.prog Tryz.f6 Rows.windowsBoundRow.domain false) (Rows.windowsBoundSpec.post enc Tryz.prog Tryz.f6 false true false false) := by
 refine returnsInHanded_of_change (C := Tryz.checked) own_ started (by kernel_rfl) Tryz.func6
  (ChangeSpec.witness6 (enc := enc) (C := Tryz.checked) false ⟨#[], #[.agg #[.slice none 0 0, .slice none 0 0, .int .u8 0], .agg #[.int .u8 0, .int .u16 0], .int .u8 0], []⟩ 8 (by kernel_rfl) (by kernel_rfl) (by kernel_rfl) (by kernel_rfl)) ?_
 intro W base args ds gs before hval hW hcnd _
 have hW' := hW
 obtain ⟨p, q, hA, hV, rfl, hfz, hnd⟩ := hW
 obtain ⟨rfl, rfl⟩ := trodVars_none hV
 have hlen : ds.length = 3 := (trodAll_len hA).trans (by simp)
 refine (law_calls (enc := enc) link okT (f := 610) args6 core610 (fun j t v e1 e2 => hval j t v (by simpa using e1) e2) hA).mono ?_
 rintro e W' ⟨rfl, h1, h2, h3, h4⟩
 refine ⟨_, rfl, law_post kids_ full_ rfl hW' ?_ (of_decide_eq_true (by kernel_rfl)) rfl (by kernel_rfl) h1 h2 h3 h4⟩
 match ds, hlen with
 | [d1, d2, d3], _ => rfl
theorem windowsBound_holds : Rows.WindowsBoundSaid :=
 OpenClaim.holds_of_wide 6 Tryz.f6 rfl rfl rfl rfl rfl rfl rfl ⟨rfl, rfl, rfl, rfl, rfl⟩ rfl rfl rfl rfl rfl (by kernel_rfl) Tryz.func6 (by kernel_rfl)
  (of_decide_eq_true (by kernel_rfl)) (by unfold Func.isWrapper; first | (rw [if_pos (by decide +kernel)]; kernel_rfl) | (rw [if_neg (by decide +kernel)]; exact ⟨rfl, rfl⟩))
  (fun os started H enc _ => lifted6 os started H enc)
end Go.Proofs.YthlmjbfkkkdkoaaGreat
