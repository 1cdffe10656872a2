/- The law BatchesKnown says true. No conditions. -/
import Derived.Test.YthoeclhpjbbfhaaGreatT13
namespace Go.Proofs.YthoeclhpjbbfhaaGreat
open Go.ChangeShapes Go.WideShapes Go.ChangeAt Go.RowKit Go.Pav Go.Pw P Go.D
theorem kR_:∀ i,i < 160→stepQ prog (oRT prog 300 60 (oBK prog) i) 300 60 0 a0D w621_B0 (sT i)=some (sT (i+1))
 | 0,_=>kr0_
 | 1,_=>kr1_
 | 2,_=>kr2_
 | 3,_=>kr3_
 | 4,_=>kr4_
 | 5,_=>kr5_
 | 6,_=>kr6_
 | 7,_=>kr7_
 | 8,_=>kr8_
 | 9,_=>kr9_
 | 10,_=>kr10_
 | 11,_=>kr11_
 | 12,_=>kr12_
 | 13,_=>kr13_
 | 14,_=>kr14_
 | 15,_=>kr15_
 | 16,_=>kr16_
 | 17,_=>kr17_
 | 18,_=>kr18_
 | 19,_=>kr19_
 | 20,_=>kr20_
 | 21,_=>kr21_
 | 22,_=>kr22_
 | 23,_=>kr23_
 | 24,_=>kr24_
 | 25,_=>kr25_
 | 26,_=>kr26_
 | 27,_=>kr27_
 | 28,_=>kr28_
 | 29,_=>kr29_
 | 30,_=>kr30_
 | 31,_=>kr31_
 | 32,_=>kr32_
 | 33,_=>kr33_
 | 34,_=>kr34_
 | 35,_=>kr35_
 | 36,_=>kr36_
 | 37,_=>kr37_
 | 38,_=>kr38_
 | 39,_=>kr39_
 | 40,_=>kr40_
 | 41,_=>kr41_
 | 42,_=>kr42_
 | 43,_=>kr43_
 | 44,_=>kr44_
 | 45,_=>kr45_
 | 46,_=>kr46_
 | 47,_=>kr47_
 | 48,_=>kr48_
 | 49,_=>kr49_
 | 50,_=>kr50_
 | 51,_=>kr51_
 | 52,_=>kr52_
 | 53,_=>kr53_
 | 54,_=>kr54_
 | 55,_=>kr55_
 | 56,_=>kr56_
 | 57,_=>kr57_
 | 58,_=>kr58_
 | 59,_=>kr59_
 | 60,_=>kr60_
 | 61,_=>kr61_
 | 62,_=>kr62_
 | 63,_=>kr63_
 | 64,_=>kr64_
 | 65,_=>kr65_
 | 66,_=>kr66_
 | 67,_=>kr67_
 | 68,_=>kr68_
 | 69,_=>kr69_
 | 70,_=>kr70_
 | 71,_=>kr71_
 | 72,_=>kr72_
 | 73,_=>kr73_
 | 74,_=>kr74_
 | 75,_=>kr75_
 | 76,_=>kr76_
 | 77,_=>kr77_
 | 78,_=>kr78_
 | 79,_=>kr79_
 | 80,_=>kr80_
 | 81,_=>kr81_
 | 82,_=>kr82_
 | 83,_=>kr83_
 | 84,_=>kr84_
 | 85,_=>kr85_
 | 86,_=>kr86_
 | 87,_=>kr87_
 | 88,_=>kr88_
 | 89,_=>kr89_
 | 90,_=>kr90_
 | 91,_=>kr91_
 | 92,_=>kr92_
 | 93,_=>kr93_
 | 94,_=>kr94_
 | 95,_=>kr95_
 | 96,_=>kr96_
 | 97,_=>kr97_
 | 98,_=>kr98_
 | 99,_=>kr99_
 | 100,_=>kr100_
 | 101,_=>kr101_
 | 102,_=>kr102_
 | 103,_=>kr103_
 | 104,_=>kr104_
 | 105,_=>kr105_
 | 106,_=>kr106_
 | 107,_=>kr107_
 | 108,_=>kr108_
 | 109,_=>kr109_
 | 110,_=>kr110_
 | 111,_=>kr111_
 | 112,_=>kr112_
 | 113,_=>kr113_
 | 114,_=>kr114_
 | 115,_=>kr115_
 | 116,_=>kr116_
 | 117,_=>kr117_
 | 118,_=>kr118_
 | 119,_=>kr119_
 | 120,_=>kr120_
 | 121,_=>kr121_
 | 122,_=>kr122_
 | 123,_=>kr123_
 | 124,_=>kr124_
 | 125,_=>kr125_
 | 126,_=>kr126_
 | 127,_=>kr127_
 | 128,_=>kr128_
 | 129,_=>kr129_
 | 130,_=>kr130_
 | 131,_=>kr131_
 | 132,_=>kr132_
 | 133,_=>kr133_
 | 134,_=>kr134_
 | 135,_=>kr135_
 | 136,_=>kr136_
 | 137,_=>kr137_
 | 138,_=>kr138_
 | 139,_=>kr139_
 | 140,_=>kr140_
 | 141,_=>kr141_
 | 142,_=>kr142_
 | 143,_=>kr143_
 | 144,_=>kr144_
 | 145,_=>kr145_
 | 146,_=>kr146_
 | 147,_=>kr147_
 | 148,_=>kr148_
 | 149,_=>kr149_
 | 150,_=>kr150_
 | 151,_=>kr151_
 | 152,_=>kr152_
 | 153,_=>kr153_
 | 154,_=>kr154_
 | 155,_=>kr155_
 | 156,_=>kr156_
 | 157,_=>kr157_
 | 158,_=>kr158_
 | 159,_=>kr159_
 | n+160,h=>absurd h (by omega)
theorem au:Go.Rm.Has prog:={ f578:=rfl,f543:=rfl,inl:=rfl,pp:=rfl,f56:=rfl }
theorem ak:FnW prog 621 []=some (.bool true):=bklaw_ok rfl rfl au dS ⟨dP,kF_,jY,eU,kS_,iQ,kD,dN,lV,gB,iC,kR_,iL,cO⟩
theorem aj (vs:List AV) (h:TyAll [] vs):FnW prog 621 vs=some (.bool true):=by
 match vs,h with
 | [],_=>exact ak
theorem cu:Tryz.f4.params.toList.map (argT Tryz.prog)=([]:List AT).map some:=by kernel_rfl
set_option maxRecDepth 100000 in
theorem lifted4 (os:Os) (started:os.Started) (H:Type) (enc:TypeId × Value→H) :
 ReturnsInHanded {} Tryz.checked os 4 .any (Rows.batchesKnownSpec.pre6 enc Tryz.prog Tryz.f4 Rows.batchesKnownRow.domain false) (Rows.batchesKnownSpec.post enc Tryz.prog Tryz.f4 false true false false):=by
 refine returnsInHanded_of_change (C:=Tryz.checked) own_ started (by kernel_rfl) Tryz.func4
  (ChangeSpec.witness6 (enc:=enc) (C:=Tryz.checked) false ⟨#[],#[],[]⟩ 8 (by kernel_rfl) (by kernel_rfl) (by kernel_rfl) (by kernel_rfl)) ?_
 intro W base args ds gs before hval hW hcnd _
 have hW':=hW
 obtain ⟨p,q,hA,hV,rfl,hfz,hnd⟩:=hW
 obtain ⟨rfl,rfl⟩:=trodVars_none hV
 have hlen:ds.length=0:=(trodAll_len hA).trans (by kernel_rfl)
 refine (law_calls (enc:=enc) link okT (f:=621) cu aj (fun j t v e1 e2=>hval j t v (by simp at e1) e2) hA).mono ?_
 rintro e W' ⟨rfl,h1,h2,h3,h4⟩
 refine ⟨_,rfl,law_post kids_ full_ rfl hW' ?_ (of_decide_eq_true (by kernel_rfl)) rfl (by kernel_rfl) h1 h2 h3 h4⟩
 match ds,hlen with
 | [],_=>rfl
theorem jA_:(Rows.batchesKnownRow.inPlace == Tryz.pinned.checked.prog.inPlace 4)=true:=by kernel_rfl
theorem jB_:(Rows.batchesKnownRow.unfollowed == Tryz.pinned.checked.prog.unfollowed 4)=true:=by kernel_rfl
theorem jC_:(Rows.batchesKnownRow.recurses == Tryz.pinned.checked.prog.recurses 4)=true:=by kernel_rfl
theorem jD_:(Rows.batchesKnownRow.named == Tryz.pinned.checked.prog.varsNamed 4)=true:=by kernel_rfl
theorem jJ_:laidOutB Tryz.pinned.checked.prog=true:=by kernel_rfl
theorem jK_:mapsRowed Tryz.pinned.checked.prog=true:=by kernel_rfl
theorem jF_:Tryz.pinned.checked.prog.stopsHeard=true:=by kernel_rfl
theorem jG_:Tryz.pinned.checked.prog.mayEnter=true:=by kernel_rfl
theorem jH_:(Rows.batchesKnownRow.lifted == Tryz.pinned.checked.prog.liftsFinal)=true:=by kernel_rfl
theorem jI_:(Rows.batchesKnownRow.plainKeys == Tryz.pinned.checked.prog.plainKeys)=true:=by kernel_rfl
theorem closed_:joinedFacts Tryz.pinned.checked.prog 4 Tryz.f4 Rows.batchesKnownSpec Rows.batchesKnownRow=true:=by
 unfold joinedFacts
 rw [jA_,jB_,jC_,jD_,jF_,jG_,jH_,jI_,jJ_,jK_]
 kernel_rfl
theorem named_:Tryz.pinned.checked.prog.funcNamed Rows.batchesKnownRow.func=some 4:=by kernel_rfl
theorem inst_:Tryz.f4.isInstance Tryz.pinned.checked.prog Rows.batchesKnownRow.origin Rows.batchesKnownRow.targs:=of_decide_eq_true (by kernel_rfl)
theorem wrap_:Tryz.f4.isWrapper Tryz.pinned.checked.prog Rows.batchesKnownRow.wrapper Rows.batchesKnownRow.mainSum:=by
 unfold Func.isWrapper;first | (rw [if_pos (by decide +kernel)];kernel_rfl) | (rw [if_neg (by decide +kernel)];exact ⟨rfl,rfl⟩)
theorem batchesKnown_holds:Rows.BatchesKnownSaid :=
 OpenClaim.holds_of_wide 4 Tryz.f4 rfl rfl rfl rfl rfl rfl rfl ⟨rfl,rfl,rfl,rfl,rfl⟩ rfl rfl rfl rfl rfl named_ Tryz.func4 closed_ inst_ wrap_
  (fun os started H enc _=>lifted4 os started H enc)
end Go.Proofs.YthoeclhpjbbfhaaGreat
