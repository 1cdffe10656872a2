/- The law ModelsNone says true for every input; its argument reads behind the call as before. The row's condition on package errors' variable errorType is tied to the program's text by the given tie. No other conditions. -/
import Derived.Test.YtggfejahifmgoaaGreatDoorT6
import Derived.Test.YtggfejahifmgoaaGreatDoorCards
import Derived.Test.YtggfejahifmgoaaGreatDoorTie
import Derived.ChangeVars
import Derived.SevenTiedAt
namespace Go.Proofs.YtggfejahifmgoaaGreatDoor
open Go.ChangeShapes Go.WideShapes Go.ChangeAt Go.RowKit Go.Pav Go.Pw P Go.D
theorem a0_:(ob (seqO prog noM 6000 0 (csM++[hdM]) stM0) (canon 0 aMl))=some (stMo 0):=by kernel_rfl
theorem al0_:iterO prog noM 6000 0 aMl w634_B0 1 (stMo 0)=some (stMo 1):=by kernel_rfl
theorem al1_:iterO prog noM 6000 0 aMl w634_B0 1 (stMo 1)=some (stMo 2):=by kernel_rfl
theorem al2_:iterO prog noM 6000 0 aMl w634_B0 1 (stMo 2)=some (stMo 3):=by kernel_rfl
theorem al3_:iterO prog noM 6000 0 aMl w634_B0 1 (stMo 3)=some (stMo 4):=by kernel_rfl
theorem al4_:iterO prog noM 6000 0 aMl w634_B0 1 (stMo 4)=some (stMo 5):=by kernel_rfl
theorem al5_:iterO prog noM 6000 0 aMl w634_B0 1 (stMo 5)=some (stMo 6):=by kernel_rfl
theorem al6_:iterO prog noM 6000 0 aMl w634_B0 1 (stMo 6)=some (stMo 7):=by kernel_rfl
theorem al7_:iterO prog noM 6000 0 aMl w634_B0 1 (stMo 7)=some (stMo 8):=by kernel_rfl
theorem al8_:iterO prog noM 6000 0 aMl w634_B0 1 (stMo 8)=some (stMo 9):=by kernel_rfl
theorem aE_:leaveO prog noM 6000 0 0 aMe w634_B0 (stMo 9)=some stM0:=by kernel_rfl
theorem f_:(ob (evO prog noM 6000 0 w634_c0 stM0) fun r=>ob (fnEndW w634.res r) fun r=>frzW r.2.1 frzDepth r.1)=some (.bool true):=by kernel_rfl
theorem aL_:∀ i,i < 9→iterO prog noM 6000 0 aMl w634_B0 1 (stMo (i * 1))=some (stMo (i * 1+1))
 | 0,_=>al0_
 | 1,_=>al1_
 | 2,_=>al2_
 | 3,_=>al3_
 | 4,_=>al4_
 | 5,_=>al5_
 | 6,_=>al6_
 | 7,_=>al7_
 | 8,_=>al8_
 | n+9,h=>absurd h (by omega)
theorem lives_:FnW prog 634 []=some (.bool true):=lvm_ok rfl ⟨a0_,aL_,aE_,f_⟩
theorem none_:NoneRun prog:=⟨lives_,fnW_call.2 ⟨200,by kernel_rfl⟩,fnW_call.2 ⟨200,by kernel_rfl⟩,fnW_call.2 ⟨200,by kernel_rfl⟩,fnW_call.2 ⟨200,by kernel_rfl⟩,fnW_call.2 ⟨200,by kernel_rfl⟩,fnW_call.2 ⟨200,by kernel_rfl⟩,
 fnW_call.2 ⟨200,by kernel_rfl⟩,fnW_call.2 ⟨200,by kernel_rfl⟩,fnW_call.2 ⟨200,by kernel_rfl⟩,fnW_call.2 ⟨200,by kernel_rfl⟩,fnW_call.2 ⟨200,by kernel_rfl⟩⟩
theorem hasNo_:HasNo prog:=⟨rfl,rfl,rfl,rfl⟩
theorem core632 (vs:List AV) (h:TyAll [.g [.int .u8,.int .i64,.int .u64,.slice [.int .u8,.int .i64,.int .i64,.int .i64,.slice [.int .u64,.int .u8,.str,.slice [.str]]],.slice [.int .u64,.int .i64]]] vs):FnW prog 632 vs=some (.bool true):=by
 match vs,h with
 | [a],⟨⟨es,ha,hl,hes⟩,_⟩ =>
  subst ha
  match es,hl with
  | [x,y,z,n,t],_ =>
   obtain ⟨x,rfl,_⟩:=ty_u8 (hes 0 _ x rfl rfl)
   obtain ⟨y,rfl,_⟩:=ty_i64 (hes 1 _ y rfl rfl)
   obtain ⟨z,rfl,_⟩:=ty_u64 (hes 2 _ z rfl rfl)
   obtain ⟨ns,e1,rfl,_⟩:=ty_slice (hes 3 _ n rfl rfl)
   obtain ⟨hs,e2,rfl,_⟩:=ty_slice (hes 4 _ t rfl rfl)
   exact none_ok hasNo_ none_ x y z ns hs e1 e2
theorem args4:Tryz.f4.params.toList.map (argT Tryz.prog)=([.g [.int .u8,.int .i64,.int .u64,.slice [.int .u8,.int .i64,.int .i64,.int .i64,.slice [.int .u64,.int .u8,.str,.slice [.str]]],.slice [.int .u64,.int .i64]]]:List AT).map some:=by kernel_rfl
set_option maxRecDepth 100000 in
theorem lifted4 (os:Os) (started:os.Started) (H:Type) (enc:TypeId × Value→H) :
 ReturnsInHanded {} Tryz.checked os 4 .any (fun w args=>(Rows.modelsNoneSpec.pre enc Tryz.prog Tryz.f4 [] false w args∧laidMetH Tryz.prog laid_ w)∧sizedMet enc Tryz.prog Tryz.f4 (OpenSpec.ofChange Rows.modelsNoneSpec) false w args)
  (Rows.modelsNoneSpec.post enc Tryz.prog Tryz.f4 false true false false):=by
 refine returnsInHanded_of_change_and (C:=Tryz.checked) (X:=fun w _=>laidMetH Tryz.prog laid_ w) (fun _ _ _ hh h=>h.of_heap hh) own_ started (by kernel_rfl) Tryz.func4
  (ChangeSpec.witness_at (enc:=enc) (C:=Tryz.checked) (os:=os) (X:=fun w _=>laidMetH Tryz.prog laid_ w) false (laidWorld os) #[.agg #[.int .u8 0,.int .i64 0,.int .u64 0,.slice none 0 0,.slice none 0 0]] 8 rfl (by kernel_rfl) (by kernel_rfl) (by kernel_rfl) (by kernel_rfl) (by kernel_rfl) (laidWorld_met os _)) ?_
 intro W base args ds gs before hval hW _ _ hL _
 have hW':=hW
 obtain ⟨p,q,hA,hV,rfl,hfz,hnd⟩:=hW
 obtain ⟨rfl,rfl⟩:=trodVars_none hV
 have hlen:ds.length=1:=(trodAll_len hA).trans (by simp)
 refine (law_callsL (enc:=enc) (link (layOf_as hL)) okT (layOf_met W) (f:=632) args4 core632 (fun j t v e1 e2=>hval j t v (by simpa using e1) e2) hA).mono ?_
 rintro e W' ⟨rfl,h1,h2,h3,h4⟩
 refine ⟨_,rfl,law_post kids_ full_ rfl hW' ?_ (of_decide_eq_true (by kernel_rfl)) rfl (by kernel_rfl) h1 h2 h3 h4⟩
 match ds,hlen with
 | [d1],_=>rfl
theorem jA_:(Rows.modelsNoneRow.inPlace == Tryz.pinned.checked.prog.inPlace 4)=true:=by kernel_rfl
theorem jB_:(Rows.modelsNoneRow.unfollowed == Tryz.pinned.checked.prog.unfollowed 4)=true:=by kernel_rfl
theorem jC_:(Rows.modelsNoneRow.recurses == Tryz.pinned.checked.prog.recurses 4)=true:=by kernel_rfl
theorem jD_:(Rows.modelsNoneRow.named == Tryz.pinned.checked.prog.varsNamed 4)=true:=by kernel_rfl
theorem jJ_:laidOutB Tryz.pinned.checked.prog=true:=by kernel_rfl
theorem jK_:mapsRowed Tryz.pinned.checked.prog=true:=by kernel_rfl
theorem jF_:Tryz.pinned.checked.prog.stopsHeard=true:=by kernel_rfl
theorem jG_:Tryz.pinned.checked.prog.mayEnter=true:=by kernel_rfl
theorem jH_:(Rows.modelsNoneRow.lifted == Tryz.pinned.checked.prog.liftsFinal)=true:=by kernel_rfl
theorem jI_:(Rows.modelsNoneRow.plainKeys == Tryz.pinned.checked.prog.plainKeys)=true:=by kernel_rfl
theorem closed_:joinedFacts Tryz.pinned.checked.prog 4 Tryz.f4 Rows.modelsNoneSpec Rows.modelsNoneRow=true:=by
 unfold joinedFacts
 rw [jA_,jB_,jC_,jD_,jF_,jG_,jH_,jI_,jJ_,jK_]
 kernel_rfl
theorem named_:Tryz.pinned.checked.prog.funcNamed Rows.modelsNoneRow.func=some 4:=by kernel_rfl
theorem inst_:Tryz.f4.isInstance Tryz.pinned.checked.prog Rows.modelsNoneRow.origin Rows.modelsNoneRow.targs:=of_decide_eq_true (by kernel_rfl)
theorem wrap_:Tryz.f4.isWrapper Tryz.pinned.checked.prog Rows.modelsNoneRow.wrapper Rows.modelsNoneRow.mainSum:=by
 unfold Func.isWrapper;first | (rw [if_pos (by decide +kernel)];kernel_rfl) | (rw [if_neg (by decide +kernel)];exact ⟨rfl,rfl⟩)
theorem row_holds:Rows.ModelsNoneSaid :=
 OpenClaim.holds_of_wide 4 Tryz.f4 rfl rfl rfl rfl rfl rfl rfl ⟨rfl,rfl,rfl,rfl,rfl⟩ rfl rfl rfl rfl rfl named_ Tryz.func4 closed_ inst_ wrap_
  (fun os started H enc _=>lifted4 os started H enc)
theorem stand_:Tryz.f4.params.toList.all (fun t=>Tryz.prog.wantsStandIn t == false)=true:=by kernel_rfl
theorem modelsNone_holds:Rows.ModelsNoneCardSaid :=
 Claim7.holds_tied_plain_at .later [] [.handle] true Rows.modelsNoneCard.stood.harness true
  row_holds (fun _ h=>by cases h) (by kernel_rfl) (fun _ h=>by cases h) modelsNone_row_tie rfl ⟨rfl,rfl⟩ (by kernel_rfl) rfl
  (fun f fn hf hfn=>by
   obtain rfl:f=4:=Option.some.inj (named_.symm.trans hf) |>.symm
   obtain rfl:fn=Tryz.f4:=(Option.some.inj (Tryz.func4.symm.trans hfn)).symm
   exact ⟨by kernel_rfl,fun j t ht=>by
    have:=List.all_eq_true.1 stand_ t (List.mem_of_getElem? (by simpa using ht))
    exact (show Tryz.prog.wantsStandIn t=false by simpa using this)⟩)
  (by kernel_rfl)
end Go.Proofs.YtggfejahifmgoaaGreatDoor
