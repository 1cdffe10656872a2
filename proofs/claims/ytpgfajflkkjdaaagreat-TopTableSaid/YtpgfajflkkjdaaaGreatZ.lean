/- The law TopTable says true for every input; its arguments read behind the call as before. No conditions. -/
import Derived.Test.YtpgfajflkkjdaaaGreatT7
namespace Go.Proofs.YtpgfajflkkjdaaaGreat
open Go.ChangeShapes Go.WideShapes Go.ChangeAt Go.RowKit Go.Pav Go.Pw P Go.D Go.O
theorem hasLw_:HasLw prog:={ f366:=rfl,f386:=rfl,f474:=rfl,f476:=rfl,f475:=rfl,f533:=rfl,f534:=rfl,f535:=rfl,f369:=rfl,f368:=rfl,f472:=rfl,inl:=rfl,pp:=rfl,f372:=rfl,f190:=rfl,f205:=rfl,f197:=rfl,f194:=rfl,f363:=rfl,f387:=rfl,f207:=rfl,f470:=rfl,f471:=rfl,f364:=rfl,f373:=rfl,f536:=rfl,f537:=rfl,f489:=rfl,f392:=rfl,f375:=rfl,f480:=rfl,f374:=rfl,f198:=rfl,f477:=rfl,f2391:=rfl,f479:=rfl,f478:=rfl,f370:=rfl,f371:=rfl,f473:=rfl,f365:=rfl,f98:=rfl,f193:=rfl,f195:=rfl,f196:=rfl,f188:=rfl,f187:=rfl,f101:=rfl,f104:=rfl,f105:=rfl,f95:=rfl,f94:=rfl,f96:=rfl,f189:=rfl,f103:=rfl,f367:=rfl,f1191:=rfl,f1102:=rfl,f1100:=rfl,f99:=rfl,f192:=rfl,f84:=rfl,f2016:=rfl }
theorem lives_:FnW prog 106 []=some (.bool true):=fnW_call.2 ⟨400,isTrue_eq (by kernel_rfl)⟩
theorem core84 (vs:List AV) (h:TyAll [.g [.slice [.int .u8],.bool],.g [.slice [.int .u8,.int .u8]],.c (.int .u8)] vs):FnW prog 84 vs=some (.bool true):=by
 match vs,h with
 | [a,b,c],⟨⟨es,ha,hl,hes⟩,⟨fs,hb,hl2,hfs⟩,hc,_⟩ =>
  subst ha
  subst hb
  obtain ⟨n,rfl,hn⟩:=ty_u8 hc
  match es,hl,fs,hl2 with
  | [x,y],_,[u],_ =>
   obtain ⟨xs,xe,rfl,_,hx⟩:=ty_slice (hes 0 _ x rfl rfl)
   obtain ⟨L,rfl,hL⟩:=ty_map2 (g:=e8) (R:=fun b:Nat=>b < 256) (fun l q=>by
    obtain ⟨q1,q2⟩:=q
    match l,q1 with
    | [v],_ =>
     obtain ⟨k,rfl,h1⟩:=ty_u8 (q2 0 _ v rfl rfl)
     exact ⟨k.toNat,by simp only [e8];rw [Int.toNat_of_nonneg h1.1],by omega⟩) xs hx
   obtain ⟨g,rfl⟩:=ty_bool (hes 1 _ y rfl rfl)
   obtain ⟨ys,ye,rfl,_,hy⟩:=ty_slice (hfs 0 _ u rfl rfl)
   obtain ⟨M,rfl,hM⟩:=ty_map2 (g:=e88) (R:=fun x:Nat × Nat=>x.1 < 256∧x.2 < 256) (fun l q=>by
    obtain ⟨q1,q2⟩:=q
    match l,q1 with
    | [v,w],_ =>
     obtain ⟨k,rfl,h1⟩:=ty_u8 (q2 0 _ v rfl rfl)
     obtain ⟨k',rfl,h2⟩:=ty_u8 (q2 1 _ w rfl rfl)
     exact ⟨(k.toNat,k'.toNat),by simp only [e88];rw [Int.toNat_of_nonneg h1.1,Int.toNat_of_nonneg h2.1],by dsimp only;omega⟩) ys hy
   have h:=toptable_ok hasLw_ lives_ L xe g ye hL M hM n.toNat (by omega)
   rw [Int.toNat_of_nonneg hn.1] at h
   exact h
theorem args3:Tryz.f3.params.toList.map (argT Tryz.prog)=([.g [.slice [.int .u8],.bool],.g [.slice [.int .u8,.int .u8]],.c (.int .u8)]:List AT).map some:=by kernel_rfl
set_option maxRecDepth 100000 in
theorem lifted3 (os:Os) (started:os.Started) (H:Type) (enc:TypeId × Value→H) :
 ReturnsInHanded {} Tryz.checked os 3 .any (Rows.topTableSpec.pre6 enc Tryz.prog Tryz.f3 Rows.topTableRow.domain false) (Rows.topTableSpec.post enc Tryz.prog Tryz.f3 false true false false):=by
 refine returnsInHanded_of_change (C:=Tryz.checked) own_ started (by kernel_rfl) Tryz.func3
  (ChangeSpec.witness6 (enc:=enc) (C:=Tryz.checked) false ⟨#[],#[.agg #[.slice none 0 0,.bool false],.agg #[.slice none 0 0],.int .u8 0],[]⟩ 8 (by kernel_rfl) (by kernel_rfl) (by kernel_rfl) (by kernel_rfl)) ?_
 intro W base args ds gs before hval hW hcnd _
 have hW':=hW
 obtain ⟨p,q,hA,hV,rfl,hfz,hnd⟩:=hW
 obtain ⟨rfl,rfl⟩:=trodVars_none hV
 have hlen:ds.length=3:=(trodAll_len hA).trans (by simp)
 refine (law_calls (enc:=enc) link okT (f:=84) args3 core84 (fun j t v e1 e2=>hval j t v (by simpa using e1) e2) hA).mono ?_
 rintro e W' ⟨rfl,h1,h2,h3,h4⟩
 refine ⟨_,rfl,law_post kids_ full_ rfl hW' ?_ (of_decide_eq_true (by kernel_rfl)) rfl (by kernel_rfl) h1 h2 h3 h4⟩
 match ds,hlen with
 | [d1,d2,d3],_=>rfl
theorem jA_:(Rows.topTableRow.inPlace == Tryz.pinned.checked.prog.inPlace 3)=true:=by kernel_rfl
theorem jB_:(Rows.topTableRow.unfollowed == Tryz.pinned.checked.prog.unfollowed 3)=true:=by kernel_rfl
theorem jC_:(Rows.topTableRow.recurses == Tryz.pinned.checked.prog.recurses 3)=true:=by kernel_rfl
theorem jD_:(Rows.topTableRow.named == Tryz.pinned.checked.prog.varsNamed 3)=true:=by kernel_rfl
theorem jJ_:laidOutB Tryz.pinned.checked.prog=true:=by kernel_rfl
theorem jK_:mapsRowed Tryz.pinned.checked.prog=true:=by kernel_rfl
theorem jF_:Tryz.pinned.checked.prog.stopsHeard=true:=by kernel_rfl
theorem jG_:Tryz.pinned.checked.prog.mayEnter=true:=by kernel_rfl
theorem jH_:(Rows.topTableRow.lifted == Tryz.pinned.checked.prog.liftsFinal)=true:=by kernel_rfl
theorem jI_:(Rows.topTableRow.plainKeys == Tryz.pinned.checked.prog.plainKeys)=true:=by kernel_rfl
theorem closed_:joinedFacts Tryz.pinned.checked.prog 3 Tryz.f3 Rows.topTableSpec Rows.topTableRow=true:=by
 unfold joinedFacts
 rw [jA_,jB_,jC_,jD_,jF_,jG_,jH_,jI_,jJ_,jK_]
 kernel_rfl
theorem named_:Tryz.pinned.checked.prog.funcNamed Rows.topTableRow.func=some 3:=by kernel_rfl
theorem inst_:Tryz.f3.isInstance Tryz.pinned.checked.prog Rows.topTableRow.origin Rows.topTableRow.targs:=of_decide_eq_true (by kernel_rfl)
theorem wrap_:Tryz.f3.isWrapper Tryz.pinned.checked.prog Rows.topTableRow.wrapper Rows.topTableRow.mainSum:=by
 unfold Func.isWrapper;first | (rw [if_pos (by decide +kernel)];kernel_rfl) | (rw [if_neg (by decide +kernel)];exact ⟨rfl,rfl⟩)
theorem topTable_holds:Rows.TopTableSaid :=
 OpenClaim.holds_of_wide 3 Tryz.f3 rfl rfl rfl rfl rfl rfl rfl ⟨rfl,rfl,rfl,rfl,rfl⟩ rfl rfl rfl rfl rfl named_ Tryz.func3 closed_ inst_ wrap_
  (fun os started H enc _=>lifted3 os started H enc)
end Go.Proofs.YtpgfajflkkjdaaaGreat
