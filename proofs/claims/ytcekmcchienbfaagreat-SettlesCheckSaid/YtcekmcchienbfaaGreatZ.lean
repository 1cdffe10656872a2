/- The law SettlesCheck says true for every input; its arguments read behind the call as before. No conditions. -/
import Derived.Test.YtcekmcchienbfaaGreatT8
namespace Go.Proofs.YtcekmcchienbfaaGreat
open Go.ChangeShapes Go.WideShapes Go.ChangeAt Go.RowKit Go.Pav Go.Pw P Go.D
theorem hasSl_:HasSl prog:={ f561:=rfl,f517:=rfl,f557:=rfl,f556:=rfl,f511:=rfl,f510:=rfl,f560:=rfl,f545:=rfl,f578:=rfl,f543:=rfl,f495:=rfl,f516:=rfl,f500:=rfl,inl:=rfl,pp:=rfl,f434:=rfl,f519:=rfl,f518:=rfl,f562:=rfl,f433:=rfl,f282:=rfl,f140:=rfl,f439:=rfl,f581:=rfl,f579:=rfl,f585:=rfl,f549:=rfl,f502:=rfl,f503:=rfl,f548:=rfl,f404:=rfl,f231:=rfl,f594:=rfl,f586:=rfl,f550:=rfl,f505:=rfl,f408:=rfl,f398:=rfl,f424:=rfl,f494:=rfl,f496:=rfl,f497:=rfl,f498:=rfl,f499:=rfl,f544:=rfl,f546:=rfl,f580:=rfl,f512:=rfl,f584:=rfl,f558:=rfl,f559:=rfl,f592:=rfl,f582:=rfl,f583:=rfl,f593:=rfl,f563:=rfl,f520:=rfl,f442:=rfl,f441:=rfl,f547:=rfl,f513:=rfl,f501:=rfl,f425:=rfl,f225:=rfl,f111:=rfl,f227:=rfl,f403:=rfl,f402:=rfl,f224:=rfl,f460:=rfl,f459:=rfl,f340:=rfl,f221:=rfl,f400:=rfl,f219:=rfl,f504:=rfl,f407:=rfl,f239:=rfl,f406:=rfl,f240:=rfl,f423:=rfl,f399:=rfl,f230:=rfl,f405:=rfl,f232:=rfl,f115:=rfl,f236:=rfl,f271:=rfl,f223:=rfl,f235:=rfl,f222:=rfl,f422:=rfl,f270:=rfl,f126:=rfl,f130:=rfl,f122:=rfl,f249:=rfl,f250:=rfl,f246:=rfl,f247:=rfl,f411:=rfl,f412:=rfl,f248:=rfl,f121:=rfl,f251:=rfl,f252:=rfl,f253:=rfl,f272:=rfl,f327:=rfl,f132:=rfl,f273:=rfl,f149:=rfl,f304:=rfl,f131:=rfl,f133:=rfl,f137:=rfl,f276:=rfl,f426:=rfl,f2004:=rfl,f2005:=rfl,f2006:=rfl,f4001:=rfl,f4002:=rfl,f351:=rfl,f465:=rfl,f466:=rfl,f467:=rfl,f2019:=rfl,f3001:=rfl,f3002:=rfl,f3003:=rfl,f3004:=rfl,f322:=rfl,f323:=rfl,f313:=rfl,f161:=rfl,f312:=rfl,f314:=rfl,f319:=rfl,f464:=rfl,f623:=rfl,f318:=rfl,f176:=rfl,f344:=rfl,f622:=rfl,f174:=rfl,f350:=rfl,f348:=rfl,f349:=rfl,f367:=rfl,f1191:=rfl,f1102:=rfl,f1100:=rfl,f379:=rfl,f99:=rfl,f192:=rfl,f201:=rfl,f2016:=rfl,f628:=rfl,f626:=rfl,f617:=rfl }
theorem lives_:FnW prog 178 []=some (.bool true):=fnW_call.2 ⟨6000,isTrue_eq (by kernel_rfl)⟩
theorem ty_hts {a:AV} (h:Ty (.slice [.int .u64,.int .i64]) a):∃ (xs:List Ht) (e:Bool),a=.ro 2 (xs.map eHt) e:=by
 obtain ⟨es,e,rfl,_,hx⟩:=ty_slice h
 obtain ⟨xs,rfl,hr⟩:=ty_map2 (g:=eHt) (R:=fun _=>True) (fun l q=>by
  obtain ⟨q1,q2⟩:=q
  match l,q1 with
  | [u,v],_ =>
   obtain ⟨n1,rfl,h1⟩:=ty_u64 (q2 0 _ u rfl rfl)
   obtain ⟨n2,rfl,h2⟩:=ty_i64 (q2 1 _ v rfl rfl)
   exact ⟨⟨n1,n2⟩,rfl,trivial⟩) es hx
 exact ⟨xs,e,rfl⟩
theorem core617 (vs:List AV) (h:TyAll [.g [.slice [.int .u8,.int .u8,.int .u8,.int .u8],.slice [.int .u8],.int .u8],.g [.slice enT],.g [.int .i64,.int .i64,.int .i64,.bool,.int .u64,.int .i64,.slice [.int .u64,.int .i64]]] vs):FnW prog 617 vs=some (.bool true):=by
 match vs,h with
 | [a,b,c],⟨⟨es,ha,hl,hes⟩,⟨fs,hb,hl2,hfs⟩,⟨gs,hc,hl3,hgs⟩,_⟩ =>
  subst ha
  subst hb
  subst hc
  match es,hl with
  | [x,y,w],_ =>
   obtain ⟨q,qe,rfl,hq⟩:=ty_four (hes 0 _ x rfl rfl)
   obtain ⟨z,ze,rfl,hz,hzl⟩:=ty_bytes2 (hes 1 _ y rfl rfl)
   obtain ⟨r,rfl,hr⟩:=ty_u8 (hes 2 _ w rfl rfl)
   match fs,hl2 with
   | [u],_ =>
    obtain ⟨l,e,rfl,h1,_⟩:=ty_ens (hfs 0 _ u rfl rfl)
    match gs,hl3 with
    | [g1,g2,g3,g4,g5,g6,g7],_ =>
     obtain ⟨v,rfl,_⟩:=ty_i64 (hgs 0 _ g1 rfl rfl)
     obtain ⟨ls,rfl,_⟩:=ty_i64 (hgs 1 _ g2 rfl rfl)
     obtain ⟨ov,rfl,_⟩:=ty_i64 (hgs 2 _ g3 rfl rfl)
     obtain ⟨bad,rfl⟩:=ty_bool (hgs 3 _ g4 rfl rfl)
     obtain ⟨k,rfl,hk⟩:=ty_u64 (hgs 4 _ g5 rfl rfl)
     obtain ⟨d,rfl,_⟩:=ty_i64 (hgs 5 _ g6 rfl rfl)
     obtain ⟨T,te,rfl⟩:=ty_hts (hgs 6 _ g7 rfl rfl)
     exact sclaw_ok hasSl_ lives_ l e v ls ov k d bad T te q qe z ze r (item1_ok has_) hq hz hzl hr (fun x hx=>⟨(h1 x hx).k,(h1 x hx).t,(h1 x hx).s⟩) hk.1
theorem args3:Tryz.f3.params.toList.map (argT Tryz.prog)=([.g [.slice [.int .u8,.int .u8,.int .u8,.int .u8],.slice [.int .u8],.int .u8],.g [.slice enT],.g [.int .i64,.int .i64,.int .i64,.bool,.int .u64,.int .i64,.slice [.int .u64,.int .i64]]]:List AT).map some:=by kernel_rfl
set_option maxRecDepth 100000 in
theorem lifted3 (os:Os) (started:os.Started) (H:Type) (enc:TypeId × Value→H) :
 ReturnsInHanded {} Tryz.checked os 3 .any (Rows.settlesCheckSpec.pre6 enc Tryz.prog Tryz.f3 Rows.settlesCheckRow.domain false) (Rows.settlesCheckSpec.post enc Tryz.prog Tryz.f3 false true false false):=by
 refine returnsInHanded_of_change (C:=Tryz.checked) own_ started (by kernel_rfl) Tryz.func3
  (ChangeSpec.witness6 (enc:=enc) (C:=Tryz.checked) false ⟨#[],#[.agg #[.slice none 0 0,.slice none 0 0,.int .u8 0],.agg #[.slice none 0 0],.agg #[.int .i64 0,.int .i64 0,.int .i64 0,.bool false,.int .u64 0,.int .i64 0,.slice none 0 0]],[]⟩ 8 (by kernel_rfl) (by kernel_rfl) (by kernel_rfl) (by kernel_rfl)) ?_
 intro W base args ds gs before hval hW hcnd _
 have hW':=hW
 obtain ⟨p,q,hA,hV,rfl,hfz,hnd⟩:=hW
 obtain ⟨rfl,rfl⟩:=trodVars_none hV
 have hlen:ds.length=3:=(trodAll_len hA).trans (by simp)
 refine (law_calls (enc:=enc) link okT (f:=617) args3 core617 (fun j t v e1 e2=>hval j t v (by simpa using e1) e2) hA).mono ?_
 rintro e W' ⟨rfl,h1,h2,h3,h4⟩
 refine ⟨_,rfl,law_post kids_ full_ rfl hW' ?_ (of_decide_eq_true (by kernel_rfl)) rfl (by kernel_rfl) h1 h2 h3 h4⟩
 match ds,hlen with
 | [d1,d2,d3],_=>rfl
theorem jA_:(Rows.settlesCheckRow.inPlace == Tryz.pinned.checked.prog.inPlace 3)=true:=by kernel_rfl
theorem jB_:(Rows.settlesCheckRow.unfollowed == Tryz.pinned.checked.prog.unfollowed 3)=true:=by kernel_rfl
theorem jC_:(Rows.settlesCheckRow.recurses == Tryz.pinned.checked.prog.recurses 3)=true:=by kernel_rfl
theorem jD_:(Rows.settlesCheckRow.named == Tryz.pinned.checked.prog.varsNamed 3)=true:=by kernel_rfl
theorem jJ_:laidOutB Tryz.pinned.checked.prog=true:=by kernel_rfl
theorem jK_:mapsRowed Tryz.pinned.checked.prog=true:=by kernel_rfl
theorem jF_:Tryz.pinned.checked.prog.stopsHeard=true:=by kernel_rfl
theorem jG_:Tryz.pinned.checked.prog.mayEnter=true:=by kernel_rfl
theorem jH_:(Rows.settlesCheckRow.lifted == Tryz.pinned.checked.prog.liftsFinal)=true:=by kernel_rfl
theorem jI_:(Rows.settlesCheckRow.plainKeys == Tryz.pinned.checked.prog.plainKeys)=true:=by kernel_rfl
theorem closed_:joinedFacts Tryz.pinned.checked.prog 3 Tryz.f3 Rows.settlesCheckSpec Rows.settlesCheckRow=true:=by
 unfold joinedFacts
 rw [jA_,jB_,jC_,jD_,jF_,jG_,jH_,jI_,jJ_,jK_]
 kernel_rfl
theorem named_:Tryz.pinned.checked.prog.funcNamed Rows.settlesCheckRow.func=some 3:=by kernel_rfl
theorem inst_:Tryz.f3.isInstance Tryz.pinned.checked.prog Rows.settlesCheckRow.origin Rows.settlesCheckRow.targs:=of_decide_eq_true (by kernel_rfl)
theorem wrap_:Tryz.f3.isWrapper Tryz.pinned.checked.prog Rows.settlesCheckRow.wrapper Rows.settlesCheckRow.mainSum:=by
 unfold Func.isWrapper;first | (rw [if_pos (by decide +kernel)];kernel_rfl) | (rw [if_neg (by decide +kernel)];exact ⟨rfl,rfl⟩)
theorem settlesCheck_holds:Rows.SettlesCheckSaid :=
 OpenClaim.holds_of_wide 3 Tryz.f3 rfl rfl rfl rfl rfl rfl rfl ⟨rfl,rfl,rfl,rfl,rfl⟩ rfl rfl rfl rfl rfl named_ Tryz.func3 closed_ inst_ wrap_
  (fun os started H enc _=>lifted3 os started H enc)
end Go.Proofs.YtcekmcchienbfaaGreat
