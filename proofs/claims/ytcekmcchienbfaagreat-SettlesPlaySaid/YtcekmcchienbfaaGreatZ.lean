/- The law SettlesPlay says true for every input; its arguments read behind the call as before. No conditions. -/
import Derived.Test.YtcekmcchienbfaaGreatT8
namespace Go.Proofs.YtcekmcchienbfaaGreat
open Go.ChangeShapes Go.WideShapes Go.ChangeAt Go.RowKit Go.Pav Go.Pw P Go.D
theorem hasPy_:HasPy prog:={ f561:=rfl,f517:=rfl,f557:=rfl,f556:=rfl,f511:=rfl,f510:=rfl,f560:=rfl,f545:=rfl,f578:=rfl,f543:=rfl,f495:=rfl,f516:=rfl,f500:=rfl,inl:=rfl,pp:=rfl,f434:=rfl,f519:=rfl,f518:=rfl,f562:=rfl,f433:=rfl,f282:=rfl,f140:=rfl,f439:=rfl,f581:=rfl,f579:=rfl,f585:=rfl,f549:=rfl,f502:=rfl,f503:=rfl,f548:=rfl,f404:=rfl,f231:=rfl,f594:=rfl,f586:=rfl,f550:=rfl,f505:=rfl,f408:=rfl,f398:=rfl,f424:=rfl,f494:=rfl,f496:=rfl,f497:=rfl,f498:=rfl,f499:=rfl,f544:=rfl,f546:=rfl,f580:=rfl,f512:=rfl,f584:=rfl,f558:=rfl,f559:=rfl,f592:=rfl,f582:=rfl,f583:=rfl,f593:=rfl,f563:=rfl,f520:=rfl,f442:=rfl,f441:=rfl,f547:=rfl,f513:=rfl,f501:=rfl,f425:=rfl,f225:=rfl,f111:=rfl,f227:=rfl,f403:=rfl,f402:=rfl,f224:=rfl,f460:=rfl,f459:=rfl,f340:=rfl,f221:=rfl,f400:=rfl,f219:=rfl,f504:=rfl,f407:=rfl,f239:=rfl,f406:=rfl,f240:=rfl,f172:=rfl,f112:=rfl,f423:=rfl,f399:=rfl,f230:=rfl,f405:=rfl,f232:=rfl,f115:=rfl,f236:=rfl,f271:=rfl,f223:=rfl,f235:=rfl,f222:=rfl,f422:=rfl,f270:=rfl,f126:=rfl,f130:=rfl,f122:=rfl,f249:=rfl,f250:=rfl,f246:=rfl,f247:=rfl,f411:=rfl,f412:=rfl,f120:=rfl,f248:=rfl,f121:=rfl,f251:=rfl,f252:=rfl,f253:=rfl,f272:=rfl,f327:=rfl,f274:=rfl,f132:=rfl,f273:=rfl,f256:=rfl,f149:=rfl,f304:=rfl,f131:=rfl,f133:=rfl,f137:=rfl,f135:=rfl,f276:=rfl,f426:=rfl,f2004:=rfl,f2005:=rfl,f2006:=rfl,f4001:=rfl,f4002:=rfl,f351:=rfl,f465:=rfl,f466:=rfl,f467:=rfl,f2019:=rfl,f3001:=rfl,f3002:=rfl,f3003:=rfl,f3004:=rfl,f322:=rfl,f323:=rfl,f313:=rfl,f161:=rfl,f312:=rfl,f314:=rfl,f319:=rfl,f464:=rfl,f318:=rfl,f176:=rfl,f344:=rfl,f174:=rfl,f350:=rfl,f348:=rfl,f349:=rfl,f367:=rfl,f1191:=rfl,f1102:=rfl,f1100:=rfl,f379:=rfl,f99:=rfl,f192:=rfl,f201:=rfl,f2016:=rfl,f347:=rfl,f160:=rfl,f321:=rfl,f175:=rfl }
theorem lives_:FnW prog 178 []=some (.bool true):=fnW_call.2 ⟨6000,isTrue_eq (by kernel_rfl)⟩
theorem ty_p2s {a:AV} (h:Ty (.slice [.int .u8,.int .u8]) a):∃ (xs:List P2) (e:Bool),a=.ro 2 (xs.map eP2) e∧∀ x ∈ xs,PIn x:=by
 obtain ⟨es,e,rfl,_,hx⟩:=ty_slice h
 obtain ⟨xs,rfl,hr⟩:=ty_map2 (g:=eP2) (R:=PIn) (fun l q=>by
  obtain ⟨q1,q2⟩:=q
  match l,q1 with
  | [u,v],_ =>
   obtain ⟨n1,rfl,h1⟩:=ty_u8 (q2 0 _ u rfl rfl)
   obtain ⟨n2,rfl,h2⟩:=ty_u8 (q2 1 _ v rfl rfl)
   exact ⟨⟨n1,n2⟩,rfl,h1,h2⟩) es hx
 exact ⟨xs,e,rfl,hr⟩
theorem core175 (vs:List AV) (h:TyAll [.g [.slice [.int .u8,.int .u8,.int .u8,.int .u8],.slice [.int .u8],.int .u8],.g [.int .u8,.int .u16,.int .u8,.slice [.int .u8,.int .u8]],.g [.int .u8,.int .u8]] vs):FnW prog 175 vs=some (.bool true):=by
 match vs,h with
 | [a,b,c],⟨⟨es,ha,hl,hes⟩,⟨fs,hb,hl2,hfs⟩,⟨gs,hc,hl3,hgs⟩,_⟩ =>
  subst ha
  subst hb
  subst hc
  match es,hl with
  | [x,y,w],_ =>
   obtain ⟨q,qe,rfl,hq⟩:=ty_four (hes 0 _ x rfl rfl)
   obtain ⟨z,ze,rfl,hz,hzl⟩:=ty_bytes2 (hes 1 _ y rfl rfl)
   obtain ⟨r,rfl,hr⟩:=ty_u8 (hes 2 _ w rfl rfl)
   match fs,hl2 with
   | [f1,f2,f3,f4],_ =>
    obtain ⟨a1,rfl,h1⟩:=ty_u8 (hfs 0 _ f1 rfl rfl)
    obtain ⟨b1,rfl,h2⟩:=ty_u16 (hfs 1 _ f2 rfl rfl)
    obtain ⟨w1,rfl,h3⟩:=ty_u8 (hfs 2 _ f3 rfl rfl)
    obtain ⟨tb,te,rfl,h4⟩:=ty_p2s (hfs 3 _ f4 rfl rfl)
    match gs,hl3 with
    | [s,t],_ =>
     obtain ⟨c1,rfl,h5⟩:=ty_u8 (hgs 0 _ s rfl rfl)
     obtain ⟨d1,rfl,h6⟩:=ty_u8 (hgs 1 _ t rfl rfl)
     exact pllaw_ok hasPy_ (item1_ok has_) lives_ q qe hq z ze hz hzl r hr a1 b1 w1 h1 h2 h3 tb te h4 c1 d1 h5 h6
theorem args4:Tryz.f4.params.toList.map (argT Tryz.prog)=([.g [.slice [.int .u8,.int .u8,.int .u8,.int .u8],.slice [.int .u8],.int .u8],.g [.int .u8,.int .u16,.int .u8,.slice [.int .u8,.int .u8]],.g [.int .u8,.int .u8]]:List AT).map some:=by kernel_rfl
set_option maxRecDepth 100000 in
theorem lifted4 (os:Os) (started:os.Started) (H:Type) (enc:TypeId × Value→H) :
 ReturnsInHanded {} Tryz.checked os 4 .any (Rows.settlesPlaySpec.pre6 enc Tryz.prog Tryz.f4 Rows.settlesPlayRow.domain false) (Rows.settlesPlaySpec.post enc Tryz.prog Tryz.f4 false true false false):=by
 refine returnsInHanded_of_change (C:=Tryz.checked) own_ started (by kernel_rfl) Tryz.func4
  (ChangeSpec.witness6 (enc:=enc) (C:=Tryz.checked) false ⟨#[],#[.agg #[.slice none 0 0,.slice none 0 0,.int .u8 0],.agg #[.int .u8 0,.int .u16 0,.int .u8 0,.slice none 0 0],.agg #[.int .u8 0,.int .u8 0]],[]⟩ 8 (by kernel_rfl) (by kernel_rfl) (by kernel_rfl) (by kernel_rfl)) ?_
 intro W base args ds gs before hval hW hcnd _
 have hW':=hW
 obtain ⟨p,q,hA,hV,rfl,hfz,hnd⟩:=hW
 obtain ⟨rfl,rfl⟩:=trodVars_none hV
 have hlen:ds.length=3:=(trodAll_len hA).trans (by simp)
 refine (law_calls (enc:=enc) link okT (f:=175) args4 core175 (fun j t v e1 e2=>hval j t v (by simpa using e1) e2) hA).mono ?_
 rintro e W' ⟨rfl,h1,h2,h3,h4⟩
 refine ⟨_,rfl,law_post kids_ full_ rfl hW' ?_ (of_decide_eq_true (by kernel_rfl)) rfl (by kernel_rfl) h1 h2 h3 h4⟩
 match ds,hlen with
 | [d1,d2,d3],_=>rfl
theorem jA_:(Rows.settlesPlayRow.inPlace == Tryz.pinned.checked.prog.inPlace 4)=true:=by kernel_rfl
theorem jB_:(Rows.settlesPlayRow.unfollowed == Tryz.pinned.checked.prog.unfollowed 4)=true:=by kernel_rfl
theorem jC_:(Rows.settlesPlayRow.recurses == Tryz.pinned.checked.prog.recurses 4)=true:=by kernel_rfl
theorem jD_:(Rows.settlesPlayRow.named == Tryz.pinned.checked.prog.varsNamed 4)=true:=by kernel_rfl
theorem jJ_:laidOutB Tryz.pinned.checked.prog=true:=by kernel_rfl
theorem jK_:mapsRowed Tryz.pinned.checked.prog=true:=by kernel_rfl
theorem jF_:Tryz.pinned.checked.prog.stopsHeard=true:=by kernel_rfl
theorem jG_:Tryz.pinned.checked.prog.mayEnter=true:=by kernel_rfl
theorem jH_:(Rows.settlesPlayRow.lifted == Tryz.pinned.checked.prog.liftsFinal)=true:=by kernel_rfl
theorem jI_:(Rows.settlesPlayRow.plainKeys == Tryz.pinned.checked.prog.plainKeys)=true:=by kernel_rfl
theorem closed_:joinedFacts Tryz.pinned.checked.prog 4 Tryz.f4 Rows.settlesPlaySpec Rows.settlesPlayRow=true:=by
 unfold joinedFacts
 rw [jA_,jB_,jC_,jD_,jF_,jG_,jH_,jI_,jJ_,jK_]
 kernel_rfl
theorem named_:Tryz.pinned.checked.prog.funcNamed Rows.settlesPlayRow.func=some 4:=by kernel_rfl
theorem inst_:Tryz.f4.isInstance Tryz.pinned.checked.prog Rows.settlesPlayRow.origin Rows.settlesPlayRow.targs:=of_decide_eq_true (by kernel_rfl)
theorem wrap_:Tryz.f4.isWrapper Tryz.pinned.checked.prog Rows.settlesPlayRow.wrapper Rows.settlesPlayRow.mainSum:=by
 unfold Func.isWrapper;first | (rw [if_pos (by decide +kernel)];kernel_rfl) | (rw [if_neg (by decide +kernel)];exact ⟨rfl,rfl⟩)
theorem settlesPlay_holds:Rows.SettlesPlaySaid :=
 OpenClaim.holds_of_wide 4 Tryz.f4 rfl rfl rfl rfl rfl rfl rfl ⟨rfl,rfl,rfl,rfl,rfl⟩ rfl rfl rfl rfl rfl named_ Tryz.func4 closed_ inst_ wrap_
  (fun os started H enc _=>lifted4 os started H enc)
end Go.Proofs.YtcekmcchienbfaaGreat
