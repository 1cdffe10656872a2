/- The law BatchesThen says true for every input; its arguments read behind the call as before. No conditions. -/
import Derived.Test.YtmpenhhlkcehpaaGreatT8
namespace Go.Proofs.YtmpenhhlkcehpaaGreat
open Go.ChangeShapes Go.WideShapes Go.ChangeAt Go.RowKit Go.Pav Go.Pw P Go.D
theorem hasTl_:HasTl prog:={ f561:=rfl,f517:=rfl,f557:=rfl,f556:=rfl,f511:=rfl,f510:=rfl,f560:=rfl,f545:=rfl,f578:=rfl,f543:=rfl,f495:=rfl,f516:=rfl,f500:=rfl,inl:=rfl,pp:=rfl,f52:=rfl,f56:=rfl,f62:=rfl,f65:=rfl,f66:=rfl,f67:=rfl,f1073:=rfl,f74:=rfl,f77:=rfl,f78:=rfl,f79:=rfl,f80:=rfl,f81:=rfl,f82:=rfl,f83:=rfl,f525:=rfl,f564:=rfl,f565:=rfl,f225:=rfl,f111:=rfl,f227:=rfl,f460:=rfl,f459:=rfl,f340:=rfl,f226:=rfl,f221:=rfl,f400:=rfl,f219:=rfl,f504:=rfl,f407:=rfl,f239:=rfl,f406:=rfl,f240:=rfl,f410:=rfl,f112:=rfl,f423:=rfl,f360:=rfl,f469:=rfl,f336:=rfl,f457:=rfl,f333:=rfl,f455:=rfl,f343:=rfl,f342:=rfl,f526:=rfl,f527:=rfl,f528:=rfl,f529:=rfl,f530:=rfl,f434:=rfl,f519:=rfl,f518:=rfl,f562:=rfl,f433:=rfl,f282:=rfl,f140:=rfl,f439:=rfl,f581:=rfl,f579:=rfl,f585:=rfl,f549:=rfl,f502:=rfl,f503:=rfl,f548:=rfl,f404:=rfl,f231:=rfl,f594:=rfl,f586:=rfl,f550:=rfl,f505:=rfl,f408:=rfl,f398:=rfl,f424:=rfl,f494:=rfl,f496:=rfl,f497:=rfl,f498:=rfl,f499:=rfl,f544:=rfl,f546:=rfl,f580:=rfl,f512:=rfl,f584:=rfl,f558:=rfl,f559:=rfl,f592:=rfl,f582:=rfl,f583:=rfl,f593:=rfl,f563:=rfl,f520:=rfl,f442:=rfl,f441:=rfl,f547:=rfl,f513:=rfl,f501:=rfl,f425:=rfl,f399:=rfl,f230:=rfl,f405:=rfl,f232:=rfl,f115:=rfl,f271:=rfl,f223:=rfl,f532:=rfl,f216:=rfl,f222:=rfl,f409:=rfl,f228:=rfl,f229:=rfl,f110:=rfl,f237:=rfl,f114:=rfl,f217:=rfl,f401:=rfl,f220:=rfl,f218:=rfl,f109:=rfl,f108:=rfl,f461:=rfl,f463:=rfl,f241:=rfl,f242:=rfl,f422:=rfl,f270:=rfl,f126:=rfl,f130:=rfl,f462:=rfl,f171:=rfl,f454:=rfl,f357:=rfl,f182:=rfl,f180:=rfl,f3005:=rfl,f184:=rfl,f452:=rfl,f326:=rfl,f625:=rfl,f620:=rfl }
theorem lives_:FnW prog 166 []=some (.bool true):=fnW_call.2 ⟨6000,isTrue_eq (by kernel_rfl)⟩
theorem ty_five {a:AV} (h:Ty (.slice [.int .u8,.int .u8,.int .u8,.int .u8,.int .u8]) a):∃ (xs:List Q5) (e:Bool),a=.ro 5 (xs.map eQ5) e∧(∀ s ∈ xs,Q5In s)∧xs.length < 9223372036854775808:=by
 obtain ⟨es,e,rfl,hl,hx⟩:=ty_slice h
 obtain ⟨xs,rfl,hr⟩:=ty_map2 (g:=eQ5) (R:=Q5In) (fun l q=>by
  obtain ⟨q1,q2⟩:=q
  match l,q1 with
  | [u,v,w,x,y],_ =>
   obtain ⟨n1,rfl,h1⟩:=ty_u8 (q2 0 _ u rfl rfl)
   obtain ⟨n2,rfl,h2⟩:=ty_u8 (q2 1 _ v rfl rfl)
   obtain ⟨n3,rfl,h3⟩:=ty_u8 (q2 2 _ w rfl rfl)
   obtain ⟨n4,rfl,h4⟩:=ty_u8 (q2 3 _ x rfl rfl)
   obtain ⟨n5,rfl,h5⟩:=ty_u8 (q2 4 _ y rfl rfl)
   exact ⟨⟨n1,n2,n3,n4,n5⟩,rfl,h1,h2,h3,h4,h5⟩) es hx
 exact ⟨xs,e,rfl,hr,by simpa using hl⟩
theorem core620 (vs:List AV) (h:TyAll [.g [.slice [.int .u8,.int .u8,.int .u8,.int .u8],.slice [.int .u8],.int .u8],.g [.slice [.int .u8,.int .u8,.int .u8,.int .u8,.int .u8]],.c (.int .u8)] vs):FnW prog 620 vs=some (.bool true):=by
 match vs,h with
 | [a,b,c],⟨⟨es,ha,hl,hes⟩,⟨fs,hb,hl2,hfs⟩,hc,_⟩ =>
  subst ha
  subst hb
  obtain ⟨n,rfl,hn⟩:=ty_u8 hc
  match es,hl,fs,hl2 with
  | [x,y,w],_,[u],_ =>
   obtain ⟨q,qe,rfl,hq⟩:=ty_four (hes 0 _ x rfl rfl)
   obtain ⟨z,ze,rfl,hz,hzl⟩:=ty_bytes2 (hes 1 _ y rfl rfl)
   obtain ⟨r,rfl,hr⟩:=ty_u8 (hes 2 _ w rfl rfl)
   obtain ⟨p,pe,rfl,hp,hpl⟩:=ty_five (hfs 0 _ u rfl rfl)
   exact thlaw_ok hasTl_ (item1_ok has_) lives_ q qe hq z ze hz hzl r hr p pe hp hpl n hn
theorem args12:Tryz.f12.params.toList.map (argT Tryz.prog)=([.g [.slice [.int .u8,.int .u8,.int .u8,.int .u8],.slice [.int .u8],.int .u8],.g [.slice [.int .u8,.int .u8,.int .u8,.int .u8,.int .u8]],.c (.int .u8)]:List AT).map some:=by kernel_rfl
set_option maxRecDepth 100000 in
theorem lifted12 (os:Os) (started:os.Started) (H:Type) (enc:TypeId × Value→H) :
 ReturnsInHanded {} Tryz.checked os 12 .any (Rows.batchesThenSpec.pre6 enc Tryz.prog Tryz.f12 Rows.batchesThenRow.domain false) (Rows.batchesThenSpec.post enc Tryz.prog Tryz.f12 false true false false):=by
 refine returnsInHanded_of_change (C:=Tryz.checked) own_ started (by kernel_rfl) Tryz.func12
  (ChangeSpec.witness6 (enc:=enc) (C:=Tryz.checked) false ⟨#[],#[.agg #[.slice none 0 0,.slice none 0 0,.int .u8 0],.agg #[.slice none 0 0],.int .u8 0],[]⟩ 8 (by kernel_rfl) (by kernel_rfl) (by kernel_rfl) (by kernel_rfl)) ?_
 intro W base args ds gs before hval hW hcnd _
 have hW':=hW
 obtain ⟨p,q,hA,hV,rfl,hfz,hnd⟩:=hW
 obtain ⟨rfl,rfl⟩:=trodVars_none hV
 have hlen:ds.length=3:=(trodAll_len hA).trans (by simp)
 refine (law_calls (enc:=enc) link okT (f:=620) args12 core620 (fun j t v e1 e2=>hval j t v (by simpa using e1) e2) hA).mono ?_
 rintro e W' ⟨rfl,h1,h2,h3,h4⟩
 refine ⟨_,rfl,law_post kids_ full_ rfl hW' ?_ (of_decide_eq_true (by kernel_rfl)) rfl (by kernel_rfl) h1 h2 h3 h4⟩
 match ds,hlen with
 | [d1,d2,d3],_=>rfl
theorem jA_:(Rows.batchesThenRow.inPlace == Tryz.pinned.checked.prog.inPlace 12)=true:=by kernel_rfl
theorem jB_:(Rows.batchesThenRow.unfollowed == Tryz.pinned.checked.prog.unfollowed 12)=true:=by kernel_rfl
theorem jC_:(Rows.batchesThenRow.recurses == Tryz.pinned.checked.prog.recurses 12)=true:=by kernel_rfl
theorem jD_:(Rows.batchesThenRow.named == Tryz.pinned.checked.prog.varsNamed 12)=true:=by kernel_rfl
theorem jJ_:laidOutB Tryz.pinned.checked.prog=true:=by kernel_rfl
theorem jK_:mapsRowed Tryz.pinned.checked.prog=true:=by kernel_rfl
theorem jF_:Tryz.pinned.checked.prog.stopsHeard=true:=by kernel_rfl
theorem jG_:Tryz.pinned.checked.prog.mayEnter=true:=by kernel_rfl
theorem jH_:(Rows.batchesThenRow.lifted == Tryz.pinned.checked.prog.liftsFinal)=true:=by kernel_rfl
theorem jI_:(Rows.batchesThenRow.plainKeys == Tryz.pinned.checked.prog.plainKeys)=true:=by kernel_rfl
theorem closed_:joinedFacts Tryz.pinned.checked.prog 12 Tryz.f12 Rows.batchesThenSpec Rows.batchesThenRow=true:=by
 unfold joinedFacts
 rw [jA_,jB_,jC_,jD_,jF_,jG_,jH_,jI_,jJ_,jK_]
 kernel_rfl
theorem named_:Tryz.pinned.checked.prog.funcNamed Rows.batchesThenRow.func=some 12:=by kernel_rfl
theorem inst_:Tryz.f12.isInstance Tryz.pinned.checked.prog Rows.batchesThenRow.origin Rows.batchesThenRow.targs:=of_decide_eq_true (by kernel_rfl)
theorem wrap_:Tryz.f12.isWrapper Tryz.pinned.checked.prog Rows.batchesThenRow.wrapper Rows.batchesThenRow.mainSum:=by
 unfold Func.isWrapper;first | (rw [if_pos (by decide +kernel)];kernel_rfl) | (rw [if_neg (by decide +kernel)];exact ⟨rfl,rfl⟩)
theorem batchesThen_holds:Rows.BatchesThenSaid :=
 OpenClaim.holds_of_wide 12 Tryz.f12 rfl rfl rfl rfl rfl rfl rfl ⟨rfl,rfl,rfl,rfl,rfl⟩ rfl rfl rfl rfl rfl named_ Tryz.func12 closed_ inst_ wrap_
  (fun os started H enc _=>lifted12 os started H enc)
end Go.Proofs.YtmpenhhlkcehpaaGreat
