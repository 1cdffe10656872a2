/- The law BatchesErrors says true for every input; its arguments read behind the call as before. No conditions. -/
import Derived.Test.YtmpenhhlkcehpaaGreatT8
namespace Go.Proofs.YtmpenhhlkcehpaaGreat
open Go.ChangeShapes Go.WideShapes Go.ChangeAt Go.RowKit Go.Pav Go.Pw P Go.D
theorem hasBe_:HasBe prog:={ f561:=rfl,f517:=rfl,f557:=rfl,f556:=rfl,f511:=rfl,f510:=rfl,f560:=rfl,f545:=rfl,f578:=rfl,f543:=rfl,f495:=rfl,f516:=rfl,f500:=rfl,inl:=rfl,pp:=rfl,f52:=rfl,f56:=rfl,f62:=rfl,f65:=rfl,f66:=rfl,f67:=rfl,f1073:=rfl,f74:=rfl,f77:=rfl,f78:=rfl,f79:=rfl,f80:=rfl,f81:=rfl,f82:=rfl,f83:=rfl,f525:=rfl,f564:=rfl,f565:=rfl,f225:=rfl,f111:=rfl,f227:=rfl,f460:=rfl,f459:=rfl,f340:=rfl,f226:=rfl,f221:=rfl,f400:=rfl,f219:=rfl,f504:=rfl,f407:=rfl,f239:=rfl,f406:=rfl,f240:=rfl,f410:=rfl,f112:=rfl,f423:=rfl,f360:=rfl,f469:=rfl,f336:=rfl,f457:=rfl,f333:=rfl,f455:=rfl,f343:=rfl,f342:=rfl,f526:=rfl,f527:=rfl,f528:=rfl,f529:=rfl,f530:=rfl,f434:=rfl,f519:=rfl,f518:=rfl,f562:=rfl,f433:=rfl,f282:=rfl,f140:=rfl,f439:=rfl,f581:=rfl,f579:=rfl,f585:=rfl,f549:=rfl,f502:=rfl,f503:=rfl,f548:=rfl,f404:=rfl,f231:=rfl,f594:=rfl,f586:=rfl,f550:=rfl,f505:=rfl,f408:=rfl,f398:=rfl,f424:=rfl,f494:=rfl,f496:=rfl,f497:=rfl,f498:=rfl,f499:=rfl,f544:=rfl,f546:=rfl,f580:=rfl,f512:=rfl,f584:=rfl,f558:=rfl,f559:=rfl,f592:=rfl,f582:=rfl,f583:=rfl,f593:=rfl,f563:=rfl,f520:=rfl,f442:=rfl,f441:=rfl,f547:=rfl,f513:=rfl,f501:=rfl,f425:=rfl,f399:=rfl,f230:=rfl,f405:=rfl,f232:=rfl,f115:=rfl,f236:=rfl,f271:=rfl,f223:=rfl,f235:=rfl,f532:=rfl,f216:=rfl,f222:=rfl,f409:=rfl,f228:=rfl,f229:=rfl,f110:=rfl,f237:=rfl,f114:=rfl,f217:=rfl,f401:=rfl,f220:=rfl,f218:=rfl,f109:=rfl,f108:=rfl,f461:=rfl,f463:=rfl,f241:=rfl,f242:=rfl,f422:=rfl,f270:=rfl,f126:=rfl,f462:=rfl,f171:=rfl,f170:=rfl,f454:=rfl,f357:=rfl,f182:=rfl,f180:=rfl,f183:=rfl,f2003:=rfl,f619:=rfl }
theorem lives_:FnW prog 166 []=some (.bool true):=fnW_call.2 ⟨6000,isTrue_eq (by kernel_rfl)⟩
theorem ty_its {a:AV} (h:Ty (.slice [.int .u64,.int .u8,.str,.slice [.str]]) a):∃ (xs:List Go.D.It) (e:Bool),a=.ro 4 (xs.map Go.D.cIt) e∧∀ y ∈ xs,(0≤y.k∧y.k < 18446744073709551616)∧0≤y.t∧y.t≤255:=by
 obtain ⟨es,e,rfl,_,hx⟩:=ty_slice h
 obtain ⟨xs,rfl,hr⟩:=ty_map2 (g:=Go.D.cIt) (R:=fun y:Go.D.It=>(0≤y.k∧y.k < 18446744073709551616)∧0≤y.t∧y.t≤255) (fun l q=>by
  obtain ⟨q1,q2⟩:=q
  match l,q1 with
  | [u,v,w,x],_ =>
   obtain ⟨n1,rfl,h1⟩:=ty_u64 (q2 0 _ u rfl rfl)
   obtain ⟨n2,rfl,h2⟩:=ty_u8 (q2 1 _ v rfl rfl)
   obtain ⟨s,rfl,h3⟩:=ty_str (q2 2 _ w rfl rfl)
   obtain ⟨m,me,rfl,_,h4⟩:=ty_slice (q2 3 _ x rfl rfl)
   obtain ⟨ms,rfl,_⟩:=ty_map2 (g:=eS) (R:=fun _:Go.D.Bs=>True) (fun l q=>by
    obtain ⟨q1,q2⟩:=q
    match l,q1 with
    | [v],_ =>
     obtain ⟨n,rfl,_⟩:=ty_str (q2 0 _ v rfl rfl)
     exact ⟨n,rfl,trivial⟩) m h4
   exact ⟨⟨n1,n2,s,ms,me⟩,rfl,⟨h1.1,by simp only;omega⟩,h2⟩) es hx
 exact ⟨xs,e,rfl,hr⟩
theorem core619 (vs:List AV) (h:TyAll [.g [.slice [.int .u8,.int .u8,.int .u8,.int .u8],.slice [.int .u8],.int .u8],.g enT,.g [.int .u8,.int .i64,.int .i64,.int .i64,.slice [.int .u64,.int .u8,.str,.slice [.str]],.int .u8]] vs):FnW prog 619 vs=some (.bool true):=by
 match vs,h with
 | [a,b,c],⟨⟨es,ha,hl,hes⟩,⟨fs,hb,hl2,hfs⟩,⟨gs,hc,hl3,hgs⟩,_⟩ =>
  subst ha
  subst hb
  subst hc
  obtain ⟨e,rfl,he⟩:=ty_en hl2 hfs
  match es,hl with
  | [x,y,w],_ =>
   obtain ⟨q,qe,rfl,hq⟩:=ty_four (hes 0 _ x rfl rfl)
   obtain ⟨z,ze,rfl,hz,hzl⟩:=ty_bytes2 (hes 1 _ y rfl rfl)
   obtain ⟨r,rfl,hr⟩:=ty_u8 (hes 2 _ w rfl rfl)
   match gs,hl3 with
   | [g0,g1,g2,g3,g4,g5],_ =>
    obtain ⟨k,rfl,_⟩:=ty_u8 (hgs 0 _ g0 rfl rfl)
    obtain ⟨a1,rfl,_⟩:=ty_i64 (hgs 1 _ g1 rfl rfl)
    obtain ⟨a2,rfl,_⟩:=ty_i64 (hgs 2 _ g2 rfl rfl)
    obtain ⟨a3,rfl,_⟩:=ty_i64 (hgs 3 _ g3 rfl rfl)
    obtain ⟨xs,xe,rfl,_⟩:=ty_its (hgs 4 _ g4 rfl rfl)
    obtain ⟨w1,rfl,h1⟩:=ty_u8 (hgs 5 _ g5 rfl rfl)
    exact belaw_ok hasBe_ (item1_ok has_) lives_ q qe hq z ze hz hzl r hr e he.k he.t he.s ⟨k,a1,a2,a3,xs,xe⟩ w1 h1
theorem args9:Tryz.f9.params.toList.map (argT Tryz.prog)=([.g [.slice [.int .u8,.int .u8,.int .u8,.int .u8],.slice [.int .u8],.int .u8],.g enT,.g [.int .u8,.int .i64,.int .i64,.int .i64,.slice [.int .u64,.int .u8,.str,.slice [.str]],.int .u8]]:List AT).map some:=by kernel_rfl
set_option maxRecDepth 100000 in
theorem lifted9 (os:Os) (started:os.Started) (H:Type) (enc:TypeId × Value→H) :
 ReturnsInHanded {} Tryz.checked os 9 .any (Rows.batchesErrorsSpec.pre6 enc Tryz.prog Tryz.f9 Rows.batchesErrorsRow.domain false) (Rows.batchesErrorsSpec.post enc Tryz.prog Tryz.f9 false true false false):=by
 refine returnsInHanded_of_change (C:=Tryz.checked) own_ started (by kernel_rfl) Tryz.func9
  (ChangeSpec.witness6 (enc:=enc) (C:=Tryz.checked) false ⟨#[],#[.agg #[.slice none 0 0,.slice none 0 0,.int .u8 0],.agg #[.int .u64 0,.int .u8 0,.string .empty,.slice none 0 0,.int .i64 0,.bool false],.agg #[.int .u8 0,.int .i64 0,.int .i64 0,.int .i64 0,.slice none 0 0,.int .u8 0]],[]⟩ 8 (by kernel_rfl) (by kernel_rfl) (by kernel_rfl) (by kernel_rfl)) ?_
 intro W base args ds gs before hval hW hcnd _
 have hW':=hW
 obtain ⟨p,q,hA,hV,rfl,hfz,hnd⟩:=hW
 obtain ⟨rfl,rfl⟩:=trodVars_none hV
 have hlen:ds.length=3:=(trodAll_len hA).trans (by simp)
 refine (law_calls (enc:=enc) link okT (f:=619) args9 core619 (fun j t v e1 e2=>hval j t v (by simpa using e1) e2) hA).mono ?_
 rintro e W' ⟨rfl,h1,h2,h3,h4⟩
 refine ⟨_,rfl,law_post kids_ full_ rfl hW' ?_ (of_decide_eq_true (by kernel_rfl)) rfl (by kernel_rfl) h1 h2 h3 h4⟩
 match ds,hlen with
 | [d1,d2,d3],_=>rfl
theorem jA_:(Rows.batchesErrorsRow.inPlace == Tryz.pinned.checked.prog.inPlace 9)=true:=by kernel_rfl
theorem jB_:(Rows.batchesErrorsRow.unfollowed == Tryz.pinned.checked.prog.unfollowed 9)=true:=by kernel_rfl
theorem jC_:(Rows.batchesErrorsRow.recurses == Tryz.pinned.checked.prog.recurses 9)=true:=by kernel_rfl
theorem jD_:(Rows.batchesErrorsRow.named == Tryz.pinned.checked.prog.varsNamed 9)=true:=by kernel_rfl
theorem jJ_:laidOutB Tryz.pinned.checked.prog=true:=by kernel_rfl
theorem jK_:mapsRowed Tryz.pinned.checked.prog=true:=by kernel_rfl
theorem jF_:Tryz.pinned.checked.prog.stopsHeard=true:=by kernel_rfl
theorem jG_:Tryz.pinned.checked.prog.mayEnter=true:=by kernel_rfl
theorem jH_:(Rows.batchesErrorsRow.lifted == Tryz.pinned.checked.prog.liftsFinal)=true:=by kernel_rfl
theorem jI_:(Rows.batchesErrorsRow.plainKeys == Tryz.pinned.checked.prog.plainKeys)=true:=by kernel_rfl
theorem closed_:joinedFacts Tryz.pinned.checked.prog 9 Tryz.f9 Rows.batchesErrorsSpec Rows.batchesErrorsRow=true:=by
 unfold joinedFacts
 rw [jA_,jB_,jC_,jD_,jF_,jG_,jH_,jI_,jJ_,jK_]
 kernel_rfl
theorem named_:Tryz.pinned.checked.prog.funcNamed Rows.batchesErrorsRow.func=some 9:=by kernel_rfl
theorem inst_:Tryz.f9.isInstance Tryz.pinned.checked.prog Rows.batchesErrorsRow.origin Rows.batchesErrorsRow.targs:=of_decide_eq_true (by kernel_rfl)
theorem wrap_:Tryz.f9.isWrapper Tryz.pinned.checked.prog Rows.batchesErrorsRow.wrapper Rows.batchesErrorsRow.mainSum:=by
 unfold Func.isWrapper;first | (rw [if_pos (by decide +kernel)];kernel_rfl) | (rw [if_neg (by decide +kernel)];exact ⟨rfl,rfl⟩)
theorem batchesErrors_holds:Rows.BatchesErrorsSaid :=
 OpenClaim.holds_of_wide 9 Tryz.f9 rfl rfl rfl rfl rfl rfl rfl ⟨rfl,rfl,rfl,rfl,rfl⟩ rfl rfl rfl rfl rfl named_ Tryz.func9 closed_ inst_ wrap_
  (fun os started H enc _=>lifted9 os started H enc)
end Go.Proofs.YtmpenhhlkcehpaaGreat
