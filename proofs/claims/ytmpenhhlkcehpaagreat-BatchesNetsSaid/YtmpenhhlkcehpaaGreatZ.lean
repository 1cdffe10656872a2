/- The law BatchesNets says true for every input; its arguments read behind the call as before. No conditions. -/
import Derived.Test.YtmpenhhlkcehpaaGreatT8
namespace Go.Proofs.YtmpenhhlkcehpaaGreat
open Go.ChangeShapes Go.WideShapes Go.ChangeAt Go.RowKit Go.Pav Go.Pw P Go.D
theorem hasNl_:HasNl prog:={ f561:=rfl,f517:=rfl,f557:=rfl,f556:=rfl,f511:=rfl,f510:=rfl,f560:=rfl,f545:=rfl,f578:=rfl,f543:=rfl,f495:=rfl,f516:=rfl,f500:=rfl,inl:=rfl,pp:=rfl,f225:=rfl,f111:=rfl,f227:=rfl,f460:=rfl,f459:=rfl,f340:=rfl,f504:=rfl,f407:=rfl,f239:=rfl,f406:=rfl,f240:=rfl,f172:=rfl,f112:=rfl,f423:=rfl,f357:=rfl,f182:=rfl,f52:=rfl,f56:=rfl,f1073:=rfl,f74:=rfl,f180:=rfl,f165:=rfl,f179:=rfl,f434:=rfl,f519:=rfl,f518:=rfl,f562:=rfl,f433:=rfl,f282:=rfl,f140:=rfl,f439:=rfl,f581:=rfl,f579:=rfl,f585:=rfl,f549:=rfl,f502:=rfl,f503:=rfl,f548:=rfl,f404:=rfl,f231:=rfl,f594:=rfl,f586:=rfl,f550:=rfl,f505:=rfl,f408:=rfl,f398:=rfl,f424:=rfl,f494:=rfl,f496:=rfl,f497:=rfl,f498:=rfl,f499:=rfl,f544:=rfl,f546:=rfl,f580:=rfl,f512:=rfl,f584:=rfl,f558:=rfl,f559:=rfl,f592:=rfl,f582:=rfl,f583:=rfl,f593:=rfl,f563:=rfl,f520:=rfl,f442:=rfl,f441:=rfl,f547:=rfl,f513:=rfl,f501:=rfl,f425:=rfl,f399:=rfl,f230:=rfl,f405:=rfl,f232:=rfl,f115:=rfl,f236:=rfl,f271:=rfl,f223:=rfl,f235:=rfl,f422:=rfl,f270:=rfl,f126:=rfl,f130:=rfl,f353:=rfl,f354:=rfl,f355:=rfl,f356:=rfl,f468:=rfl,f181:=rfl,f183:=rfl,f360:=rfl,f469:=rfl,f358:=rfl,f361:=rfl,f362:=rfl,f186:=rfl,f185:=rfl,f3005:=rfl,f184:=rfl,f93:=rfl }
theorem lives_:FnW prog 166 []=some (.bool true):=fnW_call.2 ⟨6000,isTrue_eq (by kernel_rfl)⟩
theorem ty_its {a:AV} (h:Ty (.slice [.int .u64,.int .u8,.str,.slice [.str]]) a):∃ (xs:List Go.D.It) (e:Bool),a=.ro 4 (xs.map Go.D.cIt) e∧(∀ y ∈ xs,(0≤y.k∧y.k < 18446744073709551616)∧0≤y.t∧y.t≤255)∧xs.length≤9223372036854775807:=by
 obtain ⟨es,e,rfl,hl,hx⟩:=ty_slice h
 obtain ⟨xs,rfl,hr⟩:=ty_map2 (g:=Go.D.cIt) (R:=fun y:Go.D.It=>(0≤y.k∧y.k < 18446744073709551616)∧0≤y.t∧y.t≤255) (fun l q=>by
  obtain ⟨q1,q2⟩:=q
  match l,q1 with
  | [u,v,w,x],_ =>
   obtain ⟨n1,rfl,h1⟩:=ty_u64 (q2 0 _ u rfl rfl)
   obtain ⟨n2,rfl,h2⟩:=ty_u8 (q2 1 _ v rfl rfl)
   obtain ⟨s,rfl,h3⟩:=ty_str (q2 2 _ w rfl rfl)
   obtain ⟨m,me,rfl,_,h4⟩:=ty_slice (q2 3 _ x rfl rfl)
   obtain ⟨ms,rfl,_⟩:=ty_map2 (g:=eS) (R:=fun _:Go.D.Bs=>True) (fun l q=>by
    obtain ⟨q1,q2⟩:=q
    match l,q1 with
    | [v],_ =>
     obtain ⟨n,rfl,_⟩:=ty_str (q2 0 _ v rfl rfl)
     exact ⟨n,rfl,trivial⟩) m h4
   exact ⟨⟨n1,n2,s,ms,me⟩,rfl,⟨h1.1,by simp only;omega⟩,h2⟩) es hx
 have hl2:xs.length < 9223372036854775808:=by simpa using hl
 exact ⟨xs,e,rfl,hr,by omega⟩
theorem ty_i64s {a:AV} (h:Ty (.slice [.int .i64]) a):∃ (xs:List Int) (e:Bool),a=.ro 1 (xs.map eI) e∧xs.length≤9223372036854775807:=by
 obtain ⟨es,e,rfl,hl,hx⟩:=ty_slice h
 obtain ⟨xs,rfl,_⟩:=ty_map2 (g:=eI) (R:=fun _:Int=>True) (fun l q=>by
  obtain ⟨q1,q2⟩:=q
  match l,q1 with
  | [v],_ =>
   obtain ⟨n,rfl,_⟩:=ty_i64 (q2 0 _ v rfl rfl)
   exact ⟨n,rfl,trivial⟩) es hx
 have hl2:xs.length < 9223372036854775808:=by simpa using hl
 exact ⟨xs,e,rfl,by omega⟩
theorem ty_bools {a:AV} (h:Ty (.slice [.bool]) a):∃ (xs:List Bool) (e:Bool),a=.ro 1 (xs.map eB) e∧xs.length≤9223372036854775807:=by
 obtain ⟨es,e,rfl,hl,hx⟩:=ty_slice h
 obtain ⟨xs,rfl,_⟩:=ty_map2 (g:=eB) (R:=fun _:Bool=>True) (fun l q=>by
  obtain ⟨q1,q2⟩:=q
  match l,q1 with
  | [v],_ =>
   obtain ⟨n,rfl⟩:=ty_bool (q2 0 _ v rfl rfl)
   exact ⟨n,rfl,trivial⟩) es hx
 have hl2:xs.length < 9223372036854775808:=by simpa using hl
 exact ⟨xs,e,rfl,by omega⟩
theorem ty_net {l:List AV} (q1:l.length=4) (q2:∀ (j:Nat) (ct:CT) (v:AV),([.int .i64,.slice [.int .i64],.slice [.bool],.slice [.int .u64,.int .u8,.str,.slice [.str]]]:List CT)[j]?=some ct→l[j]?=some v→Ty ct v) :
 ∃ a:Nn,l=eNn a∧(a.f.length≤9223372036854775807∧a.b.length≤9223372036854775807∧a.x.length≤9223372036854775807)∧∀ y ∈ a.x,(0≤y.k∧y.k < 18446744073709551616)∧(0≤y.t∧y.t≤255):=by
 match l,q1 with
 | [u,v,w,x],_ =>
  obtain ⟨o,rfl,_⟩:=ty_i64 (q2 0 _ u rfl rfl)
  obtain ⟨f,fe,rfl,hf⟩:=ty_i64s (q2 1 _ v rfl rfl)
  obtain ⟨b,be,rfl,hb⟩:=ty_bools (q2 2 _ w rfl rfl)
  obtain ⟨xs,xe,rfl,hx,hxl⟩:=ty_its (q2 3 _ x rfl rfl)
  exact ⟨⟨o,f,fe,b,be,xs,xe⟩,rfl,⟨hf,hb,hxl⟩,hx⟩
theorem core93 (vs:List AV) (h:TyAll [.g [.slice [.int .u8,.int .u8,.int .u8,.int .u8],.slice [.int .u8],.int .u8],.g [.int .i64,.slice [.int .i64],.slice [.bool],.slice [.int .u64,.int .u8,.str,.slice [.str]]],.g [.int .i64,.slice [.int .i64],.slice [.bool],.slice [.int .u64,.int .u8,.str,.slice [.str]]]] vs):FnW prog 93 vs=some (.bool true):=by
 match vs,h with
 | [a,b,c],⟨⟨es,ha,hl,hes⟩,⟨fs,hb,hl2,hfs⟩,⟨gs,hc,hl3,hgs⟩,_⟩ =>
  subst ha
  subst hb
  subst hc
  obtain ⟨n,rfl,hn,hni⟩:=ty_net hl2 hfs
  obtain ⟨m,rfl,hm,_⟩:=ty_net hl3 hgs
  match es,hl with
  | [x,y,w],_ =>
   obtain ⟨q,qe,rfl,hq⟩:=ty_four (hes 0 _ x rfl rfl)
   obtain ⟨z,ze,rfl,hz,hzl⟩:=ty_bytes2 (hes 1 _ y rfl rfl)
   obtain ⟨r,rfl,hr⟩:=ty_u8 (hes 2 _ w rfl rfl)
   exact nlaw_ok hasNl_ (item1_ok has_) lives_ q qe hq z ze hz hzl r hr n m hn hm hni
theorem args14:Tryz.f14.params.toList.map (argT Tryz.prog)=([.g [.slice [.int .u8,.int .u8,.int .u8,.int .u8],.slice [.int .u8],.int .u8],.g [.int .i64,.slice [.int .i64],.slice [.bool],.slice [.int .u64,.int .u8,.str,.slice [.str]]],.g [.int .i64,.slice [.int .i64],.slice [.bool],.slice [.int .u64,.int .u8,.str,.slice [.str]]]]:List AT).map some:=by kernel_rfl
set_option maxRecDepth 100000 in
theorem lifted14 (os:Os) (started:os.Started) (H:Type) (enc:TypeId × Value→H) :
 ReturnsInHanded {} Tryz.checked os 14 .any (Rows.batchesNetsSpec.pre6 enc Tryz.prog Tryz.f14 Rows.batchesNetsRow.domain false) (Rows.batchesNetsSpec.post enc Tryz.prog Tryz.f14 false true false false):=by
 refine returnsInHanded_of_change (C:=Tryz.checked) own_ started (by kernel_rfl) Tryz.func14
  (ChangeSpec.witness6 (enc:=enc) (C:=Tryz.checked) false ⟨#[],#[.agg #[.slice none 0 0,.slice none 0 0,.int .u8 0],.agg #[.int .i64 0,.slice none 0 0,.slice none 0 0,.slice none 0 0],.agg #[.int .i64 0,.slice none 0 0,.slice none 0 0,.slice none 0 0]],[]⟩ 8 (by kernel_rfl) (by kernel_rfl) (by kernel_rfl) (by kernel_rfl)) ?_
 intro W base args ds gs before hval hW hcnd _
 have hW':=hW
 obtain ⟨p,q,hA,hV,rfl,hfz,hnd⟩:=hW
 obtain ⟨rfl,rfl⟩:=trodVars_none hV
 have hlen:ds.length=3:=(trodAll_len hA).trans (by simp)
 refine (law_calls (enc:=enc) link okT (f:=93) args14 core93 (fun j t v e1 e2=>hval j t v (by simpa using e1) e2) hA).mono ?_
 rintro e W' ⟨rfl,h1,h2,h3,h4⟩
 refine ⟨_,rfl,law_post kids_ full_ rfl hW' ?_ (of_decide_eq_true (by kernel_rfl)) rfl (by kernel_rfl) h1 h2 h3 h4⟩
 match ds,hlen with
 | [d1,d2,d3],_=>rfl
theorem jA_:(Rows.batchesNetsRow.inPlace == Tryz.pinned.checked.prog.inPlace 14)=true:=by kernel_rfl
theorem jB_:(Rows.batchesNetsRow.unfollowed == Tryz.pinned.checked.prog.unfollowed 14)=true:=by kernel_rfl
theorem jC_:(Rows.batchesNetsRow.recurses == Tryz.pinned.checked.prog.recurses 14)=true:=by kernel_rfl
theorem jD_:(Rows.batchesNetsRow.named == Tryz.pinned.checked.prog.varsNamed 14)=true:=by kernel_rfl
theorem jJ_:laidOutB Tryz.pinned.checked.prog=true:=by kernel_rfl
theorem jK_:mapsRowed Tryz.pinned.checked.prog=true:=by kernel_rfl
theorem jF_:Tryz.pinned.checked.prog.stopsHeard=true:=by kernel_rfl
theorem jG_:Tryz.pinned.checked.prog.mayEnter=true:=by kernel_rfl
theorem jH_:(Rows.batchesNetsRow.lifted == Tryz.pinned.checked.prog.liftsFinal)=true:=by kernel_rfl
theorem jI_:(Rows.batchesNetsRow.plainKeys == Tryz.pinned.checked.prog.plainKeys)=true:=by kernel_rfl
theorem closed_:joinedFacts Tryz.pinned.checked.prog 14 Tryz.f14 Rows.batchesNetsSpec Rows.batchesNetsRow=true:=by
 unfold joinedFacts
 rw [jA_,jB_,jC_,jD_,jF_,jG_,jH_,jI_,jJ_,jK_]
 kernel_rfl
theorem named_:Tryz.pinned.checked.prog.funcNamed Rows.batchesNetsRow.func=some 14:=by kernel_rfl
theorem inst_:Tryz.f14.isInstance Tryz.pinned.checked.prog Rows.batchesNetsRow.origin Rows.batchesNetsRow.targs:=of_decide_eq_true (by kernel_rfl)
theorem wrap_:Tryz.f14.isWrapper Tryz.pinned.checked.prog Rows.batchesNetsRow.wrapper Rows.batchesNetsRow.mainSum:=by
 unfold Func.isWrapper;first | (rw [if_pos (by decide +kernel)];kernel_rfl) | (rw [if_neg (by decide +kernel)];exact ⟨rfl,rfl⟩)
theorem batchesNets_holds:Rows.BatchesNetsSaid :=
 OpenClaim.holds_of_wide 14 Tryz.f14 rfl rfl rfl rfl rfl rfl rfl ⟨rfl,rfl,rfl,rfl,rfl⟩ rfl rfl rfl rfl rfl named_ Tryz.func14 closed_ inst_ wrap_
  (fun os started H enc _=>lifted14 os started H enc)
end Go.Proofs.YtmpenhhlkcehpaaGreat
