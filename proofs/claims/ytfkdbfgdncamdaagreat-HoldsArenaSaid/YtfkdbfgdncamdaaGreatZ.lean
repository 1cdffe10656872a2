/- The law HoldsArena says true for every input; its arguments read behind the call as before. No conditions. -/
import Derived.Test.YtfkdbfgdncamdaaGreatT8
namespace Go.Proofs.YtfkdbfgdncamdaaGreat
open Go.ChangeShapes Go.WideShapes Go.ChangeAt Go.RowKit Go.Pav Go.Pw P Go.D
theorem hasQb_:HasQb prog:={ f561:=rfl,f517:=rfl,f557:=rfl,f556:=rfl,f511:=rfl,f510:=rfl,f560:=rfl,f545:=rfl,f578:=rfl,f543:=rfl,f495:=rfl,f516:=rfl,f500:=rfl,inl:=rfl,pp:=rfl,f415:=rfl,f434:=rfl,f519:=rfl,f518:=rfl,f562:=rfl,f433:=rfl,f282:=rfl,f140:=rfl,f439:=rfl,f563:=rfl,f520:=rfl,f442:=rfl,f441:=rfl,f435:=rfl,f436:=rfl,f437:=rfl,f286:=rfl,f297:=rfl,f284:=rfl,f2031:=rfl,f285:=rfl,f299:=rfl,f289:=rfl,f438:=rfl,f581:=rfl,f579:=rfl,f585:=rfl,f549:=rfl,f502:=rfl,f503:=rfl,f548:=rfl,f404:=rfl,f231:=rfl,f594:=rfl,f586:=rfl,f550:=rfl,f505:=rfl,f408:=rfl,f398:=rfl,f424:=rfl,f494:=rfl,f496:=rfl,f497:=rfl,f498:=rfl,f499:=rfl,f544:=rfl,f546:=rfl,f580:=rfl,f512:=rfl,f584:=rfl,f558:=rfl,f559:=rfl,f592:=rfl,f582:=rfl,f583:=rfl,f593:=rfl,f547:=rfl,f513:=rfl,f501:=rfl,f425:=rfl,f225:=rfl,f111:=rfl,f227:=rfl,f240:=rfl,f423:=rfl,f399:=rfl,f230:=rfl,f405:=rfl,f232:=rfl,f115:=rfl,f271:=rfl,f223:=rfl,f422:=rfl,f270:=rfl,f126:=rfl,f130:=rfl,f238:=rfl,f507:=rfl,f554:=rfl,f553:=rfl,f417:=rfl,f296:=rfl,f283:=rfl,f515:=rfl,f432:=rfl,f277:=rfl,f278:=rfl,f279:=rfl,f427:=rfl,f428:=rfl,f429:=rfl,f430:=rfl,f514:=rfl,f281:=rfl,f139:=rfl,f280:=rfl,f3009:=rfl,f143:=rfl }
theorem lives_:FnW prog 145 []=some (.bool true):=fnW_call.2 ⟨6000,isTrue_eq (by kernel_rfl)⟩
theorem ty_ws {a:AV} (h:Ty (.slice [.int .u16,.int .u16]) a):∃ (xs:List (Int × Int)) (e:Bool),a=.ro 2 (xs.map eW) e∧∀ p ∈ xs,0≤p.1∧∃ x:Nat,p.2=x∧x≤65535:=by
 obtain ⟨es,e,rfl,_,hx⟩:=ty_slice h
 obtain ⟨xs,rfl,hr⟩:=ty_map2 (g:=eW) (R:=fun p=>0≤p.1∧∃ x:Nat,p.2=x∧x≤65535) (fun l q=>by
  obtain ⟨q1,q2⟩:=q
  match l,q1 with
  | [u,v],_ =>
   obtain ⟨n1,rfl,h1⟩:=ty_u16 (q2 0 _ u rfl rfl)
   obtain ⟨n2,rfl,h2⟩:=ty_u16 (q2 1 _ v rfl rfl)
   exact ⟨⟨n1,n2⟩,rfl,h1.1,n2.toNat,by simp only;omega,by omega⟩) es hx
 exact ⟨xs,e,rfl,hr⟩
theorem ty_i8 {v:AV} (h:Ty (.int .i8) v):∃ n:Int,v=.int .i8 n∧-128≤n∧n≤127:=by
 cases h with | int k n h1 h2=>exact ⟨n,rfl,h1,h2⟩
theorem core143 (vs:List AV) (h:TyAll [.g [.slice [.int .u8,.int .u8,.int .u8,.int .u8],.slice [.int .u8],.int .u8,.slice [.int .u8,.int .u8,.int .u8,.int .u8],.slice [.int .u8],.int .u8,.slice [.int .u16,.int .u16]],.g [.int .u16,.int .u16],.c (.int .i8)] vs):FnW prog 143 vs=some (.bool true):=by
 match vs,h with
 | [a,b,c],⟨⟨es,ha,hl,Hx⟩,⟨fs,hb,hl2,Hy⟩,hc,_⟩ =>
  subst ha
  subst hb
  obtain ⟨c1,rfl,hc1⟩:=ty_i8 hc
  match es,hl,fs,hl2 with
  | [x1,x2,x3,x4,x5,x6,x7],_,[y1,y2],_ =>
   obtain ⟨q1x,e1x,rfl,hq1x⟩:=ty_four (Hx 0 _ x1 rfl rfl)
   obtain ⟨z1x,f1x,rfl,hz1x,hl1x⟩:=ty_bytes2 (Hx 1 _ x2 rfl rfl)
   obtain ⟨r1x,rfl,hr1x⟩:=ty_u8 (Hx 2 _ x3 rfl rfl)
   obtain ⟨q2x,e2x,rfl,hq2x⟩:=ty_four (Hx 3 _ x4 rfl rfl)
   obtain ⟨z2x,f2x,rfl,hz2x,hl2x⟩:=ty_bytes2 (Hx 4 _ x5 rfl rfl)
   obtain ⟨r2x,rfl,hr2x⟩:=ty_u8 (Hx 5 _ x6 rfl rfl)
   obtain ⟨wx,wex,rfl,hwx⟩:=ty_ws (Hx 6 _ x7 rfl rfl)
   obtain ⟨R1x,R2x,g1x,g2x,rax,eax,psx,pex,L1x,L2x,G1x,G2x,N1x,N2x,Sx,Kx,kx⟩:=of_ok3 hasQb_.toHasQh (item1_ok has_) q1x q2x e1x e2x hq1x hq2x z1x z2x f1x f2x hz1x hz2x hl1x hl2x r1x r2x hr1x wx wex hwx
   obtain ⟨n1,rfl,hn1⟩:=ty_u16 (Hy 0 _ y1 rfl rfl)
   obtain ⟨n2,rfl,hn2⟩:=ty_u16 (Hy 1 _ y2 rfl rfl)
   obtain ⟨m1,rfl⟩:∃ m:Nat,n1=m:=⟨n1.toNat,by omega⟩
   obtain ⟨m2,rfl⟩:∃ m:Nat,n2=m:=⟨n2.toNat,by omega⟩
   exact halaw_ok hasQb_ lives_ _ _ _ _ _ _ _ _ _ _ hr1x _ _ m1 m2 (by omega) c1 hc1 Sx Kx _ _ _ _ L1x L2x G1x G2x N1x N2x kx
theorem args4:Tryz.f4.params.toList.map (argT Tryz.prog)=([.g [.slice [.int .u8,.int .u8,.int .u8,.int .u8],.slice [.int .u8],.int .u8,.slice [.int .u8,.int .u8,.int .u8,.int .u8],.slice [.int .u8],.int .u8,.slice [.int .u16,.int .u16]],.g [.int .u16,.int .u16],.c (.int .i8)]:List AT).map some:=by kernel_rfl
set_option maxRecDepth 100000 in
theorem lifted4 (os:Os) (started:os.Started) (H:Type) (enc:TypeId × Value→H) :
 ReturnsInHanded {} Tryz.checked os 4 .any (Rows.holdsArenaSpec.pre6 enc Tryz.prog Tryz.f4 Rows.holdsArenaRow.domain false) (Rows.holdsArenaSpec.post enc Tryz.prog Tryz.f4 false true false false):=by
 refine returnsInHanded_of_change (C:=Tryz.checked) own_ started (by kernel_rfl) Tryz.func4
  (ChangeSpec.witness6 (enc:=enc) (C:=Tryz.checked) false ⟨#[],#[.agg #[.slice none 0 0,.slice none 0 0,.int .u8 0,.slice none 0 0,.slice none 0 0,.int .u8 0,.slice none 0 0],.agg #[.int .u16 0,.int .u16 0],.int .i8 0],[]⟩ 8 (by kernel_rfl) (by kernel_rfl) (by kernel_rfl) (by kernel_rfl)) ?_
 intro W base args ds gs before hval hW hcnd _
 have hW':=hW
 obtain ⟨p,q,hA,hV,rfl,hfz,hnd⟩:=hW
 obtain ⟨rfl,rfl⟩:=trodVars_none hV
 have hlen:ds.length=3:=(trodAll_len hA).trans (by simp)
 refine (law_calls (enc:=enc) link okT (f:=143) args4 core143 (fun j t v e1 e2=>hval j t v (by simpa using e1) e2) hA).mono ?_
 rintro e W' ⟨rfl,h1,h2,h3,h4⟩
 refine ⟨_,rfl,law_post kids_ full_ rfl hW' ?_ (of_decide_eq_true (by kernel_rfl)) rfl (by kernel_rfl) h1 h2 h3 h4⟩
 match ds,hlen with
 | [d1,d2,d3],_=>rfl
theorem jA_:(Rows.holdsArenaRow.inPlace == Tryz.pinned.checked.prog.inPlace 4)=true:=by kernel_rfl
theorem jB_:(Rows.holdsArenaRow.unfollowed == Tryz.pinned.checked.prog.unfollowed 4)=true:=by kernel_rfl
theorem jC_:(Rows.holdsArenaRow.recurses == Tryz.pinned.checked.prog.recurses 4)=true:=by kernel_rfl
theorem jD_:(Rows.holdsArenaRow.named == Tryz.pinned.checked.prog.varsNamed 4)=true:=by kernel_rfl
theorem jJ_:laidOutB Tryz.pinned.checked.prog=true:=by kernel_rfl
theorem jK_:mapsRowed Tryz.pinned.checked.prog=true:=by kernel_rfl
theorem jF_:Tryz.pinned.checked.prog.stopsHeard=true:=by kernel_rfl
theorem jG_:Tryz.pinned.checked.prog.mayEnter=true:=by kernel_rfl
theorem jH_:(Rows.holdsArenaRow.lifted == Tryz.pinned.checked.prog.liftsFinal)=true:=by kernel_rfl
theorem jI_:(Rows.holdsArenaRow.plainKeys == Tryz.pinned.checked.prog.plainKeys)=true:=by kernel_rfl
theorem closed_:joinedFacts Tryz.pinned.checked.prog 4 Tryz.f4 Rows.holdsArenaSpec Rows.holdsArenaRow=true:=by
 unfold joinedFacts
 rw [jA_,jB_,jC_,jD_,jF_,jG_,jH_,jI_,jJ_,jK_]
 kernel_rfl
theorem named_:Tryz.pinned.checked.prog.funcNamed Rows.holdsArenaRow.func=some 4:=by kernel_rfl
theorem inst_:Tryz.f4.isInstance Tryz.pinned.checked.prog Rows.holdsArenaRow.origin Rows.holdsArenaRow.targs:=of_decide_eq_true (by kernel_rfl)
theorem wrap_:Tryz.f4.isWrapper Tryz.pinned.checked.prog Rows.holdsArenaRow.wrapper Rows.holdsArenaRow.mainSum:=by
 unfold Func.isWrapper;first | (rw [if_pos (by decide +kernel)];kernel_rfl) | (rw [if_neg (by decide +kernel)];exact ⟨rfl,rfl⟩)
theorem holdsArena_holds:Rows.HoldsArenaSaid :=
 OpenClaim.holds_of_wide 4 Tryz.f4 rfl rfl rfl rfl rfl rfl rfl ⟨rfl,rfl,rfl,rfl,rfl⟩ rfl rfl rfl rfl rfl named_ Tryz.func4 closed_ inst_ wrap_
  (fun os started H enc _=>lifted4 os started H enc)
end Go.Proofs.YtfkdbfgdncamdaaGreat
