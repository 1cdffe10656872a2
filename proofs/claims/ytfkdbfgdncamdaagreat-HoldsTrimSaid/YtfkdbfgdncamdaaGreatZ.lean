/- The law HoldsTrim says true for every input; its arguments read behind the call as before. No conditions. -/
import Derived.Test.YtfkdbfgdncamdaaGreatT8
namespace Go.Proofs.YtfkdbfgdncamdaaGreat
open Go.ChangeShapes Go.WideShapes Go.ChangeAt Go.RowKit Go.Pav Go.Pw P Go.D
theorem hasQy_:HasQy prog:={ f561:=rfl,f517:=rfl,f557:=rfl,f556:=rfl,f511:=rfl,f510:=rfl,f560:=rfl,f578:=rfl,f543:=rfl,f516:=rfl,inl:=rfl,pp:=rfl,f415:=rfl,f434:=rfl,f519:=rfl,f518:=rfl,f562:=rfl,f433:=rfl,f282:=rfl,f140:=rfl,f439:=rfl,f563:=rfl,f520:=rfl,f442:=rfl,f441:=rfl,f435:=rfl,f436:=rfl,f437:=rfl,f286:=rfl,f297:=rfl,f284:=rfl,f2031:=rfl,f285:=rfl,f299:=rfl,f581:=rfl,f579:=rfl,f585:=rfl,f549:=rfl,f502:=rfl,f503:=rfl,f548:=rfl,f404:=rfl,f231:=rfl,f594:=rfl,f586:=rfl,f550:=rfl,f505:=rfl,f408:=rfl,f424:=rfl,f512:=rfl,f558:=rfl,f559:=rfl,f513:=rfl,f425:=rfl,f225:=rfl,f240:=rfl,f423:=rfl,f230:=rfl,f405:=rfl,f232:=rfl,f115:=rfl,f271:=rfl,f422:=rfl,f270:=rfl,f126:=rfl,f130:=rfl,f507:=rfl,f554:=rfl,f553:=rfl,f417:=rfl,f296:=rfl,f283:=rfl,f515:=rfl,f432:=rfl,f3008:=rfl,f277:=rfl,f278:=rfl,f279:=rfl,f427:=rfl,f428:=rfl,f429:=rfl,f430:=rfl,f514:=rfl,f290:=rfl,f291:=rfl,f287:=rfl,f288:=rfl,f142:=rfl }
theorem lives_:FnW prog 145 []=some (.bool true):=fnW_call.2 ⟨6000,isTrue_eq (by kernel_rfl)⟩
theorem ty_ws {a:AV} (h:Ty (.slice [.int .u16,.int .u16]) a):∃ (xs:List (Int × Int)) (e:Bool),a=.ro 2 (xs.map eW) e∧∀ p ∈ xs,0≤p.1∧∃ x:Nat,p.2=x∧x≤65535:=by
 obtain ⟨es,e,rfl,_,hx⟩:=ty_slice h
 obtain ⟨xs,rfl,hr⟩:=ty_map2 (g:=eW) (R:=fun p=>0≤p.1∧∃ x:Nat,p.2=x∧x≤65535) (fun l q=>by
  obtain ⟨q1,q2⟩:=q
  match l,q1 with
  | [u,v],_ =>
   obtain ⟨n1,rfl,h1⟩:=ty_u16 (q2 0 _ u rfl rfl)
   obtain ⟨n2,rfl,h2⟩:=ty_u16 (q2 1 _ v rfl rfl)
   exact ⟨⟨n1,n2⟩,rfl,h1.1,n2.toNat,by simp only;omega,by omega⟩) es hx
 exact ⟨xs,e,rfl,hr⟩
theorem core142 (vs:List AV) (h:TyAll [.g [.slice [.int .u8,.int .u8,.int .u8,.int .u8],.slice [.int .u8],.int .u8,.slice [.int .u8,.int .u8,.int .u8,.int .u8],.slice [.int .u8],.int .u8,.slice [.int .u16,.int .u16]],.g [.int .i64,.int .i64]] vs):FnW prog 142 vs=some (.bool true):=by
 match vs,h with
 | [a,b],⟨⟨es,ha,hl,Hx⟩,⟨fs,hb,hl2,Hy⟩,_⟩ =>
  subst ha
  subst hb
  match es,hl,fs,hl2 with
  | [x1,x2,x3,x4,x5,x6,x7],_,[y1,y2],_ =>
   obtain ⟨q1x,e1x,rfl,hq1x⟩:=ty_four (Hx 0 _ x1 rfl rfl)
   obtain ⟨z1x,f1x,rfl,hz1x,hl1x⟩:=ty_bytes2 (Hx 1 _ x2 rfl rfl)
   obtain ⟨r1x,rfl,hr1x⟩:=ty_u8 (Hx 2 _ x3 rfl rfl)
   obtain ⟨q2x,e2x,rfl,hq2x⟩:=ty_four (Hx 3 _ x4 rfl rfl)
   obtain ⟨z2x,f2x,rfl,hz2x,hl2x⟩:=ty_bytes2 (Hx 4 _ x5 rfl rfl)
   obtain ⟨r2x,rfl,hr2x⟩:=ty_u8 (Hx 5 _ x6 rfl rfl)
   obtain ⟨wx,wex,rfl,hwx⟩:=ty_ws (Hx 6 _ x7 rfl rfl)
   obtain ⟨R1x,R2x,g1x,g2x,rax,eax,psx,pex,_,_,Sx,Kx,kx⟩:=of_ok2 hasQy_.toHasQh (item1_ok has_) q1x q2x e1x e2x hq1x hq2x z1x z2x f1x f2x hz1x hz2x hl1x hl2x r1x r2x hr1x wx wex hwx
   obtain ⟨n1,rfl,_⟩:=ty_i64 (Hy 0 _ y1 rfl rfl)
   obtain ⟨n2,rfl,_⟩:=ty_i64 (Hy 1 _ y2 rfl rfl)
   exact htlaw_ok hasQy_ lives_ _ _ _ _ _ _ _ _ _ _ hr1x _ _ n1 n2 Sx Kx _ _ _ _ kx
theorem args5:Tryz.f5.params.toList.map (argT Tryz.prog)=([.g [.slice [.int .u8,.int .u8,.int .u8,.int .u8],.slice [.int .u8],.int .u8,.slice [.int .u8,.int .u8,.int .u8,.int .u8],.slice [.int .u8],.int .u8,.slice [.int .u16,.int .u16]],.g [.int .i64,.int .i64]]:List AT).map some:=by kernel_rfl
set_option maxRecDepth 100000 in
theorem lifted5 (os:Os) (started:os.Started) (H:Type) (enc:TypeId × Value→H) :
 ReturnsInHanded {} Tryz.checked os 5 .any (Rows.holdsTrimSpec.pre6 enc Tryz.prog Tryz.f5 Rows.holdsTrimRow.domain false) (Rows.holdsTrimSpec.post enc Tryz.prog Tryz.f5 false true false false):=by
 refine returnsInHanded_of_change (C:=Tryz.checked) own_ started (by kernel_rfl) Tryz.func5
  (ChangeSpec.witness6 (enc:=enc) (C:=Tryz.checked) false ⟨#[],#[.agg #[.slice none 0 0,.slice none 0 0,.int .u8 0,.slice none 0 0,.slice none 0 0,.int .u8 0,.slice none 0 0],.agg #[.int .i64 0,.int .i64 0]],[]⟩ 8 (by kernel_rfl) (by kernel_rfl) (by kernel_rfl) (by kernel_rfl)) ?_
 intro W base args ds gs before hval hW hcnd _
 have hW':=hW
 obtain ⟨p,q,hA,hV,rfl,hfz,hnd⟩:=hW
 obtain ⟨rfl,rfl⟩:=trodVars_none hV
 have hlen:ds.length=2:=(trodAll_len hA).trans (by simp)
 refine (law_calls (enc:=enc) link okT (f:=142) args5 core142 (fun j t v e1 e2=>hval j t v (by simpa using e1) e2) hA).mono ?_
 rintro e W' ⟨rfl,h1,h2,h3,h4⟩
 refine ⟨_,rfl,law_post kids_ full_ rfl hW' ?_ (of_decide_eq_true (by kernel_rfl)) rfl (by kernel_rfl) h1 h2 h3 h4⟩
 match ds,hlen with
 | [d1,d2],_=>rfl
theorem jA_:(Rows.holdsTrimRow.inPlace == Tryz.pinned.checked.prog.inPlace 5)=true:=by kernel_rfl
theorem jB_:(Rows.holdsTrimRow.unfollowed == Tryz.pinned.checked.prog.unfollowed 5)=true:=by kernel_rfl
theorem jC_:(Rows.holdsTrimRow.recurses == Tryz.pinned.checked.prog.recurses 5)=true:=by kernel_rfl
theorem jD_:(Rows.holdsTrimRow.named == Tryz.pinned.checked.prog.varsNamed 5)=true:=by kernel_rfl
theorem jJ_:laidOutB Tryz.pinned.checked.prog=true:=by kernel_rfl
theorem jK_:mapsRowed Tryz.pinned.checked.prog=true:=by kernel_rfl
theorem jF_:Tryz.pinned.checked.prog.stopsHeard=true:=by kernel_rfl
theorem jG_:Tryz.pinned.checked.prog.mayEnter=true:=by kernel_rfl
theorem jH_:(Rows.holdsTrimRow.lifted == Tryz.pinned.checked.prog.liftsFinal)=true:=by kernel_rfl
theorem jI_:(Rows.holdsTrimRow.plainKeys == Tryz.pinned.checked.prog.plainKeys)=true:=by kernel_rfl
theorem closed_:joinedFacts Tryz.pinned.checked.prog 5 Tryz.f5 Rows.holdsTrimSpec Rows.holdsTrimRow=true:=by
 unfold joinedFacts
 rw [jA_,jB_,jC_,jD_,jF_,jG_,jH_,jI_,jJ_,jK_]
 kernel_rfl
theorem named_:Tryz.pinned.checked.prog.funcNamed Rows.holdsTrimRow.func=some 5:=by kernel_rfl
theorem inst_:Tryz.f5.isInstance Tryz.pinned.checked.prog Rows.holdsTrimRow.origin Rows.holdsTrimRow.targs:=of_decide_eq_true (by kernel_rfl)
theorem wrap_:Tryz.f5.isWrapper Tryz.pinned.checked.prog Rows.holdsTrimRow.wrapper Rows.holdsTrimRow.mainSum:=by
 unfold Func.isWrapper;first | (rw [if_pos (by decide +kernel)];kernel_rfl) | (rw [if_neg (by decide +kernel)];exact ⟨rfl,rfl⟩)
theorem holdsTrim_holds:Rows.HoldsTrimSaid :=
 OpenClaim.holds_of_wide 5 Tryz.f5 rfl rfl rfl rfl rfl rfl rfl ⟨rfl,rfl,rfl,rfl,rfl⟩ rfl rfl rfl rfl rfl named_ Tryz.func5 closed_ inst_ wrap_
  (fun os started H enc _=>lifted5 os started H enc)
end Go.Proofs.YtfkdbfgdncamdaaGreat
