/- The law HoldsSame says true for every input; its arguments read behind the call as before. No conditions. -/
import Derived.Test.YtfkdbfgdncamdaaGreatT7
namespace Go.Proofs.YtfkdbfgdncamdaaGreat
open Go.ChangeShapes Go.WideShapes Go.ChangeAt Go.RowKit Go.Pav Go.Pw P Go.D
theorem hasQw_:HasQw prog:={ f561:=rfl,f517:=rfl,f557:=rfl,f556:=rfl,f511:=rfl,f510:=rfl,f560:=rfl,f578:=rfl,f543:=rfl,f516:=rfl,inl:=rfl,pp:=rfl,f415:=rfl,f552:=rfl,f551:=rfl,f434:=rfl,f519:=rfl,f518:=rfl,f562:=rfl,f433:=rfl,f282:=rfl,f140:=rfl,f439:=rfl,f563:=rfl,f520:=rfl,f442:=rfl,f441:=rfl,f435:=rfl,f436:=rfl,f437:=rfl,f286:=rfl,f297:=rfl,f284:=rfl,f2031:=rfl,f285:=rfl,f299:=rfl,f298:=rfl,f443:=rfl,f521:=rfl,f522:=rfl,f444:=rfl,f523:=rfl,f289:=rfl,f438:=rfl,f594:=rfl,f586:=rfl,f550:=rfl,f505:=rfl,f408:=rfl,f424:=rfl,f512:=rfl,f558:=rfl,f559:=rfl,f513:=rfl,f425:=rfl,f240:=rfl,f423:=rfl,f271:=rfl,f422:=rfl,f270:=rfl,f126:=rfl,f130:=rfl,f417:=rfl,f296:=rfl,f283:=rfl,f613:=rfl }
theorem lives_:FnW prog 145 []=some (.bool true):=fnW_call.2 ⟨6000,isTrue_eq (by kernel_rfl)⟩
theorem ty_ws {a:AV} (h:Ty (.slice [.int .u16,.int .u16]) a):∃ (xs:List (Int × Int)) (e:Bool),a=.ro 2 (xs.map eW) e∧∀ p ∈ xs,0≤p.1∧∃ x:Nat,p.2=x∧x≤65535:=by
 obtain ⟨es,e,rfl,_,hx⟩:=ty_slice h
 obtain ⟨xs,rfl,hr⟩:=ty_map2 (g:=eW) (R:=fun p=>0≤p.1∧∃ x:Nat,p.2=x∧x≤65535) (fun l q=>by
  obtain ⟨q1,q2⟩:=q
  match l,q1 with
  | [u,v],_ =>
   obtain ⟨n1,rfl,h1⟩:=ty_u16 (q2 0 _ u rfl rfl)
   obtain ⟨n2,rfl,h2⟩:=ty_u16 (q2 1 _ v rfl rfl)
   exact ⟨⟨n1,n2⟩,rfl,h1.1,n2.toNat,by simp only;omega,by omega⟩) es hx
 exact ⟨xs,e,rfl,hr⟩
theorem core613 (vs:List AV) (h:TyAll [.g [.slice [.int .u8,.int .u8,.int .u8,.int .u8],.slice [.int .u8],.int .u8,.slice [.int .u8,.int .u8,.int .u8,.int .u8],.slice [.int .u8],.int .u8,.slice [.int .u16,.int .u16]],.g [.slice [.int .u8,.int .u8,.int .u8,.int .u8],.slice [.int .u8],.int .u8,.slice [.int .u8,.int .u8,.int .u8,.int .u8],.slice [.int .u8],.int .u8,.slice [.int .u16,.int .u16]]] vs):FnW prog 613 vs=some (.bool true):=by
 match vs,h with
 | [a,b],⟨⟨es,ha,hl,Hx⟩,⟨fs,hb,hl2,Hy⟩,_⟩ =>
  subst ha
  subst hb
  match es,hl,fs,hl2 with
  | [x1,x2,x3,x4,x5,x6,x7],_,[y1,y2,y3,y4,y5,y6,y7],_ =>
   obtain ⟨q1x,e1x,rfl,hq1x⟩:=ty_four (Hx 0 _ x1 rfl rfl)
   obtain ⟨z1x,f1x,rfl,hz1x,hl1x⟩:=ty_bytes2 (Hx 1 _ x2 rfl rfl)
   obtain ⟨r1x,rfl,hr1x⟩:=ty_u8 (Hx 2 _ x3 rfl rfl)
   obtain ⟨q2x,e2x,rfl,hq2x⟩:=ty_four (Hx 3 _ x4 rfl rfl)
   obtain ⟨z2x,f2x,rfl,hz2x,hl2x⟩:=ty_bytes2 (Hx 4 _ x5 rfl rfl)
   obtain ⟨r2x,rfl,hr2x⟩:=ty_u8 (Hx 5 _ x6 rfl rfl)
   obtain ⟨wx,wex,rfl,hwx⟩:=ty_ws (Hx 6 _ x7 rfl rfl)
   obtain ⟨R1x,R2x,g1x,g2x,rax,eax,psx,pex,_,_,Sx,kx⟩:=of_ok hasQw_.toHasQh (item1_ok has_) q1x q2x e1x e2x hq1x hq2x z1x z2x f1x f2x hz1x hz2x hl1x hl2x r1x r2x hr1x wx wex hwx
   obtain ⟨q1y,e1y,rfl,hq1y⟩:=ty_four (Hy 0 _ y1 rfl rfl)
   obtain ⟨z1y,f1y,rfl,hz1y,hl1y⟩:=ty_bytes2 (Hy 1 _ y2 rfl rfl)
   obtain ⟨r1y,rfl,hr1y⟩:=ty_u8 (Hy 2 _ y3 rfl rfl)
   obtain ⟨q2y,e2y,rfl,hq2y⟩:=ty_four (Hy 3 _ y4 rfl rfl)
   obtain ⟨z2y,f2y,rfl,hz2y,hl2y⟩:=ty_bytes2 (Hy 4 _ y5 rfl rfl)
   obtain ⟨r2y,rfl,hr2y⟩:=ty_u8 (Hy 5 _ y6 rfl rfl)
   obtain ⟨wy,wey,rfl,hwy⟩:=ty_ws (Hy 6 _ y7 rfl rfl)
   obtain ⟨R1y,R2y,g1y,g2y,ray,eay,psy,pey,_,_,Sy,ky⟩:=of_ok hasQw_.toHasQh (item1_ok has_) q1y q2y e1y e2y hq1y hq2y z1y z2y f1y f2y hz1y hz2y hl1y hl2y r1y r2y hr1y wy wey hwy
   exact hslaw_ok hasQw_ lives_ _ _ _ _ _ _ _ _ _ _ _ _ _ _ _ _ _ _ _ _ _ _ _ _ Sx Sy _ _ _ _ _ _ _ _ _ _ kx ky
theorem args6:Tryz.f6.params.toList.map (argT Tryz.prog)=([.g [.slice [.int .u8,.int .u8,.int .u8,.int .u8],.slice [.int .u8],.int .u8,.slice [.int .u8,.int .u8,.int .u8,.int .u8],.slice [.int .u8],.int .u8,.slice [.int .u16,.int .u16]],.g [.slice [.int .u8,.int .u8,.int .u8,.int .u8],.slice [.int .u8],.int .u8,.slice [.int .u8,.int .u8,.int .u8,.int .u8],.slice [.int .u8],.int .u8,.slice [.int .u16,.int .u16]]]:List AT).map some:=by kernel_rfl
set_option maxRecDepth 100000 in
theorem lifted6 (os:Os) (started:os.Started) (H:Type) (enc:TypeId × Value→H) :
 ReturnsInHanded {} Tryz.checked os 6 .any (Rows.holdsSameSpec.pre6 enc Tryz.prog Tryz.f6 Rows.holdsSameRow.domain false) (Rows.holdsSameSpec.post enc Tryz.prog Tryz.f6 false true false false):=by
 refine returnsInHanded_of_change (C:=Tryz.checked) own_ started (by kernel_rfl) Tryz.func6
  (ChangeSpec.witness6 (enc:=enc) (C:=Tryz.checked) false ⟨#[],#[.agg #[.slice none 0 0,.slice none 0 0,.int .u8 0,.slice none 0 0,.slice none 0 0,.int .u8 0,.slice none 0 0],.agg #[.slice none 0 0,.slice none 0 0,.int .u8 0,.slice none 0 0,.slice none 0 0,.int .u8 0,.slice none 0 0]],[]⟩ 8 (by kernel_rfl) (by kernel_rfl) (by kernel_rfl) (by kernel_rfl)) ?_
 intro W base args ds gs before hval hW hcnd _
 have hW':=hW
 obtain ⟨p,q,hA,hV,rfl,hfz,hnd⟩:=hW
 obtain ⟨rfl,rfl⟩:=trodVars_none hV
 have hlen:ds.length=2:=(trodAll_len hA).trans (by simp)
 refine (law_calls (enc:=enc) link okT (f:=613) args6 core613 (fun j t v e1 e2=>hval j t v (by simpa using e1) e2) hA).mono ?_
 rintro e W' ⟨rfl,h1,h2,h3,h4⟩
 refine ⟨_,rfl,law_post kids_ full_ rfl hW' ?_ (of_decide_eq_true (by kernel_rfl)) rfl (by kernel_rfl) h1 h2 h3 h4⟩
 match ds,hlen with
 | [d1,d2],_=>rfl
theorem jA_:(Rows.holdsSameRow.inPlace == Tryz.pinned.checked.prog.inPlace 6)=true:=by kernel_rfl
theorem jB_:(Rows.holdsSameRow.unfollowed == Tryz.pinned.checked.prog.unfollowed 6)=true:=by kernel_rfl
theorem jC_:(Rows.holdsSameRow.recurses == Tryz.pinned.checked.prog.recurses 6)=true:=by kernel_rfl
theorem jD_:(Rows.holdsSameRow.named == Tryz.pinned.checked.prog.varsNamed 6)=true:=by kernel_rfl
theorem jJ_:laidOutB Tryz.pinned.checked.prog=true:=by kernel_rfl
theorem jK_:mapsRowed Tryz.pinned.checked.prog=true:=by kernel_rfl
theorem jF_:Tryz.pinned.checked.prog.stopsHeard=true:=by kernel_rfl
theorem jG_:Tryz.pinned.checked.prog.mayEnter=true:=by kernel_rfl
theorem jH_:(Rows.holdsSameRow.lifted == Tryz.pinned.checked.prog.liftsFinal)=true:=by kernel_rfl
theorem jI_:(Rows.holdsSameRow.plainKeys == Tryz.pinned.checked.prog.plainKeys)=true:=by kernel_rfl
theorem closed_:joinedFacts Tryz.pinned.checked.prog 6 Tryz.f6 Rows.holdsSameSpec Rows.holdsSameRow=true:=by
 unfold joinedFacts
 rw [jA_,jB_,jC_,jD_,jF_,jG_,jH_,jI_,jJ_,jK_]
 kernel_rfl
theorem named_:Tryz.pinned.checked.prog.funcNamed Rows.holdsSameRow.func=some 6:=by kernel_rfl
theorem inst_:Tryz.f6.isInstance Tryz.pinned.checked.prog Rows.holdsSameRow.origin Rows.holdsSameRow.targs:=of_decide_eq_true (by kernel_rfl)
theorem wrap_:Tryz.f6.isWrapper Tryz.pinned.checked.prog Rows.holdsSameRow.wrapper Rows.holdsSameRow.mainSum:=by
 unfold Func.isWrapper;first | (rw [if_pos (by decide +kernel)];kernel_rfl) | (rw [if_neg (by decide +kernel)];exact ⟨rfl,rfl⟩)
theorem holdsSame_holds:Rows.HoldsSameSaid :=
 OpenClaim.holds_of_wide 6 Tryz.f6 rfl rfl rfl rfl rfl rfl rfl ⟨rfl,rfl,rfl,rfl,rfl⟩ rfl rfl rfl rfl rfl named_ Tryz.func6 closed_ inst_ wrap_
  (fun os started H enc _=>lifted6 os started H enc)
end Go.Proofs.YtfkdbfgdncamdaaGreat
