/- The law SettlesMeasure says true for every input; its arguments read behind the call as before. No conditions. -/
import Derived.Test.YtmpenhhlkcehpaaGreatT6
namespace Go.Proofs.YtmpenhhlkcehpaaGreat
open Go.ChangeShapes Go.WideShapes Go.ChangeAt Go.RowKit Go.Pav Go.Pw P Go.D
theorem hasMs_:HasMs prog:={ f557:=rfl,f556:=rfl,f511:=rfl,f510:=rfl,inl:=rfl,pp:=rfl,f594:=rfl,f586:=rfl,f550:=rfl,f505:=rfl,f408:=rfl,f424:=rfl,f512:=rfl,f558:=rfl,f559:=rfl,f563:=rfl,f520:=rfl,f442:=rfl,f441:=rfl,f513:=rfl,f425:=rfl,f240:=rfl,f423:=rfl,f271:=rfl,f422:=rfl,f270:=rfl,f126:=rfl,f130:=rfl,f351:=rfl,f465:=rfl,f466:=rfl,f467:=rfl,f616:=rfl }
theorem lives_:FnW prog 178 []=some (.bool true):=fnW_call.2 ⟨6000,isTrue_eq (by kernel_rfl)⟩
theorem ty_hts {a:AV} (h:Ty (.slice [.int .u64,.int .i64]) a):∃ (xs:List Ht) (e:Bool),a=.ro 2 (xs.map eHt) e:=by
 obtain ⟨es,e,rfl,_,hx⟩:=ty_slice h
 obtain ⟨xs,rfl,hr⟩:=ty_map2 (g:=eHt) (R:=fun _=>True) (fun l q=>by
  obtain ⟨q1,q2⟩:=q
  match l,q1 with
  | [u,v],_ =>
   obtain ⟨n1,rfl,h1⟩:=ty_u64 (q2 0 _ u rfl rfl)
   obtain ⟨n2,rfl,h2⟩:=ty_i64 (q2 1 _ v rfl rfl)
   exact ⟨⟨n1,n2⟩,rfl,trivial⟩) es hx
 exact ⟨xs,e,rfl⟩
theorem core616 (vs:List AV) (h:TyAll [.g [.slice [.int .u8,.int .u8,.int .u8,.int .u8],.slice [.int .u8],.int .u8],.g [.int .u64,.int .u8,.str,.slice [.str]],.c (.slice [.int .u64,.int .i64])] vs):FnW prog 616 vs=some (.bool true):=by
 match vs,h with
 | [a,b,c],⟨⟨es,ha,hl,hes⟩,⟨fs,hb,hl2,hfs⟩,hc,_⟩ =>
  subst ha
  subst hb
  obtain ⟨l,e,rfl⟩:=ty_hts hc
  match es,hl with
  | [x,y,w],_ =>
   obtain ⟨q,qe,rfl,hq⟩:=ty_four (hes 0 _ x rfl rfl)
   obtain ⟨z,ze,rfl,hz,hzl⟩:=ty_bytes2 (hes 1 _ y rfl rfl)
   obtain ⟨r,rfl,hr⟩:=ty_u8 (hes 2 _ w rfl rfl)
   match fs,hl2 with
   | [u,v,s,m],_ =>
    obtain ⟨k,rfl,h1⟩:=ty_u64 (hfs 0 _ u rfl rfl)
    obtain ⟨t,rfl,h2⟩:=ty_u8 (hfs 1 _ v rfl rfl)
    obtain ⟨s,rfl,_⟩:=ty_str (hfs 2 _ s rfl rfl)
    obtain ⟨m,me,rfl,_⟩:=ty_marks (hfs 3 _ m rfl rfl)
    exact smlaw_ok hasMs_ (item1_ok has_) lives_ q qe hq z ze hz hzl r hr ⟨k,t,s,m,me⟩ h2 l e
theorem args6:Tryz.f6.params.toList.map (argT Tryz.prog)=([.g [.slice [.int .u8,.int .u8,.int .u8,.int .u8],.slice [.int .u8],.int .u8],.g [.int .u64,.int .u8,.str,.slice [.str]],.c (.slice [.int .u64,.int .i64])]:List AT).map some:=by kernel_rfl
set_option maxRecDepth 100000 in
theorem lifted6 (os:Os) (started:os.Started) (H:Type) (enc:TypeId × Value→H) :
 ReturnsInHanded {} Tryz.checked os 6 .any (Rows.settlesMeasureSpec.pre6 enc Tryz.prog Tryz.f6 Rows.settlesMeasureRow.domain false) (Rows.settlesMeasureSpec.post enc Tryz.prog Tryz.f6 false true false false):=by
 refine returnsInHanded_of_change (C:=Tryz.checked) own_ started (by kernel_rfl) Tryz.func6
  (ChangeSpec.witness6 (enc:=enc) (C:=Tryz.checked) false ⟨#[],#[.agg #[.slice none 0 0,.slice none 0 0,.int .u8 0],.agg #[.int .u64 0,.int .u8 0,.string .empty,.slice none 0 0],.slice none 0 0],[]⟩ 8 (by kernel_rfl) (by kernel_rfl) (by kernel_rfl) (by kernel_rfl)) ?_
 intro W base args ds gs before hval hW hcnd _
 have hW':=hW
 obtain ⟨p,q,hA,hV,rfl,hfz,hnd⟩:=hW
 obtain ⟨rfl,rfl⟩:=trodVars_none hV
 have hlen:ds.length=3:=(trodAll_len hA).trans (by simp)
 refine (law_calls (enc:=enc) link okT (f:=616) args6 core616 (fun j t v e1 e2=>hval j t v (by simpa using e1) e2) hA).mono ?_
 rintro e W' ⟨rfl,h1,h2,h3,h4⟩
 refine ⟨_,rfl,law_post kids_ full_ rfl hW' ?_ (of_decide_eq_true (by kernel_rfl)) rfl (by kernel_rfl) h1 h2 h3 h4⟩
 match ds,hlen with
 | [d1,d2,d3],_=>rfl
theorem jA_:(Rows.settlesMeasureRow.inPlace == Tryz.pinned.checked.prog.inPlace 6)=true:=by kernel_rfl
theorem jB_:(Rows.settlesMeasureRow.unfollowed == Tryz.pinned.checked.prog.unfollowed 6)=true:=by kernel_rfl
theorem jC_:(Rows.settlesMeasureRow.recurses == Tryz.pinned.checked.prog.recurses 6)=true:=by kernel_rfl
theorem jD_:(Rows.settlesMeasureRow.named == Tryz.pinned.checked.prog.varsNamed 6)=true:=by kernel_rfl
theorem jJ_:laidOutB Tryz.pinned.checked.prog=true:=by kernel_rfl
theorem jK_:mapsRowed Tryz.pinned.checked.prog=true:=by kernel_rfl
theorem jF_:Tryz.pinned.checked.prog.stopsHeard=true:=by kernel_rfl
theorem jG_:Tryz.pinned.checked.prog.mayEnter=true:=by kernel_rfl
theorem jH_:(Rows.settlesMeasureRow.lifted == Tryz.pinned.checked.prog.liftsFinal)=true:=by kernel_rfl
theorem jI_:(Rows.settlesMeasureRow.plainKeys == Tryz.pinned.checked.prog.plainKeys)=true:=by kernel_rfl
theorem closed_:joinedFacts Tryz.pinned.checked.prog 6 Tryz.f6 Rows.settlesMeasureSpec Rows.settlesMeasureRow=true:=by
 unfold joinedFacts
 rw [jA_,jB_,jC_,jD_,jF_,jG_,jH_,jI_,jJ_,jK_]
 kernel_rfl
theorem named_:Tryz.pinned.checked.prog.funcNamed Rows.settlesMeasureRow.func=some 6:=by kernel_rfl
theorem inst_:Tryz.f6.isInstance Tryz.pinned.checked.prog Rows.settlesMeasureRow.origin Rows.settlesMeasureRow.targs:=of_decide_eq_true (by kernel_rfl)
theorem wrap_:Tryz.f6.isWrapper Tryz.pinned.checked.prog Rows.settlesMeasureRow.wrapper Rows.settlesMeasureRow.mainSum:=by
 unfold Func.isWrapper;first | (rw [if_pos (by decide +kernel)];kernel_rfl) | (rw [if_neg (by decide +kernel)];exact ⟨rfl,rfl⟩)
theorem settlesMeasure_holds:Rows.SettlesMeasureSaid :=
 OpenClaim.holds_of_wide 6 Tryz.f6 rfl rfl rfl rfl rfl rfl rfl ⟨rfl,rfl,rfl,rfl,rfl⟩ rfl rfl rfl rfl rfl named_ Tryz.func6 closed_ inst_ wrap_
  (fun os started H enc _=>lifted6 os started H enc)
end Go.Proofs.YtmpenhhlkcehpaaGreat
