/- The law ListsInsert says true for every input; its arguments read behind the call as before. No conditions. -/
import Derived.Test.YtpdccepmgkpkjaaGreatT7
namespace Go.Proofs.YtpdccepmgkpkjaaGreat
open Go.ChangeShapes Go.WideShapes Go.ChangeAt Go.RowKit Go.Pav Go.Pw P
theorem hasIL_:Go.D.HasIL prog:={ f561:=rfl,f517:=rfl,f557:=rfl,f556:=rfl,f511:=rfl,f510:=rfl,f560:=rfl,f545:=rfl,f578:=rfl,f543:=rfl,f495:=rfl,f516:=rfl,f500:=rfl,inl:=rfl,pp:=rfl,f434:=rfl,f519:=rfl,f518:=rfl,f562:=rfl,f433:=rfl,f282:=rfl,f140:=rfl,f439:=rfl,f581:=rfl,f579:=rfl,f585:=rfl,f549:=rfl,f502:=rfl,f503:=rfl,f548:=rfl,f404:=rfl,f231:=rfl,f594:=rfl,f586:=rfl,f550:=rfl,f505:=rfl,f408:=rfl,f398:=rfl,f424:=rfl,f494:=rfl,f496:=rfl,f497:=rfl,f498:=rfl,f499:=rfl,f544:=rfl,f546:=rfl,f580:=rfl,f512:=rfl,f584:=rfl,f558:=rfl,f559:=rfl,f592:=rfl,f582:=rfl,f583:=rfl,f593:=rfl,f563:=rfl,f520:=rfl,f442:=rfl,f441:=rfl,f547:=rfl,f513:=rfl,f501:=rfl,f425:=rfl,f225:=rfl,f111:=rfl,f227:=rfl,f460:=rfl,f459:=rfl,f340:=rfl,f226:=rfl,f221:=rfl,f400:=rfl,f219:=rfl,f504:=rfl,f407:=rfl,f239:=rfl,f406:=rfl,f240:=rfl,f172:=rfl,f112:=rfl,f423:=rfl,f399:=rfl,f230:=rfl,f405:=rfl,f232:=rfl,f115:=rfl,f236:=rfl,f271:=rfl,f223:=rfl,f235:=rfl,f532:=rfl,f216:=rfl,f217:=rfl,f401:=rfl,f220:=rfl,f218:=rfl,f108:=rfl,f5045:=rfl,f5044:=rfl,f5043:=rfl,f2042:=rfl,f5041:=rfl,f461:=rfl,f463:=rfl,f243:=rfl,f422:=rfl,f270:=rfl,f126:=rfl,f130:=rfl,f234:=rfl,f596:=rfl }
theorem ty_its {a:AV} (h:Ty (.slice [.int .u64,.int .u8,.str,.slice [.str]]) a):∃ (xs:List Go.D.It) (e:Bool),a=.ro 4 (xs.map Go.D.cIt) e∧∀ y ∈ xs,(0≤y.k∧y.k < 18446744073709551616)∧0≤y.t∧y.t≤255:=by
 obtain ⟨es,e,rfl,_,hx⟩:=ty_slice h
 obtain ⟨xs,rfl,hr⟩:=ty_map2 (g:=Go.D.cIt) (R:=fun y:Go.D.It=>(0≤y.k∧y.k < 18446744073709551616)∧0≤y.t∧y.t≤255) (fun l q=>by
  obtain ⟨q1,q2⟩:=q
  match l,q1 with
  | [u,v,w,x],_ =>
   obtain ⟨n1,rfl,h1⟩:=ty_u64 (q2 0 _ u rfl rfl)
   obtain ⟨n2,rfl,h2⟩:=ty_u8 (q2 1 _ v rfl rfl)
   obtain ⟨s,rfl,h3⟩:=ty_str (q2 2 _ w rfl rfl)
   obtain ⟨m,me,rfl,_,h4⟩:=ty_slice (q2 3 _ x rfl rfl)
   obtain ⟨ms,rfl,_⟩:=ty_map2 (g:=eS) (R:=fun _:Go.D.Bs=>True) (fun l q=>by
    obtain ⟨q1,q2⟩:=q
    match l,q1 with
    | [v],_ =>
     obtain ⟨n,rfl,_⟩:=ty_str (q2 0 _ v rfl rfl)
     exact ⟨n,rfl,trivial⟩) m h4
   exact ⟨⟨n1,n2,s,ms,me⟩,rfl,⟨h1.1,by simp only;omega⟩,h2⟩) es hx
 exact ⟨xs,e,rfl,hr⟩
theorem core596 (vs:List AV) (h:TyAll [.g [.slice [.int .u8,.int .u8,.int .u8,.int .u8],.slice [.int .u8],.int .u8],.c (.int .i64),.c (.slice [.int .u64,.int .u8,.str,.slice [.str]])] vs):FnW prog 596 vs=some (.bool true):=by
 match vs,h with
 | [a,n,b],⟨⟨es,ha,hl,hes⟩,hn,hb,_⟩ =>
  subst ha
  obtain ⟨at_,rfl,_⟩:=ty_i64 hn
  match es,hl with
  | [x,y,w],_ =>
   obtain ⟨q,qe,rfl,hq⟩:=ty_four (hes 0 _ x rfl rfl)
   obtain ⟨z,ze,rfl,hz,hzl⟩:=ty_bytes2 (hes 1 _ y rfl rfl)
   obtain ⟨r,rfl,hr⟩:=ty_u8 (hes 2 _ w rfl rfl)
   obtain ⟨xs,xe,rfl,hit⟩:=ty_its hb
   exact Go.D.insertlaw_ok hasIL_ (Go.D.item1_ok has_) lives_ q qe hq z ze hz hzl r hr at_ xs xe hit
theorem args3:Tryz.f3.params.toList.map (argT Tryz.prog)=([.g [.slice [.int .u8,.int .u8,.int .u8,.int .u8],.slice [.int .u8],.int .u8],.c (.int .i64),.c (.slice [.int .u64,.int .u8,.str,.slice [.str]])]:List AT).map some:=by kernel_rfl
set_option maxRecDepth 100000 in
theorem lifted3 (os:Os) (started:os.Started) (H:Type) (enc:TypeId × Value→H) :
 ReturnsInHanded {} Tryz.checked os 3 .any (Rows.listsInsertSpec.pre6 enc Tryz.prog Tryz.f3 Rows.listsInsertRow.domain false) (Rows.listsInsertSpec.post enc Tryz.prog Tryz.f3 false true false false):=by
 refine returnsInHanded_of_change (C:=Tryz.checked) own_ started (by kernel_rfl) Tryz.func3
  (ChangeSpec.witness6 (enc:=enc) (C:=Tryz.checked) false ⟨#[],#[.agg #[.slice none 0 0,.slice none 0 0,.int .u8 0],.int .i64 0,.slice none 0 0],[]⟩ 8 (by kernel_rfl) (by kernel_rfl) (by kernel_rfl) (by kernel_rfl)) ?_
 intro W base args ds gs before hval hW hcnd _
 have hW':=hW
 obtain ⟨p,q,hA,hV,rfl,hfz,hnd⟩:=hW
 obtain ⟨rfl,rfl⟩:=trodVars_none hV
 have hlen:ds.length=3:=(trodAll_len hA).trans (by simp)
 refine (law_calls (enc:=enc) link okT (f:=596) args3 core596 (fun j t v e1 e2=>hval j t v (by simpa using e1) e2) hA).mono ?_
 rintro e W' ⟨rfl,h1,h2,h3,h4⟩
 refine ⟨_,rfl,law_post kids_ full_ rfl hW' ?_ (of_decide_eq_true (by kernel_rfl)) rfl (by kernel_rfl) h1 h2 h3 h4⟩
 match ds,hlen with
 | [d1,d2,d3],_=>rfl
theorem jA_:(Rows.listsInsertRow.inPlace == Tryz.pinned.checked.prog.inPlace 3)=true:=by kernel_rfl
theorem jB_:(Rows.listsInsertRow.unfollowed == Tryz.pinned.checked.prog.unfollowed 3)=true:=by kernel_rfl
theorem jC_:(Rows.listsInsertRow.recurses == Tryz.pinned.checked.prog.recurses 3)=true:=by kernel_rfl
theorem jD_:(Rows.listsInsertRow.named == Tryz.pinned.checked.prog.varsNamed 3)=true:=by kernel_rfl
theorem jJ_:laidOutB Tryz.pinned.checked.prog=true:=by kernel_rfl
theorem jK_:mapsRowed Tryz.pinned.checked.prog=true:=by kernel_rfl
theorem jF_:Tryz.pinned.checked.prog.stopsHeard=true:=by kernel_rfl
theorem jG_:Tryz.pinned.checked.prog.mayEnter=true:=by kernel_rfl
theorem jH_:(Rows.listsInsertRow.lifted == Tryz.pinned.checked.prog.liftsFinal)=true:=by kernel_rfl
theorem jI_:(Rows.listsInsertRow.plainKeys == Tryz.pinned.checked.prog.plainKeys)=true:=by kernel_rfl
theorem closed_:joinedFacts Tryz.pinned.checked.prog 3 Tryz.f3 Rows.listsInsertSpec Rows.listsInsertRow=true:=by
 unfold joinedFacts
 rw [jA_,jB_,jC_,jD_,jF_,jG_,jH_,jI_,jJ_,jK_]
 kernel_rfl
theorem named_:Tryz.pinned.checked.prog.funcNamed Rows.listsInsertRow.func=some 3:=by kernel_rfl
theorem inst_:Tryz.f3.isInstance Tryz.pinned.checked.prog Rows.listsInsertRow.origin Rows.listsInsertRow.targs:=of_decide_eq_true (by kernel_rfl)
theorem wrap_:Tryz.f3.isWrapper Tryz.pinned.checked.prog Rows.listsInsertRow.wrapper Rows.listsInsertRow.mainSum:=by
 unfold Func.isWrapper;first | (rw [if_pos (by decide +kernel)];kernel_rfl) | (rw [if_neg (by decide +kernel)];exact ⟨rfl,rfl⟩)
theorem listsInsert_holds:Rows.ListsInsertSaid :=
 OpenClaim.holds_of_wide 3 Tryz.f3 rfl rfl rfl rfl rfl rfl rfl ⟨rfl,rfl,rfl,rfl,rfl⟩ rfl rfl rfl rfl rfl named_ Tryz.func3 closed_ inst_ wrap_
  (fun os started H enc _=>lifted3 os started H enc)
end Go.Proofs.YtpdccepmgkpkjaaGreat
