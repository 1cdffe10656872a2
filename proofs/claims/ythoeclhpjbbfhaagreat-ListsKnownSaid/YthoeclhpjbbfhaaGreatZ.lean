/- The law ListsKnown says true. No conditions. -/
import Derived.Test.YthoeclhpjbbfhaaGreatT7
namespace Go.Proofs.YthoeclhpjbbfhaaGreat
open Go.ChangeShapes Go.WideShapes Go.ChangeAt Go.RowKit Go.Pav Go.Pw P Go.D
theorem xW:bf prog:={ yg:=rfl,xg:=rfl,vY:=rfl,yM:=rfl,xY:=rfl,xJ:=rfl,rY:=rfl,uj:=rfl,f578:=rfl,f543:=rfl,xw:=rfl,wo:=rfl,xk:=rfl,inl:=rfl,pp:=rfl,wW:=rfl,wZ:=rfl,xA:=rfl,yF:=rfl,wC:=rfl,f282:=rfl,f140:=rfl,xR:=rfl,vZ:=rfl,wJ:=rfl,yO:=rfl,wY:=rfl,xH:=rfl,wV:=rfl,wR:=rfl,yw:=rfl,f231:=rfl,xG:=rfl,qW:=rfl,yH:=rfl,yR:=rfl,wH:=rfl,wX:=rfl,wQ:=rfl,wO:=rfl,tN:=rfl,yT:=rfl,xK:=rfl,wL:=rfl,xu:=rfl,x9:=rfl,wF:=rfl,yj:=rfl,wS:=rfl,sO:=rfl,wB:=rfl,wM:=rfl,vV:=rfl,wG:=rfl,yC:=rfl,ru:=rfl,xq:=rfl,yA:=rfl,xB:=rfl,yD:=rfl,wz:=rfl,wI:=rfl,yh:=rfl,f225:=rfl,f111:=rfl,f227:=rfl,wU:=rfl,yI:=rfl,f340:=rfl,f226:=rfl,f221:=rfl,yP:=rfl,f219:=rfl,f239:=rfl,yQ:=rfl,f240:=rfl,vU:=rfl,f172:=rfl,f112:=rfl,xI:=rfl,xX:=rfl,f230:=rfl,yJ:=rfl,f232:=rfl,f115:=rfl,f271:=rfl,f223:=rfl,f216:=rfl,f222:=rfl,wE:=rfl,f228:=rfl,f229:=rfl,f110:=rfl,f237:=rfl,f114:=rfl,f217:=rfl,rO:=rfl,f220:=rfl,f218:=rfl,f109:=rfl,o9:=rfl,qp:=rfl,ql:=rfl,vH:=rfl,uU:=rfl,pU:=rfl }
theorem vS:jP prog:={ yg:=rfl,xg:=rfl,vY:=rfl,yM:=rfl,xY:=rfl,xJ:=rfl,rY:=rfl,uj:=rfl,f578:=rfl,f543:=rfl,xw:=rfl,wo:=rfl,xk:=rfl,inl:=rfl,pp:=rfl,wW:=rfl,wZ:=rfl,xA:=rfl,yF:=rfl,wC:=rfl,f282:=rfl,f140:=rfl,xR:=rfl,vZ:=rfl,wJ:=rfl,yO:=rfl,wY:=rfl,xH:=rfl,wV:=rfl,wR:=rfl,yw:=rfl,f231:=rfl,xG:=rfl,qW:=rfl,yH:=rfl,yR:=rfl,wH:=rfl,wX:=rfl,wQ:=rfl,wO:=rfl,tN:=rfl,yT:=rfl,xK:=rfl,wL:=rfl,xu:=rfl,x9:=rfl,wF:=rfl,yj:=rfl,wS:=rfl,sO:=rfl,wB:=rfl,wM:=rfl,vV:=rfl,wG:=rfl,yC:=rfl,ru:=rfl,xq:=rfl,yA:=rfl,xB:=rfl,yD:=rfl,wz:=rfl,wI:=rfl,yh:=rfl,f225:=rfl,f111:=rfl,f227:=rfl,wU:=rfl,yI:=rfl,f340:=rfl,f226:=rfl,f221:=rfl,yP:=rfl,f219:=rfl,f239:=rfl,yQ:=rfl,f240:=rfl,vU:=rfl,f172:=rfl,f112:=rfl,xI:=rfl,xX:=rfl,f230:=rfl,yJ:=rfl,f232:=rfl,f115:=rfl,f271:=rfl,f223:=rfl,f216:=rfl,f222:=rfl,wE:=rfl,f228:=rfl,f229:=rfl,f110:=rfl,f237:=rfl,f114:=rfl,f241:=rfl,f242:=rfl,f243:=rfl,zk:=rfl,f270:=rfl,f126:=rfl,f130:=rfl,f217:=rfl,rO:=rfl,f220:=rfl,f218:=rfl,f109:=rfl,f117:=rfl }
theorem lives_:FnW prog 119 []=some (.bool true):=fnW_call.2 ⟨400,isTrue_eq (by kernel_rfl)⟩
theorem Ap:OrcOk prog orY:=zQ vS rfl (pR vS.todM) lives_ rfl
theorem x0_:(ob (seqO prog orY 6000 0 (cs3Y++[hd3Y]) zYe) (canon 0 a3Y))=some (st3K 0):=by kernel_rfl
theorem Aw:iterO prog orY 6000 0 a3Y w85_B3 128 (st3K 0)=some (st3K 128):=by kernel_rfl
theorem Ce:iterO prog orY 6000 0 a3Y w85_B3 128 (st3K 128)=some (st3K 256):=by kernel_rfl
theorem Aq:iterO prog orY 6000 0 a3Y w85_B3 128 (st3K 256)=some (st3K 384):=by kernel_rfl
theorem CX:iterO prog orY 6000 0 a3Y w85_B3 128 (st3K 384)=some (st3K 512):=by kernel_rfl
theorem BO:iterO prog orY 6000 0 a3Y w85_B3 128 (st3K 512)=some (st3K 640):=by kernel_rfl
theorem AA:iterO prog orY 6000 0 a3Y w85_B3 128 (st3K 640)=some (st3K 768):=by kernel_rfl
theorem BU:iterO prog orY 6000 0 a3Y w85_B3 128 (st3K 768)=some (st3K 896):=by kernel_rfl
theorem Aa:iterO prog orY 6000 0 a3Y w85_B3 128 (st3K 896)=some (st3K 1024):=by kernel_rfl
theorem xE_:leaveO prog orY 6000 0 0 e3Y w85_B3 (st3K 1024)=some sXK:=by kernel_rfl
theorem y0_:(ob (seqO prog orY 6000 0 (cs1Y++[hd1Y]) zZK) (canon 0 a1Y))=some (st1Y 0):=by kernel_rfl
theorem Bl:iterO prog orY 6000 0 a1Y w85_B1 1 (st1Y 0)=some (st1Y 1):=by kernel_rfl
theorem BQ:iterO prog orY 6000 0 a1Y w85_B1 1 (st1Y 1)=some (st1Y 2):=by kernel_rfl
theorem Ai:iterO prog orY 6000 0 a1Y w85_B1 1 (st1Y 2)=some (st1Y 3):=by kernel_rfl
theorem Au:iterO prog orY 6000 0 a1Y w85_B1 1 (st1Y 3)=some (st1Y 4):=by kernel_rfl
theorem BM:iterO prog orY 6000 0 a1Y w85_B1 1 (st1Y 4)=some (st1Y 5):=by kernel_rfl
theorem AX:iterO prog orY 6000 0 a1Y w85_B1 1 (st1Y 5)=some (st1Y 6):=by kernel_rfl
theorem Ci:iterO prog orY 6000 0 a1Y w85_B1 1 (st1Y 6)=some (st1Y 7):=by kernel_rfl
theorem CP:iterO prog orY 6000 0 a1Y w85_B1 1 (st1Y 7)=some (st1Y 8):=by kernel_rfl
theorem yE_:leaveO prog orY 6000 0 2 e0Y w85_B1 (st1Y 8)=some zYe:=by kernel_rfl
theorem z0_:(ob (seqO prog orY 6000 0 ([]++[hd0Y]) zYe) (canon 0 a0Y))=some (st0Y 0):=by kernel_rfl
theorem Cc:iterO prog orY 6000 0 a0Y w85_B0 10 (st0Y 0)=some (st0Y 10):=by kernel_rfl
theorem zY:iterO prog orY 6000 0 a0Y w85_B0 10 (st0Y 10)=some (st0Y 20):=by kernel_rfl
theorem BH:iterO prog orY 6000 0 a0Y w85_B0 10 (st0Y 20)=some (st0Y 30):=by kernel_rfl
theorem zX:iterO prog orY 6000 0 a0Y w85_B0 10 (st0Y 30)=some (st0Y 40):=by kernel_rfl
theorem CS:iterO prog orY 6000 0 a0Y w85_B0 10 (st0Y 40)=some (st0Y 50):=by kernel_rfl
theorem BK:iterO prog orY 6000 0 a0Y w85_B0 10 (st0Y 50)=some (st0Y 60):=by kernel_rfl
theorem Di:iterO prog orY 6000 0 a0Y w85_B0 10 (st0Y 60)=some (st0Y 70):=by kernel_rfl
theorem CW:iterO prog orY 6000 0 a0Y w85_B0 10 (st0Y 70)=some (st0Y 80):=by kernel_rfl
theorem BL:iterO prog orY 6000 0 a0Y w85_B0 10 (st0Y 80)=some (st0Y 90):=by kernel_rfl
theorem CO:iterO prog orY 6000 0 a0Y w85_B0 10 (st0Y 90)=some (st0Y 100):=by kernel_rfl
theorem yY:iterO prog orY 6000 0 a0Y w85_B0 10 (st0Y 100)=some (st0Y 110):=by kernel_rfl
theorem yZ:iterO prog orY 6000 0 a0Y w85_B0 10 (st0Y 110)=some (st0Y 120):=by kernel_rfl
theorem zE_:leaveO prog orY 6000 0 7 e0Y w85_B0 (st0Y 120)=some zYe:=by kernel_rfl
theorem f_:(ob (evO prog orY 6000 0 w85_c0 zYe) fun r=>ob (fnEndW w85.res r) fun r=>frzW r.2.1 frzDepth r.1)=some (.bool true):=by kernel_rfl
theorem xL_:∀ i,i < 8→iterO prog orY 6000 0 a3Y w85_B3 128 (st3K (i * 128))=some (st3K (i * 128+128))
 | 0,_=>Aw
 | 1,_=>Ce
 | 2,_=>Aq
 | 3,_=>CX
 | 4,_=>BO
 | 5,_=>AA
 | 6,_=>BU
 | 7,_=>Aa
 | n+8,h=>absurd h (by omega)
theorem yL_:∀ i,i < 8→iterO prog orY 6000 0 a1Y w85_B1 1 (st1Y (i * 1))=some (st1Y (i * 1+1))
 | 0,_=>Bl
 | 1,_=>BQ
 | 2,_=>Ai
 | 3,_=>Au
 | 4,_=>BM
 | 5,_=>AX
 | 6,_=>Ci
 | 7,_=>CP
 | n+8,h=>absurd h (by omega)
theorem zL_:∀ i,i < 12→iterO prog orY 6000 0 a0Y w85_B0 10 (st0Y (i * 10))=some (st0Y (i * 10+10))
 | 0,_=>Cc
 | 1,_=>zY
 | 2,_=>BH
 | 3,_=>zX
 | 4,_=>CS
 | 5,_=>BK
 | 6,_=>Di
 | 7,_=>CW
 | 8,_=>BL
 | 9,_=>CO
 | 10,_=>yY
 | 11,_=>yZ
 | n+12,h=>absurd h (by omega)
theorem zI:FnW prog 112 [.agg i1C,.agg i1C]=some (.int .i64 1):=fnW_call.2 ⟨200,by kernel_rfl⟩
theorem xO:FnW prog 85 []=some (.bool true):=zx xW Ap rfl ⟨zI,x0_,xL_,xE_,y0_,yL_,yE_,z0_,zL_,zE_,f_⟩
theorem vW (vs:List AV) (h:TyAll [] vs):FnW prog 85 vs=some (.bool true):=by
 match vs,h with
 | [],_=>exact xO
theorem zF:Tryz.f3.params.toList.map (argT Tryz.prog)=([]:List AT).map some:=by kernel_rfl
set_option maxRecDepth 100000 in
theorem lifted3 (os:Os) (started:os.Started) (H:Type) (enc:TypeId × Value→H) :
 ReturnsInHanded {} Tryz.checked os 3 .any (Rows.listsKnownSpec.pre6 enc Tryz.prog Tryz.f3 Rows.listsKnownRow.domain false) (Rows.listsKnownSpec.post enc Tryz.prog Tryz.f3 false true false false):=by
 refine returnsInHanded_of_change (C:=Tryz.checked) own_ started (by kernel_rfl) Tryz.func3
  (ChangeSpec.witness6 (enc:=enc) (C:=Tryz.checked) false ⟨#[],#[],[]⟩ 8 (by kernel_rfl) (by kernel_rfl) (by kernel_rfl) (by kernel_rfl)) ?_
 intro W base args ds gs before hval hW hcnd _
 have hW':=hW
 obtain ⟨p,q,hA,hV,rfl,hfz,hnd⟩:=hW
 obtain ⟨rfl,rfl⟩:=trodVars_none hV
 have hlen:ds.length=0:=(trodAll_len hA).trans (by kernel_rfl)
 refine (nZ (enc:=enc) link okT (f:=85) zF vW (fun j t v e1 e2=>hval j t v (by simp at e1) e2) hA).mono ?_
 rintro e W' ⟨rfl,h1,h2,h3,h4⟩
 refine ⟨_,rfl,law_post kids_ full_ rfl hW' ?_ (of_decide_eq_true (by kernel_rfl)) rfl (by kernel_rfl) h1 h2 h3 h4⟩
 match ds,hlen with
 | [],_=>rfl
theorem jA_:(Rows.listsKnownRow.inPlace == Tryz.pinned.checked.prog.inPlace 3)=true:=by kernel_rfl
theorem jB_:(Rows.listsKnownRow.unfollowed == Tryz.pinned.checked.prog.unfollowed 3)=true:=by kernel_rfl
theorem jC_:(Rows.listsKnownRow.recurses == Tryz.pinned.checked.prog.recurses 3)=true:=by kernel_rfl
theorem jD_:(Rows.listsKnownRow.named == Tryz.pinned.checked.prog.varsNamed 3)=true:=by kernel_rfl
theorem jJ_:laidOutB Tryz.pinned.checked.prog=true:=by kernel_rfl
theorem jK_:mapsRowed Tryz.pinned.checked.prog=true:=by kernel_rfl
theorem jF_:Tryz.pinned.checked.prog.stopsHeard=true:=by kernel_rfl
theorem jG_:Tryz.pinned.checked.prog.mayEnter=true:=by kernel_rfl
theorem jH_:(Rows.listsKnownRow.lifted == Tryz.pinned.checked.prog.liftsFinal)=true:=by kernel_rfl
theorem jI_:(Rows.listsKnownRow.plainKeys == Tryz.pinned.checked.prog.plainKeys)=true:=by kernel_rfl
theorem closed_:joinedFacts Tryz.pinned.checked.prog 3 Tryz.f3 Rows.listsKnownSpec Rows.listsKnownRow=true:=by
 unfold joinedFacts
 rw [jA_,jB_,jC_,jD_,jF_,jG_,jH_,jI_,jJ_,jK_]
 kernel_rfl
theorem named_:Tryz.pinned.checked.prog.funcNamed Rows.listsKnownRow.func=some 3:=by kernel_rfl
theorem inst_:Tryz.f3.isInstance Tryz.pinned.checked.prog Rows.listsKnownRow.origin Rows.listsKnownRow.targs:=of_decide_eq_true (by kernel_rfl)
theorem wrap_:Tryz.f3.isWrapper Tryz.pinned.checked.prog Rows.listsKnownRow.wrapper Rows.listsKnownRow.mainSum:=by
 unfold Func.isWrapper;first | (rw [if_pos (by decide +kernel)];kernel_rfl) | (rw [if_neg (by decide +kernel)];exact ⟨rfl,rfl⟩)
theorem listsKnown_holds:Rows.ListsKnownSaid :=
 OpenClaim.holds_of_wide 3 Tryz.f3 rfl rfl rfl rfl rfl rfl rfl ⟨rfl,rfl,rfl,rfl,rfl⟩ rfl rfl rfl rfl rfl named_ Tryz.func3 closed_ inst_ wrap_
  (fun os started H enc _=>lifted3 os started H enc)
end Go.Proofs.YthoeclhpjbbfhaaGreat
