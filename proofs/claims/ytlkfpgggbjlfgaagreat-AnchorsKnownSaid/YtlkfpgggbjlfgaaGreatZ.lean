/- The law AnchorsKnown says true. No conditions. -/
import Derived.Test.YtlkfpgggbjlfgaaGreatT8
namespace Go.Proofs.YtlkfpgggbjlfgaaGreat
open Go.ChangeShapes Go.WideShapes Go.ChangeAt Go.RowKit Go.Pav Go.Pw P Go.D
theorem ait:Vq prog:={ aiE:=rfl,aiH:=rfl,aiS:=rfl,ajr:=rfl,ah2:=rfl,ajS:=rfl,afi:=rfl,afW:=rfl,ajZ:=rfl,ahV:=rfl,ah3:=rfl,aiC:=rfl,ahZ:=rfl,inl:=rfl,pp:=rfl,f225:=rfl,f111:=rfl,f227:=rfl,ahK:=rfl,aeu:=rfl,f224:=rfl,akl:=rfl,aki:=rfl,f340:=rfl,f226:=rfl,f221:=rfl,ahG:=rfl,f219:=rfl,aj2:=rfl,ajA:=rfl,f239:=rfl,aiV:=rfl,f240:=rfl,ajR:=rfl,akn:=rfl,f122:=rfl,f249:=rfl,f250:=rfl,f246:=rfl,f247:=rfl,al9:=rfl,ak1:=rfl,f120:=rfl,f253:=rfl,f327:=rfl,f318:=rfl,f322:=rfl,f323:=rfl,f313:=rfl,f161:=rfl,f160:=rfl,f321:=rfl,f256:=rfl,aiU:=rfl,ajU:=rfl,ahJ:=rfl,aj1:=rfl,ajC:=rfl,f282:=rfl,f140:=rfl,akf:=rfl,aiW:=rfl,akb:=rfl,aiG:=rfl,ail:=rfl,ahT:=rfl,ajx:=rfl,akk:=rfl,ah0:=rfl,f231:=rfl,ajB:=rfl,aaZ:=rfl,ajX:=rfl,ajp:=rfl,ajT:=rfl,ahR:=rfl,aiM:=rfl,ajs:=rfl,adW:=rfl,aix:=rfl,ajt:=rfl,ajD:=rfl,ahI:=rfl,ai3:=rfl,aju:=rfl,aiX:=rfl,aia:=rfl,ad4:=rfl,aii:=rfl,aiR:=rfl,ah6:=rfl,ai9:=rfl,ajj:=rfl,aal:=rfl,aj6:=rfl,ahU:=rfl,aiA:=rfl,ahY:=rfl,ahH:=rfl,air:=rfl,ajc:=rfl,ajl:=rfl,f230:=rfl,ahM:=rfl,f232:=rfl,f115:=rfl,f271:=rfl,f223:=rfl,aj0:=rfl,f216:=rfl,f222:=rfl,ajw:=rfl,f228:=rfl,f229:=rfl,f110:=rfl,f237:=rfl,f114:=rfl,f241:=rfl,f242:=rfl,ajn:=rfl,f270:=rfl,f126:=rfl,f130:=rfl,alO:=rfl,f336:=rfl,alT:=rfl,f333:=rfl,aly:=rfl,f343:=rfl,f342:=rfl,ak9:=rfl,ale:=rfl,al4:=rfl,al5:=rfl,akY:=rfl,f217:=rfl,ahP:=rfl,f220:=rfl,f218:=rfl,f109:=rfl,f108:=rfl,alH:=rfl,ak6:=rfl,amc:=rfl,f326:=rfl,f171:=rfl,f163:=rfl,f324:=rfl }
theorem ajz:FnW prog 164 []=some (.bool true):=O1.2 ⟨6000,XB (by kernel_rfl)⟩
theorem a0_:(ob (IB prog orA 6000 0 (csA++[afc]) st0) (canon 0 aA4))=some (stA 0):=by kernel_rfl
theorem aoX:eG prog orA 6000 0 aA4 jL 1 (stA 0)=some (stA 1):=by kernel_rfl
theorem apr:eG prog orA 6000 0 aA4 jL 1 (stA 1)=some (stA 2):=by kernel_rfl
theorem aoB:eG prog orA 6000 0 aA4 jL 1 (stA 2)=some (stA 3):=by kernel_rfl
theorem aoR:eG prog orA 6000 0 aA4 jL 1 (stA 3)=some (stA 4):=by kernel_rfl
theorem aqS:eG prog orA 6000 0 aA4 jL 1 (stA 4)=some (stA 5):=by kernel_rfl
theorem arW:eG prog orA 6000 0 aA4 jL 1 (stA 5)=some (stA 6):=by kernel_rfl
theorem aqh:eG prog orA 6000 0 aA4 jL 1 (stA 6)=some (stA 7):=by kernel_rfl
theorem aE_:vT prog orA 6000 0 0 aAe jL (stA 7)=some st0:=by kernel_rfl
theorem b0_:(ob (IB prog orA 6000 0 (csB++[agb]) st0) (canon 0 aA1))=some (stB 0):=by kernel_rfl
theorem arJ:eG prog orA 6000 0 aA1 lU 1 (stB 0)=some (stB 1):=by kernel_rfl
theorem aqV:eG prog orA 6000 0 aA1 lU 1 (stB 1)=some (stB 2):=by kernel_rfl
theorem arO:eG prog orA 6000 0 aA1 lU 1 (stB 2)=some (stB 3):=by kernel_rfl
theorem apo:eG prog orA 6000 0 aA1 lU 1 (stB 3)=some (stB 4):=by kernel_rfl
theorem bE_:vT prog orA 6000 0 4 aAe lU (stB 4)=some st0:=by kernel_rfl
theorem c0_:(ob (IB prog orA 6000 0 ([]++[adA]) st0) (canon 0 aA0))=some (stC 0):=by kernel_rfl
theorem ao4:eG prog orA 6000 0 aA0 jk 20 (stC 0)=some (stC 20):=by kernel_rfl
theorem apS:eG prog orA 6000 0 aA0 jk 20 (stC 20)=some (stC 40):=by kernel_rfl
theorem apw:eG prog orA 6000 0 aA0 jk 20 (stC 40)=some (stC 60):=by kernel_rfl
theorem ap0:eG prog orA 6000 0 aA0 jk 20 (stC 60)=some (stC 80):=by kernel_rfl
theorem aoo:eG prog orA 6000 0 aA0 jk 20 (stC 80)=some (stC 100):=by kernel_rfl
theorem aqj:eG prog orA 6000 0 aA0 jk 20 (stC 100)=some (stC 120):=by kernel_rfl
theorem apu:eG prog orA 6000 0 aA0 jk 20 (stC 120)=some (stC 140):=by kernel_rfl
theorem arI:eG prog orA 6000 0 aA0 jk 20 (stC 140)=some (stC 160):=by kernel_rfl
theorem cE_:vT prog orA 6000 0 10 aAe jk (stC 160)=some st0:=by kernel_rfl
theorem f_:(ob (evO prog orA 6000 0 G7 st0) fun r=>ob (kS w90.res r) fun r=>bJ r.2.1 au r.1)=some (.bool true):=by kernel_rfl
theorem aL_:∀ i,i < 7→eG prog orA 6000 0 aA4 jL 1 (stA (i * 1))=some (stA (i * 1+1))
 | 0,_=>aoX
 | 1,_=>apr
 | 2,_=>aoB
 | 3,_=>aoR
 | 4,_=>aqS
 | 5,_=>arW
 | 6,_=>aqh
 | n+7,h=>absurd h (by omega)
theorem bL_:∀ i,i < 4→eG prog orA 6000 0 aA1 lU 1 (stB (i * 1))=some (stB (i * 1+1))
 | 0,_=>arJ
 | 1,_=>aqV
 | 2,_=>arO
 | 3,_=>apo
 | n+4,h=>absurd h (by omega)
theorem cL_:∀ i,i < 8→eG prog orA 6000 0 aA0 jk 20 (stC (i * 20))=some (stC (i * 20+20))
 | 0,_=>ao4
 | 1,_=>apS
 | 2,_=>apw
 | 3,_=>ap0
 | 4,_=>aoo
 | 5,_=>aqj
 | 6,_=>apu
 | 7,_=>arI
 | n+8,h=>absurd h (by omega)
theorem ajO (vs:List AV) (h:UF [] vs):FnW prog 90 vs=some (.bool true):=by
 match vs,h with
 | [],_=>exact XE (ama ait (rO arj) ajz) rfl ⟨a0_,aL_,aE_,b0_,bL_,bE_,c0_,cL_,cE_,f_⟩
theorem alz:Tryz.f6.params.toList.map (aaU Tryz.prog)=([]:List AT).map some:=by kernel_rfl
set_option maxRecDepth 100000 in
theorem lifted6 (os:Os) (started:os.Started) (H:Type) (enc:TypeId × Value→H) :
 ReturnsInHanded {} Tryz.checked os 6 .any (Rows.anchorsKnownSpec.pre6 enc Tryz.prog Tryz.f6 Rows.anchorsKnownRow.domain false) (Rows.anchorsKnownSpec.post enc Tryz.prog Tryz.f6 false true false false):=by
 refine returnsInHanded_of_change (C:=Tryz.checked) arZ started (by kernel_rfl) Tryz.func6
  (ChangeSpec.witness6 (enc:=enc) (C:=Tryz.checked) false ⟨#[],#[],[]⟩ 8 (by kernel_rfl) (by kernel_rfl) (by kernel_rfl) (by kernel_rfl)) ?_
 intro W base args ds gs before hval hW hcnd _
 have hW':=hW
 obtain ⟨p,q,hA,hV,rfl,hfz,hnd⟩:=hW
 obtain ⟨rfl,rfl⟩:=trodVars_none hV
 have hlen:ds.length=0:=(Dk hA).trans (by kernel_rfl)
 refine (Xm (enc:=enc) link okT (f:=90) alz ajO (fun j t v e1 e2=>hval j t v (by simp at e1) e2) hA).mono ?_
 rintro e W' ⟨rfl,h1,h2,h3,h4⟩
 refine ⟨_,rfl,acr alc alB rfl hW' ?_ (of_decide_eq_true (by kernel_rfl)) rfl (by kernel_rfl) h1 h2 h3 h4⟩
 match ds,hlen with
 | [],_=>rfl
theorem jA_:(Rows.anchorsKnownRow.inPlace == Tryz.pinned.checked.prog.inPlace 6)=true:=by kernel_rfl
theorem jB_:(Rows.anchorsKnownRow.unfollowed == Tryz.pinned.checked.prog.unfollowed 6)=true:=by kernel_rfl
theorem jC_:(Rows.anchorsKnownRow.recurses == Tryz.pinned.checked.prog.recurses 6)=true:=by kernel_rfl
theorem jD_:(Rows.anchorsKnownRow.named == Tryz.pinned.checked.prog.varsNamed 6)=true:=by kernel_rfl
theorem jJ_:laidOutB Tryz.pinned.checked.prog=true:=by kernel_rfl
theorem jK_:mapsRowed Tryz.pinned.checked.prog=true:=by kernel_rfl
theorem jF_:Tryz.pinned.checked.prog.stopsHeard=true:=by kernel_rfl
theorem jG_:Tryz.pinned.checked.prog.mayEnter=true:=by kernel_rfl
theorem jH_:(Rows.anchorsKnownRow.lifted == Tryz.pinned.checked.prog.liftsFinal)=true:=by kernel_rfl
theorem jI_:(Rows.anchorsKnownRow.plainKeys == Tryz.pinned.checked.prog.plainKeys)=true:=by kernel_rfl
theorem aeA:joinedFacts Tryz.pinned.checked.prog 6 Tryz.f6 Rows.anchorsKnownSpec Rows.anchorsKnownRow=true:=by
 unfold joinedFacts
 rw [jA_,jB_,jC_,jD_,jF_,jG_,jH_,jI_,jJ_,jK_]
 kernel_rfl
theorem akd:Tryz.pinned.checked.prog.funcNamed Rows.anchorsKnownRow.func=some 6:=by kernel_rfl
theorem al6:Tryz.f6.isInstance Tryz.pinned.checked.prog Rows.anchorsKnownRow.origin Rows.anchorsKnownRow.targs:=of_decide_eq_true (by kernel_rfl)
theorem alh:Tryz.f6.isWrapper Tryz.pinned.checked.prog Rows.anchorsKnownRow.wrapper Rows.anchorsKnownRow.mainSum:=by
 unfold Func.isWrapper;first | (rw [if_pos (by decide +kernel)];kernel_rfl) | (rw [if_neg (by decide +kernel)];exact ⟨rfl,rfl⟩)
theorem anchorsKnown_holds:Rows.AnchorsKnownSaid :=
 OpenClaim.holds_of_wide 6 Tryz.f6 rfl rfl rfl rfl rfl rfl rfl ⟨rfl,rfl,rfl,rfl,rfl⟩ rfl rfl rfl rfl rfl akd Tryz.func6 aeA al6 alh
  (fun os started H enc _=>lifted6 os started H enc)
end Go.Proofs.YtlkfpgggbjlfgaaGreat
