/- The law SettlesKnown says true. No conditions. -/
import Derived.Test.YtcekmcchienbfaaGreatT9
namespace Go.Proofs.YtcekmcchienbfaaGreat
open Go.ChangeShapes Go.WideShapes Go.ChangeAt Go.RowKit Go.Pav Go.Pw P Go.D
theorem akX:aao prog:={ ajV:=rfl,ai6:=rfl,aiV:=rfl,ajZ:=rfl,akb:=rfl,ajN:=rfl,ad1:=rfl,ahg:=rfl,akf:=rfl,ajM:=rfl,aiQ:=rfl,ai4:=rfl,aks:=rfl,inl:=rfl,pp:=rfl,akF:=rfl,ajk:=rfl,ajf:=rfl,aj2:=rfl,akc:=rfl,f282:=rfl,f140:=rfl,aiC:=rfl,akJ:=rfl,ajD:=rfl,ai1:=rfl,aiy:=rfl,ajB:=rfl,aiD:=rfl,ajR:=rfl,aj0:=rfl,f231:=rfl,aj3:=rfl,abd:=rfl,akN:=rfl,akR:=rfl,aiS:=rfl,aju:=rfl,aiu:=rfl,ajy:=rfl,agI:=rfl,aiF:=rfl,aiw:=rfl,akH:=rfl,akQ:=rfl,ajg:=rfl,aiv:=rfl,ajd:=rfl,akI:=rfl,agb:=rfl,akS:=rfl,akM:=rfl,aiU:=rfl,ajl:=rfl,ajw:=rfl,ZW:=rfl,ajL:=rfl,akv:=rfl,akd:=rfl,ajb:=rfl,ajr:=rfl,aiL:=rfl,ai8:=rfl,f225:=rfl,f111:=rfl,f227:=rfl,ake:=rfl,agB:=rfl,f224:=rfl,aki:=rfl,aiK:=rfl,f340:=rfl,f221:=rfl,ajG:=rfl,f219:=rfl,ajO:=rfl,aeN:=rfl,f239:=rfl,aky:=rfl,f240:=rfl,f172:=rfl,f112:=rfl,akq:=rfl,akP:=rfl,f230:=rfl,ajC:=rfl,f232:=rfl,f115:=rfl,f236:=rfl,f271:=rfl,f223:=rfl,f235:=rfl,f222:=rfl,aiP:=rfl,f270:=rfl,f126:=rfl,f130:=rfl,f122:=rfl,f249:=rfl,f250:=rfl,f246:=rfl,f247:=rfl,amA:=rfl,ame:=rfl,f120:=rfl,f248:=rfl,f121:=rfl,f251:=rfl,f252:=rfl,f253:=rfl,f272:=rfl,f327:=rfl,f274:=rfl,f177:=rfl,f132:=rfl,f273:=rfl,f256:=rfl,f149:=rfl,f304:=rfl,f131:=rfl,f133:=rfl,f137:=rfl,f135:=rfl,f276:=rfl,amr:=rfl,ah6:=rfl,aaw:=rfl,Xt:=rfl,Xi:=rfl,abN:=rfl,amR:=rfl,ang:=rfl,ama:=rfl,amy:=rfl,Hw:=rfl,aaG:=rfl,ac7:=rfl,ZP:=rfl,ach:=rfl,f322:=rfl,f323:=rfl,f313:=rfl,f161:=rfl,f312:=rfl,f314:=rfl,f319:=rfl,ana:=rfl,f318:=rfl,f176:=rfl,f344:=rfl,f174:=rfl,anl:=rfl,alL:=rfl,alH:=rfl,anf:=rfl,ain:=rfl,ahP:=rfl,ah8:=rfl,YP:=rfl,f99:=rfl,f192:=rfl,f201:=rfl,aij:=rfl,al1:=rfl,f160:=rfl,f321:=rfl,f175:=rfl,f92:=rfl,f173:=rfl }
theorem akk:FnW prog 178 []=some (.bool true):=Qr.2 ⟨6000,XJ (by kernel_rfl)⟩
theorem ajT (vs:List AV) (h:Ws [] vs):FnW prog 92 vs=some (.bool true):=by
 match vs,h with
 | [],_=>exact ab9 akX akk (acI asE)
theorem alF:Tryz.f5.params.toList.map (abM Tryz.prog)=([]:List AT).map some:=by kernel_rfl
set_option maxRecDepth 100000 in
theorem lifted5 (os:Os) (started:os.Started) (H:Type) (enc:TypeId × Value→H) :
 ReturnsInHanded {} Tryz.checked os 5 .any (Rows.settlesKnownSpec.pre6 enc Tryz.prog Tryz.f5 Rows.settlesKnownRow.domain false) (Rows.settlesKnownSpec.post enc Tryz.prog Tryz.f5 false true false false):=by
 refine returnsInHanded_of_change (C:=Tryz.checked) aqT started (by kernel_rfl) Tryz.func5
  (ChangeSpec.witness6 (enc:=enc) (C:=Tryz.checked) false ⟨#[],#[],[]⟩ 8 (by kernel_rfl) (by kernel_rfl) (by kernel_rfl) (by kernel_rfl)) ?_
 intro W base args ds gs before hval hW hcnd _
 have hW':=hW
 obtain ⟨p,q,hA,hV,rfl,hfz,hnd⟩:=hW
 obtain ⟨rfl,rfl⟩:=trodVars_none hV
 have hlen:ds.length=0:=(Dt hA).trans (by kernel_rfl)
 refine (YW (enc:=enc) link okT (f:=92) alF ajT (fun j t v e1 e2=>hval j t v (by simp at e1) e2) hA).mono ?_
 rintro e W' ⟨rfl,h1,h2,h3,h4⟩
 refine ⟨_,rfl,aci al3 amq rfl hW' ?_ (of_decide_eq_true (by kernel_rfl)) rfl (by kernel_rfl) h1 h2 h3 h4⟩
 match ds,hlen with
 | [],_=>rfl
theorem jA_:(Rows.settlesKnownRow.inPlace == Tryz.pinned.checked.prog.inPlace 5)=true:=by kernel_rfl
theorem jB_:(Rows.settlesKnownRow.unfollowed == Tryz.pinned.checked.prog.unfollowed 5)=true:=by kernel_rfl
theorem jC_:(Rows.settlesKnownRow.recurses == Tryz.pinned.checked.prog.recurses 5)=true:=by kernel_rfl
theorem jD_:(Rows.settlesKnownRow.named == Tryz.pinned.checked.prog.varsNamed 5)=true:=by kernel_rfl
theorem jJ_:laidOutB Tryz.pinned.checked.prog=true:=by kernel_rfl
theorem jK_:mapsRowed Tryz.pinned.checked.prog=true:=by kernel_rfl
theorem jF_:Tryz.pinned.checked.prog.stopsHeard=true:=by kernel_rfl
theorem jG_:Tryz.pinned.checked.prog.mayEnter=true:=by kernel_rfl
theorem jH_:(Rows.settlesKnownRow.lifted == Tryz.pinned.checked.prog.liftsFinal)=true:=by kernel_rfl
theorem jI_:(Rows.settlesKnownRow.plainKeys == Tryz.pinned.checked.prog.plainKeys)=true:=by kernel_rfl
theorem afk:joinedFacts Tryz.pinned.checked.prog 5 Tryz.f5 Rows.settlesKnownSpec Rows.settlesKnownRow=true:=by
 unfold joinedFacts
 rw [jA_,jB_,jC_,jD_,jF_,jG_,jH_,jI_,jJ_,jK_]
 kernel_rfl
theorem akO:Tryz.pinned.checked.prog.funcNamed Rows.settlesKnownRow.func=some 5:=by kernel_rfl
theorem amH:Tryz.f5.isInstance Tryz.pinned.checked.prog Rows.settlesKnownRow.origin Rows.settlesKnownRow.targs:=of_decide_eq_true (by kernel_rfl)
theorem alB:Tryz.f5.isWrapper Tryz.pinned.checked.prog Rows.settlesKnownRow.wrapper Rows.settlesKnownRow.mainSum:=by
 unfold Func.isWrapper;first | (rw [if_pos (by decide +kernel)];kernel_rfl) | (rw [if_neg (by decide +kernel)];exact ⟨rfl,rfl⟩)
theorem settlesKnown_holds:Rows.SettlesKnownSaid :=
 OpenClaim.holds_of_wide 5 Tryz.f5 rfl rfl rfl rfl rfl rfl rfl ⟨rfl,rfl,rfl,rfl,rfl⟩ rfl rfl rfl rfl rfl akO Tryz.func5 afk amH alB
  (fun os started H enc _=>lifted5 os started H enc)
end Go.Proofs.YtcekmcchienbfaaGreat
