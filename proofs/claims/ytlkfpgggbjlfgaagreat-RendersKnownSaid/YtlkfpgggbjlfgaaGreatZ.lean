/- The law RendersKnown says true. No conditions. -/
import Derived.Test.YtlkfpgggbjlfgaaGreatT8
namespace Go.Proofs.YtlkfpgggbjlfgaaGreat
open Go.ChangeShapes Go.WideShapes Go.ChangeAt Go.RowKit Go.Pav Go.Pw P Go.D
theorem agB:uy prog:={ aha:=rfl,ahq:=rfl,ahb:=rfl,aie:=rfl,ahx:=rfl,agH:=rfl,ad9:=rfl,aeK:=rfl,ahs:=rfl,ahn:=rfl,aiY:=rfl,ag3:=rfl,aiC:=rfl,inl:=rfl,pp:=rfl,akr:=rfl,akx:=rfl,akh:=rfl,akN:=rfl,akl:=rfl,aj0:=rfl,f258:=rfl,f260:=rfl,f127:=rfl,ahN:=rfl,agw:=rfl,ahl:=rfl,ag8:=rfl,ahP:=rfl,f282:=rfl,f140:=rfl,aiq:=rfl,agV:=rfl,ahf:=rfl,aiN:=rfl,ai1:=rfl,agF:=rfl,ag2:=rfl,ahB:=rfl,ahG:=rfl,f231:=rfl,agO:=rfl,YW:=rfl,aiw:=rfl,ah2:=rfl,aht:=rfl,agI:=rfl,aiB:=rfl,aiz:=rfl,adU:=rfl,ahT:=rfl,ahu:=rfl,aip:=rfl,ah5:=rfl,agE:=rfl,aiS:=rfl,agR:=rfl,ahm:=rfl,adE:=rfl,agC:=rfl,aiZ:=rfl,aij:=rfl,ahO:=rfl,ais:=rfl,Zk:=rfl,ahJ:=rfl,agS:=rfl,agN:=rfl,aiE:=rfl,air:=rfl,ahK:=rfl,aic:=rfl,f225:=rfl,f111:=rfl,f227:=rfl,aiW:=rfl,ag1:=rfl,ahc:=rfl,agA:=rfl,f240:=rfl,ah4:=rfl,ah3:=rfl,f230:=rfl,ag5:=rfl,f232:=rfl,f115:=rfl,f271:=rfl,f223:=rfl,ahd:=rfl,f270:=rfl,f126:=rfl,f130:=rfl,f238:=rfl,f122:=rfl,f249:=rfl,f250:=rfl,f246:=rfl,f247:=rfl,ajS:=rfl,akS:=rfl,f120:=rfl,f248:=rfl,f121:=rfl,f251:=rfl,f252:=rfl,f253:=rfl,f254:=rfl,f255:=rfl,f272:=rfl,f327:=rfl,f256:=rfl,ajH:=rfl,ajV:=rfl,akP:=rfl,akc:=rfl,aj1:=rfl,f263:=rfl,akF:=rfl,f261:=rfl,f262:=rfl,f149:=rfl,f151:=rfl,f304:=rfl,f265:=rfl,f264:=rfl,f125:=rfl,f259:=rfl,f257:=rfl,f124:=rfl,f123:=rfl,f86:=rfl }
theorem ahY:FnW prog 128 []=some (.bool true):=Pn.2 ⟨400,X3 (by kernel_rfl)⟩
theorem aik (vs:List AV) (h:U3 [] vs):FnW prog 86 vs=some (.bool true):=by
 match vs,h with
 | [],_=>exact Yr agB (YV ank) ahY
theorem akW:Tryz.f8.params.toList.map (YC Tryz.prog)=([]:List AT).map some:=by kernel_rfl
set_option maxRecDepth 100000 in
theorem aeN (os:Os) (started:os.Started) (H:Type) (enc:TypeId × Value→H) :
 ReturnsInHanded {} Tryz.checked os 8 .any (Rows.rendersKnownSpec.pre6 enc Tryz.prog Tryz.f8 Rows.rendersKnownRow.domain false) (Rows.rendersKnownSpec.post enc Tryz.prog Tryz.f8 false true false false):=by
 refine returnsInHanded_of_change (C:=Tryz.checked) aoH started (by kernel_rfl) Tryz.func8
  (ChangeSpec.witness6 (enc:=enc) (C:=Tryz.checked) false ⟨#[],#[],[]⟩ 8 (by kernel_rfl) (by kernel_rfl) (by kernel_rfl) (by kernel_rfl)) ?_
 intro W base args ds gs before hval hW hcnd _
 have hW':=hW
 obtain ⟨p,q,hA,hV,rfl,hfz,hnd⟩:=hW
 obtain ⟨rfl,rfl⟩:=trodVars_none hV
 have hlen:ds.length=0:=(Dw hA).trans (by kernel_rfl)
 refine (Xm (enc:=enc) link okT (f:=86) akW aik (fun j t v e1 e2=>hval j t v (by simp at e1) e2) hA).mono ?_
 rintro e W' ⟨rfl,h1,h2,h3,h4⟩
 refine ⟨_,rfl,abK akg aky rfl hW' ?_ (of_decide_eq_true (by kernel_rfl)) rfl (by kernel_rfl) h1 h2 h3 h4⟩
 match ds,hlen with
 | [],_=>rfl
theorem jA_:(Rows.rendersKnownRow.inPlace == Tryz.pinned.checked.prog.inPlace 8)=true:=by kernel_rfl
theorem jB_:(Rows.rendersKnownRow.unfollowed == Tryz.pinned.checked.prog.unfollowed 8)=true:=by kernel_rfl
theorem jC_:(Rows.rendersKnownRow.recurses == Tryz.pinned.checked.prog.recurses 8)=true:=by kernel_rfl
theorem jD_:(Rows.rendersKnownRow.named == Tryz.pinned.checked.prog.varsNamed 8)=true:=by kernel_rfl
theorem jJ_:laidOutB Tryz.pinned.checked.prog=true:=by kernel_rfl
theorem jK_:mapsRowed Tryz.pinned.checked.prog=true:=by kernel_rfl
theorem jF_:Tryz.pinned.checked.prog.stopsHeard=true:=by kernel_rfl
theorem jG_:Tryz.pinned.checked.prog.mayEnter=true:=by kernel_rfl
theorem jH_:(Rows.rendersKnownRow.lifted == Tryz.pinned.checked.prog.liftsFinal)=true:=by kernel_rfl
theorem jI_:(Rows.rendersKnownRow.plainKeys == Tryz.pinned.checked.prog.plainKeys)=true:=by kernel_rfl
theorem adl:joinedFacts Tryz.pinned.checked.prog 8 Tryz.f8 Rows.rendersKnownSpec Rows.rendersKnownRow=true:=by
 unfold joinedFacts
 rw [jA_,jB_,jC_,jD_,jF_,jG_,jH_,jI_,jJ_,jK_]
 kernel_rfl
theorem agz:Tryz.pinned.checked.prog.funcNamed Rows.rendersKnownRow.func=some 8:=by kernel_rfl
theorem akD:Tryz.f8.isInstance Tryz.pinned.checked.prog Rows.rendersKnownRow.origin Rows.rendersKnownRow.targs:=of_decide_eq_true (by kernel_rfl)
theorem aj2:Tryz.f8.isWrapper Tryz.pinned.checked.prog Rows.rendersKnownRow.wrapper Rows.rendersKnownRow.mainSum:=by
 unfold Func.isWrapper;first | (rw [if_pos (by decide +kernel)];kernel_rfl) | (rw [if_neg (by decide +kernel)];exact ⟨rfl,rfl⟩)
theorem rendersKnown_holds:Rows.RendersKnownSaid :=
 OpenClaim.holds_of_wide 8 Tryz.f8 rfl rfl rfl rfl rfl rfl rfl ⟨rfl,rfl,rfl,rfl,rfl⟩ rfl rfl rfl rfl rfl agz Tryz.func8 adl akD aj2
  (fun os started H enc _=>aeN os started H enc)
end Go.Proofs.YtlkfpgggbjlfgaaGreat
