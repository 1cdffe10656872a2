/- The law HoldsKnown says true. No conditions. -/
import Derived.Test.YtlkfpgggbjlfgaaGreatT9
namespace Go.Proofs.YtlkfpgggbjlfgaaGreat
open Go.ChangeShapes Go.WideShapes Go.ChangeAt Go.RowKit Go.Pav Go.Pw P Go.D
theorem alC:jg prog:={ akT:=rfl,akY:=rfl,alV:=rfl,ak1:=rfl,ams:=rfl,alv:=rfl,aiA:=rfl,ajt:=rfl,alP:=rfl,akB:=rfl,alm:=rfl,alq:=rfl,al5:=rfl,inl:=rfl,pp:=rfl,aoH:=rfl,anX:=rfl,ao6:=rfl,amu:=rfl,ak5:=rfl,amA:=rfl,alT:=rfl,ak7:=rfl,f282:=rfl,f140:=rfl,am3:=rfl,adC:=rfl,amj:=rfl,alQ:=rfl,akM:=rfl,apb:=rfl,aoL:=rfl,aoS:=rfl,f286:=rfl,f297:=rfl,f284:=rfl,acE:=rfl,f285:=rfl,f299:=rfl,f298:=rfl,apq:=rfl,aod:=rfl,aor:=rfl,aoh:=rfl,apw:=rfl,f289:=rfl,ado:=rfl,amZ:=rfl,al2:=rfl,amF:=rfl,alH:=rfl,amW:=rfl,alu:=rfl,alY:=rfl,akF:=rfl,f231:=rfl,ak8:=rfl,afY:=rfl,akQ:=rfl,akS:=rfl,amy:=rfl,alU:=rfl,amd:=rfl,amf:=rfl,ajs:=rfl,alS:=rfl,aml:=rfl,akD:=rfl,aln:=rfl,ama:=rfl,alI:=rfl,akG:=rfl,akE:=rfl,ahd:=rfl,amX:=rfl,am4:=rfl,amP:=rfl,ak9:=rfl,akK:=rfl,ale:=rfl,amS:=rfl,al8:=rfl,akC:=rfl,f225:=rfl,f111:=rfl,f227:=rfl,al1:=rfl,alc:=rfl,amc:=rfl,f239:=rfl,alA:=rfl,f240:=rfl,amg:=rfl,alb:=rfl,f230:=rfl,agw:=rfl,f232:=rfl,f115:=rfl,f236:=rfl,f271:=rfl,f223:=rfl,f235:=rfl,ali:=rfl,f270:=rfl,f126:=rfl,f130:=rfl,f238:=rfl,aoI:=rfl,aot:=rfl,anY:=rfl,aol:=rfl,f296:=rfl,f283:=rfl,apd:=rfl,anJ:=rfl,aki:=rfl,f277:=rfl,f278:=rfl,f279:=rfl,aoj:=rfl,anV:=rfl,aoB:=rfl,anT:=rfl,anO:=rfl,f290:=rfl,f291:=rfl,f287:=rfl,f288:=rfl,f281:=rfl,f139:=rfl,f280:=rfl,acL:=rfl,f143:=rfl,ajB:=rfl,akb:=rfl,aj6:=rfl,aj9:=rfl,aj8:=rfl,f141:=rfl,f142:=rfl,f144:=rfl,f294:=rfl,f295:=rfl,f300:=rfl,f138:=rfl,anU:=rfl }
theorem alR:FnW prog 145 []=some (.bool true):=nT (FM prog) (n:=2000) (by kernel_rfl)
theorem apn:FnW prog 292 [.agg [.int .u8 0,.str [],.str [],.ro 2 [] true,.str [],.ro 6 [] true],.int .i64 80]=some (.int .i64 1):=nT (FM prog) (n:=2000) (by kernel_rfl)
theorem anZ:FnW prog 445 [QT]=some (.int .i64 1):=nT (FM prog) (n:=2000) (by kernel_rfl)
theorem anK:FnW prog 517 [.str [114,111,119]]=some (.bool true):=nT (FM prog) (n:=2000) (by kernel_rfl)
theorem aoV:FnW prog 516 [.str [120]]=some (.bool true):=nT (FM prog) (n:=2000) (by kernel_rfl)
theorem aoz:FnW prog 581 [.str [114,111,119]]=some (.bool true):=nT (FM prog) (n:=2000) (by kernel_rfl)
theorem apr:FnW prog 579 [.str [120]]=some (.bool true):=nT (FM prog) (n:=2000) (by kernel_rfl)
theorem anA:FnW prog 585 [.ro 3 [] true]=some (.bool true):=nT (FM prog) (n:=2000) (by kernel_rfl)
theorem a0_:(ob (y7 prog zf 2000 0 (cK0++[hK0]) sKz) (canon 0 aK1))=some sK0:=by kernel_rfl
theorem aL_:lM prog zf 2000 0 aK1 vS 20 sK0=some agC:=by kernel_rfl
theorem aE_:EP prog zf 2000 0 0 ag6 vS agC=some sK1:=by kernel_rfl
theorem atm:y7 prog zf 2000 0 aiH sK1=some ahK:=by kernel_rfl
theorem b1_:y7 prog zf 2000 0 cK1 ahK=some sK2:=by kernel_rfl
theorem b2_:y7 prog zf 2000 0 cK2 sK2=some sK3:=by kernel_rfl
theorem b3_:y7 prog zf 2000 0 cK3 sK3=some sK4:=by kernel_rfl
theorem b4_:(ob (y7 prog zf 2000 0 (cK4++[hK4]) sK4) (canon 0 aK0))=some (sKi 0):=by kernel_rfl
theorem auN:lM prog zf 2000 0 aK0 mD 20 (sKi 0)=some (sKi 20):=by kernel_rfl
theorem atc:lM prog zf 2000 0 aK0 mD 20 (sKi 20)=some (sKi 40):=by kernel_rfl
theorem ar9:lM prog zf 2000 0 aK0 mD 20 (sKi 40)=some (sKi 60):=by kernel_rfl
theorem asg:lM prog zf 2000 0 aK0 mD 20 (sKi 60)=some (sKi 80):=by kernel_rfl
theorem cE_:EP prog zf 2000 0 2 ajd mD (sKi 80)=some sKz:=by kernel_rfl
theorem f_:(ob (evO prog zf 2000 0 Jv sKz) λr=>ob (gX w88.res r) λr=>bD r.2.1 aC r.1)=some (.bool true):=by kernel_rfl
theorem cL_:∀ i,i < 4->lM prog zf 2000 0 aK0 mD 20 (sKi (i * 20))=some (sKi (i * 20+20))
 | 0,_=>auN
 | 1,_=>atc
 | 2,_=>ar9
 | 3,_=>asg
 | n+4,h=>absurd h qqq
theorem ak2 (vs:List AV) (h:YA [] vs):FnW prog 88 vs=some (.bool true):=by
 match vs,h with
 | [],_=>exact abr (ao7 alC (afV ar2) alR apn anZ anK aoV aoz apr anA) rfl ⟨a0_,aL_,aE_,atm,b1_,b2_,b3_,b4_,cL_,cE_,f_⟩
theorem apa:Tryz.f9.params.toList.map (afH Tryz.prog)=([]:List AT).map some:=by kernel_rfl
set_option maxRecDepth 100000 in
theorem ahs (os:Os) (started:os.Started) (H:Type) (enc:TypeId × Value->H) :
 ReturnsInHanded {} Tryz.checked os 9 .any (Rows.holdsKnownSpec.pre6 enc Tryz.prog Tryz.f9 Rows.holdsKnownRow.domain false) (Rows.holdsKnownSpec.post enc Tryz.prog Tryz.f9 false true false false):=by
 refine returnsInHanded_of_change (C:=Tryz.checked) au8 started (by kernel_rfl) Tryz.func9 (ChangeSpec.witness6 (enc:=enc) (C:=Tryz.checked) false ⟨#[],#[],[]⟩ 8 (by kernel_rfl) (by kernel_rfl) (by kernel_rfl) (by kernel_rfl)) ?_;intro W base args ds gs before hval hW hcnd _;have hW':=hW;obtain ⟨p,q,hA,hV,rfl,hfz,hnd⟩:=hW;obtain ⟨rfl,rfl⟩:=trodVars_none hV;have hlen:ds.length=0:=(FC hA).trans (by kernel_rfl);refine (aaq (enc:=enc) link okT (f:=88) apa ak2 (λj t v e1 e2=>hval j t v (by simp at e1) e2) hA).mono ?_;rintro e W' ⟨rfl,h1,h2,h3,h4⟩;refine ⟨_,rfl,ac7 ao5 aoW rfl hW' ?_ (qoj (by kernel_rfl)) rfl (by kernel_rfl) h1 h2 h3 h4⟩;match ds,hlen with
 | [],_=>rfl
theorem jA_:(Rows.holdsKnownRow.inPlace == Tryz.pinned.checked.prog.inPlace 9)=true:=by kernel_rfl
theorem jB_:(Rows.holdsKnownRow.unfollowed == Tryz.pinned.checked.prog.unfollowed 9)=true:=by kernel_rfl
theorem jC_:(Rows.holdsKnownRow.recurses == Tryz.pinned.checked.prog.recurses 9)=true:=by kernel_rfl
theorem jD_:(Rows.holdsKnownRow.named == Tryz.pinned.checked.prog.varsNamed 9)=true:=by kernel_rfl
theorem jJ_:laidOutB Tryz.pinned.checked.prog=true:=by kernel_rfl
theorem jK_:mapsRowed Tryz.pinned.checked.prog=true:=by kernel_rfl
theorem jF_:Tryz.pinned.checked.prog.stopsHeard=true:=by kernel_rfl
theorem jG_:Tryz.pinned.checked.prog.mayEnter=true:=by kernel_rfl
theorem jH_:(Rows.holdsKnownRow.lifted == Tryz.pinned.checked.prog.liftsFinal)=true:=by kernel_rfl
theorem jI_:(Rows.holdsKnownRow.plainKeys == Tryz.pinned.checked.prog.plainKeys)=true:=by kernel_rfl
theorem ahL:joinedFacts Tryz.pinned.checked.prog 9 Tryz.f9 Rows.holdsKnownSpec Rows.holdsKnownRow=true:=by unfold joinedFacts;rw [jA_,jB_,jC_,jD_,jF_,jG_,jH_,jI_,jJ_,jK_];kernel_rfl
theorem ald:Tryz.pinned.checked.prog.funcNamed Rows.holdsKnownRow.func=some 9:=by kernel_rfl
theorem aox:Tryz.f9.isInstance Tryz.pinned.checked.prog Rows.holdsKnownRow.origin Rows.holdsKnownRow.targs:=qoj (by kernel_rfl)
theorem an5:Tryz.f9.isWrapper Tryz.pinned.checked.prog Rows.holdsKnownRow.wrapper Rows.holdsKnownRow.mainSum:=by unfold Func.isWrapper;first | (rw [qzq (by decide +kernel)];kernel_rfl) | (rw [qwx (by decide +kernel)];exact ⟨rfl,rfl⟩)
theorem holdsKnown_holds:Rows.HoldsKnownSaid :=
 OpenClaim.holds_of_wide 9 Tryz.f9 rfl rfl rfl rfl rfl rfl rfl ⟨rfl,rfl,rfl,rfl,rfl⟩ rfl rfl rfl rfl rfl ald Tryz.func9 ahL aox an5
  (λos started H enc _=>ahs os started H enc)
end Go.Proofs.YtlkfpgggbjlfgaaGreat
