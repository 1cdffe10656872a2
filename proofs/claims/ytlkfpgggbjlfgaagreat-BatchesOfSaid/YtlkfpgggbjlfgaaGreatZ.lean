/- The law BatchesOf says true for every input; its arguments read behind the call as before. No conditions. -/
import Derived.Test.YtlkfpgggbjlfgaaGreatT9
namespace Go.Proofs.YtlkfpgggbjlfgaaGreat
open Go.ChangeShapes Go.WideShapes Go.ChangeAt Go.RowKit Go.Pav Go.Pw P Go.D
theorem alc:Ew prog:={ amH:=rfl,apc:=rfl,ak5:=rfl,ama:=rfl,alk:=rfl,akn:=rfl,al1:=rfl,afH:=rfl,ahL:=rfl,alE:=rfl,amn:=rfl,ak9:=rfl,akj:=rfl,amk:=rfl,inl:=rfl,pp:=rfl,akK:=rfl,alX:=rfl,amC:=rfl,amP:=rfl,amY:=rfl,f282:=rfl,f140:=rfl,ald:=rfl,amm:=rfl,akk:=rfl,alF:=rfl,aml:=rfl,alL:=rfl,akg:=rfl,akQ:=rfl,amZ:=rfl,f231:=rfl,alr:=rfl,aed:=rfl,alD:=rfl,akr:=rfl,amh:=rfl,alB:=rfl,alh:=rfl,akT:=rfl,aij:=rfl,amW:=rfl,alJ:=rfl,aky:=rfl,alY:=rfl,al0:=rfl,alm:=rfl,akm:=rfl,ak8:=rfl,agp:=rfl,akO:=rfl,ak2:=rfl,al5:=rfl,alM:=rfl,akG:=rfl,ae2:=rfl,akX:=rfl,amR:=rfl,alz:=rfl,al9:=rfl,amr:=rfl,akE:=rfl,aln:=rfl,f225:=rfl,f111:=rfl,f227:=rfl,amb:=rfl,aeS:=rfl,f340:=rfl,f226:=rfl,f221:=rfl,akZ:=rfl,f219:=rfl,al8:=rfl,alN:=rfl,f239:=rfl,alx:=rfl,f240:=rfl,amM:=rfl,f172:=rfl,f112:=rfl,amw:=rfl,ak3:=rfl,f230:=rfl,al7:=rfl,f232:=rfl,f115:=rfl,f271:=rfl,f223:=rfl,ala:=rfl,f216:=rfl,f222:=rfl,al3:=rfl,f228:=rfl,f229:=rfl,f110:=rfl,f237:=rfl,f114:=rfl,f217:=rfl,amq:=rfl,f220:=rfl,f218:=rfl,f109:=rfl,f108:=rfl,ajB:=rfl,acd:=rfl,f52:=rfl,f56:=rfl,f62:=rfl,f65:=rfl,f66:=rfl,f67:=rfl,f74:=rfl,f77:=rfl,f78:=rfl,f79:=rfl,f80:=rfl,f81:=rfl,f82:=rfl,f83:=rfl,anE:=rfl,an2:=rfl,aoq:=rfl,anD:=rfl,ajP:=rfl,f336:=rfl,apb:=rfl,f333:=rfl,apm:=rfl,f343:=rfl,f342:=rfl,aoV:=rfl,aoK:=rfl,anX:=rfl,anN:=rfl,aog:=rfl,aox:=rfl,anW:=rfl,f241:=rfl,f242:=rfl,alg:=rfl,f270:=rfl,f126:=rfl,f130:=rfl,anO:=rfl,f171:=rfl,f170:=rfl,ajN:=rfl,f180:=rfl,acE:=rfl,ajM:=rfl,apa:=rfl,aoM:=rfl,ao7:=rfl,aoo:=rfl,anM:=rfl,aoa:=rfl,f326:=rfl,aop:=rfl,f182:=rfl,amf:=rfl,alV:=rfl,f341:=rfl,f169:=rfl }
theorem amv:FnW prog 166 []=some (.bool true):=Ud.2 ⟨6000,aaF (by kernel_rfl)⟩
theorem afv {a:AV} (h:Ty (.slice [.int .u8,.int .u8,.int .u8,.int .u8,.int .u8]) a):∃ (xs:List Q5) (e:Bool),a=.ro 5 (xs.map eQ5) e/\(∀ s ∈ xs,OG s)/\xs.length < 9223372036854775808:=by
 obtain ⟨es,e,rfl,hl,hx⟩:=Ip h;obtain ⟨xs,rfl,hr⟩:=Nv (g:=eQ5) (R:=OG) (λl q=>by
  obtain ⟨q1,q2⟩:=q;match l,q1 with
  | [u,v,w,x,y],_ =>obtain ⟨n1,rfl,h1⟩:=wo (q2 0 _ u rfl rfl);obtain ⟨n2,rfl,h2⟩:=wo (q2 1 _ v rfl rfl);obtain ⟨n3,rfl,h3⟩:=wo (q2 2 _ w rfl rfl);obtain ⟨n4,rfl,h4⟩:=wo (q2 3 _ x rfl rfl);obtain ⟨n5,rfl,h5⟩:=wo (q2 4 _ y rfl rfl);exact ⟨⟨n1,n2,n3,n4,n5⟩,rfl,h1,h2,h3,h4,h5⟩) es hx
 exact ⟨xs,e,rfl,hr,by simpa using hl⟩
theorem agP (vs:List AV) (h:Xx [.g [.slice [.int .u8,.int .u8,.int .u8,.int .u8],.slice [.int .u8],.int .u8],.g [.slice [.int .u8,.int .u8,.int .u8,.int .u8,.int .u8]]] vs):FnW prog 618 vs=some (.bool true):=by
 match vs,h with
 | [a,b],⟨⟨es,ha,hl,hes⟩,⟨fs,hb,hl2,hfs⟩,_⟩ =>
  subst ha;subst hb;match es,hl,fs,hl2 with
  | [x,y,w],_,[u],_ =>obtain ⟨q,qe,rfl,hq⟩:=agB (hes 0 _ x rfl rfl);obtain ⟨z,ze,rfl,hz,hzl⟩:=ZH (hes 1 _ y rfl rfl);obtain ⟨r,rfl,hr⟩:=wo (hes 2 _ w rfl rfl);obtain ⟨p,pe,rfl,hp,hpl⟩:=afv (hfs 0 _ u rfl rfl);exact adW alc (sD asU) amv q qe hq z ze hz hzl r hr p pe hp hpl
theorem apk:Tryz.f3.params.toList.map (acQ Tryz.prog)=([.g [.slice [.int .u8,.int .u8,.int .u8,.int .u8],.slice [.int .u8],.int .u8],.g [.slice [.int .u8,.int .u8,.int .u8,.int .u8,.int .u8]]]:List AT).map some:=by kernel_rfl
set_option maxRecDepth 100000 in
theorem lifted3 (os:Os) (started:os.Started) (H:Type) (enc:TypeId × Value->H) :
 ReturnsInHanded {} Tryz.checked os 3 .any (Rows.batchesOfSpec.pre6 enc Tryz.prog Tryz.f3 Rows.batchesOfRow.domain false) (Rows.batchesOfSpec.post enc Tryz.prog Tryz.f3 false true false false):=by
 refine returnsInHanded_of_change (C:=Tryz.checked) ati started (by kernel_rfl) Tryz.func3 (ChangeSpec.witness6 (enc:=enc) (C:=Tryz.checked) false ⟨#[],#[.agg #[.slice none 0 0,.slice none 0 0,.int .u8 0],.agg #[.slice none 0 0]],[]⟩ 8 (by kernel_rfl) (by kernel_rfl) (by kernel_rfl) (by kernel_rfl)) ?_;intro W base args ds gs before hval hW hcnd _;have hW':=hW;obtain ⟨p,q,hA,hV,rfl,hfz,hnd⟩:=hW;obtain ⟨rfl,rfl⟩:=trodVars_none hV;have hlen:ds.length=2:=(Eu hA).trans qqz;refine (aaj (enc:=enc) link okT (f:=618) apk agP (λj t v e1 e2=>hval j t v (by simpa using e1) e2) hA).mono ?_;rintro e W' ⟨rfl,h1,h2,h3,h4⟩;refine ⟨_,rfl,abo anK aph rfl hW' ?_ (zwz (by kernel_rfl)) rfl (by kernel_rfl) h1 h2 h3 h4⟩;match ds,hlen with
 | [d1,d2],_=>rfl
theorem jA_:(Rows.batchesOfRow.inPlace == Tryz.pinned.checked.prog.inPlace 3)=true:=by kernel_rfl
theorem jB_:(Rows.batchesOfRow.unfollowed == Tryz.pinned.checked.prog.unfollowed 3)=true:=by kernel_rfl
theorem jC_:(Rows.batchesOfRow.recurses == Tryz.pinned.checked.prog.recurses 3)=true:=by kernel_rfl
theorem jD_:(Rows.batchesOfRow.named == Tryz.pinned.checked.prog.varsNamed 3)=true:=by kernel_rfl
theorem jJ_:laidOutB Tryz.pinned.checked.prog=true:=by kernel_rfl
theorem jK_:mapsRowed Tryz.pinned.checked.prog=true:=by kernel_rfl
theorem jF_:Tryz.pinned.checked.prog.stopsHeard=true:=by kernel_rfl
theorem jG_:Tryz.pinned.checked.prog.mayEnter=true:=by kernel_rfl
theorem jH_:(Rows.batchesOfRow.lifted == Tryz.pinned.checked.prog.liftsFinal)=true:=by kernel_rfl
theorem jI_:(Rows.batchesOfRow.plainKeys == Tryz.pinned.checked.prog.plainKeys)=true:=by kernel_rfl
theorem ahP:joinedFacts Tryz.pinned.checked.prog 3 Tryz.f3 Rows.batchesOfSpec Rows.batchesOfRow=true:=by unfold joinedFacts;rw [jA_,jB_,jC_,jD_,jF_,jG_,jH_,jI_,jJ_,jK_];kernel_rfl
theorem ak0:Tryz.pinned.checked.prog.funcNamed Rows.batchesOfRow.func=some 3:=by kernel_rfl
theorem aoX:Tryz.f3.isInstance Tryz.pinned.checked.prog Rows.batchesOfRow.origin Rows.batchesOfRow.targs:=zwz (by kernel_rfl)
theorem anL:Tryz.f3.isWrapper Tryz.pinned.checked.prog Rows.batchesOfRow.wrapper Rows.batchesOfRow.mainSum:=by unfold Func.isWrapper;first | (rw [qwz (by decide +kernel)];kernel_rfl) | (rw [qwq (by decide +kernel)];exact ⟨rfl,rfl⟩)
theorem batchesOf_holds:Rows.BatchesOfSaid :=
 OpenClaim.holds_of_wide 3 Tryz.f3 rfl rfl rfl rfl rfl rfl rfl ⟨rfl,rfl,rfl,rfl,rfl⟩ rfl rfl rfl rfl rfl ak0 Tryz.func3 ahP aoX anL
  (λos started H enc _=>lifted3 os started H enc)
end Go.Proofs.YtlkfpgggbjlfgaaGreat
