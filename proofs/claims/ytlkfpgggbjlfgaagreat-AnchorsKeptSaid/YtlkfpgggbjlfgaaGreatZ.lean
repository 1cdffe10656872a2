/- The law AnchorsKept says true for every input; its arguments read behind the call as before. No conditions. -/
import Derived.Test.YtlkfpgggbjlfgaaGreatT7
namespace Go.Proofs.YtlkfpgggbjlfgaaGreat
open Go.ChangeShapes Go.WideShapes Go.ChangeAt Go.RowKit Go.Pav Go.Pw P Go.D
theorem ag5:Yp prog:={ air:=rfl,ahL:=rfl,aib:=rfl,ai5:=rfl,ai1:=rfl,ain:=rfl,ac6:=rfl,afj:=rfl,ai8:=rfl,aia:=rfl,ahB:=rfl,agR:=rfl,ahM:=rfl,inl:=rfl,pp:=rfl,f225:=rfl,f111:=rfl,f227:=rfl,ah3:=rfl,adq:=rfl,f224:=rfl,aiU:=rfl,ahc:=rfl,f340:=rfl,f226:=rfl,f221:=rfl,aiH:=rfl,f219:=rfl,ahO:=rfl,ag0:=rfl,f239:=rfl,aiR:=rfl,f240:=rfl,aht:=rfl,ahb:=rfl,f122:=rfl,f249:=rfl,f250:=rfl,f246:=rfl,f247:=rfl,akI:=rfl,ajU:=rfl,f120:=rfl,f253:=rfl,f327:=rfl,f318:=rfl,f322:=rfl,f323:=rfl,f313:=rfl,f161:=rfl,f160:=rfl,f321:=rfl,f256:=rfl,agO:=rfl,ahP:=rfl,ahr:=rfl,ahk:=rfl,aiE:=rfl,f282:=rfl,f140:=rfl,ahq:=rfl,ahD:=rfl,ahp:=rfl,ahh:=rfl,ag2:=rfl,aij:=rfl,ah4:=rfl,aip:=rfl,aiF:=rfl,f231:=rfl,aiW:=rfl,aay:=rfl,ajh:=rfl,aii:=rfl,aiY:=rfl,agQ:=rfl,aie:=rfl,aik:=rfl,afN:=rfl,agU:=rfl,ahT:=rfl,ah9:=rfl,aiG:=rfl,ahg:=rfl,ahw:=rfl,aiN:=rfl,ajb:=rfl,aes:=rfl,aho:=rfl,ag3:=rfl,ahU:=rfl,ag4:=rfl,agT:=rfl,abI:=rfl,ahQ:=rfl,ah8:=rfl,aiv:=rfl,ahC:=rfl,ai3:=rfl,ah1:=rfl,aji:=rfl,ag1:=rfl,f230:=rfl,aha:=rfl,f232:=rfl,f115:=rfl,f271:=rfl,f223:=rfl,agX:=rfl,f216:=rfl,f222:=rfl,ajg:=rfl,f228:=rfl,f229:=rfl,f110:=rfl,f237:=rfl,f114:=rfl,f241:=rfl,f242:=rfl,aiy:=rfl,f270:=rfl,f126:=rfl,f130:=rfl,akX:=rfl,f336:=rfl,akv:=rfl,f333:=rfl,akt:=rfl,f343:=rfl,f342:=rfl,aku:=rfl,akl:=rfl,ajY:=rfl,aj9:=rfl,akT:=rfl,f217:=rfl,ait:=rfl,f220:=rfl,f218:=rfl,f109:=rfl,f108:=rfl,akq:=rfl,aki:=rfl,akN:=rfl,f326:=rfl,f171:=rfl,f163:=rfl,f324:=rfl }
theorem ajc:FnW prog 164 []=some (.bool true):=Pn.2 ⟨6000,WW (by kernel_rfl)⟩
theorem afg {a:AV} (h:Ty (.slice [.int .u8,.int .u8,.int .u8,.int .u8,.int .u8]) a):∃ (xs:List Q5) (e:Bool),a=.ro 5 (xs.map eQ5) e∧(∀ s ∈ xs,LX s)∧xs.length < 9223372036854775808:=by
 obtain ⟨es,e,rfl,hl,hx⟩:=Gw h
 obtain ⟨xs,rfl,hr⟩:=MQ (g:=eQ5) (R:=LX) (fun l q=>by
  obtain ⟨q1,q2⟩:=q
  match l,q1 with
  | [u,v,w,x,y],_ =>
   obtain ⟨n1,rfl,h1⟩:=uo (q2 0 _ u rfl rfl)
   obtain ⟨n2,rfl,h2⟩:=uo (q2 1 _ v rfl rfl)
   obtain ⟨n3,rfl,h3⟩:=uo (q2 2 _ w rfl rfl)
   obtain ⟨n4,rfl,h4⟩:=uo (q2 3 _ x rfl rfl)
   obtain ⟨n5,rfl,h5⟩:=uo (q2 4 _ y rfl rfl)
   exact ⟨⟨n1,n2,n3,n4,n5⟩,rfl,h1,h2,h3,h4,h5⟩) es hx
 exact ⟨xs,e,rfl,hr,by simpa using hl⟩
theorem adD (vs:List AV) (h:TW [.g [.slice [.int .u8,.int .u8,.int .u8,.int .u8],.slice [.int .u8],.int .u8],.g [.int .u8,.int .u16],.g [.slice [.int .u8,.int .u8,.int .u8,.int .u8,.int .u8]]] vs):FnW prog 163 vs=some (.bool true):=by
 match vs,h with
 | [a,b,c],⟨⟨es,ha,hl,hes⟩,⟨gs,hc,hl3,hgs⟩,⟨fs,hb,hl2,hfs⟩,_⟩ =>
  subst ha
  subst hc
  subst hb
  match es,hl,gs,hl3,fs,hl2 with
  | [x,y,w],_,[s,t],_,[u],_ =>
   obtain ⟨q,qe,rfl,hq⟩:=adY (hes 0 _ x rfl rfl)
   obtain ⟨z,ze,rfl,hz,hzl⟩:=Vk (hes 1 _ y rfl rfl)
   obtain ⟨r,rfl,hr⟩:=uo (hes 2 _ w rfl rfl)
   obtain ⟨p,pe,rfl,hp,hpl⟩:=afg (hfs 0 _ u rfl rfl)
   obtain ⟨a1,rfl,h1⟩:=uo (hgs 0 _ s rfl rfl)
   obtain ⟨b1,rfl,h2⟩:=aiS (hgs 1 _ t rfl rfl)
   exact Zd ag5 (qO amS) ajc q qe hq z ze hz hzl r hr a1 b1 h1 h2 p pe hp hpl
theorem akw:Tryz.f5.params.toList.map (Ye Tryz.prog)=([.g [.slice [.int .u8,.int .u8,.int .u8,.int .u8],.slice [.int .u8],.int .u8],.g [.int .u8,.int .u16],.g [.slice [.int .u8,.int .u8,.int .u8,.int .u8,.int .u8]]]:List AT).map some:=by kernel_rfl
set_option maxRecDepth 100000 in
theorem lifted5 (os:Os) (started:os.Started) (H:Type) (enc:TypeId × Value→H) :
 ReturnsInHanded {} Tryz.checked os 5 .any (Rows.anchorsKeptSpec.pre6 enc Tryz.prog Tryz.f5 Rows.anchorsKeptRow.domain false) (Rows.anchorsKeptSpec.post enc Tryz.prog Tryz.f5 false true false false):=by
 refine returnsInHanded_of_change (C:=Tryz.checked) an5 started (by kernel_rfl) Tryz.func5
  (ChangeSpec.witness6 (enc:=enc) (C:=Tryz.checked) false ⟨#[],#[.agg #[.slice none 0 0,.slice none 0 0,.int .u8 0],.agg #[.int .u8 0,.int .u16 0],.agg #[.slice none 0 0]],[]⟩ 8 (by kernel_rfl) (by kernel_rfl) (by kernel_rfl) (by kernel_rfl)) ?_
 intro W base args ds gs before hval hW hcnd _
 have hW':=hW
 obtain ⟨p,q,hA,hV,rfl,hfz,hnd⟩:=hW
 obtain ⟨rfl,rfl⟩:=trodVars_none hV
 have hlen:ds.length=3:=(CW hA).trans (by simp)
 refine (Wn (enc:=enc) link okT (f:=163) akw adD (fun j t v e1 e2=>hval j t v (by simpa using e1) e2) hA).mono ?_
 rintro e W' ⟨rfl,h1,h2,h3,h4⟩
 refine ⟨_,rfl,Zu aky akp rfl hW' ?_ (of_decide_eq_true (by kernel_rfl)) rfl (by kernel_rfl) h1 h2 h3 h4⟩
 match ds,hlen with
 | [d1,d2,d3],_=>rfl
theorem jA_:(Rows.anchorsKeptRow.inPlace == Tryz.pinned.checked.prog.inPlace 5)=true:=by kernel_rfl
theorem jB_:(Rows.anchorsKeptRow.unfollowed == Tryz.pinned.checked.prog.unfollowed 5)=true:=by kernel_rfl
theorem jC_:(Rows.anchorsKeptRow.recurses == Tryz.pinned.checked.prog.recurses 5)=true:=by kernel_rfl
theorem jD_:(Rows.anchorsKeptRow.named == Tryz.pinned.checked.prog.varsNamed 5)=true:=by kernel_rfl
theorem jJ_:laidOutB Tryz.pinned.checked.prog=true:=by kernel_rfl
theorem jK_:mapsRowed Tryz.pinned.checked.prog=true:=by kernel_rfl
theorem jF_:Tryz.pinned.checked.prog.stopsHeard=true:=by kernel_rfl
theorem jG_:Tryz.pinned.checked.prog.mayEnter=true:=by kernel_rfl
theorem jH_:(Rows.anchorsKeptRow.lifted == Tryz.pinned.checked.prog.liftsFinal)=true:=by kernel_rfl
theorem jI_:(Rows.anchorsKeptRow.plainKeys == Tryz.pinned.checked.prog.plainKeys)=true:=by kernel_rfl
theorem ac0:joinedFacts Tryz.pinned.checked.prog 5 Tryz.f5 Rows.anchorsKeptSpec Rows.anchorsKeptRow=true:=by
 unfold joinedFacts
 rw [jA_,jB_,jC_,jD_,jF_,jG_,jH_,jI_,jJ_,jK_]
 kernel_rfl
theorem aiT:Tryz.pinned.checked.prog.funcNamed Rows.anchorsKeptRow.func=some 5:=by kernel_rfl
theorem ajP:Tryz.f5.isInstance Tryz.pinned.checked.prog Rows.anchorsKeptRow.origin Rows.anchorsKeptRow.targs:=of_decide_eq_true (by kernel_rfl)
theorem akr:Tryz.f5.isWrapper Tryz.pinned.checked.prog Rows.anchorsKeptRow.wrapper Rows.anchorsKeptRow.mainSum:=by
 unfold Func.isWrapper;first | (rw [if_pos (by decide +kernel)];kernel_rfl) | (rw [if_neg (by decide +kernel)];exact ⟨rfl,rfl⟩)
theorem anchorsKept_holds:Rows.AnchorsKeptSaid :=
 OpenClaim.holds_of_wide 5 Tryz.f5 rfl rfl rfl rfl rfl rfl rfl ⟨rfl,rfl,rfl,rfl,rfl⟩ rfl rfl rfl rfl rfl aiT Tryz.func5 ac0 ajP akr
  (fun os started H enc _=>lifted5 os started H enc)
end Go.Proofs.YtlkfpgggbjlfgaaGreat
