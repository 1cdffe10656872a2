/- The law HoldsCommit says true for every input; its arguments read behind the call as before. No conditions. -/
import Derived.Test.YtfkdbfgdncamdaaGreatT9
namespace Go.Proofs.YtfkdbfgdncamdaaGreat
open Go.ChangeShapes Go.WideShapes Go.ChangeAt Go.RowKit Go.Pav Go.Pw P Go.D
theorem Zl:yT prog:={ ahs:=rfl,agQ:=rfl,ahk:=rfl,agZ:=rfl,ahO:=rfl,agz:=rfl,ae3:=rfl,aeh:=rfl,aho:=rfl,ag5:=rfl,aii:=rfl,ag0:=rfl,agu:=rfl,inl:=rfl,pp:=rfl,ajV:=rfl,agx:=rfl,ag1:=rfl,ain:=rfl,agU:=rfl,agI:=rfl,f282:=rfl,f140:=rfl,ahE:=rfl,abQ:=rfl,ahg:=rfl,aic:=rfl,agN:=rfl,ajg:=rfl,ajO:=rfl,ai7:=rfl,f286:=rfl,f297:=rfl,f284:=rfl,Zw:=rfl,f285:=rfl,f299:=rfl,f289:=rfl,ZN:=rfl,aht:=rfl,agr:=rfl,ahU:=rfl,aib:=rfl,ahW:=rfl,aha:=rfl,agR:=rfl,agd:=rfl,f231:=rfl,ah9:=rfl,aam:=rfl,ahZ:=rfl,aiw:=rfl,ahn:=rfl,agp:=rfl,agY:=rfl,ahD:=rfl,acS:=rfl,agT:=rfl,ais:=rfl,agO:=rfl,ahx:=rfl,ahA:=rfl,ah7:=rfl,agW:=rfl,agm:=rfl,aeJ:=rfl,ahY:=rfl,ahV:=rfl,agE:=rfl,ahK:=rfl,ahX:=rfl,agH:=rfl,ahG:=rfl,ahL:=rfl,ag2:=rfl,f225:=rfl,f111:=rfl,f227:=rfl,ait:=rfl,f240:=rfl,ahp:=rfl,agl:=rfl,f230:=rfl,aeu:=rfl,f232:=rfl,f115:=rfl,f271:=rfl,f223:=rfl,ah1:=rfl,f270:=rfl,f126:=rfl,f130:=rfl,f238:=rfl,aj3:=rfl,ajp:=rfl,aj8:=rfl,akb:=rfl,f296:=rfl,f283:=rfl,f277:=rfl,f278:=rfl,f279:=rfl,akm:=rfl,akn:=rfl,aiW:=rfl,ajy:=rfl,ajt:=rfl,f287:=rfl,f288:=rfl,f280:=rfl,YF:=rfl,afr:=rfl,afq:=rfl,af7:=rfl,afX:=rfl,afz:=rfl,f141:=rfl }
theorem ag3:FnW prog 145 []=some (.bool true):=OT.2 ⟨6000,XK (by kernel_rfl)⟩
theorem ajQ {a:AV} (h:Ty (.slice [.int .u16,.int .u16]) a):∃ (xs:List (Int × Int)) (e:Bool),a=.ro 2 (xs.map eW) e∧∀ p ∈ xs,0≤p.1∧∃ x:Nat,p.2=x∧x≤65535:=by
 obtain ⟨es,e,rfl,_,hx⟩:=GH h
 obtain ⟨xs,rfl,hr⟩:=NS (g:=eW) (R:=fun p=>0≤p.1∧∃ x:Nat,p.2=x∧x≤65535) (fun l q=>by
  obtain ⟨q1,q2⟩:=q
  match l,q1 with
  | [u,v],_ =>
   obtain ⟨n1,rfl,h1⟩:=JM (q2 0 _ u rfl rfl)
   obtain ⟨n2,rfl,h2⟩:=JM (q2 1 _ v rfl rfl)
   exact ⟨⟨n1,n2⟩,rfl,h1.1,n2.toNat,by simp only;omega,by omega⟩) es hx
 exact ⟨xs,e,rfl,hr⟩
theorem acR (vs:List AV) (h:Uj [.g [.slice [.int .u8,.int .u8,.int .u8,.int .u8],.slice [.int .u8],.int .u8,.slice [.int .u8,.int .u8,.int .u8,.int .u8],.slice [.int .u8],.int .u8,.slice [.int .u16,.int .u16]],.g [.int .u16,.int .u16]] vs):FnW prog 141 vs=some (.bool true):=by
 match vs,h with
 | [a,b],⟨⟨es,ha,hl,Hx⟩,⟨fs,hb,hl2,Hy⟩,_⟩ =>
  subst ha
  subst hb
  match es,hl,fs,hl2 with
  | [x1,x2,x3,x4,x5,x6,x7],_,[y1,y2],_ =>
   obtain ⟨q1x,e1x,rfl,hq1x⟩:=UW (Hx 0 _ x1 rfl rfl)
   obtain ⟨z1x,f1x,rfl,hz1x,hl1x⟩:=IU (Hx 1 _ x2 rfl rfl)
   obtain ⟨r1x,rfl,hr1x⟩:=F5 (Hx 2 _ x3 rfl rfl)
   obtain ⟨q2x,e2x,rfl,hq2x⟩:=UW (Hx 3 _ x4 rfl rfl)
   obtain ⟨z2x,f2x,rfl,hz2x,hl2x⟩:=IU (Hx 4 _ x5 rfl rfl)
   obtain ⟨r2x,rfl,hr2x⟩:=F5 (Hx 5 _ x6 rfl rfl)
   obtain ⟨wx,wex,rfl,hwx⟩:=ajQ (Hx 6 _ x7 rfl rfl)
   obtain ⟨R1x,R2x,g1x,g2x,rax,eax,psx,pex,L1x,L2x,G1x,G2x,N1x,N2x,Sx,Kx,kx⟩:=ags Zl.toOv (YW am0) q1x q2x e1x e2x hq1x hq2x z1x z2x f1x f2x hz1x hz2x hl1x hl2x r1x r2x hr1x wx wex hwx
   obtain ⟨n1,rfl,hn1⟩:=JM (Hy 0 _ y1 rfl rfl)
   obtain ⟨n2,rfl,hn2⟩:=JM (Hy 1 _ y2 rfl rfl)
   obtain ⟨m1,rfl⟩:∃ m:Nat,n1=m:=⟨n1.toNat,by omega⟩
   obtain ⟨m2,rfl⟩:∃ m:Nat,n2=m:=⟨n2.toNat,by omega⟩
   exact aa1 Zl ag3 _ _ _ _ _ _ _ _ _ _ hr1x _ _ m1 m2 (by omega) Sx Kx _ _ _ _ L1x L2x G1x G2x N1x N2x kx
theorem aja:Tryz.f3.params.toList.map (aaP Tryz.prog)=([.g [.slice [.int .u8,.int .u8,.int .u8,.int .u8],.slice [.int .u8],.int .u8,.slice [.int .u8,.int .u8,.int .u8,.int .u8],.slice [.int .u8],.int .u8,.slice [.int .u16,.int .u16]],.g [.int .u16,.int .u16]]:List AT).map some:=by kernel_rfl
set_option maxRecDepth 100000 in
theorem lifted3 (os:Os) (started:os.Started) (H:Type) (enc:TypeId × Value→H) :
 ReturnsInHanded {} Tryz.checked os 3 .any (Rows.holdsCommitSpec.pre6 enc Tryz.prog Tryz.f3 Rows.holdsCommitRow.domain false) (Rows.holdsCommitSpec.post enc Tryz.prog Tryz.f3 false true false false):=by
 refine returnsInHanded_of_change (C:=Tryz.checked) aoF started (by kernel_rfl) Tryz.func3
  (ChangeSpec.witness6 (enc:=enc) (C:=Tryz.checked) false ⟨#[],#[.agg #[.slice none 0 0,.slice none 0 0,.int .u8 0,.slice none 0 0,.slice none 0 0,.int .u8 0,.slice none 0 0],.agg #[.int .u16 0,.int .u16 0]],[]⟩ 8 (by kernel_rfl) (by kernel_rfl) (by kernel_rfl) (by kernel_rfl)) ?_
 intro W base args ds gs before hval hW hcnd _
 have hW':=hW
 obtain ⟨p,q,hA,hV,rfl,hfz,hnd⟩:=hW
 obtain ⟨rfl,rfl⟩:=trodVars_none hV
 have hlen:ds.length=2:=(Ci hA).trans (by simp)
 refine (Xu (enc:=enc) link okT (f:=141) aja acR (fun j t v e1 e2=>hval j t v (by simpa using e1) e2) hA).mono ?_
 rintro e W' ⟨rfl,h1,h2,h3,h4⟩
 refine ⟨_,rfl,Ya ajX aju rfl hW' ?_ (of_decide_eq_true (by kernel_rfl)) rfl (by kernel_rfl) h1 h2 h3 h4⟩
 match ds,hlen with
 | [d1,d2],_=>rfl
theorem jA_:(Rows.holdsCommitRow.inPlace == Tryz.pinned.checked.prog.inPlace 3)=true:=by kernel_rfl
theorem jB_:(Rows.holdsCommitRow.unfollowed == Tryz.pinned.checked.prog.unfollowed 3)=true:=by kernel_rfl
theorem jC_:(Rows.holdsCommitRow.recurses == Tryz.pinned.checked.prog.recurses 3)=true:=by kernel_rfl
theorem jD_:(Rows.holdsCommitRow.named == Tryz.pinned.checked.prog.varsNamed 3)=true:=by kernel_rfl
theorem jJ_:laidOutB Tryz.pinned.checked.prog=true:=by kernel_rfl
theorem jK_:mapsRowed Tryz.pinned.checked.prog=true:=by kernel_rfl
theorem jF_:Tryz.pinned.checked.prog.stopsHeard=true:=by kernel_rfl
theorem jG_:Tryz.pinned.checked.prog.mayEnter=true:=by kernel_rfl
theorem jH_:(Rows.holdsCommitRow.lifted == Tryz.pinned.checked.prog.liftsFinal)=true:=by kernel_rfl
theorem jI_:(Rows.holdsCommitRow.plainKeys == Tryz.pinned.checked.prog.plainKeys)=true:=by kernel_rfl
theorem adE:joinedFacts Tryz.pinned.checked.prog 3 Tryz.f3 Rows.holdsCommitSpec Rows.holdsCommitRow=true:=by
 unfold joinedFacts
 rw [jA_,jB_,jC_,jD_,jF_,jG_,jH_,jI_,jJ_,jK_]
 kernel_rfl
theorem aie:Tryz.pinned.checked.prog.funcNamed Rows.holdsCommitRow.func=some 3:=by kernel_rfl
theorem ajI:Tryz.f3.isInstance Tryz.pinned.checked.prog Rows.holdsCommitRow.origin Rows.holdsCommitRow.targs:=of_decide_eq_true (by kernel_rfl)
theorem ajE:Tryz.f3.isWrapper Tryz.pinned.checked.prog Rows.holdsCommitRow.wrapper Rows.holdsCommitRow.mainSum:=by
 unfold Func.isWrapper;first | (rw [if_pos (by decide +kernel)];kernel_rfl) | (rw [if_neg (by decide +kernel)];exact ⟨rfl,rfl⟩)
theorem holdsCommit_holds:Rows.HoldsCommitSaid :=
 OpenClaim.holds_of_wide 3 Tryz.f3 rfl rfl rfl rfl rfl rfl rfl ⟨rfl,rfl,rfl,rfl,rfl⟩ rfl rfl rfl rfl rfl aie Tryz.func3 adE ajI ajE
  (fun os started H enc _=>lifted3 os started H enc)
end Go.Proofs.YtfkdbfgdncamdaaGreat
