/- The law ModelsConfig says true for every input; its argument reads behind the call as before. The row's condition on package errors' variable errorType is tied to the program's text by the given tie. No other conditions. -/
import Derived.Test.YtggfejahifmgoaaGreatDoorT8
import Derived.Test.YtggfejahifmgoaaGreatDoorCards
import Derived.Test.YtggfejahifmgoaaGreatDoorTie
import Derived.ChangeVars
import Derived.SevenTiedAt
namespace Go.Proofs.YtggfejahifmgoaaGreatDoor
open Go.ChangeShapes Go.WideShapes Go.ChangeAt Go.RowKit Go.Pav Go.Pw P Go.D
theorem a0_:(ob (seqO prog noM 6000 0 (csM++[hdM]) stM0) (canon 0 aMl))=some (stMo 0):=by kernel_rfl
theorem al0_:iterO prog noM 6000 0 aMl w634_B0 1 (stMo 0)=some (stMo 1):=by kernel_rfl
theorem al1_:iterO prog noM 6000 0 aMl w634_B0 1 (stMo 1)=some (stMo 2):=by kernel_rfl
theorem al2_:iterO prog noM 6000 0 aMl w634_B0 1 (stMo 2)=some (stMo 3):=by kernel_rfl
theorem al3_:iterO prog noM 6000 0 aMl w634_B0 1 (stMo 3)=some (stMo 4):=by kernel_rfl
theorem al4_:iterO prog noM 6000 0 aMl w634_B0 1 (stMo 4)=some (stMo 5):=by kernel_rfl
theorem al5_:iterO prog noM 6000 0 aMl w634_B0 1 (stMo 5)=some (stMo 6):=by kernel_rfl
theorem al6_:iterO prog noM 6000 0 aMl w634_B0 1 (stMo 6)=some (stMo 7):=by kernel_rfl
theorem al7_:iterO prog noM 6000 0 aMl w634_B0 1 (stMo 7)=some (stMo 8):=by kernel_rfl
theorem al8_:iterO prog noM 6000 0 aMl w634_B0 1 (stMo 8)=some (stMo 9):=by kernel_rfl
theorem aE_:leaveO prog noM 6000 0 0 aMe w634_B0 (stMo 9)=some stM0:=by kernel_rfl
theorem f_:(ob (evO prog noM 6000 0 w634_c0 stM0) λr=>ob (fnEndW w634.res r) λr=>frzW r.2.1 frzDepth r.1)=some (.bool true):=by kernel_rfl
theorem aL_:∀ i,i < 9->iterO prog noM 6000 0 aMl w634_B0 1 (stMo (i * 1))=some (stMo (i * 1+1))
 | 0,_=>al0_
 | 1,_=>al1_
 | 2,_=>al2_
 | 3,_=>al3_
 | 4,_=>al4_
 | 5,_=>al5_
 | 6,_=>al6_
 | 7,_=>al7_
 | 8,_=>al8_
 | n+9,h=>absurd h Qq
theorem lives_:FnW prog 634 []=some (.bool true):=lvm_ok rfl ⟨a0_,aL_,aE_,f_⟩
theorem yw:gq prog:={ Cm:=rfl,zk:=rfl,Dp:=rfl,Dv:=rfl,Ag:=rfl,Dc:=rfl,yT:=rfl,yV:=rfl,f578:=rfl,f543:=rfl,zy:=rfl,zS:=rfl,zQ:=rfl,inl:=rfl,pp:=rfl,Am:=rfl,DN:=rfl,BN:=rfl,zJ:=rfl,Bf:=rfl,f282:=rfl,f140:=rfl,BU:=rfl,AL:=rfl,AA:=rfl,Di:=rfl,BJ:=rfl,zI:=rfl,Ap:=rfl,Dx:=rfl,zB:=rfl,f231:=rfl,DR:=rfl,wG:=rfl,Ci:=rfl,Bc:=rfl,Aw:=rfl,Ad:=rfl,BA:=rfl,AU:=rfl,yU:=rfl,Ae:=rfl,CS:=rfl,Ah:=rfl,CV:=rfl,zi:=rfl,zx:=rfl,BQ:=rfl,BZ:=rfl,yR:=rfl,Dn:=rfl,CB:=rfl,DC:=rfl,Cj:=rfl,Cc:=rfl,vN:=rfl,BX:=rfl,CZ:=rfl,BP:=rfl,DF:=rfl,Ar:=rfl,Dz:=rfl,Bv:=rfl,f225:=rfl,f111:=rfl,f227:=rfl,BF:=rfl,BH:=rfl,f340:=rfl,f226:=rfl,f221:=rfl,Ba:=rfl,f219:=rfl,zX:=rfl,Ai:=rfl,f239:=rfl,Cb:=rfl,CJ:=rfl,f230:=rfl,wB:=rfl,f232:=rfl,f115:=rfl,f236:=rfl,f271:=rfl,f223:=rfl,f235:=rfl,Bd:=rfl,f277:=rfl,f279:=rfl,f295:=rfl,f299:=rfl,Dh:=rfl,CG:=rfl,zZ:=rfl,zq:=rfl,xE:=rfl,yj:=rfl,zh:=rfl,zO:=rfl,xO:=rfl,qE:=rfl,yx:=rfl,xM:=rfl,sG:=rfl,f138:=rfl,f296:=rfl,y8:=rfl,Aa:=rfl,f216:=rfl,f222:=rfl,f110:=rfl,f248:=rfl,f121:=rfl,f132:=rfl,f273:=rfl,f134:=rfl,f262:=rfl,f263:=rfl,f125:=rfl,f252:=rfl,f327:=rfl,f131:=rfl,f133:=rfl,f149:=rfl,f257:=rfl,Bl:=rfl,zu:=rfl,CQ:=rfl,zH:=rfl,Bz:=rfl,Dy:=rfl,f278:=rfl,f290:=rfl,xX:=rfl,DI:=rfl,Bg:=rfl,f286:=rfl,BG:=rfl,Az:=rfl,Dk:=rfl,yu:=rfl,Dl:=rfl,zV:=rfl,zY:=rfl,BD:=rfl,xC:=rfl,xR:=rfl,qR:=rfl,Du:=rfl }
theorem FI:nV prog:=⟨fnW_call.2 ⟨400,by kernel_rfl⟩,fnW_call.2 ⟨400,by kernel_rfl⟩,fnW_call.2 ⟨400,by kernel_rfl⟩,fnW_call.2 ⟨400,by kernel_rfl⟩,fnW_call.2 ⟨400,by kernel_rfl⟩,fnW_call.2 ⟨400,by kernel_rfl⟩⟩
theorem FY:iU prog:={ tonV:=FI,AP:=fnW_call.2 ⟨400,by kernel_rfl⟩,DJ:=fnW_call.2 ⟨400,by kernel_rfl⟩ }
theorem Gh:iZ prog:={ toiU:=FY,C9:=fnW_call.2 ⟨400,by kernel_rfl⟩,CP:=fnW_call.2 ⟨400,by kernel_rfl⟩,CO:=fnW_call.2 ⟨400,by kernel_rfl⟩ }
def nm:List (TypeId × List CT):=[(29,[.int .u8,.str,.str,.slice [.str,.int .u8,.str],.str,.sref 29])]
theorem Ej:Named nm Tryz.prog:=by intro p hp;rw [nm,List.mem_singleton] at hp;subst hp;exact ⟨by kernel_rfl,by kernel_rfl,by simp⟩
theorem rG {a:AV} (h:Ty nm (.slice [.str,.int .u8,.str]) a):∃ (xs:List Go.D.Sl) (e:Bool),a=.ro 3 (xs.map Go.D.eSl) e/\xs.length<=9223372036854775807/\∀ s ∈ xs,0<=s.f:=by
 obtain ⟨es,e,rfl,hl,hx⟩:=ty_slice h;obtain ⟨xs,rfl,hr⟩:=iD (g:=Go.D.eSl) (R:=λs:Go.D.Sl=>0<=s.f) (λl q=>by
  obtain ⟨q1,q2⟩:=q;match l,q1 with
  | [u,v,w],_ =>obtain ⟨n,rfl,_⟩:=fJ (q2 0 _ u rfl rfl);obtain ⟨f,rfl,h1⟩:=ty_u8 (q2 1 _ v rfl rfl);obtain ⟨x,rfl,_⟩:=fJ (q2 2 _ w rfl rfl);exact ⟨⟨n,f,x⟩,rfl,h1.1⟩) es hx
 refine ⟨xs,e,rfl,?_,hr⟩;simp at hl;omega
theorem jX {x:List AV} (q1:x.length=6) (q2:∀ (j:Nat) (ct:CT) (v:AV),[CT.int .u8,.str,.str,.slice [.str,.int .u8,.str],.str,.sref 29][j]?=some ct->x[j]?=some v->Ty nm ct v)
 (ih:∀ v,x[5]?=some v->∃ (ps:List Go.D.Pt) (e:Bool),v=.ro 6 (ps.map Go.D.Pt.c) e/\ps.length<=9223372036854775807/\∀ p ∈ ps,Go.D.aF p):∃ p:Go.D.Pt,x=p.c/\Go.D.aF p:=by
 match x,q1 with
 | [u,v,w,s,y,c],_ =>obtain ⟨k,rfl,_⟩:=ty_u8 (q2 0 _ u rfl rfl);obtain ⟨t,rfl,_⟩:=fJ (q2 1 _ v rfl rfl);obtain ⟨z,rfl,_⟩:=fJ (q2 2 _ w rfl rfl);obtain ⟨ss,se,rfl,h1,h2⟩:=rG (q2 3 _ s rfl rfl);obtain ⟨tx,rfl,_⟩:=fJ (q2 4 _ y rfl rfl);obtain ⟨ps,e,rfl,h3,h4⟩:=ih c rfl;refine ⟨⟨k,t,z,ss,se,tx,ps,e⟩,?_,.mk _ ⟨h2,h1,h3⟩ h4⟩;rw [Go.D.Pt.aC]
theorem sU:∀ (n:Nat) (a:AV),SizeOf.sizeOf a<=n->Ty nm (.sref 29) a->∃ (ps:List Go.D.Pt) (e:Bool),a=.ro 6 (ps.map Go.D.Pt.c) e/\ps.length<=9223372036854775807/\∀ p ∈ ps,Go.D.aF p:=by
 intro n;induction n with
 | zero=>intro a hn h;cases h;simp at hn
 | succ n ih =>
  intro a hn h;cases h with
  | sref t ts es ex hd hl hw h =>
   have hts:ts=[CT.int .u8,.str,.str,.slice [.str,.int .u8,.str],.str,.sref 29]:=by have:List.lookup 29 nm=some [CT.int .u8,.str,.str,.slice [.str,.int .u8,.str],.str,.sref 29]:=rfl;rw [this] at hd;exact (Option.some.inj hd).symm
   subst hts;obtain ⟨ps,rfl,hr⟩:=iD (g:=Go.D.Pt.c) (R:=λp=>Go.D.aF p) (Q:=λx=>x ∈ es) (λx hx=>by obtain ⟨i,hi⟩:=List.getElem?_of_mem hx;refine jX (hw i x hi) (λj ct v e1 e2=>h i x j ct v hi e1 e2) (λv hv=>ih v ?_ (h i x 5 _ v hi rfl hv));have s1:=List.sizeOf_lt_of_mem hx;have s2:=List.sizeOf_lt_of_mem (List.mem_of_getElem? hv);simp only [AV.ro.sizeOf_spec] at hn;omega) es (λx hx=>hx);refine ⟨ps,ex,rfl,?_,hr⟩;simp at hl;omega
theorem pR {a:AV} (h:Ty nm (.slice [.int .u8,.str,.str,.slice [.str,.int .u8,.str],.str,.sref 29,.int .i64,.bool,.int .i64]) a):∃ (ks:List Go.D.Kd) (e:Bool),a=.ro 9 (ks.map Go.D.eKd) e/\ks.length<=9223372036854775807/\∀ k ∈ ks,Go.D.aF k.p:=by
 obtain ⟨es,e,rfl,hl,hx⟩:=ty_slice h;obtain ⟨xs,rfl,hr⟩:=iD (g:=Go.D.eKd) (R:=λk:Go.D.Kd=>Go.D.aF k.p) (λl q=>by
  obtain ⟨q1,q2⟩:=q;match l,q1 with
  | [u,v,w,s,y,c,b,st,pl],_ =>
   obtain ⟨p,hp,hf⟩:=jX (x:=[u,v,w,s,y,c]) rfl (λj ct v e1 e2=>by
    have hj:j < 6:=(List.getElem?_eq_some_iff.1 e1).1;refine q2 j ct v ?_ ?_
    ·match j,hj,e1 with
     | 0,_,e1=>exact e1
     | 1,_,e1=>exact e1
     | 2,_,e1=>exact e1
     | 3,_,e1=>exact e1
     | 4,_,e1=>exact e1
     | 5,_,e1=>exact e1
    ·match j,hj,e2 with
     | 0,_,e1=>exact e1
     | 1,_,e1=>exact e1
     | 2,_,e1=>exact e1
     | 3,_,e1=>exact e1
     | 4,_,e1=>exact e1
     | 5,_,e1=>exact e1) (λv hv=>by cases hv;exact sU _ _ (Nat.le_refl _) (q2 5 _ c rfl rfl))
   obtain ⟨bn,rfl,_⟩:=ty_i64 (q2 6 _ b rfl rfl);obtain ⟨sn,rfl⟩:=uX (q2 7 _ st rfl rfl);obtain ⟨pn,rfl,_⟩:=ty_i64 (q2 8 _ pl rfl rfl);refine ⟨⟨p,bn,sn,pn⟩,?_,hf⟩;have:=Go.D.Pt.aC p;rw [this] at hp;simp only [List.cons.injEq,and_true] at hp;obtain ⟨h1,h2,h3,h4,h5,h6⟩:=hp;subst h1;subst h2;subst h3;subst h4;subst h5;subst h6;simp [Go.D.eKd]) es hx
 refine ⟨xs,e,rfl,?_,hr⟩;simp at hl;omega
theorem uF (vs:List AV) (h:TyAll nm [.g [.int .i64,.int .i64,.int .i64,.slice [.int .u8,.str,.str,.slice [.str,.int .u8,.str],.str,.sref 29,.int .i64,.bool,.int .i64],.int .i64,.int .i64,.int .u8]] vs):FnW prog 631 vs=some (.bool true):=by
 match vs,h with
 | [a],⟨⟨es,ha,hl,hes⟩,_⟩ =>
  subst ha;match es,hl with
  | [x,y,z,n,t,u,w],_ =>obtain ⟨x,rfl,_⟩:=ty_i64 (hes 0 _ x rfl rfl);obtain ⟨y,rfl,_⟩:=ty_i64 (hes 1 _ y rfl rfl);obtain ⟨z,rfl,_⟩:=ty_i64 (hes 2 _ z rfl rfl);obtain ⟨ks,ke,rfl,hkl,hkf⟩:=pR (hes 3 _ n rfl rfl);obtain ⟨t,rfl,_⟩:=ty_i64 (hes 4 _ t rfl rfl);obtain ⟨u,rfl,_⟩:=ty_i64 (hes 5 _ u rfl rfl);obtain ⟨w,rfl,_⟩:=ty_u8 (hes 6 _ w rfl rfl);exact sS yw Gh lives_ ⟨x,y,z,ks,ke,t,u,w⟩ hkf hkl
theorem DL:Tryz.f3.params.toList.map (argT nm Tryz.prog)=([.g [.int .i64,.int .i64,.int .i64,.slice [.int .u8,.str,.str,.slice [.str,.int .u8,.str],.str,.sref 29,.int .i64,.bool,.int .i64],.int .i64,.int .i64,.int .u8]]:List AT).map some:=by kernel_rfl
set_option maxRecDepth 100000 in
theorem lifted3 (os:Os) (started:os.Started) (H:Type) (enc:TypeId × Value->H) :
 ReturnsInHanded {} Tryz.checked os 3 .any (λw args=>(Rows.modelsConfigSpec.pre enc Tryz.prog Tryz.f3 [] false w args/\laidMetH Tryz.prog laid_ w)/\sizedMet enc Tryz.prog Tryz.f3 (OpenSpec.ofChange Rows.modelsConfigSpec) false w args)
  (Rows.modelsConfigSpec.post enc Tryz.prog Tryz.f3 false true false false):=by
 refine returnsInHanded_of_change_and (C:=Tryz.checked) (X:=λw _=>laidMetH Tryz.prog laid_ w) (λ_ _ _ hh h=>h.of_heap hh) own_ started (by kernel_rfl) Tryz.func3 (ChangeSpec.witness_at (enc:=enc) (C:=Tryz.checked) (os:=os) (X:=λw _=>laidMetH Tryz.prog laid_ w) false (laidWorld os) #[.agg #[.int .i64 0,.int .i64 0,.int .i64 0,.slice none 0 0,.int .i64 0,.int .i64 0,.int .u8 0]] 8 rfl (by kernel_rfl) (by kernel_rfl) (by kernel_rfl) (by kernel_rfl) (by kernel_rfl) (laidWorld_met os _)) ?_;intro W base args ds gs before hval hW _ _ hL _;have hW':=hW;obtain ⟨p,q,hA,hV,rfl,hfz,hnd⟩:=hW;obtain ⟨rfl,rfl⟩:=trodVars_none hV;have hlen:ds.length=1:=(trodAll_len hA).trans Qw;refine (law_callsL (enc:=enc) (link (layOf_as hL)) okT (layOf_met W) Ej (f:=631) DL uF (λj t v e1 e2=>hval j t v (by simpa using e1) e2) hA).mono ?_;rintro e W' ⟨rfl,h1,h2,h3,h4⟩;refine ⟨_,rfl,law_post kids_ full_ rfl hW' ?_ (of_decide_eq_true (by kernel_rfl)) rfl (by kernel_rfl) h1 h2 h3 h4⟩;match ds,hlen with
 | [d1],_=>rfl
theorem jA_:(Rows.modelsConfigRow.inPlace == Tryz.pinned.checked.prog.inPlace 3)=true:=by kernel_rfl
theorem jB_:(Rows.modelsConfigRow.unfollowed == Tryz.pinned.checked.prog.unfollowed 3)=true:=by kernel_rfl
theorem jC_:(Rows.modelsConfigRow.recurses == Tryz.pinned.checked.prog.recurses 3)=true:=by kernel_rfl
theorem jD_:(Rows.modelsConfigRow.named == Tryz.pinned.checked.prog.varsNamed 3)=true:=by kernel_rfl
theorem jJ_:laidOutB Tryz.pinned.checked.prog=true:=by kernel_rfl
theorem jK_:mapsRowed Tryz.pinned.checked.prog=true:=by kernel_rfl
theorem jF_:Tryz.pinned.checked.prog.stopsHeard=true:=by kernel_rfl
theorem jG_:Tryz.pinned.checked.prog.mayEnter=true:=by kernel_rfl
theorem jH_:(Rows.modelsConfigRow.lifted == Tryz.pinned.checked.prog.liftsFinal)=true:=by kernel_rfl
theorem jI_:(Rows.modelsConfigRow.plainKeys == Tryz.pinned.checked.prog.plainKeys)=true:=by kernel_rfl
theorem closed_:joinedFacts Tryz.pinned.checked.prog 3 Tryz.f3 Rows.modelsConfigSpec Rows.modelsConfigRow=true:=by unfold joinedFacts;rw [jA_,jB_,jC_,jD_,jF_,jG_,jH_,jI_,jJ_,jK_];kernel_rfl
theorem named_:Tryz.pinned.checked.prog.funcNamed Rows.modelsConfigRow.func=some 3:=by kernel_rfl
theorem inst_:Tryz.f3.isInstance Tryz.pinned.checked.prog Rows.modelsConfigRow.origin Rows.modelsConfigRow.targs:=of_decide_eq_true (by kernel_rfl)
theorem wrap_:Tryz.f3.isWrapper Tryz.pinned.checked.prog Rows.modelsConfigRow.wrapper Rows.modelsConfigRow.mainSum:=by unfold Func.isWrapper;first | (rw [if_pos (by decide +kernel)];kernel_rfl) | (rw [if_neg (by decide +kernel)];exact ⟨rfl,rfl⟩)
theorem row_holds:Rows.ModelsConfigSaid :=
 OpenClaim.holds_of_wide 3 Tryz.f3 rfl rfl rfl rfl rfl rfl rfl ⟨rfl,rfl,rfl,rfl,rfl⟩ rfl rfl rfl rfl rfl named_ Tryz.func3 closed_ inst_ wrap_
  (λos started H enc _=>lifted3 os started H enc)
theorem stand_:Tryz.f3.params.toList.all (λt=>Tryz.prog.wantsStandIn t == false)=true:=by kernel_rfl
theorem modelsConfig_holds:Rows.ModelsConfigCardSaid :=
 Claim7.holds_tied_plain_at .later [] [.handle] true Rows.modelsConfigCard.stood.harness true
  row_holds (λ_ h=>by cases h) (by kernel_rfl) (λ_ h=>by cases h) modelsConfig_row_tie rfl ⟨rfl,rfl⟩ (by kernel_rfl) rfl
  (λf fn hf hfn=>by obtain rfl:f=3:=Option.some.inj (named_.symm.trans hf) |>.symm;obtain rfl:fn=Tryz.f3:=(Option.some.inj (Tryz.func3.symm.trans hfn)).symm;exact ⟨by kernel_rfl,λj t ht=>by have:=List.all_eq_true.1 stand_ t (List.mem_of_getElem? (by simpa using ht));exact (show Tryz.prog.wantsStandIn t=false by simpa using this)⟩)
  (by kernel_rfl)
end Go.Proofs.YtggfejahifmgoaaGreatDoor
