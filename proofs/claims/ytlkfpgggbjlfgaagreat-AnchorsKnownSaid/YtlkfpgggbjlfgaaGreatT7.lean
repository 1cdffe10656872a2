/- Part of the theory that the claims of this work use: E03, E04, E06, E08, G01, N01, N02, N03, D30, D31, D38, N04, N05, N06, N07, N08, N09, D41, D42, D33, N10, K00, K01, K02, K03, N11, N12, M02, N13, M14, M15, M16, K04, K05, K06. No conditions of its own. -/
import Derived.Test.YtlkfpgggbjlfgaaGreatT6
set_option linter.unusedVariables false
set_option linter.unusedSimpArgs false
set_option maxHeartbeats 4000000
set_option maxRecDepth 10000
section
namespace Go.D
open Go Go.Pav Go.Pw P
attribute [-simp] List.getElem_cons_drop
variable {C:aI}
theorem DY (H:o8 C) (l:List En) (e:Bool) (hz:Szd l):FnW C 246 [aL l e]=some (.tup [.ro 1 ((tps l).map eI) true,.int .i64 0]):=by
 have hn:=hz.n
 have h1:=Bf H l e (by omega) (fun x hx=>by have:=hz.s x hx;omega)
 rw [Ny hz] at h1
 have h:=WH H l e hz l.length 0 (by simp) [0] (by simp [Jd]) rfl
 have h2:(l.length+1) * 9≤35184372088832:=by omega
 have h3:(l.length:Int)+1=((l.length+1:Nat):Int):=by omega
 rw [aF H.f246 rfl]
 simp only [Es] at h
 simp at h
 simp (disch:=omega) [acJ,h1,h2,aG,List.replicate_succ,h,H.inl,ay,H.pp,ppB]
theorem aaK (H:o8 C) (l:List En) (e:Bool) (hl:l.length≤1000000) (hs:SzB l) (hz:szE l≠0):FnW C 246 [aL l e]=some (.tup [.ro 1 [] true,.int .i64 (szE l)]):=by
 have h1:=Bf H l e hl hs
 rw [aF H.f246 rfl]
 generalize szE l=E at *
 simp (disch:=omega) [acJ,h1,hz,H.inl,ay,H.pp,ppB]
theorem abM (H:o8 C) (l:List En) (x:Int) (k:Nat) (hk:k < l.length) (hn:l.length≤1024) :
 FnW C 412 [.int .i64 k,.rop [.ro 1 ((tps l).map eI) true],.rop [.int .i64 x]]=some (.bool (decide (x < top l (k+1)))):=by
 have h1:k+1 < (tps l).length:=by rw [nZ];omega
 have h2:=Ei l h1
 rw [aF H.ak1 rfl]
 simp (disch:=omega) [afK,aG,h1,h2]
theorem Qh (H:o8 C) (l:List En) (x:Int) (hz:Szd l) (p:Nat) (hp:p < l.length) (hp1:top l p≤x) (hp2:x < top l (p+1)):∀ (n i j:Nat),j - i≤n→i≤p→p≤j→j≤l.length →
 wE C ⟨[(6,.int .i64 j),(5,.int .i64 i),(1,.fn 412 [.rop [.ro 1 ((tps l).map eI) true],.rop [.int .i64 x]])],[],0⟩=some (.int .i64 p):=by
 intro n
 induction n with
 | zero =>
  intro i j h1 h2 h3 h4
  have h5:i=p:=by omega
  have h6:j=p:=by omega
  subst h5
  subst h6
  simp only [wE];rw [aj tX.eq_1]
  simp (disch:=omega) [aj EU.eq_1]
 | succ n ih =>
  intro i j h1 h2 h3 h4
  have hn:=hz.n
  by_cases c:i < j
  · obtain ⟨m,hm⟩:∃ m,m=(i+j) / 2:=⟨_,rfl⟩
    have hk:m < l.length:=by omega
    have hf:=abM H l x m hk hn
    have hw:IntKind.i64.wrap ((IntKind.u64.wrap ((i:Int)+j)).fdiv (2 ^ min 1 IntKind.u64.bits))=m:=by
     have e1:(2:Int) ^ min 1 IntKind.u64.bits=2:=by decide
     rw [nS (by omega) (by omega),e1,Int.fdiv_eq_ediv_of_nonneg _ (by omega)]
     have e2:((i:Int)+j) / 2=m:=by omega
     rw [e2,aG (by omega) (by omega)]
    by_cases c2:x < top l (m+1)
    · have h7:p≤m:=by
       by_cases d:p≤m
       · exact d
       · have:=hz.mono (i:=m+1) (j:=p) (by omega) (by omega);omega
      have this:=ih i m (by omega) h2 h7 (by omega)
      rw [decide_eq_true c2] at hf
      simp only [wE] at this ⊢;rw [aj tX.eq_1]
      try simp at this
      simp (disch:=omega) [c,aG,hw,hf,this,H.inl,ay,H.pp,ppB]
    · have h7:m+1≤p:=by
       by_cases d:m+1≤p
       · exact d
       · have:=hz.mono (i:=p+1) (j:=m+1) (by omega) (by omega);omega
      have this:=ih (m+1) j (by omega) h7 h3 h4
      rw [decide_eq_false c2] at hf
      simp only [wE] at this ⊢;rw [aj tX.eq_1]
      try simp at this
      simp (disch:=omega) [c,aG,hw,hf,this,H.inl,ay,H.pp,ppB]
  · have h5:i=p:=by omega
    have h6:j=p:=by omega
    subst h5
    subst h6
    simp only [wE];rw [aj tX.eq_1]
    simp (disch:=omega) [aj EU.eq_1]
theorem aaO (H:o8 C) (l:List En) (x:Int) (hz:Szd l) (p:Nat) (hp:p < l.length) (hp1:top l p≤x) (hp2:x < top l (p+1)):FnW C 247 [.ro 1 ((tps l).map eI) true,.int .i64 x]=some (.int .i64 p):=by
 have hn:=hz.n
 have h:=Qh H l x hz p hp hp1 hp2 l.length 0 l.length (by omega) (by omega) (by omega) (by omega)
 have key:FnW C 411 [.int .i64 l.length,.fn 412 [.rop [.ro 1 ((tps l).map eI) true],.rop [.int .i64 x]]]=some (.int .i64 p):=by
  rw [aF H.al9 rfl]
  simp only [wE] at h
  simp at h
  simp [adk,h]
 have h3:((l.length:Int)+1) - 1=l.length:=by omega
 rw [aF H.f247 rfl]
 simp (disch:=omega) [adR,nZ,aG,h3,key,H.inl,ay,H.pp,ppB]
theorem YH (l:List En) (h:l.length < (tps l).length):(tps l)[l.length]=sm l:=by
 rw [Ei,AQ]
def atR (l:List En) (x:Int):AV:=if szE l≠0 then .tup [.int .i64 0,.int .i64 (szE l)] else if x < 0∨sm l≤x then .tup [.int .i64 0,.int .i64 4] else .tup [.int .i64 (rowA l x),.int .i64 0]
theorem akT (H:o8 C) (l:List En) (e:Bool) (hl:l.length≤1000000) (hs:SzB l) (x:Int):FnW C 120 [aL l e,.int .i64 x]=some (atR l x):=by
 unfold atR
 by_cases hz0:szE l=0
 · rw [if_neg (by simpa using hz0)]
   have hz:=aaD hz0
   have hn:=hz.n
   have h1:=DY H l e hz
   have h3:((l.length:Int)+1) - 1=l.length:=by omega
   have h4:=YH l
   have h5':l.length < (tps l).length:=by rw [nZ];omega
   have h5:l.length < (tps l).length:=by rw [nZ];omega
   rw [aF H.f120 rfl]
   by_cases c1:x < 0
   · rw [if_pos (.inl c1)]
     simp (disch:=omega) [Ud,h1,c1,H.inl,ay,H.pp,ppB]
   · by_cases c2:sm l≤x
     · rw [if_pos (.inr c2)]
       simp (disch:=omega) [Ud,h1,c1,c2,nZ,h3,h4,h5',aG,H.inl,ay,H.pp,ppB]
     · rw [if_neg (by omega)]
       obtain ⟨p,p1,p2,p3⟩:=hz.row (by omega:0≤x) (by omega)
       have h6:=aaO H l x hz p p1 p2 p3
       rw [hz.Uo p1 p2 p3]
       simp (disch:=omega) [Ud,h1,c1,c2,nZ,h3,h4,h5',h6,aG,H.inl,ay,H.pp,ppB]
 · rw [if_pos hz0]
   have h1:=aaK H l e hl hs hz0
   rw [aF H.f120 rfl]
   generalize szE l=E at *
   simp (disch:=omega) [Ud,h1,hz0,H.inl,ay,H.pp,ppB]
theorem XF (H:o8 C) (l:List En) (e:Bool) (hz:Szd l) (j:Nat) (hj:j≤l.length):∀ n i,n+i=j →
 Ef C ⟨[(6,.int .i64 i),(5,.int .i64 (top l i)),(1,.int .i64 j),(0,.ro 6 (l.map eEn) e)],[],0⟩=some (.int .i64 (top l j)):=by
 intro n
 induction n with
 | zero =>
  intro i hi
  have h1:i=j:=by omega
  subst h1
  simp only [Ef];rw [aj AO.eq_1]
  simp (disch:=omega) [aj JI.eq_1]
 | succ n ih =>
  intro i hi
  have h1:i < l.length:=by omega
  have h2:i < j:=by omega
  have hn:=hz.n
  have hr:=hz.small (i+1)
  have this:=ih (i+1) (by omega)
  rw [Bq h1] at this hr
  simp only [Ef] at this ⊢;rw [aj AO.eq_1]
  simp at this
  simp (disch:=omega) [h1,h2,aG,this]
theorem ae8 (H:o8 C) (l:List En) (e:Bool) (hz:Szd l) (j:Nat) (hj:j≤l.length):FnW C 253 [.ro 6 (l.map eEn) e,.int .i64 j]=some (.int .i64 (top l j)):=by
 have h:=XF H l e hz j hj j 0 (by simp)
 rw [Jd] at h
 rw [aF H.f253 rfl]
 simp only [Ef] at h
 try simp at h
 simp [afA,h]
theorem Qs (H:o8 C) (l:List En) (e:Bool) (hz:Szd l) (v:Int) (hv:-9223372036854775808≤sm l - v∧sm l - v≤9223372036854775807):FnW C 327 [.ro 6 (l.map eEn) e,.int .i64 v]=some (.int .i64 (iP l v)):=by
 have h:=ae8 H l e hz l.length (Nat.le_refl _)
 rw [AQ] at h
 rw [aF H.f327 rfl]
 unfold iP
 by_cases c:sm l < v
 · simp (disch:=omega) [acy,h,c,aG,H.inl,ay,H.pp,ppB]
 · simp (disch:=omega) [acy,h,c,aG,H.inl,ay,H.pp,ppB]
def ahv (v least over:Int):Prop:=v < 1∨2147483648 < v∨least < 1∨2305843009213693952 < least∨over < 0∨16 < over
instance (v least over:Int):Decidable (ahv v least over):=by unfold ahv;infer_instance
end Go.D
end
section
namespace Go.Proofs.YtlkfpgggbjlfgaaGreat
open Go.ChangeShapes Go.WideShapes Go.ChangeAt Go.RowKit Go.Pav Go.Pw P Go.D
theorem arj:vI prog:={ aiE:=rfl,aiH:=rfl,aiS:=rfl,ajr:=rfl,ah2:=rfl,ajS:=rfl,afi:=rfl,afW:=rfl,ajZ:=rfl,ahV:=rfl,ah3:=rfl,aiC:=rfl,ahZ:=rfl,inl:=rfl,pp:=rfl,aiU:=rfl,ajU:=rfl,ahJ:=rfl,aj1:=rfl,ajC:=rfl,f282:=rfl,f140:=rfl,akf:=rfl,aiW:=rfl,akb:=rfl,aiG:=rfl,ail:=rfl,ahT:=rfl,ajx:=rfl,akk:=rfl,ah0:=rfl,f231:=rfl,ajB:=rfl,aaZ:=rfl,ajX:=rfl,ajp:=rfl,ajT:=rfl,ahR:=rfl,aiM:=rfl,ajs:=rfl,adW:=rfl,aix:=rfl,ajt:=rfl,ajD:=rfl,ahI:=rfl,ai3:=rfl,aju:=rfl,aiX:=rfl,aia:=rfl,ad4:=rfl,aii:=rfl,aiR:=rfl,ah6:=rfl,ai9:=rfl,ajj:=rfl,aal:=rfl,aj6:=rfl,ahU:=rfl,aiA:=rfl,ahY:=rfl,ahH:=rfl,air:=rfl,ajc:=rfl,f225:=rfl,f111:=rfl,f227:=rfl,ahK:=rfl,aeu:=rfl,f224:=rfl,akl:=rfl,aki:=rfl,f340:=rfl,f226:=rfl,f221:=rfl,ahG:=rfl,f219:=rfl,aj2:=rfl,ajA:=rfl,f239:=rfl,aiV:=rfl,f240:=rfl,ajR:=rfl,akn:=rfl,ajl:=rfl,f230:=rfl,ahM:=rfl,f232:=rfl,f115:=rfl,f271:=rfl,f223:=rfl,aj0:=rfl,f216:=rfl,f222:=rfl,ajw:=rfl,f228:=rfl,f229:=rfl,f110:=rfl,f237:=rfl,f114:=rfl,f241:=rfl,f242:=rfl,ajn:=rfl,f270:=rfl,f126:=rfl,f130:=rfl }
end Go.Proofs.YtlkfpgggbjlfgaaGreat
end
section
namespace Go.D
open Go Go.Pav Go.Pw P
attribute [-simp] List.getElem_cons_drop
variable {C:aI}
structure Nt where
 k:Int
 a:Int
 c:Int
 t:Int
 x:List It
 e:Bool
@[simp] def eNt (n:Nt):List AV:=[.int .u8 n.k,.int .i64 n.a,.int .i64 n.c,.int .i64 n.t,.ro 4 (n.x.map cIt) n.e]
def ntE (n:Nt):Int :=
 if n.k < 1∨5 < n.k then 1
 else if n.k=1∨n.k=4 then (if n.c≠0 then 5 else if n.t≠0 then 5 else 0)
 else if n.k=2 then (if n.t≠0 then 5 else if n.x.length≠0 then 5 else 0)
 else if n.k=3 then (if n.x.length≠0 then 5 else 0)
 else (if n.a≠0 then 5 else if n.c≠0 then 5 else if n.t≠0 then 5 else 0)
structure Oe (C:aI):Prop extends pR C where
 f336:C.fns.get 336=some Ii
 alT:C.fns.get 457=some adL
 f333:C.fns.get 333=some Iq
 aly:C.fns.get 455=some ac5
def kdN (s:Bs) (a b c d:Bool) (f:AV):List AV:=[.str s,.bool a,.bool b,.bool c,.bool d,f]
def afP:List AV:=kdN [] false false false false .bK++(kdN [105,110,115,101,114,116] true false false true (.fn 526 [])++(kdN [114,101,109,111,118,101] true true false false (.fn 527 [])++(kdN [109,111,118,101] true true true false (.fn 528 [])++(kdN [99,104,97,110,103,101] true false false true (.fn 529 [])++kdN [114,101,115,101,116] false false false true (.fn 530 [])))))
theorem IW (H:Oe C):FnW C 457 []=some (.agg afP):=by
 rw [aF H.alT rfl]
 simp [adL,afP,kdN]
theorem I5 (H:Oe C) (n:Nt):FnW C 336 [.agg (eNt n)]=some (.int .i64 (ntE n)):=by
 have hk:=IW H
 simp only [afP,kdN,List.cons_append,List.nil_append] at hk
 obtain ⟨k,a,c,t,x,e⟩:=n
 rw [aF H.f336 rfl]
 unfold ntE
 simp only
 by_cases h1:k < 1
 · rw [if_pos (.inl h1)]
   simp (disch:=omega) [Ii,h1,aG,H.inl,ay,H.pp,ppB]
 · by_cases h2:5 < k
   · rw [if_pos (.inr h2)]
     simp (disch:=omega) [Ii,h1,h2,aG,H.inl,ay,H.pp,ppB]
   · rw [if_neg (by omega)]
     have h:k=1∨k=2∨k=3∨k=4∨k=5:=by omega
     rcases h with rfl | rfl | rfl | rfl | rfl
     · by_cases hc:c=0 <;> by_cases ht:t=0 <;> simp (disch:=omega) [Ii,hk,hc,ht,aG,H.inl,ay,H.pp,ppB]
     · by_cases ht:t=0 <;> by_cases hx:x.length=0 <;> simp (disch:=omega) [Ii,hk,ht,hx,aG,H.inl,ay,H.pp,ppB]
     · by_cases hx:x.length=0 <;> simp (disch:=omega) [Ii,hk,hx,aG,H.inl,ay,H.pp,ppB]
     · by_cases hc:c=0 <;> by_cases ht:t=0 <;> simp (disch:=omega) [Ii,hk,hc,ht,aG,H.inl,ay,H.pp,ppB]
     · by_cases ha:a=0 <;> by_cases hc:c=0 <;> by_cases ht:t=0 <;> simp (disch:=omega) [Ii,hk,ha,hc,ht,aG,H.inl,ay,H.pp,ppB]
def usN (k:Int):List AV:=if k=1∨k=4 then [.int .i64 1,.int .i64 0,.int .i64 0,.int .i64 1] else if k=2 then [.int .i64 1,.int .i64 1,.int .i64 0,.int .i64 0] else if k=3 then [.int .i64 1,.int .i64 1,.int .i64 1,.int .i64 0] else [.int .i64 0,.int .i64 0,.int .i64 0,.int .i64 1]
theorem aeF (H:Oe C) (k:Int) (h:k=1∨k=2∨k=3∨k=4∨k=5):FnW C 455 [.int .u8 k]=some (.agg (usN k)):=by
 rw [aF H.aly rfl]
 rcases h with rfl | rfl | rfl | rfl | rfl <;> simp [ac5,usN]
theorem GZ (H:Oe C) (n:Nt) (hx:n.x.length≤1000000):FnW C 333 [.agg (eNt n)]=some (.int .i64 (ntE n)):=by
 obtain ⟨k,a,c,t,x,e⟩:=n
 simp only at hx
 rw [aF H.f333 rfl]
 unfold ntE
 simp only
 by_cases h1:k < 1
 · rw [if_pos (.inl h1)]
   simp (disch:=omega) [Iq,h1,aG,H.inl,ay,H.pp,ppB]
 · by_cases h2:5 < k
   · rw [if_pos (.inr h2)]
     simp (disch:=omega) [Iq,h1,h2,aG,H.inl,ay,H.pp,ppB]
   · rw [if_neg (by omega)]
     have h:k=1∨k=2∨k=3∨k=4∨k=5:=by omega
     have hu:=aeF H k h
     rcases h with rfl | rfl | rfl | rfl | rfl
     · simp only [usN] at hu
       by_cases hc:c=0 <;> by_cases ht:t=0 <;> simp (disch:=omega) [Iq,aj tJ.eq_1,aj xX.eq_1,hu,hc,ht,aG,H.inl,ay,H.pp,ppB]
     · simp [usN] at hu
       by_cases ht:t=0 <;> by_cases hx:x.length=0 <;> simp (disch:=omega) [Iq,aj tJ.eq_1,aj xX.eq_1,hu,ht,hx,aG,H.inl,ay,H.pp,ppB]
     · simp [usN] at hu
       by_cases hx:x.length=0 <;> simp (disch:=omega) [Iq,aj tJ.eq_1,aj xX.eq_1,hu,hx,aG,H.inl,ay,H.pp,ppB]
     · simp [usN] at hu
       by_cases hc:c=0 <;> by_cases ht:t=0 <;> simp (disch:=omega) [Iq,aj tJ.eq_1,aj xX.eq_1,hu,hc,ht,aG,H.inl,ay,H.pp,ppB]
     · simp [usN] at hu
       by_cases ha:a=0 <;> by_cases hc:c=0 <;> by_cases ht:t=0 <;> simp (disch:=omega) [Iq,aj tJ.eq_1,aj xX.eq_1,hu,ha,hc,ht,aG,H.inl,ay,H.pp,ppB]
structure Qd (C:aI):Prop extends Oe C where
 f343:C.fns.get 343=some Lp
 f342:C.fns.get 342=some YU
 ak9:C.fns.get 526=some ae0
 ale:C.fns.get 527=some af0
 al4:C.fns.get 528=some adh
 al5:C.fns.get 529=some afF
 akY:C.fns.get 530=some adr
def ntF (n:Nt):Nat:=if n.k=1 then 109 else if n.k=2 then 110 else if n.k=3 then 237 else if n.k=4 then 114 else 108
def ntA (n:Nt):List AV:=if n.k=1 then [.int .i64 n.a,.ro 4 (n.x.map cIt) n.e] else if n.k=2 then [.int .i64 n.a,.int .i64 n.c] else if n.k=3 then [.int .i64 n.a,.int .i64 n.c,.int .i64 n.t] else if n.k=4 then [.int .i64 n.a,.ro 4 (n.x.map cIt) n.e] else [.ro 4 (n.x.map cIt) n.e]
theorem O9 (H:Qd C) (ks:List Kd) (ke:Bool) (cap:Int) (l:List En) (e:Bool) (n:Nt) (hc:FnW C 223 [aR ks ke cap,aL l e]=some (.int .i64 0)) (hE:ntE n≠0) :
 FnW C 343 [aR ks ke cap,aL l e,.agg (eNt n)]=some (.tup [.agg [.ro 6 [] true],.int .i64 (ntE n)]):=by
 have h:=I5 H.toOe n
 generalize ntE n=E at *
 rw [aF H.f343 rfl]
 simp only [eNt] at h
 simp (disch:=omega) [Lp,hc,h,hE,aG,H.inl,ay,H.pp,ppB]
theorem Ju (H:Qd C) (ks:List Kd) (ke:Bool) (cap:Int) (l:List En) (e:Bool) (n:Nt) (hc:FnW C 223 [aR ks ke cap,aL l e]=some (.int .i64 0)) (hE:ntE n=0)
 (L:List (List AV)) (f:Bool) (E:Int) (hf:FnW C (ntF n) (aR ks ke cap::aL l e::ntA n)=some (.tup [.agg [.ro 6 L f],.int .i64 E])) :
 FnW C 343 [aR ks ke cap,aL l e,.agg (eNt n)]=some (.tup [.agg [.ro 6 L f],.int .i64 E]):=by
 have h:=I5 H.toOe n
 have hk:=IW H.toOe
 have hr:1≤n.k∧n.k≤5:=by
  unfold ntE at hE
  split at hE
  · cases hE
  · omega
 rw [hE] at h
 simp only [afP,kdN,List.cons_append,List.nil_append] at hk
 obtain ⟨k,a,c,t,x,xe⟩:=n
 simp only at hr
 simp only [eNt] at h
 have h5:k=1∨k=2∨k=3∨k=4∨k=5:=by omega
 rcases h5 with rfl | rfl | rfl | rfl | rfl
 · simp [ntF,ntA] at hf
   have h2:FnW C 526 [aR ks ke cap,aL l e,.agg (eNt ⟨1,a,c,t,x,xe⟩)]=some (.tup [.agg [.ro 6 L f],.int .i64 E]):=by
    rw [aF H.ak9 rfl]
    simp (disch:=omega) [ae0,hf,aG,H.inl,ay,H.pp,ppB]
   simp only [eNt] at h2
   rw [aF H.f343 rfl]
   simp (disch:=omega) [Lp,hc,h,hk,h2,aG,H.inl,ay,H.pp,ppB]
 · simp [ntF,ntA] at hf
   have h2:FnW C 527 [aR ks ke cap,aL l e,.agg (eNt ⟨2,a,c,t,x,xe⟩)]=some (.tup [.agg [.ro 6 L f],.int .i64 E]):=by
    rw [aF H.ale rfl]
    simp (disch:=omega) [af0,hf,aG,H.inl,ay,H.pp,ppB]
   simp only [eNt] at h2
   rw [aF H.f343 rfl]
   simp (disch:=omega) [Lp,hc,h,hk,h2,aG,H.inl,ay,H.pp,ppB]
 · simp [ntF,ntA] at hf
   have h2:FnW C 528 [aR ks ke cap,aL l e,.agg (eNt ⟨3,a,c,t,x,xe⟩)]=some (.tup [.agg [.ro 6 L f],.int .i64 E]):=by
    rw [aF H.al4 rfl]
    simp (disch:=omega) [adh,hf,aG,H.inl,ay,H.pp,ppB]
   simp only [eNt] at h2
   rw [aF H.f343 rfl]
   simp (disch:=omega) [Lp,hc,h,hk,h2,aG,H.inl,ay,H.pp,ppB]
 · simp [ntF,ntA] at hf
   have h2:FnW C 529 [aR ks ke cap,aL l e,.agg (eNt ⟨4,a,c,t,x,xe⟩)]=some (.tup [.agg [.ro 6 L f],.int .i64 E]):=by
    rw [aF H.al5 rfl]
    simp (disch:=omega) [afF,hf,aG,H.inl,ay,H.pp,ppB]
   simp only [eNt] at h2
   rw [aF H.f343 rfl]
   simp (disch:=omega) [Lp,hc,h,hk,h2,aG,H.inl,ay,H.pp,ppB]
 · simp [ntF,ntA] at hf
   have h2:FnW C 530 [aR ks ke cap,aL l e,.agg (eNt ⟨5,a,c,t,x,xe⟩)]=some (.tup [.agg [.ro 6 L f],.int .i64 E]):=by
    rw [aF H.akY rfl]
    simp (disch:=omega) [adr,hf,aG,H.inl,ay,H.pp,ppB]
   simp only [eNt] at h2
   rw [aF H.f343 rfl]
   simp (disch:=omega) [Lp,hc,h,hk,h2,aG,H.inl,ay,H.pp,ppB]
def rtF (n:Nt):Nat:=if n.k=1 then 461 else if n.k=2 then 241 else if n.k=3 then 242 else if n.k=4 then 462 else 463
def rtA (R L:AV) (n:Nt):List AV:=if n.k=1 then [R,L,.int .i64 n.a,.ro 4 (n.x.map cIt) n.e] else if n.k=2 then [L,.int .i64 n.a,.int .i64 n.c] else if n.k=3 then [L,.int .i64 n.a,.int .i64 n.c,.int .i64 n.t] else if n.k=4 then [R,L,.int .i64 n.a,.ro 4 (n.x.map cIt) n.e] else [R,.ro 4 (n.x.map cIt) n.e]
theorem adw (n:Nt) (h:ntE n≠0):0 < ntE n:=by
 unfold ntE at h ⊢
 repeat' split
 all_goals first | omega | simp_all
theorem PL (H:Qd C) (ks:List Kd) (ke:Bool) (cap:Int) (l:List En) (e:Bool) (n:Nt) (hx:n.x.length≤1000000) (hE:ntE n≠0) :
 FnW C 342 [aR ks ke cap,.ro 6 (l.map eEn) e,.agg (eNt n)]=some (.tup [.ro 6 [] true,.int .i64 (ntE n)]):=by
 have h:=GZ H.toOe n hx
 have hp:=adw n hE
 generalize ntE n=E at *
 rw [aF H.f342 rfl]
 simp only [eNt] at h
 simp (disch:=omega) [YU,h,hp,hE,aG,H.inl,ay,H.pp,ppB]
theorem Ia (H:Qd C) (ks:List Kd) (ke:Bool) (cap:Int) (l:List En) (e:Bool) (n:Nt) (hx:n.x.length≤1000000) (hE:ntE n=0)
 (L:List (List AV)) (f:Bool) (E:Int) (hf:FnW C (rtF n) (rtA (aR ks ke cap) (.ro 6 (l.map eEn) e) n)=some (.tup [.ro 6 L f,.int .i64 E])) :
 FnW C 342 [aR ks ke cap,.ro 6 (l.map eEn) e,.agg (eNt n)]=some (.tup [.ro 6 L f,.int .i64 E]):=by
 have h:=GZ H.toOe n hx
 have hr:1≤n.k∧n.k≤5:=by
  unfold ntE at hE
  split at hE
  · cases hE
  · omega
 rw [hE] at h
 obtain ⟨k,a,c,t,x,xe⟩:=n
 simp only at hr
 simp only [eNt] at h
 have h5:k=1∨k=2∨k=3∨k=4∨k=5:=by omega
 rcases h5 with rfl | rfl | rfl | rfl | rfl <;> simp [rtF,rtA] at hf <;> rw [aF H.f342 rfl] <;>
  simp (disch:=omega) [YU,h,hf,aG,H.inl,ay,H.pp,ppB]
theorem Nq {α:Type} {Q:α→Prop} {l x:List α} (a c:Nat) (hl:∀ y ∈ l,Q y) (hx:∀ y ∈ x,Q y):∀ y ∈ spl l a c x,Q y:=fun y q=>by
 simp only [spl,List.mem_append] at q
 rcases q with (q | q) | q
 · exact hl y (List.mem_of_mem_take q)
 · exact hx y q
 · exact hl y (List.mem_of_mem_drop q)
theorem eF.ow {e:En} (h:eF e):eF e.own:=⟨⟨h.i.k,h.i.t,h.i.m⟩,h.s⟩
theorem afL (H:DU C) (ks:List Kd) (ke:Bool) (cap:Int) (hr:kM ks) (l:List En) (e:Bool) (hl:l.length≤1000000) (hs:∀ x ∈ l,eF x) (ins:Bool) (a c t:Int) (hin:ins=true→inR a c l.length=true∧inR t 0 (l.length - c)=true) :
 FnW C 216 [aR ks ke cap,aL l e,.agg [.bool ins,.int .i64 0,.ro 4 [] true,.bK,.fn 409 [.rop [.ro 6 (l.map eEn) e],.rop [.int .i64 a],.rop [.int .i64 c],.rop [.int .i64 t]]]] =
  some (if ckE ks cap l≠0 then cu (ckE ks cap l) else if ins=false then cu 4 else iy (spl (spl l a.toNat c.toNat []) t.toNat 0 ((l.take (a.toNat+c.toNat)).drop a.toNat))):=by
 have hc:=lQ H.toAq ks ke cap hr l e hl hs
 rw [aF H.f216 rfl]
 unfold cu
 by_cases c1:ckE ks cap l=0
 · rw [if_neg (by simpa using c1)]
   rw [c1] at hc
   cases ins
   · simp [qU,hc,H.inl,ay,H.pp,ppB]
   · rw [if_neg (by simp)]
     have hq:=hin rfl
     unfold inR at hq
     simp at hq
     obtain ⟨a',rfl⟩:∃ a':Nat,a=a':=⟨a.toNat,by omega⟩
     obtain ⟨c',rfl⟩:∃ c':Nat,c=c':=⟨c.toNat,by omega⟩
     obtain ⟨t',rfl⟩:∃ t':Nat,t=t':=⟨t.toNat,by omega⟩
     have hac:a'+c'≤l.length:=by omega
     have ht':t'≤l.length - c':=by omega
     have hf:=oK H.toAq ks ke cap [] true (by simp) (by simp)
     have hm:=aa5 H (.ro 6 [] true) ⟨_,_,rfl⟩ l e a' c' t' hl hac ht'
     simp only [Int.toNat_natCast]
     have hm2:∀ x ∈ spl (spl l a' c' []) t' 0 ((l.take (a'+c')).drop a'),eF x :=
      Nq _ _ (Nq _ _ hs (by simp)) fun y q=>hs y (List.mem_of_mem_take (List.mem_of_mem_drop q))
     have hlen:=uo l [] a' c' hac
     have hlen2:(spl (spl l a' c' []) t' 0 ((l.take (a'+c')).drop a')).length≤1000000:=by
      rw [uo _ _ _ _ (by rw [hlen];simp;omega),hlen];simp;omega
     generalize spl (spl l a' c' []) t' 0 ((l.take (a'+c')).drop a')=R at *
     have ho:=G9 H.tokC R true hlen2 (fun x q=>(hm2 x q).i.m)
     have ht:=rU H.tokC (R.map En.own) true (by simpa using hlen2) (fun x q=>by
      obtain ⟨y,hy,rfl⟩:=List.mem_map.1 q
      exact (hm2 y hy).ow)
     unfold iy cu
     generalize R.map En.own=R' at *
     simp only [List.map_nil] at hf
     by_cases c2:ovE R'=0
     · rw [c2] at ht
       simp [qU,aj dJ.eq_1,aj jg.eq_1,hc,hf,hm,ho,ht,c2,H.inl,ay,H.pp,ppB]
     · simp [qU,aj dJ.eq_1,aj jg.eq_1,hc,hf,hm,ho,ht,c2,H.inl,ay,H.pp,ppB]
 · rw [if_pos c1]
   simp [qU,hc,c1,H.inl,ay,H.pp,ppB]
theorem Jh (H:DU C) (ks:List Kd) (ke:Bool) (cap:Int) (hr:kM ks) (l:List En) (e:Bool) (hl:l.length≤1000000) (hs:∀ x ∈ l,eF x) (a c:Int) :
 FnW C 110 [aR ks ke cap,aL l e,.int .i64 a,.int .i64 c] =
  some (if ckE ks cap l≠0 then cu (ckE ks cap l) else if inR a c l.length=false then cu 4 else iy (spl l a.toNat c.toNat [])):=by
 have h:=Wh H ks ke cap hr l e hl hs (inR a c l.length) a c id
 have hw:=rJ H.tokC a c l.length (by omega)
 rw [aF H.f110 rfl]
 generalize inR a c l.length=ins at *
 have hR:∃ R n,(if ckE ks cap l≠0 then cu (ckE ks cap l) else if ins=false then cu 4 else iy (spl l a.toNat c.toNat []))=.tup [.agg [.ro 6 R true],.int .i64 n]:=by
  unfold iy cu;split
  · exact ⟨_,_,rfl⟩
  · split
    · exact ⟨_,_,rfl⟩
    · split <;> exact ⟨_,_,rfl⟩
 obtain ⟨R,n,hR⟩:=hR
 rw [hR] at h ⊢
 simp [afo,hw,h,H.inl,ay,H.pp,ppB]
theorem afZ (H:DU C) (ks:List Kd) (ke:Bool) (cap:Int) (hr:kM ks) (l:List En) (e:Bool) (hl:l.length≤1000000) (hs:∀ x ∈ l,eF x) (a c t:Int) :
 FnW C 237 [aR ks ke cap,aL l e,.int .i64 a,.int .i64 c,.int .i64 t] =
  some (if ckE ks cap l≠0 then cu (ckE ks cap l) else if (inR a c l.length&&inR t 0 (l.length - c))=false then cu 4 else iy (spl (spl l a.toNat c.toNat []) t.toNat 0 ((l.take (a.toNat+c.toNat)).drop a.toNat))):=by
 have h:=afL H ks ke cap hr l e hl hs (inR a c l.length&&inR t 0 (l.length - c)) a c t (by simp)
 have hw:=rJ H.tokC a c l.length (by omega)
 rw [aF H.f237 rfl]
 have hR:∀ ins,∃ R n,(if ckE ks cap l≠0 then cu (ckE ks cap l) else if ins=false then cu 4 else iy (spl (spl l a.toNat c.toNat []) t.toNat 0 ((l.take (a.toNat+c.toNat)).drop a.toNat)))=.tup [.agg [.ro 6 R true],.int .i64 n]:=by
  intro ins
  unfold iy cu;split
  · exact ⟨_,_,rfl⟩
  · split
    · exact ⟨_,_,rfl⟩
    · split <;> exact ⟨_,_,rfl⟩
 obtain ⟨R,n,hR⟩:=hR (inR a c l.length&&inR t 0 (l.length - c))
 rw [hR] at h ⊢
 cases c1:inR a c l.length
 · rw [c1] at hw h
   simp at h
   simp (disch:=omega) [ab2,aG,hw,h,H.inl,ay,H.pp,ppB]
 · have hq:=c1
   unfold inR at hq
   simp at hq
   have hw2:=rJ H.tokC t 0 (l.length - c) (by omega)
   rw [c1] at hw h
   rw [Bool.true_and] at h
   generalize inR t 0 (l.length - c)=ins at *
   simp (disch:=omega) [ab2,aG,hw,hw2,h,H.inl,ay,H.pp,ppB]
def keyAt (l:List En) (j:Nat):Int:=((l[j]?).map fun e=>e.i.k).getD 0
def fE (ks:List Kd) (cap:Int) (l:List En):Nat→List It→Int
 | _,[]=>0
 | j,x::r=>if fF ks.length x=false then 6 else if keyAt l j≠x.k then 9 else if gK (dG ks x.t).p x cap≠0 then gK (dG ks x.t).p x cap else fE ks cap l (j+1) r
theorem TL (H:DU C) (ks:List Kd) (ke:Bool) (cap:Int) (hr:kM ks) (l:List En) (e:Bool) (hl:l.length≤1000000) (hs:∀ x ∈ l,eF x) (a:Nat) (x:List It) (xe:Bool) (hx:∀ y ∈ x,jv y) (hxl:a+x.length≤l.length)
 (hb:∀ y ∈ x,fF ks.length y=true→-9223372036854775808≤(dG ks y.t).b∧(dG ks y.t).b≤9223372036854775807):∀ n i,n+i=x.length→(∀ y ∈ x.take i,fF ks.length y=true) →
 rZ C ⟨[(34,.int .i64 i),(33,.int .i64 x.length),(32,.ro 4 (x.map cIt) xe),(6,.ptr 0 0 0),(5,.ptr 1 0 0),(3,.ptr 2 0 0)],[(0,.cells 1 [[.ro 6 [] true]] true true),
  (1,.cells 5 [[.bool true,.int .i64 0,.ro 4 (x.map cIt) xe,.fn 228 [.rop [.ro 6 (l.map eEn) e],.rop [.int .i64 a]],.fn 229 [.rop [.ro 6 (l.map eEn) e],.rop [.int .i64 a],.rop [.ro 4 (x.map cIt) xe]]]] true false),(2,.cells 2 [[.ro 9 (ks.map eKd) ke,.int .i64 cap]] true true)],3⟩ =
  some (if fE ks cap l (a+i) (x.drop i)≠0 then cu (fE ks cap l (a+i) (x.drop i)) else iy (spl l a x.length (x.map (fre ks)))):=by
 intro n
 induction n with
 | zero =>
  intro i hi hok
  have h1:x.drop i=[]:=List.drop_eq_nil_of_le (by omega)
  have h3:¬ i < x.length:=by omega
  rw [List.take_of_length_le (by omega)] at hok
  have hf:=oK H.toAq ks ke cap x xe (by omega) (fun y q=>⟨hx y q,nD (hok y q)⟩)
  have hm:=aaH H (x.map (fre ks)) true x xe (by simp;omega) (by simp) l e a hl (by simpa using hxl)
  have hm2:∀ y ∈ spl l a x.length (x.map (fre ks)),eF y:=Nq _ _ hs fun y q=>by
   obtain ⟨z,hz,rfl⟩:=List.mem_map.1 q
   exact ⟨hx z hz,hb z hz (hok z hz)⟩
  have hlen:=uo l (x.map (fre ks)) a x.length hxl
  simp only [List.length_map] at hm hlen
  have hlen2:(spl l a x.length (x.map (fre ks))).length≤1000000:=by rw [hlen];omega
  rw [h1,fE,if_neg (by simp)]
  generalize spl l a x.length (x.map (fre ks))=R at *
  have ho:=G9 H.tokC R true hlen2 (fun x q=>(hm2 x q).i.m)
  have ht:=rU H.tokC (R.map En.own) true (by simpa using hlen2) (fun x q=>by
   obtain ⟨y,hy,rfl⟩:=List.mem_map.1 q
   exact (hm2 y hy).ow)
  unfold iy cu
  generalize R.map En.own=R' at *
  generalize x.map (fre ks)=X at *
  simp only [rZ];rw [aj dJ.eq_1]
  by_cases c2:ovE R'=0
  · rw [c2] at ht
    simp [aj jg.eq_1,h3,hf,hm,ho,ht,c2,H.inl,ay,H.pp,ppB]
  · simp [aj jg.eq_1,h3,hf,hm,ho,ht,c2,H.inl,ay,H.pp,ppB]
 | succ n ih =>
  intro i hi hok
  have h1:i < x.length:=by omega
  have hxi:=hx _ (List.getElem_mem h1)
  have hai:a+i < l.length:=by omega
  have hc:=wZ H.toOX x[i] ks.length hxi.t
  have hk:=XP H i x[i] l e a (a+i) rfl hl hai
  have hkA:keyAt l (a+i)=l[a+i].i.k:=by unfold keyAt;simp [hai]
  rw [drop_cons h1]
  have hch:fE ks cap l (a+i) (x[i]::x.drop (i+1))=if fF ks.length x[i]=false then 6 else if l[a+i].i.k≠x[i].k then 9 else if gK (dG ks x[i].t).p x[i] cap≠0 then gK (dG ks x[i].t).p x[i] cap else fE ks cap l (a+i+1) (x.drop (i+1)):=by
   rw [fE,hkA]
  generalize hO:iy (spl l a x.length (x.map (fre ks)))=O at *
  unfold cu
  cases c1:fF ks.length x[i]
  · rw [c1] at hc
    simp at hc
    rw [hch,c1]
    simp only [rZ];rw [aj dJ.eq_1]
    simp (disch:=omega) [h1,hc,H.inl,ay,H.pp,ppB]
  · rw [c1] at hc
    simp at hc
    by_cases c2:l[a+i].i.k=x[i].k
    · rw [if_pos c2] at hk
      have ht:=nD c1
      have hre:=sV H.toAq ks ke cap x[i] hxi ht hr
      simp only [aR,eIt] at hre hc hk
      have this:=ih (i+1) (by omega) (fun y q=>by
       rw [List.take_succ_eq_append_getElem h1] at q
       rcases List.mem_append.1 q with q | q
       · exact hok y q
       · simp at q;rw [q];exact c1)
      rw [← Nat.add_assoc] at this
      unfold cu at this
      generalize Qa (dG ks x[i].t).p x[i] cap=N at *
      generalize gK (dG ks x[i].t).p x[i] cap=E at *
      by_cases c3:E=0
      · subst c3
        have hV:fE ks cap l (a+i) (x[i]::x.drop (i+1))=fE ks cap l (a+i+1) (x.drop (i+1)):=by
         rw [hch,if_neg (by simp [c1]),if_neg (by simpa using c2),if_neg (by simp)]
        rw [hV]
        generalize (if fE ks cap l (a+i+1) (List.drop (i+1) x)≠0 then AV.tup [aL [] true,.int .i64 (fE ks cap l (a+i+1) (List.drop (i+1) x))] else O)=Z at *
        simp only [rZ] at this ⊢;rw [aj dJ.eq_1]
        simp at this
        simp (disch:=omega) [h1,hc,hk,hre,aG,H.inl,ay,H.pp,ppB,this]
      · have hV:fE ks cap l (a+i) (x[i]::x.drop (i+1))=E:=by
         rw [hch,if_neg (by simp [c1]),if_neg (by simpa using c2),if_pos c3]
        rw [hV,if_pos c3]
        simp only [rZ];rw [aj dJ.eq_1]
        simp (disch:=omega) [h1,hc,hk,hre,c3,H.inl,ay,H.pp,ppB]
    · rw [if_neg c2] at hk
      simp only [eIt] at hc hk
      have hV:fE ks cap l (a+i) (x[i]::x.drop (i+1))=9:=by
       rw [hch,if_neg (by simp [c1]),if_pos c2]
      rw [hV,if_pos (by simp)]
      simp only [rZ];rw [aj dJ.eq_1]
      simp (disch:=omega) [h1,hc,hk,H.inl,ay,H.pp,ppB]
theorem Ym (H:DU C) (ks:List Kd) (ke:Bool) (cap:Int) (hr:kM ks) (l:List En) (e:Bool) (hl:l.length≤1000000) (hs:∀ x ∈ l,eF x) (a:Int) (x:List It) (xe:Bool) (hxl:x.length≤1000000) (hx:∀ y ∈ x,jv y)
 (hb:∀ y ∈ x,fF ks.length y=true→-9223372036854775808≤(dG ks y.t).b∧(dG ks y.t).b≤9223372036854775807) :
 FnW C 114 [aR ks ke cap,aL l e,.int .i64 a,.ro 4 (x.map cIt) xe] =
  some (if ckE ks cap l≠0 then cu (ckE ks cap l) else if inR a x.length l.length=false then cu 4 else
   if fE ks cap l a.toNat x≠0 then cu (fE ks cap l a.toNat x) else iy (spl l a.toNat x.length (x.map (fre ks)))):=by
 have hc:=lQ H.toAq ks ke cap hr l e hl hs
 have hw:=rJ H.tokC a x.length l.length (by omega)
 have key:∀ ins,ins=inR a x.length l.length→FnW C 216 [aR ks ke cap,aL l e,.agg [.bool ins,.int .i64 0,.ro 4 (x.map cIt) xe,.fn 228 [.rop [.ro 6 (l.map eEn) e],.rop [.int .i64 a]],.fn 229 [.rop [.ro 6 (l.map eEn) e],.rop [.int .i64 a],.rop [.ro 4 (x.map cIt) xe]]]] =
  some (if ckE ks cap l≠0 then cu (ckE ks cap l) else if ins=false then cu 4 else
   if fE ks cap l a.toNat x≠0 then cu (fE ks cap l a.toNat x) else iy (spl l a.toNat x.length (x.map (fre ks)))):=by
  intro ins hins
  rw [aF H.f216 rfl]
  by_cases c1:ckE ks cap l=0
  · rw [if_neg (by simpa using c1)]
    rw [c1] at hc
    cases ins
    · unfold cu
      simp [qU,hc,H.inl,ay,H.pp,ppB]
    · rw [if_neg (by simp)]
      have hq:=hins.symm
      unfold inR at hq
      simp at hq
      obtain ⟨a',rfl⟩:∃ a':Nat,a=a':=⟨a.toNat,by omega⟩
      have h:=TL H ks ke cap hr l e hl hs a' x xe hx (by omega) hb x.length 0 (by simp) (by simp)
      rw [Nat.add_zero,List.drop_zero] at h
      simp only [Int.toNat_natCast]
      generalize (if fE ks cap l a' x≠0 then cu (fE ks cap l a' x) else iy (spl l a' x.length (x.map (fre ks))))=Z at *
      simp only [rZ] at h
      simp at h
      simp [qU,hc,h,H.inl,ay,H.pp,ppB]
  · rw [if_pos c1]
    unfold cu
    simp [qU,hc,c1,H.inl,ay,H.pp,ppB]
 have h:=key _ rfl
 rw [aF H.f114 rfl]
 generalize inR a x.length l.length=ins at *
 have hR:∃ R n,(if ckE ks cap l≠0 then cu (ckE ks cap l) else if ins=false then cu 4 else
  if fE ks cap l a.toNat x≠0 then cu (fE ks cap l a.toNat x) else iy (spl l a.toNat x.length (x.map (fre ks))))=.tup [.agg [.ro 6 R true],.int .i64 n]:=by
  unfold iy cu
  repeat (first | exact ⟨_,_,rfl⟩ | split)
 obtain ⟨R,n,hR⟩:=hR
 rw [hR] at h ⊢
 simp [ac6,hw,h,H.inl,ay,H.pp,ppB]
structure vU (C:aI):Prop extends DU C where
 f217:C.fns.get 217=some YL
 ahP:C.fns.get 401=some KL
 f220:C.fns.get 220=some adH
 f218:C.fns.get 218=some aei
 f109:C.fns.get 109=some agD
 f108:C.fns.get 108=some aeZ
theorem QH {ks:List Kd} {cap:Int} {l:List En} (h:ckE ks cap l=0):qQ ks cap=true:=by
 unfold ckE at h
 cases c:qQ ks cap
 · rw [if_pos c] at h;cases h
 · rfl
theorem akc {n:Int} {x:It} (h:fF n x=true):oL x=true:=by
 unfold fF at h;unfold oL;simp at h ⊢;exact ⟨⟨h.1.1.1,h.1.2⟩,h.2⟩
theorem ahs {ks:List Kd} {cap:Int} (h:qQ ks cap=true) {x:It} (hx:fF ks.length x=true) (ht:0≤x.t):gK (dG ks x.t).p x cap=0∨gK (dG ks x.t).p x cap=14:=by
 have h2:=akc hx
 have h3:=nD hx
 unfold qQ at h
 simp only [Bool.and_eq_true,decide_eq_true_eq] at h
 unfold gK
 rw [if_neg (by omega)]
 split
 · exact .inr rfl
 · rw [if_neg (by simp [h2])]
   split
   · exact .inr rfl
   · exact .inl rfl
@[simp] theorem J4:∀ h:aJ,uy 0 h=[]
 | []=>rfl
 | (b,o)::r=>by rw [uy,if_neg (by omega),J4 r]
@[simp] theorem Oo (π:Nat→Option Nat):∀ h:aJ,jG 0 π h=some []
 | []=>rfl
 | (b,o)::r=>by rw [jG,if_neg (by omega),Oo π r]
def DoR (v:AV) (o:Option (AV × aJ × Nat)):Prop:=∃ h' n',o=some (v,h',n')∧Pav.get h' 0=some (.cells 1 [[.ro 6 [] true]] true true)
def RP (s:List Int) (k:Int):List Int:=if s.contains k=true then s else s++[k]
def kF (s:List Int):List En→List Int
 | []=>s
 | e::r=>kF (RP s e.i.k) r
theorem Z7 (s:List Int) (k j:Int):(RP s k).contains j=(s++[k]).contains j:=by
 unfold RP
 split
 · rename_i h
   simp only [List.contains_eq_mem,decide_eq_true_eq] at h
   by_cases c:j=k
   · subst c;simp [h]
   · simp [c]
 · rfl
theorem I7:∀ (l:List En) (s:List Int) (j:Int),(kF s l).contains j=(s++bF l).contains j
 | [],s,j=>by rw [kF];simp [bF]
 | e::r,s,j=>by
  rw [kF,I7 r]
  have:=Z7 s e.i.k j
  simp only [List.contains_eq_mem,List.mem_append,List.mem_cons,List.not_mem_nil,or_false,decide_eq_decide,bF,List.map_cons] at this ⊢
  rw [this,or_assoc]
theorem O7 (k:Int):∀ s:List Int,jX (pW s) (.int .u64 k) (.bool true)=some (pW (RP s k)):=by
 intro s
 unfold RP
 cases c:s.contains k
 · rw [if_neg (by simp)];exact vg k s c
 · rw [if_pos rfl]
   induction s with
   | nil=>simp at c
   | cons a r ih =>
    unfold pW at ih ⊢
    rw [List.map_cons,jX]
    simp only [iE,if_true,ob]
    by_cases d:k=a
    · subst d;simp
    · have:r.contains k=true:=by simpa [d] using c
      simp [d,ih this,om]
theorem Gg (ks:List Kd) (cap:Int):∀ (x:List It) (s t:List Int),(∀ j,s.contains j=t.contains j)→dB ks cap s x=dB ks cap t x
 | [],s,t,_=>rfl
 | x::r,s,t,h=>by
  rw [dB,dB,h,Gg ks cap r (s++[x.k]) (t++[x.k]) (fun j=>by
   have:=h j
   simp only [List.contains_eq_mem,List.mem_append,decide_eq_decide] at this ⊢
   rw [this])]
theorem DN (H:vU C) (l:List En) (e:Bool) (hl:l.length≤1000000):∀ n i,n+i=l.length→∀ s:List Int,
 CK C 25 (kS [.tmp 2]) [.sq D8,.bk 0 ⟨true,[3],[]⟩,.sq AX] qm ⟨[(9,.int .i64 i),(8,.int .i64 l.length),(7,.ro 6 (l.map eEn) e),(3,.ptr 25 0 0)],[(0,.cells 1 [[.ro 6 [] true]] true true),(25,.cells 1 [[.map 26]] true false),(26,.map (pW s))],27⟩ =
  some (.fn 401 [.ptr 25 0 0],[(0,.cells 1 [[.ro 6 [] true]] true true),(25,.cells 1 [[.map 26]] true false),(26,.map (pW (kF s (l.drop i))))],29):=by
 intro n
 induction n with
 | zero =>
  intro i hi s
  have h1:l.drop i=[]:=List.drop_eq_nil_of_le (by omega)
  have h3:¬ i < l.length:=by omega
  rw [aj qm.eq_1]
  simp (disch:=omega) [aj AX.eq_1,h1,h3,kF]
 | succ n ih =>
  intro i hi s
  have h1:i < l.length:=by omega
  have hp:=O7 l[i].i.k s
  have this:=ih (i+1) (by omega) (RP s l[i].i.k)
  rw [drop_cons h1,kF]
  rw [aj qm.eq_1]
  simp at this
  simp (disch:=omega) [h1,aG,hp,this]
theorem QM (H:vU C) (l:List En) (e:Bool) (hl:l.length≤1000000) :
 RnW C 217 [.ro 6 (l.map eEn) e] [(0,.cells 1 [[.ro 6 [] true]] true true)] 25=some (.fn 401 [.ptr 25 0 0],[(0,.cells 1 [[.ro 6 [] true]] true true),(25,.cells 1 [[.map 26]] true false),(26,.map (pW (kF [] l)))],29):=by
 have h:=DN H l e hl l.length 0 (by simp) []
 rw [List.drop_zero,GR] at h
 rw [um (args:=[.ro 6 (l.map eEn) e]) H.f217 rfl [(0,.cells 1 [[.ro 6 [] true]] true true)] 25]
 simp at h
 simp [YL,h]
theorem TN (H:vU C) (ks:List Kd) (ke:Bool) (cap:Int) (hr:kM ks) (hru:qQ ks cap=true) (l:List En) (e:Bool) (hl:l.length≤1000000) (hs:∀ x ∈ l,eF x) (a:Nat) (ha:a≤l.length) (x:List It) (xe:Bool) (hx:∀ y ∈ x,jv y) (hxl:x.length≤1000000) (ins:Bool) (cnt:Int)
 (hb:∀ y ∈ x,fF ks.length y=true→-9223372036854775808≤(dG ks y.t).b∧(dG ks y.t).b≤9223372036854775807) (hsum:l.length+x.length≤1000000):∀ n i,n+i=x.length→(∀ y ∈ x.take i,fF ks.length y=true)→∀ s:List Int,
 DoR (if dB ks cap s (x.drop i)≠0 then cu (dB ks cap s (x.drop i)) else iy (spl l a 0 (x.map (fre ks)))) (CK C 29 (kS [.cell 6 1 true,.tmp 7]) [.sq AB,.bk 1 ⟨true,[6,5,3],[]⟩,.sq jg] dJ ⟨[(34,.int .i64 i),(33,.int .i64 x.length),(32,.ro 4 (x.map cIt) xe),(6,.ptr 29 0 0),(5,.ptr 30 0 0),(3,.ptr 31 0 0)],[(0,.cells 1 [[.ro 6 [] true]] true true),(25,.cells 1 [[.map 26]] true false),(26,.map (pW s)),(29,.cells 1 [[.ro 6 [] true]] true true),
  (30,.cells 5 [[.bool ins,.int .i64 cnt,.ro 4 (x.map cIt) xe,.fn 401 [.ptr 25 0 0],.fn 220 [.rop [.ro 6 (l.map eEn) e],.rop [.int .i64 a]]]] true false),(31,.cells 2 [[.ro 9 (ks.map eKd) ke,.int .i64 cap]] true true)],32⟩):=by
 intro n
 induction n with
 | zero =>
  intro i hi hok s
  have h1:x.drop i=[]:=List.drop_eq_nil_of_le (by omega)
  have h3:¬ i < x.length:=by omega
  rw [List.take_of_length_le (by omega)] at hok
  have hf:=oK H.toAq ks ke cap x xe (by omega) (fun y q=>⟨hx y q,nD (hok y q)⟩)
  have hm:FnW C 220 [.ro 6 ((x.map (fre ks)).map eEn) true,.rop [.ro 6 (l.map eEn) e],.rop [.int .i64 a]]=some (.ro 6 ((spl l a 0 (x.map (fre ks))).map eEn) true):=by
   have h:=qY H.tokC l (x.map (fre ks)) e true a 0 hl (by simpa using hxl) (by omega)
   rw [aF H.f220 rfl]
   generalize spl l a 0 (x.map (fre ks))=R at *
   generalize x.map (fre ks)=X at *
   simp at h
   simp [adH,h,H.inl,ay,H.pp,ppB]
  have hm2:∀ y ∈ spl l a 0 (x.map (fre ks)),eF y:=Nq _ _ hs fun y q=>by
   obtain ⟨z,hz,rfl⟩:=List.mem_map.1 q
   exact ⟨hx z hz,hb z hz (hok z hz)⟩
  have hlen2:(spl l a 0 (x.map (fre ks))).length≤1000000:=by rw [uo _ _ _ _ (by omega)];simp;omega
  rw [h1,dB,if_neg (by simp)]
  generalize spl l a 0 (x.map (fre ks))=R at *
  have ho:=G9 H.tokC R true hlen2 (fun x q=>(hm2 x q).i.m)
  have ht:=rU H.tokC (R.map En.own) true (by simpa using hlen2) (fun x q=>by
   obtain ⟨y,hy,rfl⟩:=List.mem_map.1 q
   exact (hm2 y hy).ow)
  unfold iy cu
  generalize R.map En.own=R' at *
  generalize x.map (fre ks)=X at *
  by_cases c2:ovE R'=0
  · rw [c2] at ht
    rw [aj dJ.eq_1]
    simp [aj jg.eq_1,h3,hf,hm,ho,ht,c2,H.inl,ay,H.pp,ppB]
    exact ⟨_,_,rfl,rfl⟩
  · rw [aj dJ.eq_1]
    simp [aj jg.eq_1,h3,hf,hm,ho,ht,c2,H.inl,ay,H.pp,ppB]
    exact ⟨_,_,rfl,rfl⟩
 | succ n ih =>
  intro i hi hok s
  have h1:i < x.length:=by omega
  have hxi:=hx _ (List.getElem_mem h1)
  have hc:=wZ H.toOX x[i] ks.length hxi.t
  have hg:=fun a b c h n=>um (args:=[a,b,c]) H.ahP rfl h n
  have hkg:=Ak x[i].k s
  rw [drop_cons h1,dB]
  generalize hO:iy (spl l a 0 (x.map (fre ks)))=O at *
  unfold cu
  cases c1:fF ks.length x[i]
  · have hE:itE ks cap x[i] (s.contains x[i].k)=6:=by unfold itE;simp [c1]
    rw [hE,if_pos (by simp),if_pos (by simp)]
    rw [c1] at hc
    simp at hc
    rw [aj dJ.eq_1]
    simp (disch:=omega) [h1,hc,H.inl,ay,H.pp,ppB]
    exact ⟨_,_,rfl,rfl⟩
  · rw [c1] at hc
    simp at hc
    cases c2:s.contains x[i].k
    · have ht:=nD c1
      have hre:=sV H.toAq ks ke cap x[i] hxi ht hr
      have h14:=ahs hru c1 hxi.t.1
      have hp:=vg x[i].k s c2
      rw [c2] at hkg
      simp only [aR,eIt] at hre hc
      have this:=ih (i+1) (by omega) (fun y q=>by
       rw [List.take_succ_eq_append_getElem h1] at q
       rcases List.mem_append.1 q with q | q
       · exact hok y q
       · simp at q;rw [q];exact c1) (s++[x[i].k])
      unfold cu at this
      have hE:itE ks cap x[i] false=if gK (dG ks x[i].t).p x[i] cap=0 then 0 else 14:=by unfold itE;simp [c1]
      generalize Qa (dG ks x[i].t).p x[i] cap=N at *
      generalize gK (dG ks x[i].t).p x[i] cap=E at *
      by_cases c3:E=0
      · subst c3
        have hV:itE ks cap x[i] false=0:=by rw [hE];simp
        rw [hV]
        simp only [ne_eq,not_true_eq_false,if_false]
        generalize (if dB ks cap (s++[x[i].k]) (List.drop (i+1) x)≠0 then AV.tup [aL [] true,.int .i64 (dB ks cap (s++[x[i].k]) (List.drop (i+1) x))] else O)=Z at *
        rw [aj dJ.eq_1]
        simp at this
        simp (disch:=omega) [h1,hc,hg,KL,hkg,hp,hre,aG,H.inl,ay,H.pp,ppB]
        exact this
      · have c4:E=14:=by rcases h14 with q | q;exact absurd q c3;exact q
        subst c4
        have hV:itE ks cap x[i] false=14:=by rw [hE];simp
        rw [hV,if_pos (by simp),if_pos (by simp)]
        rw [aj dJ.eq_1]
        simp (disch:=omega) [h1,hc,hg,KL,hkg,hp,hre,H.inl,ay,H.pp,ppB]
        exact ⟨_,_,rfl,rfl⟩
    · have hE:itE ks cap x[i] true=8:=by unfold itE;simp [c1]
      rw [hE,if_pos (by simp),if_pos (by simp)]
      rw [c2] at hkg
      simp only [eIt] at hc
      rw [aj dJ.eq_1]
      simp (disch:=omega) [h1,hc,hg,KL,hkg,H.inl,ay,H.pp,ppB]
      exact ⟨_,_,rfl,rfl⟩
theorem DR (H:vU C) (l:List En) (e:Bool) (hl:l.length≤1000000):∀ n i,n+i=l.length→∀ s:List Int,
 CK C 13 (kS [.tmp 2]) [.sq D8,.bk 0 ⟨true,[3],[]⟩,.sq AX] qm ⟨[(9,.int .i64 i),(8,.int .i64 l.length),(7,.ro 6 (l.map eEn) e),(3,.ptr 13 0 0)],[(0,.cells 1 [[.ro 6 [] true]] true true),(13,.cells 1 [[.map 14]] true false),(14,.map (pW s))],15⟩ =
  some (.fn 401 [.ptr 13 0 0],[(0,.cells 1 [[.ro 6 [] true]] true true),(13,.cells 1 [[.map 14]] true false),(14,.map (pW (kF s (l.drop i))))],17):=by
 intro n
 induction n with
 | zero =>
  intro i hi s
  have h1:l.drop i=[]:=List.drop_eq_nil_of_le (by omega)
  have h3:¬ i < l.length:=by omega
  rw [aj qm.eq_1]
  simp (disch:=omega) [aj AX.eq_1,h1,h3,kF]
 | succ n ih =>
  intro i hi s
  have h1:i < l.length:=by omega
  have hp:=O7 l[i].i.k s
  have this:=ih (i+1) (by omega) (RP s l[i].i.k)
  rw [drop_cons h1,kF]
  rw [aj qm.eq_1]
  simp at this
  simp (disch:=omega) [h1,aG,hp,this]
theorem RQ (H:vU C) (l:List En) (e:Bool) (hl:l.length≤1000000) :
 RnW C 217 [.ro 6 (l.map eEn) e] [(0,.cells 1 [[.ro 6 [] true]] true true)] 13=some (.fn 401 [.ptr 13 0 0],[(0,.cells 1 [[.ro 6 [] true]] true true),(13,.cells 1 [[.map 14]] true false),(14,.map (pW (kF [] l)))],17):=by
 have h:=DR H l e hl l.length 0 (by simp) []
 rw [List.drop_zero,GR] at h
 rw [um (args:=[.ro 6 (l.map eEn) e]) H.f217 rfl [(0,.cells 1 [[.ro 6 [] true]] true true)] 13]
 simp at h
 simp [YL,h]
theorem Td (H:vU C) (ks:List Kd) (ke:Bool) (cap:Int) (hr:kM ks) (hru:qQ ks cap=true)  (x:List It) (xe:Bool) (hx:∀ y ∈ x,jv y) (hxl:x.length≤1000000) (ins:Bool) (cnt:Int)
 (hb:∀ y ∈ x,fF ks.length y=true→-9223372036854775808≤(dG ks y.t).b∧(dG ks y.t).b≤9223372036854775807) :∀ n i,n+i=x.length→(∀ y ∈ x.take i,fF ks.length y=true)→∀ s:List Int,
 DoR (if dB ks cap s (x.drop i)≠0 then cu (dB ks cap s (x.drop i)) else iy (x.map (fre ks))) (CK C 17 (kS [.cell 6 1 true,.tmp 7]) [.sq AB,.bk 1 ⟨true,[6,5,3],[]⟩,.sq jg] dJ ⟨[(34,.int .i64 i),(33,.int .i64 x.length),(32,.ro 4 (x.map cIt) xe),(6,.ptr 17 0 0),(5,.ptr 18 0 0),(3,.ptr 19 0 0)],[(0,.cells 1 [[.ro 6 [] true]] true true),(13,.cells 1 [[.map 14]] true false),(14,.map (pW s)),(17,.cells 1 [[.ro 6 [] true]] true true),
  (18,.cells 5 [[.bool ins,.int .i64 cnt,.ro 4 (x.map cIt) xe,.fn 401 [.ptr 13 0 0],.fn 218 []]] true false),(19,.cells 2 [[.ro 9 (ks.map eKd) ke,.int .i64 cap]] true true)],20⟩):=by
 intro n
 induction n with
 | zero =>
  intro i hi hok s
  have h1:x.drop i=[]:=List.drop_eq_nil_of_le (by omega)
  have h3:¬ i < x.length:=by omega
  rw [List.take_of_length_le (by omega)] at hok
  have hf:=oK H.toAq ks ke cap x xe (by omega) (fun y q=>⟨hx y q,nD (hok y q)⟩)
  have hm:FnW C 218 [.ro 6 ((x.map (fre ks)).map eEn) true]=some (.ro 6 ((x.map (fre ks)).map eEn) true):=by
   rw [aF H.f218 rfl]
   generalize x.map (fre ks)=X at *
   simp [aei]
  have hm2:∀ y ∈ x.map (fre ks),eF y:=fun y q=>by
   obtain ⟨z,hz,rfl⟩:=List.mem_map.1 q
   exact ⟨hx z hz,hb z hz (hok z hz)⟩
  have hlen2:(x.map (fre ks)).length≤1000000:=by simpa using hxl
  rw [h1,dB,if_neg (by simp)]
  generalize x.map (fre ks)=R at *
  have ho:=G9 H.tokC R true hlen2 (fun x q=>(hm2 x q).i.m)
  have ht:=rU H.tokC (R.map En.own) true (by simpa using hlen2) (fun x q=>by
   obtain ⟨y,hy,rfl⟩:=List.mem_map.1 q
   exact (hm2 y hy).ow)
  unfold iy cu
  generalize R.map En.own=R' at *
  by_cases c2:ovE R'=0
  · rw [c2] at ht
    rw [aj dJ.eq_1]
    simp [aj jg.eq_1,h3,hf,hm,ho,ht,c2,H.inl,ay,H.pp,ppB]
    exact ⟨_,_,rfl,rfl⟩
  · rw [aj dJ.eq_1]
    simp [aj jg.eq_1,h3,hf,hm,ho,ht,c2,H.inl,ay,H.pp,ppB]
    exact ⟨_,_,rfl,rfl⟩
 | succ n ih =>
  intro i hi hok s
  have h1:i < x.length:=by omega
  have hxi:=hx _ (List.getElem_mem h1)
  have hc:=wZ H.toOX x[i] ks.length hxi.t
  have hg:=fun a b c h n=>um (args:=[a,b,c]) H.ahP rfl h n
  have hkg:=Ak x[i].k s
  rw [drop_cons h1,dB]
  generalize hO:iy (x.map (fre ks))=O at *
  unfold cu
  cases c1:fF ks.length x[i]
  · have hE:itE ks cap x[i] (s.contains x[i].k)=6:=by unfold itE;simp [c1]
    rw [hE,if_pos (by simp),if_pos (by simp)]
    rw [c1] at hc
    simp at hc
    rw [aj dJ.eq_1]
    simp (disch:=omega) [h1,hc,H.inl,ay,H.pp,ppB]
    exact ⟨_,_,rfl,rfl⟩
  · rw [c1] at hc
    simp at hc
    cases c2:s.contains x[i].k
    · have ht:=nD c1
      have hre:=sV H.toAq ks ke cap x[i] hxi ht hr
      have h14:=ahs hru c1 hxi.t.1
      have hp:=vg x[i].k s c2
      rw [c2] at hkg
      simp only [aR,eIt] at hre hc
      have this:=ih (i+1) (by omega) (fun y q=>by
       rw [List.take_succ_eq_append_getElem h1] at q
       rcases List.mem_append.1 q with q | q
       · exact hok y q
       · simp at q;rw [q];exact c1) (s++[x[i].k])
      unfold cu at this
      have hE:itE ks cap x[i] false=if gK (dG ks x[i].t).p x[i] cap=0 then 0 else 14:=by unfold itE;simp [c1]
      generalize Qa (dG ks x[i].t).p x[i] cap=N at *
      generalize gK (dG ks x[i].t).p x[i] cap=E at *
      by_cases c3:E=0
      · subst c3
        have hV:itE ks cap x[i] false=0:=by rw [hE];simp
        rw [hV]
        simp only [ne_eq,not_true_eq_false,if_false]
        generalize (if dB ks cap (s++[x[i].k]) (List.drop (i+1) x)≠0 then AV.tup [aL [] true,.int .i64 (dB ks cap (s++[x[i].k]) (List.drop (i+1) x))] else O)=Z at *
        rw [aj dJ.eq_1]
        simp at this
        simp (disch:=omega) [h1,hc,hg,KL,hkg,hp,hre,aG,H.inl,ay,H.pp,ppB]
        exact this
      · have c4:E=14:=by rcases h14 with q | q;exact absurd q c3;exact q
        subst c4
        have hV:itE ks cap x[i] false=14:=by rw [hE];simp
        rw [hV,if_pos (by simp),if_pos (by simp)]
        rw [aj dJ.eq_1]
        simp (disch:=omega) [h1,hc,hg,KL,hkg,hp,hre,H.inl,ay,H.pp,ppB]
        exact ⟨_,_,rfl,rfl⟩
    · have hE:itE ks cap x[i] true=8:=by unfold itE;simp [c1]
      rw [hE,if_pos (by simp),if_pos (by simp)]
      rw [c2] at hkg
      simp only [eIt] at hc
      rw [aj dJ.eq_1]
      simp (disch:=omega) [h1,hc,hg,KL,hkg,H.inl,ay,H.pp,ppB]
      exact ⟨_,_,rfl,rfl⟩
theorem ajE (H:vU C) (ks:List Kd) (ke:Bool) (cap:Int) (hr:kM ks) (l:List En) (e:Bool) (hl:l.length≤1000000) (hs:∀ x ∈ l,eF x) (a:Int) (x:List It) (xe:Bool) (hx:∀ y ∈ x,jv y) (hxl:x.length≤1000000) (ins:Bool) (cnt:Int)
 (hb:∀ y ∈ x,fF ks.length y=true→-9223372036854775808≤(dG ks y.t).b∧(dG ks y.t).b≤9223372036854775807) (hsum:l.length+x.length≤1000000) (hin:ins=true→0≤a∧a≤l.length) :
 DoR (if ckE ks cap l≠0 then cu (ckE ks cap l) else if ins=false then cu 4 else if 1024 < cnt then cu 3 else if dB ks cap (bF l) x≠0 then cu (dB ks cap (bF l) x) else iy (spl l a.toNat 0 (x.map (fre ks)))) (RnW C 216 [aR ks ke cap,aL l e,.agg [.bool ins,.int .i64 cnt,.ro 4 (x.map cIt) xe,.fn 401 [.ptr 25 0 0],.fn 220 [.rop [.ro 6 (l.map eEn) e],.rop [.int .i64 a]]]] [(0,.cells 1 [[.ro 6 [] true]] true true),(25,.cells 1 [[.map 26]] true false),(26,.map (pW (kF [] l)))] 29):=by
 have hc:=lQ H.toAq ks ke cap hr l e hl hs
 rw [um (args:=[aR ks ke cap,aL l e,.agg [.bool ins,.int .i64 cnt,.ro 4 (x.map cIt) xe,.fn 401 [.ptr 25 0 0],.fn 220 [.rop [.ro 6 (l.map eEn) e],.rop [.int .i64 a]]]]) H.f216 rfl [(0,.cells 1 [[.ro 6 [] true]] true true),(25,.cells 1 [[.map 26]] true false),(26,.map (pW (kF [] l)))] 29]
 by_cases c1:ckE ks cap l=0
 · have hru:=QH c1
   rw [c1] at hc
   rw [if_neg (by simpa using c1)]
   cases ins
   · rw [if_pos rfl]
     unfold cu
     simp [qU,hc,H.inl,ay,H.pp,ppB]
     exact ⟨_,_,rfl,rfl⟩
   · rw [if_neg (by simp)]
     obtain ⟨ha1,ha2⟩:=hin rfl
     obtain ⟨a',rfl⟩:∃ a':Nat,a=a':=⟨a.toNat,by omega⟩
     by_cases c2:1024 < cnt
     · rw [if_pos c2]
       unfold cu
       simp [qU,hc,c2,H.inl,ay,H.pp,ppB]
       exact ⟨_,_,rfl,rfl⟩
     · rw [if_neg c2]
       have h:=TN H ks ke cap hr hru l e hl hs a' (by omega) x xe hx hxl true cnt hb hsum x.length 0 (by simp) (by simp) (kF [] l)
       rw [List.drop_zero] at h
       rw [Gg ks cap x (kF [] l) (bF l) (fun j=>by rw [I7];simp)] at h
       simp only [Int.toNat_natCast]
       generalize (if dB ks cap (bF l) x≠0 then cu (dB ks cap (bF l) x) else iy (spl l a' 0 (x.map (fre ks))))=Z at *
       simp at h
       simp [qU,hc,c2,H.inl,ay,H.pp,ppB]
       exact h
 · rw [if_pos c1]
   unfold cu
   simp [qU,hc,c1,H.inl,ay,H.pp,ppB]
   exact ⟨_,_,rfl,rfl⟩
theorem ain (H:vU C) (ks:List Kd) (ke:Bool) (cap:Int) (hr:kM ks) (l:List En) (e:Bool) (hl:l.length≤1000000) (hs:∀ x ∈ l,eF x)  (x:List It) (xe:Bool) (hx:∀ y ∈ x,jv y) (hxl:x.length≤1000000)  (cnt:Int)
 (hb:∀ y ∈ x,fF ks.length y=true→-9223372036854775808≤(dG ks y.t).b∧(dG ks y.t).b≤9223372036854775807)  :
 DoR (if ckE ks cap l≠0 then cu (ckE ks cap l) else if 1024 < cnt then cu 3 else if dB ks cap [] x≠0 then cu (dB ks cap [] x) else iy (x.map (fre ks))) (RnW C 216 [aR ks ke cap,aL l e,.agg [.bool true,.int .i64 cnt,.ro 4 (x.map cIt) xe,.fn 401 [.ptr 13 0 0],.fn 218 []]] [(0,.cells 1 [[.ro 6 [] true]] true true),(13,.cells 1 [[.map 14]] true false),(14,.map (pW (kF [] [])))] 17):=by
 have hc:=lQ H.toAq ks ke cap hr l e hl hs
 rw [um (args:=[aR ks ke cap,aL l e,.agg [.bool true,.int .i64 cnt,.ro 4 (x.map cIt) xe,.fn 401 [.ptr 13 0 0],.fn 218 []]]) H.f216 rfl [(0,.cells 1 [[.ro 6 [] true]] true true),(13,.cells 1 [[.map 14]] true false),(14,.map (pW (kF [] [])))] 17]
 by_cases c1:ckE ks cap l=0
 · have hru:=QH c1
   rw [c1] at hc
   rw [if_neg (by simpa using c1)]
   by_cases c2:1024 < cnt
   · rw [if_pos c2]
     unfold cu
     simp [qU,hc,c2,H.inl,ay,H.pp,ppB]
     exact ⟨_,_,rfl,rfl⟩
   · rw [if_neg c2]
     have h:=Td H ks ke cap hr hru x xe hx hxl true cnt hb x.length 0 (by simp) (by simp) (kF [] [])
     rw [List.drop_zero] at h
     simp only [kF] at h ⊢
     simp [qU,hc,c2,H.inl,ay,H.pp,ppB]
     by_cases c3:dB ks cap [] x=0
     · simp [c3] at h ⊢
       exact h
     · simp [c3] at h ⊢
       exact h
 · rw [if_pos c1]
   unfold cu
   simp [qU,hc,c1,H.inl,ay,H.pp,ppB]
   exact ⟨_,_,rfl,rfl⟩
@[simp] theorem asz (h:aJ) (n:Nat) (o:iC) (k:Nat):Pav.get (Pav.put h n o) k=if n=k then some o else Pav.get h k:=get_put h n o k
theorem WU (H:vU C) (ks:List Kd) (ke:Bool) (cap:Int) (hr:kM ks) (l:List En) (e:Bool) (hl:l.length≤1000000) (hs:∀ x ∈ l,eF x) (a:Int) (x:List It) (xe:Bool) (hx:∀ y ∈ x,jv y) (hxl:x.length≤1000000)
 (hb:∀ y ∈ x,fF ks.length y=true→-9223372036854775808≤(dG ks y.t).b∧(dG ks y.t).b≤9223372036854775807) (hsum:l.length+x.length≤1000000) :
 FnW C 109 [aR ks ke cap,aL l e,.int .i64 a,.ro 4 (x.map cIt) xe] =
  some (if ckE ks cap l≠0 then cu (ckE ks cap l) else if inR a 0 l.length=false then cu 4 else if 1024 < (l.length:Int)+x.length then cu 3 else if dB ks cap (bF l) x≠0 then cu (dB ks cap (bF l) x) else iy (spl l a.toNat 0 (x.map (fre ks)))):=by
 have hw:=rJ H.tokC a 0 l.length (by omega)
 have hu:=QM H l e hl
 obtain ⟨h',n',hd,hB⟩:=ajE H ks ke cap hr l e hl hs a x xe hx hxl (inR a 0 l.length) ((l.length:Int)+x.length) hb hsum (fun q=>by unfold inR at q;simp at q;omega)
 have hR:∃ R n,(if ckE ks cap l≠0 then cu (ckE ks cap l) else if inR a 0 l.length=false then cu 4 else if 1024 < (l.length:Int)+x.length then cu 3 else if dB ks cap (bF l) x≠0 then cu (dB ks cap (bF l) x) else iy (spl l a.toNat 0 (x.map (fre ks))))=.tup [.agg [.ro 6 R true],.int .i64 n]:=by
  unfold iy cu
  repeat (first | exact ⟨_,_,rfl⟩ | split)
 obtain ⟨R,n,hR⟩:=hR
 rw [hR] at hd ⊢
 rw [aF H.f109 rfl]
 generalize inR a 0 l.length=ins at *
 try simp at hd
 simp (disch:=omega) [agD,aG,hw,hu,hd,hB,H.inl,ay,H.pp,ppB]
theorem Zm (H:vU C) (ks:List Kd) (ke:Bool) (cap:Int) (hr:kM ks) (l:List En) (e:Bool) (hl:l.length≤1000000) (hs:∀ x ∈ l,eF x) (x:List It) (xe:Bool) (hx:∀ y ∈ x,jv y) (hxl:x.length≤1000000)
 (hb:∀ y ∈ x,fF ks.length y=true→-9223372036854775808≤(dG ks y.t).b∧(dG ks y.t).b≤9223372036854775807) :
 FnW C 108 [aR ks ke cap,aL l e,.ro 4 (x.map cIt) xe] =
  some (if ckE ks cap l≠0 then cu (ckE ks cap l) else if 1024 < (x.length:Int) then cu 3 else if dB ks cap [] x≠0 then cu (dB ks cap [] x) else iy (x.map (fre ks))):=by
 have hu:=RQ H [] true (by simp)
 obtain ⟨h',n',hd,hB⟩:=ain H ks ke cap hr l e hl hs x xe hx hxl (x.length:Int) hb
 have hR:∃ R n,(if ckE ks cap l≠0 then cu (ckE ks cap l) else if 1024 < (x.length:Int) then cu 3 else if dB ks cap [] x≠0 then cu (dB ks cap [] x) else iy (x.map (fre ks)))=.tup [.agg [.ro 6 R true],.int .i64 n]:=by
  unfold iy cu
  repeat (first | exact ⟨_,_,rfl⟩ | split)
 obtain ⟨R,n,hR⟩:=hR
 rw [hR] at hd ⊢
 rw [aF H.f108 rfl]
 simp at hd hu
 simp (disch:=omega) [aeZ,aG,hu,hd,hB,H.inl,ay,H.pp,ppB]
def apL (ks:List Kd) (l:List En) (n:Nt):List En :=
 if n.k=1 then spl l n.a.toNat 0 (n.x.map (fre ks))
 else if n.k=2 then spl l n.a.toNat n.c.toNat []
 else if n.k=3 then spl (spl l n.a.toNat n.c.toNat []) n.t.toNat 0 ((l.take (n.a.toNat+n.c.toNat)).drop n.a.toNat)
 else if n.k=4 then spl l n.a.toNat n.x.length (n.x.map (fre ks))
 else n.x.map (fre ks)
def apF (ks:List Kd) (cap:Int) (l:List En) (n:Nt):Int :=
 if n.k=1 then (if inR n.a 0 l.length=false then 4 else if 1024 < (l.length:Int)+n.x.length then 3 else dB ks cap (bF l) n.x)
 else if n.k=2 then (if inR n.a n.c l.length=false then 4 else 0)
 else if n.k=3 then (if (inR n.a n.c l.length&&inR n.t 0 (l.length - n.c))=false then 4 else 0)
 else if n.k=4 then (if inR n.a n.x.length l.length=false then 4 else fE ks cap l n.a.toNat n.x)
 else (if 1024 < (n.x.length:Int) then 3 else dB ks cap [] n.x)
def apE (ks:List Kd) (cap:Int) (l:List En) (n:Nt):Int :=
 if ntE n≠0 then ntE n else if apF ks cap l n≠0 then apF ks cap l n else ovE (apL ks l n)
structure yc (ks:List Kd) (n:Nt):Prop where
 x:∀ y ∈ n.x,jv y
 l:n.x.length≤10000
 b:∀ y ∈ n.x,fF ks.length y=true→-9223372036854775808≤(dG ks y.t).b∧(dG ks y.t).b≤9223372036854775807
structure aa7 (C:aI):Prop extends Qd C,vU C
theorem Jl:∀ (l:List En) (s:Int),pJ s (l.map En.own)=pJ s l
 | [],_=>rfl
 | e::r,s=>by
  have h:(En.own e).s=e.s:=rfl
  simp only [List.map_cons,pJ,h,Jl r]
theorem zQ (l:List En):ovE (l.map En.own)=ovE l:=by unfold ovE tot;rw [Jl]
theorem UD (X:List En):iy X=if ovE X≠0 then cu (ovE X) else .tup [aL (X.map En.own) true,.int .i64 0]:=by
 unfold iy
 rw [zQ]
theorem afx (F:Int) (X:List En):(if F≠0 then cu F else iy X)=if (if F≠0 then F else ovE X)≠0 then cu (if F≠0 then F else ovE X) else .tup [aL (X.map En.own) true,.int .i64 0]:=by
 rw [UD]
 by_cases h:F=0
 · rw [if_neg (by simp [h]),if_neg (c:=F≠0) (by simp [h])]
 · rw [if_pos h,if_pos (c:=F≠0) h,if_pos h]
theorem V7 (H:aa7 C) (ks:List Kd) (ke:Bool) (cap:Int) (hr:kM ks) (l:List En) (e:Bool) (hl:l.length≤10000) (hs:∀ x ∈ l,eF x) (hc:ckE ks cap l=0) (n:Nt) (hn:yc ks n) :
 FnW C 343 [aR ks ke cap,aL l e,.agg (eNt n)]=some (if apE ks cap l n≠0 then cu (apE ks cap l n) else .tup [aL ((apL ks l n).map En.own) true,.int .i64 0]):=by
 have h0:FnW C 223 [aR ks ke cap,aL l e]=some (.int .i64 0):=by
  rw [lQ H.tovU.toDU.toAq ks ke cap hr l e (by omega) hs,hc]
 by_cases hE:ntE n=0
 · have key:FnW C (ntF n) (aR ks ke cap::aL l e::ntA n)=some (if apE ks cap l n≠0 then cu (apE ks cap l n) else .tup [aL ((apL ks l n).map En.own) true,.int .i64 0]):=by
    have hr5:1≤n.k∧n.k≤5:=by
     unfold ntE at hE
     split at hE
     · cases hE
     · omega
    have hl2:=hn.l
    have hA:apE ks cap l n=if apF ks cap l n≠0 then apF ks cap l n else ovE (apL ks l n):=by unfold apE;rw [if_neg (by rw [hE];simp)]
    rw [hA,← afx]
    obtain ⟨k,a,c,t,x,xe⟩:=n
    simp only at hr5 hl2
    have hx:=hn.x
    have hb:=hn.b
    simp only at hx hb
    have h5:k=1∨k=2∨k=3∨k=4∨k=5:=by omega
    rcases h5 with rfl | rfl | rfl | rfl | rfl
    · have h:=WU H.tovU ks ke cap hr l e (by omega) hs a x xe hx (by omega) hb (by omega)
      rw [hc,if_neg (by simp)] at h
      have h1:ntF ⟨1,a,c,t,x,xe⟩=109:=rfl
      have h2:ntA ⟨1,a,c,t,x,xe⟩=[.int .i64 a,.ro 4 (x.map cIt) xe]:=rfl
      have h3:apL ks l ⟨1,a,c,t,x,xe⟩=spl l a.toNat 0 (x.map (fre ks)):=rfl
      have h4:apF ks cap l ⟨1,a,c,t,x,xe⟩=if inR a 0 l.length=false then 4 else if 1024 < (l.length:Int)+x.length then 3 else dB ks cap (bF l) x:=rfl
      rw [h1,h2,h3,h4,h]
      by_cases c1:inR a 0 l.length=false
      · rw [if_pos c1,if_pos c1];rfl
      · rw [if_neg c1,if_neg c1]
        by_cases c2:1024 < (l.length:Int)+x.length
        · rw [if_pos c2,if_pos c2];rfl
        · rw [if_neg c2,if_neg c2]
    · have h:=Jh H.tovU.toDU ks ke cap hr l e (by omega) hs a c
      rw [hc,if_neg (by simp)] at h
      have h1:ntF ⟨2,a,c,t,x,xe⟩=110:=rfl
      have h2:ntA ⟨2,a,c,t,x,xe⟩=[.int .i64 a,.int .i64 c]:=rfl
      have h3:apL ks l ⟨2,a,c,t,x,xe⟩=spl l a.toNat c.toNat []:=rfl
      have h4:apF ks cap l ⟨2,a,c,t,x,xe⟩=if inR a c l.length=false then 4 else 0:=rfl
      rw [h1,h2,h3,h4,h]
      by_cases c1:inR a c l.length=false
      · rw [if_pos c1,if_pos c1];rfl
      · rw [if_neg c1,if_neg c1];rfl
    · have h:=afZ H.tovU.toDU ks ke cap hr l e (by omega) hs a c t
      rw [hc,if_neg (by simp)] at h
      have h1:ntF ⟨3,a,c,t,x,xe⟩=237:=rfl
      have h2:ntA ⟨3,a,c,t,x,xe⟩=[.int .i64 a,.int .i64 c,.int .i64 t]:=rfl
      have h3:apL ks l ⟨3,a,c,t,x,xe⟩=spl (spl l a.toNat c.toNat []) t.toNat 0 ((l.take (a.toNat+c.toNat)).drop a.toNat):=rfl
      have h4:apF ks cap l ⟨3,a,c,t,x,xe⟩=if (inR a c l.length&&inR t 0 (l.length - c))=false then 4 else 0:=rfl
      rw [h1,h2,h3,h4,h]
      by_cases c1:(inR a c l.length&&inR t 0 (l.length - c))=false
      · rw [if_pos c1,if_pos c1];rfl
      · rw [if_neg c1,if_neg c1];rfl
    · have h:=Ym H.tovU.toDU ks ke cap hr l e (by omega) hs a x xe (by omega) hx hb
      rw [hc,if_neg (by simp)] at h
      have h1:ntF ⟨4,a,c,t,x,xe⟩=114:=rfl
      have h2:ntA ⟨4,a,c,t,x,xe⟩=[.int .i64 a,.ro 4 (x.map cIt) xe]:=rfl
      have h3:apL ks l ⟨4,a,c,t,x,xe⟩=spl l a.toNat x.length (x.map (fre ks)):=rfl
      have h4:apF ks cap l ⟨4,a,c,t,x,xe⟩=if inR a x.length l.length=false then 4 else fE ks cap l a.toNat x:=rfl
      rw [h1,h2,h3,h4,h]
      by_cases c1:inR a x.length l.length=false
      · rw [if_pos c1,if_pos c1];rfl
      · rw [if_neg c1,if_neg c1]
    · have h:=Zm H.tovU ks ke cap hr l e (by omega) hs x xe hx (by omega) hb
      rw [hc,if_neg (by simp)] at h
      have h1:ntF ⟨5,a,c,t,x,xe⟩=108:=rfl
      have h2:ntA ⟨5,a,c,t,x,xe⟩=[.ro 4 (x.map cIt) xe]:=rfl
      have h3:apL ks l ⟨5,a,c,t,x,xe⟩=x.map (fre ks):=rfl
      have h4:apF ks cap l ⟨5,a,c,t,x,xe⟩=if 1024 < (x.length:Int) then 3 else dB ks cap [] x:=rfl
      rw [h1,h2,h3,h4,h]
      by_cases c1:1024 < (x.length:Int)
      · rw [if_pos c1,if_pos c1];rfl
      · rw [if_neg c1,if_neg c1]
   generalize apE ks cap l n=E at *
   by_cases hE2:E=0
   · subst hE2
     simp only [ne_eq,not_true_eq_false,if_false] at key ⊢
     exact Ju H.toQd ks ke cap l e n h0 hE _ _ _ key
   · rw [if_pos hE2] at key ⊢
     exact Ju H.toQd ks ke cap l e n h0 hE _ _ _ key
 · have hA:apE ks cap l n=ntE n:=by unfold apE;rw [if_pos hE]
   rw [hA,if_pos hE]
   exact O9 H.toQd ks ke cap l e n h0 hE
end Go.D
end
section
namespace Go.D
open Go Go.Pav Go.Pw P
theorem aaI {ks:List Kd} {cap:Int} {e:En} {b:Bool} (h:enE ks cap e b=0):b=false:=by
 cases b with
 | false=>rfl
 | true =>
  have h1:itE ks cap e.i true≠0:=by
   unfold itE
   split
   · simp
   · rw [if_pos rfl];simp
  unfold enE at h
  rw [if_pos h1] at h
  exact absurd h h1
theorem ad5 (ks:List Kd) (cap:Int):∀ (l:List En) (seen:List Int),chk ks cap seen l=0↔(∀ e ∈ l,enE ks cap e false=0∧e.i.k ∉ seen)∧(bF l).Nodup:=by
 intro l
 induction l with
 | nil=>intro seen;simp [chk,bF]
 | cons a r ih =>
  intro seen
  rw [chk]
  constructor
  · intro h
    split at h
    · rename_i hc;exact absurd h hc
    · rename_i hc
      have hc:enE ks cap a (seen.contains a.i.k)=0:=by simpa using hc
      have hf:=aaI hc
      rw [hf] at hc
      have hns:a.i.k ∉ seen:=by simpa using hf
      obtain ⟨q1,q2⟩:=(ih _).1 h
      refine ⟨?_,?_⟩
      · intro e he
        rcases List.mem_cons.1 he with rfl | he
        · exact ⟨hc,hns⟩
        · obtain ⟨p1,p2⟩:=q1 e he
          exact ⟨p1,fun hm=>p2 (by simp [hm])⟩
      · simp only [bF,List.map_cons,List.nodup_cons] at q2 ⊢
        refine ⟨?_,q2⟩
        intro hm
        obtain ⟨e,he,hk⟩:=List.mem_map.1 hm
        exact (q1 e he).2 (by simp [hk])
  · rintro ⟨q1,q2⟩
    obtain ⟨p1,p2⟩:=q1 a (List.mem_cons_self ..)
    have hf:seen.contains a.i.k=false:=by simpa using p2
    rw [hf,if_neg (by simp [p1])]
    rw [ih]
    simp only [bF,List.map_cons,List.nodup_cons] at q2 ⊢
    refine ⟨?_,q2.2⟩
    intro e he
    refine ⟨(q1 e (List.mem_cons_of_mem _ he)).1,?_⟩
    intro hm
    rcases List.mem_append.1 hm with hm | hm
    · exact (q1 e (List.mem_cons_of_mem _ he)).2 hm
    · simp only [List.mem_singleton] at hm
      exact q2.1 (List.mem_map.2 ⟨e,he,hm⟩)
theorem jM (ks:List Kd) (cap:Int) (l:List En):ckE ks cap l=0↔qQ ks cap=true∧l.length≤1024∧(∀ e ∈ l,enE ks cap e false=0)∧(bF l).Nodup∧ovE l=0:=by
 have hi:=ad5 ks cap l []
 unfold ckE
 constructor
 · intro h
   split at h
   · cases h
   · rename_i h1
     split at h
     · cases h
     · rename_i h2
       split at h
       · rename_i h3;exact absurd h h3
       · rename_i h3
         have h3:chk ks cap [] l=0:=by simpa using h3
         obtain ⟨q1,q2⟩:=hi.1 h3
         exact ⟨by simpa using h1,by omega,fun e he=>(q1 e he).1,q2,h⟩
 · rintro ⟨h1,h2,h3,h4,h5⟩
   have h6:chk ks cap [] l=0:=hi.2 ⟨fun e he=>⟨h3 e he,by simp⟩,h4⟩
   rw [if_neg (by simp [h1]),if_neg (by omega),if_neg (by simp [h6]),h5]
theorem acf {ks:List Kd} {cap:Int} {x:It} {b:Bool} (h:itE ks cap x b=0):b=false:=by
 cases b with
 | false=>rfl
 | true =>
  unfold itE at h
  split at h
  · simp at h
  · rw [if_pos rfl] at h;simp at h
theorem wR (ks:List Kd) (cap:Int):∀ (x:List It) (seen:List Int),dB ks cap seen x=0↔(∀ y ∈ x,itE ks cap y false=0∧y.k ∉ seen)∧(x.map fun y=>y.k).Nodup:=by
 intro x
 induction x with
 | nil=>intro seen;simp [dB]
 | cons a r ih =>
  intro seen
  rw [dB]
  constructor
  · intro h
    split at h
    · rename_i hc;exact absurd h hc
    · rename_i hc
      have hc:itE ks cap a (seen.contains a.k)=0:=by simpa using hc
      have hf:=acf hc
      rw [hf] at hc
      have hns:a.k ∉ seen:=by simpa using hf
      obtain ⟨q1,q2⟩:=(ih _).1 h
      refine ⟨?_,?_⟩
      · intro e he
        rcases List.mem_cons.1 he with rfl | he
        · exact ⟨hc,hns⟩
        · obtain ⟨p1,p2⟩:=q1 e he
          exact ⟨p1,fun hm=>p2 (by simp [hm])⟩
      · simp only [List.map_cons,List.nodup_cons]
        refine ⟨?_,q2⟩
        intro hm
        obtain ⟨e,he,hk⟩:=List.mem_map.1 hm
        exact (q1 e he).2 (by simp [hk])
  · rintro ⟨q1,q2⟩
    obtain ⟨p1,p2⟩:=q1 a (List.mem_cons_self ..)
    have hf:seen.contains a.k=false:=by simpa using p2
    rw [hf,if_neg (by simp [p1])]
    rw [ih]
    simp only [List.map_cons,List.nodup_cons] at q2
    refine ⟨?_,q2.2⟩
    intro e he
    refine ⟨(q1 e (List.mem_cons_of_mem _ he)).1,?_⟩
    intro hm
    rcases List.mem_append.1 hm with hm | hm
    · exact (q1 e (List.mem_cons_of_mem _ he)).2 hm
    · simp only [List.mem_singleton] at hm
      exact q2.1 (List.mem_map.2 ⟨e,he,hm⟩)
theorem kP {α β:Type} (f:α→β) (l:List α) (a c:Nat) (x:List α):(spl l a c x).map f=spl (l.map f) a c (x.map f):=by
 unfold spl
 simp only [List.map_append,List.map_take,List.map_drop]
theorem QF {ks:List Kd} {cap:Int} (hr:qQ ks cap=true) {y:It} (hy:jv y) (h:itE ks cap y false=0):enE ks cap (fre ks y) false=0:=by
 have hb:hOk (dG ks y.t).b=true:=by
  have ht:y.t < ks.length:=by
   unfold itE at h
   split at h
   · simp at h
   · rename_i h1
     unfold fF at h1
     simp only [Bool.not_eq_false,Bool.and_eq_true,decide_eq_true_eq] at h1
     exact h1.1.1.2
  have ht0:=hy.t.1
  have hlt:y.t.toNat < ks.length:=by omega
  unfold qQ at hr
  simp only [Bool.and_eq_true,List.all_eq_true] at hr
  have:=hr.2 ks[y.t.toNat] (List.getElem_mem hlt)
  unfold LD at this
  unfold dG
  rw [List.getElem?_eq_getElem hlt]
  simp only [Bool.and_eq_true] at this
  exact this.1
 unfold enE fre
 simp only
 rw [if_neg (by simp [h]),if_pos (by exact ⟨hb,by simp⟩)]
theorem afp {ks:List Kd} {cap:Int} {l m:List En} (hp:m.Perm l) (hc:ckE ks cap l=0) (ho:ovE m=0):ckE ks cap m=0:=by
 obtain ⟨h1,h2,h3,h4,_⟩:=(jM ks cap l).1 hc
 exact (jM ks cap m).2 ⟨h1,by rw [hp.length_eq];exact h2,fun e he=>h3 e (hp.mem_iff.1 he),(hp.map _).nodup_iff.2 h4,ho⟩
theorem ajV {ks:List Kd} {cap:Int} {l m:List En} (hp:m.Sublist l) (hc:ckE ks cap l=0) (ho:ovE m=0):ckE ks cap m=0:=by
 obtain ⟨h1,h2,h3,h4,_⟩:=(jM ks cap l).1 hc
 exact (jM ks cap m).2 ⟨h1,Nat.le_trans hp.length_le h2,fun e he=>h3 e (hp.subset he),(hp.map _).nodup h4,ho⟩
theorem Np {α:Type} (l:List α) (a c:Nat):(spl l a c []).Sublist l:=by
 unfold spl
 rw [List.append_nil]
 have h:(l.take a++l.drop (a+c)).Sublist (l.take a++l.drop a):=by
  refine (List.Sublist.refl _).append ?_
  rw [← List.drop_drop]
  exact List.drop_sublist _ _
 rwa [List.take_append_drop] at h
theorem H7 {α:Type} (l:List α) (a:Nat) (x:List α):(spl l a 0 x).Perm (x++l):=by
 unfold spl
 rw [Nat.add_zero]
 have h1:(l.take a++x++l.drop a).Perm (x++l.take a++l.drop a):=(List.perm_append_comm).append_right _
 rwa [List.append_assoc x,List.take_append_drop] at h1
theorem GU {α:Type} (l:List α) (a c t:Nat):(spl (spl l a c []) t 0 ((l.take (a+c)).drop a)).Perm l:=by
 refine (H7 _ _ _).trans ?_
 unfold spl
 rw [List.append_nil]
 have h1:((l.take (a+c)).drop a++(l.take a++l.drop (a+c))).Perm (l.take a++(l.take (a+c)).drop a++l.drop (a+c)):=by
  rw [← List.append_assoc]
  exact (List.perm_append_comm).append_right _
 refine h1.trans ?_
 have h2:l.take a=(l.take (a+c)).take a:=by rw [List.take_take,Nat.min_eq_left (by omega)]
 rw [h2,List.take_append_drop,List.take_append_drop]
theorem ake {ks:List Kd} {cap:Int} {l:List En} (hc:ckE ks cap l=0) (a:Nat) {x:List It} (hx:∀ y ∈ x,jv y) (hl:(l.length:Int)+x.length≤1024) (hi:dB ks cap (bF l) x=0) (ho:ovE (spl l a 0 (x.map (fre ks)))=0) :
 ckE ks cap (spl l a 0 (x.map (fre ks)))=0:=by
 obtain ⟨h1,h2,h3,h4,_⟩:=(jM ks cap l).1 hc
 obtain ⟨q1,q2⟩:=(wR ks cap x _).1 hi
 have hp:=H7 l a (x.map (fre ks))
 refine (jM _ _ _).2 ⟨h1,?_,?_,?_,ho⟩
 · rw [hp.length_eq];simp;omega
 · intro e he
   rcases List.mem_append.1 (hp.mem_iff.1 he) with he | he
   · obtain ⟨y,hy,rfl⟩:=List.mem_map.1 he
     exact QF h1 (hx y hy) (q1 y hy).1
   · exact h3 e he
 · refine (hp.map _).nodup_iff.2 ?_
   rw [List.map_append,List.nodup_append]
   have hk:(x.map (fre ks)).map (fun e=>e.i.k)=x.map fun y=>y.k:=by
    rw [List.map_map];rfl
   refine ⟨by rw [hk];exact q2,h4,?_⟩
   rw [hk]
   intro u hu v hv huv
   subst huv
   obtain ⟨y,hy,rfl⟩:=List.mem_map.1 hu
   exact (q1 y hy).2 hv
theorem ahF {ks:List Kd} {cap:Int} (hr:qQ ks cap=true) {x:List It} (hx:∀ y ∈ x,jv y) (hl:(x.length:Int)≤1024) (hi:dB ks cap [] x=0) (ho:ovE (x.map (fre ks))=0):ckE ks cap (x.map (fre ks))=0:=by
 obtain ⟨q1,q2⟩:=(wR ks cap x _).1 hi
 refine (jM _ _ _).2 ⟨hr,by simp;omega,?_,?_,ho⟩
 · intro e he
   obtain ⟨y,hy,rfl⟩:=List.mem_map.1 he
   exact QF hr (hx y hy) (q1 y hy).1
 · have hk:bF (x.map (fre ks))=x.map fun y=>y.k:=by unfold bF;rw [List.map_map];rfl
   rw [hk];exact q2
theorem acD (ks:List Kd) (cap:Int) (l:List En):∀ (x:List It) (j:Nat),j+x.length≤l.length→fE ks cap l j x=0→(∀ y ∈ x,itE ks cap y false=0)∧(x.map fun y=>y.k)=((bF l).drop j).take x.length:=by
 intro x
 induction x with
 | nil=>intro j _ _;simp
 | cons a r ih =>
  intro j hj h
  rw [fE] at h
  simp only [List.length_cons] at hj
  split at h
  · simp at h
  · rename_i h1
    split at h
    · simp at h
    · rename_i h2
      split at h
      · rename_i h3;exact absurd h h3
      · rename_i h3
        obtain ⟨q1,q2⟩:=ih (j+1) (by omega) h
        have h2:keyAt l j=a.k:=by simpa using h2
        have h3:gK (dG ks a.t).p a cap=0:=by simpa using h3
        refine ⟨?_,?_⟩
        · intro y hy
          rcases List.mem_cons.1 hy with rfl | hy
          · unfold itE
            rw [if_neg h1,if_neg (by simp),if_pos h3]
          · exact q1 y hy
        · have hlt:j < (bF l).length:=by unfold bF;simp;omega
          rw [List.drop_eq_getElem_cons hlt,List.length_cons,List.take_succ_cons,List.map_cons,q2]
          congr 1
          rw [← h2]
          unfold keyAt bF
          rw [List.getElem?_eq_getElem (by omega)]
          simp
theorem aio {ks:List Kd} {cap:Int} {l:List En} (hc:ckE ks cap l=0) (a:Nat) {x:List It} (hx:∀ y ∈ x,jv y) (hl:a+x.length≤l.length) (hi:fE ks cap l a x=0) (ho:ovE (spl l a x.length (x.map (fre ks)))=0) :
 ckE ks cap (spl l a x.length (x.map (fre ks)))=0:=by
 obtain ⟨h1,h2,h3,h4,_⟩:=(jM ks cap l).1 hc
 obtain ⟨q1,q2⟩:=acD ks cap l x a hl hi
 refine (jM _ _ _).2 ⟨h1,?_,?_,?_,ho⟩
 · unfold spl;simp;omega
 · intro e he
   unfold spl at he
   rcases List.mem_append.1 he with he | he
   · rcases List.mem_append.1 he with he | he
     · exact h3 e (List.mem_of_mem_take he)
     · obtain ⟨y,hy,rfl⟩:=List.mem_map.1 he
       exact QF h1 (hx y hy) (q1 y hy)
   · exact h3 e (List.mem_of_mem_drop he)
 · have hk:bF (spl l a x.length (x.map (fre ks)))=bF l:=by
    have hm:(x.map (fre ks)).map (fun e=>e.i.k)=x.map fun y=>y.k:=by rw [List.map_map];rfl
    unfold bF at q2 ⊢
    rw [kP,hm,q2]
    unfold spl
    rw [← List.drop_drop,List.append_assoc,List.take_append_drop,List.take_append_drop]
   rw [hk];exact h4
theorem UW {a c n:Int} (h:inR a c n=true):0≤a∧0≤c∧a+c≤n:=by
 unfold inR at h
 simp only [Bool.and_eq_true,decide_eq_true_eq] at h
 omega
theorem abw {ks:List Kd} {cap:Int} {l:List En} {n:Nt} (hn:yc ks n) (hc:ckE ks cap l=0) (h:apE ks cap l n=0):ckE ks cap (apL ks l n)=0:=by
 unfold apE at h
 split at h
 · rename_i h1;exact absurd h h1
 · rename_i hE
   split at h
   · rename_i h1;exact absurd h h1
   · rename_i hF
     have hF:apF ks cap l n=0:=by simpa using hF
     have hx:=hn.x
     unfold apF at hF
     unfold apL at h ⊢
     split at hF
     · rename_i hk
       rw [if_pos hk] at h ⊢
       split at hF
       · simp at hF
       · split at hF
         · simp at hF
         · exact ake hc _ hx (by omega) hF h
     · rename_i hk
       rw [if_neg hk] at h ⊢
       split at hF
       · rename_i hk;rw [if_pos hk] at h ⊢;exact ajV (Np _ _ _) hc h
       · rename_i hk
         rw [if_neg hk] at h ⊢
         split at hF
         · rename_i hk;rw [if_pos hk] at h ⊢;exact afp (GU _ _ _ _) hc h
         · rename_i hk
           rw [if_neg hk] at h ⊢
           split at hF
           · rename_i hk
             rw [if_pos hk] at h ⊢
             split at hF
             · simp at hF
             · rename_i hi
               have:=UW (by simpa using hi)
               exact aio hc _ hx (by omega) hF h
           · rename_i hk
             rw [if_neg hk] at h ⊢
             split at hF
             · simp at hF
             · exact ahF (QH hc) hx (by omega) hF h
end Go.D
end
section
namespace Go.D
open Go Go.Pav Go.Pw P
attribute [-simp] List.getElem_cons_drop
variable {C:aI}
def FT {α:Type} (a:Nat) (X:List α):Nat→List α→List α
 | i,[]=>if i=a then X else []
 | i,e::r=>(if i=a then X else [])++e::FT a X (i+1) r
theorem Ur {α:Type} (a:Nat) (X:List α):∀ (l:List α) (i:Nat),a < i→FT a X i l=l
 | [],i,h=>by rw [FT,if_neg (by omega)]
 | e::r,i,h=>by rw [FT,if_neg (by omega),Ur a X r (i+1) (by omega)];rfl
theorem Vy {α:Type} (a:Nat) (X:List α):∀ (l:List α) (i:Nat),i≤a→a≤i+l.length→FT a X i l=l.take (a - i)++X++l.drop (a - i)
 | [],i,h,h2=>by
  simp at h2;obtain rfl:i=a:=by omega
  simp [FT]
 | e::r,i,h,h2=>by
  rw [FT]
  by_cases c:i=a
  · rw [if_pos c,Ur a X r (i+1) (by omega),show a - i=0 by omega];simp
  · simp at h2
    rw [if_neg c,Vy a X r (i+1) (by omega) (by omega),show a - i=(a - (i+1))+1 by omega];simp
theorem Pv {α:Type} (a:Nat) (X:List α) (l:List α) (h:a≤l.length):FT a X 0 l=spl l a 0 X:=by
 rw [Vy a X l 0 (by omega) (by omega)];unfold spl;simp
structure H6 (C:aI):Prop extends aa7 C where
 alH:C.fns.get 461=some Qz
 ak6:C.fns.get 463=some agL
theorem agw (H:H6 C) (ks:List Kd) (ke:Bool) (cap:Int) (l:List En) (le:Bool) (x:List It) (xe:Bool) (hxl:x.length≤1024) (hx:∀ y ∈ x,jv y)
 (hf:∀ y ∈ x,FnW C 240 [aR ks ke cap,eIt y]=some (aE (fre ks y))) (a i:Int) (R:Option AV):∀ n j,n+j=x.length→∀ G:List En,G.length+n≤3000 →
 (CK C 0 (aT [.tmp 8,.tmp 9]) [.bk 1 ⟨true,[11,10,4,3,2,1],[]⟩,.sq qH,.sq wU,.bk 0 ⟨true,[10],[]⟩,.sq mJ] pY
  ⟨[(11,.int .i64 i),(10,.sl 0 6 0 (G.length+n) (G.length+n) false),(4,.ptr 1 0 0),(3,.ro 4 (x.map cIt) xe),(2,.int .i64 a),(1,.ro 6 (l.map eEn) le)],[(0,.cells 6 ((G++(x.drop j).map (fre ks)).map eEn) true true),(1,.cells 2 [[.ro 9 (ks.map eKd) ke,.int .i64 cap]] true true)],2⟩=R) →
 Et C ⟨[(12,.int .i64 j),(11,.int .i64 i),(10,.sl 0 6 0 G.length G.length false),(4,.ptr 1 0 0),(3,.ro 4 (x.map cIt) xe),(2,.int .i64 a),(1,.ro 6 (l.map eEn) le)],[(0,.cells 6 (G.map eEn) true true),(1,.cells 2 [[.ro 9 (ks.map eKd) ke,.int .i64 cap]] true true)],2⟩=R:=by
 intro n
 induction n with
 | zero =>
  intro j hj G hG hR
  have h1:x.drop j=[]:=List.drop_eq_nil_of_le (by omega)
  have h3:¬ j < x.length:=by omega
  rw [h1] at hR
  simp only [Et];rw [aj zy.eq_1]
  simp at hR
  simp (disch:=omega) [h3,hR]
 | succ n ih =>
  intro j hj G hG hR
  have h1:j < x.length:=by omega
  have hfit:(G.length+1) * 73≤35184372088832:=by omega
  have hj2:=hf x[j] (List.getElem_mem h1)
  rw [drop_cons h1] at hR
  have this:=ih (j+1) (by omega) (G++[fre ks x[j]]) (by simp;omega) (by
   have e1:(G++[fre ks x[j]]).length+n=G.length+(n+1):=by simp;omega
   rw [e1,List.append_assoc]
   exact hR)
  simp only [Et] at this ⊢;rw [aj zy.eq_1]
  try simp [fre] at this
  try simp only [aE,eEn,eIt,fre] at hj2
  simp (disch:=omega) [h1,hj2,hfit,aG,H.inl,ay,H.pp,ppB,this]
def rfO (o:List En):AV:=if ovE o≠0 then .tup [.ro 6 [] true,.int .i64 13] else .tup [.ro 6 (o.map eEn) false,.int .i64 0]
def rest (a:Nat) (X l:List En) (i:Nat):List En:=if i≤l.length then FT a X i (l.drop i) else []
theorem abP (H:H6 C) (o:List En) (hs:∀ x ∈ o,eF x) (hl:o.length≤3000) (h:aJ) :
 CK C 0 (aT [.tmp 8,.tmp 9]) [] mJ ⟨[(10,.sl 0 6 0 o.length o.length false)],[(0,.cells 6 (o.map eEn) true true)],1⟩=some (rfO o):=by
 have hv:=Qx H.tovU.toDU.toAq.tokC o false (by omega) hs
 have h13:ovE o=0∨ovE o=13:=by unfold ovE;split <;> simp
 unfold rfO
 rcases h13 with h0 | h0
 · rw [h0] at hv
   rw [h0,if_neg (by simp)]
   cases o with
   | nil=>simp at hv;simp [aj mJ.eq_1,hv,H.inl,ay,H.pp,ppB]
   | cons g G=>simp at hv;simp (disch:=(first | omega | (simp;done) | (simp;omega))) [aj mJ.eq_1,hv,List.take_of_length_le,H.inl,ay,H.pp,ppB]
 · rw [h0] at hv
   rw [h0,if_pos (by simp)]
   cases o with
   | nil=>simp at hv;simp [aj mJ.eq_1,hv,H.inl,ay,H.pp,ppB]
   | cons g G=>simp at hv;simp (disch:=(first | omega | (simp;done) | (simp;omega))) [aj mJ.eq_1,hv,List.take_of_length_le,H.inl,ay,H.pp,ppB]
theorem XJ (H:H6 C) (ks:List Kd) (ke:Bool) (cap:Int) (l:List En) (le:Bool) (hll:l.length≤1024) (x:List It) (xe:Bool) (hxl:x.length≤1024) (hx:∀ y ∈ x,jv y)
 (hf:∀ y ∈ x,FnW C 240 [aR ks ke cap,eIt y]=some (aE (fre ks y))) (a:Nat):∀ n i,n+i=l.length+1→∀ G:List En,G.length+n+(if i≤a then x.length else 0)≤2900 →
 (∀ e ∈ G++rest a (x.map (fre ks)) l i,eF e) →
 qG C ⟨[(11,.int .i64 i),(10,.sl 0 6 0 G.length G.length false),(4,.ptr 1 0 0),(3,.ro 4 (x.map cIt) xe),(2,.int .i64 a),(1,.ro 6 (l.map eEn) le)],[(0,.cells 6 (G.map eEn) true true),(1,.cells 2 [[.ro 9 (ks.map eKd) ke,.int .i64 cap]] true true)],2⟩ =
  some (rfO (G++rest a (x.map (fre ks)) l i)):=by
 intro n
 induction n with
 | zero =>
  intro i hi G hG hs
  have h3:¬ i≤l.length:=by omega
  have hr:rest a (x.map (fre ks)) l i=[]:=by unfold rest;rw [if_neg h3]
  rw [hr,List.append_nil] at hs ⊢
  have he:=abP H G hs (by omega) []
  simp only [qG];rw [aj uh.eq_1]
  simp (disch:=omega) [h3,he]
 | succ n ih =>
  intro i hi G hG hs
  have h1:i≤l.length:=by omega
  have tail:∀ G':List En,G'.length+(n+1)+(if i+1≤a then x.length else 0)≤2900→(∀ e ∈ G'++((l.drop i).take 1++rest a (x.map (fre ks)) l (i+1)),eF e) →
   CK C 0 (aT [.tmp 8,.tmp 9]) [.bk 1 ⟨true,[11,10,4,3,2,1],[]⟩,.sq qH,.sq wU,.bk 0 ⟨true,[10],[]⟩,.sq mJ] pY
    ⟨[(11,.int .i64 i),(10,.sl 0 6 0 G'.length G'.length false),(4,.ptr 1 0 0),(3,.ro 4 (x.map cIt) xe),(2,.int .i64 a),(1,.ro 6 (l.map eEn) le)],[(0,.cells 6 (G'.map eEn) true true),(1,.cells 2 [[.ro 9 (ks.map eKd) ke,.int .i64 cap]] true true)],2⟩ =
   some (rfO (G'++((l.drop i).take 1++rest a (x.map (fre ks)) l (i+1)))):=by
   intro G' hG' hs'
   have hfit:(G'.length+1) * 73≤35184372088832:=by omega
   by_cases c:i < l.length
   · have hd:(l.drop i).take 1=[l[i]]:=by rw [drop_cons c];rfl
     rw [hd] at hs' ⊢
     have this:=ih (i+1) (by omega) (G'++[l[i]]) (by simp;omega) (by rw [List.append_assoc];exact hs')
     rw [List.append_assoc] at this
     generalize rfO (G'++([l[i]]++rest a (x.map (fre ks)) l (i+1)))=Q at *
     simp only [qG] at this
     rw [aj pY.eq_1]
     simp at this
     simp (disch:=omega) [aj qH.eq_1,c,hfit,aG,this]
   · have hd:(l.drop i).take 1=[]:=by rw [List.drop_eq_nil_of_le (by omega)];rfl
     rw [hd,List.nil_append] at hs' ⊢
     have this:=ih (i+1) (by omega) G' (by omega) hs'
     generalize rfO (G'++rest a (x.map (fre ks)) l (i+1))=Q at *
     simp only [qG] at this
     rw [aj pY.eq_1]
     simp at this
     simp (disch:=omega) [aj qH.eq_1,c,hfit,aG,this]
  have hrest:rest a (x.map (fre ks)) l i=(if i=a then x.map (fre ks) else [])++((l.drop i).take 1++rest a (x.map (fre ks)) l (i+1)):=by
   unfold rest
   rw [if_pos h1]
   by_cases c:i < l.length
   · have c2:i+1≤l.length:=by omega
     rw [if_pos c2,drop_cons c,FT];rfl
   · have c2:¬ i+1≤l.length:=by omega
     rw [if_neg c2,List.drop_eq_nil_of_le (by omega),FT];simp
  rw [hrest] at hs ⊢
  by_cases c:i=a
  · subst c
    rw [if_pos rfl] at hs ⊢
    rw [if_pos (Nat.le_refl _)] at hG
    have ht:=tail (G++x.map (fre ks)) (by rw [if_neg (by omega)];simp;omega) (by rw [List.append_assoc];exact hs)
    rw [List.append_assoc] at ht
    generalize rfO (G++(x.map (fre ks)++((l.drop i).take 1++rest i (x.map (fre ks)) l (i+1))))=Q at *
    have this:=agw H ks ke cap l le x xe hxl hx hf i i (some Q) x.length 0 (by simp) G (by omega) (by
     rw [List.drop_zero]
     have e1:(G++x.map (fre ks)).length=G.length+x.length:=by simp
     rw [← e1]
     exact ht)
    simp only [Et] at this
    simp only [qG];rw [aj uh.eq_1]
    simp at this
    simp (disch:=omega) [h1,aG,this]
  · rw [if_neg c,List.nil_append] at hs ⊢
    have c':¬ (i:Int)=a:=by omega
    have hfit:(G.length+1) * 73≤35184372088832:=by split at hG <;> omega
    by_cases d:i < l.length
    · have hd:(l.drop i).take 1=[l[i]]:=by rw [drop_cons d];rfl
      rw [hd] at hs ⊢
      have this:=ih (i+1) (by omega) (G++[l[i]]) (by simp;split <;> split at hG <;> omega) (by rw [List.append_assoc];exact hs)
      rw [List.append_assoc] at this
      generalize rfO (G++([l[i]]++rest a (x.map (fre ks)) l (i+1)))=Q at *
      simp only [qG] at this ⊢;rw [aj uh.eq_1]
      simp at this
      simp (disch:=omega) [aj pY.eq_1,aj qH.eq_1,h1,c,c',d,hfit,aG,this]
    · have hd:(l.drop i).take 1=[]:=by rw [List.drop_eq_nil_of_le (by omega)];rfl
      rw [hd,List.nil_append] at hs ⊢
      have this:=ih (i+1) (by omega) G (by split <;> split at hG <;> omega) hs
      generalize rfO (G++rest a (x.map (fre ks)) l (i+1))=Q at *
      simp only [qG] at this ⊢;rw [aj uh.eq_1]
      simp at this
      simp (disch:=omega) [aj pY.eq_1,aj qH.eq_1,h1,c,c',d,hfit,aG,this]
theorem aj7 (a:Int) (n:Int):inR a 0 n=false↔a < 0∨n < a:=by
 unfold inR
 by_cases h1:0≤a <;> by_cases h2:a≤n <;> simp [h1,h2] <;> omega
theorem ab9 (ks:List Kd) (cap:Int):∀ (x:List It) (seen:List Int),0≤dB ks cap seen x
 | [],_=>by simp [dB]
 | a::r,seen=>by
  rw [dB]
  have h:0≤itE ks cap a (seen.contains a.k):=by
   unfold itE
   split
   · simp
   · split
     · simp
     · split <;> simp
  split
  · exact h
  · exact ab9 ks cap r _
theorem ac9 (H:H6 C) (ks:List Kd) (ke:Bool) (cap:Int) (l:List En) (le:Bool) (hll:l.length≤1024) (hs:∀ e ∈ l,eF e) (a:Int) (x:List It) (xe:Bool) (hx:∀ y ∈ x,jv y) (hxl:x.length≤10000)
 (hi:FnW C 532 [aR ks ke cap,.ro 6 (l.map eEn) le,.ro 4 (x.map cIt) xe]=some (.int .i64 (dB ks cap (bF l) x)))
 (hf:dB ks cap (bF l) x=0→∀ y ∈ x,FnW C 240 [aR ks ke cap,eIt y]=some (aE (fre ks y)))
 (hfe:dB ks cap (bF l) x=0→∀ y ∈ x,eF (fre ks y)) :
 FnW C 461 [aR ks ke cap,.ro 6 (l.map eEn) le,.int .i64 a,.ro 4 (x.map cIt) xe] =
  some (if inR a 0 l.length=false then .tup [.ro 6 [] true,.int .i64 4] else if 1024 < (l.length:Int)+x.length then .tup [.ro 6 [] true,.int .i64 3] else if dB ks cap (bF l) x≠0 then .tup [.ro 6 [] true,.int .i64 (dB ks cap (bF l) x)] else rfO (spl l a.toNat 0 (x.map (fre ks)))):=by
 rw [aF H.alH rfl]
 by_cases c1:a < 0
 · rw [if_pos ((aj7 _ _).2 (.inl c1))]
   simp (disch:=omega) [Qz,c1,aG,H.inl,ay,H.pp,ppB]
 · by_cases c2:(l.length:Int) < a
   · rw [if_pos ((aj7 _ _).2 (.inr c2))]
     simp (disch:=omega) [Qz,c1,c2,aG,H.inl,ay,H.pp,ppB]
   · rw [if_neg (fun h=>by have:=(aj7 _ _).1 h;omega)]
     by_cases c3:1024 < (l.length:Int)+x.length
     · rw [if_pos c3]
       simp (disch:=omega) [Qz,c1,c2,c3,aG,H.inl,ay,H.pp,ppB]
     · rw [if_neg c3]
       have hnn:=ab9 ks cap x (bF l)
       by_cases c4:dB ks cap (bF l) x=0
       · rw [if_neg (by simp [c4])]
         rw [c4] at hi
         obtain ⟨b,rfl⟩:∃ b:Nat,a=b:=⟨a.toNat,by omega⟩
         have h:=XJ H ks ke cap l le hll x xe (by omega) hx (hf c4) b (l.length+1) 0 (by simp) [] (by simp;omega) (by
          intro e he
          rw [List.nil_append] at he
          unfold rest at he
          rw [if_pos (by omega),List.drop_zero,Pv _ _ _ (by omega)] at he
          rcases List.mem_append.1 ((H7 _ _ _).mem_iff.1 he) with he | he
          · obtain ⟨y,hy,rfl⟩:=List.mem_map.1 he
            exact hfe c4 y hy
          · exact hs e he)
         unfold rest at h
         rw [List.nil_append,if_pos (by omega),List.drop_zero,Pv _ _ _ (by omega)] at h
         rw [Int.toNat_natCast]
         generalize rfO (spl l b 0 (x.map (fre ks)))=Q at *
         simp only [qG] at h
         simp at h
         simp (disch:=omega) [Qz,c1,c2,c3,hi,aG,H.inl,ay,H.pp,ppB,h]
       · rw [if_pos c4]
         have c5:0 < dB ks cap (bF l) x:=by omega
         generalize dB ks cap (bF l) x=E at *
         simp (disch:=omega) [Qz,c1,c2,c3,hi,c4,c5,aG,H.inl,ay,H.pp,ppB]
theorem alq {ks:List Kd} {cap:Int} {y:It} (h:itE ks cap y false=0):y.t < ks.length:=by
 unfold itE at h
 split at h
 · simp at h
 · rename_i h1
   unfold fF at h1
   simp only [Bool.not_eq_false,Bool.and_eq_true,decide_eq_true_eq] at h1
   exact h1.1.1.2
theorem Ig {ks:List Kd} {cap:Int} {y:It} (h:itE ks cap y false=0):fF ks.length y=true:=by
 unfold itE at h
 split at h
 · simp at h
 · rename_i h1;simpa using h1
theorem OD (H:H6 C) (ks:List Kd) (ke:Bool) (cap:Int) (hr:kM ks) (l:List En) (le:Bool) (hll:l.length≤1024) (hs:∀ e ∈ l,eF e) (n:Nt) (hn:yc ks n) :
 FnW C 461 [aR ks ke cap,.ro 6 (l.map eEn) le,.int .i64 n.a,.ro 4 (n.x.map cIt) n.e] =
  some (if inR n.a 0 l.length=false then .tup [.ro 6 [] true,.int .i64 4] else if 1024 < (l.length:Int)+n.x.length then .tup [.ro 6 [] true,.int .i64 3] else if dB ks cap (bF l) n.x≠0 then .tup [.ro 6 [] true,.int .i64 (dB ks cap (bF l) n.x)] else rfO (spl l n.a.toNat 0 (n.x.map (fre ks)))):=by
 have hl2:=hn.l
 refine ac9 H ks ke cap l le hll hs n.a n.x n.e hn.x hn.l (Qu H.tovU.toDU.toAq ks ke cap hr l le (by omega) n.x n.e (by omega) hn.x) (fun hz y hy=>?_) (fun hz y hy=>?_)
 · have hi:=((wR ks cap n.x _).1 hz).1 y hy
   exact xA H.tovU.toDU.toAq ks ke cap y (hn.x y hy) (alq hi.1)
 · have hi:=((wR ks cap n.x _).1 hz).1 y hy
   exact ⟨hn.x y hy,hn.b y hy (Ig hi.1)⟩
theorem aeD (H:H6 C) (ks:List Kd) (ke:Bool) (cap:Int) (hr:kM ks) (n:Nt) (hn:yc ks n) :
 FnW C 463 [aR ks ke cap,.ro 4 (n.x.map cIt) n.e] =
  some (if 1024 < (n.x.length:Int) then .tup [.ro 6 [] true,.int .i64 3] else if dB ks cap [] n.x≠0 then .tup [.ro 6 [] true,.int .i64 (dB ks cap [] n.x)] else rfO (n.x.map (fre ks))):=by
 have h:=OD H ks ke cap hr [] true (by simp) (by simp) { n with a:=0 } ⟨hn.x,hn.l,hn.b⟩
 have e1:inR 0 0 (([]:List En).length:Int)=true:=by decide
 have e2:bF ([]:List En)=[]:=rfl
 have e3:∀ X:List En,spl [] (0:Int).toNat 0 X=X:=by intro X;simp [spl]
 simp only [e1,e2,e3,List.map_nil,List.length_nil,Int.natCast_zero,Int.zero_add] at h
 rw [if_neg (by decide)] at h
 have hQ:∃ L f E,(if 1024 < (n.x.length:Int) then AV.tup [.ro 6 [] true,.int .i64 3] else if dB ks cap [] n.x≠0 then .tup [.ro 6 [] true,.int .i64 (dB ks cap [] n.x)] else rfO (n.x.map (fre ks)))=.tup [.ro 6 L f,.int .i64 E]:=by
  unfold rfO
  repeat' split
  all_goals exact ⟨_,_,_,rfl⟩
 obtain ⟨L,f,E,hQ⟩:=hQ
 rw [hQ] at h ⊢
 rw [aF H.ak6 rfl]
 simp (disch:=omega) [agL,h,aG,H.inl,ay,H.pp,ppB]
structure apT (C:aI):Prop extends vI C
theorem ado {n:Int} {x:It} (h:fF n x=true):oL x=true:=by
 unfold fF at h;unfold oL;simp at h ⊢;exact ⟨⟨h.1.1.1,h.1.2⟩,h.2⟩
theorem akm {ks:List Kd} {cap:Int} (h:qQ ks cap=true) {x:It} (hx:fF ks.length x=true) (ht:0≤x.t):gK (dG ks x.t).p x cap=0∨gK (dG ks x.t).p x cap=14:=by
 have h2:=ado hx
 have h3:=nD hx
 unfold qQ at h
 simp only [Bool.and_eq_true,decide_eq_true_eq] at h
 unfold gK
 rw [if_neg (by omega)]
 split
 · exact .inr rfl
 · rw [if_neg (by simp [h2])]
   split
   · exact .inr rfl
   · exact .inl rfl
structure aej (C:aI):Prop extends apT C where
 amc:C.fns.get 462=some aa2
def Md (o:List En):AV:=if ovE o≠0 then .tup [.ro 6 [] true,.int .i64 (ovE o)] else .tup [.ro 6 (o.map eEn) false,.int .i64 0]
theorem abr {α:Type} (G:List α) (j n:Nat) (y:α) (ys:List α) (h:j < G.length):spl G j (n+1) (y::ys)=spl (G.set j y) (j+1) n ys:=by
 unfold spl
 have h1:(G.set j y).take (j+1)=G.take j++[y]:=by
  rw [List.take_add_one,List.take_set_of_le (by omega),List.getElem?_set_self h];rfl
 have h2:(G.set j y).drop (j+1+n)=G.drop (j+(n+1)):=by
  rw [List.drop_set_of_lt (by omega)];congr 1;omega
 rw [h1,h2];simp
theorem YM {α:Type} (G:List α) (j:Nat):spl G j 0 []=G:=by unfold spl;simp
theorem ab3 (H:aej C) (ks:List Kd) (ke:Bool) (cap:Int) (hr:kM ks) (hok:qQ ks cap=true) (l:List En) (e:Bool) (hl:l.length≤10000) (hs:∀ x ∈ l,eF x) (a:Nat) (x:List It) (xe:Bool) (hx:∀ y ∈ x,jv y) (hxl:a+x.length≤l.length)
 (hb:∀ y ∈ x,fF ks.length y=true→-9223372036854775808≤(dG ks y.t).b∧(dG ks y.t).b≤9223372036854775807):∀ n i,n+i=x.length→∀ G:List En,G.length=l.length→(∀ y ∈ G,eF y) →
 tK C ⟨[(12,.int .i64 i),(10,.sl 0 6 0 l.length l.length false),(4,.ptr 1 0 0),(3,.ro 4 (x.map cIt) xe),(2,.int .i64 a),(1,.ro 6 (l.map eEn) e)],[(0,.cells 6 (G.map eEn) true true),(1,.cells 2 [[.ro 9 (ks.map eKd) ke,.int .i64 cap]] true true)],2⟩ =
  some (if fE ks cap l (a+i) (x.drop i)≠0 then .tup [.ro 6 [] true,.int .i64 (fE ks cap l (a+i) (x.drop i))] else Md (spl G (a+i) n ((x.drop i).map (fre ks)))):=by
 intro n
 induction n with
 | zero =>
  intro i hi G hG hGi
  have h1:x.drop i=[]:=List.drop_eq_nil_of_le (by omega)
  have h3:¬ i < x.length:=by omega
  have h6:List.take l.length (List.map eEn G)=List.map eEn G:=List.take_of_length_le (by simp;omega)
  have ho:=Qx H.tokC G false (by omega) hGi
  rw [h1,fE,if_neg (by simp),List.map_nil,YM]
  simp only [tK];rw [aj qL.eq_1]
  unfold Md
  have hov:ovE G=0∨ovE G=13:=by unfold ovE;split <;> simp
  rcases hov with c | c
  · rw [c] at ho ⊢
    simp (disch:=omega) [aj EF.eq_1,h3,h6,ho,hG,H.inl,ay,H.pp,ppB]
  · rw [c] at ho ⊢
    simp (disch:=omega) [aj EF.eq_1,h3,h6,ho,hG,H.inl,ay,H.pp,ppB]
 | succ n ih =>
  intro i hi G hG hGi
  have h1:i < x.length:=by omega
  obtain ⟨j,hj⟩:∃ j,j=a+i:=⟨_,rfl⟩
  have hj1:j < l.length:=by omega
  have hj2:j < G.length:=by omega
  have hji:(a:Int)+i=j:=by omega
  have hxi:=hx _ (List.getElem_mem h1)
  have hii:=yU H.toAq ks ke cap x[i] hxi hr false
  have hki:keyAt l j=l[j].i.k:=by unfold keyAt;rw [List.getElem?_eq_getElem hj1];rfl
  rw [← hj,drop_cons h1]
  simp only [aR,eIt,Bool.false_eq_true,if_false] at hii
  have hch:fE ks cap l j (x[i]::x.drop (i+1))=if fF ks.length x[i]=false then 6 else if l[j].i.k≠x[i].k then 9 else if gK (dG ks x[i].t).p x[i] cap≠0 then gK (dG ks x[i].t).p x[i] cap else fE ks cap l (j+1) (x.drop (i+1)):=by
   rw [fE,hki]
  by_cases c1:fF ks.length x[i]=true
  · have hfr:=xA H.toAq ks ke cap x[i] hxi (nD c1)
    have hrd:=akm hok c1 hxi.t.1
    have hE:itE ks cap x[i] false=if gK (dG ks x[i].t).p x[i] cap=0 then 0 else 14:=by unfold itE;simp [c1]
    rw [hE] at hii
    simp only [c1,Bool.true_eq_false,if_false] at hch
    by_cases c2:l[j].i.k=x[i].k
    · simp only [c2,ne_eq,not_true_eq_false,if_false] at hch
      rcases hrd with c3 | c3
      · rw [c3] at hii
        simp only [c3,not_true_eq_false,if_false] at hch
        rw [hch,List.map_cons,abr G j n _ _ hj2]
        have hbb:=hb _ (List.getElem_mem h1) c1
        have this:=ih (i+1) (by omega) (G.set j (fre ks x[i])) (by simpa using hG) (by
         intro y hy
         rcases List.mem_or_eq_of_mem_set hy with q | q
         · exact hGi y q
         · rw [q];exact ⟨hxi,hbb⟩)
        rw [show a+(i+1)=j+1 by omega] at this
        simp only [aR,eIt,aE,eEn,fre] at hfr
        generalize (if fE ks cap l (j+1) (x.drop (i+1))≠0 then AV.tup [.ro 6 [] true,.int .i64 (fE ks cap l (j+1) (x.drop (i+1)))] else Md (spl (G.set j (fre ks x[i])) (j+1) n ((x.drop (i+1)).map (fre ks))))=Z at *
        simp only [tK] at this ⊢;rw [aj qL.eq_1]
        simp [List.map_set,fre] at this
        simp (disch:=omega) [h1,hji,hj1,hj2,hG,c2,hii,hfr,aG,nS,H.inl,ay,H.pp,ppB,this]
      · rw [c3] at hii
        have hV:fE ks cap l j (x[i]::x.drop (i+1))=14:=by rw [hch,c3];simp
        rw [hV,if_pos (by simp)]
        simp only [tK];rw [aj qL.eq_1]
        simp (disch:=omega) [h1,hji,hj1,c2,hii,aG,nS,H.inl,ay,H.pp,ppB]
    · have hV:fE ks cap l j (x[i]::x.drop (i+1))=9:=by rw [hch,if_pos c2]
      rw [hV,if_pos (by simp)]
      have hE6:(if gK (dG ks x[i].t).p x[i] cap=0 then (0:Int) else 14)≠6:=by split <;> simp
      generalize (if gK (dG ks x[i].t).p x[i] cap=0 then (0:Int) else 14)=E0 at hii hE6
      simp only [tK];rw [aj qL.eq_1]
      simp (disch:=omega) [h1,hji,hj1,c2,hii,hE6,aG,nS,H.inl,ay,H.pp,ppB]
  · have c1':fF ks.length x[i]=false:=by simpa using c1
    have hV:fE ks cap l j (x[i]::x.drop (i+1))=6:=by rw [hch,if_pos c1']
    have hE:itE ks cap x[i] false=6:=by unfold itE;simp [c1']
    rw [hE] at hii
    rw [hV,if_pos (by simp)]
    simp only [tK];rw [aj qL.eq_1]
    simp (disch:=omega) [h1,hii,aG,nS,H.inl,ay,H.pp,ppB]
theorem Yx (H:aej C) (ks:List Kd) (ke:Bool) (cap:Int) (hr:kM ks) (hok:qQ ks cap=true) (l:List En) (e:Bool) (hl:l.length≤10000) (hs:∀ x ∈ l,eF x) (a:Nat) (x:List It) (xe:Bool) (hx:∀ y ∈ x,jv y) (hxl:a+x.length≤l.length)
 (hb:∀ y ∈ x,fF ks.length y=true→-9223372036854775808≤(dG ks y.t).b∧(dG ks y.t).b≤9223372036854775807):∀ n i,n+i=l.length→∀ G:List En,G=l.take i→G.length=i →
 EL C ⟨[(11,.int .i64 i),(10,.sl 0 6 0 G.length G.length false),(4,.ptr 1 0 0),(3,.ro 4 (x.map cIt) xe),(2,.int .i64 a),(1,.ro 6 (l.map eEn) e)],[(0,.cells 6 (G.map eEn) true true),(1,.cells 2 [[.ro 9 (ks.map eKd) ke,.int .i64 cap]] true true)],2⟩ =
  some (if fE ks cap l a x≠0 then .tup [.ro 6 [] true,.int .i64 (fE ks cap l a x)] else Md (spl l a x.length (x.map (fre ks)))):=by
 have h0:=ab3 H ks ke cap hr hok l e hl hs a x xe hx hxl hb x.length 0 (by simp) l rfl hs
 rw [List.drop_zero,Nat.add_zero] at h0
 generalize (if fE ks cap l a x≠0 then AV.tup [.ro 6 [] true,.int .i64 (fE ks cap l a x)] else Md (spl l a x.length (x.map (fre ks))))=Z at *
 intro n
 induction n with
 | zero =>
  intro i hi G hG hGl
  have hic:i=l.length:=by omega
  subst hic
  rw [List.take_length] at hG
  subst hG
  have h3:¬ G.length < G.length:=by omega
  simp only [tK] at h0
  simp at h0
  simp only [EL];rw [aj zW.eq_1]
  simp (disch:=omega) [aj LQ.eq_1,h3,h0,H.inl,ay,H.pp,ppB]
 | succ n ih =>
  intro i hi G hG hGl
  have h1:i < l.length:=by omega
  have hfit:(G.length+1) * 73≤35184372088832:=by omega
  have:=ih (i+1) (by omega) (G++[l[i]]) (by rw [List.take_add_one,List.getElem?_eq_getElem h1,hG];rfl) (by simp;omega)
  simp only [EL] at this ⊢;rw [aj zW.eq_1]
  simp at this
  simp (disch:=omega) [h1,hfit,aG,H.inl,ay,H.pp,ppB,this]
theorem Uf (H:aej C) (ks:List Kd) (ke:Bool) (cap:Int) (hr:kM ks) (hok:qQ ks cap=true) (l:List En) (e:Bool) (hl:l.length≤10000) (hs:∀ x ∈ l,eF x) (a:Int) (x:List It) (xe:Bool) (hx:∀ y ∈ x,jv y) (hxl:x.length≤10000)
 (hb:∀ y ∈ x,fF ks.length y=true→-9223372036854775808≤(dG ks y.t).b∧(dG ks y.t).b≤9223372036854775807) :
 FnW C 462 [aR ks ke cap,.ro 6 (l.map eEn) e,.int .i64 a,.ro 4 (x.map cIt) xe] =
  some (if inR a x.length l.length=false then .tup [.ro 6 [] true,.int .i64 4] else if fE ks cap l a.toNat x≠0 then .tup [.ro 6 [] true,.int .i64 (fE ks cap l a.toNat x)] else Md (spl l a.toNat x.length (x.map (fre ks)))):=by
 have hi:=xk H.tokC a x.length l.length (by omega)
 rw [aF H.amc rfl]
 cases c:inR a x.length l.length
 · rw [c] at hi
   simp at hi
   rw [if_pos rfl]
   simp (disch:=omega) [aa2,hi,H.inl,ay,H.pp,ppB]
 · rw [c] at hi
   simp at hi
   rw [if_neg (by simp)]
   unfold inR at c
   simp at c
   obtain ⟨a',rfl⟩:∃ a':Nat,a=a':=⟨a.toNat,by omega⟩
   have h:=Yx H ks ke cap hr hok l e hl hs a' x xe hx (by omega) hb l.length 0 (by simp) [] (by simp) rfl
   simp only [Int.toNat_natCast]
   generalize (if fE ks cap l a' x≠0 then AV.tup [.ro 6 [] true,.int .i64 (fE ks cap l a' x)] else Md (spl l a' x.length (x.map (fre ks))))=Z at *
   simp only [EL] at h
   simp at h
   simp (disch:=omega) [aa2,hi,h,H.inl,ay,H.pp,ppB]
def pK:List En→Nat→Int→List En
 | [],_,_=>[]
 | e::r,0,s=>⟨e.i,s,true⟩::r
 | e::r,j+1,s=>e::pK r j s
def mvR {α:Type} (R M:List α) (t i:Nat):List α:=if i≤t then (R.take t).drop i++M++R.drop t else R.drop i
theorem agu {α:Type} (R M:List α) (t:Nat):mvR R M t 0=spl R t 0 M:=by unfold mvR spl;simp
theorem ah7 {α:Type} (R M:List α) (t:Nat):mvR R M t t=M++R.drop t:=by
 unfold mvR;rw [if_pos (Nat.le_refl _),List.drop_eq_nil_of_le (by rw [List.length_take];omega)];simp
theorem yE {α:Type} (R M:List α) (t i:Nat) (h:t < i):mvR R M t i=R.drop i:=by unfold mvR;rw [if_neg (by omega)]
theorem aaP {α:Type} (R M:List α) (t i:Nat) (hi:i < R.length) (ht:i≠t) (htl:t≤R.length):mvR R M t i=R[i]::mvR R M t (i+1):=by
 by_cases c:i < t
 · unfold mvR
   rw [if_pos (by omega),if_pos (by omega)]
   have h:i < (R.take t).length:=by rw [List.length_take];omega
   rw [drop_cons h];simp
 · rw [yE _ _ _ _ (by omega),yE _ _ _ _ (by omega),drop_cons hi]
theorem Gn (H:kC C) (l:List En) (e:Bool) (a c t:Nat) (R:List En) (re:Bool) (hR:R.length≤1000000) (i:Nat) (hi:i≤R.length) (G:List En) (B:Nat) (hB:G.length+1≤B) (hBB:B≤300000000) (k:Int) (hk:i≠t∨c≤k)
 (Z:AV) (Y:List En→AV) (hY:∀ G:List En,G.length≤B→mV C ⟨[(13,.int .i64 ((i:Int)+1)),(12,.sl 0 6 0 G.length G.length false),(10,.ro 6 (R.map eEn) re),(3,.int .i64 t),(2,.int .i64 c),(1,.int .i64 a),(0,.ro 6 (l.map eEn) e)],[(0,.cells 6 (G.map eEn) true true)],1⟩=some (Y G))
 (hZ:Z=if i < R.length then Y (G++[R[i]?.getD ⟨⟨0,0,[],[],true⟩,0,false⟩]) else Y G) :
 tY C ⟨[(14,.int .i64 k),(13,.int .i64 i),(12,.sl 0 6 0 G.length G.length false),(10,.ro 6 (R.map eEn) re),(3,.int .i64 t),(2,.int .i64 c),(1,.int .i64 a),(0,.ro 6 (l.map eEn) e)],[(0,.cells 6 (G.map eEn) true true)],1⟩=some Z:=by
 have hfit:(G.length+1) * 73≤35184372088832:=by omega
 by_cases h1:i < R.length
 · have this:=hY (G++[R[i]]) (by simp;omega)
   have hz:Z=Y (G++[R[i]]):=by rw [hZ,if_pos h1];simp [h1]
   rw [hz]
   generalize Y (G++[R[i]])=Q at *
   simp only [mV] at this
   simp only [tY];rw [aj wF.eq_1]
   simp at this
   by_cases c1:i=t
   · have c2:¬ k < (c:Int):=by rcases hk with q | q;exact absurd c1 q;omega
     simp (disch:=omega) [aj wW.eq_1,aj vZ.eq_1,eq_true c1,c2,h1,hfit,aG,this]
   · simp (disch:=omega) [aj wW.eq_1,aj vZ.eq_1,c1,h1,hfit,aG,this]
 · have this:=hY G (by omega)
   have hz:Z=Y G:=by rw [hZ,if_neg h1]
   rw [hz]
   generalize Y G=Q at *
   simp only [mV] at this
   simp only [tY];rw [aj wF.eq_1]
   try simp at this
   by_cases c1:i=t
   · have c2:¬ k < (c:Int):=by rcases hk with q | q;exact absurd c1 q;omega
     simp (disch:=omega) [aj wW.eq_1,aj vZ.eq_1,eq_true c1,c2,h1,aG,this]
   · simp (disch:=omega) [aj wW.eq_1,aj vZ.eq_1,c1,h1,aG,this]
theorem aaX (H:kC C) (l:List En) (e:Bool) (hl:l.length≤1000000) (a c t:Nat) (hac:a+c≤l.length) (R:List En) (re:Bool) (hR:R.length≤1000000) (ht:t≤R.length) (B:Nat) (hBB:B≤300000000)
 (Y:List En→AV) (hY:∀ G:List En,G.length≤B→mV C ⟨[(13,.int .i64 ((t:Int)+1)),(12,.sl 0 6 0 G.length G.length false),(10,.ro 6 (R.map eEn) re),(3,.int .i64 t),(2,.int .i64 c),(1,.int .i64 a),(0,.ro 6 (l.map eEn) e)],[(0,.cells 6 (G.map eEn) true true)],1⟩=some (Y G)) :
 ∀ n k,n+k=c→∀ G:List En,G.length+n+1≤B →
 tY C ⟨[(14,.int .i64 k),(13,.int .i64 t),(12,.sl 0 6 0 G.length G.length false),(10,.ro 6 (R.map eEn) re),(3,.int .i64 t),(2,.int .i64 c),(1,.int .i64 a),(0,.ro 6 (l.map eEn) e)],[(0,.cells 6 (G.map eEn) true true)],1⟩ =
  some (if t < R.length then Y (G++((l.take (a+c)).drop a).drop k++[R[t]?.getD ⟨⟨0,0,[],[],true⟩,0,false⟩]) else Y (G++((l.take (a+c)).drop a).drop k)):=by
 intro n
 induction n with
 | zero =>
  intro k hk G hG
  have h1:((l.take (a+c)).drop a).drop k=[]:=List.drop_eq_nil_of_le (by simp;omega)
  refine Gn H l e a c t R re hR t ht G B (by omega) hBB k (.inr (by omega)) _ Y hY ?_
  rw [h1,List.append_nil]
 | succ n ih =>
  intro k hk G hG
  obtain ⟨j,hj⟩:∃ j:Nat,j=a+k:=⟨_,rfl⟩
  have h1:j < l.length:=by omega
  have h2:k < c:=by omega
  have hfit:(G.length+1) * 73≤35184372088832:=by omega
  have hd:((l.take (a+c)).drop a).drop k=l[j]::((l.take (a+c)).drop a).drop (k+1):=by
   rw [drop_cons (show k < ((l.take (a+c)).drop a).length by simp;omega)]
   subst hj
   simp
  have this:=ih (k+1) (by omega) (G++[l[j]]) (by simp;omega)
  rw [hd]
  have hA:∀ X:List En,G++l[j]::X=G++[l[j]]++X:=fun X=>by simp
  rw [hA]
  generalize (if t < R.length then Y (G++[l[j]]++((l.take (a+c)).drop a).drop (k+1)++[R[t]?.getD ⟨⟨0,0,[],[],true⟩,0,false⟩]) else Y (G++[l[j]]++((l.take (a+c)).drop a).drop (k+1)))=Q at *
  have hj2:(a:Int)+(k:Int)=j:=by omega
  simp only [tY] at this ⊢;rw [aj wF.eq_1]
  simp at this
  simp (disch:=omega) [h1,h2,hj2,hfit,aG,this]
theorem RY (H:kC C) (l:List En) (e:Bool) (hl:l.length≤10000) (a c t:Nat) (hac:a+c≤l.length) (R:List En) (re:Bool) (hR:R.length≤10000) (ht:t≤R.length):∀ n i,n+i=R.length+1→∀ G:List En,G.length≤20000 * (i+1) →
 mV C ⟨[(13,.int .i64 i),(12,.sl 0 6 0 G.length G.length false),(10,.ro 6 (R.map eEn) re),(3,.int .i64 t),(2,.int .i64 c),(1,.int .i64 a),(0,.ro 6 (l.map eEn) e)],[(0,.cells 6 (G.map eEn) true true)],1⟩ =
  some (.tup [.ro 6 ((G++mvR R ((l.take (a+c)).drop a) t i).map eEn) false,.int .i64 0]):=by
 intro n
 induction n with
 | zero =>
  intro i hi G hG
  have h3:¬ i≤R.length:=by omega
  rw [yE _ _ _ _ (by omega),List.drop_eq_nil_of_le (by omega),List.append_nil]
  simp only [mV];rw [aj yL.eq_1]
  cases G with
  | nil=>simp [aj Bj.eq_1,h3]
  | cons g G=>simp (disch:=(first | omega | (simp;done) | (simp;omega))) [aj Bj.eq_1,h3,List.take_of_length_le]
 | succ n ih =>
  intro i hi G hG
  have h1:i≤R.length:=by omega
  have hY:∀ G':List En,G'.length≤20000 * (i+2)→mV C ⟨[(13,.int .i64 ((i:Int)+1)),(12,.sl 0 6 0 G'.length G'.length false),(10,.ro 6 (R.map eEn) re),(3,.int .i64 t),(2,.int .i64 c),(1,.int .i64 a),(0,.ro 6 (l.map eEn) e)],[(0,.cells 6 (G'.map eEn) true true)],1⟩ =
   some ((fun G'=>AV.tup [.ro 6 ((G'++mvR R ((l.take (a+c)).drop a) t (i+1)).map eEn) false,.int .i64 0]) G'):=fun G' q=>by
   have:=ih (i+1) (by omega) G' (by omega)
   simpa using this
  have key:∀ Z,tY C ⟨[(14,.int .i64 0),(13,.int .i64 i),(12,.sl 0 6 0 G.length G.length false),(10,.ro 6 (R.map eEn) re),(3,.int .i64 t),(2,.int .i64 c),(1,.int .i64 a),(0,.ro 6 (l.map eEn) e)],[(0,.cells 6 (G.map eEn) true true)],1⟩=some Z →
   mV C ⟨[(13,.int .i64 i),(12,.sl 0 6 0 G.length G.length false),(10,.ro 6 (R.map eEn) re),(3,.int .i64 t),(2,.int .i64 c),(1,.int .i64 a),(0,.ro 6 (l.map eEn) e)],[(0,.cells 6 (G.map eEn) true true)],1⟩=some Z:=fun Z this=>by
   simp only [tY] at this
   simp only [mV];rw [aj yL.eq_1]
   simp (disch:=omega) [h1,aG,this]
  refine key _ ?_
  by_cases c1:i=t
  · subst c1
    have:=aaX H l e (by omega) a c i hac R re (by omega) ht (20000 * (i+2)) (by omega) _ hY c 0 (by simp) G (by omega)
    rw [List.drop_zero] at this
    refine this.trans ?_
    rw [ah7]
    by_cases h2:i < R.length
    · rw [if_pos h2,yE _ _ _ _ (by omega),drop_cons h2];simp [h2]
    · rw [if_neg h2,yE _ _ _ _ (by omega),List.drop_eq_nil_of_le (show R.length≤i+1 by omega),List.drop_eq_nil_of_le (show R.length≤i by omega)];simp
  · refine Gn H l e a c t R re (by omega) i h1 G (20000 * (i+2)) (by omega) (by omega) 0 (.inl c1) _ _ hY ?_
    by_cases h2:i < R.length
    · rw [if_pos h2,aaP _ _ _ _ h2 c1 ht];simp [h2]
    · rw [if_neg h2,yE _ _ _ _ (by omega),yE _ _ _ _ (by omega),List.drop_eq_nil_of_le (show R.length≤i+1 by omega),List.drop_eq_nil_of_le (show R.length≤i by omega)]
theorem abh (H:ae5 C) (l:List En) (e:Bool) (hl:l.length≤10000) (a c t:Int) :
 FnW C 242 [.ro 6 (l.map eEn) e,.int .i64 a,.int .i64 c,.int .i64 t]=some (if (inR a c l.length&&inR t 0 (l.length - c))=true then .tup [.ro 6 ((spl (spl l a.toNat c.toNat []) t.toNat 0 ((l.take (a.toNat+c.toNat)).drop a.toNat)).map eEn) false,.int .i64 0] else .tup [.ro 6 [] true,.int .i64 4]):=by
 have hw:=xk H.tokC a c l.length (by omega)
 have hrm:=FY H l e (by omega) a c
 rw [aF H.f242 rfl]
 cases c1:inR a c l.length
 · rw [c1] at hw
   simp at hw
   simp [WM,hw,H.inl,ay,H.pp,ppB]
 · have hq:=c1
   unfold inR at hq
   simp at hq
   rw [c1] at hw hrm
   simp at hw
   have hw2:=xk H.tokC t 0 (l.length - c) (by omega)
   cases c2:inR t 0 (l.length - c)
   · rw [c2] at hw2
     simp at hw2
     simp (disch:=omega) [WM,aG,hw,hw2,H.inl,ay,H.pp,ppB]
   · have hq2:=c2
     unfold inR at hq2
     simp at hq2
     rw [c2] at hw2
     simp at hw2
     obtain ⟨a',rfl⟩:∃ a':Nat,a=a':=⟨a.toNat,by omega⟩
     obtain ⟨c',rfl⟩:∃ c':Nat,c=c':=⟨c.toNat,by omega⟩
     obtain ⟨t',rfl⟩:∃ t':Nat,t=t':=⟨t.toNat,by omega⟩
     have hlen:=uo l [] a' c' (by omega)
     simp only [Int.toNat_natCast] at hrm ⊢
     simp at hlen
     have h:=RY H.tokC l e hl a' c' t' (by omega) (spl l a' c' []) false (by omega) (by omega) ((spl l a' c' []).length+1) 0 (by simp) [] (by simp)
     rw [List.nil_append,agu] at h
     generalize spl (spl l a' c' []) t' 0 ((l.take (a'+c')).drop a')=F at *
     generalize spl l a' c' []=R at *
     simp only [mV] at h
     simp at h hrm
     simp (disch:=omega) [WM,aG,hw,hw2,hrm,h,H.inl,ay,H.pp,ppB]
structure abg (C:aI):Prop extends H6 C,aej C,ae5 C
theorem Zz (o:List En):ovE o=0∨ovE o=13:=by unfold ovE;split <;> simp
theorem ade (o:List En):rfO o=Md o:=by
 unfold rfO Md
 rcases Zz o with h | h <;> simp [h]
def smx:List En→Int
 | []=>0
 | e::r=>imax e.s 0+smx r
theorem KW (a:Int):0≤imax a 0:=by unfold imax;split <;> omega
theorem aci:∀ l:List En,0≤smx l
 | []=>Int.le_refl _
 | e::r=>by have h1:=aci r;have h2:=KW e.s;rw [smx];omega
theorem Qm:∀ (l:List En) (s:Int),s≤4611686018427387904→(4611686018427387904 < pJ s l↔4611686018427387904 < s+smx l)
 | [],s,_=>by rw [pJ,smx,Int.add_zero]
 | e::r,s,h=>by
  rw [pJ,smx]
  have h1:=aci r
  have h2:=KW e.s
  split
  · constructor <;> intro <;> omega
  · rw [Qm r _ (by omega),Int.add_assoc]
theorem NU (l:List En):ovE l=0↔smx l≤4611686018427387904:=by
 unfold ovE tot
 have h:=Qm l 0 (by omega)
 rw [Int.zero_add] at h
 by_cases c:4611686018427387904 < pJ 0 l
 · rw [if_pos c]
   have:=h.1 c
   constructor
   · intro h;simp at h
   · intro h;omega
 · rw [if_neg c]
   constructor
   · intro _
     exact Int.not_lt.1 fun h'=>c (h.2 h')
   · intro _;rfl
theorem adS {l m:List En} (h:m.Sublist l):smx m≤smx l:=by
 induction h with
 | slnil=>exact Int.le_refl _
 | cons a _ ih=>have:=KW a.s;rw [smx];omega
 | cons_cons a _ ih=>rw [smx,smx];omega
theorem Y9 {l m:List En} (h:m.Perm l):smx m=smx l:=by
 induction h with
 | nil=>rfl
 | cons a _ ih=>rw [smx,smx,ih]
 | swap a b l=>simp only [smx];omega
 | trans _ _ h1 h2=>rw [h1,h2]
def rfE (E:Int):AV:=.tup [.ro 6 [] true,.int .i64 E]
theorem amf (F:Int) (X:List En):(if F≠0 then rfE F else rfO X)=if (if F≠0 then F else ovE X)≠0 then rfE (if F≠0 then F else ovE X) else .tup [.ro 6 (X.map eEn) false,.int .i64 0]:=by
 by_cases h:F=0
 · rw [if_neg (by simp [h]),if_neg (c:=F≠0) (by simp [h])]
   unfold rfO
   rcases Zz X with h | h <;> rw [h] <;> rfl
 · rw [if_pos h,if_pos (c:=F≠0) h,if_pos h]
theorem Uk (H:abg C) (ks:List Kd) (ke:Bool) (cap:Int) (hr:kM ks) (l:List En) (e:Bool) (hs:∀ x ∈ l,eF x) (hc:ckE ks cap l=0) (n:Nt) (hn:yc ks n) :
 FnW C 342 [aR ks ke cap,.ro 6 (l.map eEn) e,.agg (eNt n)]=some (if apE ks cap l n≠0 then rfE (apE ks cap l n) else .tup [.ro 6 ((apL ks l n).map eEn) false,.int .i64 0]):=by
 obtain ⟨hru,hll,_,_,hov⟩:=(jM ks cap l).1 hc
 have hl2:=hn.l
 by_cases hE:ntE n=0
 · have key:FnW C (rtF n) (rtA (aR ks ke cap) (.ro 6 (l.map eEn) e) n)=some (if apE ks cap l n≠0 then rfE (apE ks cap l n) else .tup [.ro 6 ((apL ks l n).map eEn) false,.int .i64 0]):=by
    have hr5:1≤n.k∧n.k≤5:=by
     unfold ntE at hE
     split at hE
     · cases hE
     · omega
    have hA:apE ks cap l n=if apF ks cap l n≠0 then apF ks cap l n else ovE (apL ks l n):=by unfold apE;rw [if_neg (by rw [hE];simp)]
    rw [hA,← amf]
    have hins:=OD H.toH6 ks ke cap hr l e hll hs n hn
    have hres:=aeD H.toH6 ks ke cap hr n hn
    obtain ⟨k,a,c,t,x,xe⟩:=n
    simp only at hr5 hl2 hins hres
    have h5:k=1∨k=2∨k=3∨k=4∨k=5:=by omega
    rcases h5 with rfl | rfl | rfl | rfl | rfl
    · have h3:apL ks l ⟨1,a,c,t,x,xe⟩=spl l a.toNat 0 (x.map (fre ks)):=rfl
      have h4:apF ks cap l ⟨1,a,c,t,x,xe⟩=if inR a 0 l.length=false then 4 else if 1024 < (l.length:Int)+x.length then 3 else dB ks cap (bF l) x:=rfl
      refine hins.trans ?_
      rw [h3,h4]
      by_cases c1:inR a 0 l.length=false
      · rw [if_pos c1,if_pos c1];rfl
      · rw [if_neg c1,if_neg c1]
        by_cases c2:1024 < (l.length:Int)+x.length
        · rw [if_pos c2,if_pos c2];rfl
        · rw [if_neg c2,if_neg c2];rfl
    · have h3:apL ks l ⟨2,a,c,t,x,xe⟩=spl l a.toNat c.toNat []:=rfl
      have h4:apF ks cap l ⟨2,a,c,t,x,xe⟩=if inR a c l.length=false then 4 else 0:=rfl
      refine (FY H.toae5 l e (by omega) a c).trans ?_
      rw [h3,h4]
      by_cases c1:inR a c l.length=false
      · rw [if_neg (by simp [c1]),if_pos c1];rfl
      · have c1':inR a c l.length=true:=by simpa using c1
        have ho:ovE (spl l a.toNat c.toNat [])=0:=(NU _).2 (Int.le_trans (adS (Np _ _ _)) ((NU _).1 hov))
        rw [if_pos c1',if_neg c1,if_neg (by simp)]
        unfold rfO
        rw [ho,if_neg (by simp)]
    · have h3:apL ks l ⟨3,a,c,t,x,xe⟩=spl (spl l a.toNat c.toNat []) t.toNat 0 ((l.take (a.toNat+c.toNat)).drop a.toNat):=rfl
      have h4:apF ks cap l ⟨3,a,c,t,x,xe⟩=if (inR a c l.length&&inR t 0 (l.length - c))=false then 4 else 0:=rfl
      refine (abh H.toae5 l e (by omega) a c t).trans ?_
      rw [h3,h4]
      by_cases c1:(inR a c l.length&&inR t 0 (l.length - c))=false
      · rw [if_neg (by simp [c1]),if_pos c1];rfl
      · have c1':(inR a c l.length&&inR t 0 (l.length - c))=true:=by simpa using c1
        have ho:ovE (spl (spl l a.toNat c.toNat []) t.toNat 0 ((l.take (a.toNat+c.toNat)).drop a.toNat))=0:=(NU _).2 (by rw [Y9 (GU _ _ _ _)];exact (NU _).1 hov)
        rw [if_pos c1',if_neg c1,if_neg (by simp)]
        unfold rfO
        rw [ho,if_neg (by simp)]
    · have h3:apL ks l ⟨4,a,c,t,x,xe⟩=spl l a.toNat x.length (x.map (fre ks)):=rfl
      have h4:apF ks cap l ⟨4,a,c,t,x,xe⟩=if inR a x.length l.length=false then 4 else fE ks cap l a.toNat x:=rfl
      refine (Uf H.toaej ks ke cap hr hru l e (by omega) hs a x xe hn.x hn.l hn.b).trans ?_
      rw [h3,h4,ade]
      by_cases c1:inR a x.length l.length=false
      · rw [if_pos c1,if_pos c1];rfl
      · rw [if_neg c1,if_neg c1];rfl
    · have h3:apL ks l ⟨5,a,c,t,x,xe⟩=x.map (fre ks):=rfl
      have h4:apF ks cap l ⟨5,a,c,t,x,xe⟩=if 1024 < (x.length:Int) then 3 else dB ks cap [] x:=rfl
      refine hres.trans ?_
      rw [h3,h4]
      by_cases c1:1024 < (x.length:Int)
      · rw [if_pos c1,if_pos c1];rfl
      · rw [if_neg c1,if_neg c1];rfl
   generalize apE ks cap l n=E at *
   by_cases hE2:E=0
   · subst hE2
     simp only [ne_eq,not_true_eq_false,if_false] at key ⊢
     exact Ia H.toQd ks ke cap l e n (by omega) hE _ _ _ key
   · rw [if_pos hE2] at key ⊢
     exact Ia H.toQd ks ke cap l e n (by omega) hE _ _ _ key
 · have hA:apE ks cap l n=ntE n:=by unfold apE;rw [if_pos hE]
   rw [hA,if_pos hE]
   exact PL H.toQd ks ke cap l e n (by omega) hE
end Go.D
end
section
namespace Go.D
open Go Go.Pav Go.Pw P
set_option maxHeartbeats 1000000
attribute [-simp] List.getElem_cons_drop
variable {C:aI}
structure yt (C:aI):Prop extends o8 C where
 f318:C.fns.get 318=some Oc
 f322:C.fns.get 322=some agd
 f323:C.fns.get 323=some af6
 f313:C.fns.get 313=some adF
 f161:C.fns.get 161=some acz
 f160:C.fns.get 160=some YP
 f321:C.fns.get 321=some Tc
 f256:C.fns.get 256=some afq
abbrev aA (k d:Int):AV:=.agg [.int .u64 k,.int .i64 d]
def anE (k d:Int):Int:=if d < 0∨2305843009213693952 < d∨(k=0∧0 < d) then 1 else 0
theorem yB (H:yt C) (k d:Int):FnW C 318 [aA k d]=some (.int .i64 (anE k d)):=by
 rw [aF H.f318 rfl]
 unfold anE
 by_cases c1:d < 0
 · simp (disch:=omega) [Oc,c1,aG,H.inl,ay,H.pp,ppB]
 · by_cases c2:2305843009213693952 < d
   · simp (disch:=omega) [Oc,c1,c2,aG,H.inl,ay,H.pp,ppB]
   · by_cases c3:k=0
     · by_cases c4:0 < d
       · simp (disch:=omega) [Oc,c1,c2,c3,c4,aG,H.inl,ay,H.pp,ppB]
       · simp (disch:=omega) [Oc,c1,c2,c3,c4,aG,H.inl,ay,H.pp,ppB]
     · simp (disch:=omega) [Oc,c1,c2,c3,aG,H.inl,ay,H.pp,ppB]
def clF (l:List En) (v x:Int):Int:=if iP l v < x then iP l v else if x < 0 then 0 else x
def Bc (l:List En) (v k d:Int):Int:=if k=0 then 0 else clF l v (top l (fZ k 0 l).toNat+d)
theorem Szd.b {l:List En} (hz:Szd l):SzB l:=fun x hx=>by have:=hz.s x hx;omega
theorem Szd.ar6 {l:List En} (hz:Szd l):0≤sm l∧sm l≤4611686018427387904:=⟨hz.nn,hz.t⟩
theorem Jr (H:yt C) (l:List En) (e:Bool) (hz:Szd l) (v:Int) (hv:1≤v∧v≤2147483648):FnW C 322 [aL l e,.int .i64 v]=some (.int .i64 0):=by
 have h1:=Bf H.too8 l e (by have:=hz.n;omega) hz.b
 rw [Ny hz] at h1
 have v1:¬ v < 1:=by omega
 have v2:¬ 2147483648 < v:=by omega
 rw [aF H.f322 rfl]
 simp only [aL] at h1
 simp (disch:=omega) [agd,aL,h1,v1,v2,aG,H.inl,ay,H.pp,ppB]
theorem WT (H:yt C) (l:List En) (e:Bool) (hz:Szd l) (v:Int) (hv:1≤v∧v≤2147483648) (x:Int):FnW C 313 [aL l e,.int .i64 v,.int .i64 x]=some (.tup [.int .i64 (clF l v x),.int .i64 0]):=by
 have h1:=Jr H l e hz v hv
 have h2:=yP H.tokC l e (by have:=hz.n;omega) hz.b
 rw [hz.tot] at h2
 have h3:=hz.ar6
 rw [aF H.f313 rfl]
 simp only [aL] at h1 h2
 have hcl:clF l v x=imax 0 (ru x (sm l - v)):=by
  unfold clF iP imax ru
  repeat' split
  all_goals omega
 rw [hcl]
 simp (disch:=omega) [adF,aL,h1,h2,aG,H.inl,ay,H.pp,ppB]
structure PG (l:List En) (k d:Int):Prop where
 k0:0≤k
 d0:0≤d∧d≤2305843009213693952
 z:k=0→d=0
 f:k≠0→0≤fZ k 0 l
theorem PG.e {l:List En} {k d:Int} (h:PG l k d):anE k d=0:=by
 have:=h.d0
 unfold anE
 rw [if_neg]
 rintro (q | q | ⟨q,r⟩)
 · omega
 · omega
 · have:=h.z q;omega
theorem ael (k:Int):∀ (l:List En) (i:Nat),0≤fZ k i l→∃ j:Nat,fZ k i l=((i+j:Nat):Int)∧j < l.length:=by
 intro l
 induction l with
 | nil=>intro i h;exact absurd h (by simp [fZ])
 | cons a r ih =>
  intro i h
  rw [fZ] at h ⊢
  split
  · exact ⟨0,by simp,by simp⟩
  · rename_i c
    rw [if_neg c] at h
    obtain ⟨j,h1,h2⟩:=ih (i+1) h
    exact ⟨j+1,by rw [h1];congr 1;omega,by simpa using h2⟩
theorem VF (H:yt C) (l:List En) (e:Bool) (hz:Szd l) (k:Int) (hf:0≤fZ k 0 l):FnW C 323 [aL l e,.int .u64 k]=some (.tup [.int .i64 (top l (fZ k 0 l).toNat),.bool true]):=by
 have h1:=find_ok H.tokC l e k (by have:=hz.n;omega)
 have h2:=DY H.too8 l e hz
 obtain ⟨j,q1,q2⟩:=ael k l 0 hf
 rw [Nat.zero_add] at q1
 rw [q1] at h1 ⊢
 have q3:imax (j:Int) 0=j:=by unfold imax;split <;> omega
 rw [q3] at h1
 have q4:(0:Int)≤j:=by omega
 have q5:j < (tps l).length:=by rw [nZ];omega
 have q6:=Ei l q5
 have hn:=nZ l
 rw [aF H.f323 rfl]
 simp only [aL,decide_eq_true q4] at h1 h2
 rw [show ((j:Int)).toNat=j from rfl]
 simp (disch:=omega) [af6,aL,h1,h2,q5,q6,aG,H.inl,ay,H.pp,ppB]
theorem Jy (H:yt C) (l:List En) (e:Bool) (hz:Szd l) (v:Int) (hv:1≤v∧v≤2147483648) (k d:Int) (ha:PG l k d):FnW C 161 [aL l e,.int .i64 v,aA k d]=some (.tup [.int .i64 (Bc l v k d),.int .i64 0]):=by
 have h1:=Jr H l e hz v hv
 have h2:=yB H k d
 rw [ha.e] at h2
 rw [aF H.f161 rfl]
 unfold Bc
 simp only [aL,aA] at h1 h2
 by_cases c:k=0
 · rw [if_pos c]
   subst c
   simp (disch:=omega) [acz,aL,aA,h1,h2,aG,H.inl,ay,H.pp,ppB]
 · rw [if_neg c]
   have h3:=VF H l e hz k (ha.f c)
   have h4:=hz.rng (fZ k 0 l).toNat
   have h6:=ha.d0
   have h7:=hz.t
   have h5:=WT H l e hz v hv (top l (fZ k 0 l).toNat+d)
   simp only [aL] at h3 h5
   simp (disch:=omega) [acz,aL,aA,h1,h2,h3,h5,c,aG,H.inl,ay,H.pp,ppB]
theorem aeG {l:List En} (hz:Szd l) {v:Int} (x:Int):0≤clF l v x∧clF l v x≤iP l v:=by
 have h0:0≤iP l v:=by unfold iP;split <;> omega
 unfold clF
 split
 · omega
 · split <;> omega
theorem aiD (H:yt C) (l:List En) (e:Bool) (hz:Szd l) (s:Int) (p:Nat) (hp:p < l.length) (h1:top l p≤s) (h2:s < top l (p+1)) :
 FnW C 160 [aL l e,.int .i64 s]=some (.tup [aA l[p].i.k (s - top l p),.int .i64 0]):=by
 have hn:=hz.n
 have t1:=hz.rng p
 have t2:=hz.rng (p+1)
 have t3:=hz.t
 have g1:=DY H.too8 l e hz
 have g2:=yP H.too8.tokC l e (by omega) hz.b
 rw [hz.tot] at g2
 have g3:=akT H.too8 l e (by omega) hz.b s
 unfold atR at g3
 rw [Ny hz,if_neg (by simp),if_neg (by omega),hz.Uo hp h1 h2] at g3
 have q5:p < (tps l).length:=by rw [nZ];omega
 have q6:=Ei l q5
 have c1:¬ s < 0:=by omega
 have c2:¬ (imax 0 (sm l - 1) < s):=by unfold imax;split <;> omega
 have c3:¬ l.length=0:=by omega
 have c4:¬ l=[]:=by intro q;rw [q] at hp;simp at hp
 simp only [aL,aA] at g1 g2 g3 ⊢
 rw [aF H.f160 rfl]
 simp (disch:=omega) [YP,g1,g2,g3,q5,q6,c1,c2,c3,c4,hp,aG,H.inl,ay,H.pp,ppB]
theorem afD (H:yt C) (e:Bool):FnW C 160 [aL [] e,.int .i64 0]=some (.tup [aA 0 0,.int .i64 0]):=by
 have hz:Szd []:=⟨by simp,by simp,by simp [sm]⟩
 have g1:=DY H.too8 [] e hz
 have g2:=yP H.too8.tokC [] e (by simp) hz.b
 rw [hz.tot] at g2
 simp [aL,sm] at g1 g2
 simp only [aL,aA]
 rw [aF H.f160 rfl]
 simp (disch:=omega) [YP,g1,g2,imax,aG,H.inl,ay,H.pp,ppB]
theorem V4 (H:yt C) (l:List En) (e:Bool) (hz:Szd l) (s k d:Int) (hs:0≤s∧s≤4611686018427387904) (ha:PG l k d) :
 FnW C 321 [aL l e,.int .i64 s,aA k d]=some (.bool (decide (k=0)||(decide (top l (fZ k 0 l).toNat≤s)&&decide (s - top l (fZ k 0 l).toNat=d)))):=by
 have h1:=Bf H.too8 l e (by have:=hz.n;omega) hz.b
 rw [Ny hz] at h1
 simp only [aL,aA] at h1 ⊢
 rw [aF H.f321 rfl]
 by_cases c:k=0
 · subst c
   simp (disch:=omega) [Tc,h1,aG,H.inl,ay,H.pp,ppB]
 · have h3:=VF H l e hz k (ha.f c)
   have h4:=hz.rng (fZ k 0 l).toNat
   have h5:=hz.t
   simp only [aL] at h3
   generalize top l (fZ k 0 l).toNat=t at *
   by_cases c1:t≤s
   · by_cases c2:s - t=d
     · simp (disch:=omega) [Tc,h1,h3,c,c1,eq_true c2,aG,H.inl,ay,H.pp,ppB]
     · simp (disch:=omega) [Tc,h1,h3,c,c1,c2,aG,H.inl,ay,H.pp,ppB]
   · simp (disch:=omega) [Tc,h1,h3,c,c1,aG,H.inl,ay,H.pp,ppB]
theorem aaj:∀ (l:List En),(∀ x ∈ l,1≤x.s∧x.s≤40)→sm l≤40 * l.length
 | [],_=>by simp [sm]
 | e::r,h=>by
  have h1:=h e (by simp)
  have h2:=aaj r fun x hx=>h x (by simp [hx])
  rw [sm];simp only [List.length_cons];omega
theorem V8 {ks:List Kd} {l:List En} (hl:l.length≤12) (hg:∀ e ∈ l,ng ks e):Szd l:=by
 have:=aaj l fun x hx=>(hg x hx).s
 exact ⟨by omega,fun x hx=>by have:=(hg x hx).s;omega,by omega⟩
theorem adn (H:yt C) (l:List En) (e:Bool) (hz:Szd l) (a b:Int) (ha:0≤a∧a≤255) (hb:0≤b∧b≤65535):∃ o v:Int,FnW C 256 [.agg [.int .u8 a,.int .u16 b],aL l e]=some (.tup [.int .i64 o,.int .i64 v])∧Vp l o v:=by
 have hn:=hz.n
 have ht:=hz.t
 have hnn:=hz.nn
 have h1:a.tmod 200=a % 200:=Int.tmod_eq_emod_of_nonneg ha.1
 have h2:0≤a % 200∧a % 200 < 200:=⟨Int.emod_nonneg _ (by omega),Int.emod_lt_of_pos _ (by omega)⟩
 obtain ⟨v,hv⟩:∃ v,v=1+a % 200:=⟨_,rfl⟩
 have hv2:1+a % 200=v:=hv.symm
 have hm:=Qs H.too8 l e hz v (by omega)
 have hm0:0≤iP l v∧iP l v≤4611686018427387904:=by unfold iP;split <;> omega
 generalize hM:iP l v=M at *
 have h3:b.tmod (M+1)=b % (M+1):=Int.tmod_eq_emod_of_nonneg hb.1
 have h4:0≤b % (M+1)∧b % (M+1) < M+1:=⟨Int.emod_nonneg _ (by omega),Int.emod_lt_of_pos _ (by omega)⟩
 have h5:¬ M+1=0:=by omega
 refine ⟨b % (M+1),v,?_,⟨hz,by omega,by rw [hM];omega⟩⟩
 rw [aF H.f256 rfl]
 simp (disch:=omega) [afq,h1,hv2,hm,h3,h5,aG,H.inl,ay,H.pp,ppB]
theorem akg {ks:List Kd} {cap:Int} {l:List En} (h:ckE ks cap l=0):Szd l:=by
 obtain ⟨_,h1,h2,_,h3⟩:=(jM ks cap l).1 h
 refine aaD ?_
 unfold szE
 rw [if_neg (by omega),if_neg,h3]
 rw [Bool.not_eq_true,List.any_eq_false]
 intro x hx
 have q:=h2 x hx
 unfold enE at q
 split at q
 · rename_i c;exact absurd q c
 · split at q
   · rename_i c;simp [c.1]
   · exact absurd q (by decide)
theorem abR {ks:List Kd} {cap:Int} {l:List En} (h:ckE ks cap l=0) (hin:∀ x ∈ l,eF x):∀ x ∈ l,1≤x.i.k:=by
 intro x hx
 have hk:=(hin x hx).i.k
 have q:=((jM ks cap l).1 h).2.2.1 x hx
 unfold enE at q
 split at q
 · rename_i c;exact absurd q c
 · rename_i c
   have:=Ig (show itE ks cap x.i false=0 by omega)
   unfold fF at this
   simp at this
   omega
end Go.D
end
section
namespace Go.D
open Go Go.Pav Go.Pw P
def iR (l:List En):List Int:=l.map fun e=>e.i.k
theorem yZ (k:Int):∀ (l:List En) (i:Nat),hasK (iR l) k=decide (0≤fZ k i l)
 | [],i=>by simp [iR,hasK,fZ]
 | e::r,i=>by
  have ih:=yZ k r (i+1)
  simp only [iR,hasK] at ih
  simp only [iR,hasK,List.map_cons,List.any_cons,fZ,ih]
  by_cases h:e.i.k=k
  · simp [h]
  · simp [h]
theorem YN {l:List Int} {k:Int} (h:hasK l k=true):k ∈ l:=by
 unfold hasK at h
 obtain ⟨x,hx,e⟩:=List.any_eq_true.1 h
 rw [← of_decide_eq_true e]
 exact hx
theorem H9 {N:List En} (hk:∀ x ∈ N,1≤x.i.k):PG N (pF (iR N)) 0:=by
 cases N with
 | nil=>exact ⟨by simp [iR,pF],by omega,fun _=>rfl,fun h=>absurd (by simp [iR,pF]) h⟩
 | cons x r =>
  have:=hk x (by simp)
  exact ⟨by simp [iR,pF];omega,by omega,fun _=>rfl,fun _=>by simp [iR,pF,fZ]⟩
theorem aiJ {N:List En} (hk:∀ x ∈ N,1≤x.i.k) (kb:List Int) {k d:Int} (h0:0≤k) (hd:0≤d∧d≤2305843009213693952) (hz:k=0→d=0) :
 PG N (uZ kb (iR N) k d).1 (uZ kb (iR N) k d).2:=by
 unfold uZ
 split
 · exact H9 hk
 · split
   · rename_i h1 h2
     exact ⟨h0,hd,hz,fun _=>of_decide_eq_true ((yZ k N 0).symm.trans h2)⟩
   · split
     · exact H9 hk
     · split
       · rename_i x hx
         have h3:hasK (iR N) x=true:=List.find?_some hx
         obtain ⟨e,he,rfl⟩:=List.mem_map.1 (YN h3)
         have:=hk e he
         exact ⟨by simp only;omega,by simp,fun _=>rfl,fun _=>of_decide_eq_true ((yZ _ N 0).symm.trans h3)⟩
       · exact H9 hk
theorem Zp {N:List En} (kb:List Int) {k d:Int} (h0:k≠0) (h:0≤fZ k 0 N):uZ kb (iR N) k d=(k,d):=by
 unfold uZ
 rw [if_neg h0,if_pos (by rw [yZ k N 0];exact decide_eq_true h)]
def WG (l:List En) (s k d:Int):Bool:=decide (k=0)||(decide (top l (fZ k 0 l).toNat≤s)&&decide (s - top l (fZ k 0 l).toNat=d))
theorem af7 {l:List En} (hz:Szd l) (v k d:Int):0≤Bc l v k d∧Bc l v k d≤iP l v:=by
 unfold Bc
 split
 · unfold iP
   split <;> omega
 · exact aeG hz _
theorem abp {l:List En} (v k d:Int) (hd:0≤d):WG l (Bc l v k d) k d=true∨Bc l v k d=0∨Bc l v k d=iP l v:=by
 unfold Bc WG
 by_cases h:k=0
 · simp [h]
 · rw [if_neg h]
   unfold clF
   by_cases h1:iP l v < top l (fZ k 0 l).toNat+d
   · rw [if_pos h1];exact .inr (.inr rfl)
   · rw [if_neg h1]
     by_cases h2:top l (fZ k 0 l).toNat+d < 0
     · rw [if_pos h2];exact .inr (.inl rfl)
     · rw [if_neg h2]
       left
       simp [h]
       omega
theorem aax:∀ (l:List En) (i p:Nat) (hp:p < l.length),(iR l).Nodup→fZ l[p].i.k i l=((i+p:Nat):Int)
 | e::r,i,0,_,_=>by simp [fZ]
 | e::r,i,p+1,hp,hn=>by
  simp only [iR,List.map_cons,List.nodup_cons] at hn
  have hp':p < r.length:=by simpa using hp
  have h1:e.i.k≠r[p].i.k:=fun q=>hn.1 (by rw [q];exact List.mem_map.2 ⟨r[p],List.getElem_mem _,rfl⟩)
  have ih:=aax r (i+1) p hp' hn.2
  simp only [List.getElem_cons_succ,fZ]
  rw [if_neg h1,ih]
  omega
theorem alQ {R:List En} {s v:Int} (V:Vp R s v) (hne:R≠[]) (hn:(iR R).Nodup) (hk:∀ x ∈ R,1≤x.i.k) :
 ∃ (p:Nat) (hp:p < R.length),top R p≤s∧s < top R (p+1)∧PG R R[p].i.k (s - top R p)∧1≤R[p].i.k∧Bc R v R[p].i.k (s - top R p)=s∧WG R s R[p].i.k (s - top R p)=true:=by
 have hz:Szd R:=V.toSzd
 have h0:=V.s0
 have hv:=V.v0
 have hl:0 < R.length:=List.length_pos_iff.2 hne
 have hs:0 < sm R:=by
  have q1:top R 0+1≤top R 1:=hz.lt (i:=0) hl
  have q2:=(hz.rng 1).2
  rw [Jd] at q1
  omega
 have h1:s < sm R:=by
  have:=h0.2
  unfold iP at this
  split at this <;> omega
 obtain ⟨p,hp,p1,p2⟩:=hz.row h0.1 h1
 have hf:=aax R 0 p hp hn
 have hk1:=hk R[p] (List.getElem_mem _)
 have hsz:=(hz.s R[p] (List.getElem_mem _)).2
 have ht:=Bq hp
 refine ⟨p,hp,p1,p2,⟨by omega,by omega,fun q=>by omega,fun _=>by omega⟩,hk1,?_,?_⟩
 · unfold Bc clF
   rw [if_neg (by omega),hf]
   simp only [Nat.zero_add,Int.toNat_natCast]
   rw [if_neg (by omega),if_neg (by omega)]
   omega
 · unfold WG
   rw [hf]
   simp
   omega
theorem Ai (l:List En):(l.map En.own).map En.own=l.map En.own:=by rw [List.map_map];rfl
theorem Jq (l:List En):bF (l.map En.own)=bF l:=by unfold bF;rw [List.map_map];rfl
theorem WI (l:List En) (j:Nat):keyAt (l.map En.own) j=keyAt l j:=by
 unfold keyAt
 rw [List.getElem?_map]
 cases l[j]? <;> rfl
theorem Qo (ks:List Kd) (cap:Int) (l:List En):∀ (x:List It) (j:Nat),fE ks cap (l.map En.own) j x=fE ks cap l j x
 | [],_=>rfl
 | a::r,j=>by rw [fE,fE,WI,Qo ks cap l r]
theorem aea (ks:List Kd) (cap:Int) (l:List En) (n:Nt):apF ks cap (l.map En.own) n=apF ks cap l n:=by
 unfold apF
 rw [List.length_map,Jq,Qo]
theorem UU (ks:List Kd) (l:List En) (n:Nt):(apL ks (l.map En.own) n).map En.own=(apL ks l n).map En.own:=by
 unfold apL
 split
 · rw [kP,kP,Ai]
 · split
   · rw [kP,kP,Ai]
   · split
     · rw [kP,kP,kP,kP,Ai]
       simp only [List.map_drop,List.map_take,Ai]
     · split
       · rw [kP,kP,Ai]
       · rfl
theorem adC (ks:List Kd) (cap:Int) (l:List En) (n:Nt):apE ks cap (l.map En.own) n=apE ks cap l n:=by
 unfold apE
 rw [aea,← zQ (apL ks (l.map En.own) n),UU,zQ]
theorem U7 (ks:List Kd) (cap:Int) (e:En) (b:Bool):enE ks cap e.own b=enE ks cap e b:=by
 have h:itE ks cap e.own.i b=itE ks cap e.i b:=by
  unfold itE
  have h1:fF ks.length e.own.i=fF ks.length e.i:=rfl
  have h2:gK (dG ks e.own.i.t).p e.own.i cap=gK (dG ks e.i.t).p e.i cap:=by
   unfold gK
   have h3:oL e.own.i=oL e.i:=rfl
   have h4:mkN e.own.i (dG ks e.i.t).p=mkN e.i (dG ks e.i.t).p:=by unfold mkN;rw [show e.own.i=e.i.own from rfl,Uj]
   have h5:e.own.i.t=e.i.t:=rfl
   rw [h5,h3,h4]
  rw [h1,h2]
 unfold enE
 rw [h]
 rfl
theorem YI (ks:List Kd) (cap:Int) (l:List En):ckE ks cap (l.map En.own)=0↔ckE ks cap l=0:=by
 rw [jM,jM,List.length_map,Jq,zQ]
 constructor
 · rintro ⟨h1,h2,h3,h4⟩
   exact ⟨h1,h2,fun e he=>by rw [← U7];exact h3 _ (List.mem_map.2 ⟨e,he,rfl⟩),h4⟩
 · rintro ⟨h1,h2,h3,h4⟩
   refine ⟨h1,h2,fun e he=>?_,h4⟩
   obtain ⟨e',he',rfl⟩:=List.mem_map.1 he
   rw [U7];exact h3 _ he'
theorem VP {α:Type} {l x:List α} {a c:Nat} {e:α} (h:e ∈ spl l a c x):e ∈ l∨e ∈ x:=by
 unfold spl at h
 rcases List.mem_append.1 h with h | h
 · rcases List.mem_append.1 h with h | h
   · exact .inl (List.mem_of_mem_take h)
   · exact .inr h
 · exact .inl (List.mem_of_mem_drop h)
theorem Tj {ks:List Kd} {n:Nt} (hn:yc ks n) (h:∀ y ∈ n.x,fF ks.length y=true):∀ e ∈ n.x.map (fre ks),eF e:=by
 intro e he
 obtain ⟨y,hy,rfl⟩:=List.mem_map.1 he
 exact ⟨hn.x y hy,hn.b y hy (h y hy)⟩
theorem aat {ks:List Kd} {cap:Int} {l:List En} {n:Nt} (hn:yc ks n) (hs:∀ e ∈ l,eF e) (h:apE ks cap l n=0):∀ e ∈ apL ks l n,eF e:=by
 unfold apE at h
 split at h
 · rename_i h1;exact absurd h h1
 · split at h
   · rename_i h1;exact absurd h h1
   · rename_i hF
     have hF:apF ks cap l n=0:=by simpa using hF
     unfold apF at hF
     unfold apL
     intro e he
     split at hF
     · rename_i hk
       rw [if_pos hk] at he
       split at hF
       · simp at hF
       · split at hF
         · simp at hF
         · rcases VP he with he | he
           · exact hs e he
           · exact Tj hn (fun y hy=>Ig (((wR ks cap n.x _).1 hF).1 y hy).1) e he
     · rename_i hk
       rw [if_neg hk] at he
       split at hF
       · rename_i hk;rw [if_pos hk] at he;exact hs e ((Np _ _ _).subset he)
       · rename_i hk
         rw [if_neg hk] at he
         split at hF
         · rename_i hk;rw [if_pos hk] at he;exact hs e ((GU _ _ _ _).mem_iff.1 he)
         · rename_i hk
           rw [if_neg hk] at he
           split at hF
           · rename_i hk
             rw [if_pos hk] at he
             split at hF
             · simp at hF
             · rename_i hi
               have:=UW (by simpa using hi)
               rcases VP he with he | he
               · exact hs e he
               · exact Tj hn (fun y hy=>Ig ((acD ks cap l n.x _ (by omega) hF).1 y hy)) e he
           · rename_i hk
             rw [if_neg hk] at he
             split at hF
             · simp at hF
             · exact Tj hn (fun y hy=>Ig (((wR ks cap n.x _).1 hF).1 y hy).1) e he
def allL (ks:List Kd):List En→List Nt→List En
 | l,[]=>l
 | l,n::r=>allL ks (apL ks l n) r
def FW (ks:List Kd) (cap:Int):List En→List Nt→Int
 | _,[]=>0
 | l,n::r=>if apE ks cap l n≠0 then apE ks cap l n else FW ks cap (apL ks l n) r
def WX (ks:List Kd) (cap:Int):List En→List Nt→Nat
 | _,[]=>0
 | l,n::r=>if apE ks cap l n≠0 then 0 else WX ks cap (apL ks l n) r+1
theorem acQ {ks:List Kd} {cap:Int}:∀ (x:List Nt) (l:List En),(∀ n ∈ x,yc ks n)→ckE ks cap l=0→FW ks cap l x=0→ckE ks cap (allL ks l x)=0
 | [],_,_,hc,_=>hc
 | n::r,l,hx,hc,h=>by
  rw [FW] at h
  split at h
  · rename_i h1;exact absurd h h1
  · rename_i h1
    rw [allL]
    exact acQ r _ (fun m hm=>hx m (List.mem_cons_of_mem _ hm)) (abw (hx n (List.mem_cons_self ..)) hc (by simpa using h1)) h
theorem all_in {ks:List Kd} {cap:Int}:∀ (x:List Nt) (l:List En),(∀ n ∈ x,yc ks n)→(∀ e ∈ l,eF e)→FW ks cap l x=0→∀ e ∈ allL ks l x,eF e
 | [],_,_,hs,_=>hs
 | n::r,l,hx,hs,h=>by
  rw [FW] at h
  split at h
  · rename_i h1;exact absurd h h1
  · rename_i h1
    rw [allL]
    exact all_in r _ (fun m hm=>hx m (List.mem_cons_of_mem _ hm)) (aat (hx n (List.mem_cons_self ..)) hs (by simpa using h1)) h
end Go.D
end
section
namespace Go.D
open Go Go.Pav Go.Pw P
attribute [-simp] List.getElem_cons_drop
variable {C:aI}
structure abl (C:aI):Prop extends aa7 C,abg C where
 f171:C.fns.get 171=some X4
def allA (ks:List Kd) (cap:Int) (l:List En) (x:List Nt) (i:Nat):AV :=
 if FW ks cap l x≠0 then .tup [.agg [.ro 6 [] true],.int .i64 ((i+WX ks cap l x:Nat):Int),.int .i64 (FW ks cap l x)] else .tup [aL ((allL ks l x).map En.own) true,.int .i64 ((i+x.length:Nat):Int),.int .i64 0]
theorem ab8 {ks:List Kd} {cap:Int} {l:List En} (h:ckE ks cap l=0):l.length≤1024:=((jM ks cap l).1 h).2.1
theorem XH (H:abl C) (ks:List Kd) (ke:Bool) (cap:Int) (hr:kM ks) (x:List Nt) (xe:Bool) (hx:∀ n ∈ x,yc ks n) (hxl:x.length≤1000):∀ n i,n+i=x.length→∀ (l:List En),(∀ e ∈ l,eF e)→ckE ks cap l=0 →
 Ah C ⟨[(31,.int .i64 i),(30,.int .i64 x.length),(29,.ro 5 (x.map eNt) xe),(8,.int .i64 0),(6,.ptr 0 0 0),(3,.ptr 1 0 0),(2,.ro 5 (x.map eNt) xe)],
  [(0,.cells 1 [[.ro 6 ((l.map En.own).map eEn) true]] true true),(1,.cells 2 [[.ro 9 (ks.map eKd) ke,.int .i64 cap]] true true)],2⟩=some (allA ks cap l (x.drop i) i):=by
 intro n
 induction n with
 | zero =>
  intro i hi l hs hc
  simp only [Ah];rw [aj Ac.eq_1]
  have h1:x.drop i=[]:=List.drop_eq_nil_of_le (by omega)
  have h2:i=x.length:=by omega
  subst h2
  rw [h1]
  simp (disch:=omega) [aj JZ.eq_1,aG,allA,FW,allL,H.inl,ay,H.pp,ppB]
 | succ n ih =>
  intro i hi l hs hc
  have hlt:i < x.length:=by omega
  have hd:x.drop i=x[i]::x.drop (i+1):=List.drop_eq_getElem_cons hlt
  have hn:=hx x[i] (List.getElem_mem hlt)
  have hll:=ab8 hc
  have hs':∀ e ∈ l.map En.own,eF e:=by
   intro e he
   obtain ⟨e',he',rfl⟩:=List.mem_map.1 he
   exact (hs e' he').ow
  have hap:=V7 H.toaa7 ks ke cap hr (l.map En.own) true (by rw [List.length_map];omega) hs' ((YI ks cap l).2 hc) x[i] hn
  rw [adC,UU] at hap
  simp only [Ah];rw [aj Ac.eq_1]
  rw [hd]
  by_cases hE:apE ks cap l x[i]=0
  · rw [if_neg (by simp [hE])] at hap
    have:=ih (i+1) (by omega) (apL ks l x[i]) (aat hn hs hE) (abw hn hc hE)
    have hA:allA ks cap l (x[i]::x.drop (i+1)) i=allA ks cap (apL ks l x[i]) (x.drop (i+1)) (i+1):=by
     have e1:i+(WX ks cap (apL ks l x[i]) (x.drop (i+1))+1)=i+1+WX ks cap (apL ks l x[i]) (x.drop (i+1)):=by omega
     have e2:i+((x.drop (i+1)).length+1)=i+1+(x.drop (i+1)).length:=by omega
     have q:¬ (apE ks cap l x[i]≠0):=by simp [hE]
     simp only [allA,FW,WX,allL,if_neg q,List.length_cons,e1,e2]
    rw [hA,← this]
    simp only [Ah]
    simp [aL,aR] at hap
    simp (disch:=omega) [hlt,aG,hap,H.inl,ay,H.pp,ppB]
  · rw [if_pos hE] at hap
    have hA:allA ks cap l (x[i]::x.drop (i+1)) i=.tup [.agg [.ro 6 [] true],.int .i64 i,.int .i64 (apE ks cap l x[i])]:=by
     simp only [allA,FW,WX,if_pos hE,Nat.add_zero]
    rw [hA]
    generalize apE ks cap l x[i]=E at *
    simp only [cu,aL,aR] at hap
    simp [aL,aR] at hap
    simp (disch:=omega) [hlt,aG,hap,hE,H.inl,ay,H.pp,ppB]
def Zl (ks:List Kd) (cap:Int) (l:List En) (x:List Nt):AV :=
 if ckE ks cap l≠0 then .tup [.agg [.ro 6 [] true],.int .i64 0,.int .i64 (ckE ks cap l)] else if 32 < (x.length:Int) then .tup [.agg [.ro 6 [] true],.int .i64 0,.int .i64 3] else allA ks cap l x 0
theorem adZ (H:abl C) (ks:List Kd) (ke:Bool) (cap:Int) (hr:kM ks) (l:List En) (e:Bool) (hl:l.length≤10000) (hs:∀ e ∈ l,eF e) (x:List Nt) (xe:Bool) (hx:∀ n ∈ x,yc ks n) (hxl:x.length≤1000) :
 FnW C 171 [aR ks ke cap,aL l e,.ro 5 (x.map eNt) xe]=some (Zl ks cap l x):=by
 have hck:=lQ H.toaa7.tovU.toDU.toAq ks ke cap hr l e (by omega) hs
 have hrm:=Jh H.toaa7.tovU.toDU ks ke cap hr l e (by omega) hs 0 0
 have hin:inR 0 0 (l.length:Int)=true:=by unfold inR;simp
 have hsp:spl l (0:Int).toNat (0:Int).toNat []=l:=by simp [spl]
 rw [hin,hsp,if_neg (by simp:¬ (true=false))] at hrm
 rw [aF H.f171 rfl]
 unfold Zl
 by_cases hc:ckE ks cap l=0
 · rw [if_neg (by simp [hc])] at hrm ⊢
   rw [hc] at hck
   have hov:ovE l=0:=((jM ks cap l).1 hc).2.2.2.2
   rw [UD,hov,if_neg (by simp)] at hrm
   by_cases h32:32 < (x.length:Int)
   · rw [if_pos h32]
     simp (disch:=omega) [X4,hck,h32,aG,H.inl,ay,H.pp,ppB]
   · rw [if_neg h32]
     have:=XH H ks ke cap hr x xe hx hxl x.length 0 rfl l hs hc
     simp only [Ah] at this
     rw [List.drop_zero] at this
     simp at this
     simp (disch:=omega) [X4,hck,hrm,h32,this,aG,H.inl,ay,H.pp,ppB]
 · rw [if_pos hc]
   generalize ckE ks cap l=E at *
   simp (disch:=omega) [X4,hck,hc,aG,H.inl,ay,H.pp,ppB]
theorem MZ (x:Int):0≤IntKind.u8.wrap x∧IntKind.u8.wrap x≤255:=by
 have:IntKind.u8.wrap x=x % 256:=rfl
 omega
structure Q5 where
 a:Int
 b:Int
 c:Int
 d:Int
 e:Int
@[simp] def eQ5 (q:Q5):List AV:=[.int .u8 q.a,.int .u8 q.b,.int .u8 q.c,.int .u8 q.d,.int .u8 q.e]
structure Oj (q:Q5):Prop where
 a:0≤q.a∧q.a≤255
 b:0≤q.b∧q.b≤255
 c:0≤q.c∧q.c≤255
 d:0≤q.d∧q.d≤255
 e:0≤q.e∧q.e≤255
structure Jp (C:aI):Prop extends vI C where
 alO:C.fns.get 452=some ady
def NtP (n:Nt):Prop:=(∀ y ∈ n.x,jv y)∧n.x.length≤3000
def NtO (x:Option AV):Prop:=∃ n:Nt,x=some (.agg (eNt n))∧NtP n
theorem NtO.mk {x:Option AV} (k a c t:Int) (l:List It) (e:Bool) (h:x=some (.agg [.int .u8 k,.int .i64 a,.int .i64 c,.int .i64 t,.ro 4 (l.map cIt) e])) (hl:∀ y ∈ l,jv y) (hn:l.length≤3000):NtO x :=
 ⟨⟨k,a,c,t,l,e⟩,h,hl,hn⟩
abbrev zNt:List AV:=[.int .u8 0,.int .i64 0,.int .i64 0,.int .i64 0,.ro 4 [] true]
theorem ajb (H:Jp C) (l:List En) (le:Bool) (hs:∀ e ∈ l,eF e) (hl:l.length≤1024) (at_ c:Nat) (hac:at_+c≤l.length):∀ n i,n+i=c→∀ G:List It,(∀ y ∈ G,jv y)→G.length≤i+10 →
 NtO (Fb C ⟨[(16,.int .i64 i),(9,.sl 0 4 0 G.length G.length false),(8,.int .i64 c),(7,.int .i64 at_),(6,.ptr 1 0 0),(1,.ro 6 (l.map eEn) le)],[(0,.cells 4 (G.map cIt) true true),(1,.cells 5 [zNt] true true)],2⟩):=by
 intro n
 induction n with
 | zero =>
  intro i hi G hG hg
  have h3:¬ i < c:=by omega
  have hT:List.take G.length (List.map cIt G)=List.map cIt G:=List.take_of_length_le (by simp)
  refine NtO.mk 5 0 0 0 G false ?_ hG (by omega)
  simp only [Fb];rw [aj Af.eq_1]
  simp (disch:=omega) [aj NV.eq_1,h3,hT,aG,H.inl,ay,H.pp,ppB]
 | succ n ih =>
  intro i hi G hG hg
  have h3:i < c:=by omega
  have h4:at_+i < l.length:=by omega
  have hfit:(G.length+1) * 57≤35184372088832:=by omega
  have:=ih (i+1) (by omega) (G++[l[at_+i].i]) (by
   intro y hy
   rcases List.mem_append.1 hy with hy | hy
   · exact hG y hy
   · simp only [List.mem_singleton] at hy;subst hy;exact (hs _ (List.getElem_mem h4)).i) (by simp;omega)
  simp only [Fb] at this ⊢;rw [aj Af.eq_1]
  simp at this
  simp (disch:=omega) [h3,h4,hfit,aG,H.inl,ay,H.pp,ppB]
  exact this
theorem ajF (H:Jp C) (q:Q5) (hq:Oj q) (l:List En) (le:Bool) (hs:∀ e ∈ l,eF e) (hl:l.length≤1024) (at_ c:Nat) (hac:at_+c≤l.length) :
 NtO (tN C ⟨[(14,.int .i64 0),(13,.ptr 0 0 0),(8,.int .i64 c),(7,.int .i64 at_),(6,.ptr 1 0 0),(3,.ptr 2 0 0),(1,.ro 6 (l.map eEn) le)],
  [(0,.cells 5 [[.int .u8 4,.int .i64 at_,.int .i64 0,.int .i64 0,.ro 4 [] true]] true true),(1,.cells 5 [zNt] true true),(2,.cells 5 [eQ5 q] true true)],3⟩):=by
 obtain ⟨i0,h0,g0⟩:=rO H.tovI ⟨0,IntKind.u8.wrap (q.d+0),q.e,q.e⟩ ⟨by simp,MZ _,hq.e,hq.e⟩
 obtain ⟨i1,h1,g1⟩:=rO H.tovI ⟨0,IntKind.u8.wrap (q.d+1),q.e,q.e⟩ ⟨by simp,MZ _,hq.e,hq.e⟩
 obtain ⟨i2,h2,g2⟩:=rO H.tovI ⟨0,IntKind.u8.wrap (q.d+2),q.e,q.e⟩ ⟨by simp,MZ _,hq.e,hq.e⟩
 have w0:IntKind.u8.wrap 0=0:=rfl
 have w1:IntKind.u8.wrap 1=1:=rfl
 have w2:IntKind.u8.wrap 2=2:=rfl
 have m0:ru 0 3=0:=rfl
 have m1:ru 1 3=1:=rfl
 have m2:ru 2 3=2:=rfl
 have it:∀ (i:It) (j:Nat),Good i→(h:at_+j < l.length)→jv { i with k:=l[at_+j].i.k }:=fun i j g h=>⟨(hs _ (List.getElem_mem h)).i.k,g.it.t,g.it.m⟩
 simp only [eQ,eIt] at h0 h1 h2
 simp at h0
 have three:(c=3∨3 < c)→NtO (tN C ⟨[(14,.int .i64 0),(13,.ptr 0 0 0),(8,.int .i64 c),(7,.int .i64 at_),(6,.ptr 1 0 0),(3,.ptr 2 0 0),(1,.ro 6 (l.map eEn) le)],
  [(0,.cells 5 [[.int .u8 4,.int .i64 at_,.int .i64 0,.int .i64 0,.ro 4 [] true]] true true),(1,.cells 5 [zNt] true true),(2,.cells 5 [eQ5 q] true true)],3⟩):=by
  intro hc
  have a0:at_ < l.length:=by omega
  have a1:at_+1 < l.length:=by omega
  have a2:at_+2 < l.length:=by omega
  refine NtO.mk 4 at_ 0 0 [{ i0 with k:=l[at_+0].i.k },{ i1 with k:=l[at_+1].i.k },{ i2 with k:=l[at_+2].i.k }] false ?_ (by
   intro y hy
   simp only [List.mem_cons,List.not_mem_nil,or_false] at hy
   rcases hy with rfl | rfl | rfl
   · exact it i0 0 g0 a0
   · exact it i1 1 g1 a1
   · exact it i2 2 g2 a2) (by simp)
  have hm:ru c 3=3:=by unfold ru;split <;> omega
  simp only [tN]
  simp (disch:=omega) [aj tH.eq_1,aj wX.eq_1,hm,h0,h1,h2,w0,w1,w2,a0,a1,a2,aG,H.inl,ay,H.pp,ppB]
 have h5:c=0∨c=1∨c=2∨(c=3∨3 < c):=by omega
 rcases h5 with rfl | rfl | rfl | hc
 · refine NtO.mk 4 at_ 0 0 [] true ?_ (by simp) (by simp)
   simp only [tN]
   simp (disch:=omega) [aj tH.eq_1,aj wX.eq_1,m0,aG,H.inl,ay,H.pp,ppB]
 · have a0:at_ < l.length:=by omega
   refine NtO.mk 4 at_ 0 0 [{ i0 with k:=l[at_+0].i.k }] false ?_ (by
    intro y hy
    simp only [List.mem_cons,List.not_mem_nil,or_false] at hy
    subst hy
    exact it i0 0 g0 a0) (by simp)
   simp only [tN]
   simp (disch:=omega) [aj tH.eq_1,aj wX.eq_1,m1,h0,w0,a0,aG,H.inl,ay,H.pp,ppB]
 · have a0:at_ < l.length:=by omega
   have a1:at_+1 < l.length:=by omega
   refine NtO.mk 4 at_ 0 0 [{ i0 with k:=l[at_+0].i.k },{ i1 with k:=l[at_+1].i.k }] false ?_ (by
    intro y hy
    simp only [List.mem_cons,List.not_mem_nil,or_false] at hy
    rcases hy with rfl | rfl
    · exact it i0 0 g0 a0
    · exact it i1 1 g1 a1) (by simp)
   simp only [tN]
   simp (disch:=omega) [aj tH.eq_1,aj wX.eq_1,m2,h0,h1,w0,w1,a0,a1,aG,H.inl,ay,H.pp,ppB]
 · exact three hc
theorem aeH (H:Jp C) (q:Q5) (hq:Oj q) (l:List En) (le:Bool) (hs:∀ e ∈ l,eF e) (hl:l.length≤1024) (at_ c:Nat) (hac:at_+c≤l.length) (G:List It) (hG:∀ y ∈ G,jv y) (hg:G.length≤3) :
 NtO (CK C 0 (aT [.cell 6 5 true]) [] Eu ⟨[(9,.sl 0 4 0 G.length G.length false),(8,.int .i64 c),(7,.int .i64 at_),(6,.ptr 1 0 0),(3,.ptr 2 0 0),(1,.ro 6 (l.map eEn) le)],[(0,.cells 4 (G.map cIt) true true),(1,.cells 5 [zNt] true true),(2,.cells 5 [eQ5 q] true true)],3⟩):=by
 have hT:List.take G.length (List.map cIt G)=List.map cIt G:=List.take_of_length_le (by simp)
 have hfit:(G.length+1) * 57≤35184372088832:=by omega
 have hm:q.a.tmod 16=q.a % 16:=Int.tmod_eq_emod_of_nonneg hq.a.1
 have hk1:0≤q.a % 16:=Int.emod_nonneg _ (by omega)
 have hk2:q.a % 16 < 16:=Int.emod_lt_of_pos _ (by omega)
 generalize hk:q.a % 16=k at *
 rw [aj Eu.eq_1]
 by_cases c1:k < 4
 · refine NtO.mk 1 at_ 0 0 G false ?_ hG (by omega)
   simp (disch:=omega) [hm,c1,hT,wU8,aG,H.inl,ay,H.pp,ppB]
 · by_cases c2:k < 6
   · refine NtO.mk 2 at_ (ru c 3) 0 [] true ?_ (by simp) (by simp)
     simp (disch:=omega) [hm,c1,c2,wU8,aG,H.inl,ay,H.pp,ppB]
   · by_cases c3:k < 8
     · refine NtO.mk 3 at_ c (q.d.tmod ((l.length:Int) - c+1)) [] true ?_ (by simp) (by simp)
       have hnz:¬ ((l.length:Int) - c+1=0):=by omega
       have hd:=hq.d
       have hr1:0≤q.d.tmod ((l.length:Int) - c+1):=Int.tmod_nonneg _ hd.1
       have hr2:q.d.tmod ((l.length:Int) - c+1) < (l.length:Int) - c+1:=Int.tmod_lt_of_pos _ (by omega)
       simp (disch:=omega) [hm,c1,c2,c3,hnz,wU8,aG,H.inl,ay,H.pp,ppB]
     · by_cases c4:k < 10
       · have h:=ajF H q hq l le hs hl at_ c hac
         simp only [tN] at h
         simp at h
         simp (disch:=omega) [hm,c1,c2,c3,c4,wU8,aG,H.inl,ay,H.pp,ppB]
         exact h
       · by_cases c5:k < 11
         · have h:=ajb H l le hs hl at_ c hac c 0 rfl G hG (by omega)
           simp only [Fb] at h
           simp at h
           simp (disch:=omega) [hm,c1,c2,c3,c4,c5,wU8,aG,H.inl,ay,H.pp,ppB]
           exact h
         · by_cases c6:k < 12
           · obtain ⟨i0,h0,g0⟩:=rO H.tovI ⟨q.b,q.c,q.d,q.e⟩ ⟨hq.b,hq.c,hq.d,hq.e⟩
             simp only [eQ,eIt] at h0
             refine NtO.mk 1 at_ 0 0 (G++[i0]) false ?_ (by
              intro y hy
              rcases List.mem_append.1 hy with hy | hy
              · exact hG y hy
              · simp only [List.mem_singleton] at hy;subst hy;exact g0.it) (by simp;omega)
             have hT2:List.take (G.length+1) (List.map cIt G++[[.int .u64 i0.k,.int .u8 i0.t,.str i0.x,.ro 1 (i0.m.map eS) i0.e]])=List.map cIt G++[[.int .u64 i0.k,.int .u8 i0.t,.str i0.x,.ro 1 (i0.m.map eS) i0.e]]:=List.take_of_length_le (by simp)
             simp (disch:=omega) [hm,c1,c2,c3,c4,c5,c6,h0,hfit,hT2,wU8,aG,H.inl,ay,H.pp,ppB]
           · by_cases c7:k=12
             · have b1:q.b.tmod 8=q.b % 8:=Int.tmod_eq_emod_of_nonneg hq.b.1
               have b2:q.c.tmod 8=q.c % 8:=Int.tmod_eq_emod_of_nonneg hq.c.1
               have b3:q.d.tmod 4=q.d % 4:=Int.tmod_eq_emod_of_nonneg hq.d.1
               have b4:q.e.tmod 3=q.e % 3:=Int.tmod_eq_emod_of_nonneg hq.e.1
               refine NtO.mk (q.b % 8) (q.c % 8 - 2) (q.d % 4 - 1) (q.e % 3) [] true ?_ (by simp) (by simp)
               have e1:=Int.emod_nonneg q.c (show (8:Int)≠0 by omega)
               have e2:=Int.emod_lt_of_pos q.c (show (0:Int) < 8 by omega)
               have e3:=Int.emod_nonneg q.d (show (4:Int)≠0 by omega)
               have e4:=Int.emod_lt_of_pos q.d (show (0:Int) < 4 by omega)
               have e5:=Int.emod_nonneg q.e (show (3:Int)≠0 by omega)
               have e6:=Int.emod_lt_of_pos q.e (show (0:Int) < 3 by omega)
               have e7:=Int.emod_nonneg q.b (show (8:Int)≠0 by omega)
               have e8:=Int.emod_lt_of_pos q.b (show (0:Int) < 8 by omega)
               simp (disch:=omega) [hm,c1,c2,c3,c4,c5,c6,c7,b1,b2,b3,b4,wU8,aG,H.inl,ay,H.pp,ppB]
             · by_cases c8:k=13
               · refine NtO.mk 2 at_ (c+1) 0 [] true ?_ (by simp) (by simp)
                 simp (disch:=omega) [hm,c1,c2,c3,c4,c5,c6,c7,c8,wU8,aG,H.inl,ay,H.pp,ppB]
               · by_cases c9:k=14
                 · refine NtO.mk 4 at_ 0 0 (G++[⟨1,0,[],[],true⟩]) false ?_ (by
                    intro y hy
                    rcases List.mem_append.1 hy with hy | hy
                    · exact hG y hy
                    · simp only [List.mem_singleton] at hy;subst hy;exact ⟨by simp,by simp,by simp⟩) (by simp;omega)
                   have hT2:List.take (G.length+1) (List.map cIt G++[[.int .u64 1,.int .u8 0,.str [],.ro 1 [] true]])=List.map cIt G++[[.int .u64 1,.int .u8 0,.str [],.ro 1 [] true]]:=List.take_of_length_le (by simp)
                   simp (disch:=omega) [hm,c1,c2,c3,c4,c5,c6,c7,c8,c9,hfit,hT2,wU8,aG,H.inl,ay,H.pp,ppB]
                 · refine NtO.mk 1 at_ 0 0 (G++[⟨0,q.e,[],[],true⟩]) false ?_ (by
                    intro y hy
                    rcases List.mem_append.1 hy with hy | hy
                    · exact hG y hy
                    · simp only [List.mem_singleton] at hy;subst hy;exact ⟨by simp,hq.e,by simp⟩) (by simp;omega)
                   have hT2:List.take (G.length+1) (List.map cIt G++[[.int .u64 0,.int .u8 q.e,.str [],.ro 1 [] true]])=List.map cIt G++[[.int .u64 0,.int .u8 q.e,.str [],.ro 1 [] true]]:=List.take_of_length_le (by simp)
                   simp (disch:=omega) [aj FC.eq_1,hm,c1,c2,c3,c4,c5,c6,c7,c8,c9,hfit,hT2,wU8,aG,H.inl,ay,H.pp,ppB]
theorem adq (H:Jp C) (q:Q5) (hq:Oj q) (l:List En) (le:Bool) (hs:∀ e ∈ l,eF e) (hl:l.length≤1024) (at_ c:Nat) (hac:at_+c≤l.length) (num:Nat) (hnum:num≤10):∀ n i:Nat,((n+i:Nat):Int)=q.c % 4→∀ G:List It,(∀ y ∈ G,jv y)→G.length≤i →
 NtO (EH C ⟨[(10,.int .i64 i),(9,.sl 0 4 0 G.length G.length false),(8,.int .i64 c),(7,.int .i64 at_),(6,.ptr 1 0 0),(3,.ptr 2 0 0),(2,.int .i64 num),(1,.ro 6 (l.map eEn) le)],[(0,.cells 4 (G.map cIt) true true),(1,.cells 5 [zNt] true true),(2,.cells 5 [eQ5 q] true true)],3⟩):=by
 have hm:q.c.tmod 4=q.c % 4:=Int.tmod_eq_emod_of_nonneg hq.c.1
 have hm2:q.c % 4 < 4:=Int.emod_lt_of_pos _ (by omega)
 intro n
 induction n with
 | zero =>
  intro i hi G hG hg
  have hi2:q.c % 4=(i:Int):=by omega
  have h:=aeH H q hq l le hs hl at_ c hac G hG (by omega)
  simp only [EH];rw [aj yX.eq_1]
  simp at h
  simp (disch:=omega) [hm,hi2,wU8,aG,H.inl,ay,H.pp,ppB]
  exact h
 | succ n ih =>
  intro i hi G hG hg
  have h3:(i:Int) < q.c % 4:=by omega
  have hd:q.e.tdiv 2=q.e / 2:=Int.tdiv_eq_ediv_of_nonneg hq.e.1
  have he:=hq.e
  obtain ⟨i0,h0,g0⟩:=rO H.tovI ⟨0,IntKind.u8.wrap (q.e+i),q.d,q.e / 2⟩ ⟨by simp,MZ _,hq.d,by simp only;omega⟩
  simp only [eQ,eIt] at h0
  have hfit:(G.length+1) * 57≤35184372088832:=by omega
  have:=ih (i+1) (by omega) (G++[{ i0 with k:=100+(10 * num+i) }]) (by
   intro y hy
   rcases List.mem_append.1 hy with hy | hy
   · exact hG y hy
   · simp only [List.mem_singleton] at hy;subst hy;exact ⟨by simp only;omega,g0.it.t,g0.it.m⟩) (by simp;omega)
  simp only [EH] at this ⊢;rw [aj yX.eq_1]
  simp at this
  simp (disch:=omega) [hm,h3,hd,h0,hfit,wU8,aG,nS,H.inl,ay,H.pp,ppB]
  exact this
theorem aeB (H:Jp C) (q:Q5) (hq:Oj q) (l:List En) (le:Bool) (hs:∀ e ∈ l,eF e) (hl:l.length≤1024) (num:Nat) (hnum:num≤10) :
 NtO (FnW C 452 [.agg (eQ5 q),.ro 6 (l.map eEn) le,.int .i64 num]):=by
 have e1:q.b.tmod ((l.length:Int)+1)=((q.b.toNat % (l.length+1):Nat):Int):=by
  rw [Int.tmod_eq_emod_of_nonneg hq.b.1]
  obtain ⟨v,hv⟩:∃ v:Nat,q.b=v:=⟨q.b.toNat,by have:=hq.b.1;omega⟩
  rw [hv];simp
 have h1:q.b.toNat % (l.length+1) < l.length+1:=Nat.mod_lt _ (by omega)
 generalize q.b.toNat % (l.length+1)=at_ at *
 have e2:q.c.tmod ((l.length:Int) - at_+1)=((q.c.toNat % (l.length - at_+1):Nat):Int):=by
  rw [Int.tmod_eq_emod_of_nonneg hq.c.1]
  obtain ⟨v,hv⟩:∃ v:Nat,q.c=v:=⟨q.c.toNat,by have:=hq.c.1;omega⟩
  have hd:(l.length:Int) - at_+1=((l.length - at_+1:Nat):Int):=by omega
  rw [hv,hd];simp
 have h2:q.c.toNat % (l.length - at_+1) < l.length - at_+1:=Nat.mod_lt _ (by omega)
 generalize q.c.toNat % (l.length - at_+1)=c at *
 have h:=adq H q hq l le hs hl at_ c (by omega) num hnum (q.c % 4).toNat 0 (by have:=Int.emod_nonneg q.c (show (4:Int)≠0 by omega);omega) [] (by simp) (by simp)
 have hb:=hq.b
 have hc:=hq.c
 have n1:¬ ((l.length:Int)+1=0):=by omega
 have n2:¬ ((l.length:Int) - at_+1=0):=by omega
 rw [aF H.alO rfl]
 simp only [EH] at h
 simp at h
 simp (disch:=omega) [ady,e1,e2,n1,n2,wU8,aG,H.inl,ay,H.pp,ppB]
 exact h
structure abo (C:aI):Prop extends Jp C,abg C where
 f326:C.fns.get 326=some aff
theorem NtP.inn {ks:List Kd} (hk:Wx ks) {n:Nt} (h:NtP n):yc ks n:=by
 refine ⟨h.1,by have:=h.2;omega,fun y hy ho=>?_⟩
 have ht:=nD ho
 have h2:=(h.1 y hy).t
 have:=hk.l
 have:=hk.b y.t (by omega) (by omega)
 omega
theorem acN (H:abo C) (ks:List Kd) (hk:Wx ks) (xs:List Q5) (xe:Bool) (hx:∀ q ∈ xs,Oj q) (hxl:xs.length < 9223372036854775808):∀ n i,n+i=6→∀ (l:List En) (fl:Bool) (N:List Nt),(∀ e ∈ l,eF e)→ckE ks 12 l=0→(∀ n ∈ N,yc ks n)→N.length=i →
 ∃ x:List Nt,xB C ⟨[(9,.int .i64 i),(8,.ro 6 (l.map eEn) fl),(7,.sl 0 5 0 N.length N.length false),(4,.ptr 1 0 0),(3,.ptr 2 0 0)],[(0,.cells 5 (N.map eNt) true true),(1,.cells 2 [[.ro 9 (ks.map eKd) true,.int .i64 12]] true true),(2,.cells 1 [[.ro 5 (xs.map eQ5) xe]] true true)],3⟩=some (.ro 5 (x.map eNt) false) ∧
  (∀ n ∈ x,yc ks n)∧x.length≤6:=by
 have stop:∀ (i:Nat) (l:List En) (fl:Bool) (N:List Nt),N.length=i→(xs.length≤i∨6≤i)→xB C ⟨[(9,.int .i64 i),(8,.ro 6 (l.map eEn) fl),(7,.sl 0 5 0 N.length N.length false),(4,.ptr 1 0 0),(3,.ptr 2 0 0)],[(0,.cells 5 (N.map eNt) true true),(1,.cells 2 [[.ro 9 (ks.map eKd) true,.int .i64 12]] true true),(2,.cells 1 [[.ro 5 (xs.map eQ5) xe]] true true)],3⟩=some (.ro 5 (N.map eNt) false):=by
  intro i l fl N hN hs
  have hT:List.take N.length (List.map eNt N)=List.map eNt N:=List.take_of_length_le (by simp)
  simp only [xB];rw [aj wH.eq_1]
  by_cases h1:i < xs.length
  · have h2:¬ i < 6:=by omega
    simp (disch:=omega) [aj D6.eq_1,h1,h2,hT,aG,H.inl,ay,H.pp,ppB]
  · simp (disch:=omega) [aj D6.eq_1,h1,hT,aG,H.inl,ay,H.pp,ppB]
 intro n
 induction n with
 | zero =>
  intro i hi l fl N hs hc hN hl
  exact ⟨N,stop i l fl N hl (.inr (by omega)),hN,by omega⟩
 | succ n ih =>
  intro i hi l fl N hs hc hN hl
  by_cases h1:i < xs.length
  · have h2:i < 6:=by omega
    obtain ⟨m,hm,hmp⟩:=aeB H.toJp xs[i] (hx _ (List.getElem_mem h1)) l fl hs (ab8 hc) i (by omega)
    have hin:=hmp.inn hk
    have hap:=Uk H.toabg ks true 12 hk.r l fl hs hc m hin
    have hfit:(N.length+1) * 57≤35184372088832:=by omega
    have hN2:∀ n ∈ N++[m],yc ks n:=by
     intro n hn
     rcases List.mem_append.1 hn with hn | hn
     · exact hN n hn
     · simp only [List.mem_singleton] at hn;subst hn;exact hin
    simp only [eQ5] at hm
    by_cases hE:apE ks 12 l m=0
    · rw [if_neg (by simp [hE])] at hap
      obtain ⟨x,this,hxx⟩:=ih (i+1) (by omega) (apL ks l m) false (N++[m]) (aat hin hs hE) (abw hin hc hE) hN2 (by simp [hl])
      refine ⟨x,?_,hxx⟩
      rw [← this]
      simp only [xB];rw [aj wH.eq_1]
      simp only [aR,eNt] at hap
      simp (disch:=omega) [h1,h2,hm,hap,hfit,aG,H.inl,ay,H.pp,ppB]
    · rw [if_pos hE] at hap
      obtain ⟨x,this,hxx⟩:=ih (i+1) (by omega) l fl (N++[m]) hs hc hN2 (by simp [hl])
      refine ⟨x,?_,hxx⟩
      rw [← this]
      generalize apE ks 12 l m=E at *
      simp only [xB];rw [aj wH.eq_1]
      simp only [aR,eNt,rfE] at hap
      simp (disch:=omega) [h1,h2,hm,hap,hE,hfit,aG,H.inl,ay,H.pp,ppB]
  · exact ⟨N,stop i l fl N hl (.inl (by omega)),hN,by omega⟩
theorem ajP (H:abo C) (ks:List Kd) (hk:Wx ks) (xs:List Q5) (xe:Bool) (hx:∀ q ∈ xs,Oj q) (hxl:xs.length < 9223372036854775808) (l:List En) (fl:Bool) (hs:∀ e ∈ l,eF e) (hc:ckE ks 12 l=0) :
 ∃ x:List Nt,FnW C 326 [.agg [.ro 5 (xs.map eQ5) xe],aR ks true 12,aL l fl]=some (.ro 5 (x.map eNt) false)∧(∀ n ∈ x,yc ks n)∧x.length≤6:=by
 obtain ⟨x,h,hx2⟩:=acN H ks hk xs xe hx hxl 6 0 rfl l fl [] hs hc (by simp) rfl
 refine ⟨x,?_,hx2⟩
 rw [aF H.f326 rfl]
 simp only [xB] at h
 simp at h
 simp (disch:=omega) [aff,h,aG,H.inl,ay,H.pp,ppB]
end Go.D
end
section
namespace Go.D
open Go Go.Pav Go.Pw P
set_option maxHeartbeats 1000000
variable {C:aI}
theorem aey (e:En):nH (eEn e)=some e.i.k:=by
 have h:ug (.ro 1 (e.i.m.map eS) e.i.e)=true:=by simp [ug,markRow]
 simp only [eEn,nH]
 rw [if_pos h]
theorem PE:∀ l:List En,bg nH (l.map eEn)=some (iR l)
 | []=>rfl
 | e::r=>by
  simp only [List.map_cons,bg,aey,iR]
  rw [PE r]
  rfl
theorem aao (l:List En) (f:Bool) (hl:l.length≤1000000):jV (aL l f)=some (iR l):=by
 simp only [aL,jV]
 rw [if_pos (by simp;exact hl),PE]
theorem acC (h:C.fns.get 324=some aav) (R N:List En) (f g:Bool) (hR:R.length≤1000000) (hN:N.length≤1000000) (k d:Int) :
 FnW C 324 [aL R f,aL N g,aA k d]=some (aA (uZ (iR R) (iR N) k d).1 (uZ (iR R) (iR N) k d).2):=by
 have h1:=aao R f hR
 have h2:=aao N g hN
 simp only [aL] at h1 h2 ⊢
 have h3:o7 0 [.agg [.ro 6 (R.map eEn) f],.agg [.ro 6 (N.map eEn) g],aA k d]=some (aA (uZ (iR R) (iR N) k d).1 (uZ (iR R) (iR N) k d).2):=by
  simp only [o7,if_true,kH,h1,h2]
  rfl
 rw [aF h rfl]
 simp [aav,ahu,oM,dF,h1,h2]
end Go.D
end
section
namespace Go.D
open Go Go.Pav Go.Pw P
set_option maxHeartbeats 1000000
attribute [-simp] List.getElem_cons_drop
variable {C:aI}
structure Vq (C:aI):Prop extends yt C,abo C,abl C where
 f163:C.fns.get 163=some BF
 f324:C.fns.get 324=some aav
section walk
variable (H:Vq C) (hlives:FnW C 164 []=some (.bool true)) (q:List (List AV)) (qe:Bool) (zz:List (List AV)) (ze:Bool) (r a b:Int) (y:List (List AV)) (ye:Bool) (ks:List Kd) (R:List En) (f:Bool) (x:List Nt) (o v k d:Int)
 (hlof:FnW C 130 [.agg [.ro 4 q qe,.ro 1 zz ze,.int .u8 r]]=some (.tup [aR ks true 12,aL R f])) (hbof:FnW C 326 [.agg [.ro 5 y ye],aR ks true 12,aL R f]=some (.ro 5 (x.map eNt) false))
 (hw:FnW C 256 [.agg [.int .u8 a,.int .u16 b],aL R f]=some (.tup [.int .i64 o,.int .i64 v]))
 (hA:FnW C 160 [aL R f,.int .i64 o]=some (.tup [aA k d,.int .i64 0])) (hO:FnW C 161 [aL R f,.int .i64 v,aA k d]=some (.tup [.int .i64 o,.int .i64 0]))
 (hH:FnW C 321 [aL R f,.int .i64 o,aA k d]=some (.bool true)) (hC:FnW C 318 [aA k d]=some (.int .i64 0))
include H hlives hlof hbof hw hA hO hH hC
theorem aeS (n E:Int) (hE:E≠0) (hM:FnW C 171 [aR ks true 12,aL R f,.ro 5 (x.map eNt) false]=some (.tup [.agg [.ro 6 [] true],.int .i64 n,.int .i64 E])) :
 FnW C 163 [.agg [.ro 4 q qe,.ro 1 zz ze,.int .u8 r],.agg [.int .u8 a,.int .u16 b],.agg [.ro 5 y ye]]=some (.bool true):=by
 rw [aF H.f163 rfl]
 simp only [aR,aL,aA] at hlof hbof hw hA hO hH hC hM
 simp (disch:=omega) [BF,hlof,hbof,hw,hA,hO,hH,hC,hM,hE,hlives,aG,H.inl,ay,H.pp,ppB]
theorem YV (n:Int) (N:List En) (kx ky t mo fd:Int) (hl:Bool) (hM:FnW C 171 [aR ks true 12,aL R f,.ro 5 (x.map eNt) false]=some (.tup [aL N true,.int .i64 n,.int .i64 0]))
 (h324:FnW C 324 [aL R f,aL N true,aA k d]=some (aA kx ky)) (h161:FnW C 161 [aL N true,.int .i64 v,aA kx ky]=some (.tup [.int .i64 t,.int .i64 0])) (h318:FnW C 318 [aA kx ky]=some (.int .i64 0))
 (h327:FnW C 327 [.ro 6 (N.map eEn) true,.int .i64 v]=some (.int .i64 mo)) (h0:0≤t) (h1:t≤mo) (h321:FnW C 321 [aL N true,.int .i64 t,aA kx ky]=some (.bool hl)) (hld:hl=true∨t=0∨t=mo)
 (h239:FnW C 239 [.ro 6 (N.map eEn) true,.int .u64 k]=some (.int .i64 fd)) (hR:R.length≤1024) (hs:R≠[]→0≤fd→kx=k∧ky=d) :
 FnW C 163 [.agg [.ro 4 q qe,.ro 1 zz ze,.int .u8 r],.agg [.int .u8 a,.int .u16 b],.agg [.ro 5 y ye]]=some (.bool true):=by
 have c0:¬ t < 0:=by omega
 have c1:¬ mo < t:=by omega
 rw [aF H.f163 rfl]
 simp only [aR,aL,aA] at hlof hbof hw hA hO hH hC hM h324 h161 h318 h321
 have hb:hl=true∨(hl=false∧t=0)∨(hl=false∧t≠0∧t=mo):=by
  cases hl
  · rcases hld with q | q | q
    · cases q
    · exact .inr (.inl ⟨rfl,q⟩)
    · by_cases c3:t=0
      · exact .inr (.inl ⟨rfl,c3⟩)
      · exact .inr (.inr ⟨rfl,c3,q⟩)
  · exact .inl rfl
 by_cases hne:R=[]
 · subst hne
   simp only [List.map_nil] at hlof hbof hw hA hO hH hM h324
   rcases hb with rfl | ⟨rfl,q⟩ | ⟨rfl,q,q2⟩
   · simp (disch:=omega) [BF,hlof,hbof,hw,hA,hO,hH,hC,hM,h324,h161,h318,h327,h321,c0,c1,hlives,aG,H.inl,ay,H.pp,ppB]
   · simp (disch:=omega) [BF,hlof,hbof,hw,hA,hO,hH,hC,hM,h324,h161,h318,h327,h321,c0,c1,eq_true q,hlives,aG,H.inl,ay,H.pp,ppB]
   · simp (disch:=omega) [BF,hlof,hbof,hw,hA,hO,hH,hC,hM,h324,h161,h318,h327,h321,c0,c1,q,eq_true q2,hlives,aG,H.inl,ay,H.pp,ppB]
 · have hR0:0 < R.length:=List.length_pos_iff.2 hne
   by_cases hfd:0≤fd
   · obtain ⟨rfl,rfl⟩:=hs hne hfd
     rcases hb with rfl | ⟨rfl,q⟩ | ⟨rfl,q,q2⟩
     · simp (disch:=omega) [BF,hlof,hbof,hw,hA,hO,hH,hC,hM,h324,h161,h318,h327,h321,h239,c0,c1,hne,hR0,hfd,hlives,aG,H.inl,ay,H.pp,ppB]
     · simp (disch:=omega) [BF,hlof,hbof,hw,hA,hO,hH,hC,hM,h324,h161,h318,h327,h321,h239,c0,c1,hne,hR0,hfd,eq_true q,hlives,aG,H.inl,ay,H.pp,ppB]
     · simp (disch:=omega) [BF,hlof,hbof,hw,hA,hO,hH,hC,hM,h324,h161,h318,h327,h321,h239,c0,c1,hne,hR0,hfd,q,eq_true q2,hlives,aG,H.inl,ay,H.pp,ppB]
   · rcases hb with rfl | ⟨rfl,q⟩ | ⟨rfl,q,q2⟩
     · simp (disch:=omega) [BF,hlof,hbof,hw,hA,hO,hH,hC,hM,h324,h161,h318,h327,h321,h239,c0,c1,hne,hR0,hfd,hlives,aG,H.inl,ay,H.pp,ppB]
     · simp (disch:=omega) [BF,hlof,hbof,hw,hA,hO,hH,hC,hM,h324,h161,h318,h327,h321,h239,c0,c1,hne,hR0,hfd,eq_true q,hlives,aG,H.inl,ay,H.pp,ppB]
     · simp (disch:=omega) [BF,hlof,hbof,hw,hA,hO,hH,hC,hM,h324,h161,h318,h327,h321,h239,c0,c1,hne,hR0,hfd,q,eq_true q2,hlives,aG,H.inl,ay,H.pp,ppB]
end walk
end Go.D
end
section
namespace Go.D
open Go Go.Pav Go.Pw P
set_option maxHeartbeats 1000000
variable {C:aI}
theorem aaF (H:Vq C) (hone:∀ q:Q4,QIn q→∃ i:It,FnW C 422 [.agg (eQ q)]=some (eIt i)∧Good i) (hlives:FnW C 164 []=some (.bool true))
 (q:List Q4) (qe:Bool) (hq:∀ x ∈ q,QIn x) (z:List Int) (ze:Bool) (hz:∀ s ∈ z,0≤s∧s≤255) (hzl:z.length < 9223372036854775808) (r:Int) (hr:0≤r∧r≤255)
 (a b:Int) (ha:0≤a∧a≤255) (hb:0≤b∧b≤65535)
 (y:List Q5) (ye:Bool) (hy:∀ x ∈ y,Oj x) (hyl:y.length < 9223372036854775808) :
 FnW C 163 [.agg [.ro 4 (q.map eQ) qe,.ro 1 (z.map eU8) ze,.int .u8 r],.agg [.int .u8 a,.int .u16 b],.agg [.ro 5 (y.map eQ5) ye]]=some (.bool true):=by
 obtain ⟨R,f,hof,hl,hg,hnd⟩:=ahX H.toabo.toJp.tovI hone q qe hq z ze hz hzl r hr
 have hck:=adu r hr R (by omega) hg hnd
 have hin:∀ x ∈ R,eF x:=fun x hx=>(hg x hx).en
 have hks:=agY r hr
 have hzd:=V8 hl hg
 obtain ⟨x,hbo,hx,hxl⟩:=ajP H.toabo (eP r) hks y ye hy hyl R f hin hck
 obtain ⟨o,v,hw,hp⟩:=adn H.toyt R f hzd a b ha hb
 have hkR:=abR hck hin
 generalize eP r=ks at *
 have hru:=hks.r
 have hv:=hp.v0
 have ho:=hp.s0
 have hom:iP R v≤4611686018427387904:=by
  have:=hzd.t
  unfold iP;split <;> omega
 obtain ⟨k,d,hA,hok,hoff,hhd,hk0⟩:∃ k d:Int,FnW C 160 [aL R f,.int .i64 o]=some (.tup [aA k d,.int .i64 0])∧PG R k d∧Bc R v k d=o∧WG R o k d=true∧(R≠[]→k≠0):=by
  by_cases hne:R=[]
  · subst hne
    have h0:o=0:=by
     have h:iP [] v≤0:=by
      have h0:sm []=0:=rfl
      unfold iP;rw [if_pos (by omega)];omega
     omega
    subst h0
    exact ⟨0,0,afD H.toyt f,⟨by omega,by omega,fun _=>rfl,fun h=>absurd rfl h⟩,by unfold Bc;rw [if_pos rfl],by simp [WG],fun h=>absurd rfl h⟩
  · obtain ⟨p,hpl,p1,p2,p3,p4,p5,p6⟩:=alQ hp hne (by simpa [iR,bF] using hnd) hkR
    exact ⟨_,_,aiD H.toyt R f hzd o p hpl p1 p2,p3,p5,p6,fun _=>by omega⟩
 have hO:=Jy H.toyt R f hzd v hv k d hok
 rw [hoff] at hO
 have hH:=V4 H.toyt R f hzd o k d ⟨ho.1,by omega⟩ hok
 rw [show (decide (k=0)||(decide (top R (fZ k 0 R).toNat≤o)&&decide (o - top R (fZ k 0 R).toNat=d)))=true from hhd] at hH
 have hC:=yB H.toyt k d
 rw [hok.e] at hC
 have hM:=adZ H.toabl ks true 12 hru R f (by omega) hin x false hx (by omega)
 unfold Zl allA at hM
 rw [if_neg (by simp [hck]),if_neg (by omega)] at hM
 by_cases h1:FW ks 12 R x=0
 · rw [if_neg (by simp [h1])] at hM
   have hcM:=(YI ks 12 _).2 (acQ x R hx hck h1)
   have hiM:∀ e ∈ (allL ks R x).map En.own,eF e:=fun e he=>by
    obtain ⟨e',he',rfl⟩:=List.mem_map.1 he
    exact (all_in x R hx hin h1 e' he').ow
   have hkN:=abR hcM hiM
   have hzN:=akg hcM
   generalize (allL ks R x).map En.own=N at *
   have hNl:=hzN.n
   have h324:=acC H.f324 R N f true (by omega) (by omega) k d
   have an:=aiJ hkN (iR R) hok.k0 hok.d0 hok.z
   have hst:R≠[]→0≤fZ k 0 N→(uZ (iR R) (iR N) k d).1=k∧(uZ (iR R) (iR N) k d).2=d:=fun h2 h3=>by
    rw [Zp (iR R) (hk0 h2) h3];exact ⟨rfl,rfl⟩
   generalize (uZ (iR R) (iR N) k d).1=kx at *
   generalize (uZ (iR R) (iR N) k d).2=ky at *
   have h161:=Jy H.toyt N true hzN v hv kx ky an
   have h318:=yB H.toyt kx ky
   rw [an.e] at h318
   have hnn:=hzN.nn
   have htt:=hzN.t
   have h327:=Qs H.toyt.too8 N true hzN v (by omega)
   obtain ⟨r0,r1⟩:=af7 hzN v kx ky
   have hmm:iP N v≤4611686018427387904:=by unfold iP;split <;> omega
   have h321:=V4 H.toyt N true hzN (Bc N v kx ky) kx ky ⟨r0,by omega⟩ an
   have hld:=abp (l:=N) v kx ky an.d0.1
   have h239:=OM H.toyt.too8.tokC N true k (by omega)
   exact YV H hlives (q.map eQ) qe (z.map eU8) ze r a b (y.map eQ5) ye ks R f x o v k d hof hbo hw hA hO hH hC _ N kx ky _ _ _ _ hM h324 h161 h318 h327 r0 r1 h321 hld h239 (by omega) hst
 · rw [if_pos h1] at hM
   exact aeS H hlives (q.map eQ) qe (z.map eU8) ze r a b (y.map eQ5) ye ks R f x o v k d hof hbo hw hA hO hH hC _ _ h1 hM
end Go.D
end
