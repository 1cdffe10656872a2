/- Part of the theory that the claims of this work use: E15, E16, E10, E11, D30, D31, D38, D40, D47, D48, D49, E17, Q10, Q11, Q12, Q13, Q14, Q15, Q16, Q17, Q18, Q19, Q20, Q21, Q22, Q23, Q24, Q25, Q26, Q27, Q28, Q29, Q30, Q31. No conditions of its own. -/
import Derived.Test.YtlkfpgggbjlfgaaGreatT7
set_option linter.unusedVariables false
set_option linter.unusedSimpArgs false
set_option maxHeartbeats 4000000
set_option maxRecDepth 10000
section
namespace Go.D
open Go Go.Pav Go.Pw P
attribute [-simp] List.getElem_cons_drop
variable {C:aJ}
structure ac6(C:aJ):Prop extends JA C,ajI C,ao0 C where
 aoI:GwC C 507 aiC
 aot:GwC C 554 aek
 anY:GwC C 553 agG
theorem Nh(H:ac6 C)(l:List (Bs×Bs))(e:Bool)(hl:l.length<=1000000):FnW C 554 [.ro 2 (l.map eA) e]=some (.ro 2 (l.map eA) l.isEmpty):=by
 rw[aN H.aot rfl];cases l with
 |nil=>simp[aek,abN]
 |cons a r=>
  simp only[qQx]at hl;have h1:(r.length+1)*33<=35184372088832:=by omega
  have h2:List.take r.length (List.map eA r)=List.map eA r:=qxz qqz;simp[aek,YT,Tq,jG,h1,h2]
theorem Uw(H:ac6 C)(l:List (Bs×Bs))(e:Bool):FnW C 553 [.ro 2 (l.map eA) e]=some (.ro 2 (l.map eA) true):=by have h:List.take l.length (List.map eA l)=List.map eA l:=qxz qqz;rw[aN H.anY rfl];simp[agG,h]
theorem JU{α β:Type}(f:α->β)(G:List α)(z:β)(m:Nat):(G.map f++List.replicate (m+1) z)[G.length]?=some z:=by rw[qax qqz];simp
theorem JD{α β:Type}(f:α->β)(G:List α)(z:β)(m:Nat)(y:α):(G.map f++List.replicate (m+1) z).set G.length (f y)=(G++[y]).map f++List.replicate m z:=by rw[qsz _ _ qqz];simp[qej]
theorem aeF:∀(l:List Nd) (lv c:Nat),rcs l lv c<=64->∀m∈l,rc m lv<=64
 |[],_,_,_,m,hm=>by cases hm
 |n::r,lv,c,h,m,hm=>by
  rw[rcs]at h;by_cases q:c<=64
  ·rw[qzq q]at h;have h1:=J8 r lv (c+rc n lv);rcases qjj.1 hm with e | e
   ·subst e;omega
   ·exact aeF r lv _ h m e
  ·rw[qwx q]at h;omega
mutual
theorem akj:∀(n:Nd) (lv:Nat),rc n lv<=64->rc n (lv+1)=rc n lv
 |⟨k,t,y,a,ae,x,ch,ce⟩,0,h=>by rw[rc]at h;omega
 |⟨k,t,y,a,ae,x,ch,ce⟩,lv+1,h=>by
  rw[rc]at h |-;rw[rc];by_cases q:alone ⟨k,t,y,a,ae,x,ch,ce⟩=true
  ·rw[qzq q]at h;rw[qzq q,qzq q];exact aeS ch lv 1 h
  ·rw[qwx q]at h;omega
theorem aeS:∀(l:List Nd) (lv c:Nat),rcs l lv c<=64->rcs l (lv+1) c=rcs l lv c
 |[],lv,c,h=>by rw[rcs,rcs]
 |n::r,lv,c,h=>by
  rw[rcs]at h |-;rw[rcs];by_cases q:c<=64
  ·rw[qzq q]at h;rw[qzq q,qzq q];have h1:=J8 r lv (c+rc n lv);have e:=akj n lv qqq;rw[e];exact aeS r lv _ h
  ·rw[qwx q]at h;omega
end
inductive NdV:Nd->Prop
 |mk (n:Nd) (hc:cnt n≠0) (h1:n.a.length<=8) (h2:n.ch.length<=16) (h:∀m∈n.ch,NdV m):NdV n
theorem afn:∀(lv:Nat),lv<=6->∀n:Nd,rc n lv<=64->NdV n
 |0,_,n,h=>by rw[ala]at h;omega
 |lv+1,hlv,n,h=>by
  have hup:∀j,lv+1+j<=6->rc n (lv+1+j)=rc n (lv+1):=by
   intro j;induction j with
   |zero=>intro _;rfl
   |succ j ih=>intro hj;have:=ih qqq;rw[<- qdj,akj n _ qqq];exact this
  have h6:=hup (5-lv) qqq;have e6:lv+1+(5-lv)=6:=by omega
  rw[e6]at h6;have hge:=ajz n (lv+1);have hc:cnt n≠0:=by rw[Kw,h6,qwx qqq];omega
  rw[agr]at h;by_cases q:alone n=true
  ·rw[qzq q]at h;have hb:=aeF _ _ _ h;have hq:n.a.length<=8/\n.ch.length<=16:=by
    unfold alone at q;by_cases d:n.k=2
    ·rw[qzq d]at q;simp at q;obtain⟨⟨_,q1⟩,q2⟩:=q;rw[q1,q2];simp
    ·rw[qwx d]at q;simp at q;exact⟨q.1.1.1.2,q.1.1.2⟩
   exact .mk n hc hq.1 hq.2 λm hm=>afn lv qqq m (hb m hm)
  ·rw[qwx q]at h;omega
theorem uD{n:Nd}(h:cnt n≠0):NdV n:=by
 refine afn 6 qqq n ?_;rw[Kw]at h;by_cases c:64<rc n 6
 ·rw[qzq c]at h;exact absurd rfl h
 ·omega
theorem ajU:∀(l:List En),(∀x∈l,1<=x.s/\x.s<=40)->sm l<=40*l.length
 |[],_=>by simp[sm]
 |e::r,h=>by have h1:=h e qqz;have h2:=ajU r λx hx=>h x (by simp[hx]);rw[sm];simp only[qQx];omega
theorem afG{ks:List Kd}{l:List En}(hl:l.length<=12)(hg:∀e∈l,fM ks e):Szd l:=by have:=ajU l λx hx=>(hg x hx).s;exact⟨by omega,λx hx=>by have:=(hg x hx).s;omega,by omega⟩
theorem BA.ow{e:En}(h:BA e):BA e.own:=⟨⟨h.i.k,h.i.t,h.i.m⟩,h.s⟩
@[simp] theorem Rt:∀h:aI,uV 0 h=[]
 |[]=>rfl
 |(b,o)::r=>by rw[uV,qwx qqq,Rt r]
@[simp] theorem Vg(π:Nat->Option Nat):∀h:aI,jU 0 π h=some []
 |[]=>rfl
 |(b,o)::r=>by rw[jU,qwx qqq,Vg π r]
@[simp] theorem avx(h:aI)(n:Nat)(o:dD)(k:Nat):Pav.get (Pav.put h n o) k=if n=k then some o else Pav.get h k:=get_put h n o k
end Go.D
end
section
namespace Go.D
open Go Go.Pav Go.Pw P
attribute [-simp] List.getElem_cons_drop
variable {C:aJ}{α β:Type}
theorem ahT{ks:List Kd}{x:It}(h:itE ks 12 x false=0):zq ks.length x=true/\lT (jY ks x.t).p x 12=0:=by
 unfold itE at h;cases c:zq ks.length x
 ·rw[c]at h;simp at h
 ·rw[c]at h;by_cases d:lT (jY ks x.t).p x 12=0
  ·exact⟨rfl,d⟩
  ·simp[d]at h
end Go.D
end
section
namespace Go.D
open Go Go.Pav Go.Pw P
attribute [-simp] List.getElem_cons_drop
variable {C:aJ}
structure ace(C:aJ):Prop extends ac6 C where
 aol:GwC C 417 ahU
structure LG(r:Int)(l:List En):Prop where
 hr:0<=r/\r<=255
 hl:l.length<=12
 z:Szd l
 en:∀x∈l,BA x
 ck:ckE (ay r) 12 l=0
 ck1:∀x∈l,ckE (ay r) 12 [x]=0
 t:∀x∈l,0<=x.i.t/\x.i.t<(ay r).length
 rE:∀x∈l,lT (jY (ay r) x.i.t).p x.i 12=0
theorem LG.Zl{r:Int}{l:List En}(hr:0<=r/\r<=255)(hl:l.length<=12)(hg:∀e∈l,fM (ay r) e)(hn:(bQ l).Nodup):LG r l where
 hr:=hr
 hl:=hl
 z:=afG hl hg
 en:=λx hx=>(hg x hx).en
 ck:=Zt r hr l qqq hg hn
 ck1:=λx hx=>Zt r hr [x] qqz (by intro e he;rw[qhx]at he;subst he;exact hg _ hx) (by simp[bQ])
 t:=λx hx=>by have:=(hg x hx).i.t;rw[(akt r hr).l];omega
 rE:=λx hx=>(ahT (hg x hx).ok).2
theorem G5{ks:List Kd}(h:zM ks){t:Int}(h0:0<=t/\t<ks.length):fZ (jY ks t).p:=by obtain⟨n,rfl⟩:∃n:Nat,t=n:=⟨t.toNat,by omega⟩;rw[iW (by omega:n<ks.length)];exact h.f _ (qxq _)
theorem YM{p:Pt}{x:It}(h:lT p x 12=0):cnt (A8 p x 12)≠0:=by
 unfold A8;rw[qzq h];unfold lT at h;intro c;rw[qwx qqq]at h;split at h
 ·cases h
 ·split at h
  ·cases h
  ·rw[qzq (.inl c)]at h;cases h
mutual
theorem aj0:∀n m:Nd,n.z=m.z->eqN n m=true
 |⟨k,t,y,a,ae,x,ch,ce⟩,⟨k',t',y',a',ae',x',ch',ce'⟩,h=>by rw[Nd.z,Nd.z]at h;simp only[Nd.mk.injEq,quq,zyj]at h;obtain⟨h1,h2,h3,h4,h5,h6⟩:=h;rw[eqN,adS ch ch' h6];simp[h1,h2,h3,h4,h5]
theorem adS:∀l r:List Nd,Nd.zs l=Nd.zs r->lQ l r=true
 |[],[],_=>by rw[lQ]
 |n::l,m::r,h=>by rw[Nd.zs,Nd.zs]at h;simp only[qlz]at h;rw[lQ,aj0 n m h.1,adS l r h.2];rfl
 |[],_::_,h=>by rw[Nd.zs,Nd.zs]at h;cases h
 |_::_,[],h=>by rw[Nd.zs,Nd.zs]at h;cases h
end
section
variable {r:Int}{l:List En}(L:LG r l)
end
structure Nj(C:aJ):Prop extends Yu C,wV C,ace C where
 f296:GwC C 296 P5
 f283:GwC C 283 aiB
theorem Nl(H:Nj C)(vw ov ls:Int)(a b c:Kd)(ke:Bool)(cap ar fl:Int):FnW C 296 [.agg (cCf vw ov ls [a,b,c] ke cap ar fl)]=some (aSt [] true [([],true),([],true),([],true)] false):=by rw[aN H.f296 rfl];simp[P5,H.kk];rw[au yc.eq_1];simp(disch:=omega) [P5,H.kk,aK];rw[au yc.eq_1];simp(disch:=omega) [P5,H.kk,aK];rw[au yc.eq_1];simp(disch:=omega) [P5,H.kk,aK];rw[au yc.eq_1];simp(disch:=omega) [P5,H.kk,aK];rw[au Zb.eq_1];simp(disch:=omega) [P5,H.kk,aK]
@[simp] def eW(w:Int×Int):List AV:=[.int .u16 w.1,.int .u16 w.2]
theorem Eu{n:Nd}(h:NdV n):zu n:=by
 induction h with
 |mk n hc h1 h2 h ih=>exact .mk n qqq qqq ih
def trK(ks:List Kd)(x:En):Nd:=Uk (jY ks x.i.t).p x.i 12
theorem Fe(H:ace C){r:Int}{l:List En}(L:LG r l)(f:Bool)(i:Nat)(hi:i<l.length):FnW C 417 [aR (ay r) true 12,.ro 6 (l.map eEn) f,.int .i64 i]=some (.agg (trK (ay r) l[i]).c):=by
 have hx:=qxq hi;have ht:=L.t _ hx;obtain⟨tn,htn⟩:∃tn:Nat,l[i].i.t=tn:=⟨l[i].i.t.toNat,by omega⟩;have htl:tn<(ay r).length:=by omega
 have hz0:=L.rE _ hx;have h2:=KL H.torM (jY (ay r) l[i].i.t).p (G5 (pq r) ht) l[i].i (L.en _ hx).i.k 12;unfold trK;rw[hz0,htn,iW htl]at h2;rw[htn,iW htl];generalize Uk (ay r)[tn].p l[i].i 12=N at *;rw[Pt.bU,Nd.bU]at h2;rw[Nd.bU];simp only[eIt,htn]at h2;rw[aN H.aol rfl];generalize ay r=ks at *;simp(disch:=omega) [ahU,h2,hi,htn,htl,H.kk]
theorem ab9{r:Int}{l:List En}(L:LG r l){x:En}(hx:x∈l):zu (trK (ay r) x):=by refine Eu (uD ?_);unfold trK;rw[<- zF,<- aei _ (G5 (pq r) (L.t x hx)),zF];exact YM (L.rE _ hx)
def HQ(x:Hd):Prop:=zu x.n/\∃t:Nat,x.t=t/\t<3
structure Gi(B:Nat)(ra:List Hd)(ps:List Pl):Prop where
 rl:ra.length<=12
 pl:ps.length=3
 pb:∀p∈ps,p.1.length<=B
 q:∀x∈ra,HQ x
 qp:∀p∈ps,∀x∈p.1,HQ x
theorem rowAt_all{Q:Hd->Prop}{W:List (List Hd)}(h:∀w∈W,∀x∈w,Q x)(t:Int):∀x∈rowAt W t,Q x:=by
 unfold rowAt;cases hq:W[t.toNat]? with
 |none=>simp
 |some y=>exact h y (qwj hq)
theorem QW{Q:Hd->Prop}(ks:List Kd)(l:List En)(A:List Nat):∀(ra:List Hd) (s:List (List Hd)×Int),(∀x∈ra,Q x)->(∀w∈s.1,∀x∈w,Q x)->∀w∈(cm1 ks l A ra s).1,∀x∈w,Q x
 |[],s,_,h=>by simpa [cm1]using h
 |a::r,s,h1,h=>by
  simp only[cm1];refine QW ks l A r _ (λx hx=>h1 x (by simp[hx])) ?_;split
  ·exact h
  ·split
   ·exact h
   ·intro w hw;rcases qXx hw with q | q
    ·exact h w q
    ·subst q;intro x hx;rcases qWj.1 hx with q | q
     ·exact rowAt_all h _ x q
     ·rw[qhx]at q;subst q;exact h1 _ qqz
theorem P7(ks:List Kd)(l:List En)(A:List Nat):∀(ra:List Hd) (s:List (List Hd)×Int),(cm1 ks l A ra s).1.length=s.1.length
 |[],s=>rfl
 |a::r,s=>by
  simp only[cm1];rw[P7 ks l A r];split
  ·rfl
  ·split
   ·rfl
   ·simp
theorem qL{Q:Hd->Prop}(tr:En->Nd)(ra:List Hd)(l:List En)(hl:∀e∈l,Q ⟨e.i.k,e.i.t,tr e⟩):∀(A:List Nat) (s:List Hd×List (List Hd)×Int×Int),(∀x∈s.1,Q x)->(∀w∈s.2.1,∀x∈w,Q x) ->
 (∀x∈(cm2 tr ra l A s).1,Q x)/\∀w∈(cm2 tr ra l A s).2.1,∀x∈w,Q x
 |[],s,h1,h2=>by simpa [cm2]using⟨h1,h2⟩
 |a::r,s,h1,h2=>by
  simp only[cm2];cases hq:l[a]? with
  |none=>exact qL tr ra l hl r s h1 h2
  |some e=>
   have he:=hl e (qwj hq);have h3:∀x∈s.1++[⟨e.i.k,e.i.t,tr e⟩],Q x:=by
    intro x hx;rcases qWj.1 hx with q | q
    ·exact h1 x q
    ·rw[qhx]at q;subst q;exact he
   simp only;split
   ·exact qL tr ra l hl r _ h3 h2
   ·split
    ·exact qL tr ra l hl r _ h3 h2
    ·refine qL tr ra l hl r _ h3 ?_;intro w hw;rcases qXx hw with q | q
     ·exact h2 w q
     ·subst q;intro x hx;exact rowAt_all h2 _ x (qJq hx)
theorem NW(B:Nat):∀L:List (List Hd),(∀w∈L,w.length<=B)->lS L<=64*B*L.length
 |[],_=>by simp[lS]
 |l::r,h=>by have h1:=NW B r (λw hw=>h w (by simp[hw]));have h2:=yV l;have h3:=h l qqz;simp only[lS,qQx,zwz,q2q];omega
abbrev ofH(cf:List AV)(R1 R2:List En)(g1 g2:Bool)(X:List AV)(w:List (Int×Int))(we:Bool)(ra:List Hd)(ea:Bool)(ps:List Pl)(pe:Bool):aI :=
 [(
  0,.cells 2 [[.ro 8 (ra.map eHd) ea,.ro 1 (ps.map ePl) pe]] true true),(1,.cells 2 [[.ro 6 (R1.map eEn) g1,.ro 6 (R2.map eEn) g2]] true true),(2,.cells 7 [cf] true true),(3,.cells 2 [[.ro 6 [] true,.ro 6 [] true]] true true),(4,.cells 2 [[.ro 8 [] true,.ro 1 [] true]] true true),
  (5,.cells 7 [[.int .i64 0,.int .i64 0,.int .i64 0,.ro 9 [] true,.int .i64 0,.int .i64 0,.int .u8 0]] true true),(6,.cells 7 [X] true true)]
abbrev ofE(i:Nat):List (Nat×AV):=[(12,.int .i64 i),(11,.ptr 0 0 0),(10,.ptr 1 0 0),(9,.ptr 2 0 0),(4,.ptr 3 0 0),(3,.ptr 4 0 0),(2,.ptr 5 0 0),(1,.ptr 6 0 0)]
structure JE(C:aJ):Prop extends Nj C where
 apd:GwC C 515 agX
 anJ:GwC C 432 acV
mutual
/-- A tree; all memory its own. -/
def jV:Nd->Nd
 |⟨k,t,y,a,ae,x,ch,ce⟩=>⟨k,t,y,a,true,x,Me ch,true⟩
def Me:List Nd->List Nd
 |[]=>[]
 |n::r=>jV n::Me r
end
theorem Ue:∀l:List Nd,Me l=l.map jV
 |[]=>rfl
 |n::r=>by rw[Me,Ue r];rfl
theorem QB(n:Nd):jV n=⟨n.k,n.t,n.y,n.a,true,n.x,n.ch.map jV,true⟩:=by cases n;rw[jV,Ue]
mutual
theorem VB:∀n:Nd,(jV n).z=n.z
 |⟨k,t,y,a,ae,x,ch,ce⟩=>by rw[jV,Nd.z,Nd.z,Y9 ch]
theorem Y9:∀l:List Nd,Nd.zs (Me l)=Nd.zs l
 |[]=>rfl
 |n::r=>by rw[Me,Nd.zs,Nd.zs,VB n,Y9 r]
end
theorem ac2(H:JE C)(n:Nd)(hl:n.ch.length<=16)(ih:∀c∈n.ch,FnW C 507 [.agg c.c,.bool true]=some (.agg (jV c).c)):∀m i,m+i=n.ch.length->∀G:List Nd,G.length=i->G=(n.ch.take i).map jV ->
 Ip C ⟨[(23,.int .i64 i),(22,.int .i64 n.ch.length),(21,.ro 6 (n.ch.map Nd.c) n.ce),(5,.sl 0 6 0 n.ch.length n.ch.length true),(4,.ptr 1 0 0),(2,.ptr 2 0 0),(1,.bool true)],
  [(0,.cells 6 (G.map Nd.c++List.replicate m [.int .u8 0,.str [],.str [],.ro 2 [] true,.str [],.ro 6 [] true]) true true),(1,.cells 6 [[.int .u8 0,.str [],.str [],.ro 2 [] true,.str [],.ro 6 [] true]] true true),
   (2,.cells 6 [[.int .u8 n.k,.str n.t,.str n.y,.ro 2 (n.a.map eA) true,.str n.x,.ro 6 (n.ch.map Nd.c) n.ce]] true true)],3⟩=some (.agg (jV n).c):=by
 intro m;induction m with
 |zero=>
  intro i hi G hG hGe;have h3:¬i<n.ch.length:=by omega
  have e1:n.ch.take i=n.ch:=qxz qqq;have e2:List.take n.ch.length (List.map Nd.c G)=List.map Nd.c G:=qxz qqx;rw[Nd.bU (jV n),QB];rw[e1]at hGe;rw[<- hGe];simp only[Ip];rw[au CO.eq_1];have e3:G.length=n.ch.length:=by omega
  simp(disch:=omega) [au Pg.eq_1,h3,e2,e3]
 |succ m ihm=>
  intro i hi G hG hGe;have h1:i<n.ch.length:=by omega
  have this:=ihm (i+1) qqq (G++[jV n.ch[i]]) (by simp[hG]) (by rw[hGe,qij,qqj h1,qWx];rfl);have hs:=ih n.ch[i] (qxq h1);have g1:=JU Nd.c G [.int .u8 0,.str [],.str [],.ro 2 [] true,.str [],.ro 6 [] true] m;have g2:=JD Nd.c G [.int .u8 0,.str [],.str [],.ro 2 [] true,.str [],.ro 6 [] true] m (jV n.ch[i]);rw[hG]at g1 g2;simp only[Ip]at this |-;rw[au CO.eq_1];simp at this;simp at g2;simp(disch:=omega) [h1,hs,aK,H.kk,g1,g2,this]
theorem abm(H:JE C)(n:Nd)(ha:n.a.length<=8)(hl:n.ch.length<=16)(ih:∀c∈n.ch,FnW C 507 [.agg c.c,.bool true]=some (.agg (jV c).c)):FnW C 507 [.agg n.c,.bool true]=some (.agg (jV n).c):=by
 have h1:=Nh H.toac6 n.a n.ae qqq;have h2:=Uw H.toac6 n.a n.a.isEmpty;have h3:=ac2 H n hl ih n.ch.length 0 qqq [] rfl rfl;rw[aN H.aoI rfl,Nd.bU n];simp only[Ip]at h3;simp at h3;have h4:n.ch.length*105<=35184372088832:=by omega
 simp(disch:=omega) [aiC,h1,h2,h3,h4,H.kk]
theorem Y8(H:JE C){n:Nd}(h:NdV n):FnW C 507 [.agg n.c,.bool true]=some (.agg (jV n).c):=by
 induction h with
 |mk n hc h1 h2 h ih=>exact abm H n h1 h2 ih
theorem afi(H:JE C){n:Nd}(h:cnt n≠0):FnW C 515 [.agg n.c]=some (.agg (jV n).c):=by have h1:=tu H.toOa.toUJ n;have h2:=Y8 H (uD h);rw[qwx h]at h1;rw[aN H.apd rfl];rw[Nd.bU (jV n)]at *;simp(disch:=omega) [agX,h1,h2,H.kk]
def bY(h:Hd):Hd:=⟨h.k,h.t,jV h.n⟩
abbrev zH:List AV:=[.int .u64 0,.int .u8 0,.int .u8 0,.str [],.str [],.ro 2 [] true,.str [],.ro 6 [] true]
theorem ZV(H:JE C)(l:List Hd)(e:Bool)(hl:l.length<=1000000)(hc:∀x∈l,cnt x.n≠0):∀m i,m+i=l.length->∀G:List Hd,G.length=i->G=(l.take i).map bY ->
 Ib C ⟨[(14,.int .i64 i),(13,.int .i64 l.length),(12,.ro 8 (l.map eHd) e),(3,.sl 0 8 0 l.length l.length true)],[(0,.cells 8 (G.map eHd++List.replicate m zH) true true)],1⟩=some (.ro 8 ((l.map bY).map eHd) true):=by
 intro m;induction m with
 |zero=>
  intro i hi G hG hGe;have h3:¬i<l.length:=by omega
  have e1:l.take i=l:=qxz qqq;have e2:List.take l.length (List.map eHd G)=List.map eHd G:=qxz qqx;rw[e1]at hGe;rw[<- hGe];simp only[Ib];rw[au D9.eq_1];have h4:i=l.length:=by omega
  simp(disch:=omega) [au RX.eq_1,h3,e2,hG,h4]
 |succ m ihm=>
  intro i hi G hG hGe;have h1:i<l.length:=by omega
  have this:=ihm (i+1) qqq (G++[bY l[i]]) (by simp[hG]) (by rw[hGe,qij,qqj h1,qWx];rfl);have hs:=afi H (hc _ (qxq h1));have g1:=JU eHd G zH m;have g2:=JD eHd G zH m (bY l[i]);rw[hG]at g1 g2;simp only[Ib]at this |-;rw[au D9.eq_1];simp[bY,Nd.bU]at this;simp[bY,Nd.bU]at g2 hs;simp(disch:=omega) [h1,hs,aK,H.kk,g1,g2,this,Nd.bU]
theorem Dh(H:JE C)(l:List Hd)(e:Bool)(hl:l.length<=1000000)(hc:∀x∈l,cnt x.n≠0):FnW C 432 [.ro 8 (l.map eHd) e]=some (.ro 8 ((l.map bY).map eHd) true):=by
 rw[aN H.anJ rfl];by_cases c:l.length=0
 ·have:l=[]:=qZq.1 c;subst this;simp[acV]
 ·have h:=ZV H l e hl hc l.length 0 qqz [] rfl rfl;have h4:l.length*121<=35184372088832:=by omega
  simp only[Ib]at h;simp at h;simp[acV,c,h4,h]
structure abJ(C:aJ):Prop extends JE C where
 aki:GwC C 3008 Ux
def jm(p:Pl):Pl:=(p.1.map bY,true)
theorem ahN(H:abJ C)(rk:List Hd)(ps:List Pl)(pe:Bool)(hl:ps.length<=1000)(hp:∀p∈ps,p.1.length<=1000000/\∀x∈p.1,cnt x.n≠0):∀m i,m+i=ps.length->∀G:List Pl,G.length=i->G=(ps.take i).map jm ->
 ∃n':Nat,CK C 0 (gX [.cell 2 2 true]) [.sq H9,.bk 0 ⟨true,[3,2],[]⟩,.sq DI] qF
  ⟨[(17,.int .i64 i),(16,.int .i64 ps.length),(15,.ro 1 (ps.map ePl) pe),(3,.ptr 0 0 0),(2,.ptr 2 0 0)],
   [(0,.cells 2 [[.ro 8 (rk.map eHd) true,.sl 1 1 0 ps.length ps.length true]] true false),(1,.cells 1 (G.map ePl++List.replicate m [.ro 8 [] true]) true true),(2,.cells 2 [[.ro 8 [] true,.ro 1 [] true]] true true)],3⟩ =
  some (.agg [.ro 8 (rk.map eHd) true,.sl 1 1 0 ps.length ps.length true],[(0,.cells 2 [[.ro 8 (rk.map eHd) true,.sl 1 1 0 ps.length ps.length true]] true false),(1,.cells 1 ((ps.map jm).map ePl) true true),(2,.cells 2 [[.ro 8 (rk.map eHd) true,.sl 1 1 0 ps.length ps.length true]] true false)],n'):=by
 intro m;induction m with
 |zero=>
  intro i hi G hG hGe;have h3:¬i<ps.length:=by omega
  have e1:ps.take i=ps:=qxz qqq;rw[e1]at hGe;rw[<- hGe];refine⟨?_,?_⟩
  rotate_right
  ·rw[au qF.eq_1];simp(disch:=omega) [au DI.eq_1,h3];rfl
 |succ m ihm=>
  intro i hi G hG hGe;have h1:i<ps.length:=by omega
  obtain⟨n',this⟩:=ihm (i+1) qqq (G++[jm ps[i]]) (by simp[hG]) (by rw[hGe,qij,qqj h1,qWx];rfl);have hh:=hp _ (qxq h1);have hs:=Dh H.toJE ps[i].1 ps[i].2 hh.1 hh.2;have g1:=JU ePl G [.ro 8 [] true] m;have g2:=JD ePl G [.ro 8 [] true] m (jm ps[i]);rw[hG]at g1 g2;refine⟨n',?_⟩;generalize ps.map jm=PK at *;rw[au qF.eq_1];simp[jm]at this g2;simp at hs;simp(disch:=omega) [h1,hs,aK,H.kk,g1,g2,this]
theorem Z4(H:abJ C)(ra:List Hd)(ea:Bool)(ps:List Pl)(pe:Bool)(hr:ra.length<=1000000)(hrc:∀x∈ra,cnt x.n≠0)(hl:ps.length<=1000)(hp:∀p∈ps,p.1.length<=1000000/\∀x∈p.1,cnt x.n≠0)(nid:Nat) :
 dQ (RnW C) 3008 [aSt ra ea ps pe] nid=some (.agg [.ro 8 ((ra.map bY).map eHd) true,.sl nid 1 0 ps.length ps.length true],[(nid,some (.cells 1 ((ps.map jm).map ePl) true true))]):=by
 have h0:=Dh H.toJE ra ea hr hrc;have h4:ps.length*25<=35184372088832:=by omega
 generalize ra.map bY=rk at *;obtain⟨m,h⟩:=ahN H rk ps pe hl hp ps.length 0 qqz [] rfl rfl;generalize ps.map jm=PK at *;have hr:∃m,RnW C 3008 [aSt ra ea ps pe] [] 0=some (.agg [.ro 8 (rk.map eHd) true,.sl 1 1 0 ps.length ps.length true],[(0,.cells 2 [[.ro 8 (rk.map eHd) true,.sl 1 1 0 ps.length ps.length true]] true false),(1,.cells 1 (PK.map ePl) true true),(2,.cells 2 [[.ro 8 (rk.map eHd) true,.sl 1 1 0 ps.length ps.length true]] true false)],m):=by refine⟨m,?_⟩;rw[jL (args:=[aSt ra ea ps pe]) H.aki rfl];simp at h;simp[Ux,H.kk,h0,h4,h]
 obtain⟨m,hr⟩:=hr;unfold dQ;rw[hr];simp[ob,nP,jv,Pav.get,wU,hand,nO,om]
structure qV(C:aJ):Prop extends abJ C where
 f277:GwC C 277 aiD
 f278:GwC C 278 ahP
 f279:GwC C 279 ahQ
 aoj:GwC C 427 aiO
 anV:GwC C 428 agF
 aoB:GwC C 429 ahz
 anT:GwC C 430 ahB
 anO:GwC C 514 aiP
def Gn(k:Kd):Prop:=0<=k.pl/\k.pl<=16
theorem ah5(H:qV C)(k:Kd)(h:Gn k):FnW C 427 [.agg (eKd k)]=some (.bool false):=by
 have h1:¬k.pl<0:=by have:=h.1;omega
 have h2:¬16<k.pl:=by have:=h.2;omega
 rw[aN H.aoj rfl];simp[aiO,h1,h2]
theorem abh(H:qV C)(ks:List Kd)(e:Bool)(hl:ks.length<=1000000)(hp:∀k∈ks,Gn k):∀n i,n+i=ks.length ->
 oK C ⟨[(8,.int .i64 i),(7,.int .i64 ks.length),(1,.fn 427 []),(0,.ro 9 (ks.map eKd) e)],[],0⟩=some (.int .i64 (-1)):=by
 intro n;induction n with
 |zero=>
  intro i hi;have h3:¬i<ks.length:=by omega
  simp only[oK];rw[au qX.eq_1];simp(disch:=omega) [au IZ.eq_1,h3]
 |succ n ih=>
  intro i hi;have h1:i<ks.length:=by omega
  have hb:=ah5 H ks[i] (hp _ (qxq h1));simp only[eKd]at hb;have hv:=ih (i+1) qqq;simp only[oK]at hv |-;rw[au qX.eq_1];simp at hv;simp(disch:=omega) [h1,aK,hb,H.kk,hv]
theorem adk(H:qV C)(ks:List Kd)(e:Bool)(hl:ks.length<=1000000)(hp:∀k∈ks,Gn k):FnW C 232 [.ro 9 (ks.map eKd) e,.fn 427 []]=some (.bool false):=by
 have h:=abh H ks e hl hp ks.length 0 qqz;simp only[oK]at h;simp at h;have h2:FnW C 405 [.ro 9 (ks.map eKd) e,.fn 427 []]=some (.int .i64 (-1)):=by rw[aN H.agw rfl];simp[ae6,h]
 rw[aN H.f232 rfl];simp[aax,H.kk,h2]
theorem sN(H:qV C)(vw ov ls:Int)(ks:List Kd)(ke:Bool)(cap ar fl:Int):FnW C 279 [.agg (cCf vw ov ls ks ke cap ar fl)]=some (aR ks ke cap):=by rw[aN H.f279 rfl];simp[ahQ,H.kk]
theorem DZ(H:qV C)(vw ov ls:Int)(ks:List Kd)(ke:Bool)(cap ar fl:Int)(hr:zM ks)(hk:JX ks cap=true)(hl:ks.length<=1000)(hp:∀k∈ks,Gn k)(ha:1<=ar/\ar<=65536):FnW C 277 [.agg (cCf vw ov ls ks ke cap ar fl)]=some (.int .i64 0):=by
 have h1:=sN H vw ov ls ks ke cap ar fl;have h2:=Ua H.tozk ks ke cap hr;have h3:=adk H ks ke qqq hp;rw[qzq hk]at h2;have a1:¬ar<1:=by omega
 have a2:¬65536<ar:=by omega
 rw[aN H.f277 rfl];simp[aiD,H.kk,h1,h2,h3,a1,a2]
structure VH(ks:List Kd)(cap:Int)(h:Hd):Prop where
 k:h.k≠0
 t:∃t:Nat,h.t=t/\t<ks.length
 c:cnt h.n≠0/\(cnt h.n:Int)<=cap
 n:h.n.k=(jY ks h.t).p.k/\h.n.t=(jY ks h.t).p.t
theorem L9(H:qV C)(vw ov ls:Int)(ks:List Kd)(ke:Bool)(cap ar fl:Int)(h:Hd)(V:VH ks cap h)(hl:ks.length<=255):FnW C 428 [.agg (cCf vw ov ls ks ke cap ar fl),.agg (eHd h)]=some (.bool true):=by
 have h1:=tu H.toOa.toUJ h.n;have h2:=Dw H.toOa.toUJ h.n;have hv:=V.k;obtain⟨t,ht,htl⟩:=V.t;rw[qwx V.c.1]at h1;have hc:¬cap<(cnt h.n:Int):=by have:=V.c.2;omega
 have hn:=V.n;rw[ht,iW htl]at hn;rw[Nd.bU,hn.1,hn.2]at h1 h2;have c1:¬(ks.length:Int)<=t:=by omega
 rw[aN H.anV rfl];unfold eHd;rw[Nd.bU];simp(disch:=omega) [agF,H.kk,aK,h1,h2,hv,ht,htl,hc,c1,hn.1,hn.2]
section
variable (vw ov ls:Int)(ks:List Kd)(ke:Bool)(cap ar fl:Int)
theorem akW(H:qV C)(hl:ks.length<=255)(i:Nat)(h:Hd)(V:VH ks cap h)(ht:h.t=i):FnW C 430 [.agg (eHd h),.rop [.int .i64 i],.rop (cCf vw ov ls ks ke cap ar fl)]=some (.bool false):=by
 have h1:=L9 H vw ov ls ks ke cap ar fl h V hl;obtain⟨t,hq,htl⟩:=V.t;have hti:t=i:=by omega
 subst hti;rw[aN H.anT rfl];unfold eHd at h1 |-;rw[Nd.bU]at h1 |-;rw[ht]at h1 |-;simp(disch:=omega) [ahB,H.kk,h1,aK]
theorem abE(H:qV C)(hl:ks.length<=255)(i:Nat)(l:List Hd)(e:Bool)(hll:l.length<=1000000)(hv:∀h∈l,VH ks cap h/\h.t=i):∀n k,n+k=l.length ->
 IB C ⟨[(8,.int .i64 k),(7,.int .i64 l.length),(1,.fn 430 [.rop [.int .i64 i],.rop (cCf vw ov ls ks ke cap ar fl)]),(0,.ro 8 (l.map eHd) e)],[],0⟩=some (.int .i64 (-1)):=by
 intro n;induction n with
 |zero=>
  intro k hk;have h3:¬k<l.length:=by omega
  simp only[IB];rw[au DL.eq_1];simp(disch:=omega) [au OM.eq_1,h3]
 |succ n ih=>
  intro k hk;have h1:k<l.length:=by omega
  have hb:=akW vw ov ls ks ke cap ar fl H hl i l[k] (hv _ (qxq h1)).1 (hv _ (qxq h1)).2;simp only[eHd]at hb;have hq:=ih (k+1) qqq;simp only[IB]at hq |-;rw[au DL.eq_1];simp at hq;simp(disch:=omega) [h1,aK,hb,H.kk,hq]
theorem ahr(H:qV C)(hl:ks.length<=255)(i:Nat)(l:List Hd)(e:Bool)(hll:l.length<=1000000)(hv:∀h∈l,VH ks cap h/\h.t=i) :
 FnW C 429 [.ro 8 (l.map eHd) e,.fn 430 [.rop [.int .i64 i],.rop (cCf vw ov ls ks ke cap ar fl)]]=some (.bool false):=by
 have h:=abE vw ov ls ks ke cap ar fl H hl i l e hll hv l.length 0 qqz;simp only[IB]at h;simp at h;have h2:FnW C 514 [.ro 8 (l.map eHd) e,.fn 430 [.rop [.int .i64 i],.rop (cCf vw ov ls ks ke cap ar fl)]]=some (.int .i64 (-1)):=by rw[aN H.anO rfl];simp[aiP,h]
 rw[aN H.aoB rfl];simp[ahz,H.kk,h2]
structure CkS(ra:List Hd)(ps:List Pl):Prop where
 rl:ra.length<=1024
 rv:∀h∈ra,VH ks cap h
 rn:(ra.map Hd.k).Nodup
 pl:ps.length=ks.length
 pv:∀(i:Nat) (p:Pl),ps[i]?=some p->(p.1.length:Int)<=vk ks i/\∀h∈p.1,VH ks cap h/\h.t=i
theorem TU(H:qV C)(hl:ks.length<=255)(hpm:∀k∈ks,Gn k)(ra:List Hd)(ps:List Pl)(pe:Bool)(S:CkS ks cap ra ps):∀n i,n+i=ps.length ->
 GY C ⟨[(54,.int .i64 i),(53,.int .i64 ps.length),(52,.ro 1 (ps.map ePl) pe),(2,.ptr 0 0 0)],[(0,.cells 7 [cCf vw ov ls ks ke cap ar fl] true true)],1⟩=some (.int .i64 0):=by
 intro n;induction n with
 |zero=>
  intro i hi;have h3:¬i<ps.length:=by omega
  simp only[GY];rw[au Ar.eq_1];simp(disch:=omega) [au Om.eq_1,h3]
 |succ n ih=>
  intro i hi;have h1:i<ps.length:=by omega
  have h2:i<ks.length:=by rw[<- S.pl];exact h1
  obtain⟨hc,hv⟩:=S.pv i ps[i] (qqj h1);have hm:=hpm _ (qxq h2);have hk:=hc;simp[vk,h2]at hk;have hb:=ahr vw ov ls ks ke cap ar fl H hl i ps[i].1 ps[i].2 (by have:=hm.2;omega) hv;have hq:=ih (i+1) qqq;simp only[GY]at hq |-;rw[au Ar.eq_1];try simp at hb
  simp at hq;have hk2:¬ks[i].pl<(ps[i].1.length:Int):=by omega
  simp(disch:=omega) [H.kk,h1,h2,hk2,hb,aK,hq]
theorem XB(H:qV C)(hl:ks.length<=255)(ra:List Hd)(ea:Bool)(ps:List Pl)(pe:Bool)(S:CkS ks cap ra ps):∀n i,n+i=ra.length ->
 Hw C ⟨[(33,.int .i64 i),(32,.int .i64 ra.length),(31,.ro 8 (ra.map eHd) ea),(6,.map 0),(3,.ptr 1 0 0),(2,.ptr 2 0 0)],
  [(0,.map (vO ((ra.take i).map Hd.k))),(1,.cells 2 [[.ro 8 (ra.map eHd) ea,.ro 1 (ps.map ePl) pe]] true true),(2,.cells 7 [cCf vw ov ls ks ke cap ar fl] true true)],3⟩ =
  CK C 0 (aO [.tmp 4]) [] Iu ⟨[(3,.ptr 0 0 0),(2,.ptr 1 0 0)],[(0,.cells 2 [[.ro 8 (ra.map eHd) ea,.ro 1 (ps.map ePl) pe]] true true),(1,.cells 7 [cCf vw ov ls ks ke cap ar fl] true true)],2⟩:=by
 intro n;induction n with
 |zero=>
  intro i hi;have h3:¬i<ra.length:=by omega
  simp only[Hw];rw[au C9.eq_1];simp(disch:=omega) [h3]
 |succ n ih=>
  intro i hi;have h1:i<ra.length:=by omega
  have hrl:=S.rl;have hv:=L9 H vw ov ls ks ke cap ar fl ra[i] (S.rv _ (qxq h1)) hl;have hno:((ra.take i).map Hd.k).contains ra[i].k=false:=by
   have hn:=S.rn;rw[<- q3j i ra,qWx,qpq]at hn;cases q:((ra.take i).map Hd.k).contains ra[i].k
   ·rfl
   ·have q1:=qVq.1 q;have q2:ra[i].k∈(ra.drop i).map Hd.k:=by rw[drop_cons h1];simp
    exact absurd rfl (hn.2.2 _ q1 _ q2)
  have hg:=CS ra[i].k ((ra.take i).map Hd.k);have hp:=Ea ra[i].k ((ra.take i).map Hd.k) hno;rw[hno]at hg;have hq:=ih (i+1) qqq;have ht:(ra.take (i+1)).map Hd.k=(ra.take i).map Hd.k++[ra[i].k]:=by rw[qij,qqj h1,qWx];rfl
  rw[ht]at hq;generalize (ra.take i).map Hd.k=K at *;simp only[Hw]at hq |-;rw[au C9.eq_1];unfold eHd at hv;rw[Nd.bU]at hv;simp at hq;simp(disch:=omega) [H.kk,h1,hv,hg,hp,aK,hq,Nd.bU]
theorem o9(H:qV C)(hF:FnW C 277 [.agg (cCf vw ov ls ks ke cap ar fl)]=some (.int .i64 0))(hl:ks.length<=255)(hpm:∀k∈ks,Gn k)(ra:List Hd)(ea:Bool)(ps:List Pl)(pe:Bool)(S:CkS ks cap ra ps) :
 FnW C 278 [.agg (cCf vw ov ls ks ke cap ar fl),aSt ra ea ps pe]=some (.int .i64 0):=by
 have h1:¬1024<(ra.length:Int):=by have:=S.rl;omega
 have h2:=XB vw ov ls ks ke cap ar fl H hl ra ea ps pe S ra.length 0 qqz;have h3:=TU vw ov ls ks ke cap ar fl H hl hpm ra ps pe S ps.length 0 qqz;have hpl:=S.pl;simp only[Hw,q9x,qgz,Uh]at h2;simp only[GY]at h3;rw[aN H.f278 rfl];rw[au Iu.eq_1]at h2;simp at h2 h3;simp[ahP,H.kk,hF,h1,hpl,h2];rw[hpl]at h3;simpa using h3
end
structure Yz(C:aJ):Prop extends qV C where
 f290:GwC C 290 aam
def tmP(n:Nat)(p:Pl):Pl:=((p.1.drop (p.1.length-n)).map bY,true)
def tmD(n:Nat):List Pl->Nat
 |[]=>0
 |p::r=>(p.1.length-n)+tmD n r
theorem Ko(n B:Nat):∀l:List Pl,(∀p∈l,p.1.length<=B)->tmD n l<=B*l.length
 |[],_=>by simp[tmD]
 |p::r,h=>by have h1:=Ko n B r (λq hq=>h q (by simp[hq]));have h2:=h p qqz;simp only[tmD,qQx,zwz,q2q];omega
theorem VA(H:Yz C)(rk:List Hd)(PK:List Pl)(n:Nat)(hn:n<=16)(hl:PK.length<=1000)(hp:∀p∈PK,p.1.length<=1000000/\∀x∈p.1,cnt x.n≠0):∀m i,m+i=PK.length->∀(G:List Pl) (d:Nat),G.length=i->d+1000000*m<=1000000000 ->
 Ja C ⟨[(34,.int .i64 i),(33,.int .i64 PK.length),(32,.sl 0 1 0 PK.length PK.length true),(11,.int .i64 d),(10,.ptr 1 0 0),(6,.ptr 2 0 0),(2,.int .i64 n)],
  [(0,.cells 1 ((G++PK.drop i).map ePl) true true),(1,.cells 2 [[.ro 8 (rk.map eHd) true,.sl 0 1 0 PK.length PK.length true]] true false),(2,.cells 2 [[.ro 8 [] true,.ro 1 [] true]] true true)],3⟩ =
  some (.tup [aSt rk true (G++(PK.drop i).map (tmP n)) true,.int .i64 (d+tmD n (PK.drop i):Nat),.int .i64 0]):=by
 intro m;induction m with
 |zero=>
  intro i hi G d hG hd;have h3:¬i<PK.length:=by omega
  have h4:PK.drop i=[]:=qzx qqq;have h5:List.take PK.length (G.map ePl)=G.map ePl:=qxz qqx;simp only[Ja];rw[au CB.eq_1];rw[h4];simp(disch:=omega) [au Qx.eq_1,h3,h5,tmD,show G.length=PK.length by omega]
  trace_state
 |succ m ih=>
  intro i hi G d hG hd;have h1:i<PK.length:=by omega
  have hh:=hp _ (qxq h1);obtain⟨D,hD⟩:∃D,D=PK[i].1.length-n:=⟨_,rfl⟩;have hx:imax 0 ((PK[i].1.length:Int)-n)=(D:Int):=by
   by_cases c:(PK[i].1.length:Int)-n<=0
   ·rw[JO c];omega
   ·rw[WY qqq];omega
  have hs:=Dh H.toJE (PK[i].1.drop D) PK[i].2 qqx (λx hx=>hh.2 x (qXz hx));have ht:List.drop D (List.take PK[i].1.length (PK[i].1.map eHd))=(PK[i].1.drop D).map eHd:=by rw[qxz qqz,q4x]
  have hq:=ih (i+1) qqq (G++[tmP n PK[i]]) (d+D) (by simp[hG]) qqq;have hg:((G++PK.drop i).map ePl)[i]?=some (ePl PK[i]):=by rw[qQq,qax qqq,hG,zQx,drop_cons h1];rfl
  have hst:((G++PK.drop i).map ePl).set i (ePl (tmP n PK[i]))=(G++[tmP n PK[i]]++PK.drop (i+1)).map ePl:=by rw[drop_cons h1,qWx,qsz _ _ qqx];simp[hG]
  have hr:d+tmD n (PK.drop i)=(d+D)+tmD n (PK.drop (i+1)):=by rw[drop_cons h1,tmD];omega
  have hr2:G++(PK.drop i).map (tmP n)=G++[tmP n PK[i]]++(PK.drop (i+1)).map (tmP n):=by rw[drop_cons h1];simp
  rw[hr,hr2];generalize G++[tmP n PK[i]]++(PK.drop (i+1)).map (tmP n)=RES at *;rw[<- hst]at hq;generalize (G++PK.drop i).map ePl=Z at *;simp only[Ja]at hq |-;rw[au CB.eq_1];simp[tmP,<- hD]at hq;try simp at hs
  try simp at ht
  simp at hg;have hDl:D<=PK[i].1.length:=by omega
  have hb1:=hh.1;simp(disch:=omega) [H.kk,h1,hx,hs,ht,hg,aK,hDl,hq]
  trace_state
theorem AL(n:Nd):cnt (jV n)=cnt n:=by rw[<- zF (jV n),VB,zF]
theorem Yd(n:Nat):∀l:List Pl,tmD n (l.map jm)=tmD n l
 |[]=>rfl
 |p::r=>by simp only[qvj,tmD,Yd n r,jm,qQj]
theorem Vm(H:Yz C)(vw ov ls:Int)(ks:List Kd)(ke:Bool)(cap ar fl:Int)(ra:List Hd)(ea:Bool)(ps:List Pl)(pe:Bool)(hF:FnW C 278 [.agg (cCf vw ov ls ks ke cap ar fl),aSt ra ea ps pe]=some (.int .i64 0))(n:Nat)(hn:n<=16)
 (hr:ra.length<=1000000) (hrc:∀x∈ra,cnt x.n≠0) (hl:ps.length<=1000) (hp:∀p∈ps,p.1.length<=1000000/\∀x∈p.1,cnt x.n≠0) :
 FnW C 290 [.agg (cCf vw ov ls ks ke cap ar fl),aSt ra ea ps pe,.int .i64 n]=some (.tup [aSt (ra.map bY) true ((ps.map jm).map (tmP n)) true,.int .i64 (tmD n ps:Nat),.int .i64 0]):=by
 have hx:=Z4 H.toabJ ra ea ps pe hr hrc hl hp;have h1:¬(n:Int)<0:=by omega
 have h2:¬16<(n:Int):=by omega
 have h3:=VA H (ra.map bY) (ps.map jm) n hn (by simpa using hl) (λp hp2=>by obtain⟨q,hq,rfl⟩:=qkx.1 hp2;have:=hp q hq;refine⟨by simpa [jm]using this.1,λx hx=>?_⟩;simp only[jm,qkx]at hx;obtain⟨y,hy,rfl⟩:=hx;simp only[bY,AL];exact this.2 y hy) (ps.map jm).length 0 qqz [] 0 rfl qqx;rw[qjz,qYz,Yd]at h3;simp only[qYz,qXj]at h3;have hpl:(ps.map jm).length=ps.length:=by simp
 rw[hpl]at h3;generalize (ps.map jm).map (tmP n)=RES at *;generalize ps.map jm=PK at *;generalize ra.map bY=rk at *;simp only[Ja]at h3;simp at h3;rw[aN H.f290 rfl];simp[aam,H.kk,hF,h1,h2,hx,h3]
theorem NG(H:Yz C)(vw ov ls:Int)(ks:List Kd)(ke:Bool)(cap ar fl:Int)(ra:List Hd)(ea:Bool)(ps:List Pl)(pe:Bool)(hF:FnW C 278 [.agg (cCf vw ov ls ks ke cap ar fl),aSt ra ea ps pe]=some (.int .i64 0))(n:Int)(hn:n<0\/16<n) :
 FnW C 290 [.agg (cCf vw ov ls ks ke cap ar fl),aSt ra ea ps pe,.int .i64 n]=some (.tup [aSt [] true [] true,.int .i64 0,.int .i64 4]):=by
 rw[aN H.f290 rfl];by_cases c:n<0
 ·simp[aam,H.kk,hF,c]
 ·have c2:16<n:=by omega
  simp[aam,H.kk,hF,c,c2]
end Go.D
end
section
namespace Go.D
open Go Go.Pav Go.Pw P
set_option maxHeartbeats 1000000
attribute [-simp] List.getElem_cons_drop
variable {C:aJ}
structure ajy(C:aJ):Prop extends Yz C where
 f291:GwC C 291 acT
def TlH(o:Option dD)(b:Nat)(v:AV)(d:List Hd):Prop :=
 (d=[]/\v=.sl b 8 0 0 0 true/\o=some (.cells 8 [] true true))\/∃(es:List Hd) (j:Nat),d=es.drop j/\j<=es.length/\es≠[]/\o=some (.cells 8 (eHs es) true true) /\
  ((j=es.length/\v=.ro 8 [] false)\/(j<es.length/\v=.sl b 8 j (es.length-j) (es.length-j) false))
theorem nM.tl{o:Option dD}{b:Nat}{v:AV}{d:List Hd}(h:nM o b v d):TlH o b v d:=by
 rcases h with⟨rfl,h1,h2⟩|⟨h0,h1,h2⟩
 ·exact .inl ⟨rfl,h1,h2⟩
 ·exact .inr ⟨d,0,rfl,zkj _,h0,h2,.inr ⟨List.length_pos_iff.2 h0,by simpa using h1⟩⟩
theorem TlH.frz{h:aI}{b:Nat}{v:AV}{d:List Hd}(q:TlH (Pav.get h b) b v d)(n:Nat):∃ex,bD h (n+2) v=some (.ro 8 (eHs d) ex):=by
 rcases q with⟨rfl,rfl,h2⟩|⟨es,j,rfl,hj,h0,h2,⟨rfl,rfl⟩|⟨hj2,rfl⟩⟩
 ·exact⟨true,by rw[ji,h2];simp[Pw.pK,og]⟩
 ·exact⟨false,by rw[Hf];simp⟩
 ·refine⟨false,?_⟩;have h5:List.take (es.length-j) (List.drop j (eHs es))=eHs (es.drop j):=by rw[qxz qqz];simp
  rw[ji,h2];have h6:j+(es.length-j)=es.length:=by omega
  simp[Pw.pK,og,h5,h6]
structure TmI(RW:AV)(pb q lo k:Nat)(hz:aI)(h:aI)(next:Nat)(cs:List (List AV))(W:List (List Hd))(id:Nat->Nat):Prop where
 R:kG TlH h lo next id cs W
 wl:W.length=k
 gq:Pav.get h q=some (.cells 2 [[RW,.sl pb 1 0 k k false]] true false)
 gp:Pav.get h pb=some (.cells 1 cs true false)
 g1:Pav.get h 1=some (.cells 2 [[.ro 8 [] true,.ro 1 [] true]] true true)
 gz:∀j,j<lo->Pav.get h j=Pav.get hz j
 ne:1<lo/\lo<=pb/\lo<=q/\pb≠q/\pb<next/\q<next
 nd:∀j,j<k->id j≠pb/\id j≠q
theorem TmI.later{RW:AV}{pb q lo k:Nat}{hz h:aI}{next next':Nat}{cs:List (List AV)}{W:List (List Hd)}{id:Nat->Nat}(T:TmI RW pb q lo k hz h next cs W id)(hn:next<=next'):TmI RW pb q lo k hz h next' cs W id :=⟨T.R.mono hn (λ_ _=>rfl),T.wl,T.gq,T.gp,T.g1,T.gz,by have:=T.ne;omega,T.nd⟩
theorem abp{α:Type}{l:List α}{i:Nat}{a:α}(h:l[i]?=some a):l.set i a=l:=by obtain⟨h1,rfl⟩:=qzj.1 h;exact List.set_getElem_self h1
theorem aoY(RW:AV)(pb q lo k:Nat)(hz:aI)(i n:Nat)(hn:n<=16):∀d (x:List Hd),x.length<=1000000->(x.length=n+d\/(d=0/\x.length<=n))->∀(h:aI) (next:Nat) (cs:List (List AV)) (W:List (List Hd)) (id:Nat->Nat) (c:Nat),
 TmI RW pb q lo k hz h next cs W id->W[i]?=some x->c+d<=1000000000 ->
 ∃h' next' cs' id',CK C 0 (aO [.cell 4 2 true,.tmp 5]) [.sq OJ,.bk 2 ⟨true,[8,7,6,4,1],[(9999,65537)]⟩,.bk 1 ⟨true,[8,7,6,4,1],[(9999,65537)]⟩,.sq IE,.sq Au,.bk 0 ⟨true,[7,6,4],[(9999,65537)]⟩,.sq xw] Ah
  ⟨[(8,.int .i64 i),(7,.int .i64 c),(6,.ptr q 0 0),(4,.ptr 1 0 0),(1,.int .i64 n)],h,next⟩ =
  CK C 0 (aO [.cell 4 2 true,.tmp 5]) [.sq Au,.bk 0 ⟨true,[7,6,4],[(9999,65537)]⟩,.sq xw] IE
   ⟨[(8,.int .i64 i),(7,.int .i64 (c+d:Nat)),(6,.ptr q 0 0),(4,.ptr 1 0 0),(1,.int .i64 n)],h',next'⟩ /\
  TmI RW pb q lo k hz h' next' cs' (W.set i (x.drop d)) id':=by
 intro d;induction d with
 |zero=>
  intro x hx hd h next cs W id c T hw hc
  have hi:i<W.length:=(qzj.1 hw).1;obtain⟨v,hv,hP⟩:=T.R.row i x hw;have hi2:i<cs.length:=by rw[T.R.len];exact hi
  rw[qqj hi2]at hv;replace hv:=qkq hv;have hik:i<k:=by rw[<- T.wl];exact hi
  have hto:¬(n:Int)<(x.length:Int):=by omega
  refine⟨h,next+8,cs,id,?_,by rw[qjz,abp hw];exact T.later qqq⟩;rw[au Ah.eq_1];rcases hP with⟨rfl,rfl,_⟩|⟨es,j,rfl,hj,h0,_,⟨rfl,rfl⟩|⟨hj2,rfl⟩⟩
  ·simp(disch:=omega) [T.gq,T.gp,hi2,hik,hv,hto]
  ·simp(disch:=omega) [T.gq,T.gp,hi2,hik,hv,hto]
  ·rw[qbj]at hto;simp(disch:=omega) [T.gq,T.gp,hi2,hik,hv,hto]
 |succ d ih=>
  intro x hx hd h next cs W id c T hw hc
  replace hd:x.length=n+(d+1):=by rcases hd with q|⟨q,_⟩<;>omega
  have hi:i<W.length:=(qzj.1 hw).1;obtain⟨v,hv,hP⟩:=T.R.row i x hw;have hi2:i<cs.length:=by rw[T.R.len];exact hi
  rw[qqj hi2]at hv;replace hv:=qkq hv;have hik:i<k:=by rw[<- T.wl];exact hi
  have hto:(n:Int)<(x.length:Int):=by omega
  have hbd:=T.R.bd i hi;have ne:=T.ne;have hnd:=T.nd i hik;rcases hP with⟨rfl,_⟩|⟨es,j,rfl,hj,h0,ho,⟨rfl,_⟩|⟨hj2,rfl⟩⟩
  ·simp at hd
  ·simp at hd
  rw[qbj]at hd hto;obtain⟨nv,hnv⟩:∃nv:AV,nv=if es.length-j=1 then .ro 8 [] false else .sl (id i) 8 (j+1) (es.length-j-1) (es.length-j-1) false:=⟨_,rfl⟩;have hT:TmI RW pb q lo k hz (put h pb (.cells 1 (cs.set i [nv]) true false)) (next+22) (cs.set i [nv]) (W.set i (es.drop (j+1))) (λu=>if u=i then id i else id u):=by
   refine⟨T.R.set i hi (id i) (.inl rfl) hbd.1 qqq qqq nv (es.drop (j+1)) (λu hu hui=>aj (qYx (T.nd u (by rw[<- T.wl];exact hu)).1)) ?_,by simp[T.wl],by rw[aj qqq];exact T.gq,ak ..,by rw[aj qqq];exact T.g1, λu hu=>by rw[aj qqq];exact T.gz u hu,by omega,λu hu=>by have:=T.nd u hu;split<;>assumption⟩;rw[aj qqq];refine .inr ⟨es,j+1,rfl,by omega,h0,ho,?_⟩;rw[hnv];by_cases c1:es.length-j=1
   ·rw[qzq c1];exact .inl ⟨by omega,rfl⟩
   ·rw[qwx c1];exact .inr ⟨by omega,by rw[show es.length-(j+1)=es.length-j-1 by omega]⟩
  obtain⟨h',next',cs',id',e1,e2⟩:=ih (es.drop (j+1)) (by simp at hx |-;omega) (.inl qqx) _ _ _ _ _ (c+1) hT (by rw[qez hi]) qqq;refine⟨h',next',cs',id',?_,?_⟩
  ·rw[show c+(d+1)=c+1+d by omega,<- e1,au Ah.eq_1];have hj3:1<=es.length-j:=by omega
   by_cases c1:es.length-j=1
   ·rw[qzq c1]at hnv;subst hnv;have hn0:n=0:=by omega
    simp(disch:=omega) [T.gq,T.gp,hi2,hik,hv,hto,hj3,c1,hn0,aK,ak,aj]
   ·rw[qwx c1]at hnv;subst hnv;have hj4:1<es.length-j:=by omega
    simp(disch:=omega) [T.gq,T.gp,hi2,hik,hv,hto,hj3,hj4,c1,aK,ak,aj]
  ·rw[List.set_set,zvx,show j+1+d=j+(d+1)by omega]at e2;rw[zvx];exact e2
theorem amq{h:aI}{lo hi pb rb:Nat}{id:Nat->Nat}{cs:List (List AV)}{W:List (List Hd)}{O:List Hd}{RW:AV}(hR:(O=[]/\RW=.ro 8 [] true)\/(RW=.sl rb 8 0 O.length O.length false/\Pav.get h rb=some (.cells 8 (eHs O) true true)))
 (R:kG TlH h lo hi id cs W) (gp:Pav.get h pb=some (.cells 1 cs true false)) (r:Nat) (hr:r=W.length) (n:Nat):∃eo ps' pe',ps'.map (·.1)=W/\bD h (n+4) (.agg [RW,.sl pb 1 0 r r false])=some (aSt O eo ps' pe'):=by
 subst hr;obtain⟨ps,pe,h1,h2⟩:=R.pK (enc:=eHs) (z:=8) n (λb v d q=>TlH.frz q n) (mu:=true) (cap:=W.length) (ex:=false);rcases hR with⟨rfl,rfl⟩|⟨rfl,h3⟩
 ·refine⟨true,ps,pe,h1,?_⟩;rw[fO];simp only[aZ,Hf,ji,gp,h2,ob,om,ED];rfl
 ·refine⟨false,ps,pe,h1,?_⟩;have h4:List.take O.length (eHs O)=eHs O:=qxz qqz;rw[fO];simp only[aZ,ji,gp,h2,h3,ob,om,ED];simp only[Pw.pK,qjz,h4,qQj,qlj,og,qiz,ob,om,ED];rfl
def dN(n:Nat)(x:List Hd):List Hd:=x.drop (x.length-n)
def tmL(n:Nat):List (List Hd)->Nat
 |[]=>0
 |x::r=>(x.length-n)+tmL n r
theorem ady(n:Nat):∀l:List Pl,tmL n (l.map (·.1))=tmD n l
 |[]=>rfl
 |p::r=>by simp only[qvj,tmL,tmD,ady n r]
theorem am1(RW:AV)(pb q lo n0:Nat)(hz:aI)(ra:List Hd)(hRW:ake hz n0 lo RW ra)(n:Nat)(hn:n<=16)(L:List (List Hd))(hL:L.length<=100)(hx:∀x∈L,x.length<=1000000)(hn0:2<=n0):∀m i,m+i=L.length->∀(h:aI) (next:Nat) (cs:List (List AV)) (id:Nat->Nat) (c:Nat),
 TmI RW pb q lo L.length hz h next cs ((L.take i).map (dN n)++L.drop i) id->c<=1000000*i ->
 ∃(eo:Bool) (ps':List Pl) (pe':Bool),ps'.map (·.1)=L.map (dN n)/\CK C 0 (aO [.cell 4 2 true,.tmp 5]) [.sq Au,.bk 0 ⟨true,[7,6,4],[(9999,65537)]⟩,.sq xw] AB
  ⟨[(8,.int .i64 i),(7,.int .i64 c),(6,.ptr q 0 0),(4,.ptr 1 0 0),(1,.int .i64 n)],h,next⟩=some (.tup [aSt ra eo ps' pe',.int .i64 (c+tmL n (L.drop i):Nat)]):=by
 intro m;induction m with
 |zero=>
  intro i hi h next cs id c T hc
  have h3:¬i<L.length:=by omega
  rw[qxz qqq,qzx qqq,qKz]at T;rw[qzx qqq];have ne:=T.ne;obtain⟨hf,hfe⟩:∃hf,hf=put h 1 (.cells 2 [[RW,.sl pb 1 0 L.length L.length false]] true false):=⟨_,rfl⟩;have hg:∀j,j≠1->Pav.get hf j=Pav.get h j:=λj hj=>by rw[hfe,aj qqq]
  have hR:∃rb,(ra=[]/\RW=.ro 8 [] true)\/(RW=.sl rb 8 0 ra.length ra.length false/\Pav.get hf rb=some (.cells 8 (eHs ra) true true)):=by
   rcases hRW with u|⟨_,rb,u2,u3,u4,u5⟩
   ·exact⟨0,.inl u⟩
   ·exact⟨rb,.inr ⟨u2,by rw[hg rb qqq,T.gz rb u5];exact u3⟩⟩
  obtain⟨rb,hR⟩:=hR;obtain⟨eo,ps',pe',f1,f2⟩:=amq hR (T.R.mono (qxx _) (λj hj=>hg (id j) (by have:=(T.R.bd j hj).1;omega))) (by rw[hg pb qqq];exact T.gp) L.length qqz 11;refine⟨eo,ps',pe',f1,?_⟩;rw[hfe]at f2;rw[au AB.eq_1];rcases hR with⟨r1,rfl⟩|⟨rfl,r2⟩
  ·simp(disch:=omega) [T.gq,T.gp,T.g1,h3,au xw.eq_1,ak,aj,-fO,tmL];rw[f2];rfl
  ·simp(disch:=omega) [T.gq,T.gp,T.g1,h3,au xw.eq_1,ak,aj,-fO,tmL];rw[f2];rfl
 |succ m ih=>
  intro i hi h next cs id c T hc
  have h3:i<L.length:=by omega
  have hxi:=hx _ (qxq h3);have hW:((L.take i).map (dN n)++L.drop i)[i]?=some L[i]:=by
   rw[qax qqx,drop_cons h3];have:i-(List.map (dN n) (List.take i L)).length=0:=by simp;omega
   rw[this];rfl
  have hWs:((L.take i).map (dN n)++L.drop i).set i (dN n L[i])=(L.take (i+1)).map (dN n)++L.drop (i+1):=by
   rw[qsz _ _ qqx,drop_cons h3,qZj h3];have:i-(List.map (dN n) (List.take i L)).length=0:=by simp;omega
   rw[this,qWx,qvj,List.set_cons_zero,q2j];rfl
  obtain⟨h',next',cs',id',e1,e2⟩:=aoY (C:=C) RW pb q lo L.length hz i n hn (L[i].length-n) L[i] hxi qqq h (next+5) cs _ id c (T.later qqq) hW qqq;change TmI RW pb q lo L.length hz h' next' cs' (((L.take i).map (dN n)++L.drop i).set i (dN n L[i])) id' at e2;rw[hWs]at e2;obtain⟨eo,ps',pe',f1,f2⟩:=ih (i+1) qqq h' (next'+3) cs' id' (c+(L[i].length-n)) (e2.later qqq) qqq;refine⟨eo,ps',pe',f1,?_⟩;rw[drop_cons h3,tmL,<- qdj,<- f2,au AB.eq_1];generalize L[i].length-n=D at *;simp at e1;simp(disch:=omega) [T.gq,h3];rw[e1,au IE.eq_1];simp(disch:=omega) [aK]
end Go.D
end
section
namespace Go.D
open Go Go.Pav Go.Pw P
set_option maxHeartbeats 2000000
attribute [-simp] List.getElem_cons_drop
variable {C:aJ}
theorem Nk(H:ajy C)(ra:List Hd)(ea:Bool)(ps:List Pl)(pe:Bool)(n:Nat)(hn:n<=16)(hra:ra.length<=1000)(hpl:ps.length<=100)(hp0:0<ps.length)(hps:∀p∈ps,p.1.length<=1000000) :
 ∃(eo:Bool) (ps':List Pl) (pe':Bool),ps'.map (·.1)=(ps.map (·.1)).map (dN n)/\FnW C 291 [aSt ra ea ps pe,.int .i64 n]=some (.tup [aSt ra eo ps' pe',.int .i64 (tmD n ps:Nat)]):=by
 obtain⟨v,h',n',e1,Rv,pb,cs,id,lo,rfl,e2,R,gp,l1,l2,l3,l4,l5⟩:=MS H.toac1 ra ea ps pe qqq qqq qqq hps [(0,.cells 2 [[.ro 8 (ra.map eHd) ea,.ro 1 (ps.map ePl) pe]] true true),(1,.cells 2 [[.ro 8 [] true,.ro 1 [] true]] true true)] 5;have g1:=l5 1 qqq;simp at g1;have hL:(ps.map (·.1)).length=ps.length:=by simp
 have hhf:∀j,j<lo->Pav.get (put h' n' (.cells 2 [[Rv,.sl pb 1 0 ps.length ps.length false]] true false)) j=Pav.get h' j:=λj hj=>aj qqq;have T:TmI Rv pb n' lo (ps.map (·.1)).length h' (put h' n' (.cells 2 [[Rv,.sl pb 1 0 ps.length ps.length false]] true false)) (n'+4) cs (((ps.map (·.1)).take 0).map (dN n)++(ps.map (·.1)).drop 0) id:=by rw[hL];refine⟨?_,by simp,ak ..,by rw[aj qqq];exact gp,by rw[aj qqq];exact g1,hhf,by omega,λj hj=>⟨l4 j hj,by have:=(R.bd j (by simpa using hj)).2;omega⟩⟩;have:=(R.weak (λ_ _ _ _ q=>q.tl)).mono (h':=put h' n' (.cells 2 [[Rv,.sl pb 1 0 ps.length ps.length false]] true false)) (hi':=n'+4) qqq (λj hj=>aj (by have:=(R.bd j hj).2;omega));simpa using this
 obtain⟨eo,ps',pe',f1,f2⟩:=am1 (C:=C) Rv pb n' lo 5 h' ra e2 n hn (ps.map (·.1)) qqq (λx hx=>by obtain⟨p,hp,rfl⟩:=qkx.1 hx;exact hps p hp) qqq ps.length 0 qqz _ _ _ _ 0 T qqq;refine⟨eo,ps',pe',f1,?_⟩;rw[qjz,ady,qXj]at f2;rw[aN H.f291 rfl];rcases e2 with⟨_,rfl⟩|⟨_,rb,rfl,_⟩
 ·simp(disch:=omega) [acT,H.kk,e1,g1,ak,aj,bH];simpa [bH]using f2
 ·simp(disch:=omega) [acT,H.kk,e1,g1,ak,aj,bH];simpa [bH]using f2
structure MO(C:aJ):Prop extends ajy C where
 f287:GwC C 287 ahF
 f288:GwC C 288 ajj
theorem Vl(H:MO C)(ra:List Hd)(ea:Bool)(ps:List Pl)(pe:Bool)(hl:ps.length<=1000)(hp:∀p∈ps,p.1.length<=1000000):∀m i,m+i=ps.length->∀c:Nat,c+1000000*m<=1000000000 ->
 I8 C ⟨[(4,.int .i64 i),(3,.int .i64 c),(1,.ptr 0 0 0)],[(0,.cells 2 [[.ro 8 (ra.map eHd) ea,.ro 1 (ps.map ePl) pe]] true true)],1⟩=some (.int .i64 (c+tmD 0 (ps.drop i):Nat)):=by
 intro m;induction m with
 |zero=>
  intro i hi c hc;have h3:¬i<ps.length:=by omega
  have h2:ps.drop i=[]:=qzx qqq;simp only[I8];rw[au Bv.eq_1,h2];simp(disch:=omega) [au Ot.eq_1,h3,tmD]
 |succ m ih=>
  intro i hi c hc;have h1:i<ps.length:=by omega
  have hh:=hp _ (qxq h1);have hq:=ih (i+1) qqq (c+ps[i].1.length) qqq;rw[drop_cons h1,tmD,zyx,<- qdj];simp only[I8]at hq |-;rw[au Bv.eq_1];simp at hq;simp(disch:=omega) [h1,aK,hq]
theorem yY(H:MO C)(ra:List Hd)(ea:Bool)(ps:List Pl)(pe:Bool)(hl:ps.length<=1000)(hp:∀p∈ps,p.1.length<=1000000):FnW C 288 [aSt ra ea ps pe]=some (.int .i64 (tmD 0 ps:Nat)):=by have h:=Vl H ra ea ps pe hl hp ps.length 0 qqz 0 qqq;rw[qjz,qXj]at h;generalize tmD 0 ps=D at *;simp only[I8]at h;simp at h;rw[aN H.f288 rfl];simp[ajj,H.kk,h]
theorem UO(H:MO C)(ra:List Hd)(ea:Bool)(ps:List Pl)(pe:Bool)(hl:ps.length<=1000)(hp:∀p∈ps,p.2=true):∀m i,m+i=ps.length ->
 IW C ⟨[(3,.int .i64 i),(1,.ptr 0 0 0)],[(0,.cells 2 [[.ro 8 (ra.map eHd) ea,.ro 1 (ps.map ePl) pe]] true true)],1⟩=some (.int .i64 1):=by
 intro m;induction m with
 |zero=>
  intro i hi;have h3:¬i<ps.length:=by omega
  simp only[IW];rw[au AQ.eq_1];simp(disch:=omega) [au Pn.eq_1,h3]
 |succ m ih=>
  intro i hi;have h1:i<ps.length:=by omega
  have hh:=hp _ (qxq h1);have hq:=ih (i+1) qqq;simp only[IW]at hq |-;rw[au AQ.eq_1];simp at hq;simp(disch:=omega) [h1,hh,aK,hq]
theorem Ny(H:MO C)(ra:List Hd)(ps:List Pl)(hl:ps.length<=1000)(hp:∀p∈ps,p.2=true):FnW C 287 [aSt ra true ps true]=some (.int .i64 1):=by have h:=UO H ra true ps true hl hp ps.length 0 qqz;simp only[IW]at h;simp at h;rw[aN H.f287 rfl];simp[ahF,H.kk,h]
def PV(ks:List Kd)(cap:Int)(W:List (List Hd)):Prop:=∀(i:Nat) (w:List Hd),W[i]?=some w->(w.length:Int)<=vk ks i/\∀h∈w,VH ks cap h/\h.t=i
theorem E8{W:List (List Hd)}{t:Nat}(h:t<W.length):rowAt W t=W[t]:=by simp[rowAt,h]
theorem JL(ks:List Kd)(cap:Int)(l:List En)(A:List Nat):∀(ra:List Hd) (s:List (List Hd)×Int),(∀x∈ra,VH ks cap x)->s.1.length=ks.length->PV ks cap s.1->PV ks cap (cm1 ks l A ra s).1
 |[],s,_,_,h=>by simpa [cm1]using h
 |a::r,s,h1,hl,h=>by
  simp only[cm1];have ha:=h1 a qqz;obtain⟨t,ht,htl⟩:=ha.t;split
  ·exact JL ks cap l A r _ (λx hx=>h1 x (by simp[hx])) hl h
  ·split
   ·exact JL ks cap l A r _ (λx hx=>h1 x (by simp[hx])) hl h
   ·rename_i c;refine JL ks cap l A r _ (λx hx=>h1 x (by simp[hx])) (by simpa using hl) ?_;have htw:t<s.1.length:=by omega
    rw[ht,E8 htw]at c;obtain⟨p1,p2⟩:=h t _ (qqj htw);intro i w hw;simp only[ht]at hw;rw[show((t:Int)).toNat=t by omega,E8 htw]at hw;rw[qgq]at hw;split at hw
    ·rename_i q;subst q;obtain rfl:=qkq hw;refine⟨by simp;omega,λx hx=>?_⟩;rcases qWj.1 hx with q | q
     ·exact p2 x q
     ·rw[qhx]at q;subst q;exact⟨ha,ht⟩
    ·exact h i w hw
theorem EY(ks:List Kd)(cap:Int)(tr:En->Nd)(ra:List Hd)(l:List En)(hl:∀e∈l,∃t:Nat,e.i.t=t):∀(A:List Nat) (s:List Hd×List (List Hd)×Int×Int),PV ks cap s.2.1->PV ks cap (cm2 tr ra l A s).2.1
 |[],s,h=>by simpa [cm2]using h
 |a::r,s,h=>by
  simp only[cm2];cases hq:l[a]? with
  |none=>exact EY ks cap tr ra l hl r s h
  |some e=>
   obtain⟨t,ht⟩:=hl e (qwj hq);simp only;split
   ·exact EY ks cap tr ra l hl r _ h
   ·split
    ·exact EY ks cap tr ra l hl r _ h
    ·refine EY ks cap tr ra l hl r _ ?_;intro i w hw;simp only[ht]at hw;rw[show((t:Int)).toNat=t by omega,qgq]at hw;split at hw
     ·rename_i q;subst q;split at hw
      ·rename_i htw;obtain rfl:=qkq hw;obtain⟨p1,p2⟩:=h t _ (qqj htw);rw[E8 htw];exact⟨by simp;omega,λx hx=>p2 x (qJq hx)⟩
      ·cases hw
     ·exact h i w hw
theorem sV(tr:En->Nd)(ra:List Hd)(l:List En):∀(A:List Nat) (s:List Hd×List (List Hd)×Int×Int),(∀a∈A,a<l.length)->((cm2 tr ra l A s).1).map Hd.k=s.1.map Hd.k++A.map λa=>(bQ l)[a]?.getD 0
 |[],s,_=>by simp[cm2]
 |a::r,s,h=>by
  have ha:=h a qqz;have hr:=λb hb=>h b (qyj a hb);simp only[cm2,qqj ha];have hk:(bQ l)[a]?.getD 0=l[a].i.k:=by simp[bQ,ha]
  split
  ·rw[sV tr ra l r _ hr];simp[ha]
  ·split
   ·rw[sV tr ra l r _ hr];simp[ha]
   ·rw[sV tr ra l r _ hr];simp[ha]
theorem Df{l:List Int}(h:l.Nodup):∀(A:List Nat),A.Nodup->(∀a∈A,a<l.length)->(A.map λa=>l[a]?.getD 0).Nodup
 |[],_,_=>by simp
 |a::r,h1,h2=>by obtain⟨h3,h4⟩:=qoq.1 h1;rw[qvj,qoq];refine⟨λq=>?_,Df h r h4 (λb hb=>h2 b (by simp[hb]))⟩;obtain⟨b,hb,hbe⟩:=qkx.1 q;have ha:=h2 a qqz;have hb2:=h2 b (by simp[hb]);simp only[qqj ha,qqj hb2,qKq]at hbe;have:=(zxz h).1 hbe;subst this;exact h3 hb
theorem afp{r:Int}{l:List En}(L:LG r l)(hg:∀e∈l,fM (ay r) e){e:En}(he:e∈l):VH (ay r) 12 ⟨e.i.k,e.i.t,trK (ay r) e⟩:=by
 have h1:=(hg e he).i.k;have h2:=L.t e he;have h3:=L.rE e he;have h4:=YM h3;have hz:cnt (trK (ay r) e)=cnt (A8 (jY (ay r) e.i.t).p e.i 12):=by unfold trK;rw[<- zF,<- aei _ (G5 (pq r) h2),zF]
 refine⟨by simp only;omega,⟨e.i.t.toNat,by simp only;omega,by omega⟩,⟨by simp only;rw[hz];exact h4,?_⟩,?_⟩
 ·simp only;rw[hz];unfold A8;rw[qzq h3];have h5:=h3;unfold lT at h5;rw[qwx qqq]at h5;split at h5
  ·cases h5
  ·split at h5
   ·cases h5
   ·split at h5
    ·cases h5
    ·rename_i q;omega
 ·simp only;unfold trK Uk;rw[qzq h3];have hk:(jY (ay r) e.i.t).p.k=1:=by
   have hl:(ay r).length=3:=rfl;obtain⟨t,ht⟩:∃t:Nat,e.i.t=t:=⟨e.i.t.toNat,by omega⟩;rw[ht];have h6:t=0\/t=1\/t=2:=by omega
   rcases h6 with rfl | rfl | rfl<;>rfl
  generalize (jY (ay r) e.i.t).p=p at *;unfold mdN;rw[Yj,hk];simp[iV]
end Go.D
end
section
namespace Go.D
open Go Go.Pav Go.Pw P
attribute [-simp] List.getElem_cons_drop
variable {C:aJ}
theorem Np(H:Nj C){r:Int}{l:List En}(L:LG r l)(hg:∀x∈l,fM (ay r) x)(hn:(bQ l).Nodup)(e:Bool){B:Nat}(hB:B<=84){ra:List Hd}{ps:List Pl}(S:Gi B ra ps)(K:CkS (ay r) 12 ra ps)(ea pe:Bool)(A:List Nat)(f:Bool)(hA:A.length<=12)(hAl:∀a∈A,a<l.length)(hAn:A.Nodup) :
 ∃(ra':List Hd) (ea':Bool) (ps':List Pl) (pe':Bool) (c:AV),Gi (B+12) ra' ps'/\CkS (ay r) 12 ra' ps'/\FnW C 285 [.agg (cCf 100 1 1 (ay r) true 12 65536 0),aSt ra ea ps pe,.ro 6 (l.map eEn) e,.ro 1 (A.map eAt) f]=some (.tup [aSt ra' ea' ps' pe',c,.int .i64 0]):=by
 have hk:(ay r).length=3:=rfl;obtain⟨ps',ea',pe',h1,h2⟩:=zL H.toYu (trK (ay r)) 100 1 1 (ay r) true 12 65536 0 ra ea ps pe l e A f qqq hAl (by have:=S.rl;omega) (by rw[S.pl];rfl) qqq qqq (λp hp=>by have:=S.pb p hp;omega) (λx hx=>⟨x.i.t.toNat,by have:=L.t x hx;omega,by have:=L.t x hx;omega⟩) (λx hx=>by rw[hk];exact(S.q x hx).2) (λa ha=>Fe H.toace L e a ha);have l1:=Aa (ay r) l A ra (ps.map (·.1),0) B (λw hw=>by obtain⟨p,hp,rfl⟩:=qkx.1 hw;exact S.pb p hp);have l2:=qK (trK (ay r)) ra l A ([],(cm1 (ay r) l A ra (ps.map (·.1),0)).1,0,0) (B+ra.length) l1;have l3:=QW (Q:=HQ) (ay r) l A ra (ps.map (·.1),0) S.q (λw hw=>by obtain⟨p,hp,rfl⟩:=qkx.1 hw;exact S.qp p hp);have l4:=qL (Q:=HQ) (trK (ay r)) ra l (λx hx=>⟨ab9 L hx,x.i.t.toNat,by have:=L.t x hx;simp only;omega,by have:=L.t x hx;omega⟩) A ([],(cm1 (ay r) l A ra (ps.map (·.1),0)).1,0,0) qqz l3;have l5:=P7 (ay r) l A ra (ps.map (·.1),0);have hpv0:PV (ay r) 12 (ps.map (·.1)):=by
  intro i w hw;rw[qQq]at hw;cases hq:ps[i]? with
  |none=>rw[hq]at hw;cases hw
  |some p=>rw[hq]at hw;obtain rfl:=qkq hw;exact K.pv i p hq
 have l6:=JL (ay r) 12 l A ra (ps.map (·.1),0) K.rv (by simp only[qQj];exact K.pl) hpv0;have l7:=EY (ay r) 12 (trK (ay r)) ra l (λx hx=>⟨x.i.t.toNat,by have:=L.t x hx;omega⟩) A ([],(cm1 (ay r) l A ra (ps.map (·.1),0)).1,0,0) l6;have l8:=sV (trK (ay r)) ra l A ([],(cm1 (ay r) l A ra (ps.map (·.1),0)).1,0,0) hAl;have l9:=qL (Q:=λx=>zu x.n->VH (ay r) 12 x) (trK (ay r)) ra l (λx hx _=>afp L hg hx) A ([],(cm1 (ay r) l A ra (ps.map (·.1),0)).1,0,0) qqz (λw hw x hx _=>by obtain⟨i,hi,rfl⟩:=qaj.1 hw;exact((l6 i _ (qqj hi)).2 x hx).1);have l10:=Df hn A hAn (λa ha=>by have:=hAl a ha;simpa [bQ]using this);have hrl:=S.rl;have hpl:=S.pl;simp only[qJx,qXj,qQj]at l2 l5;unfold cmF at h1 h2;simp only at h1 h2;generalize cm1 (ay r) l A ra (ps.map (·.1),0)=s at *;generalize cm2 (trK (ay r)) ra l A ([],s.1,0,0)=u at *;have hlv:¬live (u.1::u.2.1) > 65536:=by
  have:=NW (B+12) (u.1::u.2.1) (by
   intro w hw;rcases qjj.1 hw with rfl | q
   ·omega
   ·have:=l2.2.1 w q;omega)
  have hlen:(u.1::u.2.1).length=4:=by simp;omega
  rw[hlen]at this;unfold live;split<;>omega
 rw[qwx hlv]at h2;refine⟨u.1,ea',ps',pe',_,⟨by omega,?_,?_,l4.1,?_⟩,⟨by omega,λx hx=>l9.1 x hx (l4.1 x hx).1,by rw[l8];simpa using l10,?_,?_⟩,h2⟩
 ·have:=congrArg List.length h1;simp at this;omega
 ·intro p hp;have:=l2.2.1 p.1 (by rw[<- h1];exact qkx.2 ⟨p,hp,rfl⟩);omega
 ·intro p hp;exact l4.2 p.1 (by rw[<- h1];exact qkx.2 ⟨p,hp,rfl⟩)
 ·have:=congrArg List.length h1;simp at this;omega
 ·intro i p hp;exact l7 i p.1 (by rw[<- h1,qQq,hp];rfl)
theorem acX(H:Nj C){r:Int}{R1 R2:List En}(L1:LG r R1)(L2:LG r R2)(G1:∀x∈R1,fM (ay r) x)(G2:∀x∈R2,fM (ay r) x)(N1:(bQ R1).Nodup)(N2:(bQ R2).Nodup)(g1 g2:Bool)(q1 q2:List Q4)(e1 e2:Bool)(z1 z2:List Int)(f1 f2:Bool)(w:List (Int×Int))(we:Bool)(hw:∀p∈w,0<=p.1/\∃x:Nat,p.2=x/\x<=65535):∀m i,m+i=min w.length 8 ->
 ∀(ra:List Hd) (ea:Bool) (ps:List Pl) (pe:Bool),Gi (12*i) ra ps->CkS (ay r) 12 ra ps->∃(ra':List Hd) (ea':Bool) (ps':List Pl) (pe':Bool),Gi 96 ra' ps'/\CkS (ay r) 12 ra' ps' /\
 Dk C ⟨ofE i,ofH (cCf 100 1 1 (ay r) true 12 65536 0) R1 R2 g1 g2 [.ro 4 (q1.map eQ) e1,.ro 1 (z1.map eU8) f1,.int .u8 r,.ro 4 (q2.map eQ) e2,.ro 1 (z2.map eU8) f2,.int .u8 r,.ro 2 (w.map eW) we] w we ra ea ps pe,7⟩ =
  some (.tup [.agg (cCf 100 1 1 (ay r) true 12 65536 0),aSt ra' ea' ps' pe',.agg [.ro 6 (R1.map eEn) g1,.ro 6 (R2.map eEn) g2]]):=by
 intro m;induction m with
 |zero=>
  intro i hi ra ea ps pe S K;refine⟨ra,ea,ps,pe,⟨S.rl,S.pl,λp hp=>by have:=S.pb p hp;omega,S.q,S.qp⟩,K,?_⟩;generalize ay r=ks at *;simp only[Dk];rw[au xQ.eq_1];by_cases c:(i:Int)<w.length
  ·have c2:¬(i:Int)<8:=by omega
   simp(disch:=omega) [au GI.eq_1,c,c2]
  ·simp(disch:=omega) [au GI.eq_1,c]
 |succ m ih=>
  intro i hi ra ea ps pe S K;have c1:i<w.length:=by omega
  have c2:(i:Int)<8:=by omega
  have c3:(i:Int)<w.length:=by omega
  obtain⟨hx0,x,hx,hx2⟩:=hw _ (qxq c1);by_cases c:(w[i].1).tmod 2=0
  ·have hb:=xP H.tooq x R1.length hx2 (by have:=L1.hl;omega);have hbl:=pJ x (min R1.length 16) 0;obtain⟨ra1,ea1,ps1,pe1,cc,S1,K1,hs⟩:=Np H L1 G1 N1 g1 qqq S K ea pe (iU x 0 (min R1.length 16)) false (by have:=L1.hl;omega) (λa ha=>by have:=mW x _ 0 a ha;omega) (qI x _ 0);obtain⟨ra2,ea2,ps2,pe2,S2,K2,h2⟩:=ih (i+1) qqq ra1 ea1 ps1 pe1 ⟨S1.rl,S1.pl,λp hp=>by have:=S1.pb p hp;omega,S1.q,S1.qp⟩ K1;refine⟨ra2,ea2,ps2,pe2,S2,K2,?_⟩;generalize ay r=ks at *;generalize iU x 0 (min R1.length 16)=Z at *;simp only[Dk]at h2 |-;rw[au xQ.eq_1];simp[ofE,ofH]at h2;simp(disch:=omega) [ofE,ofH,c1,c2,c3,c,hx,hb,hs,h2,aK,H.kk]
  ·have c':(w[i].1).tmod 2=1:=by have:=qyq (b:=2) hx0;omega
   have hb:=xP H.tooq x R2.length hx2 (by have:=L2.hl;omega);have hbl:=pJ x (min R2.length 16) 0;obtain⟨ra1,ea1,ps1,pe1,cc,S1,K1,hs⟩:=Np H L2 G2 N2 g2 qqq S K ea pe (iU x 0 (min R2.length 16)) false (by have:=L2.hl;omega) (λa ha=>by have:=mW x _ 0 a ha;omega) (qI x _ 0);obtain⟨ra2,ea2,ps2,pe2,S2,K2,h2⟩:=ih (i+1) qqq ra1 ea1 ps1 pe1 ⟨S1.rl,S1.pl,λp hp=>by have:=S1.pb p hp;omega,S1.q,S1.qp⟩ K1;refine⟨ra2,ea2,ps2,pe2,S2,K2,?_⟩;generalize ay r=ks at *;generalize iU x 0 (min R2.length 16)=Z at *;simp only[Dk]at h2 |-;rw[au xQ.eq_1];simp[ofE,ofH]at h2;simp(disch:=omega) [ofE,ofH,c1,c2,c3,c',hx,hb,hs,h2,aK,H.kk]
theorem OV(H:Nj C)(hone:∀q:Q4,QIn q->∃i:It,FnW C 422 [.agg (eQ q)]=some (eIt i)/\Good i)(q1 q2:List Q4)(e1 e2:Bool)(hq1:∀x∈q1,QIn x)(hq2:∀x∈q2,QIn x)(z1 z2:List Int)(f1 f2:Bool)(hz1:∀s∈z1,0<=s/\s<=255)(hz2:∀s∈z2,0<=s/\s<=255)
 (hl1:z1.length<9223372036854775808) (hl2:z2.length<9223372036854775808) (r r2:Int) (hr:0<=r/\r<=255) (w:List (Int×Int)) (we:Bool) (hw:∀p∈w,0<=p.1/\∃x:Nat,p.2=x/\x<=65535) :
 ∃(R1 R2:List En) (g1 g2:Bool) (ra:List Hd) (ea:Bool) (ps:List Pl) (pe:Bool),LG r R1/\LG r R2/\(∀x∈R1,fM (ay r) x)/\(∀x∈R2,fM (ay r) x)/\(bQ R1).Nodup/\(bQ R2).Nodup/\Gi 96 ra ps/\CkS (ay r) 12 ra ps/\FnW C 283 [.agg [.ro 4 (q1.map eQ) e1,.ro 1 (z1.map eU8) f1,.int .u8 r,.ro 4 (q2.map eQ) e2,.ro 1 (z2.map eU8) f2,.int .u8 r2,.ro 2 (w.map eW) we]] =
  some (.tup [.agg (cCf 100 1 1 (ay r) true 12 65536 0),aSt ra ea ps pe,.agg [.ro 6 (R1.map eEn) g1,.ro 6 (R2.map eEn) g2]]):=by
 obtain⟨R1,g1,h1,a1,a2,a3⟩:=adu H.tovY hone q1 e1 hq1 z1 f1 hz1 hl1 r hr;obtain⟨R2,g2,h2,b1,b2,b3⟩:=adu H.tovY hone q2 e2 hq2 z2 f2 hz2 hl2 r hr;have L1:=LG.Zl hr a1 a2 a3;have L2:=LG.Zl hr b1 b2 b3;have hp16:∀i:Nat,i<3->0<=vk (ay r) i:=by
  intro i hi;have h6:i=0\/i=1\/i=2:=by omega
  rcases h6 with rfl | rfl | rfl
  ·show(0:Int)<=r % 4;omega
  ·show(0:Int)<=r / 4 % 3;omega
  ·show(0:Int)<=r / 8 % 3;omega
 have hk0:CkS (ay r) 12 [] [([],true),([],true),([],true)]:=⟨by simp,by simp,by simp,rfl,λi p hp=>by
  have hi:i<3:=(qzj.1 hp).1;have h6:i=0\/i=1\/i=2:=by omega
  rcases h6 with rfl | rfl | rfl<;>(obtain rfl:=qkq hp;exact⟨by simpa using hp16 _ hi,by simp⟩)⟩
 have h3:FnW C 296 [.agg (cCf 100 1 1 (ay r) true 12 65536 0)]=some (aSt [] true [([],true),([],true),([],true)] false):=Nl H 100 1 1 _ _ _ true 12 65536 0;obtain⟨ra,ea,ps,pe,S,K,h4⟩:=acX H L1 L2 a2 b2 a3 b3 g1 g2 q1 q2 e1 e2 z1 z2 f1 f2 w we hw (min w.length 8) 0 rfl [] true [([],true),([],true),([],true)] false ⟨by simp,rfl,by simp,by simp,by simp⟩ hk0;refine⟨R1,R2,g1,g2,ra,ea,ps,pe,L1,L2,a2,b2,a3,b3,S,K,?_⟩;rw[aN H.f283 rfl];generalize ay r=ks at *;simp only[Dk]at h4;simp[ofE,ofH]at h4;simp[aiB,H.kk,h1,h2,h3,h4]
end Go.D
end
section
namespace Go.D
open Go Go.Pav Go.Pw P
set_option maxHeartbeats 2000000
attribute [-simp] List.getElem_cons_drop
def hz(h:Hd):Int×Int×Nd:=(h.k,h.t,h.n.z)
theorem amL(h:Hd):hz (bY h)=hz h:=by simp[hz,bY,VB]
theorem kW(l:List Hd):(l.map bY).map hz=l.map hz:=by rw[qZz];exact qex λh _=>amL h
theorem oP:∀a b:List Hd,a.map hz=b.map hz->eY a b=true
 |[],[],_=>rfl
 |x::a,y::b,h=>by simp only[qvj,qlz,hz,qjx]at h;simp[eY,h.1.1,h.1.2.1,aj0 _ _ h.1.2.2,oP a b h.2]
 |[],_::_,h=>by simp at h
 |_::_,[],h=>by simp at h
theorem nS:∀a b:List Pl,(a.map λp=>p.1.map hz)=(b.map λp=>p.1.map hz)->fA a b=true
 |[],[],_=>rfl
 |x::a,y::b,h=>by simp only[qvj,qlz]at h;simp[fA,oP _ _ h.1,nS a b h.2]
 |[],_::_,h=>by simp at h
 |_::_,[],h=>by simp at h
abbrev tms(n:Nat)(ps:List Pl):List Pl:=(ps.map jm).map (tmP n)
theorem akn(n:Nat)(ps:List Pl):((tms n ps).map λp=>p.1.map hz)=((ps.map (·.1)).map (dN n)).map λx=>x.map hz:=by rw[qZz,qZz,qZz,qZz];refine qex λp _=>?_;simp only[Function.comp,jm,tmP,dN,kW,qQj,q4x]
theorem abg(a b:Nat)(ps:List Pl):((tms b (tms a ps)).map λp=>p.1.map hz)=((ps.map (·.1)).map (dN (min a b))).map λx=>x.map hz:=by rw[akn,qZz,qZz,qZz,qZz,qZz,qZz];refine qex λp _=>?_;simp only[Function.comp,jm,tmP,dN,qQj,qbj,q4x,kW,zvx];congr 1;omega
theorem Yv(a:Nat):∀ps:List Pl,tmD 0 (tms a ps)+tmD a ps=tmD 0 ps
 |[]=>rfl
 |p::r=>by have:=Yv a r;simp only[tms,qvj,tmD,jm,tmP,qQj,qbj]at this |-;omega
theorem Y1(a b:Nat):∀ps:List Pl,tmD a ps+tmD b (tms a ps)=tmD (min a b) ps
 |[]=>rfl
 |p::r=>by have:=Y1 a b r;simp only[tms,qvj,tmD,jm,tmP,qQj,qbj]at this |-;omega
theorem KE{ks:List Kd}{cap:Int}{h:Hd}(V:VH ks cap h):VH ks cap (bY h):=by refine⟨V.k,V.t,by simpa only[bY,AL]using V.c,?_⟩;have:=V.n;simp only[bY];rw[QB];exact this
theorem YD{ks:List Kd}{cap:Int}{ra:List Hd}{ps:List Pl}(S:CkS ks cap ra ps)(n:Nat):CkS ks cap (ra.map bY) (tms n ps):=by
 refine⟨by simpa using S.rl,λh hh=>?_,?_,by simpa using S.pl,λi p hp=>?_⟩
 ·obtain⟨g,hg,rfl⟩:=qkx.1 hh;exact KE (S.rv g hg)
 ·rw[qZz];exact S.rn
 ·rw[tms,qQq,qQq]at hp;cases hq:ps[i]? with
  |none=>rw[hq]at hp;cases hp
  |some q=>rw[hq]at hp;obtain rfl:=qkq hp;obtain⟨h1,h2⟩:=S.pv i q hq;refine⟨by simp only[jm,tmP,qQj,qbj];omega,λh hh=>?_⟩;simp only[jm,tmP,qkx]at hh;obtain⟨g,hg,rfl⟩:=hh;have hg2:=qXz hg;obtain⟨g2,hg3,rfl⟩:=qkx.1 hg2;exact⟨KE (KE (h2 g2 hg3).1),(h2 g2 hg3).2⟩
theorem Zw{B n:Nat}{ps:List Pl}(h:∀p∈ps,p.1.length<=B):∀p∈tms n ps,p.1.length<=B:=by intro p hp;simp only[tms,qZz,qkx,Function.comp]at hp;obtain⟨q,hq,rfl⟩:=hp;have:=h q hq;simp only[jm,tmP,qQj,qbj];omega
theorem rY{ks:List Kd}{cap:Int}{ra:List Hd}{ps:List Pl}(S:CkS ks cap ra ps)(h:∀p∈ps,p.1.length<=1000000):LW ra/\(∀p∈ps,LW p.1)/\(∀x∈ra,cnt x.n≠0)/\∀p∈ps,p.1.length<=1000000/\∀x∈p.1,cnt x.n≠0:=by
 have hp:∀p∈ps,∀x∈p.1,cnt x.n≠0:=λp hp x hx=>by obtain⟨i,hi,rfl⟩:=qaj.1 hp;exact((S.pv i _ (qqj hi)).2 x hx).1.c.1
 have hr:∀x∈ra,cnt x.n≠0:=λx hx=>(S.rv x hx).c.1;exact⟨⟨by have:=S.rl;omega,λx hx=>Eu (uD (hr x hx))⟩,λp hq=>⟨h p hq,λx hx=>Eu (uD (hp p hq x hx))⟩,hr,λp hq=>⟨h p hq,hp p hq⟩⟩
end Go.D
end
section
namespace Go.D
open Go Go.Pav Go.Pw P
attribute [-simp] List.getElem_cons_drop
variable {C:aJ}
structure aoM(C:aJ):Prop extends MO C where
 f142:GwC C 142 O9
theorem vG(r:Int):∀k∈ay r,Gn k:=by intro k hk;simp only[ay,qjj,qfz,q5x]at hk;rcases hk with rfl | rfl | rfl<;>(unfold Gn;simp only;omega)
theorem aez(H:aoM C)(hl:FnW C 145 []=some (.bool true))(q1 q2:List Q4)(e1 e2:Bool)(z1 z2:List Int)(f1 f2:Bool)(r r2:Int)(hr:0<=r/\r<=255)(w:List (Int×Int))(we:Bool)(a b:Int)
 {ra:List Hd}{ea:Bool}{ps:List Pl}{pe:Bool}(S:Gi 96 ra ps) (K:CkS (ay r) 12 ra ps) (R1 R2:List En) (g1 g2:Bool)
 (ha:FnW C 283 [.agg [.ro 4 (q1.map eQ) e1,.ro 1 (z1.map eU8) f1,.int .u8 r,.ro 4 (q2.map eQ) e2,.ro 1 (z2.map eU8) f2,.int .u8 r2,.ro 2 (w.map eW) we]]=some (.tup [.agg (cCf 100 1 1 (ay r) true 12 65536 0),aSt ra ea ps pe,.agg [.ro 6 (R1.map eEn) g1,.ro 6 (R2.map eEn) g2]])) :
 FnW C 142 [.agg [.ro 4 (q1.map eQ) e1,.ro 1 (z1.map eU8) f1,.int .u8 r,.ro 4 (q2.map eQ) e2,.ro 1 (z2.map eU8) f2,.int .u8 r2,.ro 2 (w.map eW) we],.agg [.int .i64 a,.int .i64 b]]=some (.bool true):=by
 have hk3:(ay r).length=3:=rfl;have hF:=DZ H.toqV 100 1 1 (ay r) true 12 65536 0 (pq r) (Nb r hr) qqq (vG r) qqq;have hC1:=o9 100 1 1 (ay r) true 12 65536 0 H.toqV hF qqq (vG r) ra ea ps pe K;obtain⟨i1,i2,i3,i4⟩:=rY K (λp hp=>by have:=S.pb p hp;omega);have hrl:=S.rl;have hpl:=S.pl;have hpo:=vG r;generalize ay r=ks at *;by_cases ca:a<0\/16<a
 ·have t1:=NG H.toYz 100 1 1 ks true 12 65536 0 ra ea ps pe hC1 a ca;have t2:=iY H.tooq [] [] true true [] [] true true ⟨by simp,by simp⟩ qqz qqz;have t3:(eY [] []&&fA [] [])=true:=rfl;rw[qzq t3]at t2;simp only[aSt,qgz]at t1 t2;rw[aN H.f142 rfl];by_cases c1:a<0
  ·simp[O9,H.kk,ha,t1,t2,hl,c1]
  ·have c2:16<a:=by omega
   simp[O9,H.kk,ha,t1,t2,hl,c1,c2]
 ·obtain⟨n,rfl⟩:∃n:Nat,a=n:=⟨a.toNat,by omega⟩;have hn:n<=16:=by omega
  have c1:¬(n:Int)<0:=by omega
  have c2:¬16<(n:Int):=by omega
  have t1:=Vm H.toYz 100 1 1 ks true 12 65536 0 ra ea ps pe hC1 n hn qqq i3 qqq i4;change FnW C 290 _=some (.tup [aSt (ra.map bY) true (tms n ps) true,_,_])at t1;obtain⟨eo,ps',pe',u1,t2⟩:=Nk H.toajy ra ea ps pe n hn qqq qqq qqq (λp hp=>(i4 p hp).1);have K1:=YD K n;have B1:=Zw (n:=n) S.pb;obtain⟨j1,j2,j3,j4⟩:=rY K1 (λp hp=>by have:=B1 p hp;omega);have hl1:(tms n ps).length=3:=by simpa using hpl
  have hq1:(eY (ra.map bY) ra&&fA (tms n ps) ps')=true:=by rw[oP _ _ (kW ra),nS _ _ (by rw[akn,<- u1,qZz];rfl)];rfl
  have t3:=iY H.tooq (ra.map bY) ra true eo (tms n ps) ps' true pe' j1 qqq j2;rw[qzq hq1]at t3;have t4:=Ny H.toMO (ra.map bY) (tms n ps) qqq (λp hp=>by simp only[tms,qZz,qkx,Function.comp]at hp;obtain⟨q,_,rfl⟩:=hp;rfl);have t5:=o9 100 1 1 ks true 12 65536 0 H.toqV hF qqq hpo (ra.map bY) true (tms n ps) true K1;have t6:=yY H.toMO (ra.map bY) true (tms n ps) true qqq (λp hp=>(j4 p hp).1);have t7:=yY H.toMO ra ea ps pe qqq (λp hp=>(i4 p hp).1);have hsum:=Yv n ps;have hb1:=Ko n 96 ps S.pb;have hb2:=Ko 0 96 (tms n ps) B1;have hb3:=Ko 0 96 ps S.pb;by_cases cb:b<0\/16<b
  ·generalize tms n ps=T1 at *;generalize ra.map bY=rk at *;generalize tmD n ps=D at *;generalize tmD 0 T1=D2 at *;generalize tmD 0 ps=D3 at *;have hs:(D2:Int)+D=D3:=by omega
   rw[aN H.f142 rfl];by_cases d1:b<0
   ·simp(disch:=omega) [O9,H.kk,ha,t1,t2,t3,t4,t5,t6,t7,hl,c1,c2,d1,aK,hs]
   ·have d2:16<b:=by omega
    simp(disch:=omega) [O9,H.kk,ha,t1,t2,t3,t4,t5,t6,t7,hl,c1,c2,d1,d2,aK,hs]
  ·obtain⟨m,rfl⟩:∃m:Nat,b=m:=⟨b.toNat,by omega⟩;have hm:m<=16:=by omega
   have d1:¬(m:Int)<0:=by omega
   have d2:¬16<(m:Int):=by omega
   have v1:=Vm H.toYz 100 1 1 ks true 12 65536 0 (ra.map bY) true (tms n ps) true t5 m hm qqx j3 qqq j4;obtain⟨eo2,ps2,pe2,u2,v2⟩:=Nk H.toajy ra ea ps pe (min n m) qqq qqq qqq qqq (λp hp=>(i4 p hp).1);have K2:=YD K1 m;have B2:=Zw (n:=m) B1;obtain⟨k1,k2,_,_⟩:=rY K2 (λp hp=>by have:=B2 p hp;omega);have hl2:(tms m (tms n ps)).length=3:=by simpa using hpl
   have hq2:(eY ((ra.map bY).map bY) ra&&fA (tms m (tms n ps)) ps2)=true:=by rw[oP _ _ (by rw[kW,kW]),nS _ _ (by rw[abg,<- u2,qZz];rfl)];rfl
   have v3:=iY H.tooq ((ra.map bY).map bY) ra true eo2 (tms m (tms n ps)) ps2 true pe2 k1 qqq k2;rw[qzq hq2]at v3;have hsum2:=Y1 n m ps;have hb4:=Ko m 96 (tms n ps) B1;have hmn:wC (n:Int) (m:Int)=((min n m:Nat):Int):=by
    by_cases q:n<=m
    ·rw[amm qqq,zjj q]
    ·rw[amG qqq,Nat.min_eq_right qqq]
   generalize min n m=mi at *;change FnW C 290 _=some (.tup [aSt ((ra.map bY).map bY) true (tms m (tms n ps)) true,_,_])at v1;generalize tms m (tms n ps)=T2 at *;generalize tmD m (tms n ps)=D5 at *;generalize tms n ps=T1 at *;generalize (ra.map bY).map bY=rkk at *;generalize ra.map bY=rk at *;generalize tmD n ps=D at *;generalize tmD 0 T1=D2 at *;generalize tmD 0 ps=D3 at *;generalize tmD mi ps=D4 at *;have hs:(D2:Int)+D=D3:=by omega
   have hs2:(D:Int)+D5=D4:=by omega
   rw[aN H.f142 rfl];simp(disch:=omega) [O9,H.kk,ha,t1,t2,t3,t4,t5,t6,t7,v1,v2,v3,hl,c1,c2,d1,d2,hmn,aK,hs,hs2]
end Go.D
end
section
namespace Go.D
open Go Go.Pav Go.Pw P
set_option maxHeartbeats 2000000
attribute [-simp] List.getElem_cons_drop
variable {C:aJ}
structure sF(C:aJ):Prop extends MO C where
 f281:GwC C 281 Ux
 f139:GwC C 139 XC
 f280:GwC C 280 aau
 acL:GwC C 3009 Xv
theorem ac0(H:sF C)(rk:List Hd)(ps:List Pl)(pe:Bool)(hl:ps.length<=1000)(hp:∀p∈ps,p.1.length<=1000000/\∀x∈p.1,cnt x.n≠0):∀m i,m+i=ps.length->∀G:List Pl,G.length=i->G=(ps.take i).map jm ->
 GZ C
  ⟨[(17,.int .i64 i),(16,.int .i64 ps.length),(15,.ro 1 (ps.map ePl) pe),(3,.ptr 0 0 0),(2,.ptr 2 0 0)],
   [(0,.cells 2 [[.ro 8 (rk.map eHd) true,.sl 1 1 0 ps.length ps.length true]] true false),(1,.cells 1 (G.map ePl++List.replicate m [.ro 8 [] true]) true true),(2,.cells 2 [[.ro 8 [] true,.ro 1 [] true]] true true)],3⟩ =
  some (aSt rk true (ps.map jm) true):=by
 intro m;induction m with
 |zero=>
  intro i hi G hG hGe;have h3:¬i<ps.length:=by omega
  have e1:ps.take i=ps:=qxz qqq;have e2:List.take ps.length (G.map ePl)=G.map ePl:=qxz qqx;rw[e1]at hGe;rw[<- hGe];have h4:G.length=ps.length:=by omega
  simp only[GZ];rw[au qF.eq_1];simp(disch:=omega) [au DI.eq_1,h3,e2,h4]
 |succ m ihm=>
  intro i hi G hG hGe;have h1:i<ps.length:=by omega
  have this:=ihm (i+1) qqq (G++[jm ps[i]]) (by simp[hG]) (by rw[hGe,qij,qqj h1,qWx];rfl);have hh:=hp _ (qxq h1);have hs:=Dh H.toJE ps[i].1 ps[i].2 hh.1 hh.2;have g1:=JU ePl G [.ro 8 [] true] m;have g2:=JD ePl G [.ro 8 [] true] m (jm ps[i]);rw[hG]at g1 g2;generalize ps.map jm=PK at *;simp only[GZ]at this |-;rw[au qF.eq_1];simp[jm]at this g2;simp at hs;simp(disch:=omega) [h1,hs,aK,H.kk,g1,g2,this]
theorem amB(H:sF C)(ra:List Hd)(ea:Bool)(ps:List Pl)(pe:Bool)(hr:ra.length<=1000000)(hrc:∀x∈ra,cnt x.n≠0)(hl:ps.length<=1000)(hp:∀p∈ps,p.1.length<=1000000/\∀x∈p.1,cnt x.n≠0) :
 FnW C 281 [aSt ra ea ps pe]=some (aSt (ra.map bY) true (ps.map jm) true):=by
 have h0:=Dh H.toJE ra ea hr hrc;have h4:ps.length*25<=35184372088832:=by omega
 generalize ra.map bY=rk at *;have h:=ac0 H rk ps pe hl hp ps.length 0 qqz [] rfl rfl;generalize ps.map jm=PK at *;simp only[GZ]at h;simp at h;rw[aN H.f281 rfl];simp[Ux,H.kk,h0,h4,h]
end Go.D
end
section
namespace Go.D
open Go Go.Pav Go.Pw P
set_option maxHeartbeats 2000000
def vV(s:List (Int×Int)):List (AV×AV):=s.map λp=>(.int .u64 p.1,.int .u8 p.2)
def su(k:Int):List (Int×Int)->Option Int
 |[]=>none
 |p::r=>if k=p.1 then some p.2 else su k r
theorem Vk(k:Int):∀s:List (Int×Int),jP (vV s) (.int .u64 k)=some ((su k s).map (AV.int .u8))
 |[]=>rfl
 |a::r=>by
  have ih:=Vk k r;unfold vV at ih |-;rw[qvj,jP,su];simp only[iD,qyx,ob];by_cases c:k=a.1
  ·simp[c]
  ·simp[c,ih]
theorem TS(k t:Int):∀s:List (Int×Int),su k s=none->kJ (vV s) (.int .u64 k) (.int .u8 t)=some (vV (s++[(k,t)]))
 |[],_=>rfl
 |a::r,h=>by
  rw[su]at h;by_cases c:k=a.1
  ·rw[qzq c]at h;cases h
  ·rw[qwx c]at h;have ih:=TS k t r h;unfold vV at ih |-;rw[qvj,kJ];simp only[iD,qyx,ob];simp[c,ih,om]
def sQ(l:List En)(A:List Nat):List (Int×Int):=A.map λa=>match l[a]? with | some e=>(e.i.k,e.i.t) | none=>(0,0)
theorem Je{k:Int}:∀{s:List (Int×Int)},(∀p∈s,p.1≠k)->su k s=none
 |[],_=>rfl
 |p::r,h=>by rw[su,qwx (λq=>h p qqz q.symm)];exact Je (λq hq=>h q (by simp[hq]))
theorem key_inj{l:List En}(hn:(bQ l).Nodup){a b:Nat}(ha:a<l.length)(hb:b<l.length)(h:l[a].i.k=l[b].i.k):a=b:=by
 have h1:(bQ l)[a]'(by simpa [bQ]using ha)=(bQ l)[b]'(by simpa [bQ]using hb):=by simpa [bQ]using h
 exact(zxz hn).1 h1
theorem afj{l:List En}(hn:(bQ l).Nodup)(h:Hd):∀(A:List Nat),A.Nodup->(∀a∈A,a<l.length)->(stF h l A=true↔su h.k (sQ l A)=some h.t)
 |[],_,_=>by simp[stF,sQ,su]
 |a::r,h1,h2=>by
  obtain⟨h3,h4⟩:=qoq.1 h1;have ha:=h2 a qqz;have hr:=λb hb=>h2 b (qyj a hb);have ih:=afj hn h r h4 hr;have hcons:stF h l (a::r)=((decide (l[a].i.k=h.k)&&decide (l[a].i.t=h.t))||stF h l r):=by unfold stF;rw[List.any_cons,qqj ha]
  have hm:sQ l (a::r)=(l[a].i.k,l[a].i.t)::sQ l r:=by unfold sQ;rw[qvj,qqj ha]
  rw[hcons,hm,su];by_cases c:l[a].i.k=h.k
  ·have hno:stF h l r=false:=by
    cases q:stF h l r
    ·rfl
    ·have q2:=ih.1 q;unfold stF at q;obtain⟨b,hb,hbe⟩:=qaq.1 q;have hbl:=hr b hb;rw[qqj hbl]at hbe;simp only[qwz,qkj]at hbe;have:=key_inj hn ha hbl (c.trans hbe.1.symm);subst this;exact absurd hb h3
   rw[qzq c.symm,hno];simp[c]
  ·rw[qwx (λq=>c q.symm)];simp[c,ih]
theorem Oz{k:Int}:∀(ra:List Hd) (i:Nat) (h:Hd),(ra.map Hd.k).Nodup->h∈ra->h.k=k->∃j:Nat,atF k i ra=((i+j:Nat):Int)/\ra[j]?=some h
 |[],_,_,_,hm,_=>by cases hm
 |x::r,i,h,hn,hm,hk=>by
  rw[qvj,qoq]at hn;rw[atF];rcases qjj.1 hm with q | q
  ·subst q;rw[qzq hk];exact⟨0,rfl,rfl⟩
  ·have hx:¬x.k=k:=λc=>hn.1 (qkx.2 ⟨h,q,hk.trans c.symm⟩);rw[qwx hx];obtain⟨j,h1,h2⟩:=Oz r (i+1) h hn.2 q hk;exact⟨j+1,by rw[h1];congr 1;omega,by simpa using h2⟩
def stay(ra:List Hd)(l:List En)(A:List Nat):List Int:=(ra.filter λh=>stF h l A).map Hd.k
theorem BF{ra:List Hd}(hr:(ra.map Hd.k).Nodup){l:List En}(hn:(bQ l).Nodup){A:List Nat}(hA:∀a∈A,a<l.length){a:Nat}(ha:a∈A)(hal:a<l.length):(stay ra l A).contains l[a].i.k=nI ra l[a]:=by
 have key:(stay ra l A).contains l[a].i.k=true↔∃h∈ra,h.k=l[a].i.k/\h.t=l[a].i.t:=by
  rw[qVq,stay,qkx];constructor
  ·rintro⟨h,hh,hk⟩;obtain⟨h1,h2⟩:=qaz.1 hh;refine⟨h,h1,hk,?_⟩;unfold stF at h2;obtain⟨b,hb,hbe⟩:=qaq.1 h2;have hbl:=hA b hb;rw[qqj hbl]at hbe;simp only[qwz,qkj]at hbe;have:=key_inj hn hbl hal (hbe.1.trans hk);subst this;exact hbe.2.symm
  ·rintro⟨h,h1,h2,h3⟩;refine⟨h,qaz.2 ⟨h1,?_⟩,h2⟩;unfold stF;refine qaq.2 ⟨a,ha,?_⟩;rw[qqj hal];simp[h2,h3]
 have key2:nI ra l[a]=true↔∃h∈ra,h.k=l[a].i.k/\h.t=l[a].i.t:=by
  unfold nI;constructor
  ·intro q;simp only[qwz,qkj]at q;obtain⟨q1,q2⟩:=q;cases hq:ra[(atF l[a].i.k 0 ra).toNat]? with
   |none=>rw[hq]at q2;cases q2
   |some h=>
    rw[hq]at q2;have hm:=qwj hq;by_cases c:∃g∈ra,g.k=l[a].i.k
    ·obtain⟨g,hg,hgk⟩:=c;obtain⟨j,j1,j2⟩:=Oz ra 0 g hr hg hgk;rw[j1,qXj,qsx,j2]at hq;obtain rfl:=qkq hq;exact⟨g,hg,hgk,by simpa using q2⟩
    ·exfalso;have:∀(r:List Hd) (i:Nat),(∀g∈r,g.k≠l[a].i.k)->atF l[a].i.k i r=-1:=by
      intro r;induction r with
      |nil=>intro i _;rfl
      |cons x r ih=>intro i hh;rw[atF,qwx (hh x qqz)];exact ih _ (λg hg=>hh g (by simp[hg]))
     rw[this ra 0 (λg hg hk=>c ⟨g,hg,hk⟩)]at q1;omega
  ·rintro⟨h,h1,h2,h3⟩;obtain⟨j,j1,j2⟩:=Oz ra 0 h hr h1 h2;rw[j1,qXj,qsx,j2];simp[h3]
 cases q:nI ra l[a]
 ·cases p:(stay ra l A).contains l[a].i.k
  ·rfl
  ·rw[key2.2 (key.1 p)]at q;cases q
 ·exact key.2 (key2.1 q)
end Go.D
end
section
namespace Go.D
open Go Go.Pav Go.Pw P
set_option maxHeartbeats 2000000
attribute [-simp] List.getElem_cons_drop
variable {C:aJ}
section
variable (vw ov ls:Int)(ks:List Kd)(ke:Bool)(cap ar fl:Int)(ra:List Hd)(ea:Bool)(ps:List Pl)(pe:Bool)(l:List En)(e:Bool)
structure PcM(K:List (AV×AV))(h:aI)(next:Nat):Prop where
 g0:Pav.get h 0=some (.cells 7 [cCf vw ov ls ks ke cap ar fl] true true)
 g1:Pav.get h 1=some (.cells 2 [[.ro 8 (ra.map eHd) ea,.ro 1 (ps.map ePl) pe]] true true)
 g2:Pav.get h 2=some (.cells 1 [[.ro 6 (l.map eEn) e]] true true)
 g3:Pav.get h 3=some (.cells 2 [[.ro 8 [] true,.ro 1 [] true]] true true)
 g4:Pav.get h 4=some (.cells 4 [[.int .i64 0,.int .i64 0,.int .i64 0,.int .i64 0]] true true)
 g5:Pav.get h 5=some (.map K)
 nx:10<=next
theorem abS(A:List Nat)(f:Bool)(hA:A.length<=1000)(hAl:∀a∈A,a<l.length)(hAn:A.Nodup)(hn:(bQ l).Nodup):∀m i,m+i=A.length->∀h next,PcM vw ov ls ks ke cap ar fl ra ea ps pe l e (vV (sQ l (A.take i))) h next->∃h' next',PcM vw ov ls ks ke cap ar fl ra ea ps pe l e (vV (sQ l A)) h' next' /\
 CK C 0 (aO [.cell 8 2 true,.cell 9 4 true]) [.sq Qr,.bk 0 ⟨true,[10,9,8,6,5,4,3],[(9999,65537)]⟩,.sq Ht] BZ
  ⟨[(32,.int .i64 i),(31,.int .i64 A.length),(30,.ro 1 (A.map eAt) f),(10,.map 5),(9,.ptr 4 0 0),(8,.ptr 3 0 0),(6,.ptr 2 0 0),(5,.ptr 1 0 0),(4,.ptr 0 0 0),(3,.ro 1 (A.map eAt) f)],h,next⟩ =
 CK C 0 (aO [.cell 8 2 true,.cell 9 4 true]) [] Ht ⟨[(10,.map 5),(9,.ptr 4 0 0),(8,.ptr 3 0 0),(6,.ptr 2 0 0),(5,.ptr 1 0 0),(4,.ptr 0 0 0),(3,.ro 1 (A.map eAt) f)],h',next'⟩:=by
 intro m;induction m with
 |zero=>
  intro i hi h next T
  have h3:¬i<A.length:=by omega
  rw[qxz qqq]at T;refine⟨h,next+1,⟨T.g0,T.g1,T.g2,T.g3,T.g4,T.g5,by have:=T.nx;omega⟩,?_⟩;rw[au BZ.eq_1];simp(disch:=omega) [h3]
 |succ m ih=>
  intro i hi h next T
  have h1:i<A.length:=by omega
  have h2:=hAl _ (qxq h1);have ht:sQ l (A.take (i+1))=sQ l (A.take i)++[(l[A[i]].i.k,l[A[i]].i.t)]:=by unfold sQ;rw[qZj h1,qWx,qvj,qqj h2];rfl
  have hno:su l[A[i]].i.k (sQ l (A.take i))=none:=by refine Je λp hp q=>?_;unfold sQ at hp;obtain⟨b,hb,rfl⟩:=qkx.1 hp;have hbA:=qJq hb;have hbl:=hAl b hbA;rw[qqj hbl]at q;have:=key_inj hn hbl h2 q;obtain⟨j,hj,hje⟩:=qaj.1 hb;rw[qbx]at hj;rw[List.getElem_take]at hje;have:=(zxz hAn).1 (hje.trans this);omega
  have hp:=TS l[A[i]].i.k l[A[i]].i.t _ hno;have nx:=T.nx;have T2:PcM vw ov ls ks ke cap ar fl ra ea ps pe l e (vV (sQ l (A.take (i+1)))) (put (put h (next+10) (.cells 4 [[.int .u64 l[A[i]].i.k,.int .u8 l[A[i]].i.t,.str l[A[i]].i.x,.ro 1 (l[A[i]].i.m.map eS) l[A[i]].i.e]] true true)) 5 (.map (vV (sQ l (A.take (i+1)))))) (next+20):=by
   refine⟨?_,?_,?_,?_,?_,ak ..,by omega⟩
   ·simp(disch:=omega)only[aj];exact T.g0
   ·simp(disch:=omega)only[aj];exact T.g1
   ·simp(disch:=omega)only[aj];exact T.g2
   ·simp(disch:=omega)only[aj];exact T.g3
   ·simp(disch:=omega)only[aj];exact T.g4
  obtain⟨h',n',hn',hq⟩:=ih (i+1) qqq _ _ T2;refine⟨h',n',hn',?_⟩;rw[<- hq,au BZ.eq_1];rw[ht]at *;have g5:=T.g5;generalize sQ l (A.take i)=K at *;generalize vV (K++[(l[A[i]].i.k,l[A[i]].i.t)])=K2 at *;generalize vV K=K1 at *;simp(disch:=omega) [h1,h2,hp,aK,T.g0,T.g1,T.g2,g5,ak,aj,bH]
end
theorem XG(H:sF C)(e:Bool)(nid:Nat):dQ (RnW C) 3009 [.ro 8 [] e] nid=some (.sl nid 8 0 0 0 true,[(nid,some (.cells 8 [] true true))]):=by have hr:=jL (args:=[.ro 8 [] e]) H.acL rfl [] 0;unfold dQ;rw[hr];simp[Xv,abN,nP,wU,hand,om]
theorem UL(H:sF C)(l:List Hd)(h0:l≠[])(hp:l.length<=1000000)(e:Bool)(nid:Nat):dQ (RnW C) 3009 [.ro 8 (l.map eHd) e] nid=some (.sl nid 8 0 l.length l.length false,[(nid,some (.cells 8 (eHs l) true true))]):=by
 have hr:=jL (args:=[.ro 8 (l.map eHd) e]) H.acL rfl [] 0;unfold dQ;rw[hr];cases l with
 |nil=>exact absurd rfl h0
 |cons a r=>
  simp at hp;have h1:(r.length+1)*121<=35184372088832:=by omega
  have h2:List.take r.length (List.map eHd r)=List.map eHd r:=qxz qqz;simp[Xv,YT,Tq,jG,h1,h2,nP,wU,hand,om]
section
variable (vw ov ls:Int)(ks:List Kd)(ke:Bool)(cap ar fl:Int)(ra:List Hd)(ea:Bool)(ps:List Pl)(pe:Bool)(l:List En)(e:Bool)
structure PcN(K:List (AV×AV))(pb lo:Nat)(h:aI)(next:Nat)(cs:List (List AV))(id:Nat->Nat)(i:Nat)(dt:Bool):Prop where
 g0:Pav.get h 0=some (.cells 7 [cCf vw ov ls ks ke cap ar fl] true true)
 g1:Pav.get h 1=some (.cells 2 [[.ro 8 (ra.map eHd) ea,.ro 1 (ps.map ePl) pe]] true true)
 g2:Pav.get h 2=some (.cells 1 [[.ro 6 (l.map eEn) e]] true true)
 g3:Pav.get h 3=some (.cells 2 [[.ro 8 [] true,.sl pb 1 0 ps.length ps.length true]] true false)
 g4:Pav.get h 4=some (.cells 4 [[.int .i64 0,.int .i64 0,.int .i64 0,.int .i64 0]] true true)
 g5:Pav.get h 5=some (.map K)
 gp:Pav.get h pb=some (.cells 1 (cs++List.replicate (ps.length-i) [.ro 8 [] true]) true dt)
 R:kG nM h lo next id cs ((ps.map (·.1)).take i)
 ne:6<=lo/\lo<=pb/\pb<next
 nd:∀j,j<i->id j≠pb
theorem PcN.wl{K:List (AV×AV)}{pb lo:Nat}{h:aI}{next:Nat}{cs:List (List AV)}{id:Nat->Nat}{i:Nat}{dt:Bool}(T:PcN vw ov ls ks ke cap ar fl ra ea ps pe l e K pb lo h next cs id i dt)(hi:i<=ps.length):cs.length=i:=by rw[T.R.len];simp;omega
theorem ac4(H:sF C)(A:List Nat)(f:Bool)(hl:ps.length<=1000)(hp:∀p∈ps,p.1.length<=1000000)(K:List (AV×AV))(pb lo:Nat):∀m i,m+i=ps.length->∀h next cs id dt,PcN vw ov ls ks ke cap ar fl ra ea ps pe l e K pb lo h next cs id i dt ->
 ∃h' next' cs' id' dt',PcN vw ov ls ks ke cap ar fl ra ea ps pe l e K pb lo h' next' cs' id' ps.length dt'/\(dt=false\/0<m->dt'=false) /\
 CK C 0 (aO [.cell 8 2 true,.cell 9 4 true]) [.sq O1,.bk 2 ⟨true,[10,9,8,6,5,4,3],[(9999,65537)]⟩,.sq GN] xg
  ⟨[(56,.int .i64 i),(55,.int .i64 ps.length),(54,.ro 1 (ps.map ePl) pe),(10,.map 5),(9,.ptr 4 0 0),(8,.ptr 3 0 0),(6,.ptr 2 0 0),(5,.ptr 1 0 0),(4,.ptr 0 0 0),(3,.ro 1 (A.map eAt) f)],h,next⟩ =
 CK C 0 (aO [.cell 8 2 true,.cell 9 4 true]) [] GN ⟨[(10,.map 5),(9,.ptr 4 0 0),(8,.ptr 3 0 0),(6,.ptr 2 0 0),(5,.ptr 1 0 0),(4,.ptr 0 0 0),(3,.ro 1 (A.map eAt) f)],h',next'⟩:=by
 intro m;induction m with
 |zero=>
  intro i hi h next cs id dt T
  have h3:¬i<ps.length:=by omega
  have hil:i=ps.length:=by omega
  subst hil;have ne:=T.ne;refine⟨h,next+1,cs,id,dt,⟨T.g0,T.g1,T.g2,T.g3,T.g4,T.g5,T.gp,T.R.mono qqq (λ_ _=>rfl),by omega,T.nd⟩,λq=>by rcases q with q | q;exact q;omega,?_⟩;rw[au xg.eq_1];simp(disch:=omega)
 |succ m ih=>
  intro i hi h next cs id dt T
  have h1:i<ps.length:=by omega
  have hpi:=hp _ (qxq h1);have ne:=T.ne;have hcl:=T.wl vw ov ls ks ke cap ar fl ra ea ps pe l e qqq;have hcs:i<(cs++List.replicate (ps.length-i) [AV.ro 8 [] true]).length:=by simp;omega
  have hci:(cs++List.replicate (ps.length-i) [AV.ro 8 [] true])[i]=[AV.ro 8 [] true]:=by rw[List.getElem_append_right qqq];simp
  have hset:∀v:AV,(cs++List.replicate (ps.length-i) [AV.ro 8 [] true]).set i [v]=(cs++[[v]])++List.replicate (ps.length-(i+1)) [AV.ro 8 [] true]:=by intro v;rw[qsz _ _ qqq,hcl,zQx,show ps.length-i=(ps.length-(i+1))+1 by omega,qej];simp
  have htk:(ps.map (·.1)).take (i+1)=(ps.map (·.1)).take i++[ps[i].1]:=by rw[qZj (by simpa using h1)];simp
  have hlen:((ps.map (·.1)).take i).length=i:=by simp;omega
  have key:∀(v:AV) (o:dD),nM (some o) (next+10) v ps[i].1 ->
   PcN vw ov ls ks ke cap ar fl ra ea ps pe l e K pb lo (put (put h (next+10) o) pb (.cells 1 ((cs++[[v]])++List.replicate (ps.length-(i+1)) [.ro 8 [] true]) true false)) (next+15) (cs++[[v]]) (λu=>if u=i then next+10 else id u) (i+1) false:=by
   intro v o hv;refine⟨?_,?_,?_,?_,?_,?_,ak ..,?_,by omega,λj hj=>?_⟩
   ·simp(disch:=omega)only[aj];exact T.g0
   ·simp(disch:=omega)only[aj];exact T.g1
   ·simp(disch:=omega)only[aj];exact T.g2
   ·simp(disch:=omega)only[aj];exact T.g3
   ·simp(disch:=omega)only[aj];exact T.g4
   ·simp(disch:=omega)only[aj];exact T.g5
   ·have hs:=T.R.snoc (h':=put (put h (next+10) o) pb (.cells 1 ((cs++[[v]])++List.replicate (ps.length-(i+1)) [.ro 8 [] true]) true false)) (hi':=next+15) (next+10) qqq qqq qqq v ps[i].1
     (λj hj=>by have h1:=T.R.bd j hj;have h2:=T.nd j qqq;rw[aj qqq,aj qqq])
     (by rw[aj qqq,ak];exact hv)
    rw[hlen]at hs;rw[htk];exact hs
   ·split
    ·omega
    ·exact T.nd j qqq
  by_cases c:ps[i].1=[]
  ·have hcl2:=XG H ps[i].2;obtain⟨h',n',cs',id',dt',T2,hd,hq⟩:=ih (i+1) qqq _ _ _ _ _ (key (.sl (next+10) 8 0 0 0 true) (.cells 8 [] true true) (.inl ⟨c,rfl,rfl⟩));refine⟨h',n',cs',id',dt',T2,λ_=>hd (.inl rfl),?_⟩;rw[<- hq,au xg.eq_1];have gp:=T.gp;rw[<- hset]at *;generalize cs++List.replicate (ps.length-i) [AV.ro 8 [] true]=Z at *;simp(disch:=omega) [T.g1,T.g3,gp,h1,hcs,hci,c,hcl2,ak,aj,bH,H.kk,aK]
  ·have hcl2:=UL H ps[i].1 c hpi ps[i].2;obtain⟨h',n',cs',id',dt',T2,hd,hq⟩:=ih (i+1) qqq _ _ _ _ _ (key (.sl (next+10) 8 0 ps[i].1.length ps[i].1.length false) (.cells 8 (eHs ps[i].1) true true) (.inr ⟨c,rfl,rfl⟩));refine⟨h',n',cs',id',dt',T2,λ_=>hd (.inl rfl),?_⟩;rw[<- hq,au xg.eq_1];have gp:=T.gp;rw[<- hset]at *;generalize cs++List.replicate (ps.length-i) [AV.ro 8 [] true]=Z at *;simp(disch:=omega) [T.g1,T.g3,gp,h1,hcs,hci,hcl2,ak,aj,bH,H.kk,aK]
end
section
variable (vw ov ls:Int)(ks:List Kd)(ke:Bool)(cap ar fl:Int)(l:List En)(e:Bool)
structure PcO(M S:List (AV×AV))(sb pb lo:Nat)(RW:AV)(P:Option dD->Nat->AV->List Hd->Prop)(W:List (List Hd))(N:List Int)(h:aI)(next:Nat)(cs:List (List AV))(id:Nat->Nat):Prop where
 g0:Pav.get h 0=some (.cells 7 [cCf vw ov ls ks ke cap ar fl] true true)
 g2:Pav.get h 2=some (.cells 1 [[.ro 6 (l.map eEn) e]] true true)
 g3:Pav.get h 3=some (.cells 2 [[RW,.sl pb 1 0 ks.length ks.length true]] true false)
 g4:Pav.get h 4=some (.cells 4 [N.map (AV.int .i64)] true true)
 g5:Pav.get h 5=some (.map M)
 gs:Pav.get h sb=some (.map S)
 gp:Pav.get h pb=some (.cells 1 cs true false)
 R:kG P h lo next id cs W
 wl:W.length=ks.length
 ne:6<=lo/\lo<=pb/\lo<=sb/\pb<next/\sb<next/\pb≠sb
 nd:∀j,j<ks.length->id j≠pb/\id j≠sb
theorem PcO.later{M S:List (AV×AV)}{sb pb lo:Nat}{RW:AV}{P:Option dD->Nat->AV->List Hd->Prop}{W:List (List Hd)}{N:List Int}{h h':aI}{next next':Nat}{cs:List (List AV)}{id:Nat->Nat}
 (T:PcO vw ov ls ks ke cap ar fl l e M S sb pb lo RW P W N h next cs id) (hn:next<=next') (hg:∀j,j<next->Pav.get h' j=Pav.get h j):PcO vw ov ls ks ke cap ar fl l e M S sb pb lo RW P W N h' next' cs id:=by
 have ne:=T.ne;exact⟨by rw[hg _ qqq];exact T.g0,by rw[hg _ qqq];exact T.g2,by rw[hg _ qqq];exact T.g3,by rw[hg _ qqq];exact T.g4,by rw[hg _ qqq];exact T.g5,by rw[hg _ qqq];exact T.gs,by rw[hg _ qqq];exact T.gp, T.R.mono hn (λj hj=>hg _ (T.R.bd j hj).2),T.wl,by omega,T.nd⟩
theorem PcO.ak6{M S:List (AV×AV)}{sb pb lo:Nat}{RW:AV}{P:Option dD->Nat->AV->List Hd->Prop}{W:List (List Hd)}{N:List Int}{h:aI}{next:Nat}{cs:List (List AV)}{id:Nat->Nat}
 (T:PcO vw ov ls ks ke cap ar fl l e M S sb pb lo RW P W N h next cs id) (N':List Int):PcO vw ov ls ks ke cap ar fl l e M S sb pb lo RW P W N' (put h 4 (.cells 4 [N'.map (AV.int .i64)] true true)) next cs id:=by
 have ne:=T.ne;refine⟨by rw[aj qqq];exact T.g0,by rw[aj qqq];exact T.g2,by rw[aj qqq];exact T.g3,ak ..,by rw[aj qqq];exact T.g5,by rw[aj qqq];exact T.gs,by rw[aj qqq];exact T.gp, T.R.mono (qxx _) (λj hj=>aj (by have:=(T.R.bd j hj).1;omega)),T.wl,T.ne,T.nd⟩
theorem PcO.ave{M S:List (AV×AV)}{sb pb lo:Nat}{RW:AV}{P:Option dD->Nat->AV->List Hd->Prop}{W:List (List Hd)}{N:List Int}{h:aI}{next:Nat}{cs:List (List AV)}{id:Nat->Nat}
 (T:PcO vw ov ls ks ke cap ar fl l e M S sb pb lo RW P W N h next cs id) (S':List (AV×AV)):PcO vw ov ls ks ke cap ar fl l e M S' sb pb lo RW P W N (put h sb (.map S')) next cs id:=by
 have ne:=T.ne;refine⟨by rw[aj qqq];exact T.g0,by rw[aj qqq];exact T.g2,by rw[aj qqq];exact T.g3,by rw[aj qqq];exact T.g4,by rw[aj qqq];exact T.g5,ak ..,by rw[aj qqq];exact T.gp, T.R.mono (qxx _) (λj hj=>aj (qYx (T.nd j (by rw[<- T.wl];exact hj)).2)),T.wl,T.ne,T.nd⟩
theorem PcO.aeH{M S:List (AV×AV)}{sb pb lo:Nat}{RW:AV}{P:Option dD->Nat->AV->List Hd->Prop}{W:List (List Hd)}{N:List Int}{h h':aI}{next next':Nat}{cs:List (List AV)}{id:Nat->Nat}
 (T:PcO vw ov ls ks ke cap ar fl l e M S sb pb lo RW P W N h next cs id) (t:Nat) (ht:t<ks.length) (b:Nat) (hb:b=id t\/next<=b) (hb2:b<next') (hn:next<=next') (v:AV) (d:List Hd) (hP:P (Pav.get h' b) b v d)
 (hp:Pav.get h' pb=some (.cells 1 (cs.set t [v]) true false)) (hg:∀j,j<next->j≠id t->j≠pb->Pav.get h' j=Pav.get h j) :
 PcO vw ov ls ks ke cap ar fl l e M S sb pb lo RW P (W.set t d) N h' next' (cs.set t [v]) (λi=>if i=t then b else id i):=by
 have ne:=T.ne;have wl:=T.wl;have hbd:=T.R.bd t qqq;have hnt:=T.nd t ht;refine⟨?_,?_,?_,?_,?_,?_,hp,T.R.set t qqq b hb qqq hb2 hn v d (λj hj hjt=>?_) hP,by simp[wl],by omega,λj hj=>?_⟩
 ·rw[hg _ qqq qqq qqq];exact T.g0
 ·rw[hg _ qqq qqq qqq];exact T.g2
 ·rw[hg _ qqq qqq qqq];exact T.g3
 ·rw[hg _ qqq qqq qqq];exact T.g4
 ·rw[hg _ qqq qqq qqq];exact T.g5
 ·rw[hg _ qqq qqq qqq];exact T.gs
 ·have h1:=T.R.bd j hj;exact hg _ h1.2 (λq=>hjt (T.R.inj j t hj qqq q)) (T.nd j qqq).1
 ·have h1:=T.nd j hj;split
  ·rcases hb with q | q
   ·rw[q];exact hnt
   ·omega
  ·exact h1
end
section
variable (vw ov ls:Int)(ks:List Kd)(ke:Bool)(cap ar fl:Int)(l:List En)(e:Bool)
theorem ab5(H:sF C)(A:List Nat)(f:Bool)(ra:List Hd)(ea:Bool)(hra:ra.length<=1000)(hrn:(ra.map Hd.k).Nodup)(hty:∀x∈ra,∃t:Nat,x.t=t/\t<ks.length)(K:List (Int×Int))(hM:∀x∈ra,(stF x l A=true↔su x.k K=some x.t))(sb pb lo:Nat):∀m i,m+i=ra.length ->
 ∀(W:List (List Hd)) (d:Int) (h:aI) (next:Nat) (cs:List (List AV)) (id:Nat->Nat),
 PcO vw ov ls ks ke cap ar fl l e (vV K) (vO (stay (ra.take i) l A)) sb pb lo (.ro 8 [] true) nM W [0,0,d,0] h next cs id->(∀w∈W,w.length+m<=1000000)->(∀(j:Nat) (w:List Hd),W[j]?=some w->(w.length:Int)<=vk ks j)->0<=d->d+m<=1000000 ->
 ∃h' next' cs' id',PcO vw ov ls ks ke cap ar fl l e (vV K) (vO (stay ra l A)) sb pb lo (.ro 8 [] true) nM (cm1 ks l A (ra.drop i) (W,d)).1 [0,0,(cm1 ks l A (ra.drop i) (W,d)).2,0] h' next' cs' id' /\
 CK C 0 (aO [.cell 8 2 true,.cell 9 4 true]) [.sq QN,.bk 4 ⟨true,[16,9,8,6,4,3],[(9999,65537)]⟩,.sq Io] rF
  ⟨[(72,.int .i64 i),(71,.int .i64 ra.length),(70,.ro 8 (ra.map eHd) ea),(16,.map sb),(10,.map 5),(9,.ptr 4 0 0),(8,.ptr 3 0 0),(6,.ptr 2 0 0),(4,.ptr 0 0 0),(3,.ro 1 (A.map eAt) f)],h,next⟩ =
 CK C 0 (aO [.cell 8 2 true,.cell 9 4 true]) [] Io ⟨[(16,.map sb),(9,.ptr 4 0 0),(8,.ptr 3 0 0),(6,.ptr 2 0 0),(4,.ptr 0 0 0),(3,.ro 1 (A.map eAt) f)],h',next'⟩:=by
 intro m;induction m with
 |zero=>
  intro i hi W d h next cs id T hW hWp h0 h1
  have h2:ra.drop i=[]:=qzx qqq;have h3:¬i<ra.length:=by omega
  rw[qxz qqq]at T;rw[h2];refine⟨h,next+1,cs,id,T.later vw ov ls ks ke cap ar fl l e qqq (λ_ _=>rfl),?_⟩;rw[au rF.eq_1];simp(disch:=omega) [h3]
 |succ m ih=>
  intro i hi W d h next cs id T hW hWp h0 h1
  have h3:i<ra.length:=by omega
  obtain⟨t,ht,htl⟩:=hty _ (qxq h3);have hg:=Vk ra[i].k K;have hMi:=hM _ (qxq h3);have ne:=T.ne;have hwl:=T.wl;have hcl:cs.length=ks.length:=by rw[T.R.len,hwl]
  have htc:t<cs.length:=by omega
  have htW:t<W.length:=by omega
  have nd:=T.nd t htl;have bd:=T.R.bd t htW;have hW1:=hW _ (qxq htW);have hrow:rowAt W ra[i].t=W[t]:=by rw[ht];simp[rowAt,htW]
  have hpl:vk ks ra[i].t=ks[t].pl:=by rw[ht];simp[vk,htl]
  have htk:ra.take (i+1)=ra.take i++[ra[i]]:=qZj h3;rw[drop_cons h3];by_cases c:stF ra[i] l A=true
  ·have hS:(stay (ra.take i) l A).contains ra[i].k=false:=by
    cases q:(stay (ra.take i) l A).contains ra[i].k
    ·rfl
    ·exfalso;obtain⟨x,hx,hxk⟩:=qkx.1 (qVq.1 q);have hx2:=(qaz.1 hx).1;have hn:=hrn;rw[<- q3j i ra,qWx,qpq]at hn;exact hn.2.2 _ (qkx.2 ⟨x,hx2,rfl⟩) _ (by rw[drop_cons h3];simp) hxk
   have hSt:stay (ra.take (i+1)) l A=stay (ra.take i) l A++[ra[i].k]:=by unfold stay;rw[htk,List.filter_append,qWx];simp[c]
   have hp:=Ea ra[i].k _ hS;rw[hMi.1 c,ht]at hg;rw[<- hSt]at hp;have T1:=(T.later vw ov ls ks ke cap ar fl l e (h':=put h (next+3) (.cells 8 [AV.int .u64 ra[i].k::AV.int .u8 t::ra[i].n.c] true true)) (next':=next+34) qqq (λj hj=>aj qqq)).ave vw ov ls ks ke cap ar fl l e (vO (stay (ra.take (i+1)) l A));obtain⟨h',n',cs',id',e2,e1⟩:=ih (i+1) qqq W d _ _ _ _ T1 (λw hw=>by have:=hW w hw;omega) hWp h0 qqq;refine⟨h',n',cs',id',by simp only[cm1,c,qyx];exact e2,?_⟩;rw[<- e1];have gs:=T.gs;generalize vO (stay (ra.take (i+1)) l A)=S1 at *;generalize vO (stay (ra.take i) l A)=S0 at *;rw[au rF.eq_1];simp at hg;simp(disch:=omega) [T.g0,T.g2,T.g3,T.g4,T.g5,gs,T.gp,h3,ht,htl,htc,hg,hp,ak,aj,bH,aK]
  ·have hSt:stay (ra.take (i+1)) l A=stay (ra.take i) l A:=by unfold stay;rw[htk,List.filter_append,qWx];simp[c]
   rw[<- hSt]at T;have hlk:∃u:Option Int,su ra[i].k K=u/\u≠some (t:Int):=⟨_,rfl,λq=>c (hMi.2 (by rw[q,ht]))⟩;obtain⟨u,hu,hun⟩:=hlk;rw[hu]at hg;obtain⟨v,hv,hP⟩:=T.R.row t W[t] (qqj htW);rw[qqj htc]at hv;replace hv:=qkq hv;have hWt:=hWp t W[t] (qqj htW);rw[<- ht,hpl]at hWt;by_cases c2:(W[t].length:Int)=ks[t].pl
   ·have hcm:∀r s,cm1 ks l A (ra[i]::r) (W,s)=cm1 ks l A r (W,s+1):=by intro r s;simp only[cm1,qwx c];rw[qzq (by rw[hrow,hpl];exact c2)]
    rw[hcm];have T1:=(T.later vw ov ls ks ke cap ar fl l e (h':=put h (next+3) (.cells 8 [AV.int .u64 ra[i].k::AV.int .u8 t::ra[i].n.c] true true)) (next':=next+48) qqq (λj hj=>aj qqq)).ak6 vw ov ls ks ke cap ar fl l e [0,0,d+1,0];obtain⟨h',n',cs',id',e2,e1⟩:=ih (i+1) qqq W (d+1) _ _ _ _ T1 (λw hw=>by have:=hW w hw;omega) hWp qqq qqq;refine⟨h',n',cs',id',e2,?_⟩;rw[<- e1];have gs:=T.gs;generalize vO (stay (ra.take (i+1)) l A)=S0 at *;have c3:¬(W[t].length:Int)<ks[t].pl:=by omega
    have g4:=T.g4;rw[au rF.eq_1];rcases hP with⟨p0,p1,p2⟩|⟨p0,p1,p2⟩
    ·rw[p1]at hv;rw[p0]at c3;simp at c3;have c4:¬0<ks[t].pl:=by omega
     cases u with
     |none=>simp at hg;simp(disch:=omega) [T.g0,T.g2,T.g3,g4,T.g5,gs,T.gp,p2,h3,ht,htl,htc,hg,hv,c3,c4,ak,aj,bH,aK]
     |some u=>simp at hg;have hun2:¬u=(t:Int):=λq=>hun (by rw[q]);simp(disch:=omega) [T.g0,T.g2,T.g3,g4,T.g5,gs,T.gp,p2,h3,ht,htl,htc,hg,hv,c3,c4,hun2,ak,aj,bH,aK]
    ·rw[p1]at hv;cases u with
     |none=>simp at hg;simp(disch:=omega) [T.g0,T.g2,T.g3,g4,T.g5,gs,T.gp,p2,h3,ht,htl,htc,hg,hv,c3,ak,aj,bH,aK]
     |some u=>simp at hg;have hun2:¬u=(t:Int):=λq=>hun (by rw[q]);simp(disch:=omega) [T.g0,T.g2,T.g3,g4,T.g5,gs,T.gp,p2,h3,ht,htl,htc,hg,hv,c3,hun2,ak,aj,bH,aK]
   ·have hcm:∀r s,cm1 ks l A (ra[i]::r) (W,s)=cm1 ks l A r (W.set t (W[t]++[ra[i]]),s):=by
     intro r s;have:ra[i].t.toNat=t:=by omega
     simp only[cm1,qwx c];rw[qwx (by rw[hrow,hpl];exact c2),hrow,this]
    rw[hcm];have hft:(W[t].length+1)*121<=35184372088832:=by omega
    have c3:(W[t].length:Int)<ks[t].pl:=by omega
    have hplt:vk ks t=ks[t].pl:=by rw[<- ht];exact hpl
    have hWn:∀w∈W.set t (W[t]++[ra[i]]),w.length+m<=1000000:=by
     intro w hw;rcases qXx hw with q | q
     ·have:=hW w q;omega
     ·subst q;simp;omega
    have hWpn:∀(j:Nat) (w:List Hd),(W.set t (W[t]++[ra[i]]))[j]?=some w->(w.length:Int)<=vk ks j:=by
     intro j w hw;rw[qgq]at hw;split at hw
     ·rename_i q;subst q;obtain rfl:=qkq hw;rw[hplt];simp;omega
     ·exact hWp j w hw
    have gs:=T.gs;have g4:=T.g4;rcases hP with⟨p0,p1,p2⟩|⟨p0,p1,p2⟩
    ·rw[p1]at hv;have T1:=T.aeH vw ov ls ks ke cap ar fl l e t htl (next+47) (.inr qqq) (show next+47<next+52 by omega) qqq (.sl (next+47) 8 0 1 1 false) (W[t]++[ra[i]])
      (h':=put (put (put (put h (next+3) (.cells 8 [(AV.int .u64 ra[i].k::AV.int .u8 t::ra[i].n.c)] true true)) (next+46) (.cells 8 [(AV.int .u64 ra[i].k::AV.int .u8 t::ra[i].n.c)] true true)) (next+47) (.cells 8 [(AV.int .u64 ra[i].k::AV.int .u8 t::ra[i].n.c)] true true)) pb (.cells 1 (cs.set t [.sl (next+47) 8 0 1 1 false]) true false))
      (.inr ⟨by simp,by rw[p0];rfl,by simp(disch:=omega)only[ak,aj];rw[p0];simp[ht]⟩) (by rw[ak]) (λj h1 h2 h3=>by simp(disch:=omega)only[ak,aj])
     obtain⟨h',n',cs',id',e2,e1⟩:=ih (i+1) qqq _ d _ _ _ _ T1 hWn hWpn h0 qqq;refine⟨h',n',cs',id',e2,?_⟩;rw[<- e1];generalize vO (stay (ra.take (i+1)) l A)=S0 at *;rw[au rF.eq_1];rw[p0]at c3;simp at c3;cases u with
     |none=>simp at hg;simp(disch:=omega) [T.g0,T.g2,T.g3,g4,T.g5,gs,T.gp,p2,h3,ht,htl,htc,hg,hv,c3,ak,aj,aF,bH,aK,ltF,gtF,neF,fits]
     |some u=>simp at hg;have hun2:¬u=(t:Int):=λq=>hun (by rw[q]);simp(disch:=omega) [T.g0,T.g2,T.g3,g4,T.g5,gs,T.gp,p2,h3,ht,htl,htc,hg,hv,c3,hun2,ak,aj,aF,bH,aK,ltF,gtF,neF,fits]
    ·rw[p1]at hv;have T1:=T.aeH vw ov ls ks ke cap ar fl l e t htl (next+47) (.inr qqq) (show next+47<next+52 by omega) qqq (.sl (next+47) 8 0 (W[t].length+1) (W[t].length+1) false) (W[t]++[ra[i]])
      (h':=put (put (del (put (put h (next+3) (.cells 8 [(AV.int .u64 ra[i].k::AV.int .u8 t::ra[i].n.c)] true true)) (next+46) (.cells 8 [(AV.int .u64 ra[i].k::AV.int .u8 t::ra[i].n.c)] true true)) (id t)) (next+47) (.cells 8 (eHs W[t]++[(AV.int .u64 ra[i].k::AV.int .u8 t::ra[i].n.c)]) true true)) pb (.cells 1 (cs.set t [.sl (next+47) 8 0 (W[t].length+1) (W[t].length+1) false]) true false))
      (.inr ⟨by simp,by simp,by simp(disch:=omega)only[ak,aj];simp[ht]⟩) (by rw[ak]) (λj h1 h2 h3=>by have:=qYx h2;simp(disch:=omega)only[ak,aj,aF])
     obtain⟨h',n',cs',id',e2,e1⟩:=ih (i+1) qqq _ d _ _ _ _ T1 hWn hWpn h0 qqq;refine⟨h',n',cs',id',e2,?_⟩;rw[<- e1];generalize vO (stay (ra.take (i+1)) l A)=S0 at *;rw[au rF.eq_1];cases u with
     |none=>simp at hg;simp(disch:=omega) [T.g0,T.g2,T.g3,g4,T.g5,gs,T.gp,p2,h3,ht,htl,htc,hg,hv,c3,ak,aj,aF,bH,aK,ltF,gtF,neF,hft]
     |some u=>simp at hg;have hun2:¬u=(t:Int):=λq=>hun (by rw[q]);simp(disch:=omega) [T.g0,T.g2,T.g3,g4,T.g5,gs,T.gp,p2,h3,ht,htl,htc,hg,hv,c3,hun2,ak,aj,aF,bH,aK,ltF,gtF,neF,hft]
end
end Go.D
end
