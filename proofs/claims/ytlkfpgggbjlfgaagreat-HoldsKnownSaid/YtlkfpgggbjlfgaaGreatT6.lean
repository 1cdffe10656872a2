/- Part of the theory that the claims of this work use: D03, D04, D05, D06, D07, D08, D09, D10, D11, D12, D13, D14, D15, D16, D17, D18, D19, D20, D21, D22, D23, V600, D24, D25, D26, D27, D28, D29, D32, D34, D35, D36, GTy, V27. No conditions of its own. -/
import Derived.Test.YtlkfpgggbjlfgaaGreatT5
import Derived.Sort.Walk0
set_option linter.unusedVariables false
set_option linter.unusedSimpArgs false
set_option maxHeartbeats 4000000
set_option maxRecDepth 10000
section
namespace Go.D
open Go Go.Pav Go.Pw P
attribute [-simp] List.getElem_cons_drop
variable {C:aJ}
abbrev Bs:=List UInt8
@[simp] def eA(a:Bs×Bs):List AV:=[.str a.1,.str a.2]
structure Nd where
 k:Int
 t:Bs
 y:Bs
 a:List (Bs×Bs)
 ae:Bool
 x:Bs
 ch:List Nd
 ce:Bool
mutual
def Nd.c:Nd->List AV
 |⟨k,t,y,a,ae,x,ch,ce⟩=>[.int .u8 k,.str t,.str y,.ro 2 (a.map eA) ae,.str x,.ro 6 (Nd.cs ch) ce]
def Nd.cs:List Nd->List (List AV)
 |[]=>[]
 |n::r=>n.c::Nd.cs r
end
theorem Nd.Tz:∀l:List Nd,Nd.cs l=l.map Nd.c
 |[]=>rfl
 |n::r=>by rw[Nd.cs,Nd.Tz r];rfl
theorem Nd.bU(n:Nd):n.c=[.int .u8 n.k,.str n.t,.str n.y,.ro 2 (n.a.map eA) n.ae,.str n.x,.ro 6 (n.ch.map Nd.c) n.ce]:=by cases n;rw[Nd.c,Nd.Tz]
@[simp] theorem Nd.aoF(n:Nd):n.c.length=6:=by rw[Nd.bU];rfl
@[simp] theorem Nd.al9(n:Nd):n.c.take 6=n.c:=qxz qqz
@[simp] theorem Nd.c0(n:Nd):n.c[0]?=some (.int .u8 n.k):=by rw[Nd.bU];rfl
@[simp] theorem Nd.c1(n:Nd):n.c[1]?=some (.str n.t):=by rw[Nd.bU];rfl
@[simp] theorem Nd.c2(n:Nd):n.c[2]?=some (.str n.y):=by rw[Nd.bU];rfl
@[simp] theorem Nd.c3(n:Nd):n.c[3]?=some (.ro 2 (n.a.map eA) n.ae):=by rw[Nd.bU];rfl
@[simp] theorem Nd.c4(n:Nd):n.c[4]?=some (.str n.x):=by rw[Nd.bU];rfl
@[simp] theorem Nd.c5(n:Nd):n.c[5]?=some (.ro 6 (n.ch.map Nd.c) n.ce):=by rw[Nd.bU];rfl
@[simp] theorem Nd.g0(n:Nd)(h:0<n.c.length):n.c[0]=.int .u8 n.k:=qkq ((qqj h).symm.trans n.c0)
@[simp] theorem Nd.g1(n:Nd)(h:1<n.c.length):n.c[1]=.str n.t:=qkq ((qqj h).symm.trans n.c1)
@[simp] theorem Nd.g2(n:Nd)(h:2<n.c.length):n.c[2]=.str n.y:=qkq ((qqj h).symm.trans n.c2)
@[simp] theorem Nd.g3(n:Nd)(h:3<n.c.length):n.c[3]=.ro 2 (n.a.map eA) n.ae:=qkq ((qqj h).symm.trans n.c3)
@[simp] theorem Nd.g4(n:Nd)(h:4<n.c.length):n.c[4]=.str n.x:=qkq ((qqj h).symm.trans n.c4)
@[simp] theorem Nd.g5(n:Nd)(h:5<n.c.length):n.c[5]=.ro 6 (n.ch.map Nd.c) n.ce:=qkq ((qqj h).symm.trans n.c5)
@[simp] theorem Nd.hd(n:Nd):n.c.head?=some (.int .u8 n.k):=by rw[Nd.bU];rfl
@[simp] theorem Nd.aoc(n:Nd):bW n.c=false:=by rw[Nd.bU];rfl
@[simp] theorem Nd.akv(n:Nd)(h:aI)(k:Nat):aZ (bD h (k+1)) n.c=some n.c:=by rw[Nd.bU];rfl
@[simp] theorem Nd.agR(n:Nd)(h:aI)(k:Nat):n.c.flatMap (aQ h (k+1))=[]:=by rw[Nd.bU];rfl
@[simp] theorem Nd.anH(n:Nd)(π:Nat->Option Nat):mQ π n.c=some n.c:=by rw[Nd.bU];rfl
@[simp] theorem Nd.alk(n:Nd):FD n.c=[]:=by rw[Nd.bU];rfl
@[simp] theorem Nd.aoa(n:Nd):n.c.all isC=true:=by rw[Nd.bU];rfl
@[simp] theorem Nd.alf(n:Nd):n.c.all AV.cell=true:=by rw[Nd.bU];rfl
def after:Option Bs->Bs->Bool
 |none,_=>true
 |some p,a=>decide (p<a)
def atOk:Option Bs->List (Bs×Bs)->Bool
 |_,[]=>true
 |p,a::r=>isName a.1&&isText a.2&&after p a.1&&atOk (some a.1) r
def iP:List Bs->List Bs->Bool
 |_,[]=>true
 |p,k::r=>!(decide (k≠[])&&p.contains k)&&iP (p++[k]) r
def alone(n:Nd):Bool :=
 if n.k=2 then isText n.x&&decide (n.t=[])&&decide (n.y=[])&&decide (n.a=[])&&decide (n.ch=[])
 else decide (n.k=1)&&isName n.t&&(decide (n.y=[])||isName n.y)&&decide (n.x=[])&&decide (n.a.length<=8)&&decide (n.ch.length<=16)&&atOk none n.a&&iP [] (n.ch.map Nd.y)
structure XV(C:aJ):Prop extends ql C where
 amu:GwC C 434 zh
 ak5:GwC C 519 afw
 amA:GwC C 518 afK
 alT:GwC C 562 agt
theorem asu(H:XV C)(n:Nd)(c:Nd):FnW C 519 [.agg n.c,.rop c.c]=some (.bool (decide (n.y=c.y))):=by
 rw[aN H.ak5 rfl,Nd.bU,Nd.bU];by_cases h:n.y=c.y
 ·simp[afw,h]
 ·simp[afw,h]
theorem UQ(H:XV C)(c:Nd)(l:List Nd)(e:Bool)(hl:l.length<=1000000):∀n i,n+i=l.length ->
 ∃v:Int,BX C ⟨[(8,.int .i64 i),(7,.int .i64 l.length),(1,.fn 519 [.rop c.c]),(0,.ro 6 (l.map Nd.c) e)],[],0⟩=some (.int .i64 v)/\decide (v<0)=!((l.drop i).map Nd.y).contains c.y:=by
 intro n;induction n with
 |zero=>
  intro i hi;simp only[BX];rw[au xK.eq_1];have h1:l.drop i=[]:=qzx qqq;have h3:¬i<l.length:=by omega
  exact⟨-1,by simp[au RG.eq_1,h3],by simp[h1]⟩
 |succ n ih=>
  intro i hi;have h1:i<l.length:=by omega
  have hb:=asu H l[i] c;rw[drop_cons h1];by_cases q:l[i].y=c.y
  ·refine⟨i,?_,by simp[q]⟩;simp only[BX];rw[au xK.eq_1];simp(disch:=omega) [h1,hb,q,H.kk]
  ·obtain⟨v,hv,hq⟩:=ih (i+1) qqq;refine⟨v,?_,?_⟩
   ·simp only[BX]at hv |-;rw[au xK.eq_1];simp at hv;simp(disch:=omega) [h1,aK,hb,q,H.kk,hv]
   ·have q':¬c.y=l[i].y:=λh=>q h.symm;simp[hq,q']
theorem RF(H:XV C)(c:Nd)(l:List Nd)(e:Bool)(hl:l.length<=1000000):FnW C 518 [.ro 6 (l.map Nd.c) e,.fn 519 [.rop c.c]]=some (.bool ((l.map Nd.y).contains c.y)):=by
 obtain⟨v,h,q⟩:=UQ H c l e hl l.length 0 qqz;rw[qjz]at q;have h2:FnW C 562 [.ro 6 (l.map Nd.c) e,.fn 519 [.rop c.c]]=some (.int .i64 v):=by rw[aN H.alT rfl];simp only[BX]at h;simp at h;simp[agt,h]
 have q':(l.map Nd.y).contains c.y=!decide (v<0):=by rw[q];simp
 rw[aN H.amA rfl,q'];by_cases c:v<0
 ·have c':¬0<=v:=by omega
  simp[afK,H.kk,h2,c,c']
 ·have c':0<=v:=by omega
  simp[afK,H.kk,h2,c,c']
theorem blt_eq:∀x y:Bs,Pav.bytesLess x y=decide (x<y)
 |[],[]=>by simp[Pav.bytesLess]
 |[],_::_=>by simp[Pav.bytesLess]
 |_::_,[]=>by simp[Pav.bytesLess]
 |a::x,b::y=>by
  rw[Pav.bytesLess,blt_eq x y];by_cases h:a<b
  ·simp[h,q3x]
  ·by_cases q:a=b
   ·simp[h,q,q3x]
   ·simp[h,q,q3x]
theorem ER(x y:Bs):(Pav.bytesLess x y||x == y)=!decide (y<x):=by
 rw[blt_eq];by_cases h:y<x
 ·have h1:¬x<y:=λq=>List.lt_irrefl x (List.lt_trans q h);have h2:¬x=y:=λq=>by subst q;exact List.lt_irrefl x h
  simp[h,h1,h2]
 ·rcases Decidable.em (x=y)with q | q
  ·simp[h,q]
  ·have h1:x<y:=qnj λp=>q (List.le_antisymm (q2x.1 h) (q2x.1 p));simp[h,h1]
theorem aae(H:XV C)(k:Int)(t y x:Bs)(a:List (Bs×Bs))(ae ce:Bool)(ch:List Nd)(hl:ch.length<=1000000):∀n i,n+i=ch.length ->
 I7 C ⟨[(142,.int .i64 i),(141,.int .i64 ch.length),(140,.ro 6 (ch.map Nd.c) ce),(0,.rop [.int .u8 k,.str t,.str y,.ro 2 (a.map eA) ae,.str x,.ro 6 (ch.map Nd.c) ce])],[],0⟩ =
  some (.bool (iP ((ch.map Nd.y).take i) ((ch.map Nd.y).drop i))):=by
 intro n;induction n with
 |zero=>
  intro i hi;simp only[I7];rw[au Dj.eq_1];have h1:(ch.map Nd.y).drop i=[]:=qzx qqx;have h3:¬i<ch.length:=by omega
  simp[au QX.eq_1,h1,h3,iP,-List.map_drop]
 |succ n ih=>
  intro i hi;have h1:i<ch.length:=by omega
  have h2:i<(ch.map Nd.y).length:=by simp;omega
  have hb:=RF H ch[i] (ch.take i) false qqx;have:=ih (i+1) qqq;rw[qZj h2]at this;rw[drop_cons h2,iP];have hy:(ch.map Nd.y)[i]=ch[i].y:=by simp
  rw[q4j,q4j]at hb;rw[hy]at this |-;have hne:¬i=ch.length:=by omega
  have hle:i<=ch.length:=by omega
  simp only[I7]at this |-;rw[au Dj.eq_1];generalize hP:(ch.map Nd.y).take i=P at *;generalize hQ:(ch.map Nd.y).drop (i+1)=Q at *;simp at this;by_cases c1:ch[i].y=[]
  ·rw[c1]at this;simp(disch:=omega) [h1,aK,c1,H.kk,this]
  ·by_cases c2:P.contains ch[i].y=true
   ·rw[c2]at hb;have c2':ch[i].y∈P:=by simpa using c2
    simp(disch:=omega) [h1,hne,hle,aK,c1,c2',hb,H.kk,this]
   ·have c2':¬ch[i].y∈P:=by simpa using c2
    have c3:P.contains ch[i].y=false:=by simpa using c2
    rw[c3]at hb;simp(disch:=omega) [h1,hne,hle,aK,c1,c2',hb,H.kk,this]
theorem Jl(H:XV C)(k:Int)(t y x:Bs)(a:List (Bs×Bs))(ae ce:Bool)(ch:List Nd)(hl:ch.length<=1000000)(ha:a.length<=1000000):∀n i,n+i=a.length ->
 CU C ⟨[(103,.int .i64 i),(102,.int .i64 a.length),(101,.ro 2 (a.map eA) ae),(0,.rop [.int .u8 k,.str t,.str y,.ro 2 (a.map eA) ae,.str x,.ro 6 (ch.map Nd.c) ce])],[],0⟩ =
  some (.bool (atOk (if i=0 then none else(a[i-1]?).map Prod.fst) (a.drop i)&&iP [] (ch.map Nd.y))):=by
 intro n;induction n with
 |zero=>
  intro i hi;have hk:=aae H k t y x a ae ce ch hl ch.length 0 qqz;simp only[q9x,qjz]at hk;generalize iP [] (ch.map Nd.y)=K at *;simp only[I7]at hk;simp at hk;simp only[CU];rw[au AY.eq_1];have h1:a.drop i=[]:=qzx qqq;have h3:¬i<a.length:=by omega
  simp[au SA.eq_1,h1,h3,atOk,hk]
 |succ n ih=>
  intro i hi;have h1:i<a.length:=by omega
  have hb:=named_ok H.toql a[i].1;have hc:=Yf H.toql a[i].2;have:=ih (i+1) qqq;rw[qwx qqq,show i+1-1=i from rfl,qqj h1]at this;rw[drop_cons h1,atOk];generalize hK:iP [] (ch.map Nd.y)=K at *;simp only[CU]at this |-;rw[au AY.eq_1];simp only[qhq]at this;generalize atOk (some a[i].1) (a.drop (i+1))=R at *;simp at this;cases q1:isName a[i].1
  ·rw[q1]at hb;simp(disch:=omega) [h1,aK,hb,H.kk]
  ·cases q2:isText a[i].2
   ·rw[q1]at hb;rw[q2]at hc;simp(disch:=omega) [h1,aK,hb,hc,H.kk]
   ·rw[q1]at hb;rw[q2]at hc;cases i with
    |zero=>simp at this;simp(disch:=omega) [h1,aK,hb,hc,H.kk,this,after]
    |succ i=>
     have h4:i<a.length:=by omega
     have h5:(i:Int)+1<a.length:=by omega
     simp at this;by_cases q3:a[i].1<a[i+1].1
     ·have q4:¬a[i+1].1<=a[i].1:=List.not_le.2 q3;simp(disch:=omega) [h1,h4,h5,aK,hb,hc,H.kk,this,ER,after,q3,q4]
     ·have q4:a[i+1].1<=a[i].1:=q2x.1 q3;simp(disch:=omega) [h1,h4,h5,aK,hb,hc,H.kk,this,ER,after,q3,q4]
theorem adU(H:XV C)(n:Nd):FnW C 434 [.rop n.c]=some (.bool (alone n)):=by
 obtain⟨k,t,y,a,ae,x,ch,ce⟩:=n;rw[aN H.amu rfl,Nd.bU];simp only[];unfold alone;simp only[];have ht:=named_ok H.toql t;have hy:=named_ok H.toql y;have hx:=Yf H.toql x;by_cases k2:k=2
 ·rw[qzq k2];generalize isText x=X at *;cases X
  ·simp[zh,k2,hx,H.kk]
  ·by_cases c1:t=[]<;>by_cases c2:y=[]<;>by_cases c3:a=[]<;>by_cases c4:ch=[]<;>simp[zh,k2,hx,H.kk,c1,c2,c3,c4]
 ·rw[qwx k2];by_cases k1:k=1
  ·cases q1:isName t
   ·rw[q1]at ht;simp[zh,k1,ht,H.kk]
   ·rw[q1]at ht;by_cases c2:y=[]
    ·subst c2;by_cases c3:x=[]
     ·subst c3;by_cases c4:a.length<=8
      ·by_cases c5:ch.length<=16
       ·have c6:¬8<(a.length:Int):=by omega
        have c7:¬16<(ch.length:Int):=by omega
        have hl:=Jl H 1 t [] [] a ae ce ch qqq qqq a.length 0 qqz;simp only[CU,qyx,qjz]at hl;generalize atOk none a=A at *;generalize iP [] (ch.map Nd.y)=K at *;simp at hl;simp[zh,k1,ht,H.kk,c4,c5,c6,c7,hl]
       ·have c6:¬8<(a.length:Int):=by omega
        have c7:16<(ch.length:Int):=by omega
        simp[zh,k1,ht,H.kk,c4,c5,c6,c7]
      ·have c6:8<(a.length:Int):=by omega
       simp[zh,k1,ht,H.kk,c4,c6]
     ·simp[zh,k1,ht,H.kk,c3]
    ·cases q2:isName y
     ·rw[q2]at hy;simp[zh,k1,ht,hy,H.kk,c2]
     ·rw[q2]at hy;by_cases c3:x=[]
      ·subst c3;by_cases c4:a.length<=8
       ·by_cases c5:ch.length<=16
        ·have c6:¬8<(a.length:Int):=by omega
         have c7:¬16<(ch.length:Int):=by omega
         have hl:=Jl H 1 t y [] a ae ce ch qqq qqq a.length 0 qqz;simp only[CU,qyx,qjz]at hl;generalize atOk none a=A at *;generalize iP [] (ch.map Nd.y)=K at *;simp at hl;simp[zh,k1,ht,hy,H.kk,c2,c4,c5,c6,c7,hl]
        ·have c6:¬8<(a.length:Int):=by omega
         have c7:16<(ch.length:Int):=by omega
         simp[zh,k1,ht,hy,H.kk,c2,c4,c5,c6,c7]
       ·have c6:8<(a.length:Int):=by omega
        simp[zh,k1,ht,hy,H.kk,c2,c4,c6]
      ·simp[zh,k1,ht,hy,H.kk,c2,c3]
  ·simp[zh,k1,k2,H.kk]
mutual
/-- The walk below a node: whether it ends well, how many nodes, how many levels. -/
def wk:Nd->Nat->Nat×Nat->Bool×(Nat×Nat)
 |⟨k,t,y,a,ae,x,ch,ce⟩,lv,(c,d)=>if 6<lv\/64<c+1\/alone ⟨k,t,y,a,ae,x,ch,ce⟩=false then(false,(c+1,max d lv))else wks ch (lv+1) (c+1,max d lv)
def wks:List Nd->Nat->Nat×Nat->Bool×(Nat×Nat)
 |[],_,s=>(true,s)
 |m::r,lv,s=>if (wk m lv s).1=true then wks r lv (wk m lv s).2 else(false,(wk m lv s).2)
end
theorem acJ(n:Nd)(lv c d:Nat):wk n lv (c,d)=if 6<lv\/64<c+1\/alone n=false then(false,(c+1,max d lv))else wks n.ch (lv+1) (c+1,max d lv):=by cases n;rw[wk]
structure UJ(C:aJ):Prop extends XV C where
 ak7:GwC C 433 Jz
 f282:GwC C 282 ag2
 f140:GwC C 140 agi
 am3:GwC C 439 afy
abbrev hpM(root:Nd)(s:Nat×Nat):aI:=[(0,.cells 6 [root.c] true true),(1,.cells 1 [[.int .i64 s.1]] true true),(2,.cells 1 [[.int .i64 s.2]] true true),(3,.cells 1 [[.fn 433 [.ptr 1 0 0,.ptr 2 0 0,.ptr 3 0 0]]] true false)]
mutual
theorem ajT:∀(n:Nd) (lv c d:Nat),lv<=7->c<=64->d<=7->((wk n lv (c,d)).1=true->(wk n lv (c,d)).2.1<=64)/\(wk n lv (c,d)).2.2<=7
 |⟨k,t,y,a,ae,x,ch,ce⟩,lv,c,d,h1,h2,h3=>by
  rw[wk];split
  ·exact⟨λq=>by simp at q,by simp only;omega⟩
  ·rename_i h;exact ab2 ch (lv+1) (c+1) (max d lv) qqq qqq qqq
theorem ab2:∀(l:List Nd) (lv c d:Nat),lv<=7->c<=64->d<=7->((wks l lv (c,d)).1=true->(wks l lv (c,d)).2.1<=64)/\(wks l lv (c,d)).2.2<=7
 |[],lv,c,d,h1,h2,h3=>by rw[wks];exact⟨λ_=>h2,h3⟩
 |m::r,lv,c,d,h1,h2,h3=>by
  have h4:=ajT m lv c d h1 h2 h3;rw[wks];split
  ·rename_i h;exact ab2 r lv _ _ h1 (h4.1 h) h4.2
  ·exact⟨λq=>by simp at q,h4.2⟩
end
def Walks(C:aJ)(root nd:Nd):Prop:=∀(lv c d n:Nat),4<=n->c<=64->d<=7->lv<=7 ->
 ∃n',RnW C 433 [.rop nd.c,.int .i64 lv,.ptr 1 0 0,.ptr 2 0 0,.ptr 3 0 0] (hpM root (c,d)) n=some (.bool (wk nd lv (c,d)).1,hpM root (wk nd lv (c,d)).2,n')
theorem mO(d lv:Nat):imax d lv=((max d lv:Nat):Int):=by
 by_cases h:lv<=d
 ·rw[JO qqq,Nat.max_eq_left h]
 ·rw[WY qqq,Nat.max_eq_right qqq]
theorem aa4(H:UJ C)(root nd:Nd)(X:AV)(hX:X=.rop nd.c\/X=.ptr 0 0 0/\root=nd)(lv n:Nat)(hn:4<=n)(hlv:lv<=6)(hl:nd.ch.length<=16)(ih:∀m∈nd.ch,Walks C root m):∀j i,j+i=nd.ch.length->∀c d,c<=64->d<=7 ->
 ∃n',CK C n (gX [.tmp 7]) [.sq Oe,.bk 0 ⟨true,[],[]⟩,.sq Ho] yt ⟨[(30,.int .i64 i),(29,.int .i64 nd.ch.length),(4,.ptr 3 0 0),(1,.int .i64 lv),(0,X)],hpM root (c,d),n⟩ =
  some (.bool (wks (nd.ch.drop i) (lv+1) (c,d)).1,hpM root (wks (nd.ch.drop i) (lv+1) (c,d)).2,n'):=by
 have n0:0<n:=by omega
 have n1:1<n:=by omega
 have n2:2<n:=by omega
 have n3:3<n:=by omega
 intro j;induction j with
 |zero=>
  intro i hi c d hc hd;have h1:nd.ch.drop i=[]:=qzx qqq;have h3:¬i<nd.ch.length:=by omega
  rw[h1,wks,au yt.eq_1];refine⟨?_,?_⟩
  rotate_left
  ·rcases hX with rfl|⟨rfl,rfl⟩
   ·simp(disch:=omega) [au Ho.eq_1,n0,n1,n2,n3,h3];rfl
   ·simp(disch:=omega) [au Ho.eq_1,n0,n1,n2,n3,h3]
 |succ j ihj=>
  intro i hi c d hc hd;have h1:i<nd.ch.length:=by omega
  obtain⟨n',hw⟩:=ih _ (qxq h1) (lv+1) c d (n+1+1+1+11) qqq hc hd qqq;have hb:=ajT nd.ch[i] (lv+1) c d qqq hc hd;rw[drop_cons h1,wks];generalize hR:wk nd.ch[i] (lv+1) (c,d)=R at *;obtain⟨r,c',d'⟩:=R;cases r with
  |true=>
   obtain⟨n2',hw2⟩:=ihj (i+1) qqq c' d' (hb.1 rfl) hb.2;refine⟨n2',?_⟩;rw[qzq rfl];rw[au yt.eq_1];simp at hw hw2;rcases hX with rfl|⟨rfl,rfl⟩
   ·simp(disch:=omega) [aK,H.kk,n0,n1,n2,n3,h1,hw,hw2]
   ·simp(disch:=omega) [aK,H.kk,n0,n1,n2,n3,h1,hw,hw2]
  |false=>
   rw[qwx qqz];rw[au yt.eq_1];simp at hw;refine⟨?_,?_⟩
   rotate_left
   ·rcases hX with rfl|⟨rfl,rfl⟩
    ·simp(disch:=omega) [aK,H.kk,n0,n1,n2,n3,h1,hw];rfl
    ·simp(disch:=omega) [aK,H.kk,n0,n1,n2,n3,h1,hw]
theorem MC(H:UJ C)(root nd:Nd)(X:AV)(hX:X=.rop nd.c\/X=.ptr 0 0 0/\root=nd)(ih:∀m∈nd.ch,Walks C root m)(lv c d n:Nat)(hn:4<=n)(hc:c<=64)(hd:d<=7)(hlv:lv<=7) :
 ∃n',RnW C 433 [X,.int .i64 lv,.ptr 1 0 0,.ptr 2 0 0,.ptr 3 0 0] (hpM root (c,d)) n=some (.bool (wk nd lv (c,d)).1,hpM root (wk nd lv (c,d)).2,n'):=by
 rw[jL (args:=[X,.int .i64 lv,.ptr 1 0 0,.ptr 2 0 0,.ptr 3 0 0]) H.ak7 rfl (hpM root (c,d)) n,acJ];have ha:=adU H.toXV nd;have n0:0<n:=by omega
 have n1:1<n:=by omega
 have n2:2<n:=by omega
 have n3:3<n:=by omega
 by_cases b1:6<lv
 ·rw[qzq (.inl b1)];refine⟨?_,?_⟩
  rotate_left
  ·rcases hX with rfl|⟨rfl,rfl⟩
   ·simp(disch:=omega) [Jz,aK,H.kk,b1,n0,n1,n2,n3,mO];rfl
   ·simp(disch:=omega) [Jz,aK,H.kk,b1,n0,n1,n2,n3,mO]
 ·by_cases b2:64<c+1
  ·rw[qzq (.inr (.inl b2))];have b2':64<(c:Int)+1:=by omega
   refine⟨?_,?_⟩
   rotate_left
   ·rcases hX with rfl|⟨rfl,rfl⟩
    ·simp(disch:=omega) [Jz,aK,H.kk,b1,b2',n0,n1,n2,n3,mO];rfl
    ·simp(disch:=omega) [Jz,aK,H.kk,b1,b2',n0,n1,n2,n3,mO]
  ·have b2':¬64<(c:Int)+1:=by omega
   cases b3:alone nd with
   |false=>
    rw[qzq (.inr (.inr rfl))];rw[b3]at ha;refine⟨?_,?_⟩
    rotate_left
    ·rcases hX with rfl|⟨rfl,rfl⟩
     ·simp(disch:=omega) [Jz,aK,H.kk,b1,b2',ha,n0,n1,n2,n3,mO];rfl
     ·simp(disch:=omega) [Jz,aK,H.kk,b1,b2',ha,n0,n1,n2,n3,mO]
   |true=>
    rw[qwx qqx];have hl:nd.ch.length<=16:=by
     unfold alone at b3;split at b3
     ·simp at b3;rw[b3.2];simp
     ·simp at b3;omega
    rw[b3]at ha;obtain⟨n',hw⟩:=aa4 H root nd X hX lv n hn qqq hl ih nd.ch.length 0 qqz (c+1) (max d lv) qqq qqq;refine⟨n',?_⟩;rw[qjz]at hw;have hI:=mO d lv;generalize max d lv=D at *;generalize wks nd.ch (lv+1) (c+1,D)=R at *;simp only[hpM]at hw |-;simp at hw;rcases hX with rfl|⟨rfl,rfl⟩
    ·simp(disch:=omega) [Jz,aK,H.kk,b1,b2',ha,n0,n1,n2,n3,hI,hw]
    ·simp(disch:=omega) [Jz,aK,H.kk,b1,b2',ha,n0,n1,n2,n3,hI,hw]
theorem xR(n:Nd):SizeOf.sizeOf n.ch<SizeOf.sizeOf n:=by cases n;simp;omega
theorem walks(H:UJ C)(root nd:Nd):Walks C root nd :=λlv c d n hn hc hd hlv=>MC H root nd (.rop nd.c) (.inl rfl) (λm hm=>walks H root m) lv c d n hn hc hd hlv
termination_by SizeOf.sizeOf nd
decreasing_by
 have:=qnx hm;have:=xR nd;omega
def cnt(n:Nd):Nat:=if (wk n 1 (0,0)).1=true then(wk n 1 (0,0)).2.1 else 0
def dep(n:Nd):Nat:=if (wk n 1 (0,0)).1=true then(wk n 1 (0,0)).2.2 else 0
theorem WU(H:UJ C)(n:Nd):FnW C 282 [.agg n.c]=some (.tup [.int .i64 (cnt n),.int .i64 (dep n)]):=by rw[aN H.f282 rfl];have hw:=λk hk=>MC H n n (.ptr 0 0 0) (.inr ⟨rfl,rfl⟩) (λm _=>walks H n m) 1 0 0 k hk qqq qqq qqq;unfold cnt dep;generalize wk n 1 (0,0)=R at *;obtain⟨r,c,d⟩:=R;obtain⟨n',h⟩:=hw 8 qqq;simp only[hpM]at h;simp at h;cases r<;>simp[ag2,H.kk,h]
theorem Dw(H:UJ C)(n:Nd):FnW C 140 [.agg n.c]=some (.int .i64 (cnt n)):=by have h:=WU H n;rw[aN H.f140 rfl];simp[agi,H.kk,h]
theorem tu(H:UJ C)(n:Nd):FnW C 439 [.agg n.c]=some (.int .i64 (if cnt n=0 then 14 else 0)):=by
 have h:=Dw H n;rw[aN H.am3 rfl];by_cases c:cnt n=0
 ·simp[afy,H.kk,h,c]
 ·simp[afy,H.kk,h,c]
structure Oa(C:aJ):Prop extends UJ C where
 adC:GwC C 563 zi
 amj:GwC C 520 aaI
 alQ:GwC C 442 adH
 akM:GwC C 441 afU
abbrev hp1(n:Nd):aI:=[(0,.cells 6 [n.c] true true)]
theorem ae1(n:Nd)(i:Nat)(hi:i<n.ch.length)(hl:n.ch.length<=16)(R:AV)
 (hout:xq C ⟨[(5,.int .i64 (i+1:Nat)),(1,.ptr 0 0 0)],hp1 n,1⟩=some R):∀j k,j+k=i ->
 GR C ⟨[(6,.int .i64 k),(5,.int .i64 i),(1,.ptr 0 0 0)],hp1 n,1⟩=some (if decide (n.ch[i].y≠[])&&(((n.ch.map Nd.y).take i).drop k).contains n.ch[i].y then .bool false else R):=by
 intro j;induction j with
 |zero=>
  intro k hk;have h1:((n.ch.map Nd.y).take i).drop k=[]:=qzx qqx;have h3:¬k<i:=by omega
  simp only[xq]at hout;simp only[GR];rw[au Az.eq_1];simp at hout;simp(disch:=omega) [au QA.eq_1,h1,h3,aK,hout]
 |succ j ih=>
  intro k hk;have h1:k<i:=by omega
  have h2:k<n.ch.length:=by omega
  have hlt:k<((n.ch.map Nd.y).take i).length:=by simp;omega
  have:=ih (k+1) qqq;rw[drop_cons hlt];have hy:((n.ch.map Nd.y).take i)[k]=n.ch[k].y:=by simp
  rw[hy];generalize (((n.ch.map Nd.y).take i).drop (k+1))=Q at *;simp only[GR]at this |-;rw[au Az.eq_1];simp at this;by_cases c1:n.ch[i].y=[]
  ·simp[c1]at this;simp(disch:=omega) [h1,h2,hi,aK,c1,this]
  ·by_cases c2:n.ch[i].y=n.ch[k].y
   ·have c3:¬n.ch[k].y=[]:=by rw[<- c2];exact c1
    simp(disch:=omega) [h1,h2,hi,aK,c1,c2,c3]
   ·simp[c1]at this;simp(disch:=omega) [h1,h2,hi,aK,c1,c2,this]
theorem aaA(n:Nd)(hl:n.ch.length<=16):∀j i,j+i=n.ch.length ->
 xq C ⟨[(5,.int .i64 i),(1,.ptr 0 0 0)],hp1 n,1⟩=some (.bool (iP ((n.ch.map Nd.y).take i) ((n.ch.map Nd.y).drop i))):=by
 intro j;induction j with
 |zero=>
  intro i hi;simp only[xq];rw[au Dv.eq_1];have h1:(n.ch.map Nd.y).drop i=[]:=qzx qqx;have h3:¬i<n.ch.length:=by omega
  simp[au IQ.eq_1,h1,h3,iP,-List.map_drop]
 |succ j ih=>
  intro i hi;have h1:i<n.ch.length:=by omega
  have h2:i<(n.ch.map Nd.y).length:=by simp;omega
  have hin:=ae1 n i h1 hl _ (ih (i+1) qqq) i 0 qqz;have hy:(n.ch.map Nd.y)[i]=n.ch[i].y:=by simp
  rw[qZj h2,qjz,hy]at hin;rw[drop_cons h2,iP,hy];generalize (n.ch.map Nd.y).take i=P at *;generalize (n.ch.map Nd.y).drop (i+1)=Q at *;simp only[xq,GR]at hin |-;rw[au Dv.eq_1];simp at hin;by_cases c1:n.ch[i].y=[]
  ·simp[c1]at hin;simp(disch:=omega) [h1,hin,c1]
  ·by_cases c2:n.ch[i].y∈P
   ·simp[c1,c2]at hin;simp(disch:=omega) [h1,hin,c1,c2]
   ·simp[c1,c2]at hin;simp(disch:=omega) [h1,hin,c1,c2]
theorem adB(n:Nd)(i:Nat)(hi:i<n.a.length)(hl:n.a.length<=8)(R:AV)
 (hout:oV C ⟨[(3,.int .i64 (i+1:Nat)),(1,.ptr 0 0 0)],hp1 n,1⟩=some R):∀j k,j+k=i ->
 qP C ⟨[(4,.int .i64 k),(3,.int .i64 i),(1,.ptr 0 0 0)],hp1 n,1⟩=some (if ((n.a.take i).drop k).all (λb=>decide (b.1<n.a[i].1))=true then R else .bool false):=by
 intro j;induction j with
 |zero=>
  intro k hk;have h1:(n.a.take i).drop k=[]:=qzx qqx;have h3:¬k<i:=by omega
  simp only[oV]at hout;simp only[qP];rw[au uf.eq_1];simp at hout;simp(disch:=omega) [au Rl.eq_1,h1,h3,aK,hout]
 |succ j ih=>
  intro k hk;have h1:k<i:=by omega
  have h2:k<n.a.length:=by omega
  have hlt:k<(n.a.take i).length:=by simp;omega
  have:=ih (k+1) qqq;rw[drop_cons hlt];have hy:(n.a.take i)[k]=n.a[k]:=by simp
  rw[hy];generalize ((n.a.take i).drop (k+1))=Q at *;simp only[qP]at this |-;rw[au uf.eq_1];simp at this;by_cases c1:n.a[k].1<n.a[i].1
  ·rw[qYj,qgj c1,qlx];simp(disch:=omega) [h1,h2,hi,aK,blt_eq,c1,this]
  ·rw[qYj,qKj c1,qiz];have c2:n.a[i].1<=n.a[k].1:=q2x.1 c1;simp(disch:=omega) [h1,h2,hi,aK,blt_eq,c1,c2]
theorem aaY(n:Nd)(i:Nat)(hi:i<n.a.length)(hl:n.a.length<=8):∀j k,j+k=i->((n.a.take i).drop k).all (λb=>decide (b.1<n.a[i].1))=false ->
 qP C ⟨[(4,.int .i64 k),(3,.int .i64 i),(1,.ptr 0 0 0)],hp1 n,1⟩=some (.bool false):=by
 intro j;induction j with
 |zero=>intro k hk hf;have h1:(n.a.take i).drop k=[]:=qzx qqx;rw[h1]at hf;simp at hf
 |succ j ih=>
  intro k hk hf;have h1:k<i:=by omega
  have h2:k<n.a.length:=by omega
  have hlt:k<(n.a.take i).length:=by simp;omega
  rw[drop_cons hlt]at hf;have hy:(n.a.take i)[k]=n.a[k]:=by simp
  rw[hy,qYj]at hf;by_cases c1:n.a[k].1<n.a[i].1
  ·rw[qgj c1,qlx]at hf;have:=ih (k+1) qqq hf;simp only[qP]at this |-;rw[au uf.eq_1];simp at this;simp(disch:=omega) [h1,h2,hi,aK,blt_eq,c1,this]
  ·have c2:n.a[i].1<=n.a[k].1:=q2x.1 c1;simp only[qP];rw[au uf.eq_1];simp(disch:=omega) [h1,h2,hi,aK,blt_eq,c1,c2]
theorem abj(H:Oa C)(n:Nd)(hl:n.a.length<=8)(hl2:n.ch.length<=16):∀j i,j+i=n.a.length->(∀(p q:Nat) (hp:p<n.a.length) (hq:q<n.a.length),p<q->q<i->n.a[p].1<n.a[q].1) ->
 oV C ⟨[(3,.int .i64 i),(1,.ptr 0 0 0)],hp1 n,1⟩=some (.bool (atOk (if i=0 then none else(n.a[i-1]?).map Prod.fst) (n.a.drop i)&&iP [] (n.ch.map Nd.y))):=by
 intro j;induction j with
 |zero=>
  intro i hi hs;have hk:=aaA (C:=C) n hl2 n.ch.length 0 qqz;simp only[q9x,qjz]at hk;generalize iP [] (n.ch.map Nd.y)=K at *;simp only[xq]at hk;simp at hk;simp only[oV];rw[au um.eq_1];have h1:n.a.drop i=[]:=qzx qqq;have h3:¬i<n.a.length:=by omega
  simp[au HY.eq_1,h1,h3,atOk,hk]
 |succ j ih=>
  intro i hi hs;have h1:i<n.a.length:=by omega
  have hb:=pR H.toql n.a[i].1;have hc:=AO H.toql n.a[i].2;rw[drop_cons h1,atOk];generalize hK:iP [] (n.ch.map Nd.y)=K at *;cases q1:isName n.a[i].1
  ·rw[q1]at hb;simp only[oV];rw[au um.eq_1];simp(disch:=omega) [h1,aK,hb,H.kk]
  ·cases q2:isText n.a[i].2
   ·rw[q1]at hb;rw[q2]at hc;simp only[oV];rw[au um.eq_1];simp(disch:=omega) [h1,aK,hb,hc,H.kk]
   ·rw[q1]at hb;rw[q2]at hc;have key:(n.a.take i).all (λb=>decide (b.1<n.a[i].1))=after (if i=0 then none else(n.a[i-1]?).map Prod.fst) n.a[i].1:=by
     cases i with
     |zero=>simp[after]
     |succ i=>
      have h4:i<n.a.length:=by omega
      rw[qwx qqq,show i+1-1=i from rfl,qqj h4];simp only[qhq,after];by_cases q3:n.a[i].1<n.a[i+1].1
      ·rw[qgj q3,qkz];intro b hb;obtain⟨p,hp,rfl⟩:=qvx hb;simp at hp;rw[List.getElem_take];apply qgj;by_cases e:p=i
       ·subst e;exact q3
       ·exact List.lt_trans (hs p i qqq h4 qqq qqq) q3
      ·rw[qKj q3,List.all_eq_false];exact⟨n.a[i],zqx.2 ⟨i,by omega,rfl⟩,by simp[q3]⟩
    have step:∀R,qP C ⟨[(4,.int .i64 (0:Nat)),(3,.int .i64 i),(1,.ptr 0 0 0)],hp1 n,1⟩=some R->oV C ⟨[(3,.int .i64 i),(1,.ptr 0 0 0)],hp1 n,1⟩=some R:=by intro R hR;simp only[oV,qP]at hR |-;rw[au um.eq_1];simp at hR;simp(disch:=omega) [h1,aK,hb,hc,H.kk,hR]
    by_cases q3:(n.a.take i).all (λb=>decide (b.1<n.a[i].1))=true
    ·have:=ih (i+1) qqq (λp q hp hq h5 h6=>by
      by_cases e:q=i
      ·subst e;have:=qkz.1 q3 n.a[p] (zqx.2 ⟨p,by omega,rfl⟩);simpa using this
      ·exact hs p q hp hq h5 qqq)
     rw[qwx qqq,show i+1-1=i from rfl,qqj h1]at this;have hin:=adB n i h1 hl _ this i 0 qqz;rw[qjz,qzq q3]at hin;rw[step _ hin,<- key,q3];simp
    ·have q4:(n.a.take i).all (λb=>decide (b.1<n.a[i].1))=false:=Bool.eq_false_iff.2 q3;rw[<- key,q4];simp only[q9z,qiz];exact step _ (aaY n i h1 hl i 0 qqz (by rw[qjz];exact q4))
theorem alJ(H:Oa C)(n:Nd):FnW C 563 [.agg n.c]=some (.bool (alone n)):=by
 rw[aN H.adC rfl];unfold alone;have ht:=pR H.toql n.t;have hy:=pR H.toql n.y;have hx:=AO H.toql n.x;by_cases k2:n.k=2
 ·rw[qzq k2];generalize isText n.x=X at *;cases X
  ·simp[zi,k2,hx,H.kk]
  ·by_cases c1:n.t=[]<;>by_cases c2:n.y=[]<;>by_cases c3:n.a=[]<;>by_cases c4:n.ch=[]<;>simp[zi,k2,hx,H.kk,c1,c2,c3,c4]
 ·rw[qwx k2];by_cases k1:n.k=1
  ·cases q1:isName n.t
   ·rw[q1]at ht;simp[zi,k1,ht,H.kk]
   ·rw[q1]at ht;have rest:(n.y=[]\/n.y≠[]/\isName n.y=true)->FnW C 563 [.agg n.c]=some (.bool (decide (n.x=[])&&decide (n.a.length<=8)&&decide (n.ch.length<=16)&&atOk none n.a&&iP [] (n.ch.map Nd.y))):=by
     intro hyy;rw[aN H.adC rfl];by_cases c3:n.x=[]
     ·by_cases c4:n.a.length<=8
      ·by_cases c5:n.ch.length<=16
       ·have c6:¬8<(n.a.length:Int):=by omega
        have c7:¬16<(n.ch.length:Int):=by omega
        have hl:=abj H n c4 c5 n.a.length 0 qqz qqq;simp only[oV,qyx,qjz]at hl;generalize atOk none n.a=A at *;generalize iP [] (n.ch.map Nd.y)=K at *;simp at hl;rcases hyy with c2|⟨c2,q2⟩
        ·simp[zi,k1,ht,H.kk,qQz c2,qQz c3,c4,c5,c6,c7,hl]
        ·rw[q2]at hy;simp[zi,k1,ht,hy,H.kk,c2,qQz c3,c4,c5,c6,c7,hl]
       ·have c6:¬8<(n.a.length:Int):=by omega
        have c7:16<(n.ch.length:Int):=by omega
        rcases hyy with c2|⟨c2,q2⟩
        ·simp[zi,k1,ht,H.kk,qQz c2,qQz c3,c4,c5,c6,c7]
        ·rw[q2]at hy;simp[zi,k1,ht,hy,H.kk,c2,qQz c3,c4,c5,c6,c7]
      ·have c6:8<(n.a.length:Int):=by omega
       rcases hyy with c2|⟨c2,q2⟩
       ·simp[zi,k1,ht,H.kk,qQz c2,qQz c3,c4,c6]
       ·rw[q2]at hy;simp[zi,k1,ht,hy,H.kk,c2,qQz c3,c4,c6]
     ·rcases hyy with c2|⟨c2,q2⟩
      ·simp[zi,k1,ht,H.kk,qQz c2,c3]
      ·rw[q2]at hy;simp[zi,k1,ht,hy,H.kk,c2,c3]
    rw[aN H.adC rfl]at rest;by_cases c2:n.y=[]
    ·rw[rest (.inl c2)];simp[k1,c2]
    ·cases q2:isName n.y
     ·rw[q2]at hy;simp[zi,k1,ht,hy,H.kk,c2]
     ·rw[rest (.inr ⟨c2,q2⟩)];simp[k1]
  ·simp[zi,k1,k2,H.kk]
mutual
/-- The specification's count, with so many levels. -/
def rc:Nd->Nat->Nat
 |_,0=>1000
 |⟨k,t,y,a,ae,x,ch,ce⟩,lv+1=>if alone ⟨k,t,y,a,ae,x,ch,ce⟩=true then rcs ch lv 1 else 1000
def rcs:List Nd->Nat->Nat->Nat
 |[],_,c=>c
 |m::r,lv,c=>if c<=64 then rcs r lv (c+rc m lv)else c
end
theorem ala(n:Nd):rc n 0=1000:=by cases n;rw[rc]
theorem agr(n:Nd)(lv:Nat):rc n (lv+1)=if alone n=true then rcs n.ch lv 1 else 1000:=by cases n;rw[rc]
theorem J8:∀(l:List Nd) (lv c:Nat),c<=rcs l lv c
 |[],lv,c=>by rw[rcs];exact qxx _
 |m::r,lv,c=>by
  rw[rcs];split
  ·have:=J8 r lv (c+rc m lv);omega
  ·exact qxx _
theorem ajz(n:Nd)(lv:Nat):1<=rc n lv:=by
 cases lv with
 |zero=>rw[ala];omega
 |succ lv=>
  rw[agr];split
  ·exact J8 _ _ _
  ·omega
mutual
theorem ajF:∀(n:Nd) (lv:Nat),rc n lv<=1000+64*lv
 |⟨k,t,y,a,ae,x,ch,ce⟩,0=>by rw[rc];omega
 |⟨k,t,y,a,ae,x,ch,ce⟩,lv+1=>by
  rw[rc];split
  ·have:=acr ch lv 1 qqq;omega
  ·omega
theorem acr:∀(l:List Nd) (lv c:Nat),c<=1064+64*lv->rcs l lv c<=1064+64*lv
 |[],lv,c,h=>by rw[rcs];exact h
 |m::r,lv,c,h=>by
  rw[rcs];split
  ·have h2:=ajF m lv;exact acr r lv _ qqq
  ·exact h
end
mutual
theorem aju:∀(n:Nd) (lv L c d:Nat),lv+L=7->c<=64->((wk n L (c,d)).1=true->(wk n L (c,d)).2.1=c+rc n lv/\c+rc n lv<=64)/\((wk n L (c,d)).1=false->64<c+rc n lv)
 |⟨k,t,y,a,ae,x,ch,ce⟩,lv,L,c,d,h1,h2=>by
  have hge:=ajz ⟨k,t,y,a,ae,x,ch,ce⟩ lv;rw[wk];by_cases q:6<L\/64<c+1\/alone ⟨k,t,y,a,ae,x,ch,ce⟩=false
  ·rw[qzq q];refine⟨λr=>by simp at r,λ_=>?_⟩;rcases q with q | q | q
   ·have:lv=0:=by omega
    subst this;rw[rc];omega
   ·omega
   ·cases lv with
    |zero=>rw[rc];omega
    |succ lv=>rw[rc,qwx (by simp[q])];omega
  ·rw[qwx q];cases lv with
   |zero=>omega
   |succ lv=>rw[rc,qzq (by simpa using λr=>q (.inr (.inr r)))];exact aeD ch lv (L+1) c 1 (max d L) qqq qqq
theorem aeD:∀(l:List Nd) (lv L g c d:Nat),lv+L=7->g+c<=64->((wks l L (g+c,d)).1=true->(wks l L (g+c,d)).2.1=g+rcs l lv c/\g+rcs l lv c<=64)/\((wks l L (g+c,d)).1=false->64<g+rcs l lv c)
 |[],lv,L,g,c,d,h1,h2=>by rw[wks,rcs];exact⟨λ_=>⟨rfl,h2⟩,λr=>by simp at r⟩
 |m::r,lv,L,g,c,d,h1,h2=>by
  have hm:=aju m lv L (g+c) d h1 h2;have hr:rcs (m::r) lv c=rcs r lv (c+rc m lv):=by rw[rcs,qzq qqq]
  rw[wks,hr];generalize wk m L (g+c,d)=R at *;obtain⟨b,c',d'⟩:=R;cases b with
  |true=>obtain⟨e1,e2⟩:=hm.1 rfl;rw[qzq rfl];simp only at e1;rw[e1,qdj];exact aeD r lv L g (c+rc m lv) d' h1 qqq
  |false=>have e:=hm.2 rfl;rw[qwx qqz];refine⟨λq=>by simp at q,λ_=>?_⟩;have:=J8 r lv (c+rc m lv);omega
end
theorem Kw(n:Nd):cnt n=if 64<rc n 6 then 0 else rc n 6:=by
 have h:=aju n 6 1 0 0 rfl qqq;unfold cnt;generalize wk n 1 (0,0)=R at *;obtain⟨b,c,d⟩:=R;cases b with
 |true=>obtain⟨e1,e2⟩:=h.1 rfl;simp only at e1;rw[qzq rfl,qwx qqq];simp only;omega
 |false=>have e:=h.2 rfl;rw[qwx qqz,qzq qqq]
theorem Vq(H:Oa C)(n:Nd)(lv:Nat)(hlv:lv<=5)(hl:n.ch.length<=16)(ih:∀m∈n.ch,FnW C 520 [.agg m.c,.int .i64 lv]=some (.int .i64 (rc m lv))):∀j i,j+i=n.ch.length->∀c,c<=1064+64*lv ->
 CX C ⟨[(6,.int .i64 i),(5,.int .i64 c),(2,.ptr 0 0 0),(1,.int .i64 (lv+1:Nat))],hp1 n,1⟩=some (.int .i64 (rcs (n.ch.drop i) lv c)):=by
 intro j;induction j with
 |zero=>
  intro i hi c hc;simp only[CX];rw[au yM.eq_1];have h1:n.ch.drop i=[]:=qzx qqq;have h3:¬i<n.ch.length:=by omega
  rw[h1,rcs];simp[au Hl.eq_1,h3]
 |succ j ihj=>
  intro i hi c hc;have h1:i<n.ch.length:=by omega
  have hm:=ih _ (qxq h1);have hle:=ajF n.ch[i] lv;rw[drop_cons h1,rcs];by_cases c1:c<=64
  ·have:=ihj (i+1) qqq (c+rc n.ch[i] lv) qqq;rw[qzq c1];have c2:(c:Int)<=64:=by omega
   simp only[CX]at this |-;rw[au yM.eq_1];simp at this;simp(disch:=omega) [h1,c1,c2,aK,hm,H.kk,this]
  ·rw[qwx c1];have c2:¬(c:Int)<=64:=by omega
   simp only[CX];rw[au yM.eq_1];simp(disch:=omega) [au Hl.eq_1,h1,c1,c2]
theorem Vo(H:Oa C)(n:Nd)(ih:∀m∈n.ch,∀lv:Nat,lv<=6->FnW C 520 [.agg m.c,.int .i64 lv]=some (.int .i64 (rc m lv)))(lv:Nat)(hlv:lv<=6):FnW C 520 [.agg n.c,.int .i64 lv]=some (.int .i64 (rc n lv)):=by
 have ho:=alJ H n;rw[aN H.amj rfl];cases lv with
 |zero=>rw[ala];simp[aaI]
 |succ lv=>
  rw[agr];have c1:¬(lv:Int)+1<1:=by omega
  cases ha:alone n with
  |false=>rw[ha]at ho;simp[aaI,c1,ho,H.kk]
  |true=>
   rw[ha]at ho;have hl:n.ch.length<=16:=by
    unfold alone at ha;split at ha
    ·simp at ha;rw[ha.2];simp
    ·simp at ha;omega
   have hr:=Vq H n lv qqq hl (λm hm=>ih m hm lv qqq) n.ch.length 0 qqz 1 qqq;rw[qjz]at hr;simp only[CX]at hr;simp at hr;simp[aaI,c1,ho,H.kk,hr]
theorem MJ(H:Oa C)(n:Nd)(lv:Nat)(hlv:lv<=6):FnW C 520 [.agg n.c,.int .i64 lv]=some (.int .i64 (rc n lv)) :=Vo H n (λm hm lv hlv=>MJ H m lv hlv) lv hlv
termination_by SizeOf.sizeOf n
decreasing_by
 have:=qnx hm;have:=xR n;omega
theorem yQ(H:Oa C)(n:Nd):FnW C 442 [.agg n.c]=some (.int .i64 (cnt n)):=by
 have h:=MJ H n 6 qqq;rw[aN H.alQ rfl,Kw];generalize rc n 6=R at *;simp at h;by_cases c:64<R
 ·have c1:64<(R:Int):=by omega
  simp[adH,H.kk,h,c,c1]
 ·have c1:¬64<(R:Int):=by omega
  simp[adH,H.kk,h,c,c1]
theorem EM(H:Oa C)(n:Nd):FnW C 441 [.agg n.c]=some (.int .i64 (if cnt n=0 then 14 else 0)):=by
 have h:=yQ H n;rw[aN H.akM rfl];by_cases c:cnt n=0
 ·simp[afU,H.kk,h,c]
 ·simp[afU,H.kk,h,c]
structure Sl where
 n:Bs
 f:Int
 v:Bs
@[simp] def eSl(s:Sl):List AV:=[.str s.n,.int .u8 s.f,.str s.v]
structure Pt where
 k:Int
 t:Bs
 y:Bs
 s:List Sl
 se:Bool
 x:Bs
 ch:List Pt
 ce:Bool
mutual
def Pt.c:Pt->List AV
 |⟨k,t,y,s,se,x,ch,ce⟩=>[.int .u8 k,.str t,.str y,.ro 3 (s.map eSl) se,.str x,.ro 6 (Pt.cs ch) ce]
def Pt.cs:List Pt->List (List AV)
 |[]=>[]
 |n::r=>n.c::Pt.cs r
end
theorem Pt.Tz:∀l:List Pt,Pt.cs l=l.map Pt.c
 |[]=>rfl
 |n::r=>by rw[Pt.cs,Pt.Tz r];rfl
theorem Pt.bU(n:Pt):n.c=[.int .u8 n.k,.str n.t,.str n.y,.ro 3 (n.s.map eSl) n.se,.str n.x,.ro 6 (n.ch.map Pt.c) n.ce]:=by cases n;rw[Pt.c,Pt.Tz]
@[simp] theorem Pt.aoF(n:Pt):n.c.length=6:=by rw[Pt.bU];rfl
@[simp] theorem Pt.al9(n:Pt):n.c.take 6=n.c:=qxz qqz
@[simp] theorem Pt.c0(n:Pt):n.c[0]?=some (.int .u8 n.k):=by rw[Pt.bU];rfl
@[simp] theorem Pt.c1(n:Pt):n.c[1]?=some (.str n.t):=by rw[Pt.bU];rfl
@[simp] theorem Pt.c2(n:Pt):n.c[2]?=some (.str n.y):=by rw[Pt.bU];rfl
@[simp] theorem Pt.c3(n:Pt):n.c[3]?=some (.ro 3 (n.s.map eSl) n.se):=by rw[Pt.bU];rfl
@[simp] theorem Pt.c4(n:Pt):n.c[4]?=some (.str n.x):=by rw[Pt.bU];rfl
@[simp] theorem Pt.c5(n:Pt):n.c[5]?=some (.ro 6 (n.ch.map Pt.c) n.ce):=by rw[Pt.bU];rfl
@[simp] theorem Pt.g0(n:Pt)(h:0<n.c.length):n.c[0]=.int .u8 n.k:=qkq ((qqj h).symm.trans n.c0)
@[simp] theorem Pt.g1(n:Pt)(h:1<n.c.length):n.c[1]=.str n.t:=qkq ((qqj h).symm.trans n.c1)
@[simp] theorem Pt.g2(n:Pt)(h:2<n.c.length):n.c[2]=.str n.y:=qkq ((qqj h).symm.trans n.c2)
@[simp] theorem Pt.g3(n:Pt)(h:3<n.c.length):n.c[3]=.ro 3 (n.s.map eSl) n.se:=qkq ((qqj h).symm.trans n.c3)
@[simp] theorem Pt.g4(n:Pt)(h:4<n.c.length):n.c[4]=.str n.x:=qkq ((qqj h).symm.trans n.c4)
@[simp] theorem Pt.g5(n:Pt)(h:5<n.c.length):n.c[5]=.ro 6 (n.ch.map Pt.c) n.ce:=qkq ((qqj h).symm.trans n.c5)
@[simp] theorem Pt.hd(n:Pt):n.c.head?=some (.int .u8 n.k):=by rw[Pt.bU];rfl
@[simp] theorem Pt.aoc(n:Pt):bW n.c=false:=by rw[Pt.bU];rfl
@[simp] theorem Pt.akv(n:Pt)(h:aI)(k:Nat):aZ (bD h (k+1)) n.c=some n.c:=by rw[Pt.bU];rfl
@[simp] theorem Pt.agR(n:Pt)(h:aI)(k:Nat):n.c.flatMap (aQ h (k+1))=[]:=by rw[Pt.bU];rfl
@[simp] theorem Pt.anH(n:Pt)(π:Nat->Option Nat):mQ π n.c=some n.c:=by rw[Pt.bU];rfl
@[simp] theorem Pt.alk(n:Pt):FD n.c=[]:=by rw[Pt.bU];rfl
@[simp] theorem Pt.aoa(n:Pt):n.c.all isC=true:=by rw[Pt.bU];rfl
@[simp] theorem Pt.alf(n:Pt):n.c.all AV.cell=true:=by rw[Pt.bU];rfl
theorem Pt.xR(n:Pt):SizeOf.sizeOf n.ch<SizeOf.sizeOf n:=by cases n;simp;omega
def lF:Option Bs->List Sl->Bool
 |_,[]=>true
 |p,s::r=>isName s.n&&decide (s.f<=3)&&isText s.v&&(decide (s.f<=0)||decide (s.v=[]))&&after p s.n&&lF (some s.n) r
def qE(p:Pt):Bool :=
 if p.k=1 then(decide (p.y=[])||isName p.y)&&decide (p.ch.length<=16)&&isName p.t&&(decide (p.s.length<=8)&&lF none p.s)&&decide (p.x=[])
 else if p.k=5 then isName p.t&&(decide (p.s.length<=8)&&lF none p.s)&&decide (p.y=[])&&decide (p.x=[])&&decide (p.ch=[])
 else if p.k=2 then isText p.x&&decide (p.t=[])&&decide (p.y=[])&&decide (p.s=[])&&decide (p.ch=[])
 else decide (p.k=3\/p.k=4)&&decide (p.t=[])&&decide (p.y=[])&&decide (p.x=[])&&decide (p.s=[])&&decide (p.ch=[])
structure Gm(C:aJ):Prop extends UJ C where
 amZ:GwC C 581 ahp
 al2:GwC C 579 ait
 amF:GwC C 585 aee
 alH:GwC C 549 je
 amW:GwC C 502 aes
 alu:GwC C 503 ahC
 alY:GwC C 548 W9
 akF:GwC C 404 aiv
 f231:GwC C 231 acf
theorem U0(n:Nd)(h:n.ch=[]):cnt n=if alone n=true then 1 else 0:=by rw[Kw,agr,h,rcs];cases alone n<;>simp
theorem yx(H:Gm C)(s:Bs):FnW C 581 [.str s]=some (.bool (isName s)):=by
 have h:FnW C 439 [.agg [.int .u8 1,.str s,.str [],.ro 2 [] true,.str [],.ro 6 [] true]]=_:=tu H.toUJ ⟨1,s,[],[],true,[],[],true⟩;rw[U0 _ rfl]at h;have e:alone ⟨1,s,[],[],true,[],[],true⟩=isName s:=by unfold alone;simp[atOk,iP]
 rw[e]at h;rw[aN H.amZ rfl];cases q:isName s<;>rw[q]at h<;>simp at h<;>simp[ahp,H.kk,h]
theorem Fg(H:Gm C)(s:Bs):FnW C 579 [.str s]=some (.bool (isText s)):=by
 have h:FnW C 439 [.agg [.int .u8 2,.str [],.str [],.ro 2 [] true,.str s,.ro 6 [] true]]=_:=tu H.toUJ ⟨2,[],[],[],true,s,[],true⟩;rw[U0 _ rfl]at h;have e:alone ⟨2,[],[],[],true,s,[],true⟩=isText s:=by unfold alone;simp
 rw[e]at h;rw[aN H.al2 rfl];cases q:isText s<;>rw[q]at h<;>simp at h<;>simp[ait,H.kk,h]
theorem Wj(H:Gm C)(l:List Sl)(e:Bool)(hl:l.length<=1000000):∀n i,n+i=l.length ->
 IC C ⟨[(10,.int .i64 i),(9,.int .i64 l.length),(8,.ro 3 (l.map eSl) e),(0,.ro 3 (l.map eSl) e)],[],0⟩ =
  some (.bool (lF (if i=0 then none else(l[i-1]?).map Sl.n) (l.drop i))):=by
 intro n;induction n with
 |zero=>
  intro i hi;simp only[IC];rw[au CW.eq_1];have h1:l.drop i=[]:=qzx qqq;have h3:¬i<l.length:=by omega
  simp[au Qq.eq_1,h1,h3,lF]
 |succ n ih=>
  intro i hi;have h1:i<l.length:=by omega
  have hb:=yx H l[i].n;have hc:=Fg H l[i].v;have:=ih (i+1) qqq;rw[qwx qqq,show i+1-1=i from rfl,qqj h1]at this;rw[drop_cons h1,lF];simp only[IC]at this |-;rw[au CW.eq_1];simp only[qhq]at this;generalize lF (some l[i].n) (l.drop (i+1))=R at *;cases q1:isName l[i].n
  ·rw[q1]at hb;simp(disch:=omega) [h1,aK,hb,H.kk]
  ·rw[q1]at hb;by_cases f3:l[i].f<=3
   ·have f3':¬3<l[i].f:=by omega
    cases q2:isText l[i].v
    ·rw[q2]at hc;simp(disch:=omega) [h1,aK,hb,hc,H.kk,f3,f3']
    ·rw[q2]at hc;by_cases f0:0<l[i].f/\¬l[i].v=[]
     ·have f1:¬l[i].f<=0:=by omega
      simp(disch:=omega) [h1,aK,hb,hc,H.kk,f3,f3',f0.1,f0.2,f1]
     ·have key:(0<l[i].f/\l[i].v=[])\/¬0<l[i].f:=by
       by_cases a:0<l[i].f
       ·exact .inl ⟨a,qnj λb=>f0 ⟨a,b⟩⟩
       ·exact .inr a
      cases i with
      |zero=>
       simp at this;rcases key with⟨a,b⟩ | a
       ·have b':=qQz b;simp(disch:=omega) [h1,aK,hb,hc,H.kk,f3,f3',a,b',this,after]
       ·have a':l[0].f<=0:=by omega
        simp(disch:=omega) [h1,aK,hb,hc,H.kk,f3,f3',a,a',this,after]
      |succ i=>
       have h4:i<l.length:=by omega
       have h5:(i:Int)+1<l.length:=by omega
       simp at this;by_cases q3:l[i].n<l[i+1].n
       ·have q4:¬l[i+1].n<=l[i].n:=List.not_le.2 q3;rcases key with⟨a,b⟩ | a
        ·have b':=qQz b;simp(disch:=omega) [h1,h4,h5,aK,hb,hc,H.kk,f3,f3',a,b',this,after,ER,q3,q4]
        ·have a':l[i+1].f<=0:=by omega
         simp(disch:=omega) [h1,h4,h5,aK,hb,hc,H.kk,f3,f3',a,a',this,after,ER,q3,q4]
       ·have q4:l[i+1].n<=l[i].n:=q2x.1 q3;rcases key with⟨a,b⟩ | a
        ·have b':=qQz b;simp(disch:=omega) [h1,h4,h5,aK,hb,hc,H.kk,f3,f3',a,b',this,after,ER,q3,q4]
        ·have a':l[i+1].f<=0:=by omega
         simp(disch:=omega) [h1,h4,h5,aK,hb,hc,H.kk,f3,f3',a,a',this,after,ER,q3,q4]
   ·have f3':3<l[i].f:=by omega
    simp(disch:=omega) [h1,aK,hb,H.kk,f3,f3']
theorem ae4(H:Gm C)(l:List Sl)(e:Bool):FnW C 585 [.ro 3 (l.map eSl) e]=some (.bool (decide (l.length<=8)&&lF none l)):=by
 rw[aN H.amF rfl];by_cases c:l.length<=8
 ·have c1:¬8<(l.length:Int):=by omega
  have h:=Wj H l e qqq l.length 0 qqz;rw[qjz,qzq rfl]at h;generalize lF none l=R at *;simp only[IC]at h;simp at h;simp[aee,c,c1,h]
 ·have c1:8<(l.length:Int):=by omega
  simp[aee,c,c1]
theorem aag(H:Gm C)(p:Pt):FnW C 549 [.rop p.c]=some (.bool (qE p)):=by
 obtain⟨k,t,y,s,se,x,ch,ce⟩:=p;rw[aN H.alH rfl,Pt.bU];simp only[];unfold qE;simp only[];have ht:=yx H t;have hy:=yx H y;have hx:=Fg H x;have hs:=ae4 H s se;generalize isName t=T at *;generalize isText x=X at *;generalize (decide (s.length<=8)&&lF none s)=S at *;by_cases k1:k=1
 ·rw[qzq k1];by_cases c2:y=[]
  ·subst c2;by_cases c5:ch.length<=16
   ·have c7:¬16<(ch.length:Int):=by omega
    cases T
    ·simp[je,k1,ht,hs,H.kk,c5,c7]
    ·cases S
     ·simp[je,k1,ht,hs,H.kk,c5,c7]
     ·by_cases c3:x=[]<;>simp[je,k1,ht,hs,H.kk,c3,c5,c7]
   ·have c7:16<(ch.length:Int):=by omega
    simp[je,k1,ht,hs,H.kk,c5,c7]
  ·cases q2:isName y
   ·rw[q2]at hy;simp[je,k1,hy,H.kk,c2]
   ·rw[q2]at hy;by_cases c5:ch.length<=16
    ·have c7:¬16<(ch.length:Int):=by omega
     cases T
     ·simp[je,k1,ht,hy,hs,H.kk,c2,c5,c7]
     ·cases S
      ·simp[je,k1,ht,hy,hs,H.kk,c2,c5,c7]
      ·by_cases c3:x=[]<;>simp[je,k1,ht,hy,hs,H.kk,c2,c3,c5,c7]
    ·have c7:16<(ch.length:Int):=by omega
     simp[je,k1,ht,hy,hs,H.kk,c2,c5,c7]
 ·rw[qwx k1];by_cases k5:k=5
  ·rw[qzq k5];cases T
   ·simp[je,k5,ht,hs,H.kk]
   ·cases S
    ·simp[je,k5,ht,hs,H.kk]
    ·by_cases c2:y=[]
     ·by_cases c3:x=[]
      ·by_cases c4:ch=[]
       ·simp[je,k5,ht,hs,H.kk,c2,c3,c4]
       ·simp[je,k5,ht,hs,H.kk,c2,c3,c4]
      ·simp[je,k5,ht,hs,H.kk,c2,c3]
     ·simp[je,k5,ht,hs,H.kk,c2]
  ·rw[qwx k5];by_cases k2:k=2
   ·rw[qzq k2];cases X
    ·simp[je,k2,hx,H.kk]
    ·by_cases c1:t=[]
     ·by_cases c2:y=[]
      ·by_cases c3:s=[]
       ·by_cases c4:ch=[]
        ·simp[je,k2,hx,H.kk,c1,c2,c3,c4]
        ·simp[je,k2,hx,H.kk,c1,c2,c3,c4]
       ·simp[je,k2,hx,H.kk,c1,c2,c3]
      ·simp[je,k2,hx,H.kk,c1,c2]
     ·simp[je,k2,hx,H.kk,c1]
   ·rw[qwx k2];by_cases k34:k=3\/k=4
    ·rcases k34 with k3 | k4
     ·by_cases c1:t=[]
      ·by_cases c2:y=[]
       ·by_cases c0:x=[]
        ·by_cases c3:s=[]
         ·by_cases c4:ch=[]
          ·simp[je,k3,H.kk,c1,c2,c0,c3,c4]
          ·simp[je,k3,H.kk,c1,c2,c0,c3,c4]
         ·simp[je,k3,H.kk,c1,c2,c0,c3]
        ·simp[je,k3,H.kk,c1,c2,c0]
       ·simp[je,k3,H.kk,c1,c2]
      ·simp[je,k3,H.kk,c1]
     ·by_cases c1:t=[]
      ·by_cases c2:y=[]
       ·by_cases c0:x=[]
        ·by_cases c3:s=[]
         ·by_cases c4:ch=[]
          ·simp[je,k4,H.kk,c1,c2,c0,c3,c4]
          ·simp[je,k4,H.kk,c1,c2,c0,c3,c4]
         ·simp[je,k4,H.kk,c1,c2,c0,c3]
        ·simp[je,k4,H.kk,c1,c2,c0]
       ·simp[je,k4,H.kk,c1,c2]
      ·simp[je,k4,H.kk,c1]
    ·have k3:¬k=3:=λq=>k34 (.inl q);have k4:¬k=4:=λq=>k34 (.inr q);simp[je,k1,k2,k3,k4,k5,H.kk]
mutual
/-- The walk below a part: whether it ends well, how many parts. -/
def tk:Pt->Nat->Nat->Bool×Nat
 |⟨k,t,y,s,se,x,ch,ce⟩,lv,c=>if 6<lv\/64<c+1\/qE ⟨k,t,y,s,se,x,ch,ce⟩=false then(false,c+1)else tks ch (lv+1) (c+1)
def tks:List Pt->Nat->Nat->Bool×Nat
 |[],_,c=>(true,c)
 |m::r,lv,c=>if (tk m lv c).1=true then tks r lv (tk m lv c).2 else(false,(tk m lv c).2)
end
theorem aky(p:Pt)(lv c:Nat):tk p lv c=if 6<lv\/64<c+1\/qE p=false then(false,c+1)else tks p.ch (lv+1) (c+1):=by cases p;rw[tk]
mutual
theorem ajK:∀(p:Pt) (lv c:Nat),lv<=7->c<=64->(tk p lv c).1=true->(tk p lv c).2<=64
 |⟨k,t,y,s,se,x,ch,ce⟩,lv,c,h1,h2=>by
  rw[tk];split
  ·exact λq=>by simp at q
  ·rename_i h;exact ae8 ch (lv+1) (c+1) qqq qqq
theorem ae8:∀(l:List Pt) (lv c:Nat),lv<=7->c<=64->(tks l lv c).1=true->(tks l lv c).2<=64
 |[],lv,c,h1,h2=>by rw[tks];exact λ_=>h2
 |m::r,lv,c,h1,h2=>by
  have h4:=ajK m lv c h1 h2;rw[tks];split
  ·rename_i h;exact ae8 r lv _ h1 (h4 h)
  ·exact λq=>by simp at q
end
abbrev hpT(c:Nat):aI:=[(0,.cells 1 [[.fn 503 []]] true true),(7,.cells 1 [[.int .i64 c]] true true),(9,.cells 1 [[.fn 548 [.ptr 7 0 0,.ptr 0 0 0,.ptr 9 0 0]]] true false)]
def Zj(C:aJ)(p:Pt):Prop:=∀(lv c n:Nat),10<=n->c<=64->lv<=7 ->
 ∃n',RnW C 548 [.rop p.c,.int .i64 lv,.ptr 7 0 0,.ptr 0 0 0,.ptr 9 0 0] (hpT c) n=some (.bool (tk p lv c).1,hpT (tk p lv c).2,n')
theorem VT(H:Gm C)(p:Pt)(lv n:Nat)(hn:10<=n)(hlv:lv<=6)(hl:p.ch.length<=16)(ih:∀m∈p.ch,Zj C m):∀j i,j+i=p.ch.length->∀c,c<=64 ->
 ∃n',CK C n (gX [.tmp 7]) [.sq OC,.bk 0 ⟨true,[],[]⟩,.sq PS] yh ⟨[(30,.int .i64 i),(29,.int .i64 p.ch.length),(4,.ptr 9 0 0),(1,.int .i64 lv),(0,.rop p.c)],hpT c,n⟩ =
  some (.bool (tks (p.ch.drop i) (lv+1) c).1,hpT (tks (p.ch.drop i) (lv+1) c).2,n'):=by
 have n0:0<n:=by omega
 have n1:7<n:=by omega
 have n2:9<n:=by omega
 intro j;induction j with
 |zero=>
  intro i hi c hc;have h1:p.ch.drop i=[]:=qzx qqq;have h3:¬i<p.ch.length:=by omega
  rw[h1,tks,au yh.eq_1];refine⟨?_,?_⟩
  rotate_left
  ·simp(disch:=omega) [au PS.eq_1,n0,n1,n2,h3];rfl
 |succ j ihj=>
  intro i hi c hc;have h1:i<p.ch.length:=by omega
  obtain⟨n',hw⟩:=ih _ (qxq h1) (lv+1) c (n+1+1+1+11) qqq hc qqq;have hb:=ajK p.ch[i] (lv+1) c qqq hc;rw[drop_cons h1,tks];generalize hR:tk p.ch[i] (lv+1) c=R at *;obtain⟨r,c'⟩:=R;cases r with
  |true=>obtain⟨n2',hw2⟩:=ihj (i+1) qqq c' (hb rfl);refine⟨n2',?_⟩;rw[qzq rfl];rw[au yh.eq_1];simp at hw hw2;simp(disch:=omega) [aK,H.kk,n0,n1,n2,h1,hw,hw2]
  |false=>
   rw[qwx qqz];rw[au yh.eq_1];simp at hw;refine⟨?_,?_⟩
   rotate_left
   ·simp(disch:=omega) [aK,H.kk,n0,n1,n2,h1,hw];rfl
theorem CJ{p:Pt}(h:qE p=true):p.ch.length<=16:=by
 unfold qE at h;split at h
 ·simp at h;omega
 ·split at h
  ·simp at h;rw[h.2];simp
  ·split at h
   ·simp at h;rw[h.2];simp
   ·simp at h;rw[h.2];simp
theorem V6(H:Gm C)(p:Pt)(ih:∀m∈p.ch,Zj C m):Zj C p:=by
 intro lv c n hn hc hlv;rw[jL (args:=[.rop p.c,.int .i64 lv,.ptr 7 0 0,.ptr 0 0 0,.ptr 9 0 0]) H.alY rfl (hpT c) n,aky];have ha:=aag H p;have hu:FnW C 503 [.rop p.c]=some (.tup []):=by rw[aN H.alu rfl];simp[ahC]
 have n0:0<n:=by omega
 have n1:7<n:=by omega
 have n2:9<n:=by omega
 by_cases b1:6<lv
 ·rw[qzq (.inl b1)];refine⟨?_,?_⟩
  rotate_left
  ·simp(disch:=omega) [W9,aK,H.kk,b1,n0,n1,n2];rfl
 ·by_cases b2:64<c+1
  ·rw[qzq (.inr (.inl b2))];have b2':64<(c:Int)+1:=by omega
   refine⟨?_,?_⟩
   rotate_left
   ·simp(disch:=omega) [W9,aK,H.kk,b1,b2',n0,n1,n2];rfl
  ·have b2':¬64<(c:Int)+1:=by omega
   cases b3:qE p with
   |false=>
    rw[qzq (.inr (.inr rfl))];rw[b3]at ha;refine⟨?_,?_⟩
    rotate_left
    ·simp(disch:=omega) [W9,aK,H.kk,b1,b2',ha,n0,n1,n2];rfl
   |true=>rw[qwx qqx];have hl:=CJ b3;rw[b3]at ha;obtain⟨n',hw⟩:=VT H p lv n hn qqq hl ih p.ch.length 0 qqz (c+1) qqq;refine⟨n',?_⟩;rw[qjz]at hw;generalize tks p.ch (lv+1) (c+1)=R at *;simp only[hpT]at hw |-;simp at hw;simp(disch:=omega) [W9,aK,H.kk,b1,b2',ha,hu,n0,n1,n2,hw]
theorem aeh(H:Gm C)(p:Pt):Zj C p :=V6 H p (λm hm=>aeh H m)
termination_by SizeOf.sizeOf p
decreasing_by
 have:=qnx hm;have:=p.xR;omega
def qB(p:Pt):Nat:=if p.k=1/\(tk p 1 0).1=true then(tk p 1 0).2 else 0
theorem aeV(H:Gm C)(p:Pt):FnW C 502 [.rop p.c,.fn 503 []]=some (.int .i64 (qB p)):=by
 rw[aN H.amW rfl];obtain⟨n',h⟩:=aeh H p 1 0 15 qqq qqq qqq;unfold qB;generalize tk p 1 0=R at *;obtain⟨r,c⟩:=R;simp only[hpT]at h;simp at h;by_cases k1:p.k=1
 ·cases r<;>simp[aes,H.kk,k1,h]
 ·simp[aes,H.kk,k1]
theorem ZE(H:Gm C)(p:Pt):FnW C 404 [.agg p.c]=some (.int .i64 (qB p)):=by have h:=aeV H p;rw[aN H.akF rfl];simp[aiv,H.kk,h]
theorem NH(H:Gm C)(p:Pt):FnW C 231 [.agg p.c]=some (.int .i64 (if qB p=0 then 14 else 0)):=by
 have h:=ZE H p;rw[aN H.f231 rfl];by_cases c:qB p=0
 ·simp[acf,H.kk,h,c]
 ·simp[acf,H.kk,h,c]
structure PE(C:aJ):Prop extends Gm C where
 ak8:GwC C 594 ae5
 afY:GwC C 586 mG
 akQ:GwC C 550 aa6
 akS:GwC C 505 aaV
 amy:GwC C 408 aeE
theorem SN(H:PE C)(l:List Sl)(e:Bool)(hl:l.length<=1000000)(hf:∀s∈l,0<=s.f):∀n i,n+i=l.length ->
 Ig C ⟨[(3,.int .i64 i),(0,.ro 3 (l.map eSl) e)],[],0⟩ =
  some (.bool (lF (if i=0 then none else(l[i-1]?).map Sl.n) (l.drop i))):=by
 intro n;induction n with
 |zero=>
  intro i hi;simp only[Ig];rw[au CZ.eq_1];have h1:l.drop i=[]:=qzx qqq;have h3:¬i<l.length:=by omega
  simp[au OY.eq_1,h1,h3,lF]
 |succ n ih=>
  intro i hi;have h1:i<l.length:=by omega
  have hb:=pR H.toql l[i].n;have hc:=AO H.toql l[i].v;have h0:=hf _ (qxq h1);have:=ih (i+1) qqq;rw[qwx qqq,show i+1-1=i from rfl,qqj h1]at this;rw[drop_cons h1,lF];simp only[Ig]at this |-;rw[au CZ.eq_1];simp only[qhq]at this;generalize lF (some l[i].n) (l.drop (i+1))=R at *;cases q1:isName l[i].n
  ·rw[q1]at hb;simp(disch:=omega) [h1,aK,hb,H.kk]
  ·rw[q1]at hb;by_cases f3:l[i].f<=3
   ·have f3':¬3<l[i].f:=by omega
    cases q2:isText l[i].v
    ·rw[q2]at hc;simp(disch:=omega) [h1,aK,hb,hc,H.kk,f3,f3']
    ·rw[q2]at hc;by_cases f0:¬l[i].f=0/\¬l[i].v=[]
     ·have f1:¬l[i].f<=0:=by have:=f0.1;omega
      simp(disch:=omega) [h1,aK,hb,hc,H.kk,f3,f3',f0.1,f0.2,f1]
     ·have key:(¬l[i].f=0/\l[i].v=[])\/l[i].f=0:=by
       by_cases a:l[i].f=0
       ·exact .inr a
       ·exact .inl ⟨a,qnj λb=>f0 ⟨a,b⟩⟩
      cases i with
      |zero=>
       simp at this;rcases key with⟨a,b⟩ | a
       ·have b':=qQz b;simp(disch:=omega) [h1,aK,hb,hc,H.kk,f3,f3',a,b',this,after]
       ·have a':l[0].f<=0:=by omega
        simp(disch:=omega) [h1,aK,hb,hc,H.kk,f3,f3',qQz a,a',this,after]
      |succ i=>
       have h4:i<l.length:=by omega
       have h5:(i:Int)+1<l.length:=by omega
       simp at this;by_cases q3:l[i].n<l[i+1].n
       ·have q4:¬l[i+1].n<=l[i].n:=List.not_le.2 q3;rcases key with⟨a,b⟩ | a
        ·have b':=qQz b;simp(disch:=omega) [h1,h4,h5,aK,hb,hc,H.kk,f3,f3',a,b',this,after,blt_eq,q3,q4]
        ·have a':l[i+1].f<=0:=by omega
         simp(disch:=omega) [h1,h4,h5,aK,hb,hc,H.kk,f3,f3',qQz a,a',this,after,blt_eq,q3,q4]
       ·have q4:l[i+1].n<=l[i].n:=q2x.1 q3;rcases key with⟨a,b⟩ | a
        ·have b':=qQz b;simp(disch:=omega) [h1,h4,h5,aK,hb,hc,H.kk,f3,f3',a,b',this,after,blt_eq,q3,q4]
        ·have a':l[i+1].f<=0:=by omega
         simp(disch:=omega) [h1,h4,h5,aK,hb,hc,H.kk,f3,f3',qQz a,a',this,after,blt_eq,q3,q4]
   ·have f3':3<l[i].f:=by omega
    simp(disch:=omega) [h1,aK,hb,H.kk,f3,f3']
theorem aa8(H:PE C)(l:List Sl)(e:Bool)(hf:∀s∈l,0<=s.f):FnW C 594 [.ro 3 (l.map eSl) e]=some (.bool (decide (l.length<=8)&&lF none l)):=by
 rw[aN H.ak8 rfl];by_cases c:l.length<=8
 ·have c1:¬8<(l.length:Int):=by omega
  have h:=SN H l e qqq hf l.length 0 qqz;rw[qjz,qzq rfl]at h;generalize lF none l=R at *;simp only[Ig]at h;simp at h;simp[ae5,c,c1,h]
 ·have c1:8<(l.length:Int):=by omega
  simp[ae5,c,c1]
structure Fits(p:Pt):Prop where
 f:∀s∈p.s,0<=s.f
 s:p.s.length<=9223372036854775807
 c:p.ch.length<=9223372036854775807
theorem auZ{α β:Type}(a:List α)(b:List β)[Decidable (a=[])][Decidable (b=[])]:((a.length:Int)+(b.length:Int) == 0)=(decide (a=[])&&decide (b=[])):=by cases a<;>cases b<;>simp<;>omega
theorem anE{α β:Type}(a:List α)(b:List β)(ha:a.length<=9223372036854775807)(hb:b.length<=9223372036854775807)[Decidable (a=[])][Decidable (b=[])]:(IntKind.i64.wrap ((a.length:Int)+(b.length:Int)) == 0)=(decide (a=[])&&decide (b=[])):=by
 have h:(IntKind.i64.wrap ((a.length:Int)+(b.length:Int)) == 0)=((a.length:Int)+(b.length:Int) == 0):=by rw[Bool.eq_iff_iff];show((if (true&&decide (((a.length:Int)+b.length) % 18446744073709551616 ≥ 9223372036854775808))=true then((a.length:Int)+b.length) % 18446744073709551616-18446744073709551616 else((a.length:Int)+b.length) % 18446744073709551616) == 0)=true↔_;simp only[qlx,qkj,zyz];split<;>omega
 rw[h,auZ]
theorem ag5(H:PE C)(p:Pt)(hp:Fits p):FnW C 586 [.agg p.c]=some (.bool (qE p)):=by
 rw[aN H.afY rfl];unfold qE;have ht:=pR H.toql p.t;have hy:=pR H.toql p.y;have hx:=AO H.toql p.x;have hs:=aa8 H p.s p.se hp.f;have hl1:=hp.s;have hl2:=hp.c;have hz:(IntKind.i64.wrap ((p.s.length:Int)+(p.ch.length:Int)) == 0)=(decide (p.s=[])&&decide (p.ch=[])):=anE _ _ hl1 hl2;generalize isName p.t=T at *;generalize isText p.x=X at *;generalize (decide (p.s.length<=8)&&lF none p.s)=S at *;by_cases k1:p.k=1
 ·rw[qzq k1];cases T
  ·simp[mG,k1,ht,H.kk]
  ·by_cases c2:p.y=[]
   ·have c2':=qQz c2;cases S
    ·simp[mG,k1,ht,hs,H.kk,c2']
    ·by_cases c3:p.x=[]
     ·have c3':=qQz c3;by_cases c5:p.ch.length<=16
      ·have c7:(p.ch.length:Int)<=16:=by omega
       simp[mG,k1,ht,hs,H.kk,c2',c3',c5,c7]
      ·have c7:¬(p.ch.length:Int)<=16:=by omega
       simp[mG,k1,ht,hs,H.kk,c2',c3',c5,c7]
     ·simp[mG,k1,ht,hs,H.kk,c2',c3]
   ·cases q2:isName p.y
    ·rw[q2]at hy;simp[mG,k1,ht,hy,H.kk,c2]
    ·rw[q2]at hy;cases S
     ·simp[mG,k1,ht,hy,hs,H.kk,c2]
     ·by_cases c3:p.x=[]
      ·have c3':=qQz c3;by_cases c5:p.ch.length<=16
       ·have c7:(p.ch.length:Int)<=16:=by omega
        simp[mG,k1,ht,hy,hs,H.kk,c2,c3',c5,c7]
       ·have c7:¬(p.ch.length:Int)<=16:=by omega
        simp[mG,k1,ht,hy,hs,H.kk,c2,c3',c5,c7]
      ·simp[mG,k1,ht,hy,hs,H.kk,c2,c3]
 ·rw[qwx k1];by_cases k5:p.k=5
  ·rw[qzq k5];cases T
   ·simp[mG,k5,ht,hs,H.kk]
   ·cases S
    ·simp[mG,k5,ht,hs,H.kk]
    ·by_cases c2:p.y=[]
     ·by_cases c3:p.x=[]
      ·by_cases c4:p.ch=[]<;>simp[mG,k5,ht,hs,H.kk,qQz c2,qQz c3,c4]
      ·simp[mG,k5,ht,hs,H.kk,qQz c2,c3]
     ·simp[mG,k5,ht,hs,H.kk,c2]
  ·rw[qwx k5];by_cases k2:p.k=2
   ·rw[qzq k2];cases X
    ·simp[mG,k2,hx,H.kk]
    ·by_cases c1:p.t=[]
     ·by_cases c2:p.y=[]
      ·simp(disch:=omega) [mG,k2,hx,H.kk,qQz c1,qQz c2,hz]
      ·simp[mG,k2,hx,H.kk,qQz c1,c2]
     ·simp[mG,k2,hx,H.kk,c1]
   ·rw[qwx k2];by_cases k34:p.k=3\/p.k=4
    ·have rest:FnW C 586 [.agg p.c]=some (.bool (decide (p.t=[])&&decide (p.y=[])&&decide (p.x=[])&&decide (p.s=[])&&decide (p.ch=[]))):=by
      rw[aN H.afY rfl];by_cases c0:p.x=[]
      ·by_cases c1:p.t=[]
       ·by_cases c2:p.y=[]
        ·rcases k34 with k3 | k3<;>simp(disch:=omega) [mG,k3,H.kk,qQz c0,qQz c1,qQz c2,hz]
        ·rcases k34 with k3 | k3<;>simp[mG,k3,H.kk,qQz c0,qQz c1,c2]
       ·rcases k34 with k3 | k3<;>simp[mG,k3,H.kk,qQz c0,c1]
      ·rcases k34 with k3 | k3<;>simp[mG,k3,H.kk,c0]
     rw[aN H.afY rfl]at rest;rw[rest];simp[k34]
    ·have k3:¬p.k=3:=λq=>k34 (.inl q);have k4:¬p.k=4:=λq=>k34 (.inr q);simp[mG,k1,k2,k3,k4,k5,H.kk]
inductive fZ:Pt->Prop
 |mk (p:Pt) (h:Fits p) (hm:∀m∈p.ch,fZ m):fZ p
mutual
/-- The specification's count, with so many levels. -/
def trc:Pt->Nat->Nat
 |_,0=>1000
 |⟨k,t,y,s,se,x,ch,ce⟩,lv+1=>if qE ⟨k,t,y,s,se,x,ch,ce⟩=true then tY ch lv 1 else 1000
def tY:List Pt->Nat->Nat->Nat
 |[],_,c=>c
 |m::r,lv,c=>if c<=64 then tY r lv (c+trc m lv)else c
end
theorem akg(n:Pt):trc n 0=1000:=by cases n;rw[trc]
theorem ajv(n:Pt)(lv:Nat):trc n (lv+1)=if qE n=true then tY n.ch lv 1 else 1000:=by cases n;rw[trc]
theorem NR:∀(l:List Pt) (lv c:Nat),c<=tY l lv c
 |[],lv,c=>by rw[tY];exact qxx _
 |m::r,lv,c=>by
  rw[tY];split
  ·have:=NR r lv (c+trc m lv);omega
  ·exact qxx _
theorem akR(n:Pt)(lv:Nat):1<=trc n lv:=by
 cases lv with
 |zero=>rw[akg];omega
 |succ lv=>
  rw[ajv];split
  ·exact NR _ _ _
  ·omega
mutual
theorem afR:∀(n:Pt) (lv:Nat),trc n lv<=1000+64*lv
 |⟨k,t,y,s,se,x,ch,ce⟩,0=>by rw[trc];omega
 |⟨k,t,y,s,se,x,ch,ce⟩,lv+1=>by
  rw[trc];split
  ·have:=Yn ch lv 1 qqq;omega
  ·omega
theorem Yn:∀(l:List Pt) (lv c:Nat),c<=1064+64*lv->tY l lv c<=1064+64*lv
 |[],lv,c,h=>by rw[tY];exact h
 |m::r,lv,c,h=>by
  rw[tY];split
  ·have h2:=afR m lv;exact Yn r lv _ qqq
  ·exact h
end
mutual
theorem akz:∀(n:Pt) (lv L c:Nat),lv+L=7->c<=64->((tk n L c).1=true->(tk n L c).2=c+trc n lv/\c+trc n lv<=64)/\((tk n L c).1=false->64<c+trc n lv)
 |⟨k,t,y,s,se,x,ch,ce⟩,lv,L,c,h1,h2=>by
  have hge:=akR ⟨k,t,y,s,se,x,ch,ce⟩ lv;rw[tk];by_cases q:6<L\/64<c+1\/qE ⟨k,t,y,s,se,x,ch,ce⟩=false
  ·rw[qzq q];refine⟨λr=>by simp at r,λ_=>?_⟩;rcases q with q | q | q
   ·have:lv=0:=by omega
    subst this;rw[trc];omega
   ·omega
   ·cases lv with
    |zero=>rw[trc];omega
    |succ lv=>rw[trc,qwx (by simp[q])];omega
  ·rw[qwx q];cases lv with
   |zero=>omega
   |succ lv=>rw[trc,qzq (by simpa using λr=>q (.inr (.inr r)))];exact acC ch lv (L+1) c 1 qqq qqq
theorem acC:∀(l:List Pt) (lv L g c:Nat),lv+L=7->g+c<=64->((tks l L (g+c)).1=true->(tks l L (g+c)).2=g+tY l lv c/\g+tY l lv c<=64)/\((tks l L (g+c)).1=false->64<g+tY l lv c)
 |[],lv,L,g,c,h1,h2=>by rw[tks,tY];exact⟨λ_=>⟨rfl,h2⟩,λr=>by simp at r⟩
 |m::r,lv,L,g,c,h1,h2=>by
  have hm:=akz m lv L (g+c) h1 h2;have hr:tY (m::r) lv c=tY r lv (c+trc m lv):=by rw[tY,qzq qqq]
  rw[tks,hr];generalize tk m L (g+c)=R at *;obtain⟨b,c'⟩:=R;cases b with
  |true=>obtain⟨e1,e2⟩:=hm.1 rfl;rw[qzq rfl];simp only at e1;rw[e1,qdj];exact acC r lv L g (c+trc m lv) h1 qqq
  |false=>have e:=hm.2 rfl;rw[qwx qqz];refine⟨λq=>by simp at q,λ_=>?_⟩;have:=NR r lv (c+trc m lv);omega
end
theorem agY(p:Pt):qB p=if p.k≠1\/64<trc p 6 then 0 else trc p 6:=by
 have h:=akz p 6 1 0 rfl qqq;unfold qB;generalize tk p 1 0=R at *;obtain⟨b,c⟩:=R;by_cases k1:p.k=1
 ·cases b with
  |true=>obtain⟨e1,e2⟩:=h.1 rfl;simp only at e1;rw[qzq ⟨k1,rfl⟩,qwx (by intro q;rcases q with q | q;exact q k1;omega)];simp only;omega
  |false=>have e:=h.2 rfl;rw[qwx qqz,qzq (.inr qqq)]
 ·rw[qwx (λq=>k1 q.1),qzq (.inl k1)]
abbrev hpP(p:Pt):aI:=[(0,.cells 6 [p.c] true true)]
theorem RP(H:PE C)(n:Pt)(lv:Nat)(hlv:lv<=5)(hl:n.ch.length<=16)(ih:∀m∈n.ch,FnW C 550 [.agg m.c,.int .i64 lv]=some (.int .i64 (trc m lv))):∀j i,j+i=n.ch.length->∀c,c<=1064+64*lv ->
 DX C ⟨[(6,.int .i64 i),(5,.int .i64 c),(2,.ptr 0 0 0),(1,.int .i64 (lv+1:Nat))],hpP n,1⟩=some (.int .i64 (tY (n.ch.drop i) lv c)):=by
 intro j;induction j with
 |zero=>
  intro i hi c hc;simp only[DX];rw[au xW.eq_1];have h1:n.ch.drop i=[]:=qzx qqq;have h3:¬i<n.ch.length:=by omega
  rw[h1,tY];simp[au Iz.eq_1,h3]
 |succ j ihj=>
  intro i hi c hc;have h1:i<n.ch.length:=by omega
  have hm:=ih _ (qxq h1);have hle:=afR n.ch[i] lv;rw[drop_cons h1,tY];by_cases c1:c<=64
  ·have:=ihj (i+1) qqq (c+trc n.ch[i] lv) qqq;rw[qzq c1];have c2:(c:Int)<=64:=by omega
   simp only[DX]at this |-;rw[au xW.eq_1];simp at this;simp(disch:=omega) [h1,c1,c2,aK,hm,H.kk,this]
  ·rw[qwx c1];have c2:¬(c:Int)<=64:=by omega
   simp only[DX];rw[au xW.eq_1];simp(disch:=omega) [au Iz.eq_1,h1,c1,c2]
theorem O4(H:PE C)(n:Pt)(hf:Fits n)(ih:∀m∈n.ch,∀lv:Nat,lv<=6->FnW C 550 [.agg m.c,.int .i64 lv]=some (.int .i64 (trc m lv)))(lv:Nat)(hlv:lv<=6):FnW C 550 [.agg n.c,.int .i64 lv]=some (.int .i64 (trc n lv)):=by
 have ho:=ag5 H n hf;rw[aN H.akQ rfl];cases lv with
 |zero=>rw[akg];simp[aa6]
 |succ lv=>
  rw[ajv];have c1:¬(lv:Int)+1<1:=by omega
  cases ha:qE n with
  |false=>rw[ha]at ho;simp[aa6,c1,ho,H.kk]
  |true=>rw[ha]at ho;have hr:=RP H n lv qqq (CJ ha) (λm hm=>ih m hm lv qqq) n.ch.length 0 qqz 1 qqq;rw[qjz]at hr;simp only[DX]at hr;simp at hr;simp[aa6,c1,ho,H.kk,hr]
theorem XA(H:PE C)(p:Pt)(hf:fZ p):∀lv:Nat,lv<=6->FnW C 550 [.agg p.c,.int .i64 lv]=some (.int .i64 (trc p lv)):=by
 induction hf with
 |mk p h hm ih=>exact λlv hlv=>O4 H p h (λm hm lv hlv=>ih m hm lv hlv) lv hlv
theorem XH(H:PE C)(p:Pt)(hf:fZ p):FnW C 505 [.agg p.c]=some (.int .i64 (qB p)):=by
 have h:=XA H p hf 6 qqq;rw[aN H.akS rfl,agY];generalize trc p 6=R at *;simp at h;by_cases k1:p.k=1
 ·by_cases c:64<R
  ·have c1:64<(R:Int):=by omega
   simp[aaV,H.kk,h,c,c1,k1]
  ·have c1:¬64<(R:Int):=by omega
   simp[aaV,H.kk,h,c,c1,k1]
 ·simp[aaV,H.kk,h,k1]
theorem Kz(H:PE C)(p:Pt)(hf:fZ p):FnW C 408 [.agg p.c]=some (.int .i64 (if qB p=0 then 14 else 0)):=by
 have h:=XH H p hf;rw[aN H.amy rfl];by_cases c:qB p=0
 ·simp[aeE,H.kk,h,c]
 ·simp[aeE,H.kk,h,c]
structure ad3(C:aJ):Prop extends PE C,TG C where
 ama:GwC C 546 X6
 alI:GwC C 580 agm
 akG:GwC C 512 X0
def Ak(i:It):Bool:=decide (i.k≠0)&&isText i.x&&(decide (i.m.length<=8)&&i.m.all isName)
theorem ag1(H:ad3 C):Y4 C 580 isName where
 ok s:=by have:=yx H.toGm s;rw[aN H.alI rfl];simp[agm,H.kk,this]
 ne:=by rfl
 ni:=by rfl
theorem afk(H:ad3 C)(i:It):FnW C 546 [eIt i]=some (.int .i64 (if Ak i=true then 0 else 6)):=by
 have hx:=Fg H.toGm i.x;rw[aN H.ama rfl];unfold Ak;generalize isText i.x=X at *;by_cases c1:i.k=0
 ·simp[X6,qQz c1]
 ·cases X
  ·simp[X6,c1,hx,H.kk]
  ·by_cases c2:i.m.length<=8
   ·have c3:¬8<(i.m.length:Int):=by omega
    have hm:=BK H.toTG (ag1 H) i.m i.e qqq;generalize i.m.all isName=M at *;cases M<;>simp at hm<;>simp[X6,c1,hx,c2,c3,hm,H.kk]
   ·have c3:8<(i.m.length:Int):=by omega
    simp[X6,c1,hx,c2,c3,H.kk]
theorem Xp(H:ad3 C)(k t:Int)(x:Bs)(m:List Bs)(e:Bool)(hl:m.length<=8):∀n i,n+i=m.length ->
 H7 C ⟨[(3,.int .i64 i),(1,.ptr 0 0 0)],[(0,.cells 4 [[.int .u64 k,.int .u8 t,.str x,.ro 1 (m.map eS) e]] true true)],1⟩ =
  some (.int .i64 (if (m.drop i).all isName=true then 0 else 6)):=by
 intro n;induction n with
 |zero=>
  intro i hi;simp only[H7];rw[au BJ.eq_1];have h1:m.drop i=[]:=qzx qqq;have h3:¬i<m.length:=by omega
  simp[au NP.eq_1,h1,h3]
 |succ n ih=>
  intro i hi;have h1:i<m.length:=by omega
  have:=ih (i+1) qqq;have hb:=pR H.toql m[i];rw[drop_cons h1];generalize hX:(m.drop (i+1)).all isName=X at *;rw[qYj,hX];simp only[H7]at this |-;rw[au BJ.eq_1];cases hn:isName m[i]
  ·rw[hn]at hb;simp(disch:=omega) [h1,aK,hb,H.kk]
  ·rw[hn]at hb;simp at this;simp(disch:=omega) [h1,aK,hb,H.kk,this]
theorem adz(H:ad3 C)(i:It):FnW C 512 [eIt i]=some (.int .i64 (if Ak i=true then 0 else 6)):=by
 have hx:=AO H.toql i.x;rw[aN H.akG rfl];unfold Ak;generalize isText i.x=X at *;by_cases c1:i.k=0
 ·simp[X0,qQz c1]
 ·cases X
  ·simp[X0,c1,hx,H.kk]
  ·by_cases c2:i.m.length<=8
   ·have c3:¬8<(i.m.length:Int):=by omega
    have hm:=Xp H i.k i.t i.x i.m i.e c2 i.m.length 0 qqz;rw[qjz]at hm;generalize i.m.all isName=M at *;simp only[H7]at hm;simp at hm;simp[X0,c1,hx,c2,c3,hm,H.kk]
   ·have c3:8<(i.m.length:Int):=by omega
    simp[X0,c1,hx,c2,c3,H.kk]
def dec(n:Nat):Bs:=if h:n<10 then[UInt8.ofNat (48+n)]else dec (n / 10)++[UInt8.ofNat (48+n % 10)]
termination_by n
theorem Zk:∀(k n:Nat),n<10 ^ (k+1)->(dec n).length<=k+1
 |0,n,h=>by unfold dec;rw[zWq (by simpa using h)];simp
 |k+1,n,h=>by
  unfold dec;split
  ·simp
  ·have:=Zk k (n / 10) (by rw[Nat.pow_succ]at h;omega);simp;omega
structure adW(C:aJ):Prop extends ad3 C where
 akE:GwC C 584 ai3
 ahd:GwC C 558 afm
theorem YU(n:Nat)(h:n<10):dec n=[UInt8.ofNat (48+n)]:=by unfold dec;rw[zWq h]
theorem Zp(H:adW C)(n:Nat)(h:n<10):FnW C 558 [.int .u64 n]=some (.str (dec n)):=by
 rw[aN H.ahd rfl,YU n h];obtain rfl | rfl | rfl | rfl | rfl | rfl | rfl | rfl | rfl | rfl:n=0\/n=1\/n=2\/n=3\/n=4\/n=5\/n=6\/n=7\/n=8\/n=9:=by omega
 all_goals (simp(disch:=omega) [afm,vM];try rfl)
theorem aal(H:adW C)(n:Nat)(h:n<18446744073709551616)(ih:∀m<n,FnW C 558 [.int .u64 m]=some (.str (dec m))):FnW C 558 [.int .u64 n]=some (.str (dec n)):=by
 by_cases c:n<10
 ·exact Zp H n c
 ·have h1:=ih (n / 10) qqq;have h2:=Zp H (n % 10) qqq;have hl:=Zk 19 (n / 10) qqq;rw[YU _ qqq]at h2;rw[aN H.ahd rfl];rw[dec,dif_neg c];have e1:(n:Int).tdiv 10=((n / 10:Nat):Int):=by rw[qVj qqq];omega
  have e2:(n:Int).tmod 10=((n % 10:Nat):Int):=by rw[qyq qqq];omega
  have c2:¬(n:Int)<10:=by omega
  have hm:(dec (n / 10)).length+1<=maxStr:=by unfold maxStr;omega
  have b1:n / 10<=n:=by omega
  have b2:n % 10<=n:=by omega
  generalize dec (n / 10)=D at *;generalize UInt8.ofNat (48+n % 10)=dg at *;generalize n / 10=q at *;generalize n % 10=r at *;simp(disch:=omega) [afm,vM,c2,e1,e2,h1,h2,hm,H.kk]
theorem Sz(H:adW C)(n:Nat):n<18446744073709551616->FnW C 558 [.int .u64 n]=some (.str (dec n)):=by
 induction n using Nat.strongRecOn with
 |ind n ih=>exact λh=>aal H n h (λm hm=>ih m hm qqq)
theorem bytesOf_map:∀l:List UInt8,bytesOf (l.map λb=>[AV.int .u8 b.toNat])=some l
 |[]=>rfl
 |b::r=>by rw[qvj,bytesOf,bytesOf_map r];simp
theorem afF(r:Nat)(h:r<10):([48,49,50,51,52,53,54,55,56,57]:List UInt8)[r]'(by simpa using h)=UInt8.ofNat (48+r):=by
 obtain rfl | rfl | rfl | rfl | rfl | rfl | rfl | rfl | rfl | rfl:r=0\/r=1\/r=2\/r=3\/r=4\/r=5\/r=6\/r=7\/r=8\/r=9:=by omega
 all_goals rfl
theorem aeK:∀(i n:Nat) (acc:List UInt8),acc.length+i=19->n<10 ^ (i+1)->n<18446744073709551616 ->
 Gz C ⟨[(4,.int .i64 (i+1:Nat)),(3,.ptr 0 0 0),(0,.int .u64 n)],[(0,.cells 20 [List.replicate i (AV.int .u8 0)++AV.int .u8 0::acc.map λb=>AV.int .u8 b.toNat] true true)],1⟩=some (.str (dec n++acc)):=by
 intro i;induction i with
 |zero=>
  intro n acc ha hn hb;have e1:(n:Int).tdiv 10=0:=by rw[qVj qqq];omega
  have e2:(n:Int).tmod 10=n:=by rw[qyq qqq];omega
  have hr:n<10:=by simpa using hn
  have hd:=afF n hr;have h19:19<=acc.length:=by omega
  rw[YU n hr];generalize UInt8.ofNat (48+n)=dg at *;have hm:bytesOf ([AV.int .u8 dg.toNat]::List.map ((λx=>[x]) ∘ λb:UInt8=>AV.int .u8 b.toNat) acc)=some (dg::acc):=bytesOf_map (dg::acc);simp only[Gz];rw[au BP.eq_1];simp(disch:=(first | omega | (simp;done) | (simp;omega))) [aK,vM,e1,e2,hr,hd,h19,hm,qxz,UM]
 |succ i ih=>
  intro n acc ha hn hb;have e1:(n:Int).tdiv 10=((n / 10:Nat):Int):=by rw[qVj qqq];omega
  have e2:(n:Int).tmod 10=((n % 10:Nat):Int):=by rw[qyq qqq];omega
  have hr:n % 10<10:=by omega
  have hq:n / 10<10 ^ (i+1):=by rw[Nat.pow_succ]at hn;omega
  have hqb:n / 10<=n:=by omega
  have h18:acc.length+i=18:=by omega
  have hi:i+1<20:=by omega
  have h20:20<=i+1+(acc.length+1):=by omega
  have hi19:i<=19:=by omega
  have hd:=afF (n % 10) hr;have ih':=λdg=>ih (n / 10) (dg::acc) qqx hq qqq;have hdec:dec n=(if n / 10=0 then[]else dec (n / 10))++[UInt8.ofNat (48+n % 10)]:=by
   by_cases c:n<10
   ·have:n / 10=0:=by omega
    have h2:n % 10=n:=by omega
    rw[YU n c,this,h2];simp
   ·rw[dec,dif_neg c,qwx qqq]
  rw[hdec];have t1:∀(z:AV) (L:List AV),List.take (i+1) (List.replicate (i+1) z++L)=List.replicate (i+1) z:=λz L=>List.take_left' qqz;have t2:∀(z y:AV) (L:List AV),List.drop (i+1+1) (List.replicate (i+1) z++y::L)=L:=λz y L=>by rw[List.append_cons];exact List.drop_left' qqz
  have t3:∀(z:AV) (X:List AV),List.replicate i z++z::X=List.replicate (i+1) z++X:=λz X=>by rw[List.replicate_succ'];simp
  generalize dec (n / 10)=D at *;generalize UInt8.ofNat (48+n % 10)=dg at *;have hm:bytesOf ([AV.int .u8 dg.toNat]::List.map ((λx=>[x]) ∘ λb:UInt8=>AV.int .u8 b.toNat) acc)=some (dg::acc):=bytesOf_map (dg::acc);have ih2:=ih' dg;rw[t3]at ih2;generalize n / 10=q at *;generalize n % 10=r at *;simp only[Gz]at ih2 |-;rw[au BP.eq_1];simp at ih2;by_cases c:q=0
  ·simp(disch:=(first | omega | (simp;done) | (simp;omega))) [aK,vM,e1,e2,hr,hd,hi,h20,hi19,hm,t1,t2,c,qxz,UM]
  ·simp(disch:=(first | omega | (simp;done) | (simp;omega))) [aK,vM,e1,e2,hr,hd,hi,t1,t2,c,ih2]
theorem Oq(H:adW C)(n:Nat)(h:n<18446744073709551616):FnW C 584 [.int .u64 n]=some (.str (dec n)):=by have hl:=aeK (C:=C) 19 n [] rfl qqq h;have e:List.replicate 19 (AV.int .u8 0)++AV.int .u8 0::List.map (λb:UInt8=>AV.int .u8 b.toNat) []=rep 20 (AV.int .u8 0):=rfl;rw[e]at hl;simp only[Gz]at hl;simp at hl;rw[aN H.akE rfl];simp[ai3,hl]
def bI(x:It)(s:Sl):Bs×Bs:=(s.n,if s.f=1 then x.x else if s.f=2 then dec x.k.toNat else if s.f=3 then dec x.m.length else s.v)
structure ac5(C:aJ):Prop extends adW C where
 amX:GwC C 559 ah9
 am4:GwC C 592 ac8
theorem SH(H:ac5 C)(x:It)(hk:0<=x.k/\x.k<18446744073709551616)(hm:x.m.length<=1000000)(l:List Sl)(e:Bool)(hl:l.length<=8):∀n i,n+i=l.length->∀G:List (Bs×Bs),G.length=i ->
 Ir C ⟨[(6,.int .i64 i),(5,.sl 0 2 0 G.length G.length false),(3,.ptr 1 0 0),(0,.ro 3 (l.map eSl) e)],[(0,.cells 2 (G.map eA) true true),(1,.cells 4 [[.int .u64 x.k,.int .u8 x.t,.str x.x,.ro 1 (x.m.map eS) x.e]] true true)],2⟩ =
  some (.ro 2 ((G++(l.drop i).map (bI x)).map eA) false):=by
 intro n;induction n with
 |zero=>
  intro i hi G hG;have h1:l.drop i=[]:=qzx qqq;have h3:¬i<l.length:=by omega
  simp only[Ir];rw[au Ae.eq_1];cases G with
  |nil=>simp[au Ic.eq_1,h1,h3]
  |cons g G=>simp(disch:=(first | omega | (simp;done) | (simp;omega))) [au Ic.eq_1,h1,h3,qxz]
 |succ n ih=>
  intro i hi G hG;have h1:i<l.length:=by omega
  obtain⟨k,hk2⟩:∃k:Nat,x.k=k:=⟨x.k.toNat,by omega⟩;have d1:=Sz H.toadW k qqq;have d2:=Sz H.toadW x.m.length qqq;have ih':=ih (i+1) qqq (G++[bI x l[i]]) (by simp[hG]);have hfit:(G.length+1)*33<=35184372088832:=by omega
  rw[drop_cons h1];simp only[Ir]at ih' |-;rw[au Ae.eq_1];simp at ih';unfold bI at ih' |-;rw[hk2]at ih' |-;by_cases f1:l[i].f=1
  ·simp[f1]at ih';simp(disch:=omega) [h1,f1,aK,hfit,ih',H.kk]
  ·by_cases f2:l[i].f=2
   ·simp[f2]at ih';simp(disch:=omega) [h1,f2,aK,hfit,d1,ih',H.kk]
   ·by_cases f3:l[i].f=3
    ·simp[f3]at ih';simp(disch:=omega) [h1,f3,aK,vM,hfit,d2,ih',H.kk]
    ·simp[f1,f2,f3]at ih';simp(disch:=omega) [h1,f1,f2,f3,aK,hfit,ih',H.kk]
theorem jJ(H:ac5 C)(x:It)(hk:0<=x.k/\x.k<18446744073709551616)(hm:x.m.length<=1000000)(l:List Sl)(e:Bool)(hl:l.length<=8) :
 FnW C 559 [.ro 3 (l.map eSl) e,eIt x]=some (.ro 2 ((l.map (bI x)).map eA) false):=by
 have h:=SH H x hk hm l e hl l.length 0 qqz [] rfl;simp only[Ir]at h;simp at h;rw[aN H.amX rfl];simp[ah9,h]
theorem UN(H:ac5 C)(x:It)(hk:0<=x.k/\x.k<18446744073709551616)(hm:x.m.length<=1000000)(l:List Sl)(e:Bool)(hl:l.length<=8)(hf:∀s∈l,0<=s.f/\s.f<=3):∀n i,n+i=l.length->∀G:List (Bs×Bs),G.length=i ->
 GU C ⟨[(13,.int .i64 i),(12,.int .i64 l.length),(11,.ro 3 (l.map eSl) e),(5,.sl 0 2 0 l.length l.length true),(2,.ptr 1 0 0)],[(0,.cells 2 (G.map eA++List.replicate n [.str [],.str []]) true true),(1,.cells 4 [[.int .u64 x.k,.int .u8 x.t,.str x.x,.ro 1 (x.m.map eS) x.e]] true true)],2⟩ =
  some (.ro 2 ((G++(l.drop i).map (bI x)).map eA) true):=by
 intro n;induction n with
 |zero=>
  intro i hi G hG;have h1:l.drop i=[]:=qzx qqq;have h3:¬i<l.length:=by omega
  have h5:G.length=l.length:=by omega
  have h6:List.take l.length (List.map eA G)=List.map eA G:=qxz (by simp[h5]);simp only[GU];rw[au yw.eq_1];simp[au Iw.eq_1,h1,h3,h5,h6]
 |succ n ih=>
  intro i hi G hG;have h1:i<l.length:=by omega
  obtain⟨k,hk2⟩:∃k:Nat,x.k=k:=⟨x.k.toNat,by omega⟩;have d1:=Oq H.toadW k qqq;have d2:=Oq H.toadW x.m.length qqq;have ih':=ih (i+1) qqq (G++[bI x l[i]]) (by simp[hG]);have h0:=hf _ (qxq h1);rw[drop_cons h1];simp only[GU]at ih' |-;rw[au yw.eq_1];simp at ih';unfold bI at ih' |-;rw[hk2]at ih' |-;have f0123:l[i].f=0\/l[i].f=1\/l[i].f=2\/l[i].f=3:=by omega
  rcases f0123 with f | f | f | f;all_goals
   simp[f]at ih';simp(disch:=omega) [h1,f,aK,vM,d1,d2,UE,Ub,H.kk,ih']
theorem aaM(H:ac5 C)(x:It)(hk:0<=x.k/\x.k<18446744073709551616)(hm:x.m.length<=1000000)(l:List Sl)(e:Bool)(hl:l.length<=8)(hf:∀s∈l,0<=s.f/\s.f<=3) :
 FnW C 592 [eIt x,.ro 3 (l.map eSl) e]=some (.ro 2 ((l.map (bI x)).map eA) true):=by
 rw[aN H.am4 rfl];by_cases hne:l=[]
 ·subst hne;simp(disch:=omega) [ac8,au yw.eq_1,au Iw.eq_1]
 ·have h:=UN H x hk hm l e hl hf l.length 0 qqz [] rfl;simp only[GU]at h;simp at h;simp(disch:=omega) [ac8,fits,hne,h]
structure ajk(C:aJ):Prop extends ac5 C where
 amP:GwC C 582 ahm
 ak9:GwC C 583 ah6
 akK:GwC C 593 air
def bV(s:Bs):Nd:=⟨2,[],[],[],true,s,[],true⟩
theorem yE(H:ajk C)(s:Bs):FnW C 583 [.str s]=some (.agg (bV s).c):=by rw[aN H.ak9 rfl,Nd.bU];simp[ah6,bV]
theorem ag0(H:ajk C)(l:List Nd)(e:Bool):FnW C 593 [.ro 6 (l.map Nd.c) e]=some (.ro 6 (l.map Nd.c) true):=by have h:List.take l.length (List.map Nd.c l)=List.map Nd.c l:=qxz qqz;rw[aN H.akK rfl];simp[air,h]
def zA(x:It)(p:Pt)(key:Bs)(ch:List Nd):Nd:=⟨1,p.t,key,p.s.map (bI x),true,[],ch,true⟩
theorem Lm(H:ajk C)(x:It)(hk:0<=x.k/\x.k<18446744073709551616)(hm:x.m.length<=1000000)(p:Pt)(hl:p.s.length<=8)(hf:∀s∈p.s,0<=s.f/\s.f<=3)(key:Bs)(ch:List Nd)(e:Bool) :
 FnW C 582 [eIt x,.agg p.c,.str key,.ro 6 (ch.map Nd.c) e]=some (.agg (zA x p key ch).c):=by
 have h1:=aaM H.toac5 x hk hm p.s p.se hl hf;have h2:=ag0 H ch e;rw[aN H.amP rfl,Nd.bU];simp only[zA];simp[ahm,h1,h2,H.kk]
end Go.D
end
section
namespace Go.D
open Go Go.Pav Go.Pw P
mutual
/-- A tree without what is known of its memory. -/
def Nd.z:Nd->Nd
 |⟨k,t,y,a,ae,x,ch,ce⟩=>⟨k,t,y,a,true,x,Nd.zs ch,true⟩
def Nd.zs:List Nd->List Nd
 |[]=>[]
 |n::r=>n.z::Nd.zs r
end
theorem Nd.akx:∀l:List Nd,Nd.zs l=l.map Nd.z
 |[]=>rfl
 |n::r=>by rw[Nd.zs,Nd.akx r];rfl
theorem Nd.aiV(n:Nd):n.z=⟨n.k,n.t,n.y,n.a,true,n.x,n.ch.map Nd.z,true⟩:=by cases n;rw[Nd.z,Nd.akx]
theorem Nd.z_y(n:Nd):n.z.y=n.y:=by rw[Nd.aiV]
theorem ag9(n:Nd):alone n.z=alone n:=by
 have h:(n.ch.map Nd.z).map Nd.y=n.ch.map Nd.y:=by rw[qZz];exact qex λm _=>m.z_y
 rw[Nd.aiV];unfold alone;simp only[h,qQj,List.map_eq_nil_iff]
mutual
theorem an9:∀(n:Nd) (lv:Nat) (s:Nat×Nat),wk n.z lv s=wk n lv s
 |⟨k,t,y,a,ae,x,ch,ce⟩,lv,(c,d)=>by
  have h:=ag9 ⟨k,t,y,a,ae,x,ch,ce⟩;rw[acJ,acJ,h];have e:(Nd.z ⟨k,t,y,a,ae,x,ch,ce⟩).ch=Nd.zs ch:=by rw[Nd.z]
  rw[e,aks ch (lv+1) (c+1,max d lv)]
theorem aks:∀(l:List Nd) (lv:Nat) (s:Nat×Nat),wks (Nd.zs l) lv s=wks l lv s
 |[],lv,s=>by rw[Nd.zs]
 |m::r,lv,s=>by
  rw[Nd.zs,wks,wks,an9 m lv s];split
  ·exact aks r lv _
  ·rfl
end
theorem zF(n:Nd):cnt n.z=cnt n:=by unfold cnt;rw[an9]
inductive Okp:Pt->Prop
 |mk (p:Pt) (h:qE p=true) (hf:Fits p) (hm:∀m∈p.ch,Okp m):Okp p
mutual
theorem acO:∀(p:Pt),fZ p->∀(lv c:Nat),(tk p lv c).1=true->Okp p
 |⟨k,t,y,s,se,x,ch,ce⟩,hf,lv,c,h=>by
  rw[aky]at h;split at h
  ·cases h
  ·rename_i q;cases hf with
   |mk _ h1 hm=>exact .mk _ (by simpa using λe=>q (.inr (.inr e))) h1 (YH ch hm _ _ h)
theorem YH:∀(l:List Pt),(∀m∈l,fZ m)->∀(lv c:Nat),(tks l lv c).1=true->∀m∈l,Okp m
 |[],_,_,_,_=>by simp
 |m::r,hf,lv,c,h=>by
  rw[tks]at h;split at h
  ·rename_i q;intro a ha;have h0:=acO m (hf m qqz) lv c q;have h2:=YH r (λb hb=>hf b (by simp[hb])) lv _ h;rcases qjj.1 ha with e | ha
   ·exact e ▸ h0
   ·exact h2 a ha
  ·cases h
end
theorem KG{p:Pt}(hf:fZ p)(h:qB p≠0):Okp p:=by
 unfold qB at h;split at h
 ·rename_i q;exact acO p hf 1 0 q.2
 ·exact absurd rfl h
theorem adf{p:Pt}(h:qB p≠0):p.k=1:=by
 unfold qB at h;split at h
 ·rename_i q;exact q.1
 ·exact absurd rfl h
theorem RH:∀(l:List Sl) (p:Option Bs),lF p l=true->∀s∈l,s.f<=3
 |[],_,_=>by simp
 |s::r,p,h=>by
  rw[lF]at h;simp at h;intro a ha;rcases qjj.1 ha with rfl | ha
  ·exact h.1.1.1.1.2
  ·exact RH r _ h.2 a ha
theorem Xr{p:Pt}(h:qE p=true):p.s.length<=8/\∀s∈p.s,s.f<=3:=by
 unfold qE at h;split at h
 ·simp at h;exact⟨h.1.2.1,RH _ _ h.1.2.2⟩
 ·split at h
  ·simp at h;exact⟨h.1.1.1.2.1,RH _ _ h.1.1.1.2.2⟩
  ·split at h
   ·simp at h;rw[h.1.2];simp
   ·simp at h;rw[h.1.2];simp
theorem Wv{p:Pt}(h:qE p=true):p.k=1\/p.k=2\/p.k=3\/p.k=4\/p.k=5:=by
 unfold qE at h;split at h
 ·exact .inl ‹_›
 ·split at h
  ·exact .inr (.inr (.inr (.inr ‹_›)))
  ·split at h
   ·exact .inr (.inl ‹_›)
   ·simp at h;rcases h.1.1.1.1.1 with q | q
    ·exact .inr (.inr (.inl q))
    ·exact .inr (.inr (.inr (.inl q)))
mutual
/-- What a part makes. -/
def mk(x:It):Pt->List Nd
 |⟨k,t,y,s,se,tx,ch,ce⟩=>
  if k=1 then[⟨1,t,y,s.map (bI x),true,[],mks x ch,true⟩]
  else if k=2 then[bV tx]else if k=3 then[bV x.x]else if k=4 then[bV (dec x.k.toNat)]
  else if k=5 then x.m.map λm=>⟨1,t,m,s.map (bI x),true,[],[bV m],true⟩else[]
def mks(x:It):List Pt->List Nd
 |[]=>[]
 |p::r=>mk x p++mks x r
end
theorem mk_eq(x:It)(p:Pt):mk x p=if p.k=1 then[zA x p p.y (mks x p.ch)]
 else if p.k=2 then[bV p.x]else if p.k=3 then[bV x.x]else if p.k=4 then[bV (dec x.k.toNat)]
 else if p.k=5 then x.m.map λm=>zA x p m [bV m]else[]:=by cases p;rw[mk];rfl
mutual
/-- What the specification's part makes. -/
def md(x:It):Pt->List Nd
 |⟨k,t,y,s,se,tx,ch,ce⟩=>
  if k=2 then[bV tx]else if k=3 then[bV x.x]else if k=4 then[bV (dec x.k.toNat)]
  else if k=5 then x.m.map λm=>⟨1,t,m,s.map (bI x),false,[],[bV m],true⟩
  else[⟨1,t,y,s.map (bI x),false,[],mds x ch,(mds x ch).isEmpty⟩]
def mds(x:It):List Pt->List Nd
 |[]=>[]
 |p::r=>md x p++mds x r
end
def iV(x:It)(p:Pt)(key:Bs)(ch:List Nd)(e:Bool):Nd:=⟨1,p.t,key,p.s.map (bI x),false,[],ch,e⟩
theorem Yj(x:It)(p:Pt):md x p=if p.k=2 then[bV p.x]else if p.k=3 then[bV x.x]else if p.k=4 then[bV (dec x.k.toNat)]
 else if p.k=5 then x.m.map λm=>iV x p m [bV m] true else[iV x p p.y (mds x p.ch) (mds x p.ch).isEmpty]:=by cases p;rw[md];rfl
mutual
theorem ajE(x:It):∀(p:Pt),Okp p->(mk x p).map Nd.z=(md x p).map Nd.z
 |⟨k,t,y,s,se,tx,ch,ce⟩,h=>by
  have hk:=Wv (by cases h;assumption:qE ⟨k,t,y,s,se,tx,ch,ce⟩=true);have hm:∀m∈ch,Okp m:=by cases h;assumption
  have ih:=Zd x ch hm;rw[mk,md];simp only at hk;rcases hk with rfl | rfl | rfl | rfl | rfl
  ·simp[Nd.aiV,ih]
  ·simp
  ·simp
  ·simp
  ·simp[Nd.aiV]
theorem Zd(x:It):∀(l:List Pt),(∀m∈l,Okp m)->(mks x l).map Nd.z=(mds x l).map Nd.z
 |[],_=>by rw[mks,mds]
 |p::r,h=>by rw[mks,mds,qWx,qWx,ajE x p (h p qqz),Zd x r λm hm=>h m (by simp[hm])]
end
theorem abT(x:It)(hx:x.m.length<=8)(p:Pt):(md x p).length<=8:=by rw[Yj];split<;>(try split)<;>(try split)<;>(try split)<;>(try split)<;>simp<;>omega
def zN:Nd:=⟨0,[],[],[],true,[],[],true⟩
def mkN(x:It)(p:Pt):Nd:=(mk x p).headD zN
def mdN(x:It)(p:Pt):Nd:=(md x p).headD zN
theorem akd(x:It)(p:Pt)(h:Okp p):(mkN x p).z=(mdN x p).z:=by have:=ajE x p h;unfold mkN mdN;cases h1:mk x p<;>cases h2:md x p<;>rw[h1,h2]at this<;>simp at this |-;exact this.1
def lT(p:Pt)(x:It)(most:Int):Int :=if most<1\/64<most then 1 else if qB p=0 then 14 else if Ak x=false then 6 else if cnt (mkN x p)=0\/most<cnt (mkN x p)then 14 else 0
def A8(p:Pt)(x:It)(most:Int):Nd:=if lT p x most=0 then mkN x p else zN
def Uk(p:Pt)(x:It)(most:Int):Nd:=if lT p x most=0 then mdN x p else zN
theorem afh{p:Pt}(hf:fZ p){x:It}{most:Int}(h:lT p x most=0):Okp p:=by unfold lT at h;refine KG hf λq=>?_;rw[qzq q]at h;split at h<;>cases h
theorem aei(p:Pt)(hf:fZ p)(x:It)(most:Int):(A8 p x most).z=(Uk p x most).z:=by
 unfold A8 Uk;split
 ·exact akd x p (afh hf ‹_›)
 ·rfl
end Go.D
end
section
namespace Go.D
open Go Go.Pav Go.Pw P
attribute [-simp] List.getElem_cons_drop
variable {C:aJ}
structure rM(C:aJ):Prop extends ajk C,Oa C where
 ale:GwC C 547 aib
 amS:GwC C 513 Vs
 al8:GwC C 501 LP
 akC:GwC C 425 LU
@[simp] theorem Nd.aov(n:Nd)(k:Nat):n.c.any (dG (k+1))=true:=by rw[Nd.bU];rfl
@[simp] theorem Nd.ani(n:Nd)(k:Nat):(∃x,x∈n.c/\dG (k+1) x=true)=True:=by refine qQz ⟨.ro 2 (n.a.map eA) n.ae,?_,rfl⟩;rw[Nd.bU];simp
theorem aiE(H:rM C)(x:It)(hk:0<=x.k/\x.k<18446744073709551616)(hm:x.m.length<=8)(l:List Pt)(e:Bool)(hl:l.length<=16)(p:Pt)(hp:qE p=true/\Fits p)(hk5:p.k=5)(i:Nat)(hi:i<l.length)
 (hnext:∀G:List Nd,G.length<=8*(i+1)->kE C ⟨[(12,.int .i64 ((i:Int)+1)),(11,.int .i64 l.length),(10,.ro 6 (l.map Pt.c) e),(5,.sl 0 6 0 G.length G.length false),(2,.ptr 1 0 0)],[(0,.cells 6 (G.map Nd.c) true true),(1,.cells 4 [[.int .u64 x.k,.int .u8 x.t,.str x.x,.ro 1 (x.m.map eS) x.e]] true true)],2⟩ =
  some (.ro 6 ((G++mks x (l.drop (i+1))).map Nd.c) false)):∀n k,n+k=x.m.length->∀G:List Nd,G.length<=8*i+k ->
 GH C ⟨[(65,.int .i64 k),(64,.int .i64 x.m.length),(63,.ro 1 (x.m.map eS) x.e),(12,.int .i64 i),(11,.int .i64 l.length),(10,.ro 6 (l.map Pt.c) e),(7,.ptr 0 0 0),(5,.sl 1 6 0 G.length G.length false),(2,.ptr 2 0 0)],[(0,.cells 6 [p.c] true true),(1,.cells 6 (G.map Nd.c) true true),(2,.cells 4 [[.int .u64 x.k,.int .u8 x.t,.str x.x,.ro 1 (x.m.map eS) x.e]] true true)],3⟩ =
  some (.ro 6 ((G++(x.m.drop k).map (λm=>zA x p m [bV m])++mks x (l.drop (i+1))).map Nd.c) false):=by
 intro n;induction n with
 |zero=>
  intro k hk2 G hG;have h1:x.m.drop k=[]:=qzx qqq;have h3:¬k<x.m.length:=by omega
  have:=hnext G qqq;simp only[kE]at this;simp at this;simp only[GH];rw[au Ap.eq_1];simp(disch:=omega) [au rC.eq_1,h1,h3,aK,this]
 |succ n ih=>
  intro k hk2 G hG;have h1:k<x.m.length:=by omega
  have hs:=Xr hp.1;have he:=Lm H.toajk x hk qqq p hs.1 (λs q=>⟨hp.2.f s q,hs.2 s q⟩) x.m[k] [bV x.m[k]] true;have hw:=yE H.toajk x.m[k];have:=ih (k+1) qqq (G++[zA x p x.m[k] [bV x.m[k]]]) qqx;have hfit:(G.length+1)*105<=35184372088832:=by omega
  rw[drop_cons h1];simp only[GH]at this |-;rw[au Ap.eq_1];simp at this;simp at he;simp(disch:=omega) [h1,aK,hfit,hw,he,H.kk,this]
theorem aaK(H:rM C)(x:It)(hk:0<=x.k/\x.k<18446744073709551616)(hm:x.m.length<=8)(l:List Pt)(e:Bool)(hl:l.length<=16)(ho:∀p∈l,Okp p)
 (ih:∀p∈l,FnW C 547 [eIt x,.ro 6 (p.ch.map Pt.c) p.ce]=some (.ro 6 ((mks x p.ch).map Nd.c) false)):∀n i,n+i=l.length->∀G:List Nd,G.length<=8*i ->
 kE C ⟨[(12,.int .i64 i),(11,.int .i64 l.length),(10,.ro 6 (l.map Pt.c) e),(5,.sl 0 6 0 G.length G.length false),(2,.ptr 1 0 0)],[(0,.cells 6 (G.map Nd.c) true true),(1,.cells 4 [[.int .u64 x.k,.int .u8 x.t,.str x.x,.ro 1 (x.m.map eS) x.e]] true true)],2⟩ =
  some (.ro 6 ((G++mks x (l.drop i)).map Nd.c) false):=by
 intro n;induction n with
 |zero=>
  intro i hi G hG;have h1:l.drop i=[]:=qzx qqq;have h3:¬i<l.length:=by omega
  simp only[kE];rw[au oJ.eq_1];cases G with
  |nil=>simp[au Bh.eq_1,h1,h3,mks]
  |cons g G=>simp(disch:=(first | omega | (simp;done) | (simp;omega))) [au Bh.eq_1,h1,h3,mks,qxz]
 |succ n ihn=>
  intro i hi G hG;have h1:i<l.length:=by omega
  have hp:=ho _ (qxq h1);have hpo:qE l[i]=true:=by cases hp;assumption
  have hpf:Fits l[i]:=by cases hp;assumption
  have hs:=Xr hpo;have hnext:∀G:List Nd,G.length<=8*(i+1)->kE C ⟨[(12,.int .i64 ((i:Int)+1)),(11,.int .i64 l.length),(10,.ro 6 (l.map Pt.c) e),(5,.sl 0 6 0 G.length G.length false),(2,.ptr 1 0 0)],[(0,.cells 6 (G.map Nd.c) true true),(1,.cells 4 [[.int .u64 x.k,.int .u8 x.t,.str x.x,.ro 1 (x.m.map eS) x.e]] true true)],2⟩ = some (.ro 6 ((G++mks x (l.drop (i+1))).map Nd.c) false):=λG q=>by have:=ihn (i+1) qqq G q;simpa using this
  have hfit:(G.length+1)*105<=35184372088832:=by omega
  rw[drop_cons h1,mks];have step:∀N:Nd,kE C ⟨[(12,.int .i64 ((i:Int)+1)),(11,.int .i64 l.length),(10,.ro 6 (l.map Pt.c) e),(5,.sl 0 6 0 (G.length+1) (G.length+1) false),(2,.ptr 1 0 0)],[(0,.cells 6 (G.map Nd.c++[N.c]) true true),(1,.cells 4 [[.int .u64 x.k,.int .u8 x.t,.str x.x,.ro 1 (x.m.map eS) x.e]] true true)],2⟩ = some (.ro 6 ((G++([N]++mks x (l.drop (i+1)))).map Nd.c) false):=λN=>by have:=hnext (G++[N]) qqx;simpa using this
  rcases Wv hpo with k1 | k1 | k1 | k1 | k1
  ·have he:=Lm H.toajk x hk qqq l[i] hs.1 (λs q=>⟨hpf.f s q,hs.2 s q⟩) l[i].y (mks x l[i].ch) false;have hr:=ih _ (qxq h1);have:=step (zA x l[i] l[i].y (mks x l[i].ch));have hq:mk x l[i]=[zA x l[i] l[i].y (mks x l[i].ch)]:=by rw[mk_eq,qzq k1]
   rw[hq];simp only[kE]at this |-;rw[au oJ.eq_1];simp at this;simp(disch:=omega) [au rC.eq_1,h1,k1,aK,hfit,he,hr,H.kk,this]
  ·have hw:=yE H.toajk l[i].x;have:=step (bV l[i].x);have hq:mk x l[i]=[bV l[i].x]:=by rw[mk_eq,qwx qqq,qzq k1]
   rw[hq];simp only[kE]at this |-;rw[au oJ.eq_1];simp at this;simp(disch:=omega) [au rC.eq_1,h1,k1,aK,hfit,hw,H.kk,this]
  ·have hw:=yE H.toajk x.x;have:=step (bV x.x);have hq:mk x l[i]=[bV x.x]:=by rw[mk_eq,qwx qqq,qwx qqq,qzq k1]
   rw[hq];simp only[kE]at this |-;rw[au oJ.eq_1];simp at this;simp(disch:=omega) [au rC.eq_1,h1,k1,aK,hfit,hw,H.kk,this]
  ·obtain⟨k,hk2⟩:∃k:Nat,x.k=k:=⟨x.k.toNat,by omega⟩;have hd:=Oq H.toadW k qqq;have hw:=yE H.toajk (dec x.k.toNat);have:=step (bV (dec x.k.toNat));have hq:mk x l[i]=[bV (dec x.k.toNat)]:=by rw[mk_eq,qwx qqq,qwx qqq,qwx qqq,qzq k1]
   rw[hq];rw[hk2]at this hw |-;simp only[kE]at this |-;rw[au oJ.eq_1];simp at this hw;simp(disch:=omega) [au rC.eq_1,h1,k1,aK,hfit,hd,hw,H.kk,this]
  ·have:=aiE H x hk hm l e hl l[i] ⟨hpo,hpf⟩ k1 i h1 hnext x.m.length 0 qqz G qqq;have hq:mk x l[i]=x.m.map λm=>zA x l[i] m [bV m]:=by rw[mk_eq,qwx qqq,qwx qqq,qwx qqq,qwx qqq,qzq k1]
   rw[hq,<- q2j];rw[qjz]at this;generalize G++List.map (λm=>zA x l[i] m [bV m]) x.m++mks x (l.drop (i+1))=R at *;simp only[kE];simp only[GH]at this;rw[au oJ.eq_1];simp at this;simp(disch:=omega) [au rC.eq_1,h1,k1,aK,H.kk,this]
theorem MP(H:rM C)(x:It)(hk:0<=x.k/\x.k<18446744073709551616)(hm:x.m.length<=8)(l:List Pt)(e:Bool)(hl:l.length<=16)(ho:∀p∈l,Okp p)
 (ih:∀p∈l,FnW C 547 [eIt x,.ro 6 (p.ch.map Pt.c) p.ce]=some (.ro 6 ((mks x p.ch).map Nd.c) false)):FnW C 547 [eIt x,.ro 6 (l.map Pt.c) e]=some (.ro 6 ((mks x l).map Nd.c) false):=by
 have h:=aaK H x hk hm l e hl ho ih l.length 0 qqz [] qqz;simp only[kE]at h;simp at h;rw[aN H.ale rfl];simp[aib,h]
theorem Vh(H:rM C)(x:It)(hk:0<=x.k/\x.k<18446744073709551616)(hm:x.m.length<=8)(p:Pt)(hp:Okp p):FnW C 547 [eIt x,.ro 6 (p.ch.map Pt.c) p.ce]=some (.ro 6 ((mks x p.ch).map Nd.c) false):=by
 have ho:∀m∈p.ch,Okp m:=by cases hp;assumption
 have hl:p.ch.length<=16:=CJ (by cases hp;assumption);exact MP H x hk hm p.ch p.ce hl ho λm q=>Vh H x hk hm m (ho m q)
termination_by SizeOf.sizeOf p
decreasing_by
 have:=qnx q;have:=Pt.xR p;omega
theorem ahM(H:rM C)(x:It)(hk:0<=x.k/\x.k<18446744073709551616)(hm:x.m.length<=8)(l:List Pt)(e:Bool)(hl:l.length<=16)(ho:∀p∈l,Okp p) :
 FnW C 547 [eIt x,.ro 6 (l.map Pt.c) e]=some (.ro 6 ((mks x l).map Nd.c) false) :=
 MP H x hk hm l e hl ho λm q=>Vh H x hk hm m (ho m q)
theorem dL(x:It)(p:Pt)(m:Bs):(iV x p m [bV m] true).c=[.int .u8 1,.str p.t,.str m,.ro 2 ((p.s.map (bI x)).map eA) false,.str [],.ro 6 [[.int .u8 2,.str [],.str [],.ro 2 [] true,.str m,.ro 6 [] true]] true]:=by rw[Nd.bU];simp only[iV,qvj,qgz];rw[Nd.bU];simp[bV]
theorem agH(H:rM C)(x:It)(hk:0<=x.k/\x.k<18446744073709551616)(hl8:x.m.length<=8)(p:Pt)(hl:p.s.length<=8)(m1 m2 m3 m4 m5 m6 m7 m8:Bs)(r:List Bs)(hm:x.m=[m1,m2,m3,m4,m5,m6,m7,m8]++r) :
 dF C ⟨[(6,.int .i64 8),(5,.sl 0 6 0 8 8 false),(3,.ptr 9 0 0),(2,.ptr 10 0 0)],[(0,.cells 6 [[.int .u8 1,.str p.t,.str m1,.ro 2 ((p.s.map (bI x)).map eA) false,.str [],.sl 1 6 0 1 1 true],[.int .u8 1,.str p.t,.str m2,.ro 2 ((p.s.map (bI x)).map eA) false,.str [],.sl 2 6 0 1 1 true],[.int .u8 1,.str p.t,.str m3,.ro 2 ((p.s.map (bI x)).map eA) false,.str [],.sl 3 6 0 1 1 true],[.int .u8 1,.str p.t,.str m4,.ro 2 ((p.s.map (bI x)).map eA) false,.str [],.sl 4 6 0 1 1 true],[.int .u8 1,.str p.t,.str m5,.ro 2 ((p.s.map (bI x)).map eA) false,.str [],.sl 5 6 0 1 1 true],[.int .u8 1,.str p.t,.str m6,.ro 2 ((p.s.map (bI x)).map eA) false,.str [],.sl 6 6 0 1 1 true],[.int .u8 1,.str p.t,.str m7,.ro 2 ((p.s.map (bI x)).map eA) false,.str [],.sl 7 6 0 1 1 true],[.int .u8 1,.str p.t,.str m8,.ro 2 ((p.s.map (bI x)).map eA) false,.str [],.sl 8 6 0 1 1 true]] true false),(1,.cells 6 [[.int .u8 2,.str [],.str [],.ro 2 [] true,.str m1,.ro 6 [] true]] true true),(2,.cells 6 [[.int .u8 2,.str [],.str [],.ro 2 [] true,.str m2,.ro 6 [] true]] true true),(3,.cells 6 [[.int .u8 2,.str [],.str [],.ro 2 [] true,.str m3,.ro 6 [] true]] true true),(4,.cells 6 [[.int .u8 2,.str [],.str [],.ro 2 [] true,.str m4,.ro 6 [] true]] true true),(5,.cells 6 [[.int .u8 2,.str [],.str [],.ro 2 [] true,.str m5,.ro 6 [] true]] true true),(6,.cells 6 [[.int .u8 2,.str [],.str [],.ro 2 [] true,.str m6,.ro 6 [] true]] true true),(7,.cells 6 [[.int .u8 2,.str [],.str [],.ro 2 [] true,.str m7,.ro 6 [] true]] true true),(8,.cells 6 [[.int .u8 2,.str [],.str [],.ro 2 [] true,.str m8,.ro 6 [] true]] true true),(9,.cells 4 [[.int .u64 x.k,.int .u8 x.t,.str x.x,.ro 1 (x.m.map eS) x.e]] true true),(10,.cells 6 [p.c] true true)],11⟩ =
  some (.ro 6 (([m1,m2,m3,m4,m5,m6,m7,m8]++r).map λm=>(iV x p m [bV m] true).c) false):=by
 simp only[dF];rw[au kD.eq_1];have hxl:x.m.length=8+r.length:=by rw[hm];simp;omega
 cases r with
 |nil=>simp at hxl;simp[au lJ.eq_1,hxl,dL]
 |cons m9 r=>simp at hxl;omega
theorem ahR(H:rM C)(x:It)(hk:0<=x.k/\x.k<18446744073709551616)(hl8:x.m.length<=8)(p:Pt)(hl:p.s.length<=8)(m1 m2 m3 m4 m5 m6 m7:Bs)(r:List Bs)(hm:x.m=[m1,m2,m3,m4,m5,m6,m7]++r) :
 dF C ⟨[(6,.int .i64 7),(5,.sl 0 6 0 7 7 false),(3,.ptr 8 0 0),(2,.ptr 9 0 0)],[(0,.cells 6 [[.int .u8 1,.str p.t,.str m1,.ro 2 ((p.s.map (bI x)).map eA) false,.str [],.sl 1 6 0 1 1 true],[.int .u8 1,.str p.t,.str m2,.ro 2 ((p.s.map (bI x)).map eA) false,.str [],.sl 2 6 0 1 1 true],[.int .u8 1,.str p.t,.str m3,.ro 2 ((p.s.map (bI x)).map eA) false,.str [],.sl 3 6 0 1 1 true],[.int .u8 1,.str p.t,.str m4,.ro 2 ((p.s.map (bI x)).map eA) false,.str [],.sl 4 6 0 1 1 true],[.int .u8 1,.str p.t,.str m5,.ro 2 ((p.s.map (bI x)).map eA) false,.str [],.sl 5 6 0 1 1 true],[.int .u8 1,.str p.t,.str m6,.ro 2 ((p.s.map (bI x)).map eA) false,.str [],.sl 6 6 0 1 1 true],[.int .u8 1,.str p.t,.str m7,.ro 2 ((p.s.map (bI x)).map eA) false,.str [],.sl 7 6 0 1 1 true]] true false),(1,.cells 6 [[.int .u8 2,.str [],.str [],.ro 2 [] true,.str m1,.ro 6 [] true]] true true),(2,.cells 6 [[.int .u8 2,.str [],.str [],.ro 2 [] true,.str m2,.ro 6 [] true]] true true),(3,.cells 6 [[.int .u8 2,.str [],.str [],.ro 2 [] true,.str m3,.ro 6 [] true]] true true),(4,.cells 6 [[.int .u8 2,.str [],.str [],.ro 2 [] true,.str m4,.ro 6 [] true]] true true),(5,.cells 6 [[.int .u8 2,.str [],.str [],.ro 2 [] true,.str m5,.ro 6 [] true]] true true),(6,.cells 6 [[.int .u8 2,.str [],.str [],.ro 2 [] true,.str m6,.ro 6 [] true]] true true),(7,.cells 6 [[.int .u8 2,.str [],.str [],.ro 2 [] true,.str m7,.ro 6 [] true]] true true),(8,.cells 4 [[.int .u64 x.k,.int .u8 x.t,.str x.x,.ro 1 (x.m.map eS) x.e]] true true),(9,.cells 6 [p.c] true true)],10⟩ =
  some (.ro 6 (([m1,m2,m3,m4,m5,m6,m7]++r).map λm=>(iV x p m [bV m] true).c) false):=by
 simp only[dF];rw[au kD.eq_1];have hxl:x.m.length=7+r.length:=by rw[hm];simp;omega
 cases r with
 |nil=>simp at hxl;simp[au lJ.eq_1,hxl,dL]
 |cons m8 r=>
  have h1:7<x.m.length:=by rw[hxl];simp
  have hg:x.m[7]=m8:=by
   have q:x.m[7]?=some m8:=by rw[hm];simp
   rw[qqj h1]at q;exact qkq q
  have ha:=jJ H.toac5 x hk qqq p.s p.se hl;have this:=agH H x hk hl8 p hl m1 m2 m3 m4 m5 m6 m7 m8 r (by rw[hm];simp);simp only[dF]at this;simp[dL]at this;have h2:(7:Int)<x.m.length:=by omega
  simp(disch:=omega) [h1,h2,hg,aK,dL,ha,H.kk,this]
theorem aji(H:rM C)(x:It)(hk:0<=x.k/\x.k<18446744073709551616)(hl8:x.m.length<=8)(p:Pt)(hl:p.s.length<=8)(m1 m2 m3 m4 m5 m6:Bs)(r:List Bs)(hm:x.m=[m1,m2,m3,m4,m5,m6]++r) :
 dF C ⟨[(6,.int .i64 6),(5,.sl 0 6 0 6 6 false),(3,.ptr 7 0 0),(2,.ptr 8 0 0)],[(0,.cells 6 [[.int .u8 1,.str p.t,.str m1,.ro 2 ((p.s.map (bI x)).map eA) false,.str [],.sl 1 6 0 1 1 true],[.int .u8 1,.str p.t,.str m2,.ro 2 ((p.s.map (bI x)).map eA) false,.str [],.sl 2 6 0 1 1 true],[.int .u8 1,.str p.t,.str m3,.ro 2 ((p.s.map (bI x)).map eA) false,.str [],.sl 3 6 0 1 1 true],[.int .u8 1,.str p.t,.str m4,.ro 2 ((p.s.map (bI x)).map eA) false,.str [],.sl 4 6 0 1 1 true],[.int .u8 1,.str p.t,.str m5,.ro 2 ((p.s.map (bI x)).map eA) false,.str [],.sl 5 6 0 1 1 true],[.int .u8 1,.str p.t,.str m6,.ro 2 ((p.s.map (bI x)).map eA) false,.str [],.sl 6 6 0 1 1 true]] true false),(1,.cells 6 [[.int .u8 2,.str [],.str [],.ro 2 [] true,.str m1,.ro 6 [] true]] true true),(2,.cells 6 [[.int .u8 2,.str [],.str [],.ro 2 [] true,.str m2,.ro 6 [] true]] true true),(3,.cells 6 [[.int .u8 2,.str [],.str [],.ro 2 [] true,.str m3,.ro 6 [] true]] true true),(4,.cells 6 [[.int .u8 2,.str [],.str [],.ro 2 [] true,.str m4,.ro 6 [] true]] true true),(5,.cells 6 [[.int .u8 2,.str [],.str [],.ro 2 [] true,.str m5,.ro 6 [] true]] true true),(6,.cells 6 [[.int .u8 2,.str [],.str [],.ro 2 [] true,.str m6,.ro 6 [] true]] true true),(7,.cells 4 [[.int .u64 x.k,.int .u8 x.t,.str x.x,.ro 1 (x.m.map eS) x.e]] true true),(8,.cells 6 [p.c] true true)],9⟩ =
  some (.ro 6 (([m1,m2,m3,m4,m5,m6]++r).map λm=>(iV x p m [bV m] true).c) false):=by
 simp only[dF];rw[au kD.eq_1];have hxl:x.m.length=6+r.length:=by rw[hm];simp;omega
 cases r with
 |nil=>simp at hxl;simp[au lJ.eq_1,hxl,dL]
 |cons m7 r=>
  have h1:6<x.m.length:=by rw[hxl];simp
  have hg:x.m[6]=m7:=by
   have q:x.m[6]?=some m7:=by rw[hm];simp
   rw[qqj h1]at q;exact qkq q
  have ha:=jJ H.toac5 x hk qqq p.s p.se hl;have this:=ahR H x hk hl8 p hl m1 m2 m3 m4 m5 m6 m7 r (by rw[hm];simp);simp only[dF]at this;simp[dL]at this;have h2:(6:Int)<x.m.length:=by omega
  simp(disch:=omega) [h1,h2,hg,aK,dL,ha,H.kk,this]
theorem agI(H:rM C)(x:It)(hk:0<=x.k/\x.k<18446744073709551616)(hl8:x.m.length<=8)(p:Pt)(hl:p.s.length<=8)(m1 m2 m3 m4 m5:Bs)(r:List Bs)(hm:x.m=[m1,m2,m3,m4,m5]++r) :
 dF C ⟨[(6,.int .i64 5),(5,.sl 0 6 0 5 5 false),(3,.ptr 6 0 0),(2,.ptr 7 0 0)],[(0,.cells 6 [[.int .u8 1,.str p.t,.str m1,.ro 2 ((p.s.map (bI x)).map eA) false,.str [],.sl 1 6 0 1 1 true],[.int .u8 1,.str p.t,.str m2,.ro 2 ((p.s.map (bI x)).map eA) false,.str [],.sl 2 6 0 1 1 true],[.int .u8 1,.str p.t,.str m3,.ro 2 ((p.s.map (bI x)).map eA) false,.str [],.sl 3 6 0 1 1 true],[.int .u8 1,.str p.t,.str m4,.ro 2 ((p.s.map (bI x)).map eA) false,.str [],.sl 4 6 0 1 1 true],[.int .u8 1,.str p.t,.str m5,.ro 2 ((p.s.map (bI x)).map eA) false,.str [],.sl 5 6 0 1 1 true]] true false),(1,.cells 6 [[.int .u8 2,.str [],.str [],.ro 2 [] true,.str m1,.ro 6 [] true]] true true),(2,.cells 6 [[.int .u8 2,.str [],.str [],.ro 2 [] true,.str m2,.ro 6 [] true]] true true),(3,.cells 6 [[.int .u8 2,.str [],.str [],.ro 2 [] true,.str m3,.ro 6 [] true]] true true),(4,.cells 6 [[.int .u8 2,.str [],.str [],.ro 2 [] true,.str m4,.ro 6 [] true]] true true),(5,.cells 6 [[.int .u8 2,.str [],.str [],.ro 2 [] true,.str m5,.ro 6 [] true]] true true),(6,.cells 4 [[.int .u64 x.k,.int .u8 x.t,.str x.x,.ro 1 (x.m.map eS) x.e]] true true),(7,.cells 6 [p.c] true true)],8⟩ =
  some (.ro 6 (([m1,m2,m3,m4,m5]++r).map λm=>(iV x p m [bV m] true).c) false):=by
 simp only[dF];rw[au kD.eq_1];have hxl:x.m.length=5+r.length:=by rw[hm];simp;omega
 cases r with
 |nil=>simp at hxl;simp[au lJ.eq_1,hxl,dL]
 |cons m6 r=>
  have h1:5<x.m.length:=by rw[hxl];simp
  have hg:x.m[5]=m6:=by
   have q:x.m[5]?=some m6:=by rw[hm];simp
   rw[qqj h1]at q;exact qkq q
  have ha:=jJ H.toac5 x hk qqq p.s p.se hl;have this:=aji H x hk hl8 p hl m1 m2 m3 m4 m5 m6 r (by rw[hm];simp);simp only[dF]at this;simp[dL]at this;have h2:(5:Int)<x.m.length:=by omega
  simp(disch:=omega) [h1,h2,hg,aK,dL,ha,H.kk,this]
theorem agJ(H:rM C)(x:It)(hk:0<=x.k/\x.k<18446744073709551616)(hl8:x.m.length<=8)(p:Pt)(hl:p.s.length<=8)(m1 m2 m3 m4:Bs)(r:List Bs)(hm:x.m=[m1,m2,m3,m4]++r) :
 dF C ⟨[(6,.int .i64 4),(5,.sl 0 6 0 4 4 false),(3,.ptr 5 0 0),(2,.ptr 6 0 0)],[(0,.cells 6 [[.int .u8 1,.str p.t,.str m1,.ro 2 ((p.s.map (bI x)).map eA) false,.str [],.sl 1 6 0 1 1 true],[.int .u8 1,.str p.t,.str m2,.ro 2 ((p.s.map (bI x)).map eA) false,.str [],.sl 2 6 0 1 1 true],[.int .u8 1,.str p.t,.str m3,.ro 2 ((p.s.map (bI x)).map eA) false,.str [],.sl 3 6 0 1 1 true],[.int .u8 1,.str p.t,.str m4,.ro 2 ((p.s.map (bI x)).map eA) false,.str [],.sl 4 6 0 1 1 true]] true false),(1,.cells 6 [[.int .u8 2,.str [],.str [],.ro 2 [] true,.str m1,.ro 6 [] true]] true true),(2,.cells 6 [[.int .u8 2,.str [],.str [],.ro 2 [] true,.str m2,.ro 6 [] true]] true true),(3,.cells 6 [[.int .u8 2,.str [],.str [],.ro 2 [] true,.str m3,.ro 6 [] true]] true true),(4,.cells 6 [[.int .u8 2,.str [],.str [],.ro 2 [] true,.str m4,.ro 6 [] true]] true true),(5,.cells 4 [[.int .u64 x.k,.int .u8 x.t,.str x.x,.ro 1 (x.m.map eS) x.e]] true true),(6,.cells 6 [p.c] true true)],7⟩ =
  some (.ro 6 (([m1,m2,m3,m4]++r).map λm=>(iV x p m [bV m] true).c) false):=by
 simp only[dF];rw[au kD.eq_1];have hxl:x.m.length=4+r.length:=by rw[hm];simp;omega
 cases r with
 |nil=>simp at hxl;simp[au lJ.eq_1,hxl,dL]
 |cons m5 r=>
  have h1:4<x.m.length:=by rw[hxl];simp
  have hg:x.m[4]=m5:=by
   have q:x.m[4]?=some m5:=by rw[hm];simp
   rw[qqj h1]at q;exact qkq q
  have ha:=jJ H.toac5 x hk qqq p.s p.se hl;have this:=agI H x hk hl8 p hl m1 m2 m3 m4 m5 r (by rw[hm];simp);simp only[dF]at this;simp[dL]at this;have h2:(4:Int)<x.m.length:=by omega
  simp(disch:=omega) [h1,h2,hg,aK,dL,ha,H.kk,this]
theorem aiY(H:rM C)(x:It)(hk:0<=x.k/\x.k<18446744073709551616)(hl8:x.m.length<=8)(p:Pt)(hl:p.s.length<=8)(m1 m2 m3:Bs)(r:List Bs)(hm:x.m=[m1,m2,m3]++r) :
 dF C ⟨[(6,.int .i64 3),(5,.sl 0 6 0 3 3 false),(3,.ptr 4 0 0),(2,.ptr 5 0 0)],[(0,.cells 6 [[.int .u8 1,.str p.t,.str m1,.ro 2 ((p.s.map (bI x)).map eA) false,.str [],.sl 1 6 0 1 1 true],[.int .u8 1,.str p.t,.str m2,.ro 2 ((p.s.map (bI x)).map eA) false,.str [],.sl 2 6 0 1 1 true],[.int .u8 1,.str p.t,.str m3,.ro 2 ((p.s.map (bI x)).map eA) false,.str [],.sl 3 6 0 1 1 true]] true false),(1,.cells 6 [[.int .u8 2,.str [],.str [],.ro 2 [] true,.str m1,.ro 6 [] true]] true true),(2,.cells 6 [[.int .u8 2,.str [],.str [],.ro 2 [] true,.str m2,.ro 6 [] true]] true true),(3,.cells 6 [[.int .u8 2,.str [],.str [],.ro 2 [] true,.str m3,.ro 6 [] true]] true true),(4,.cells 4 [[.int .u64 x.k,.int .u8 x.t,.str x.x,.ro 1 (x.m.map eS) x.e]] true true),(5,.cells 6 [p.c] true true)],6⟩ =
  some (.ro 6 (([m1,m2,m3]++r).map λm=>(iV x p m [bV m] true).c) false):=by
 simp only[dF];rw[au kD.eq_1];have hxl:x.m.length=3+r.length:=by rw[hm];simp;omega
 cases r with
 |nil=>simp at hxl;simp[au lJ.eq_1,hxl,dL]
 |cons m4 r=>
  have h1:3<x.m.length:=by rw[hxl];simp
  have hg:x.m[3]=m4:=by
   have q:x.m[3]?=some m4:=by rw[hm];simp
   rw[qqj h1]at q;exact qkq q
  have ha:=jJ H.toac5 x hk qqq p.s p.se hl;have this:=agJ H x hk hl8 p hl m1 m2 m3 m4 r (by rw[hm];simp);simp only[dF]at this;simp[dL]at this;have h2:(3:Int)<x.m.length:=by omega
  simp(disch:=omega) [h1,h2,hg,aK,dL,ha,H.kk,this]
theorem ahv(H:rM C)(x:It)(hk:0<=x.k/\x.k<18446744073709551616)(hl8:x.m.length<=8)(p:Pt)(hl:p.s.length<=8)(m1 m2:Bs)(r:List Bs)(hm:x.m=[m1,m2]++r) :
 dF C ⟨[(6,.int .i64 2),(5,.sl 0 6 0 2 2 false),(3,.ptr 3 0 0),(2,.ptr 4 0 0)],[(0,.cells 6 [[.int .u8 1,.str p.t,.str m1,.ro 2 ((p.s.map (bI x)).map eA) false,.str [],.sl 1 6 0 1 1 true],[.int .u8 1,.str p.t,.str m2,.ro 2 ((p.s.map (bI x)).map eA) false,.str [],.sl 2 6 0 1 1 true]] true false),(1,.cells 6 [[.int .u8 2,.str [],.str [],.ro 2 [] true,.str m1,.ro 6 [] true]] true true),(2,.cells 6 [[.int .u8 2,.str [],.str [],.ro 2 [] true,.str m2,.ro 6 [] true]] true true),(3,.cells 4 [[.int .u64 x.k,.int .u8 x.t,.str x.x,.ro 1 (x.m.map eS) x.e]] true true),(4,.cells 6 [p.c] true true)],5⟩ =
  some (.ro 6 (([m1,m2]++r).map λm=>(iV x p m [bV m] true).c) false):=by
 simp only[dF];rw[au kD.eq_1];have hxl:x.m.length=2+r.length:=by rw[hm];simp;omega
 cases r with
 |nil=>simp at hxl;simp[au lJ.eq_1,hxl,dL]
 |cons m3 r=>
  have h1:2<x.m.length:=by rw[hxl];simp
  have hg:x.m[2]=m3:=by
   have q:x.m[2]?=some m3:=by rw[hm];simp
   rw[qqj h1]at q;exact qkq q
  have ha:=jJ H.toac5 x hk qqq p.s p.se hl;have this:=aiY H x hk hl8 p hl m1 m2 m3 r (by rw[hm];simp);simp only[dF]at this;simp[dL]at this;have h2:(2:Int)<x.m.length:=by omega
  simp(disch:=omega) [h1,h2,hg,aK,dL,ha,H.kk,this]
theorem aiz(H:rM C)(x:It)(hk:0<=x.k/\x.k<18446744073709551616)(hl8:x.m.length<=8)(p:Pt)(hl:p.s.length<=8)(m1:Bs)(r:List Bs)(hm:x.m=[m1]++r) :
 dF C ⟨[(6,.int .i64 1),(5,.sl 0 6 0 1 1 false),(3,.ptr 2 0 0),(2,.ptr 3 0 0)],[(0,.cells 6 [[.int .u8 1,.str p.t,.str m1,.ro 2 ((p.s.map (bI x)).map eA) false,.str [],.sl 1 6 0 1 1 true]] true false),(1,.cells 6 [[.int .u8 2,.str [],.str [],.ro 2 [] true,.str m1,.ro 6 [] true]] true true),(2,.cells 4 [[.int .u64 x.k,.int .u8 x.t,.str x.x,.ro 1 (x.m.map eS) x.e]] true true),(3,.cells 6 [p.c] true true)],4⟩ =
  some (.ro 6 (([m1]++r).map λm=>(iV x p m [bV m] true).c) false):=by
 simp only[dF];rw[au kD.eq_1];have hxl:x.m.length=1+r.length:=by rw[hm];simp;omega
 cases r with
 |nil=>simp at hxl;simp[au lJ.eq_1,hxl,dL]
 |cons m2 r=>
  have h1:1<x.m.length:=by rw[hxl];simp
  have hg:x.m[1]=m2:=by
   have q:x.m[1]?=some m2:=by rw[hm];simp
   rw[qqj h1]at q;exact qkq q
  have ha:=jJ H.toac5 x hk qqq p.s p.se hl;have this:=ahv H x hk hl8 p hl m1 m2 r (by rw[hm];simp);simp only[dF]at this;simp[dL]at this;have h2:(1:Int)<x.m.length:=by omega
  simp(disch:=omega) [h1,h2,hg,aK,dL,ha,H.kk,this]
theorem ag7(H:rM C)(x:It)(hk:0<=x.k/\x.k<18446744073709551616)(hl8:x.m.length<=8)(p:Pt)(hl:p.s.length<=8)(r:List Bs)(hm:x.m=r) :
 dF C ⟨[(6,.int .i64 0),(5,.sl 0 6 0 0 0 false),(3,.ptr 1 0 0),(2,.ptr 2 0 0)],[(0,.cells 6 [] true true),(1,.cells 4 [[.int .u64 x.k,.int .u8 x.t,.str x.x,.ro 1 (x.m.map eS) x.e]] true true),(2,.cells 6 [p.c] true true)],3⟩ =
  some (.ro 6 (r.map λm=>(iV x p m [bV m] true).c) false):=by
 simp only[dF];rw[au kD.eq_1];have hxl:x.m.length=0+r.length:=by rw[hm];simp
 cases r with
 |nil=>simp at hxl;simp[au lJ.eq_1,hxl,dL]
 |cons m1 r=>
  have h1:0<x.m.length:=by rw[hxl];simp
  have hg:x.m[0]=m1:=by
   have q:x.m[0]?=some m1:=by rw[hm];simp
   rw[qqj h1]at q;exact qkq q
  have ha:=jJ H.toac5 x hk qqq p.s p.se hl;have this:=aiz H x hk hl8 p hl  m1 r (by rw[hm];simp);simp only[dF]at this;simp[dL]at this;have h2:(0:Int)<x.m.length:=by omega
  simp(disch:=omega) [h1,h2,hg,aK,dL,ha,H.kk,this]
def mdF(p:Pt):Bool:=decide (p.k≠5)
theorem agO(H:rM C)(x:It)(hk:0<=x.k/\x.k<18446744073709551616)(hm:x.m.length<=8)(p:Pt)(hl:p.ch.length<=16)
 (ih:∀m∈p.ch,FnW C 513 [.agg m.c,eIt x]=some (.ro 6 ((md x m).map Nd.c) (mdF m))):∀n i,n+i=p.ch.length->∀G:List Nd,G.length<=8*i ->
 oC C ⟨[(8,.int .i64 i),(7,.ptr 0 0 0),(3,.ptr 2 0 0),(2,.ptr 3 0 0)],[(0,.cells 6 [[.int .u8 1,.str p.t,.str p.y,.ro 2 ((p.s.map (bI x)).map eA) false,.str [],.sl 1 6 0 G.length G.length false]] true false),(1,.cells 6 (G.map Nd.c) true true),(2,.cells 4 [[.int .u64 x.k,.int .u8 x.t,.str x.x,.ro 1 (x.m.map eS) x.e]] true true),(3,.cells 6 [p.c] true true)],4⟩ =
  some (.ro 6 [(iV x p p.y (G++mds x (p.ch.drop i)) false).c] true):=by
 intro n;induction n with
 |zero=>
  intro i hi G hG;have h1:p.ch.drop i=[]:=qzx qqq;have h3:¬i<p.ch.length:=by omega
  have h4:List.take G.length (List.map Nd.c G)=List.map Nd.c G:=qxz qqz;have hw:(iV x p p.y G false).c=[.int .u8 1,.str p.t,.str p.y,.ro 2 ((p.s.map (bI x)).map eA) false,.str [],.ro 6 (G.map Nd.c) false]:=by rw[Nd.bU];rfl
  rw[h1,mds,qKz,hw];simp only[oC];rw[au oI.eq_1];simp(disch:=omega) [au H6.eq_1,h3,h4]
 |succ n ihn=>
  intro i hi G hG;have h1:i<p.ch.length:=by omega
  have hr:=ih _ (qxq h1);have hlen:=abT x hm p.ch[i];have:=ihn (i+1) qqq (G++md x p.ch[i]) qqx;have hfit:(G.length+(md x p.ch[i]).length)*105<=35184372088832:=by omega
  rw[drop_cons h1,mds,<- q2j];generalize (iV x p p.y (G++md x p.ch[i]++mds x (List.drop (i+1) p.ch)) false).c=R at *;by_cases hE:md x p.ch[i]=[]
  ·simp only[oC]at this |-;rw[au oI.eq_1];simp[hE]at this;simp(disch:=omega) [h1,aK,hr,hE,H.kk,this]
  ·simp only[oC]at this |-;rw[au oI.eq_1];simp at this;simp(disch:=omega) [h1,aK,hr,hE,isE hE,hfit,H.kk,this]
theorem adM(H:rM C)(x:It)(hk:0<=x.k/\x.k<18446744073709551616)(hm:x.m.length<=8)(p:Pt)(hl:p.ch.length<=16)
 (ih:∀m∈p.ch,FnW C 513 [.agg m.c,eIt x]=some (.ro 6 ((md x m).map Nd.c) (mdF m))):∀n i,n+i=p.ch.length ->
 oC C ⟨[(8,.int .i64 i),(7,.ptr 0 0 0),(3,.ptr 1 0 0),(2,.ptr 2 0 0)],[(0,.cells 6 [[.int .u8 1,.str p.t,.str p.y,.ro 2 ((p.s.map (bI x)).map eA) false,.str [],.ro 6 [] true]] true true),(1,.cells 4 [[.int .u64 x.k,.int .u8 x.t,.str x.x,.ro 1 (x.m.map eS) x.e]] true true),(2,.cells 6 [p.c] true true)],3⟩ =
  some (.ro 6 [(iV x p p.y (mds x (p.ch.drop i)) (mds x (p.ch.drop i)).isEmpty).c] true):=by
 intro n;induction n with
 |zero=>
  intro i hi;have h1:p.ch.drop i=[]:=qzx qqq;have h3:¬i<p.ch.length:=by omega
  have hw:(iV x p p.y [] true).c=[.int .u8 1,.str p.t,.str p.y,.ro 2 ((p.s.map (bI x)).map eA) false,.str [],.ro 6 [] true]:=by rw[Nd.bU];rfl
  rw[h1,mds,List.isEmpty_nil,hw];simp only[oC];rw[au oI.eq_1];simp(disch:=omega) [au H6.eq_1,h3]
 |succ n ihn=>
  intro i hi;have h1:i<p.ch.length:=by omega
  have hr:=ih _ (qxq h1);have hlen:=abT x hm p.ch[i];have hfit:((md x p.ch[i]).length)*105<=35184372088832:=by omega
  rw[drop_cons h1,mds];by_cases hE:md x p.ch[i]=[]
  ·have:=ihn (i+1) qqq;rw[hE,qYz];generalize (iV x p p.y (mds x (List.drop (i+1) p.ch)) (mds x (List.drop (i+1) p.ch)).isEmpty).c=R at *;simp only[oC]at this |-;rw[au oI.eq_1];simp at this;simp(disch:=omega) [h1,aK,hr,hE,H.kk,this]
  ·have:=agO H x hk hm p hl ih n (i+1) qqq (md x p.ch[i]) qqq;have he:(md x p.ch[i]++mds x (List.drop (i+1) p.ch)).isEmpty=false:=isE (by simp[hE]);rw[he];generalize (iV x p p.y (md x p.ch[i]++mds x (List.drop (i+1) p.ch)) false).c=R at *;simp only[oC]at this |-;rw[au oI.eq_1];simp at this;simp(disch:=omega) [h1,aK,hr,hE,isE hE,hfit,H.kk,this]
theorem Z5(H:rM C)(x:It)(hk:0<=x.k/\x.k<18446744073709551616)(hm:x.m.length<=8)(p:Pt)(hp:qE p=true)
 (ih:∀m∈p.ch,FnW C 513 [.agg m.c,eIt x]=some (.ro 6 ((md x m).map Nd.c) (mdF m))):FnW C 513 [.agg p.c,eIt x]=some (.ro 6 ((md x p).map Nd.c) (mdF p)):=by
 have hl:=CJ hp;have hs:=Xr hp;rw[aN H.amS rfl,Yj];unfold mdF;have hw:∀s:Bs,(bV s).c=[.int .u8 2,.str [],.str [],.ro 2 [] true,.str s,.ro 6 [] true]:=λs=>by rw[Nd.bU];rfl
 rcases Wv hp with k1 | k1 | k1 | k1 | k1
 ·have h:=adM H x hk hm p hl ih p.ch.length 0 qqz;have ha:=jJ H.toac5 x hk qqq p.s p.se hs.1;rw[qwx qqq,qwx qqq,qwx qqq,qwx qqq];rw[qjz]at h;simp only[qvj,qgz];generalize (iV x p p.y (mds x p.ch) (mds x p.ch).isEmpty).c=R at *;simp only[oC]at h;simp at h;simp[Vs,au Qv.eq_1,k1,ha,H.kk,h]
 ·simp[Vs,k1,hw]
 ·simp[Vs,k1,hw]
 ·obtain⟨k,hk2⟩:∃k:Nat,x.k=k:=⟨x.k.toNat,by omega⟩;have hd:=Sz H.toadW k qqq;simp[Vs,k1,hw,hk2,hd,H.kk]
 ·have h:=ag7 H x hk hm p hs.1 x.m rfl;rw[qwx qqq,qwx qqq,qwx qqq,qzq k1,qZz];have hq:(Nd.c ∘ λm=>iV x p m [bV m] true)=λm=>(iV x p m [bV m] true).c:=rfl;rw[hq];generalize List.map (λm=>(iV x p m [bV m] true).c) x.m=R at *;simp only[dF]at h;simp[Vs,k1,h]
theorem YP(H:rM C)(x:It)(hk:0<=x.k/\x.k<18446744073709551616)(hm:x.m.length<=8)(p:Pt)(hp:Okp p):FnW C 513 [.agg p.c,eIt x]=some (.ro 6 ((md x p).map Nd.c) (mdF p)):=by
 have ho:∀m∈p.ch,Okp m:=by cases hp;assumption
 exact Z5 H x hk hm p (by cases hp;assumption) λm q=>YP H x hk hm m (ho m q)
termination_by SizeOf.sizeOf p
decreasing_by
 have:=qnx q;have:=Pt.xR p;omega
theorem Ze{x:It}(h:Ak x=true):x.m.length<=8:=by unfold Ak at h;simp at h;exact h.2.1
theorem abw(H:rM C)(p:Pt)(hf:fZ p)(x:It)(hk:0<=x.k/\x.k<18446744073709551616)(most:Int) :
 FnW C 501 [.agg p.c,eIt x,.int .i64 most]=some (.tup [.agg (A8 p x most).c,.int .i64 (lT p x most)]):=by
 have hz:zN.c=[.int .u8 0,.str [],.str [],.ro 2 [] true,.str [],.ro 6 [] true]:=by rw[Nd.bU];rfl
 have hc:=NH H.toGm p;have hi:=afk H.toad3 x;rw[aN H.al8 rfl];unfold A8 lT;by_cases c1:most<1
 ·simp[LP,c1,hz]
 ·by_cases c2:64<most
  ·simp[LP,c1,c2,hz]
  ·by_cases c3:qB p=0
   ·rw[c3]at hc;simp at hc;simp[LP,c1,c2,c3,hc,hz,H.kk]
   ·rw[qwx c3]at hc;cases c4:Ak x
    ·rw[c4]at hi;simp at hi;simp[LP,c1,c2,c3,hc,hi,hz,H.kk]
    ·rw[c4]at hi;simp at hi;have hk1:=adf c3;have hmk:=ahM H x hk (Ze c4) [p] true qqz (by simpa using KG hf c3);have hq:mks x [p]=[mkN x p]:=by unfold mkN;rw[mks,mks,mk_eq,qzq hk1];rfl
     rw[hq]at hmk;have hn:=Dw H.toUJ (mkN x p);generalize hN:mkN x p=N at *;generalize cnt N=K at *;simp at hmk;by_cases c5:K=0
     ·subst c5;simp[LP,c1,c2,c3,hc,hi,hz,hmk,hn,H.kk]
     ·by_cases c6:most<K
      ·simp[LP,c1,c2,c3,hc,hi,hz,hmk,hn,c5,c6,H.kk]
      ·simp[LP,c1,c2,c3,hc,hi,hz,hmk,hn,c5,c6,H.kk]
theorem KL(H:rM C)(p:Pt)(hf:fZ p)(x:It)(hk:0<=x.k/\x.k<18446744073709551616)(most:Int) :
 FnW C 425 [.agg p.c,eIt x,.int .i64 most]=some (.tup [.agg (Uk p x most).c,.int .i64 (lT p x most)]):=by
 have hz:zN.c=[.int .u8 0,.str [],.str [],.ro 2 [] true,.str [],.ro 6 [] true]:=by rw[Nd.bU];rfl
 have hc:=Kz H.toPE p hf;have hi:=adz H.toad3 x;rw[aN H.akC rfl];unfold Uk lT;by_cases c1:most<1
 ·simp[LU,c1,hz]
 ·by_cases c2:64<most
  ·simp[LU,c1,c2,hz]
  ·by_cases c3:qB p=0
   ·rw[c3]at hc;simp at hc;simp[LU,c1,c2,c3,hc,hz,H.kk]
   ·rw[qwx c3]at hc;cases c4:Ak x
    ·rw[c4]at hi;simp at hi;simp[LU,c1,c2,c3,hc,hi,hz,H.kk]
    ·rw[c4]at hi;simp at hi;have hk1:=adf c3;have ho:=KG hf c3;have hmk:=YP H x hk (Ze c4) p ho;have hq:md x p=[mdN x p]:=by unfold mdN;rw[Yj,qwx qqq,qwx qqq,qwx qqq,qwx qqq];rfl
     rw[hq]at hmk;have hn:=yQ H.toOa (mdN x p);have hn2:=EM H.toOa (mdN x p);have hcz:cnt (mkN x p)=cnt (mdN x p):=by rw[<- zF,akd x p ho,zF]
     rw[hcz];generalize hN:mdN x p=N at *;generalize cnt N=K at *;simp at hmk;by_cases c5:K=0
     ·subst c5;simp at hn2;simp[LU,c1,c2,c3,hc,hi,hz,hmk,hn,hn2,H.kk]
     ·simp[c5]at hn2;by_cases c6:most<K
      ·simp[LU,c1,c2,c3,hc,hi,hz,hmk,hn,hn2,c5,c6,H.kk]
      ·simp[LU,c1,c2,c3,hc,hi,hz,hmk,hn,hn2,c5,c6,H.kk]
end Go.D
end
section
namespace Go.D
open Go Go.Pav Go.Pw P
structure Kd where
 p:Pt
 b:Int
 st:Bool
 pl:Int
structure En where
 i:It
 s:Int
 kn:Bool
@[simp] def eKd(k:Kd):List AV:=[.int .u8 k.p.k,.str k.p.t,.str k.p.y,.ro 3 (k.p.s.map eSl) k.p.se,.str k.p.x,.ro 6 (k.p.ch.map Pt.c) k.p.ce,.int .i64 k.b,.bool k.st,.int .i64 k.pl]
@[simp] def cIt(i:It):List AV:=[.int .u64 i.k,.int .u8 i.t,.str i.x,.ro 1 (i.m.map eS) i.e]
@[simp] def eEn(e:En):List AV:=[.int .u64 e.i.k,.int .u8 e.i.t,.str e.i.x,.ro 1 (e.i.m.map eS) e.i.e,.int .i64 e.s,.bool e.kn]
abbrev aR(ks:List Kd)(ke:Bool)(cap:Int):AV:=.agg [.ro 9 (ks.map eKd) ke,.int .i64 cap]
abbrev aL(l:List En)(e:Bool):AV:=.agg [.ro 6 (l.map eEn) e]
abbrev aE(e:En):AV:=.agg (eEn e)
structure Wu(i:It):Prop where
 k:0<=i.k/\i.k<18446744073709551616
 t:0<=i.t/\i.t<=255
 m:i.m.length<=1000000
structure BA(e:En):Prop where
 i:Wu e.i
 s:-9223372036854775808<=e.s/\e.s<=9223372036854775807
structure zM(ks:List Kd):Prop where
 n:ks.length<=1000000
 f:∀k∈ks,fZ k.p
def hOk(n:Int):Bool:=decide (1<=n)&&decide (n<=2305843009213693952)
def Gj(k:Kd):Bool:=hOk k.b&&decide (qB k.p≠0)
def JX(ks:List Kd)(cap:Int):Bool:=decide (1<=ks.length)&&decide (ks.length<=8)&&decide (1<=cap)&&decide (cap<=64)&&ks.all Gj
def zP:Pt:=⟨0,[],[],[],true,[],[],true⟩
def jY(ks:List Kd)(t:Int):Kd:=(ks[t.toNat]?).getD ⟨zP,0,false,0⟩
def itE(ks:List Kd)(cap:Int)(x:It)(seen:Bool):Int :=if zq ks.length x=false then 6 else if seen=true then 8 else if lT (jY ks x.t).p x cap=0 then 0 else 14
def enE(ks:List Kd)(cap:Int)(e:En)(seen:Bool):Int :=if itE ks cap e.i seen≠0 then itE ks cap e.i seen else if hOk e.s=true/\(e.kn=true\/e.s=(jY ks e.i.t).b)then 0 else 12
def chk(ks:List Kd)(cap:Int):List Int->List En->Int
 |_,[]=>0
 |seen,e::r=>if enE ks cap e (seen.contains e.i.k)≠0 then enE ks cap e (seen.contains e.i.k)else chk ks cap (seen++[e.i.k]) r
def zT:Int->List En->Int
 |sum,[]=>sum
 |sum,e::r=>if 4611686018427387904-sum<imax e.s 0 then 4611686018427387905 else zT (sum+imax e.s 0) r
def tot(l:List En):Int:=zT 0 l
def ovE(l:List En):Int:=if 4611686018427387904<tot l then 13 else 0
def ckE(ks:List Kd)(cap:Int)(l:List En):Int :=if JX ks cap=false then 7 else if 1024<l.length then 3 else if chk ks cap [] l≠0 then chk ks cap [] l else ovE l
def It.own(i:It):It:={ i with e:=true }
def En.own(e:En):En:={ e with i:=e.i.own }
def fre(ks:List Kd)(x:It):En:=⟨x,(jY ks x.t).b,false⟩
end Go.D
end
section
namespace Go.D
open Go Go.Pav Go.Pw P
attribute [-simp] List.getElem_cons_drop
variable {C:aJ}
structure zn(C:aJ):Prop extends ql C where
 f225:GwC C 225 ahn
 f111:GwC C 111 ahG
 f227:GwC C 227 agq
 al1:GwC C 400 aeg
 alc:GwC C 504 aiG
 amc:GwC C 407 aiS
 f239:GwC C 239 aiI
 alA:GwC C 406 ajp
 f240:GwC C 240 aje
 amg:GwC C 423 aht
theorem Nw(H:zn C)(n:Int):FnW C 225 [.int .i64 n]=some (.bool (hOk n)):=by rw[aN H.f225 rfl];unfold hOk;by_cases c1:1<=n<;>by_cases c2:n<=2305843009213693952<;>simp[ahn,c1,c2]
theorem Yc(s:Int)(h1:-9223372036854775808<=s)(h2:s<=9223372036854775807):0<=imax s 0/\imax s 0<=9223372036854775807:=by unfold imax;split<;>omega
theorem afs(H:zn C)(l:List En)(e:Bool)(hl:l.length<=1000000)(hs:∀x∈l,-9223372036854775808<=x.s/\x.s<=9223372036854775807):∀n i,n+i=l.length->∀sum:Int,0<=sum->sum<=4611686018427387904 ->
 Bg C ⟨[(10,.int .i64 i),(9,.int .i64 l.length),(8,.ro 6 (l.map eEn) e),(3,.int .i64 sum)],[],0⟩=some (.int .i64 (zT sum (l.drop i))):=by
 intro n;induction n with
 |zero=>
  intro i hi sum s1 s2;simp only[Bg];rw[au xI.eq_1];have h1:l.drop i=[]:=qzx qqq;have h3:¬i<l.length:=by omega
  simp[au OI.eq_1,h1,h3,zT]
 |succ n ih=>
  intro i hi sum s1 s2;have h1:i<l.length:=by omega
  have hb:=Yc l[i].s (hs _ (qxq h1)).1 (hs _ (qxq h1)).2;rw[drop_cons h1,zT];generalize hM:imax l[i].s 0=M at *;by_cases c:4611686018427387904-sum<M
  ·rw[qzq c];simp only[Bg];rw[au xI.eq_1];simp(disch:=omega) [h1,aK,hM,c]
  ·rw[qwx c];have:=ih (i+1) qqq (sum+M) qqq qqq;simp only[Bg]at this |-;rw[au xI.eq_1];simp at this;simp(disch:=omega) [h1,aK,hM,c,this]
theorem ahH(H:zn C)(l:List En)(e:Bool)(hl:l.length<=1000000)(hs:∀x∈l,-9223372036854775808<=x.s/\x.s<=9223372036854775807):FnW C 111 [aL l e]=some (.int .i64 (tot l)):=by have h:=afs H l e hl hs l.length 0 qqz 0 qqq qqq;simp only[Bg]at h;simp at h;rw[aN H.f111 rfl];unfold tot;simp[ahG,h]
theorem alM(H:zn C)(l:List En)(e:Bool)(hl:l.length<=1000000)(hs:∀x∈l,BA x):FnW C 111 [aL l e]=some (.int .i64 (tot l)):=ahH H l e hl λx hx=>(hs x hx).s
theorem acW(H:zn C)(l:List En)(e:Bool)(hl:l.length<=1000000)(hs:∀x∈l,BA x):FnW C 227 [aL l e]=some (.int .i64 (ovE l)):=by have h:=alM H l e hl hs;rw[aN H.f227 rfl];unfold ovE;by_cases c:4611686018427387904<tot l<;>simp[agq,h,H.kk,c]
theorem aaB(H:zn C)(l:List En)(e:Bool)(hl:l.length<=1000000)(hs:∀x∈l,-9223372036854775808<=x.s/\x.s<=9223372036854775807):∀n i,n+i=l.length->∀sum:Int,0<=sum->sum<=4611686018427387904 ->
 xk C ⟨[(4,.int .i64 i),(3,.int .u64 sum),(0,.ro 6 (l.map eEn) e)],[],0⟩=some (.int .i64 (zT sum (l.drop i))):=by
 intro n;induction n with
 |zero=>
  intro i hi sum s1 s2;simp only[xk];rw[au uQ.eq_1];have h1:l.drop i=[]:=qzx qqq;have h3:¬i<l.length:=by omega
  simp(disch:=omega) [au Rz.eq_1,h1,h3,zT,aK]
 |succ n ih=>
  intro i hi sum s1 s2;have h1:i<l.length:=by omega
  have hx:=hs _ (qxq h1);have hb:=Yc l[i].s hx.1 hx.2;rw[drop_cons h1,zT];by_cases p:0<l[i].s
  ·rw[JO (by omega:(0:Int)<=l[i].s)]at *;by_cases c:4611686018427387904-sum<l[i].s
   ·rw[qzq c];have c':4611686018427387904<sum+l[i].s:=by omega
    simp only[xk];rw[au uQ.eq_1];simp(disch:=omega) [h1,aK,vM,p,c']
   ·rw[qwx c];have c':¬4611686018427387904<sum+l[i].s:=by omega
    have:=ih (i+1) qqq (sum+l[i].s) qqq qqq;simp only[xk]at this |-;rw[au uQ.eq_1];simp at this;simp(disch:=omega) [h1,aK,vM,p,c',this]
  ·rw[WY (by omega:l[i].s<=(0:Int)),qwx qqq,Int.add_zero];have c':¬4611686018427387904<sum:=by omega
   have:=ih (i+1) qqq sum qqq qqq;simp only[xk]at this |-;rw[au uQ.eq_1];simp at this;simp(disch:=omega) [h1,aK,vM,p,c',this]
theorem aff(H:zn C)(l:List En)(e:Bool)(hl:l.length<=1000000)(hs:∀x∈l,-9223372036854775808<=x.s/\x.s<=9223372036854775807):FnW C 504 [.ro 6 (l.map eEn) e]=some (.int .i64 (tot l)):=by have h:=aaB H l e hl hs l.length 0 qqz 0 qqq qqq;simp only[xk]at h;simp at h;rw[aN H.alc rfl];unfold tot;simp[aiG,h]
theorem ahg(H:zn C)(l:List En)(e:Bool)(hl:l.length<=1000000)(hs:∀x∈l,BA x):FnW C 504 [.ro 6 (l.map eEn) e]=some (.int .i64 (tot l)):=aff H l e hl λx hx=>(hs x hx).s
theorem adA(H:zn C)(l:List En)(e:Bool)(hl:l.length<=1000000)(hs:∀x∈l,BA x):FnW C 407 [.ro 6 (l.map eEn) e]=some (.int .i64 (ovE l)):=by have h:=ahg H l e hl hs;rw[aN H.amc rfl];unfold ovE;by_cases c:4611686018427387904<tot l<;>simp[aiS,h,H.kk,c]
def LD(k:Int):Nat->List En->Int
 |_,[]=>-1
 |i,e::r=>if e.i.k=k then i else LD k (i+1) r
def Ug(k:Int):Nat->List It->Int
 |_,[]=>-1
 |i,x::r=>if x.k=k then i else Ug k (i+1) r
theorem V8(H:zn C)(l:List En)(e:Bool)(k:Int)(hl:l.length<=1000000):∀n i,n+i=l.length ->
 Aq C ⟨[(5,.int .i64 i),(1,.int .u64 k),(0,.ro 6 (l.map eEn) e)],[],0⟩=some (.int .i64 (LD k i (l.drop i))):=by
 intro n;induction n with
 |zero=>
  intro i hi;simp only[Aq];rw[au yU.eq_1];have h1:l.drop i=[]:=qzx qqq;have h3:¬i<l.length:=by omega
  simp(disch:=omega) [au Qz.eq_1,h1,h3,LD]
 |succ n ih=>
  intro i hi;have h1:i<l.length:=by omega
  have:=ih (i+1) qqq;rw[drop_cons h1,LD];by_cases c:l[i].i.k=k
  ·rw[qzq c];simp only[Aq];rw[au yU.eq_1];simp(disch:=omega) [h1,aK,c]
  ·rw[qwx c];simp only[Aq]at this |-;rw[au yU.eq_1];simp at this;simp(disch:=omega) [h1,aK,c,this]
theorem aed(H:zn C)(l:List En)(e:Bool)(k:Int)(hl:l.length<=1000000):FnW C 239 [.ro 6 (l.map eEn) e,.int .u64 k]=some (.int .i64 (LD k 0 l)):=by have h:=V8 H l e k hl l.length 0 qqz;simp only[Aq]at h;simp at h;rw[aN H.f239 rfl];simp[aiI,h]
theorem Xw(H:zn C)(l:List It)(e:Bool)(k:Int)(hl:l.length<=1000000):∀n i,n+i=l.length ->
 CP C ⟨[(5,.int .i64 i),(1,.int .u64 k),(0,.ro 4 (l.map cIt) e)],[],0⟩=some (.int .i64 (Ug k i (l.drop i))):=by
 intro n;induction n with
 |zero=>
  intro i hi;simp only[CP];rw[au xC.eq_1];have h1:l.drop i=[]:=qzx qqq;have h3:¬i<l.length:=by omega
  simp(disch:=omega) [au Pm.eq_1,h1,h3,Ug]
 |succ n ih=>
  intro i hi;have h1:i<l.length:=by omega
  have:=ih (i+1) qqq;rw[drop_cons h1,Ug];by_cases c:l[i].k=k
  ·rw[qzq c];simp only[CP];rw[au xC.eq_1];simp(disch:=omega) [h1,aK,c]
  ·rw[qwx c];simp only[CP]at this |-;rw[au xC.eq_1];simp at this;simp(disch:=omega) [h1,aK,c,this]
theorem aeQ(H:zn C)(l:List It)(e:Bool)(k:Int)(hl:l.length<=1000000):FnW C 423 [.ro 4 (l.map cIt) e,.int .u64 k]=some (.int .i64 (Ug k 0 l)):=by have h:=Xw H l e k hl l.length 0 qqz;simp only[CP]at h;simp at h;rw[aN H.amg rfl];simp[aht,h]
theorem apt(H:zn C)(b:Bool):FnW C 406 [.bool b]=some (.int .i64 (if b=true then 1 else 0)):=by rw[aN H.alA rfl];cases b<;>simp[ajp]
section
variable {β:Type}{base:Nat}{fin:Ex×WSt->Option β}{K:List Pw.Frame}{a:Ann}{l:List bn}{d:Option Nat}{e:Env}{n:Nat}
end
structure zk(C:aJ):Prop extends rM C,zn C where
 alb:GwC C 399 ahX
 f230:GwC C 230 aaH
 agw:GwC C 405 ae6
 f232:GwC C 232 aax
 f115:GwC C 115 Rj
 f236:GwC C 236 Tj
 f271:GwC C 271 V9
 f223:GwC C 223 aah
 f235:GwC C 235 aaR
theorem iW{ks:List Kd}{t:Nat}(h:t<ks.length):jY ks t=ks[t]:=by unfold jY;simp[h]
theorem X7{n:Int}{x:It}(h:zq n x=true):x.t<n:=by unfold zq at h;simp at h;exact h.1.1.2
theorem Ls(H:zk C)(ks:List Kd)(ke:Bool)(cap:Int)(x:It)(hx:Wu x)(ht:x.t<ks.length)(hr:zM ks) :
 FnW C 399 [aR ks ke cap,eIt x]=some (.tup [.agg (A8 (jY ks x.t).p x cap).c,.int .i64 (lT (jY ks x.t).p x cap)]):=by
 obtain⟨t,hT⟩:∃t:Nat,x.t=t:=⟨x.t.toNat,by have:=hx.t;omega⟩;have h1:t<ks.length:=by omega
 have h:=abw H.torM ks[t].p (hr.f _ (qxq h1)) x hx.k cap;rw[hT,iW h1];rw[aN H.alb rfl];generalize (A8 ks[t].p x cap)=N at *;generalize lT ks[t].p x cap=E at *;rw[Pt.bU]at h;simp only[eIt,hT]at h;simp(disch:=omega) [ahX,hT,h1,h,H.kk]
theorem al7(H:zk C)(k:Kd):FnW C 230 [.agg (eKd k)]=some (.bool (!Gj k)):=by
 have h1:=Nw H.tozn k.b;have h2:=NH H.toGm k.p;rw[Pt.bU]at h2;rw[aN H.f230 rfl];unfold Gj;generalize hOk k.b=X at *;cases X
 ·simp[aaH,h1,H.kk]
 ·by_cases c:qB k.p=0
  ·simp[c]at h2;simp[aaH,h1,h2,c,H.kk]
  ·simp[c]at h2;simp[aaH,h1,h2,c,H.kk]
theorem Ve(H:zk C)(ks:List Kd)(e:Bool)(hl:ks.length<=1000000):∀n i,n+i=ks.length ->
 ∃v:Int,oK C ⟨[(8,.int .i64 i),(7,.int .i64 ks.length),(1,.fn 230 []),(0,.ro 9 (ks.map eKd) e)],[],0⟩=some (.int .i64 v)/\decide (v<0)=(ks.drop i).all Gj:=by
 intro n;induction n with
 |zero=>
  intro i hi;simp only[oK];rw[au qX.eq_1];have h1:ks.drop i=[]:=qzx qqq;have h3:¬i<ks.length:=by omega
  exact⟨-1,by simp(disch:=omega) [au IZ.eq_1,h1,h3],by simp[h1]⟩
 |succ n ih=>
  intro i hi;have h1:i<ks.length:=by omega
  have hb:=al7 H ks[i];simp only[eKd]at hb;rw[drop_cons h1];cases c:Gj ks[i]
  ·refine⟨i,?_,by simp[c]⟩;rw[c]at hb;simp only[oK];rw[au qX.eq_1];simp(disch:=omega) [h1,hb,H.kk]
  ·obtain⟨v,hv,hq⟩:=ih (i+1) qqq;refine⟨v,?_,by simp[hq,c]⟩;rw[c]at hb;simp only[oK]at hv |-;rw[au qX.eq_1];simp at hv;simp(disch:=omega) [h1,aK,hb,H.kk,hv]
theorem Qk(H:zk C)(ks:List Kd)(e:Bool)(hl:ks.length<=1000000):FnW C 232 [.ro 9 (ks.map eKd) e,.fn 230 []]=some (.bool (!ks.all Gj)):=by
 obtain⟨v,h,q⟩:=Ve H ks e hl ks.length 0 qqz;simp only[oK]at h;simp at h;have h2:FnW C 405 [.ro 9 (ks.map eKd) e,.fn 230 []]=some (.int .i64 v):=by rw[aN H.agw rfl];simp[ae6,h]
 rw[aN H.f232 rfl];rw[qjz]at q;rw[<- q];by_cases c:v<0
 ·have c':¬0<=v:=by omega
  simp[aax,H.kk,h2,c,c']
 ·have c':0<=v:=by omega
  simp[aax,H.kk,h2,c,c']
theorem Ua(H:zk C)(ks:List Kd)(ke:Bool)(cap:Int)(hr:zM ks):FnW C 115 [aR ks ke cap]=some (.int .i64 (if JX ks cap=true then 0 else 7)):=by
 have h:=Qk H ks ke hr.n;have hl:=hr.n;rw[aN H.f115 rfl];unfold JX;by_cases c1:1<=ks.length
 ·have c1':¬((ks.length:Int)<1):=by omega
  by_cases c2:ks.length<=8
  ·have c2':¬(8<(ks.length:Int)):=by omega
   by_cases c3:1<=cap
   ·have c3':¬cap<1:=by omega
    by_cases c4:cap<=64
    ·have c4':¬64<cap:=by omega
     cases c5:ks.all Gj
     ·rw[c5]at h;simp[Rj,c1,c1',c2,c2',c3,c3',c4,c4',h,H.kk]
     ·rw[c5]at h;simp[Rj,c1,c1',c2,c2',c3,c3',c4,c4',h,H.kk]
    ·have c4':64<cap:=by omega
     simp[Rj,c1,c1',c2,c2',c3,c3',c4,c4']
   ·have c3':cap<1:=by omega
    simp[Rj,c1,c1',c2,c2',c3,c3']
  ·have c2':(8<(ks.length:Int)):=by omega
   simp[Rj,c1,c1',c2,c2']
 ·have c1':((ks.length:Int)<1):=by omega
  simp[Rj,c1,c1']
theorem Ur(H:zk C)(ks:List Kd)(ke:Bool)(cap:Int)(hr:zM ks):∀n i,n+i=ks.length ->
 IL C ⟨[(3,.int .i64 i),(1,.ptr 0 0 0)],[(0,.cells 2 [[.ro 9 (ks.map eKd) ke,.int .i64 cap]] true true)],1⟩=some (.int .i64 (if (ks.drop i).all Gj=true then 0 else 7)):=by
 have hl:=hr.n;intro n;induction n with
 |zero=>
  intro i hi;simp only[IL];rw[au D8.eq_1];have h1:ks.drop i=[]:=qzx qqq;have h3:¬i<ks.length:=by omega
  simp(disch:=omega) [au P8.eq_1,h1,h3]
 |succ n ih=>
  intro i hi;have h1:i<ks.length:=by omega
  have hc:=Kz H.toPE ks[i].p (hr.f _ (qxq h1));rw[Pt.bU]at hc;have:=ih (i+1) qqq;rw[drop_cons h1,qYj];generalize (ks.drop (i+1)).all Gj=X at *;simp only[IL]at this |-;rw[au D8.eq_1];simp at this;unfold Gj hOk;by_cases c1:1<=ks[i].b
  ·have c1':¬ks[i].b<1:=by omega
   by_cases c2:ks[i].b<=2305843009213693952
   ·have c2':¬2305843009213693952<ks[i].b:=by omega
    by_cases c3:qB ks[i].p=0
    ·simp[c3]at hc;simp(disch:=omega) [h1,aK,c1,c1',c2,c2',c3,hc,H.kk]
    ·simp[c3]at hc;simp(disch:=omega) [h1,aK,c1,c1',c2,c2',c3,hc,H.kk,this]
   ·have c2':2305843009213693952<ks[i].b:=by omega
    simp(disch:=omega) [h1,aK,c1,c1',c2,c2']
  ·have c1':ks[i].b<1:=by omega
   simp(disch:=omega) [h1,aK,c1,c1']
theorem Nz(H:zk C)(ks:List Kd)(ke:Bool)(cap:Int)(hr:zM ks):FnW C 236 [aR ks ke cap]=some (.int .i64 (if JX ks cap=true then 0 else 7)):=by
 have h:=Ur H ks ke cap hr ks.length 0 qqz;rw[qjz]at h;have hl:=hr.n;rw[aN H.f236 rfl];unfold JX;generalize ks.all Gj=X at *;simp only[IL]at h;simp at h;by_cases c1:1<=ks.length
 ·have c1':¬ks=[]:=by intro q;subst q;simp at c1
  by_cases c2:ks.length<=8
  ·have c2':¬(8<(ks.length:Int)):=by omega
   by_cases c3:1<=cap
   ·have c3':¬cap<1:=by omega
    by_cases c4:cap<=64
    ·have c4':¬64<cap:=by omega
     simp[Tj,c1,c1',c2,c2',c3,c3',c4,c4',h]
    ·have c4':64<cap:=by omega
     simp[Tj,c1,c1',c2,c2',c3,c3',c4,c4']
   ·have c3':cap<1:=by omega
    simp[Tj,c1,c1',c2,c2',c3,c3']
  ·have c2':(8<(ks.length:Int)):=by omega
   simp[Tj,c1,c1',c2,c2']
 ·have c1':ks=[]:=by cases ks with | nil=>rfl | cons a r=>simp at c1
  subst c1';simp[Tj]
theorem JZ(H:zk C)(ks:List Kd)(ke:Bool)(cap:Int)(x:It)(hx:Wu x)(hr:zM ks)(seen:Bool) :
 FnW C 271 [aR ks ke cap,eIt x,.int .i64 (if seen=true then 1 else 0)]=some (.int .i64 (itE ks cap x seen)):=by
 have hc:=aaP H.toTG x ks.length hx.t hx.m;rw[aN H.f271 rfl];unfold itE;cases c1:zq ks.length x
 ·rw[c1]at hc;simp at hc;simp[V9,hc,H.kk]
 ·rw[c1]at hc;cases seen
  ·have ht:=X7 c1;obtain⟨t,hT⟩:∃t:Nat,x.t=t:=⟨x.t.toNat,by have:=hx.t;omega⟩;have h1:t<ks.length:=by omega
   have h:=KL H.torM ks[t].p (hr.f _ (qxq h1)) x hx.k cap;rw[hT,iW h1];have hE:0<=lT ks[t].p x cap:=by unfold lT;repeat (first | omega | split)
   generalize (Uk ks[t].p x cap)=N at *;generalize lT ks[t].p x cap=E at *;rw[Pt.bU]at h;simp only[eIt,hT]at h hc;by_cases c:E=0
   ·subst c;simp at hc;simp(disch:=omega) [V9,hc,hT,h1,h,H.kk]
   ·have c':0<E:=by omega
    simp at hc;simp(disch:=omega) [V9,hc,hT,h1,h,c,c',H.kk]
  ·simp at hc;simp[V9,hc,H.kk]
def vO(s:List Int):List (AV×AV):=s.map λk=>(.int .u64 k,.bool true)
theorem Uh:vO []=[]:=rfl
theorem CS(k:Int):∀s:List Int,jP (vO s) (.int .u64 k)=some (if s.contains k=true then some (.bool true)else none)
 |[]=>rfl
 |a::r=>by
  have ih:=CS k r;unfold vO at ih |-;rw[qvj,jP];simp only[iD,qyx,ob];by_cases c:k=a
  ·subst c;simp
  ·simp[c,ih]
theorem Ea(k:Int):∀s:List Int,s.contains k=false->kJ (vO s) (.int .u64 k) (.bool true)=some (vO (s++[k]))
 |[],_=>rfl
 |a::r,h=>by simp at h;have ih:=Ea k r (by simpa using h.2);unfold vO at ih |-;rw[qvj,kJ];simp only[iD,qyx,ob];simp[h.1,ih,om]
theorem TQ(k:Int):∀(l:List En) (i:Nat),decide (0<=LD k i l)=(l.map λe=>e.i.k).contains k
 |[],_=>rfl
 |e::r,i=>by
  rw[LD];by_cases c:e.i.k=k
  ·rw[qzq c];simp[c]
  ·have c':¬k=e.i.k:=λq=>c q.symm;rw[qwx c,TQ k r (i+1)];simp[c']
abbrev bQ(l:List En):List Int:=l.map λe=>e.i.k
theorem WZ(H:zk C)(ks:List Kd)(ke:Bool)(cap:Int)(hr:zM ks)(l:List En)(e:Bool)(hl:l.length<=1000000)(hs:∀x∈l,BA x):∀n i,n+i=l.length->∀seen:List Int,
 nH C ⟨[(25,.int .i64 i),(24,.int .i64 l.length),(23,.ro 6 (l.map eEn) e),(6,.map 0),(3,.ptr 1 0 0),(2,.ptr 2 0 0)],[(0,.map (vO seen)),(1,.cells 1 [[.ro 6 (l.map eEn) e]] true true),(2,.cells 2 [[.ro 9 (ks.map eKd) ke,.int .i64 cap]] true true)],3⟩ =
  some (.int .i64 (if chk ks cap seen (l.drop i)≠0 then chk ks cap seen (l.drop i)else ovE l)):=by
 intro n;induction n with
 |zero=>
  intro i hi seen;have ht:=acW H.tozn l e hl hs;simp only[nH];rw[au kZ.eq_1];have h1:l.drop i=[]:=qzx qqq;have h3:¬i<l.length:=by omega
  simp(disch:=omega) [au Ry.eq_1,h1,h3,chk,ht,H.kk]
 |succ n ih=>
  intro i hi seen;have h1:i<l.length:=by omega
  have hx:=hs _ (qxq h1);have hc:=aa5 H.toTG l[i].i ks.length hx.i.t;have hg:=CS l[i].i.k seen;rw[drop_cons h1,chk];cases c1:zq ks.length l[i].i
  ·have hE:enE ks cap l[i] (seen.contains l[i].i.k)=6:=by unfold enE itE;simp[c1]
   rw[hE];rw[c1]at hc;simp at hc;simp only[nH];rw[au kZ.eq_1];simp(disch:=omega) [h1,hc,H.kk]
  ·rw[c1]at hc;simp at hc;cases c2:seen.contains l[i].i.k
   ·have ht:=X7 c1;obtain⟨t,hT⟩:∃t:Nat,l[i].i.t=t:=⟨l[i].i.t.toNat,by have:=hx.i.t;omega⟩;have h2:t<ks.length:=by omega
    have hp:=Ea l[i].i.k seen c2;have hre:=Ls H ks ke cap l[i].i hx.i ht hr;have hh:=Nw H.tozn l[i].s;have this:=ih (i+1) qqq (seen++[l[i].i.k]);rw[c2]at hg;simp only[aR,eIt]at hre;have hk:=iW h2;have hE:enE ks cap l[i] false=if lT ks[t].p l[i].i cap=0 then(if hOk l[i].s=true/\(l[i].kn=true\/l[i].s=ks[t].b)then 0 else 12)else 14:=by unfold enE itE;rw[c1,hT,hk];by_cases q:lT ks[t].p l[i].i cap=0<;>simp[q]
    simp only[eIt,hT,hk]at hc hre;generalize A8 ks[t].p l[i].i cap=N at *;generalize lT ks[t].p l[i].i cap=E at *;by_cases c3:E=0
    ·subst c3;cases c4:hOk l[i].s
     ·rw[c4]at hh;have hE':enE ks cap l[i] false=12:=by rw[hE];simp[c4]
      rw[hE'];simp only[nH];rw[au kZ.eq_1];simp(disch:=omega) [h1,h2,hT,hc,hg,hp,hre,hh,H.kk]
     ·rw[c4]at hh;cases c5:l[i].kn
      ·by_cases c6:l[i].s=ks[t].b
       ·have hE':enE ks cap l[i] false=0:=by rw[hE,qzq rfl,qzq ⟨c4,.inr c6⟩]
        rw[hE'];simp only[nH]at this |-;rw[au kZ.eq_1];generalize chk ks cap (seen++[l[i].i.k]) (List.drop (i+1) l)=Z at *;simp at this;simp(disch:=omega) [h1,h2,hT,hc,hg,hp,hre,hh,c5,qQz c6,aK,H.kk,this]
       ·have hE':enE ks cap l[i] false=12:=by rw[hE];simp[c5,c6]
        rw[hE'];simp only[nH];rw[au kZ.eq_1];simp(disch:=omega) [h1,h2,hT,hc,hg,hp,hre,hh,c5,c6,H.kk]
      ·have hE':enE ks cap l[i] false=0:=by rw[hE];simp[c4,c5]
       rw[hE'];simp only[nH]at this |-;rw[au kZ.eq_1];generalize chk ks cap (seen++[l[i].i.k]) (List.drop (i+1) l)=Z at *;simp at this;simp(disch:=omega) [h1,h2,hT,hc,hg,hp,hre,hh,c5,aK,H.kk,this]
    ·have hE':enE ks cap l[i] false=14:=by rw[hE];simp[c3]
     rw[hE'];simp only[nH];rw[au kZ.eq_1];simp(disch:=omega) [h1,h2,hT,hc,hg,hp,hre,c3,H.kk]
   ·have hE:enE ks cap l[i] true=8:=by unfold enE itE;simp[c1]
    rw[hE];rw[c2]at hg;simp only[nH];rw[au kZ.eq_1];simp(disch:=omega) [h1,hc,hg,H.kk]
theorem yj(H:zk C)(ks:List Kd)(ke:Bool)(cap:Int)(hr:zM ks)(l:List En)(e:Bool)(hl:l.length<=1000000)(hs:∀x∈l,BA x) :
 FnW C 223 [aR ks ke cap,aL l e]=some (.int .i64 (ckE ks cap l)):=by
 have hv:=Ua H ks ke cap hr;have h:=WZ H ks ke cap hr l e hl hs l.length 0 qqz [];rw[qjz,Uh]at h;rw[aN H.f223 rfl];unfold ckE;generalize (if chk ks cap [] l≠0 then chk ks cap [] l else ovE l)=R at *;simp only[nH]at h;simp at h;cases c1:JX ks cap
 ·rw[c1]at hv;simp at hv;simp[aah,hv,H.kk]
 ·rw[c1]at hv;simp at hv;by_cases c2:1024<l.length
  ·have c2':1024<(l.length:Int):=by omega
   simp[aah,hv,c2,c2',H.kk]
  ·have c2':¬1024<(l.length:Int):=by omega
   simp[aah,hv,c2,c2',h,H.kk]
theorem O7(H:zk C)(ks:List Kd)(ke:Bool)(cap:Int)(hr:zM ks)(l:List En)(e:Bool)(hl:l.length<=1000000)(hs:∀x∈l,BA x):∀n i,n+i=l.length ->
 oG C ⟨[(5,.int .i64 i),(2,.ptr 0 0 0),(1,.ro 6 (l.map eEn) e)],[(0,.cells 2 [[.ro 9 (ks.map eKd) ke,.int .i64 cap]] true true)],1⟩ =
  some (.int .i64 (if chk ks cap (bQ (l.take i)) (l.drop i)≠0 then chk ks cap (bQ (l.take i)) (l.drop i)else ovE l)):=by
 intro n;induction n with
 |zero=>
  intro i hi;have ht:=adA H.tozn l e hl hs;simp only[oG];rw[au nG.eq_1];have h1:l.drop i=[]:=qzx qqq;have h3:¬i<l.length:=by omega
  simp(disch:=omega) [au PL.eq_1,h1,h3,chk,ht,H.kk]
 |succ n ih=>
  intro i hi;have h1:i<l.length:=by omega
  have h1':i<=l.length:=by omega
  have hx:=hs _ (qxq h1);have hf:=λe=>aed H.tozn (l.take i) e l[i].i.k (by rw[qbx];omega);have hb:=apt H.tozn (decide (0<=LD l[i].i.k 0 (l.take i)));have hii:=JZ H ks ke cap l[i].i hx.i hr (decide (0<=LD l[i].i.k 0 (l.take i)));have this:=ih (i+1) qqq;rw[show bQ (l.take (i+1))=bQ (l.take i)++[l[i].i.k]by rw[bQ,qZj h1,qWx];rfl]at this;rw[drop_cons h1,chk,<- TQ l[i].i.k (l.take i) 0];generalize LD l[i].i.k 0 (l.take i)=F at *;simp only[q4j]at hf;simp only[aR,eIt]at hii;have hE:enE ks cap l[i] (decide (0<=F))=if itE ks cap l[i].i (decide (0<=F))≠0 then itE ks cap l[i].i (decide (0<=F))else if hOk l[i].s=true/\(l[i].kn=true\/l[i].s=(jY ks l[i].i.t).b)then 0 else 12:=rfl;have hE0:0<=itE ks cap l[i].i (decide (0<=F)):=by unfold itE;repeat (first | omega | split)
  have hEt:itE ks cap l[i].i (decide (0<=F))=0->l[i].i.t<ks.length:=by
   intro q;unfold itE at q;cases c:zq ks.length l[i].i
   ·rw[qzq c]at q;cases q
   ·exact X7 c
  generalize itE ks cap l[i].i (decide (0<=F))=E at *;generalize enE ks cap l[i] (decide (0<=F))=V at *;generalize (if decide (0<=F)=true then(1:Int)else 0)=S at *;by_cases c3:E=0
  ·subst c3;obtain⟨t,hT⟩:∃t:Nat,l[i].i.t=t:=⟨l[i].i.t.toNat,by have:=hx.i.t;omega⟩;have h2:t<ks.length:=by have:=hEt rfl;omega
   rw[hT,iW h2]at hE;simp only[hT]at hii;unfold hOk at hE;by_cases c4:1<=l[i].s
   ·have c4':¬l[i].s<1:=by omega
    by_cases c5:l[i].s<=2305843009213693952
    ·have c5':¬2305843009213693952<l[i].s:=by omega
     cases c6:l[i].kn
     ·by_cases c7:l[i].s=ks[t].b
      ·have hV:V=0:=by rw[hE,qwx qqz,qzq ⟨by simp[c4,c5],.inr c7⟩]
       rw[hV];simp only[oG]at this |-;rw[au nG.eq_1];generalize chk ks cap (bQ (l.take i)++[l[i].i.k]) (List.drop (i+1) l)=Z at *;simp at this;simp(disch:=omega) [h1,h1',h2,hT,hf,hb,hii,c4,c4',c5,c5',c6,qQz c7,aK,H.kk,this]
      ·have hV:V=12:=by rw[hE,qwx qqz,qwx (by simp[c6,c7])]
       rw[hV];simp only[oG];rw[au nG.eq_1];simp(disch:=omega) [h1,h1',h2,hT,hf,hb,hii,c4,c4',c5,c5',c6,c7,H.kk]
     ·have hV:V=0:=by rw[hE,qwx qqz,qzq ⟨by simp[c4,c5],.inl c6⟩]
      rw[hV];simp only[oG]at this |-;rw[au nG.eq_1];generalize chk ks cap (bQ (l.take i)++[l[i].i.k]) (List.drop (i+1) l)=Z at *;simp at this;simp(disch:=omega) [h1,h1',h2,hT,hf,hb,hii,c4,c4',c5,c5',c6,aK,H.kk,this]
    ·have c5':2305843009213693952<l[i].s:=by omega
     have hV:V=12:=by rw[hE,qwx qqz,qwx (by simp[c5])]
     rw[hV];simp only[oG];rw[au nG.eq_1];simp(disch:=omega) [h1,h1',h2,hT,hf,hb,hii,c4,c4',c5,c5',H.kk]
   ·have c4':l[i].s<1:=by omega
    have hV:V=12:=by rw[hE,qwx qqz,qwx (by simp[c4])]
    rw[hV];simp only[oG];rw[au nG.eq_1];simp(disch:=omega) [h1,h1',h2,hT,hf,hb,hii,c4,c4',H.kk]
  ·have c3':0<E:=by omega
   have hV:V=E:=by rw[hE,qzq c3]
   rw[hV];simp only[oG];rw[au nG.eq_1];simp(disch:=omega) [h1,h1',hf,hb,hii,c3,c3',H.kk]
theorem WA(H:zk C)(ks:List Kd)(ke:Bool)(cap:Int)(hr:zM ks)(l:List En)(e:Bool)(hl:l.length<=1000000)(hs:∀x∈l,BA x) :
 FnW C 235 [aR ks ke cap,.ro 6 (l.map eEn) e]=some (.int .i64 (ckE ks cap l)):=by
 have hv:=Nz H ks ke cap hr;have h:=O7 H ks ke cap hr l e hl hs l.length 0 qqz;rw[qjz,q9x]at h;rw[aN H.f235 rfl];unfold ckE;simp only[bQ,qgz]at h;generalize (if chk ks cap [] l≠0 then chk ks cap [] l else ovE l)=R at *;simp only[oG]at h;simp at h;cases c1:JX ks cap
 ·rw[c1]at hv;simp at hv;simp[aaR,hv,H.kk]
 ·rw[c1]at hv;simp at hv;by_cases c2:1024<l.length
  ·have c2':1024<(l.length:Int):=by omega
   simp[aaR,hv,c2,c2',H.kk]
  ·have c2':¬1024<(l.length:Int):=by omega
   simp[aaR,hv,c2,c2',h,H.kk]
structure asH(C:aJ):Prop extends zk C
theorem MF(H:zk C)(ks:List Kd)(ke:Bool)(cap:Int)(x:It)(hx:Wu x)(ht:x.t<ks.length) :
 FnW C 240 [aR ks ke cap,eIt x]=some (aE (fre ks x)):=by
 obtain⟨t,hT⟩:∃t:Nat,x.t=t:=⟨x.t.toNat,by have:=hx.t;omega⟩;have h1:t<ks.length:=by omega
 rw[aN H.f240 rfl];unfold fre;rw[hT,iW h1];simp(disch:=omega) [aje,hT,h1]
theorem Wx(H:zk C)(ks:List Kd)(ke:Bool)(cap:Int)(x:List It)(e:Bool)(hxl:x.length<=1000000)(hx:∀i∈x,Wu i/\i.t<ks.length):∀n i,n+i=x.length->∀G:List En,G.length=i ->
 IV C ⟨[(13,.int .i64 i),(12,.int .i64 x.length),(11,.ro 4 (x.map cIt) e),(5,.sl 0 6 0 x.length x.length true),(2,.ptr 1 0 0)],[(0,.cells 6 (G.map eEn++List.replicate n [.int .u64 0,.int .u8 0,.str [],.ro 1 [] true,.int .i64 0,.bool false]) true true),(1,.cells 2 [[.ro 9 (ks.map eKd) ke,.int .i64 cap]] true true)],2⟩ =
  some (.ro 6 ((G++(x.drop i).map (fre ks)).map eEn) true):=by
 intro n;induction n with
 |zero=>
  intro i hi G hG;have h1:x.drop i=[]:=qzx qqq;have h3:¬i<x.length:=by omega
  have h6:List.take x.length (List.map eEn G)=List.map eEn G:=qxz qqx;have h7:G.length=x.length:=by omega
  simp only[IV];rw[au xY.eq_1];simp[au I4.eq_1,h1,h3,h6,h7]
 |succ n ih=>
  intro i hi G hG;have h1:i<x.length:=by omega
  have hxi:=hx _ (qxq h1);obtain⟨t,hT⟩:∃t:Nat,x[i].t=t:=⟨x[i].t.toNat,by have:=hxi.1.t;omega⟩;have h2:t<ks.length:=by have:=hxi.2;omega
  have:=ih (i+1) qqq (G++[fre ks x[i]]) (by simp[hG]);rw[drop_cons h1];simp only[IV]at this |-;rw[au xY.eq_1];simp[fre,hT,iW h2]at this;simp(disch:=omega) [h1,h2,hT,aK,UE,Ub,hG,fre,iW h2,this]
theorem TR(H:zk C)(ks:List Kd)(ke:Bool)(cap:Int)(x:List It)(e:Bool)(hxl:x.length<=1000000)(hx:∀i∈x,Wu i/\i.t<ks.length) :
 FnW C 400 [aR ks ke cap,.ro 4 (x.map cIt) e]=some (.ro 6 ((x.map (fre ks)).map eEn) true):=by
 rw[aN H.al1 rfl];by_cases hne:x=[]
 ·subst hne;simp(disch:=omega) [aeg,au xY.eq_1,au I4.eq_1]
 ·have h:=Wx H ks ke cap x e hxl hx x.length 0 qqz [] rfl;have h2:x.length*73<=35184372088832:=by omega
  simp only[IV]at h;simp at h;simp(disch:=omega) [aeg,hne,h2,h]
def aui(e:Int):AV:=.tup [aL [] true,.int .i64 e]
def afB(out:List En):AV:=if ovE (out.map En.own)≠0 then aui (ovE (out.map En.own))else .tup [aL (out.map En.own) true,.int .i64 0]
structure arO(C:aJ):Prop extends asH C
structure vY(C:aJ):Prop extends arO C where
 ali:GwC C 422 KC
 f270:GwC C 270 aiw
 f126:GwC C 126 aiu
 f130:GwC C 130 aie
structure Good(i:It):Prop where
 k:1<=i.k/\i.k<=60
 t:0<=i.t/\i.t<=2
 x:isText i.x=true
 l:i.m.length<=8
 m:i.m.all isName=true
def V5(k t:Int)(x:Bs)(o:Option AV):Prop:=∃(m:List Bs) (e:Bool),o=some (eIt ⟨k,t,x,m,e⟩)/\m.length<=8/\m.all isName=true
theorem oU(H:vY C)(k t a b c d:Int)(hd:0<=d/\d<=255)(x:Bs)(G:List Bs)(hG:G≠[])(hl:G.length<=3)(hm:G.all isName=true) :
 V5 k t x (dh C ⟨[(4,.int .i64 3),(3,.ptr 0 0 0),(2,.ptr 2 0 0),(1,.ptr 3 0 0)],[(0,.cells 4 [[.int .u64 k,.int .u8 t,.str x,.sl 1 1 0 G.length G.length false]] true false),(1,.cells 1 (G.map eS) true true),(2,.cells 4 [[.int .u64 0,.int .u8 0,.str [],.ro 1 [] true]] true true),(3,.cells 4 [[.int .u8 a,.int .u8 b,.int .u8 c,.int .u8 d]] true true)],4⟩):=by
 have hfit:(G.length+1)*17<=35184372088832:=by omega
 have hfit2:(G.length+2)*17<=35184372088832:=by omega
 have h4:List.take G.length (List.map eS G)=List.map eS G:=qxz qqz;by_cases c1:240<=d
 ·refine⟨G++[[97],[97]],false,?_,by simp;omega,by simp only[qoz,hm];decide⟩;have h5:List.take (G.length+2) (List.map eS G++[[.str [97]],[.str [97]]])=List.map eS G++[[.str [97]],[.str [97]]]:=qxz qqz;simp only[dh];rw[au kC.eq_1];simp(disch:=omega) [au wZ.eq_1,c1,h4,h5,hfit2]
 ·refine⟨G,false,?_,by omega,hm⟩;simp only[dh];rw[au kC.eq_1];simp(disch:=omega) [au wZ.eq_1,c1,h4]
theorem Lh(H:vY C)(k t a b c d:Int)(hd:0<=d/\d<=255)(x:Bs) :
 V5 k t x (dh C ⟨[(4,.int .i64 3),(3,.ptr 0 0 0),(2,.ptr 1 0 0),(1,.ptr 2 0 0)],[(0,.cells 4 [[.int .u64 k,.int .u8 t,.str x,.ro 1 [] true]] true true),(1,.cells 4 [[.int .u64 0,.int .u8 0,.str [],.ro 1 [] true]] true true),(2,.cells 4 [[.int .u8 a,.int .u8 b,.int .u8 c,.int .u8 d]] true true)],3⟩):=by
 by_cases c1:240<=d
 ·refine⟨[[97],[97]],false,?_,by simp,by decide⟩;simp only[dh];rw[au kC.eq_1];simp(disch:=omega) [au wZ.eq_1,c1]
 ·refine⟨[],true,?_,by simp,rfl⟩;simp only[dh];rw[au kC.eq_1];simp(disch:=omega) [au wZ.eq_1,c1]
theorem oM(H:vY C)(k t a b c d:Int)(hd:0<=d/\d<=255)(x:Bs)(G:List Bs)(hG:G≠[])(hl:G.length<=2)(hm:G.all isName=true) :
 V5 k t x (dh C ⟨[(4,.int .i64 2),(3,.ptr 0 0 0),(2,.ptr 2 0 0),(1,.ptr 3 0 0)],[(0,.cells 4 [[.int .u64 k,.int .u8 t,.str x,.sl 1 1 0 G.length G.length false]] true false),(1,.cells 1 (G.map eS) true true),(2,.cells 4 [[.int .u64 0,.int .u8 0,.str [],.ro 1 [] true]] true true),(3,.cells 4 [[.int .u8 a,.int .u8 b,.int .u8 c,.int .u8 d]] true true)],4⟩):=by
 have hfit:(G.length+1)*17<=35184372088832:=by omega
 have hfit2:(G.length+2)*17<=35184372088832:=by omega
 have h4:List.take G.length (List.map eS G)=List.map eS G:=qxz qqz;have h6:d.tdiv 8=d / 8:=qVj qqq;have h5:(2+d / 8).tmod 3=(2+d / 8) % 3:=qyq qqq;have hJ:(2+d / 8) % 3=0\/(2+d / 8) % 3=1\/(2+d / 8) % 3=2:=by omega
 simp only[dh];rw[au kC.eq_1];rcases hJ with hj | hj | hj
 ·simp(disch:=omega) [aK,wU8,h5,h6,hj,h4,hfit];split
  ·have h:=oU H k t a b c d hd x (G++[[97]]) qqz qqx (by simp only[qoz,hm];decide);simp only[dh]at h;simpa using h
  ·exact oU H k t a b c d hd x G hG qqq hm
 ·simp(disch:=omega) [aK,wU8,h5,h6,hj,h4,hfit];split
  ·have h:=oU H k t a b c d hd x (G++[[98,50]]) qqz qqx (by simp only[qoz,hm];decide);simp only[dh]at h;simpa using h
  ·exact oU H k t a b c d hd x G hG qqq hm
 ·simp(disch:=omega) [aK,wU8,h5,h6,hj,h4,hfit];split
  ·have h:=oU H k t a b c d hd x (G++[[107,101,121]]) qqz qqx (by simp only[qoz,hm];decide);simp only[dh]at h;simpa using h
  ·exact oU H k t a b c d hd x G hG qqq hm
theorem JH(H:vY C)(k t a b c d:Int)(hd:0<=d/\d<=255)(x:Bs) :
 V5 k t x (dh C ⟨[(4,.int .i64 2),(3,.ptr 0 0 0),(2,.ptr 1 0 0),(1,.ptr 2 0 0)],[(0,.cells 4 [[.int .u64 k,.int .u8 t,.str x,.ro 1 [] true]] true true),(1,.cells 4 [[.int .u64 0,.int .u8 0,.str [],.ro 1 [] true]] true true),(2,.cells 4 [[.int .u8 a,.int .u8 b,.int .u8 c,.int .u8 d]] true true)],3⟩):=by
 have h6:d.tdiv 8=d / 8:=qVj qqq;have h5:(2+d / 8).tmod 3=(2+d / 8) % 3:=qyq qqq;have hJ:(2+d / 8) % 3=0\/(2+d / 8) % 3=1\/(2+d / 8) % 3=2:=by omega
 simp only[dh];rw[au kC.eq_1];rcases hJ with hj | hj | hj
 ·simp(disch:=omega) [aK,wU8,h5,h6,hj];split
  ·exact oU H k t a b c d hd x [[97]] qqz qqz (by decide)
  ·exact Lh H k t a b c d hd x
 ·simp(disch:=omega) [aK,wU8,h5,h6,hj];split
  ·exact oU H k t a b c d hd x [[98,50]] qqz qqz (by decide)
  ·exact Lh H k t a b c d hd x
 ·simp(disch:=omega) [aK,wU8,h5,h6,hj];split
  ·exact oU H k t a b c d hd x [[107,101,121]] qqz qqz (by decide)
  ·exact Lh H k t a b c d hd x
theorem Qj(H:vY C)(k t a b c d:Int)(hd:0<=d/\d<=255)(x:Bs)(G:List Bs)(hG:G≠[])(hl:G.length<=1)(hm:G.all isName=true) :
 V5 k t x (dh C ⟨[(4,.int .i64 1),(3,.ptr 0 0 0),(2,.ptr 2 0 0),(1,.ptr 3 0 0)],[(0,.cells 4 [[.int .u64 k,.int .u8 t,.str x,.sl 1 1 0 G.length G.length false]] true false),(1,.cells 1 (G.map eS) true true),(2,.cells 4 [[.int .u64 0,.int .u8 0,.str [],.ro 1 [] true]] true true),(3,.cells 4 [[.int .u8 a,.int .u8 b,.int .u8 c,.int .u8 d]] true true)],4⟩):=by
 have hfit:(G.length+1)*17<=35184372088832:=by omega
 have hfit2:(G.length+2)*17<=35184372088832:=by omega
 have h4:List.take G.length (List.map eS G)=List.map eS G:=qxz qqz;have h6:d.tdiv 8=d / 8:=qVj qqq;have h5:(1+d / 8).tmod 3=(1+d / 8) % 3:=qyq qqq;have hJ:(1+d / 8) % 3=0\/(1+d / 8) % 3=1\/(1+d / 8) % 3=2:=by omega
 simp only[dh];rw[au kC.eq_1];rcases hJ with hj | hj | hj
 ·simp(disch:=omega) [aK,wU8,h5,h6,hj,h4,hfit];split
  ·have h:=oM H k t a b c d hd x (G++[[97]]) qqz qqx (by simp only[qoz,hm];decide);simp only[dh]at h;simpa using h
  ·exact oM H k t a b c d hd x G hG qqq hm
 ·simp(disch:=omega) [aK,wU8,h5,h6,hj,h4,hfit];split
  ·have h:=oM H k t a b c d hd x (G++[[98,50]]) qqz qqx (by simp only[qoz,hm];decide);simp only[dh]at h;simpa using h
  ·exact oM H k t a b c d hd x G hG qqq hm
 ·simp(disch:=omega) [aK,wU8,h5,h6,hj,h4,hfit];split
  ·have h:=oM H k t a b c d hd x (G++[[107,101,121]]) qqz qqx (by simp only[qoz,hm];decide);simp only[dh]at h;simpa using h
  ·exact oM H k t a b c d hd x G hG qqq hm
theorem KX(H:vY C)(k t a b c d:Int)(hd:0<=d/\d<=255)(x:Bs) :
 V5 k t x (dh C ⟨[(4,.int .i64 1),(3,.ptr 0 0 0),(2,.ptr 1 0 0),(1,.ptr 2 0 0)],[(0,.cells 4 [[.int .u64 k,.int .u8 t,.str x,.ro 1 [] true]] true true),(1,.cells 4 [[.int .u64 0,.int .u8 0,.str [],.ro 1 [] true]] true true),(2,.cells 4 [[.int .u8 a,.int .u8 b,.int .u8 c,.int .u8 d]] true true)],3⟩):=by
 have h6:d.tdiv 8=d / 8:=qVj qqq;have h5:(1+d / 8).tmod 3=(1+d / 8) % 3:=qyq qqq;have hJ:(1+d / 8) % 3=0\/(1+d / 8) % 3=1\/(1+d / 8) % 3=2:=by omega
 simp only[dh];rw[au kC.eq_1];rcases hJ with hj | hj | hj
 ·simp(disch:=omega) [aK,wU8,h5,h6,hj];split
  ·exact oM H k t a b c d hd x [[97]] qqz qqz (by decide)
  ·exact JH H k t a b c d hd x
 ·simp(disch:=omega) [aK,wU8,h5,h6,hj];split
  ·exact oM H k t a b c d hd x [[98,50]] qqz qqz (by decide)
  ·exact JH H k t a b c d hd x
 ·simp(disch:=omega) [aK,wU8,h5,h6,hj];split
  ·exact oM H k t a b c d hd x [[107,101,121]] qqz qqz (by decide)
  ·exact JH H k t a b c d hd x
theorem ada(H:vY C)(k t a b c d:Int)(hd:0<=d/\d<=255)(x:Bs) :
 V5 k t x (dh C ⟨[(4,.int .i64 0),(3,.ptr 0 0 0),(2,.ptr 1 0 0),(1,.ptr 2 0 0)],[(0,.cells 4 [[.int .u64 k,.int .u8 t,.str x,.ro 1 [] true]] true true),(1,.cells 4 [[.int .u64 0,.int .u8 0,.str [],.ro 1 [] true]] true true),(2,.cells 4 [[.int .u8 a,.int .u8 b,.int .u8 c,.int .u8 d]] true true)],3⟩):=by
 have h6:d.tdiv 8=d / 8:=qVj qqq;have h5:(0+d / 8).tmod 3=(0+d / 8) % 3:=qyq qqq;have hJ:(0+d / 8) % 3=0\/(0+d / 8) % 3=1\/(0+d / 8) % 3=2:=by omega
 simp only[dh];rw[au kC.eq_1];simp only[Int.zero_add]at h5 hJ;rcases hJ with hj | hj | hj
 ·simp(disch:=omega) [aK,wU8,h5,h6,hj];split
  ·exact Qj H k t a b c d hd x [[97]] qqz qqz (by decide)
  ·exact KX H k t a b c d hd x
 ·simp(disch:=omega) [aK,wU8,h5,h6,hj];split
  ·exact Qj H k t a b c d hd x [[98,50]] qqz qqz (by decide)
  ·exact KX H k t a b c d hd x
 ·simp(disch:=omega) [aK,wU8,h5,h6,hj];split
  ·exact Qj H k t a b c d hd x [[107,101,121]] qqz qqz (by decide)
  ·exact KX H k t a b c d hd x
structure Q4 where
 (a b c d:Int)
@[simp] def eQ(q:Q4):List AV:=[.int .u8 q.a,.int .u8 q.b,.int .u8 q.c,.int .u8 q.d]
structure QIn(q:Q4):Prop where
 a:0<=q.a/\q.a<=255
 b:0<=q.b/\q.b<=255
 c:0<=q.c/\q.c<=255
 d:0<=q.d/\q.d<=255
theorem afV(H:vY C)(q:Q4)(hq:QIn q):∃i:It,FnW C 422 [.agg (eQ q)]=some (eIt i)/\Good i:=by
 obtain⟨a,b,c,d⟩:=q;obtain⟨ha,hb,hc,hd⟩:=hq;simp only at ha hb hc hd;have h1:a.tmod 60=a % 60:=qyq qqq;have h2:b.tmod 3=b % 3:=qyq qqq;have h3:c.tmod 8=c % 8:=qyq qqq;have hx:∀x:Bs,isText x=true->∃i:It,dh C ⟨[(4,.int .i64 0),(3,.ptr 0 0 0),(2,.ptr 1 0 0),(1,.ptr 2 0 0)],[(0,.cells 4 [[.int .u64 (1+a % 60),.int .u8 (b % 3),.str x,.ro 1 [] true]] true true),(1,.cells 4 [[.int .u64 0,.int .u8 0,.str [],.ro 1 [] true]] true true),(2,.cells 4 [[.int .u8 a,.int .u8 b,.int .u8 c,.int .u8 d]] true true)],3⟩=some (eIt i)/\Good i:=by intro x hx;obtain⟨m,e,h,r1,r2⟩:=ada H (1+a % 60) (b % 3) a b c d hd x;exact⟨_,h,⟨by simp only;omega,by simp only;omega,hx,r1,r2⟩⟩
 rw[aN H.ali rfl];have hJ:c % 8=0\/c % 8=1\/c % 8=2\/c % 8=3\/c % 8=4\/c % 8=5\/c % 8=6\/c % 8=7:=by omega
 rcases hJ with hj | hj | hj | hj | hj | hj | hj | hj
 ·obtain⟨i,h,g⟩:=hx [] (by decide);refine⟨i,?_,g⟩;simp only[dh]at h;simp(disch:=omega) [KC,h1,h2,h3,hj,aK,wU8,vM,h]
 ·obtain⟨i,h,g⟩:=hx [97] (by decide);refine⟨i,?_,g⟩;simp only[dh]at h;simp(disch:=omega) [KC,h1,h2,h3,hj,aK,wU8,vM,h]
 ·obtain⟨i,h,g⟩:=hx [114,111,119] (by decide);refine⟨i,?_,g⟩;simp only[dh]at h;simp(disch:=omega) [KC,h1,h2,h3,hj,aK,wU8,vM,h]
 ·obtain⟨i,h,g⟩:=hx [116,119,111,32,119,111,114,100,115] (by decide);refine⟨i,?_,g⟩;simp only[dh]at h;simp(disch:=omega) [KC,h1,h2,h3,hj,aK,wU8,vM,h]
 ·obtain⟨i,h,g⟩:=hx [32,32] (by decide);refine⟨i,?_,g⟩;simp only[dh]at h;simp(disch:=omega) [KC,h1,h2,h3,hj,aK,wU8,vM,h]
 ·obtain⟨i,h,g⟩:=hx [126,33,45,44] (by decide);refine⟨i,?_,g⟩;simp only[dh]at h;simp(disch:=omega) [KC,h1,h2,h3,hj,aK,wU8,vM,h]
 ·obtain⟨i,h,g⟩:=hx [97,32,108,111,110,103,101,114,32,116,101,120,116,32,111,102,32,116,104,105,115,32,107,105,110,100] (by decide);refine⟨i,?_,g⟩;simp only[dh]at h;simp(disch:=omega) [KC,h1,h2,h3,hj,aK,wU8,vM,h]
 ·obtain⟨i,h,g⟩:=hx [57] (by decide);refine⟨i,?_,g⟩;simp only[dh]at h;simp(disch:=omega) [KC,h1,h2,h3,hj,aK,wU8,vM,h]
theorem Good.it{i:It}(h:Good i):Wu i:=⟨by have:=h.k;omega,by have:=h.t;omega,by have:=h.l;omega⟩
theorem Good.ok{i:It}(h:Good i):zq 3 i=true:=by have h1:=h.k;have h2:=h.t;have h3:=h.x;have h4:=h.l;have h5:=h.m;unfold zq;simp only[qwz,qkj];exact⟨⟨⟨by omega,by omega⟩,h3⟩,h4,h5⟩
theorem YX{k:Int}:∀(l:List It) (i:Nat),Ug k i l<0->∀x∈l,x.k≠k
 |[],_,_=>by simp
 |e::r,i,h=>by
  rw[Ug]at h;split at h
  ·omega
  ·rename_i c;intro x hx;rcases qjj.1 hx with rfl | hx
   ·exact c
   ·exact YX r (i+1) h x hx
theorem Wh(H:vY C)(hone:∀q:Q4,QIn q->∃i:It,FnW C 422 [.agg (eQ q)]=some (eIt i)/\Good i)(l:List Q4)(e:Bool)(hq:∀q∈l,QIn q):∀n i,n+i=min l.length 12->∀G:List It,G.length<=i->(∀x∈G,Good x)->(G.map It.k).Nodup ->
 ∃R:List It,DW C ⟨[(4,.int .i64 i),(3,.sl 0 4 0 G.length G.length false),(1,.ptr 1 0 0)],[(0,.cells 4 (G.map cIt) true true),(1,.cells 1 [[.ro 4 (l.map eQ) e]] true true)],2⟩=some (.ro 4 (R.map cIt) false) /\
  R.length<=12/\(∀x∈R,Good x)/\(R.map It.k).Nodup:=by
 intro n;induction n with
 |zero=>
  intro i hi G hG hg hn;refine⟨G,?_,by omega,hg,hn⟩;simp only[DW];rw[au xE.eq_1];have h6:List.take G.length (List.map cIt G)=List.map cIt G:=qxz qqz;by_cases h3:i<l.length
  ·have h4:¬(i:Int)<12:=by omega
   simp[au Jb.eq_1,h3,h4,h6]
  ·simp[au Jb.eq_1,h3,h6]
 |succ n ih=>
  intro i hi G hG hg hn;have h1:i<l.length:=by omega
  have h2:(i:Int)<12:=by omega
  obtain⟨x,hx,gx⟩:=hone l[i] (hq _ (qxq h1));have hf:=aeQ H.tozn G false x.k qqq;have h6:List.take G.length (List.map cIt G)=List.map cIt G:=qxz qqz;have hfit:(G.length+1)*57<=35184372088832:=by omega
  simp only[eQ]at hx;by_cases c:Ug x.k 0 G<0
  ·have hno:=YX G 0 c;obtain⟨R,this,r1,r2,r3⟩:=ih (i+1) qqq (G++[x]) qqx (by
    intro y hy;rcases qWj.1 hy with q | q
    ·exact hg y q
    ·simp at q;rw[q];exact gx) (by
    rw[qWx,qpq];refine⟨hn,by simp,?_⟩;intro a ha b hb;simp at hb;obtain⟨y,hy,rfl⟩:=qkx.1 ha;rw[hb];exact hno y hy)
   refine⟨R,?_,r1,r2,r3⟩;simp only[DW]at this |-;rw[au xE.eq_1];simp at this;simp(disch:=omega) [h1,h2,hx,hf,h6,c,hfit,aK,H.kk,this]
  ·obtain⟨R,this,r1,r2,r3⟩:=ih (i+1) qqq G qqq hg hn;refine⟨R,?_,r1,r2,r3⟩;simp only[DW]at this |-;rw[au xE.eq_1];simp at this;simp(disch:=omega) [h1,h2,hx,hf,h6,c,aK,H.kk,this]
theorem acg(H:vY C)(hone:∀q:Q4,QIn q->∃i:It,FnW C 422 [.agg (eQ q)]=some (eIt i)/\Good i)(l:List Q4)(e:Bool)(hq:∀q∈l,QIn q) :
 ∃R:List It,FnW C 270 [.agg [.ro 4 (l.map eQ) e]]=some (.ro 4 (R.map cIt) false)/\R.length<=12/\(∀x∈R,Good x)/\(R.map It.k).Nodup:=by
 obtain⟨R,h,r⟩:=Wh H hone l e hq (min l.length 12) 0 qqz [] qqz qqz qqz;refine⟨R,?_,r⟩;simp only[DW]at h;simp at h;rw[aN H.f270 rfl];simp[aiw,h]
def zy(k:Int)(t:Bs):Pt:=⟨k,[],[],[],true,t,[],true⟩
def FV:Pt:=⟨1,[114,111,119],[],[⟨[110],3,[]⟩,⟨[116,101,120,116],1,[]⟩],true,[],[zy 3 []],true⟩
def wG:Pt:=⟨1,[104,101,97,100],[104],[⟨[105,100],2,[]⟩],true,[],[zy 2 [35],zy 4 []],true⟩
def wE:Pt:=⟨1,[114,111,119],[],[],true,[],[⟨1,[98],[98,50],[],true,[],[zy 3 []],true⟩,⟨5,[116,97,103],[],[⟨[111,102],2,[]⟩],true,[],[],true⟩],true⟩
def ay(n:Int):List Kd:=[⟨FV,10+n % 7,false,n % 4⟩,⟨wG,6+n % 3,true,n / 4 % 3⟩,⟨wE,20,decide (n % 16=15),n / 8 % 3⟩]
theorem ab1(H:vY C)(n:Int)(hn:0<=n/\n<=255):FnW C 126 [.int .u8 n]=some (.ro 9 ((ay n).map eKd) true):=by rw[aN H.f126 rfl];have h1:n.tmod 7=n % 7:=qyq qqq;have h2:n.tmod 4=n % 4:=qyq qqq;have h3:n.tmod 3=n % 3:=qyq qqq;have h4:n.tdiv 4=n / 4:=qVj qqq;have h5:n.tdiv 8=n / 8:=qVj qqq;have h6:(n / 4).tmod 3=n / 4 % 3:=qyq qqq;have h7:(n / 8).tmod 3=n / 8 % 3:=qyq qqq;have h8:n.tmod 16=n % 16:=qyq qqq;simp(disch:=omega) [aiu,ay,FV,wG,wE,zy,h1,h2,h3,h4,h5,h6,h7,h8,aK,wU8,Pt.bU];rfl
theorem EF(k:Int)(t:Bs):fZ (zy k t):=.mk _ ⟨by simp[zy],by simp[zy],by simp[zy]⟩ (by simp[zy])
theorem adI:fZ FV:=.mk _ ⟨by simp[FV],by simp[FV],by simp[FV]⟩ (by simp only[FV,qjj,qfz,q5x];rintro m rfl;exact EF _ _)
theorem aak:fZ wG:=.mk _ ⟨by simp[wG],by simp[wG],by simp[wG]⟩ (by simp only[wG,qjj,qfz,q5x];rintro m (rfl | rfl)<;>exact EF _ _)
theorem abe:fZ wE:=.mk _ ⟨by simp[wE],by simp[wE],by simp[wE]⟩ (by
 simp only[wE,qjj,qfz,q5x];rintro m (rfl | rfl)
 ·exact .mk _ ⟨by simp,by simp,by simp⟩ (by simp only[qjj,qfz,q5x];rintro m rfl;exact EF _ _)
 ·exact .mk _ ⟨by simp,by simp,by simp⟩ qqz)
theorem pq(n:Int):zM (ay n):=⟨by simp[ay],by
 simp only[ay,qjj,qfz,q5x];rintro k (rfl | rfl | rfl)
 ·exact adI
 ·exact aak
 ·exact abe⟩
theorem alG:qB FV≠0:=by decide +kernel
theorem ahJ:qB wG≠0:=by decide +kernel
theorem ahZ:qB wE≠0:=by decide +kernel
theorem Nb(n:Int)(hn:0<=n/\n<=255):JX (ay n) 12=true:=by
 have e1:(1:Int)<=10+n % 7/\10+n % 7<=2305843009213693952:=by omega
 have e2:(1:Int)<=6+n % 3/\6+n % 3<=2305843009213693952:=by omega
 simp[JX,Gj,hOk,ay,alG,ahJ,ahZ,e1,e2]
theorem Zq(n:Int)(hn:0<=n/\n<=255)(t:Int)(ht:0<=t/\t<=2):1<=(jY (ay n) t).b/\(jY (ay n) t).b<=30:=by
 have:t=0\/t=1\/t=2:=by omega
 rcases this with rfl | rfl | rfl<;>simp[jY,ay]<;>omega
structure fM(ks:List Kd)(e:En):Prop where
 i:Good e.i
 ok:itE ks 12 e.i false=0
 s:1<=e.s/\e.s<=40
 b:e.kn=true\/e.s=(jY ks e.i.t).b
structure amE(ks:List Kd):Prop where
 r:zM ks
 l:ks.length=3
 b:∀t:Int,0<=t->t<=2->1<=(jY ks t).b/\(jY ks t).b<=30
theorem akt(n:Int)(hn:0<=n/\n<=255):amE (ay n):=⟨pq n,rfl,λt h1 h2=>Zq n hn t ⟨h1,h2⟩⟩
theorem amb(H:vY C)(ks:List Kd)(hks:amE ks)(l:List It)(le:Bool)(hl:l.length<=12)(hg:∀x∈l,Good x)(q:List Q4)(qe:Bool)(z:List Int)(ze:Bool)(hz:∀s∈z,0<=s/\s<=255)(hzl:z.length<9223372036854775808)(r:Int):∀n i,n+i=l.length ->
 ∀G:List En,G≠[]->G.length<=i->(∀x∈G,fM ks x)->(bQ G++(l.drop i).map It.k).Nodup ->
 ∃(R:List En) (f:Bool),iO C ⟨[(7,.int .i64 i),(6,.ptr 0 0 0),(5,.ro 4 (l.map cIt) le),(4,.ptr 2 0 0),(3,.ptr 3 0 0),(2,.ptr 4 0 0),(1,.ptr 5 0 0)],[(0,.cells 1 [[.sl 1 6 0 G.length G.length false]] true false),(1,.cells 6 (G.map eEn) true true),(2,.cells 2 [[.ro 9 (ks.map eKd) true,.int .i64 12]] true true),(3,.cells 1 [[.ro 6 [] true]] true true),(4,.cells 2 [[.ro 9 [] true,.int .i64 0]] true true),(5,.cells 3 [[.ro 4 (q.map eQ) qe,.ro 1 (z.map eU8) ze,.int .u8 r]] true true)],6⟩=some (.tup [aR ks true 12,aL R f])/\R.length<=12/\(∀e∈R,fM ks e)/\(bQ R).Nodup:=by
 intro n;induction n with
 |zero=>
  intro i hi G hne hG hge hn;have h1:l.drop i=[]:=qzx qqq;have h3:¬i<l.length:=by omega
  have h6:List.take G.length (List.map eEn G)=List.map eEn G:=qxz qqz;refine⟨G,false,?_,by omega,hge,by rw[h1]at hn;simpa using hn⟩;simp only[iO];rw[au jD.eq_1];simp[au GL.eq_1,h3,h6]
 |succ n ih=>
  intro i hi G hne hG hge hn;have h1:i<l.length:=by omega
  have gx:=hg _ (qxq h1);have hii:=JZ H.tozk ks true 12 l[i] gx.it hks.r false;have hfr:=MF H.tozk ks true 12 l[i] gx.it (by have:=gx.t;have:=hks.l;omega);have hbase:=hks.b l[i].t gx.t.1 gx.t.2;rw[drop_cons h1,qvj]at hn;have hfit:(G.length+1)*73<=35184372088832:=by omega
  simp only[aR,eIt,qxj,qWq]at hii;simp only[aR,eIt,aE,eEn,fre]at hfr;have hE0:0<=itE ks 12 l[i] false:=by unfold itE;repeat (first | omega | split)
  by_cases c1:itE ks 12 l[i] false=0
  ·have step:∀e:En,e.i=l[i]->fM ks e->∃(R:List En) (f:Bool),iO C ⟨[(7,.int .i64 ((i:Int)+1)),(6,.ptr 0 0 0),(5,.ro 4 (l.map cIt) le),(4,.ptr 2 0 0),(3,.ptr 3 0 0),(2,.ptr 4 0 0),(1,.ptr 5 0 0)],[(0,.cells 1 [[.sl 1 6 0 (G.length+1) (G.length+1) false]] true false),(1,.cells 6 (G.map eEn++[eEn e]) true true),(2,.cells 2 [[.ro 9 (ks.map eKd) true,.int .i64 12]] true true),(3,.cells 1 [[.ro 6 [] true]] true true),(4,.cells 2 [[.ro 9 [] true,.int .i64 0]] true true),(5,.cells 3 [[.ro 4 (q.map eQ) qe,.ro 1 (z.map eU8) ze,.int .u8 r]] true true)],6⟩=some (.tup [aR ks true 12,aL R f])/\R.length<=12/\(∀e∈R,fM ks e)/\(bQ R).Nodup:=by
    intro e he hge2;have:=ih (i+1) qqq (G++[e]) qqz qqx (by
     intro y hy;rcases qWj.1 hy with q | q
     ·exact hge y q
     ·simp at q;rw[q];exact hge2) (by simpa [bQ,he]using hn)
    simpa using this
   by_cases c2:G.length<z.length
   ·by_cases c3:(0:Int)<z[G.length]
    ·have hzz:=hz _ (qxq c2);have hm:z[G.length].tmod 40=z[G.length] % 40:=qyq hzz.1;have hm1:(0:Int)<=z[G.length] % 40:=Int.emod_nonneg _ qqq;have hm2:z[G.length] % 40<40:=Int.emod_lt_of_pos _ qqq;obtain⟨R,f,this,hR⟩:=step ⟨l[i],1+z[G.length] % 40,true⟩ rfl ⟨gx,c1,by simp only;omega,.inl rfl⟩;refine⟨R,f,?_,hR⟩;rw[c1]at hii;generalize z[G.length] % 40=M at *;simp only[iO]at this |-;rw[au jD.eq_1];simp at this;simp(disch:=omega) [h1,c2,c3,hm,hii,hfr,hfit,aK,wU8,H.kk,this]
    ·obtain⟨R,f,this,hR⟩:=step (fre ks l[i]) rfl ⟨gx,c1,by unfold fre;simp only;omega,.inr rfl⟩;refine⟨R,f,?_,hR⟩;rw[c1]at hii;simp only[fre]at this;simp only[iO]at this |-;rw[au jD.eq_1];simp at this;simp(disch:=omega) [h1,c2,c3,hii,hfr,hfit,aK,wU8,H.kk,this]
   ·obtain⟨R,f,this,hR⟩:=step (fre ks l[i]) rfl ⟨gx,c1,by unfold fre;simp only;omega,.inr rfl⟩;refine⟨R,f,?_,hR⟩;rw[c1]at hii;simp only[fre]at this;simp only[iO]at this |-;rw[au jD.eq_1];simp at this;simp(disch:=omega) [h1,c2,hii,hfr,hfit,aK,wU8,H.kk,this]
  ·have c1':0<itE ks 12 l[i] false:=by omega
   obtain⟨R,f,this,hR⟩:=ih (i+1) qqq G hne qqq hge (by refine List.Nodup.sublist ?_ hn;exact List.Sublist.append (List.Sublist.refl _) (List.sublist_cons_self _ _));refine⟨R,f,?_,hR⟩;generalize itE ks 12 l[i] false=E at *;simp only[iO]at this |-;rw[au jD.eq_1];simp at this;simp(disch:=omega) [h1,c1',hii,aK,H.kk,this]
theorem ahb(H:vY C)(ks:List Kd)(hks:amE ks)(l:List It)(le:Bool)(hl:l.length<=12)(hg:∀x∈l,Good x)(q:List Q4)(qe:Bool)(z:List Int)(ze:Bool)(hz:∀s∈z,0<=s/\s<=255)(hzl:z.length<9223372036854775808)(r:Int):∀n i,n+i=l.length ->
 (bQ []++(l.drop i).map It.k).Nodup ->
 ∃(R:List En) (f:Bool),iO C ⟨[(7,.int .i64 i),(6,.ptr 0 0 0),(5,.ro 4 (l.map cIt) le),(4,.ptr 1 0 0),(3,.ptr 2 0 0),(2,.ptr 3 0 0),(1,.ptr 4 0 0)],[(0,.cells 1 [[.ro 6 [] true]] true true),(1,.cells 2 [[.ro 9 (ks.map eKd) true,.int .i64 12]] true true),(2,.cells 1 [[.ro 6 [] true]] true true),(3,.cells 2 [[.ro 9 [] true,.int .i64 0]] true true),(4,.cells 3 [[.ro 4 (q.map eQ) qe,.ro 1 (z.map eU8) ze,.int .u8 r]] true true)],5⟩=some (.tup [aR ks true 12,aL R f])/\R.length<=12/\(∀e∈R,fM ks e)/\(bQ R).Nodup:=by
 intro n;induction n with
 |zero=>
  intro i hi  hn;have h1:l.drop i=[]:=qzx qqq;have h3:¬i<l.length:=by omega
  refine⟨[],true,?_,by simp,by simp,by simp⟩;simp only[iO];rw[au jD.eq_1];simp[au GL.eq_1,h3]
 |succ n ih=>
  intro i hi  hn;have h1:i<l.length:=by omega
  have gx:=hg _ (qxq h1);have hii:=JZ H.tozk ks true 12 l[i] gx.it hks.r false;have hfr:=MF H.tozk ks true 12 l[i] gx.it (by have:=gx.t;have:=hks.l;omega);have hbase:=hks.b l[i].t gx.t.1 gx.t.2;rw[drop_cons h1,qvj]at hn;simp only[aR,eIt,qxj,qWq]at hii;simp only[aR,eIt,aE,eEn,fre]at hfr;have hE0:0<=itE ks 12 l[i] false:=by unfold itE;repeat (first | omega | split)
  by_cases c1:itE ks 12 l[i] false=0
  ·have step:∀e:En,e.i=l[i]->fM ks e->∃(R:List En) (f:Bool),iO C ⟨[(7,.int .i64 ((i:Int)+1)),(6,.ptr 0 0 0),(5,.ro 4 (l.map cIt) le),(4,.ptr 2 0 0),(3,.ptr 3 0 0),(2,.ptr 4 0 0),(1,.ptr 5 0 0)],[(0,.cells 1 [[.sl 1 6 0 1 1 false]] true false),(1,.cells 6 [eEn e] true true),(2,.cells 2 [[.ro 9 (ks.map eKd) true,.int .i64 12]] true true),(3,.cells 1 [[.ro 6 [] true]] true true),(4,.cells 2 [[.ro 9 [] true,.int .i64 0]] true true),(5,.cells 3 [[.ro 4 (q.map eQ) qe,.ro 1 (z.map eU8) ze,.int .u8 r]] true true)],6⟩=some (.tup [aR ks true 12,aL R f])/\R.length<=12/\(∀e∈R,fM ks e)/\(bQ R).Nodup:=by intro e he hge2;have:=amb H ks hks l le hl hg q qe z ze hz hzl r n (i+1) qqq [e] qqz qqz (by simpa using hge2) (by simpa [bQ,he]using hn);simpa using this
   by_cases c2:0<z.length
   ·by_cases c3:(0:Int)<z[0]
    ·have hzz:=hz _ (qxq c2);have hm:z[0].tmod 40=z[0] % 40:=qyq hzz.1;have hm1:(0:Int)<=z[0] % 40:=Int.emod_nonneg _ qqq;have hm2:z[0] % 40<40:=Int.emod_lt_of_pos _ qqq;obtain⟨R,f,this,hR⟩:=step ⟨l[i],1+z[0] % 40,true⟩ rfl ⟨gx,c1,by simp only;omega,.inl rfl⟩;refine⟨R,f,?_,hR⟩;rw[c1]at hii;generalize z[0] % 40=M at *;simp only[iO]at this |-;rw[au jD.eq_1];simp at this;simp(disch:=omega) [h1,c2,c3,hm,hii,hfr,aK,wU8,H.kk,this]
    ·obtain⟨R,f,this,hR⟩:=step (fre ks l[i]) rfl ⟨gx,c1,by unfold fre;simp only;omega,.inr rfl⟩;refine⟨R,f,?_,hR⟩;rw[c1]at hii;simp only[fre]at this;simp only[iO]at this |-;rw[au jD.eq_1];simp at this;simp(disch:=omega) [h1,c2,c3,hii,hfr,aK,wU8,H.kk,this]
   ·obtain⟨R,f,this,hR⟩:=step (fre ks l[i]) rfl ⟨gx,c1,by unfold fre;simp only;omega,.inr rfl⟩;refine⟨R,f,?_,hR⟩;rw[c1]at hii;simp only[fre]at this;simp only[iO]at this |-;rw[au jD.eq_1];simp at this;simp(disch:=omega) [h1,c2,hii,hfr,aK,wU8,H.kk,this]
  ·have c1':0<itE ks 12 l[i] false:=by omega
   obtain⟨R,f,this,hR⟩:=ih (i+1) qqq (by simp only[bQ,qgz,qYz]at hn |-;exact(qoq.1 hn).2);refine⟨R,f,?_,hR⟩;generalize itE ks 12 l[i] false=E at *;simp only[iO]at this |-;rw[au jD.eq_1];simp at this;simp(disch:=omega) [h1,c1',hii,aK,H.kk,this]
theorem adu(H:vY C)(hone:∀q:Q4,QIn q->∃i:It,FnW C 422 [.agg (eQ q)]=some (eIt i)/\Good i)(q:List Q4)(qe:Bool)(hq:∀x∈q,QIn x)(z:List Int)(ze:Bool)(hz:∀s∈z,0<=s/\s<=255)(hzl:z.length<9223372036854775808)(r:Int)(hr:0<=r/\r<=255) :
 ∃(R:List En) (f:Bool),FnW C 130 [.agg [.ro 4 (q.map eQ) qe,.ro 1 (z.map eU8) ze,.int .u8 r]]=some (.tup [aR (ay r) true 12,aL R f])/\R.length<=12/\(∀e∈R,fM (ay r) e)/\(bQ R).Nodup:=by
 obtain⟨I,hI,l1,l2,l3⟩:=acg H hone q qe hq;have hk:=ab1 H r hr;obtain⟨R,f,h,hR⟩:=ahb H (ay r) (akt r hr) I false l1 l2 q qe z ze hz hzl r I.length 0 qqz (by simpa [bQ]using l3);refine⟨R,f,?_,hR⟩;rw[aN H.f130 rfl];generalize ay r=ks at *;simp only[iO]at h;simp at h;simp[aie,hI,hk,h,H.kk]
mutual
theorem acI(i:It):∀p:Pt,mk i.own p=mk i p
 |⟨k,t,y,s,se,tx,ch,ce⟩=>by rw[mk,mk,Y0 i ch];rfl
theorem Y0(i:It):∀l:List Pt,mks i.own l=mks i l
 |[]=>rfl
 |p::r=>by rw[mks,mks,acI i p,Y0 i r]
end
theorem UH(ks:List Kd)(hb:∀t:Int,0<=t->t<=2->1<=(jY ks t).b/\(jY ks t).b<=30):∀(l:List En) (s:List Int),(∀e∈l,fM ks e)->(s++bQ l).Nodup->chk ks 12 s l=0
 |[],_,_,_=>rfl
 |e::r,s,hg,hn=>by
  have h1:=hg e qqz;have h2:s.contains e.i.k=false:=by simp only[bQ,qvj]at hn;have:=(qpq.1 hn).2.2;simp only[q6q,qfj];intro q;exact this _ q _ qqz rfl
  have h3:enE ks 12 e false=0:=by
   unfold enE;rw[h1.ok];have hh:hOk e.s=true:=by unfold hOk;have:=h1.s;simp;omega
   simp[hh,h1.b]
  rw[chk,h2,h3];simp only[ne_eq,not_true_eq_false,qWq];refine UH ks hb r _ (λx hx=>hg x (by simp[hx])) ?_;simpa [bQ]using hn
theorem Uy(ks:List Kd):∀(l:List En) (s:Int),(∀e∈l,fM ks e)->0<=s->s+40*l.length<=4611686018427387904->zT s l<=s+40*l.length
 |[],s,_,_,_=>by simp[zT]
 |e::r,s,hg,h0,h=>by have h1:=(hg e qqz).s;have h2:imax e.s 0=e.s:=JO qqq;simp only[qQx]at h |-;rw[zT,h2,qwx qqq];have:=Uy ks r (s+e.s) (λx hx=>hg x (by simp[hx])) qqq qqq;omega
theorem Zt(r:Int)(hr:0<=r/\r<=255)(l:List En)(hl:l.length<=1024)(hg:∀e∈l,fM (ay r) e)(hn:(bQ l).Nodup):ckE (ay r) 12 l=0:=by
 have h1:=UH (ay r) (λt a b=>Zq r hr t ⟨a,b⟩) l [] hg (by simpa using hn);have h2:=Uy (ay r) l 0 hg qqq qqq;have h3:ovE l=0:=by unfold ovE tot;rw[qwx qqq]
 unfold ckE;rw[Nb r hr,h1,qwx qqz,qwx qqq,qwx qqz,h3]
theorem fM.en{ks:List Kd}{e:En}(h:fM ks e):BA e:=⟨h.i.it,by have:=h.s;omega⟩
theorem fM.ow{ks:List Kd}{e:En}(h:fM ks e):fM ks e.own:=by
 refine⟨⟨h.i.k,h.i.t,h.i.x,h.i.l,h.i.m⟩,?_,h.s,h.b⟩;have h1:=h.ok;have e1:∀i:It,zq ks.length i.own=zq ks.length i:=λi=>rfl;have e2:∀(i:It) (p:Pt),lT p i.own 12=lT p i 12:=by
  intro i p;have:mkN i.own p=mkN i p:=by
   have m1:∀p,Go.D.mk i.own p=Go.D.mk i p:=by intro p;exact(acI i p)
   unfold mkN;rw[m1]
  unfold lT;rw[this];rfl
 unfold itE at h1 |-;simp only[En.own,e1,e2];exact h1
end Go.D
end
