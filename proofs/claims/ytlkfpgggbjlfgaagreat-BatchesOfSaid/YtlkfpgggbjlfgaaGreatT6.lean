/- Part of the theory that the claims of this work use: D03, D04, D05, D06, D07, D08, D09, D10, D11, D12, D13, D14, D15, D16, D17, D18, D19, D20, D21, D22, D23, V600, D24, D25, D26, D27, D28, D29, D32, D34, D35, D36, GTy, V27. No conditions of its own. -/
import Derived.Test.YtlkfpgggbjlfgaaGreatT5
import Derived.Sort.Walk0
set_option linter.unusedVariables false
set_option linter.unusedSimpArgs false
set_option maxHeartbeats 4000000
set_option maxRecDepth 10000
section
namespace Go.D
open Go Go.Pav Go.Pw P
attribute [-simp] List.getElem_cons_drop
variable {C:aH}
abbrev Bs:=List UInt8
@[simp] def eA (a:Bs × Bs):List AV:=[.str a.1,.str a.2]
structure Nd where
 k:Int
 t:Bs
 y:Bs
 a:List (Bs × Bs)
 ae:Bool
 x:Bs
 ch:List Nd
 ce:Bool
mutual
def Nd.c:Nd->List AV
 | ⟨k,t,y,a,ae,x,ch,ce⟩=>[.int .u8 k,.str t,.str y,.ro 2 (a.map eA) ae,.str x,.ro 6 (Nd.cs ch) ce]
def Nd.cs:List Nd->List (List AV)
 | []=>[]
 | n::r=>n.c::Nd.cs r
end
theorem Nd.RS:∀ l:List Nd,Nd.cs l=l.map Nd.c
 | []=>rfl
 | n::r=>by rw [Nd.cs,Nd.RS r];rfl
theorem Nd.fH (n:Nd):n.c=[.int .u8 n.k,.str n.t,.str n.y,.ro 2 (n.a.map eA) n.ae,.str n.x,.ro 6 (n.ch.map Nd.c) n.ce]:=by cases n;rw [Nd.c,Nd.RS]
@[simp] theorem Nd.anZ (n:Nd):n.c.length=6:=by rw [Nd.fH];rfl
@[simp] theorem Nd.als (n:Nd):n.c.take 6=n.c:=qzz qqz
@[simp] theorem Nd.c0 (n:Nd):n.c[0]?=some (.int .u8 n.k):=by rw [Nd.fH];rfl
@[simp] theorem Nd.c1 (n:Nd):n.c[1]?=some (.str n.t):=by rw [Nd.fH];rfl
@[simp] theorem Nd.c2 (n:Nd):n.c[2]?=some (.str n.y):=by rw [Nd.fH];rfl
@[simp] theorem Nd.c3 (n:Nd):n.c[3]?=some (.ro 2 (n.a.map eA) n.ae):=by rw [Nd.fH];rfl
@[simp] theorem Nd.c4 (n:Nd):n.c[4]?=some (.str n.x):=by rw [Nd.fH];rfl
@[simp] theorem Nd.c5 (n:Nd):n.c[5]?=some (.ro 6 (n.ch.map Nd.c) n.ce):=by rw [Nd.fH];rfl
@[simp] theorem Nd.g0 (n:Nd) (h:0 < n.c.length):n.c[0]=.int .u8 n.k:=qyj ((qqj h).symm.trans n.c0)
@[simp] theorem Nd.g1 (n:Nd) (h:1 < n.c.length):n.c[1]=.str n.t:=qyj ((qqj h).symm.trans n.c1)
@[simp] theorem Nd.g2 (n:Nd) (h:2 < n.c.length):n.c[2]=.str n.y:=qyj ((qqj h).symm.trans n.c2)
@[simp] theorem Nd.g3 (n:Nd) (h:3 < n.c.length):n.c[3]=.ro 2 (n.a.map eA) n.ae:=qyj ((qqj h).symm.trans n.c3)
@[simp] theorem Nd.g4 (n:Nd) (h:4 < n.c.length):n.c[4]=.str n.x:=qyj ((qqj h).symm.trans n.c4)
@[simp] theorem Nd.g5 (n:Nd) (h:5 < n.c.length):n.c[5]=.ro 6 (n.ch.map Nd.c) n.ce:=qyj ((qqj h).symm.trans n.c5)
@[simp] theorem Nd.hd (n:Nd):n.c.head?=some (.int .u8 n.k):=by rw [Nd.fH];rfl
@[simp] theorem Nd.aoy (n:Nd):bV n.c=false:=by rw [Nd.fH];rfl
@[simp] theorem Nd.ao6 (n:Nd) (h:aG) (k:Nat):aZ (bK h (k+1)) n.c=some n.c:=by rw [Nd.fH];rfl
@[simp] theorem Nd.ahJ (n:Nd) (h:aG) (k:Nat):n.c.flatMap (aK h (k+1))=[]:=by rw [Nd.fH];rfl
@[simp] theorem Nd.an5 (n:Nd) (π:Nat->Option Nat):lV π n.c=some n.c:=by rw [Nd.fH];rfl
@[simp] theorem Nd.alW (n:Nd):CJ n.c=[]:=by rw [Nd.fH];rfl
@[simp] theorem Nd.an4 (n:Nd):n.c.all isC=true:=by rw [Nd.fH];rfl
@[simp] theorem Nd.al4 (n:Nd):n.c.all AV.cell=true:=by rw [Nd.fH];rfl
def after:Option Bs->Bs->Bool
 | none,_=>true
 | some p,a=>decide (p < a)
def atOk:Option Bs->List (Bs × Bs)->Bool
 | _,[]=>true
 | p,a::r=>isName a.1&&isText a.2&&after p a.1&&atOk (some a.1) r
def iR:List Bs->List Bs->Bool
 | _,[]=>true
 | p,k::r=>!(decide (k≠[])&&p.contains k)&&iR (p++[k]) r
def alone (n:Nd):Bool :=
 if n.k=2 then isText n.x&&decide (n.t=[])&&decide (n.y=[])&&decide (n.a=[])&&decide (n.ch=[])
 else decide (n.k=1)&&isName n.t&&(decide (n.y=[])||isName n.y)&&decide (n.x=[])&&decide (n.a.length<=8)&&decide (n.ch.length<=16)&&atOk none n.a&&iR [] (n.ch.map Nd.y)
structure Vj (C:aH):Prop extends pO C where
 akK:C.fns.get 434=some yS
 alX:C.fns.get 519=some aeV
 amC:C.fns.get 518=some abJ
 amP:C.fns.get 562=some aiS
theorem auS (H:Vj C) (n:Nd) (c:Nd):FnW C 519 [.agg n.c,.rop c.c]=some (.bool (decide (n.y=c.y))):=by
 rw [aF H.alX rfl,Nd.fH,Nd.fH];by_cases h:n.y=c.y
 ·simp [aeV,h]
 ·simp [aeV,h]
theorem QX (H:Vj C) (c:Nd) (l:List Nd) (e:Bool) (hl:l.length<=1000000):∀ n i,n+i=l.length ->
 ∃ v:Int,CV C ⟨[(8,.int .i64 i),(7,.int .i64 l.length),(1,.fn 519 [.rop c.c]),(0,.ro 6 (l.map Nd.c) e)],[],0⟩=some (.int .i64 v)/\decide (v < 0)=!((l.drop i).map Nd.y).contains c.y:=by
 intro n;induction n with
 | zero =>
  intro i hi;simp only [CV];rw [aj xP.eq_1];have h1:l.drop i=[]:=qwj qqq;have h3:¬ i < l.length:=by omega
  exact ⟨-1,by simp [aj Qj.eq_1,h3],by simp [h1]⟩
 | succ n ih =>
  intro i hi;have h1:i < l.length:=by omega
  have hb:=auS H l[i] c;rw [drop_cons h1];by_cases q:l[i].y=c.y
  ·refine ⟨i,?_,by simp [q]⟩;simp only [CV];rw [aj xP.eq_1];simp (disch:=omega) [h1,hb,q,H.inl,ak,H.pp,ppB]
  ·obtain ⟨v,hv,hq⟩:=ih (i+1) qqq;refine ⟨v,?_,?_⟩
   ·simp only [CV] at hv |-;rw [aj xP.eq_1];simp at hv;simp (disch:=omega) [h1,aC,hb,q,H.inl,ak,H.pp,ppB,hv]
   ·have q':¬ c.y=l[i].y:=λh=>q h.symm;simp [hq,q']
theorem NY (H:Vj C) (c:Nd) (l:List Nd) (e:Bool) (hl:l.length<=1000000):FnW C 518 [.ro 6 (l.map Nd.c) e,.fn 519 [.rop c.c]]=some (.bool ((l.map Nd.y).contains c.y)):=by
 obtain ⟨v,h,q⟩:=QX H c l e hl l.length 0 qqz;rw [qjq] at q;have h2:FnW C 562 [.ro 6 (l.map Nd.c) e,.fn 519 [.rop c.c]]=some (.int .i64 v):=by rw [aF H.amP rfl];simp only [CV] at h;simp at h;simp [aiS,h]
 have q':(l.map Nd.y).contains c.y=!decide (v < 0):=by rw [q];simp
 rw [aF H.amC rfl,q'];by_cases c:v < 0
 ·have c':¬ 0<=v:=by omega
  simp [abJ,H.inl,ak,H.pp,ppB,h2,c,c']
 ·have c':0<=v:=by omega
  simp [abJ,H.inl,ak,H.pp,ppB,h2,c,c']
theorem blt_eq:∀ x y:Bs,Pav.bytesLess x y=decide (x < y)
 | [],[]=>by simp [Pav.bytesLess]
 | [],_::_=>by simp [Pav.bytesLess]
 | _::_,[]=>by simp [Pav.bytesLess]
 | a::x,b::y=>by
  rw [Pav.bytesLess,blt_eq x y];by_cases h:a < b
  ·simp [h,q5j]
  ·by_cases q:a=b
   ·simp [h,q,q5j]
   ·simp [h,q,q5j]
theorem D9 (x y:Bs):(Pav.bytesLess x y||x == y)=!decide (y < x):=by
 rw [blt_eq];by_cases h:y < x
 ·have h1:¬ x < y:=λq=>List.lt_irrefl x (List.lt_trans q h);have h2:¬ x=y:=λq=>by subst q;exact List.lt_irrefl x h
  simp [h,h1,h2]
 ·rcases Decidable.em (x=y) with q | q
  ·simp [h,q]
  ·have h1:x < y:=qpq λp=>q (List.le_antisymm (q4j.1 h) (q4j.1 p));simp [h,h1]
theorem aa5 (H:Vj C) (k:Int) (t y x:Bs) (a:List (Bs × Bs)) (ae ce:Bool) (ch:List Nd) (hl:ch.length<=1000000):∀ n i,n+i=ch.length ->
 Gq C ⟨[(142,.int .i64 i),(141,.int .i64 ch.length),(140,.ro 6 (ch.map Nd.c) ce),(0,.rop [.int .u8 k,.str t,.str y,.ro 2 (a.map eA) ae,.str x,.ro 6 (ch.map Nd.c) ce])],[],0⟩ =
  some (.bool (iR ((ch.map Nd.y).take i) ((ch.map Nd.y).drop i))):=by
 intro n;induction n with
 | zero =>
  intro i hi;simp only [Gq];rw [aj BQ.eq_1];have h1:(ch.map Nd.y).drop i=[]:=qwj qqx;have h3:¬ i < ch.length:=by omega
  simp [aj Qu.eq_1,h1,h3,iR,-List.map_drop]
 | succ n ih =>
  intro i hi;have h1:i < ch.length:=by omega
  have h2:i < (ch.map Nd.y).length:=by simp;omega
  have hb:=NY H ch[i] (ch.take i) false qqx;have:=ih (i+1) qqq;rw [qJq h2] at this;rw [drop_cons h2,iR];have hy:(ch.map Nd.y)[i]=ch[i].y:=by simp
  rw [qdj,qdj] at hb;rw [hy] at this |-;have hne:¬ i=ch.length:=by omega
  have hle:i<=ch.length:=by omega
  simp only [Gq] at this |-;rw [aj BQ.eq_1];generalize hP:(ch.map Nd.y).take i=P at *;generalize hQ:(ch.map Nd.y).drop (i+1)=Q at *;simp at this;by_cases c1:ch[i].y=[]
  ·rw [c1] at this;simp (disch:=omega) [h1,aC,c1,H.inl,ak,H.pp,ppB,this]
  ·by_cases c2:P.contains ch[i].y=true
   ·rw [c2] at hb;have c2':ch[i].y ∈ P:=by simpa using c2
    simp (disch:=omega) [h1,hne,hle,aC,c1,c2',hb,H.inl,ak,H.pp,ppB,this]
   ·have c2':¬ ch[i].y ∈ P:=by simpa using c2
    have c3:P.contains ch[i].y=false:=by simpa using c2
    rw [c3] at hb;simp (disch:=omega) [h1,hne,hle,aC,c1,c2',hb,H.inl,ak,H.pp,ppB,this]
theorem JB (H:Vj C) (k:Int) (t y x:Bs) (a:List (Bs × Bs)) (ae ce:Bool) (ch:List Nd) (hl:ch.length<=1000000) (ha:a.length<=1000000):∀ n i,n+i=a.length ->
 Aj C ⟨[(103,.int .i64 i),(102,.int .i64 a.length),(101,.ro 2 (a.map eA) ae),(0,.rop [.int .u8 k,.str t,.str y,.ro 2 (a.map eA) ae,.str x,.ro 6 (ch.map Nd.c) ce])],[],0⟩ =
  some (.bool (atOk (if i=0 then none else (a[i - 1]?).map Prod.fst) (a.drop i)&&iR [] (ch.map Nd.y))):=by
 intro n;induction n with
 | zero =>
  intro i hi;have hk:=aa5 H k t y x a ae ce ch hl ch.length 0 qqz;simp only [zvz,qjq] at hk;generalize iR [] (ch.map Nd.y)=K at *;simp only [Gq] at hk;simp at hk;simp only [Aj];rw [aj BU.eq_1];have h1:a.drop i=[]:=qwj qqq;have h3:¬ i < a.length:=by omega
  simp [aj PO.eq_1,h1,h3,atOk,hk]
 | succ n ih =>
  intro i hi;have h1:i < a.length:=by omega
  have hb:=named_ok H.topO a[i].1;have hc:=XT H.topO a[i].2;have:=ih (i+1) qqq;rw [qwq qqq,show i+1 - 1=i from rfl,qqj h1] at this;rw [drop_cons h1,atOk];generalize hK:iR [] (ch.map Nd.y)=K at *;simp only [Aj] at this |-;rw [aj BU.eq_1];simp only [qiq] at this;generalize atOk (some a[i].1) (a.drop (i+1))=R at *;simp at this;cases q1:isName a[i].1
  ·rw [q1] at hb;simp (disch:=omega) [h1,aC,hb,H.inl,ak,H.pp,ppB]
  ·cases q2:isText a[i].2
   ·rw [q1] at hb;rw [q2] at hc;simp (disch:=omega) [h1,aC,hb,hc,H.inl,ak,H.pp,ppB]
   ·rw [q1] at hb;rw [q2] at hc;cases i with
    | zero =>simp at this;simp (disch:=omega) [h1,aC,hb,hc,H.inl,ak,H.pp,ppB,this,after]
    | succ i =>
     have h4:i < a.length:=by omega
     have h5:(i:Int)+1 < a.length:=by omega
     simp at this;by_cases q3:a[i].1 < a[i+1].1
     ·have q4:¬ a[i+1].1<=a[i].1:=List.not_le.2 q3;simp (disch:=omega) [h1,h4,h5,aC,hb,hc,H.inl,ak,H.pp,ppB,this,D9,after,q3,q4]
     ·have q4:a[i+1].1<=a[i].1:=q4j.1 q3;simp (disch:=omega) [h1,h4,h5,aC,hb,hc,H.inl,ak,H.pp,ppB,this,D9,after,q3,q4]
theorem abO (H:Vj C) (n:Nd):FnW C 434 [.rop n.c]=some (.bool (alone n)):=by
 obtain ⟨k,t,y,a,ae,x,ch,ce⟩:=n;rw [aF H.akK rfl,Nd.fH];simp only [];unfold alone;simp only [];have ht:=named_ok H.topO t;have hy:=named_ok H.topO y;have hx:=XT H.topO x;by_cases k2:k=2
 ·rw [qwz k2];generalize isText x=X at *;cases X
  ·simp [yS,k2,hx,H.inl,ak,H.pp,ppB]
  ·by_cases c1:t=[] <;> by_cases c2:y=[] <;> by_cases c3:a=[] <;> by_cases c4:ch=[] <;> simp [yS,k2,hx,H.inl,ak,H.pp,ppB,c1,c2,c3,c4]
 ·rw [qwq k2];by_cases k1:k=1
  ·cases q1:isName t
   ·rw [q1] at ht;simp [yS,k1,ht,H.inl,ak,H.pp,ppB]
   ·rw [q1] at ht;by_cases c2:y=[]
    ·subst c2;by_cases c3:x=[]
     ·subst c3;by_cases c4:a.length<=8
      ·by_cases c5:ch.length<=16
       ·have c6:¬ 8 < (a.length:Int):=by omega
        have c7:¬ 16 < (ch.length:Int):=by omega
        have hl:=JB H 1 t [] [] a ae ce ch qqq qqq a.length 0 qqz;simp only [Aj,qQx,qjq] at hl;generalize atOk none a=A at *;generalize iR [] (ch.map Nd.y)=K at *;simp at hl;simp [yS,k1,ht,H.inl,ak,H.pp,ppB,c4,c5,c6,c7,hl]
       ·have c6:¬ 8 < (a.length:Int):=by omega
        have c7:16 < (ch.length:Int):=by omega
        simp [yS,k1,ht,H.inl,ak,H.pp,ppB,c4,c5,c6,c7]
      ·have c6:8 < (a.length:Int):=by omega
       simp [yS,k1,ht,H.inl,ak,H.pp,ppB,c4,c6]
     ·simp [yS,k1,ht,H.inl,ak,H.pp,ppB,c3]
    ·cases q2:isName y
     ·rw [q2] at hy;simp [yS,k1,ht,hy,H.inl,ak,H.pp,ppB,c2]
     ·rw [q2] at hy;by_cases c3:x=[]
      ·subst c3;by_cases c4:a.length<=8
       ·by_cases c5:ch.length<=16
        ·have c6:¬ 8 < (a.length:Int):=by omega
         have c7:¬ 16 < (ch.length:Int):=by omega
         have hl:=JB H 1 t y [] a ae ce ch qqq qqq a.length 0 qqz;simp only [Aj,qQx,qjq] at hl;generalize atOk none a=A at *;generalize iR [] (ch.map Nd.y)=K at *;simp at hl;simp [yS,k1,ht,hy,H.inl,ak,H.pp,ppB,c2,c4,c5,c6,c7,hl]
        ·have c6:¬ 8 < (a.length:Int):=by omega
         have c7:16 < (ch.length:Int):=by omega
         simp [yS,k1,ht,hy,H.inl,ak,H.pp,ppB,c2,c4,c5,c6,c7]
       ·have c6:8 < (a.length:Int):=by omega
        simp [yS,k1,ht,hy,H.inl,ak,H.pp,ppB,c2,c4,c6]
      ·simp [yS,k1,ht,hy,H.inl,ak,H.pp,ppB,c2,c3]
  ·simp [yS,k1,k2,H.inl,ak,H.pp,ppB]
end Go.D
end
section
namespace Go.D
open Go Go.Pav Go.Pw P
attribute [-simp] List.getElem_cons_drop
variable {C:aH}
mutual
/-- The walk below a node: whether it ends well, how many nodes, how many levels. -/
def wk:Nd->Nat->Nat × Nat->Bool × (Nat × Nat)
 | ⟨k,t,y,a,ae,x,ch,ce⟩,lv,(c,d)=>if 6 < lv\/64 < c+1\/alone ⟨k,t,y,a,ae,x,ch,ce⟩=false then (false,(c+1,max d lv)) else wks ch (lv+1) (c+1,max d lv)
def wks:List Nd->Nat->Nat × Nat->Bool × (Nat × Nat)
 | [],_,s=>(true,s)
 | m::r,lv,s=>if (wk m lv s).1=true then wks r lv (wk m lv s).2 else (false,(wk m lv s).2)
end
theorem aeQ (n:Nd) (lv c d:Nat):wk n lv (c,d)=if 6 < lv\/64 < c+1\/alone n=false then (false,(c+1,max d lv)) else wks n.ch (lv+1) (c+1,max d lv):=by cases n;rw [wk]
structure SV (C:aH):Prop extends Vj C where
 amY:C.fns.get 433=some JF
 f282:C.fns.get 282=some afV
 f140:C.fns.get 140=some afB
 ald:C.fns.get 439=some abS
abbrev hpM (root:Nd) (s:Nat × Nat):aG:=[(0,.cells 6 [root.c] true true),(1,.cells 1 [[.int .i64 s.1]] true true),(2,.cells 1 [[.int .i64 s.2]] true true),(3,.cells 1 [[.fn 433 [.ptr 1 0 0,.ptr 2 0 0,.ptr 3 0 0]]] true false)]
mutual
theorem ajT:∀ (n:Nd) (lv c d:Nat),lv<=7->c<=64->d<=7->((wk n lv (c,d)).1=true->(wk n lv (c,d)).2.1<=64)/\(wk n lv (c,d)).2.2<=7
 | ⟨k,t,y,a,ae,x,ch,ce⟩,lv,c,d,h1,h2,h3=>by
  rw [wk];split
  ·exact ⟨λq=>by simp at q,by simp only;omega⟩
  ·rename_i h;exact aeM ch (lv+1) (c+1) (max d lv) qqq qqq qqq
theorem aeM:∀ (l:List Nd) (lv c d:Nat),lv<=7->c<=64->d<=7->((wks l lv (c,d)).1=true->(wks l lv (c,d)).2.1<=64)/\(wks l lv (c,d)).2.2<=7
 | [],lv,c,d,h1,h2,h3=>by rw [wks];exact ⟨λ_=>h2,h3⟩
 | m::r,lv,c,d,h1,h2,h3=>by
  have h4:=ajT m lv c d h1 h2 h3;rw [wks];split
  ·rename_i h;exact aeM r lv _ _ h1 (h4.1 h) h4.2
  ·exact ⟨λq=>by simp at q,h4.2⟩
end
def Walks (C:aH) (root nd:Nd):Prop:=∀ (lv c d n:Nat),4<=n->c<=64->d<=7->lv<=7 ->
 ∃ n',RnW C 433 [.rop nd.c,.int .i64 lv,.ptr 1 0 0,.ptr 2 0 0,.ptr 3 0 0] (hpM root (c,d)) n=some (.bool (wk nd lv (c,d)).1,hpM root (wk nd lv (c,d)).2,n')
theorem mG (d lv:Nat):imax d lv=((max d lv:Nat):Int):=by
 by_cases h:lv<=d
 ·rw [Qr qqq,Nat.max_eq_left h]
 ·rw [afc qqq,Nat.max_eq_right qqq]
theorem Zl (H:SV C) (root nd:Nd) (X:AV) (hX:X=.rop nd.c\/X=.ptr 0 0 0/\root=nd) (lv n:Nat) (hn:4<=n) (hlv:lv<=6) (hl:nd.ch.length<=16) (ih:∀ m ∈ nd.ch,Walks C root m):∀ j i,j+i=nd.ch.length->∀ c d,c<=64->d<=7 ->
 ∃ n',CK C n (fQ [.tmp 7]) [.sq OA,.bk 0 ⟨true,[],[]⟩,.sq Fv] xG ⟨[(30,.int .i64 i),(29,.int .i64 nd.ch.length),(4,.ptr 3 0 0),(1,.int .i64 lv),(0,X)],hpM root (c,d),n⟩ =
  some (.bool (wks (nd.ch.drop i) (lv+1) (c,d)).1,hpM root (wks (nd.ch.drop i) (lv+1) (c,d)).2,n'):=by
 have n0:0 < n:=by omega
 have n1:1 < n:=by omega
 have n2:2 < n:=by omega
 have n3:3 < n:=by omega
 intro j;induction j with
 | zero =>
  intro i hi c d hc hd;have h1:nd.ch.drop i=[]:=qwj qqq;have h3:¬ i < nd.ch.length:=by omega
  rw [h1,wks,aj xG.eq_1];refine ⟨?_,?_⟩
  rotate_left
  ·rcases hX with rfl | ⟨rfl,rfl⟩
   ·simp (disch:=omega) [aj Fv.eq_1,n0,n1,n2,n3,h3];rfl
   ·simp (disch:=omega) [aj Fv.eq_1,n0,n1,n2,n3,h3]
 | succ j ihj =>
  intro i hi c d hc hd;have h1:i < nd.ch.length:=by omega
  obtain ⟨n',hw⟩:=ih _ (qxx h1) (lv+1) c d (n+1+1+1+11) qqq hc hd qqq;have hb:=ajT nd.ch[i] (lv+1) c d qqq hc hd;rw [drop_cons h1,wks];generalize hR:wk nd.ch[i] (lv+1) (c,d)=R at *;obtain ⟨r,c',d'⟩:=R;cases r with
  | true =>
   obtain ⟨n2',hw2⟩:=ihj (i+1) qqq c' d' (hb.1 rfl) hb.2;refine ⟨n2',?_⟩;rw [qwz rfl];rw [aj xG.eq_1];simp at hw hw2;rcases hX with rfl | ⟨rfl,rfl⟩
   ·simp (disch:=omega) [aC,H.inl,ak,H.pp,ppB,n0,n1,n2,n3,h1,hw,hw2]
   ·simp (disch:=omega) [aC,H.inl,ak,H.pp,ppB,n0,n1,n2,n3,h1,hw,hw2]
  | false =>
   rw [qwq qqz];rw [aj xG.eq_1];simp at hw;refine ⟨?_,?_⟩
   rotate_left
   ·rcases hX with rfl | ⟨rfl,rfl⟩
    ·simp (disch:=omega) [aC,H.inl,ak,H.pp,ppB,n0,n1,n2,n3,h1,hw];rfl
    ·simp (disch:=omega) [aC,H.inl,ak,H.pp,ppB,n0,n1,n2,n3,h1,hw]
theorem LQ (H:SV C) (root nd:Nd) (X:AV) (hX:X=.rop nd.c\/X=.ptr 0 0 0/\root=nd) (ih:∀ m ∈ nd.ch,Walks C root m) (lv c d n:Nat) (hn:4<=n) (hc:c<=64) (hd:d<=7) (hlv:lv<=7) :
 ∃ n',RnW C 433 [X,.int .i64 lv,.ptr 1 0 0,.ptr 2 0 0,.ptr 3 0 0] (hpM root (c,d)) n=some (.bool (wk nd lv (c,d)).1,hpM root (wk nd lv (c,d)).2,n'):=by
 rw [iP (args:=[X,.int .i64 lv,.ptr 1 0 0,.ptr 2 0 0,.ptr 3 0 0]) H.amY rfl (hpM root (c,d)) n,aeQ];have ha:=abO H.toVj nd;have n0:0 < n:=by omega
 have n1:1 < n:=by omega
 have n2:2 < n:=by omega
 have n3:3 < n:=by omega
 by_cases b1:6 < lv
 ·rw [qwz (.inl b1)];refine ⟨?_,?_⟩
  rotate_left
  ·rcases hX with rfl | ⟨rfl,rfl⟩
   ·simp (disch:=omega) [JF,aC,H.inl,ak,H.pp,ppB,b1,n0,n1,n2,n3,mG];rfl
   ·simp (disch:=omega) [JF,aC,H.inl,ak,H.pp,ppB,b1,n0,n1,n2,n3,mG]
 ·by_cases b2:64 < c+1
  ·rw [qwz (.inr (.inl b2))];have b2':64 < (c:Int)+1:=by omega
   refine ⟨?_,?_⟩
   rotate_left
   ·rcases hX with rfl | ⟨rfl,rfl⟩
    ·simp (disch:=omega) [JF,aC,H.inl,ak,H.pp,ppB,b1,b2',n0,n1,n2,n3,mG];rfl
    ·simp (disch:=omega) [JF,aC,H.inl,ak,H.pp,ppB,b1,b2',n0,n1,n2,n3,mG]
  ·have b2':¬ 64 < (c:Int)+1:=by omega
   cases b3:alone nd with
   | false =>
    rw [qwz (.inr (.inr rfl))];rw [b3] at ha;refine ⟨?_,?_⟩
    rotate_left
    ·rcases hX with rfl | ⟨rfl,rfl⟩
     ·simp (disch:=omega) [JF,aC,H.inl,ak,H.pp,ppB,b1,b2',ha,n0,n1,n2,n3,mG];rfl
     ·simp (disch:=omega) [JF,aC,H.inl,ak,H.pp,ppB,b1,b2',ha,n0,n1,n2,n3,mG]
   | true =>
    rw [qwq qqx];have hl:nd.ch.length<=16:=by
     unfold alone at b3;split at b3
     ·simp at b3;rw [b3.2];simp
     ·simp at b3;omega
    rw [b3] at ha;obtain ⟨n',hw⟩:=Zl H root nd X hX lv n hn qqq hl ih nd.ch.length 0 qqz (c+1) (max d lv) qqq qqq;refine ⟨n',?_⟩;rw [qjq] at hw;have hI:=mG d lv;generalize max d lv=D at *;generalize wks nd.ch (lv+1) (c+1,D)=R at *;simp only [hpM] at hw |-;simp at hw;rcases hX with rfl | ⟨rfl,rfl⟩
    ·simp (disch:=omega) [JF,aC,H.inl,ak,H.pp,ppB,b1,b2',ha,n0,n1,n2,n3,hI,hw]
    ·simp (disch:=omega) [JF,aC,H.inl,ak,H.pp,ppB,b1,b2',ha,n0,n1,n2,n3,hI,hw]
theorem yE (n:Nd):SizeOf.sizeOf n.ch < SizeOf.sizeOf n:=by cases n;simp;omega
theorem walks (H:SV C) (root nd:Nd):Walks C root nd :=λlv c d n hn hc hd hlv=>LQ H root nd (.rop nd.c) (.inl rfl) (λm hm=>walks H root m) lv c d n hn hc hd hlv
termination_by SizeOf.sizeOf nd
decreasing_by
 have:=qoj hm;have:=yE nd;omega
def cnt (n:Nd):Nat:=if (wk n 1 (0,0)).1=true then (wk n 1 (0,0)).2.1 else 0
def dep (n:Nd):Nat:=if (wk n 1 (0,0)).1=true then (wk n 1 (0,0)).2.2 else 0
theorem WZ (H:SV C) (n:Nd):FnW C 282 [.agg n.c]=some (.tup [.int .i64 (cnt n),.int .i64 (dep n)]):=by rw [aF H.f282 rfl];have hw:=λk hk=>LQ H n n (.ptr 0 0 0) (.inr ⟨rfl,rfl⟩) (λm _=>walks H n m) 1 0 0 k hk qqq qqq qqq;unfold cnt dep;generalize wk n 1 (0,0)=R at *;obtain ⟨r,c,d⟩:=R;obtain ⟨n',h⟩:=hw 8 qqq;simp only [hpM] at h;simp at h;cases r <;> simp [afV,H.inl,ak,H.pp,ppB,h]
theorem Um (H:SV C) (n:Nd):FnW C 140 [.agg n.c]=some (.int .i64 (cnt n)):=by have h:=WZ H n;rw [aF H.f140 rfl];simp [afB,H.inl,ak,H.pp,ppB,h]
theorem rZ (H:SV C) (n:Nd):FnW C 439 [.agg n.c]=some (.int .i64 (if cnt n=0 then 14 else 0)):=by
 have h:=Um H n;rw [aF H.ald rfl];by_cases c:cnt n=0
 ·simp [abS,H.inl,ak,H.pp,ppB,h,c]
 ·simp [abS,H.inl,ak,H.pp,ppB,h,c]
end Go.D
end
section
namespace Go.D
open Go Go.Pav Go.Pw P
attribute [-simp] List.getElem_cons_drop
variable {C:aH}
structure RI (C:aH):Prop extends SV C where
 ae2:C.fns.get 563=some yR
 akX:C.fns.get 520=some aao
 amR:C.fns.get 442=some aeI
 alz:C.fns.get 441=some adK
abbrev hp1 (n:Nd):aG:=[(0,.cells 6 [n.c] true true)]
theorem adI (n:Nd) (i:Nat) (hi:i < n.ch.length) (hl:n.ch.length<=16) (R:AV)
 (hout:wX C ⟨[(5,.int .i64 (i+1:Nat)),(1,.ptr 0 0 0)],hp1 n,1⟩=some R):∀ j k,j+k=i ->
 Gw C ⟨[(6,.int .i64 k),(5,.int .i64 i),(1,.ptr 0 0 0)],hp1 n,1⟩=some (if decide (n.ch[i].y≠[])&&(((n.ch.map Nd.y).take i).drop k).contains n.ch[i].y then .bool false else R):=by
 intro j;induction j with
 | zero =>
  intro k hk;have h1:((n.ch.map Nd.y).take i).drop k=[]:=qwj qqx;have h3:¬ k < i:=by omega
  simp only [wX] at hout;simp only [Gw];rw [aj Dc.eq_1];simp at hout;simp (disch:=omega) [aj Nz.eq_1,h1,h3,aC,hout]
 | succ j ih =>
  intro k hk;have h1:k < i:=by omega
  have h2:k < n.ch.length:=by omega
  have hlt:k < ((n.ch.map Nd.y).take i).length:=by simp;omega
  have:=ih (k+1) qqq;rw [drop_cons hlt];have hy:((n.ch.map Nd.y).take i)[k]=n.ch[k].y:=by simp
  rw [hy];generalize (((n.ch.map Nd.y).take i).drop (k+1))=Q at *;simp only [Gw] at this |-;rw [aj Dc.eq_1];simp at this;by_cases c1:n.ch[i].y=[]
  ·simp [c1] at this;simp (disch:=omega) [h1,h2,hi,aC,c1,this]
  ·by_cases c2:n.ch[i].y=n.ch[k].y
   ·have c3:¬ n.ch[k].y=[]:=by rw [<- c2];exact c1
    simp (disch:=omega) [h1,h2,hi,aC,c1,c2,c3]
   ·simp [c1] at this;simp (disch:=omega) [h1,h2,hi,aC,c1,c2,this]
theorem aaQ (n:Nd) (hl:n.ch.length<=16):∀ j i,j+i=n.ch.length ->
 wX C ⟨[(5,.int .i64 i),(1,.ptr 0 0 0)],hp1 n,1⟩=some (.bool (iR ((n.ch.map Nd.y).take i) ((n.ch.map Nd.y).drop i))):=by
 intro j;induction j with
 | zero =>
  intro i hi;simp only [wX];rw [aj CQ.eq_1];have h1:(n.ch.map Nd.y).drop i=[]:=qwj qqx;have h3:¬ i < n.ch.length:=by omega
  simp [aj Gm.eq_1,h1,h3,iR,-List.map_drop]
 | succ j ih =>
  intro i hi;have h1:i < n.ch.length:=by omega
  have h2:i < (n.ch.map Nd.y).length:=by simp;omega
  have hin:=adI n i h1 hl _ (ih (i+1) qqq) i 0 qqz;have hy:(n.ch.map Nd.y)[i]=n.ch[i].y:=by simp
  rw [qJq h2,qjq,hy] at hin;rw [drop_cons h2,iR,hy];generalize (n.ch.map Nd.y).take i=P at *;generalize (n.ch.map Nd.y).drop (i+1)=Q at *;simp only [wX,Gw] at hin |-;rw [aj CQ.eq_1];simp at hin;by_cases c1:n.ch[i].y=[]
  ·simp [c1] at hin;simp (disch:=omega) [h1,hin,c1]
  ·by_cases c2:n.ch[i].y ∈ P
   ·simp [c1,c2] at hin;simp (disch:=omega) [h1,hin,c1,c2]
   ·simp [c1,c2] at hin;simp (disch:=omega) [h1,hin,c1,c2]
theorem acs (n:Nd) (i:Nat) (hi:i < n.a.length) (hl:n.a.length<=8) (R:AV)
 (hout:oN C ⟨[(3,.int .i64 (i+1:Nat)),(1,.ptr 0 0 0)],hp1 n,1⟩=some R):∀ j k,j+k=i ->
 qX C ⟨[(4,.int .i64 k),(3,.int .i64 i),(1,.ptr 0 0 0)],hp1 n,1⟩=some (if ((n.a.take i).drop k).all (λb=>decide (b.1 < n.a[i].1))=true then R else .bool false):=by
 intro j;induction j with
 | zero =>
  intro k hk;have h1:(n.a.take i).drop k=[]:=qwj qqx;have h3:¬ k < i:=by omega
  simp only [oN] at hout;simp only [qX];rw [aj sV.eq_1];simp at hout;simp (disch:=omega) [aj Oh.eq_1,h1,h3,aC,hout]
 | succ j ih =>
  intro k hk;have h1:k < i:=by omega
  have h2:k < n.a.length:=by omega
  have hlt:k < (n.a.take i).length:=by simp;omega
  have:=ih (k+1) qqq;rw [drop_cons hlt];have hy:(n.a.take i)[k]=n.a[k]:=by simp
  rw [hy];generalize ((n.a.take i).drop (k+1))=Q at *;simp only [qX] at this |-;rw [aj sV.eq_1];simp at this;by_cases c1:n.a[k].1 < n.a[i].1
  ·rw [qdz,qVj c1,qYj];simp (disch:=omega) [h1,h2,hi,aC,blt_eq,c1,this]
  ·rw [qdz,qJz c1,qsz];have c2:n.a[i].1<=n.a[k].1:=q4j.1 c1;simp (disch:=omega) [h1,h2,hi,aC,blt_eq,c1,c2]
theorem aaC (n:Nd) (i:Nat) (hi:i < n.a.length) (hl:n.a.length<=8):∀ j k,j+k=i->((n.a.take i).drop k).all (λb=>decide (b.1 < n.a[i].1))=false ->
 qX C ⟨[(4,.int .i64 k),(3,.int .i64 i),(1,.ptr 0 0 0)],hp1 n,1⟩=some (.bool false):=by
 intro j;induction j with
 | zero =>intro k hk hf;have h1:(n.a.take i).drop k=[]:=qwj qqx;rw [h1] at hf;simp at hf
 | succ j ih =>
  intro k hk hf;have h1:k < i:=by omega
  have h2:k < n.a.length:=by omega
  have hlt:k < (n.a.take i).length:=by simp;omega
  rw [drop_cons hlt] at hf;have hy:(n.a.take i)[k]=n.a[k]:=by simp
  rw [hy,qdz] at hf;by_cases c1:n.a[k].1 < n.a[i].1
  ·rw [qVj c1,qYj] at hf;have:=ih (k+1) qqq hf;simp only [qX] at this |-;rw [aj sV.eq_1];simp at this;simp (disch:=omega) [h1,h2,hi,aC,blt_eq,c1,this]
  ·have c2:n.a[i].1<=n.a[k].1:=q4j.1 c1;simp only [qX];rw [aj sV.eq_1];simp (disch:=omega) [h1,h2,hi,aC,blt_eq,c1,c2]
theorem Y6 (H:RI C) (n:Nd) (hl:n.a.length<=8) (hl2:n.ch.length<=16):∀ j i,j+i=n.a.length->(∀ (p q:Nat) (hp:p < n.a.length) (hq:q < n.a.length),p < q->q < i->n.a[p].1 < n.a[q].1) ->
 oN C ⟨[(3,.int .i64 i),(1,.ptr 0 0 0)],hp1 n,1⟩=some (.bool (atOk (if i=0 then none else (n.a[i - 1]?).map Prod.fst) (n.a.drop i)&&iR [] (n.ch.map Nd.y))):=by
 intro j;induction j with
 | zero =>
  intro i hi hs;have hk:=aaQ (C:=C) n hl2 n.ch.length 0 qqz;simp only [zvz,qjq] at hk;generalize iR [] (n.ch.map Nd.y)=K at *;simp only [wX] at hk;simp at hk;simp only [oN];rw [aj uh.eq_1];have h1:n.a.drop i=[]:=qwj qqq;have h3:¬ i < n.a.length:=by omega
  simp [aj G9.eq_1,h1,h3,atOk,hk]
 | succ j ih =>
  intro i hi hs;have h1:i < n.a.length:=by omega
  have hb:=qc H.topO n.a[i].1;have hc:=BR H.topO n.a[i].2;rw [drop_cons h1,atOk];generalize hK:iR [] (n.ch.map Nd.y)=K at *;cases q1:isName n.a[i].1
  ·rw [q1] at hb;simp only [oN];rw [aj uh.eq_1];simp (disch:=omega) [h1,aC,hb,H.inl,ak,H.pp,ppB]
  ·cases q2:isText n.a[i].2
   ·rw [q1] at hb;rw [q2] at hc;simp only [oN];rw [aj uh.eq_1];simp (disch:=omega) [h1,aC,hb,hc,H.inl,ak,H.pp,ppB]
   ·rw [q1] at hb;rw [q2] at hc;have key:(n.a.take i).all (λb=>decide (b.1 < n.a[i].1))=after (if i=0 then none else (n.a[i - 1]?).map Prod.fst) n.a[i].1:=by
     cases i with
     | zero=>simp [after]
     | succ i =>
      have h4:i < n.a.length:=by omega
      rw [qwq qqq,show i+1 - 1=i from rfl,qqj h4];simp only [qiq,after];by_cases q3:n.a[i].1 < n.a[i+1].1
      ·rw [qVj q3,qjx];intro b hb;obtain ⟨p,hp,rfl⟩:=qvx hb;simp at hp;rw [List.getElem_take];apply qVj;by_cases e:p=i
       ·subst e;exact q3
       ·exact List.lt_trans (hs p i qqq h4 qqq qqq) q3
      ·rw [qJz q3,List.all_eq_false];exact ⟨n.a[i],zqj.2 ⟨i,by omega,rfl⟩,by simp [q3]⟩
    have step:∀ R,qX C ⟨[(4,.int .i64 (0:Nat)),(3,.int .i64 i),(1,.ptr 0 0 0)],hp1 n,1⟩=some R->oN C ⟨[(3,.int .i64 i),(1,.ptr 0 0 0)],hp1 n,1⟩=some R:=by intro R hR;simp only [oN,qX] at hR |-;rw [aj uh.eq_1];simp at hR;simp (disch:=omega) [h1,aC,hb,hc,H.inl,ak,H.pp,ppB,hR]
    by_cases q3:(n.a.take i).all (λb=>decide (b.1 < n.a[i].1))=true
    ·have:=ih (i+1) qqq (λp q hp hq h5 h6=>by
      by_cases e:q=i
      ·subst e;have:=qjx.1 q3 n.a[p] (zqj.2 ⟨p,by omega,rfl⟩);simpa using this
      ·exact hs p q hp hq h5 qqq)
     rw [qwq qqq,show i+1 - 1=i from rfl,qqj h1] at this;have hin:=acs n i h1 hl _ this i 0 qqz;rw [qjq,qwz q3] at hin;rw [step _ hin,<- key,q3];simp
    ·have q4:(n.a.take i).all (λb=>decide (b.1 < n.a[i].1))=false:=Bool.eq_false_iff.2 q3;rw [<- key,q4];simp only [zqz,qsz];exact step _ (aaC n i h1 hl i 0 qqz (by rw [qjq];exact q4))
theorem akz (H:RI C) (n:Nd):FnW C 563 [.agg n.c]=some (.bool (alone n)):=by
 rw [aF H.ae2 rfl];unfold alone;have ht:=qc H.topO n.t;have hy:=qc H.topO n.y;have hx:=BR H.topO n.x;by_cases k2:n.k=2
 ·rw [qwz k2];generalize isText n.x=X at *;cases X
  ·simp [yR,k2,hx,H.inl,ak,H.pp,ppB]
  ·by_cases c1:n.t=[] <;> by_cases c2:n.y=[] <;> by_cases c3:n.a=[] <;> by_cases c4:n.ch=[] <;> simp [yR,k2,hx,H.inl,ak,H.pp,ppB,c1,c2,c3,c4]
 ·rw [qwq k2];by_cases k1:n.k=1
  ·cases q1:isName n.t
   ·rw [q1] at ht;simp [yR,k1,ht,H.inl,ak,H.pp,ppB]
   ·rw [q1] at ht;have rest:(n.y=[]\/n.y≠[]/\isName n.y=true)->FnW C 563 [.agg n.c]=some (.bool (decide (n.x=[])&&decide (n.a.length<=8)&&decide (n.ch.length<=16)&&atOk none n.a&&iR [] (n.ch.map Nd.y))):=by
     intro hyy;rw [aF H.ae2 rfl];by_cases c3:n.x=[]
     ·by_cases c4:n.a.length<=8
      ·by_cases c5:n.ch.length<=16
       ·have c6:¬ 8 < (n.a.length:Int):=by omega
        have c7:¬ 16 < (n.ch.length:Int):=by omega
        have hl:=Y6 H n c4 c5 n.a.length 0 qqz qqq;simp only [oN,qQx,qjq] at hl;generalize atOk none n.a=A at *;generalize iR [] (n.ch.map Nd.y)=K at *;simp at hl;rcases hyy with c2 | ⟨c2,q2⟩
        ·simp [yR,k1,ht,H.inl,ak,H.pp,ppB,qZx c2,qZx c3,c4,c5,c6,c7,hl]
        ·rw [q2] at hy;simp [yR,k1,ht,hy,H.inl,ak,H.pp,ppB,c2,qZx c3,c4,c5,c6,c7,hl]
       ·have c6:¬ 8 < (n.a.length:Int):=by omega
        have c7:16 < (n.ch.length:Int):=by omega
        rcases hyy with c2 | ⟨c2,q2⟩
        ·simp [yR,k1,ht,H.inl,ak,H.pp,ppB,qZx c2,qZx c3,c4,c5,c6,c7]
        ·rw [q2] at hy;simp [yR,k1,ht,hy,H.inl,ak,H.pp,ppB,c2,qZx c3,c4,c5,c6,c7]
      ·have c6:8 < (n.a.length:Int):=by omega
       rcases hyy with c2 | ⟨c2,q2⟩
       ·simp [yR,k1,ht,H.inl,ak,H.pp,ppB,qZx c2,qZx c3,c4,c6]
       ·rw [q2] at hy;simp [yR,k1,ht,hy,H.inl,ak,H.pp,ppB,c2,qZx c3,c4,c6]
     ·rcases hyy with c2 | ⟨c2,q2⟩
      ·simp [yR,k1,ht,H.inl,ak,H.pp,ppB,qZx c2,c3]
      ·rw [q2] at hy;simp [yR,k1,ht,hy,H.inl,ak,H.pp,ppB,c2,c3]
    rw [aF H.ae2 rfl] at rest;by_cases c2:n.y=[]
    ·rw [rest (.inl c2)];simp [k1,c2]
    ·cases q2:isName n.y
     ·rw [q2] at hy;simp [yR,k1,ht,hy,H.inl,ak,H.pp,ppB,c2]
     ·rw [rest (.inr ⟨c2,q2⟩)];simp [k1]
  ·simp [yR,k1,k2,H.inl,ak,H.pp,ppB]
mutual
/-- The specification's count, with so many levels. -/
def rc:Nd->Nat->Nat
 | _,0=>1000
 | ⟨k,t,y,a,ae,x,ch,ce⟩,lv+1=>if alone ⟨k,t,y,a,ae,x,ch,ce⟩=true then rcs ch lv 1 else 1000
def rcs:List Nd->Nat->Nat->Nat
 | [],_,c=>c
 | m::r,lv,c=>if c<=64 then rcs r lv (c+rc m lv) else c
end
theorem aoT (n:Nd):rc n 0=1000:=by cases n;rw [rc]
theorem alS (n:Nd) (lv:Nat):rc n (lv+1)=if alone n=true then rcs n.ch lv 1 else 1000:=by cases n;rw [rc]
theorem U0:∀ (l:List Nd) (lv c:Nat),c<=rcs l lv c
 | [],lv,c=>by rw [rcs];exact qxq _
 | m::r,lv,c=>by
  rw [rcs];split
  ·have:=U0 r lv (c+rc m lv);omega
  ·exact qxq _
theorem apg (n:Nd) (lv:Nat):1<=rc n lv:=by
 cases lv with
 | zero=>rw [aoT];omega
 | succ lv =>
  rw [alS];split
  ·exact U0 _ _ _
  ·omega
mutual
theorem ajn:∀ (n:Nd) (lv:Nat),rc n lv<=1000+64 * lv
 | ⟨k,t,y,a,ae,x,ch,ce⟩,0=>by rw [rc];omega
 | ⟨k,t,y,a,ae,x,ch,ce⟩,lv+1=>by
  rw [rc];split
  ·have:=afa ch lv 1 qqq;omega
  ·omega
theorem afa:∀ (l:List Nd) (lv c:Nat),c<=1064+64 * lv->rcs l lv c<=1064+64 * lv
 | [],lv,c,h=>by rw [rcs];exact h
 | m::r,lv,c,h=>by
  rw [rcs];split
  ·have h2:=ajn m lv;exact afa r lv _ qqq
  ·exact h
end
mutual
theorem ajS:∀ (n:Nd) (lv L c d:Nat),lv+L=7->c<=64->((wk n L (c,d)).1=true->(wk n L (c,d)).2.1=c+rc n lv/\c+rc n lv<=64)/\((wk n L (c,d)).1=false->64 < c+rc n lv)
 | ⟨k,t,y,a,ae,x,ch,ce⟩,lv,L,c,d,h1,h2=>by
  have hge:=apg ⟨k,t,y,a,ae,x,ch,ce⟩ lv;rw [wk];by_cases q:6 < L\/64 < c+1\/alone ⟨k,t,y,a,ae,x,ch,ce⟩=false
  ·rw [qwz q];refine ⟨λr=>by simp at r,λ_=>?_⟩;rcases q with q | q | q
   ·have:lv=0:=by omega
    subst this;rw [rc];omega
   ·omega
   ·cases lv with
    | zero=>rw [rc];omega
    | succ lv=>rw [rc,qwq (by simp [q])];omega
  ·rw [qwq q];cases lv with
   | zero=>omega
   | succ lv =>rw [rc,qwz (by simpa using λr=>q (.inr (.inr r)))];exact aeU ch lv (L+1) c 1 (max d L) qqq qqq
theorem aeU:∀ (l:List Nd) (lv L g c d:Nat),lv+L=7->g+c<=64->((wks l L (g+c,d)).1=true->(wks l L (g+c,d)).2.1=g+rcs l lv c/\g+rcs l lv c<=64)/\((wks l L (g+c,d)).1=false->64 < g+rcs l lv c)
 | [],lv,L,g,c,d,h1,h2=>by rw [wks,rcs];exact ⟨λ_=>⟨rfl,h2⟩,λr=>by simp at r⟩
 | m::r,lv,L,g,c,d,h1,h2=>by
  have hm:=ajS m lv L (g+c) d h1 h2;have hr:rcs (m::r) lv c=rcs r lv (c+rc m lv):=by rw [rcs,qwz qqq]
  rw [wks,hr];generalize wk m L (g+c,d)=R at *;obtain ⟨b,c',d'⟩:=R;cases b with
  | true =>obtain ⟨e1,e2⟩:=hm.1 rfl;rw [qwz rfl];simp only at e1;rw [e1,qgq];exact aeU r lv L g (c+rc m lv) d' h1 qqq
  | false =>have e:=hm.2 rfl;rw [qwq qqz];refine ⟨λq=>by simp at q,λ_=>?_⟩;have:=U0 r lv (c+rc m lv);omega
end
theorem adA (n:Nd):cnt n=if 64 < rc n 6 then 0 else rc n 6:=by
 have h:=ajS n 6 1 0 0 rfl qqq;unfold cnt;generalize wk n 1 (0,0)=R at *;obtain ⟨b,c,d⟩:=R;cases b with
 | true =>obtain ⟨e1,e2⟩:=h.1 rfl;simp only at e1;rw [qwz rfl,qwq qqq];simp only;omega
 | false =>have e:=h.2 rfl;rw [qwq qqz,qwz qqq]
theorem QV (H:RI C) (n:Nd) (lv:Nat) (hlv:lv<=5) (hl:n.ch.length<=16) (ih:∀ m ∈ n.ch,FnW C 520 [.agg m.c,.int .i64 lv]=some (.int .i64 (rc m lv))):∀ j i,j+i=n.ch.length->∀ c,c<=1064+64 * lv ->
 Dk C ⟨[(6,.int .i64 i),(5,.int .i64 c),(2,.ptr 0 0 0),(1,.int .i64 (lv+1:Nat))],hp1 n,1⟩=some (.int .i64 (rcs (n.ch.drop i) lv c)):=by
 intro j;induction j with
 | zero =>
  intro i hi c hc;simp only [Dk];rw [aj xI.eq_1];have h1:n.ch.drop i=[]:=qwj qqq;have h3:¬ i < n.ch.length:=by omega
  rw [h1,rcs];simp [aj G6.eq_1,h3]
 | succ j ihj =>
  intro i hi c hc;have h1:i < n.ch.length:=by omega
  have hm:=ih _ (qxx h1);have hle:=ajn n.ch[i] lv;rw [drop_cons h1,rcs];by_cases c1:c<=64
  ·have:=ihj (i+1) qqq (c+rc n.ch[i] lv) qqq;rw [qwz c1];have c2:(c:Int)<=64:=by omega
   simp only [Dk] at this |-;rw [aj xI.eq_1];simp at this;simp (disch:=omega) [h1,c1,c2,aC,hm,H.inl,ak,H.pp,ppB,this]
  ·rw [qwq c1];have c2:¬ (c:Int)<=64:=by omega
   simp only [Dk];rw [aj xI.eq_1];simp (disch:=omega) [aj G6.eq_1,h1,c1,c2]
theorem SG (H:RI C) (n:Nd) (ih:∀ m ∈ n.ch,∀ lv:Nat,lv<=6->FnW C 520 [.agg m.c,.int .i64 lv]=some (.int .i64 (rc m lv))) (lv:Nat) (hlv:lv<=6):FnW C 520 [.agg n.c,.int .i64 lv]=some (.int .i64 (rc n lv)):=by
 have ho:=akz H n;rw [aF H.akX rfl];cases lv with
 | zero=>rw [aoT];simp [aao]
 | succ lv =>
  rw [alS];have c1:¬ (lv:Int)+1 < 1:=by omega
  cases ha:alone n with
  | false=>rw [ha] at ho;simp [aao,c1,ho,H.inl,ak,H.pp,ppB]
  | true =>
   rw [ha] at ho;have hl:n.ch.length<=16:=by
    unfold alone at ha;split at ha
    ·simp at ha;rw [ha.2];simp
    ·simp at ha;omega
   have hr:=QV H n lv qqq hl (λm hm=>ih m hm lv qqq) n.ch.length 0 qqz 1 qqq;rw [qjq] at hr;simp only [Dk] at hr;simp at hr;simp [aao,c1,ho,H.inl,ak,H.pp,ppB,hr]
theorem Ls (H:RI C) (n:Nd) (lv:Nat) (hlv:lv<=6):FnW C 520 [.agg n.c,.int .i64 lv]=some (.int .i64 (rc n lv)) :=SG H n (λm hm lv hlv=>Ls H m lv hlv) lv hlv
termination_by SizeOf.sizeOf n
decreasing_by
 have:=qoj hm;have:=yE n;omega
theorem Lu (H:RI C) (n:Nd):FnW C 442 [.agg n.c]=some (.int .i64 (cnt n)):=by
 have h:=Ls H n 6 qqq;rw [aF H.amR rfl,adA];generalize rc n 6=R at *;simp at h;by_cases c:64 < R
 ·have c1:64 < (R:Int):=by omega
  simp [aeI,H.inl,ak,H.pp,ppB,h,c,c1]
 ·have c1:¬ 64 < (R:Int):=by omega
  simp [aeI,H.inl,ak,H.pp,ppB,h,c,c1]
theorem ZI (H:RI C) (n:Nd):FnW C 441 [.agg n.c]=some (.int .i64 (if cnt n=0 then 14 else 0)):=by
 have h:=Lu H n;rw [aF H.alz rfl];by_cases c:cnt n=0
 ·simp [adK,H.inl,ak,H.pp,ppB,h,c]
 ·simp [adK,H.inl,ak,H.pp,ppB,h,c]
end Go.D
end
section
namespace Go.D
open Go Go.Pav Go.Pw P
attribute [-simp] List.getElem_cons_drop
variable {C:aH}
structure Sl where
 n:Bs
 f:Int
 v:Bs
@[simp] def eSl (s:Sl):List AV:=[.str s.n,.int .u8 s.f,.str s.v]
structure Pt where
 k:Int
 t:Bs
 y:Bs
 s:List Sl
 se:Bool
 x:Bs
 ch:List Pt
 ce:Bool
mutual
def Pt.c:Pt->List AV
 | ⟨k,t,y,s,se,x,ch,ce⟩=>[.int .u8 k,.str t,.str y,.ro 3 (s.map eSl) se,.str x,.ro 6 (Pt.cs ch) ce]
def Pt.cs:List Pt->List (List AV)
 | []=>[]
 | n::r=>n.c::Pt.cs r
end
theorem Pt.RS:∀ l:List Pt,Pt.cs l=l.map Pt.c
 | []=>rfl
 | n::r=>by rw [Pt.cs,Pt.RS r];rfl
theorem Pt.fH (n:Pt):n.c=[.int .u8 n.k,.str n.t,.str n.y,.ro 3 (n.s.map eSl) n.se,.str n.x,.ro 6 (n.ch.map Pt.c) n.ce]:=by cases n;rw [Pt.c,Pt.RS]
@[simp] theorem Pt.anZ (n:Pt):n.c.length=6:=by rw [Pt.fH];rfl
@[simp] theorem Pt.als (n:Pt):n.c.take 6=n.c:=qzz qqz
@[simp] theorem Pt.c0 (n:Pt):n.c[0]?=some (.int .u8 n.k):=by rw [Pt.fH];rfl
@[simp] theorem Pt.c1 (n:Pt):n.c[1]?=some (.str n.t):=by rw [Pt.fH];rfl
@[simp] theorem Pt.c2 (n:Pt):n.c[2]?=some (.str n.y):=by rw [Pt.fH];rfl
@[simp] theorem Pt.c3 (n:Pt):n.c[3]?=some (.ro 3 (n.s.map eSl) n.se):=by rw [Pt.fH];rfl
@[simp] theorem Pt.c4 (n:Pt):n.c[4]?=some (.str n.x):=by rw [Pt.fH];rfl
@[simp] theorem Pt.c5 (n:Pt):n.c[5]?=some (.ro 6 (n.ch.map Pt.c) n.ce):=by rw [Pt.fH];rfl
@[simp] theorem Pt.g0 (n:Pt) (h:0 < n.c.length):n.c[0]=.int .u8 n.k:=qyj ((qqj h).symm.trans n.c0)
@[simp] theorem Pt.g1 (n:Pt) (h:1 < n.c.length):n.c[1]=.str n.t:=qyj ((qqj h).symm.trans n.c1)
@[simp] theorem Pt.g2 (n:Pt) (h:2 < n.c.length):n.c[2]=.str n.y:=qyj ((qqj h).symm.trans n.c2)
@[simp] theorem Pt.g3 (n:Pt) (h:3 < n.c.length):n.c[3]=.ro 3 (n.s.map eSl) n.se:=qyj ((qqj h).symm.trans n.c3)
@[simp] theorem Pt.g4 (n:Pt) (h:4 < n.c.length):n.c[4]=.str n.x:=qyj ((qqj h).symm.trans n.c4)
@[simp] theorem Pt.g5 (n:Pt) (h:5 < n.c.length):n.c[5]=.ro 6 (n.ch.map Pt.c) n.ce:=qyj ((qqj h).symm.trans n.c5)
@[simp] theorem Pt.hd (n:Pt):n.c.head?=some (.int .u8 n.k):=by rw [Pt.fH];rfl
@[simp] theorem Pt.aoy (n:Pt):bV n.c=false:=by rw [Pt.fH];rfl
@[simp] theorem Pt.ao6 (n:Pt) (h:aG) (k:Nat):aZ (bK h (k+1)) n.c=some n.c:=by rw [Pt.fH];rfl
@[simp] theorem Pt.ahJ (n:Pt) (h:aG) (k:Nat):n.c.flatMap (aK h (k+1))=[]:=by rw [Pt.fH];rfl
@[simp] theorem Pt.an5 (n:Pt) (π:Nat->Option Nat):lV π n.c=some n.c:=by rw [Pt.fH];rfl
@[simp] theorem Pt.alW (n:Pt):CJ n.c=[]:=by rw [Pt.fH];rfl
@[simp] theorem Pt.an4 (n:Pt):n.c.all isC=true:=by rw [Pt.fH];rfl
@[simp] theorem Pt.al4 (n:Pt):n.c.all AV.cell=true:=by rw [Pt.fH];rfl
theorem Pt.yE (n:Pt):SizeOf.sizeOf n.ch < SizeOf.sizeOf n:=by cases n;simp;omega
def lG:Option Bs->List Sl->Bool
 | _,[]=>true
 | p,s::r=>isName s.n&&decide (s.f<=3)&&isText s.v&&(decide (s.f<=0)||decide (s.v=[]))&&after p s.n&&lG (some s.n) r
def qo (p:Pt):Bool :=
 if p.k=1 then (decide (p.y=[])||isName p.y)&&decide (p.ch.length<=16)&&isName p.t&&(decide (p.s.length<=8)&&lG none p.s)&&decide (p.x=[])
 else if p.k=5 then isName p.t&&(decide (p.s.length<=8)&&lG none p.s)&&decide (p.y=[])&&decide (p.x=[])&&decide (p.ch=[])
 else if p.k=2 then isText p.x&&decide (p.t=[])&&decide (p.y=[])&&decide (p.s=[])&&decide (p.ch=[])
 else decide (p.k=3\/p.k=4)&&decide (p.t=[])&&decide (p.y=[])&&decide (p.x=[])&&decide (p.s=[])&&decide (p.ch=[])
structure EU (C:aH):Prop extends SV C where
 amm:C.fns.get 581=some agW
 akk:C.fns.get 579=some aib
 alF:C.fns.get 585=some ae8
 aml:C.fns.get 549=some ji
 alL:C.fns.get 502=some ac6
 akg:C.fns.get 503=some aie
 akQ:C.fns.get 548=some Wi
 amZ:C.fns.get 404=some aje
 f231:C.fns.get 231=some aeA
theorem Tj (n:Nd) (h:n.ch=[]):cnt n=if alone n=true then 1 else 0:=by rw [adA,alS,h,rcs];cases alone n <;> simp
theorem yt (H:EU C) (s:Bs):FnW C 581 [.str s]=some (.bool (isName s)):=by
 have h:FnW C 439 [.agg [.int .u8 1,.str s,.str [],.ro 2 [] true,.str [],.ro 6 [] true]]=_:=rZ H.toSV ⟨1,s,[],[],true,[],[],true⟩;rw [Tj _ rfl] at h;have e:alone ⟨1,s,[],[],true,[],[],true⟩=isName s:=by unfold alone;simp [atOk,iR]
 rw [e] at h;rw [aF H.amm rfl];cases q:isName s <;> rw [q] at h <;> simp at h <;> simp [agW,H.inl,ak,H.pp,ppB,h]
theorem Eb (H:EU C) (s:Bs):FnW C 579 [.str s]=some (.bool (isText s)):=by
 have h:FnW C 439 [.agg [.int .u8 2,.str [],.str [],.ro 2 [] true,.str s,.ro 6 [] true]]=_:=rZ H.toSV ⟨2,[],[],[],true,s,[],true⟩;rw [Tj _ rfl] at h;have e:alone ⟨2,[],[],[],true,s,[],true⟩=isText s:=by unfold alone;simp
 rw [e] at h;rw [aF H.akk rfl];cases q:isText s <;> rw [q] at h <;> simp at h <;> simp [aib,H.inl,ak,H.pp,ppB,h]
theorem UA (H:EU C) (l:List Sl) (e:Bool) (hl:l.length<=1000000):∀ n i,n+i=l.length ->
 FP C ⟨[(10,.int .i64 i),(9,.int .i64 l.length),(8,.ro 3 (l.map eSl) e),(0,.ro 3 (l.map eSl) e)],[],0⟩ =
  some (.bool (lG (if i=0 then none else (l[i - 1]?).map Sl.n) (l.drop i))):=by
 intro n;induction n with
 | zero =>
  intro i hi;simp only [FP];rw [aj BK.eq_1];have h1:l.drop i=[]:=qwj qqq;have h3:¬ i < l.length:=by omega
  simp [aj Pq.eq_1,h1,h3,lG]
 | succ n ih =>
  intro i hi;have h1:i < l.length:=by omega
  have hb:=yt H l[i].n;have hc:=Eb H l[i].v;have:=ih (i+1) qqq;rw [qwq qqq,show i+1 - 1=i from rfl,qqj h1] at this;rw [drop_cons h1,lG];simp only [FP] at this |-;rw [aj BK.eq_1];simp only [qiq] at this;generalize lG (some l[i].n) (l.drop (i+1))=R at *;cases q1:isName l[i].n
  ·rw [q1] at hb;simp (disch:=omega) [h1,aC,hb,H.inl,ak,H.pp,ppB]
  ·rw [q1] at hb;by_cases f3:l[i].f<=3
   ·have f3':¬ 3 < l[i].f:=by omega
    cases q2:isText l[i].v
    ·rw [q2] at hc;simp (disch:=omega) [h1,aC,hb,hc,H.inl,ak,H.pp,ppB,f3,f3']
    ·rw [q2] at hc;by_cases f0:0 < l[i].f/\¬ l[i].v=[]
     ·have f1:¬ l[i].f<=0:=by omega
      simp (disch:=omega) [h1,aC,hb,hc,H.inl,ak,H.pp,ppB,f3,f3',f0.1,f0.2,f1]
     ·have key:(0 < l[i].f/\l[i].v=[])\/¬ 0 < l[i].f:=by
       by_cases a:0 < l[i].f
       ·exact .inl ⟨a,qpq λb=>f0 ⟨a,b⟩⟩
       ·exact .inr a
      cases i with
      | zero =>
       simp at this;rcases key with ⟨a,b⟩ | a
       ·have b':=qZx b;simp (disch:=omega) [h1,aC,hb,hc,H.inl,ak,H.pp,ppB,f3,f3',a,b',this,after]
       ·have a':l[0].f<=0:=by omega
        simp (disch:=omega) [h1,aC,hb,hc,H.inl,ak,H.pp,ppB,f3,f3',a,a',this,after]
      | succ i =>
       have h4:i < l.length:=by omega
       have h5:(i:Int)+1 < l.length:=by omega
       simp at this;by_cases q3:l[i].n < l[i+1].n
       ·have q4:¬ l[i+1].n<=l[i].n:=List.not_le.2 q3;rcases key with ⟨a,b⟩ | a
        ·have b':=qZx b;simp (disch:=omega) [h1,h4,h5,aC,hb,hc,H.inl,ak,H.pp,ppB,f3,f3',a,b',this,after,D9,q3,q4]
        ·have a':l[i+1].f<=0:=by omega
         simp (disch:=omega) [h1,h4,h5,aC,hb,hc,H.inl,ak,H.pp,ppB,f3,f3',a,a',this,after,D9,q3,q4]
       ·have q4:l[i+1].n<=l[i].n:=q4j.1 q3;rcases key with ⟨a,b⟩ | a
        ·have b':=qZx b;simp (disch:=omega) [h1,h4,h5,aC,hb,hc,H.inl,ak,H.pp,ppB,f3,f3',a,b',this,after,D9,q3,q4]
        ·have a':l[i+1].f<=0:=by omega
         simp (disch:=omega) [h1,h4,h5,aC,hb,hc,H.inl,ak,H.pp,ppB,f3,f3',a,a',this,after,D9,q3,q4]
   ·have f3':3 < l[i].f:=by omega
    simp (disch:=omega) [h1,aC,hb,H.inl,ak,H.pp,ppB,f3,f3']
theorem aef (H:EU C) (l:List Sl) (e:Bool):FnW C 585 [.ro 3 (l.map eSl) e]=some (.bool (decide (l.length<=8)&&lG none l)):=by
 rw [aF H.alF rfl];by_cases c:l.length<=8
 ·have c1:¬ 8 < (l.length:Int):=by omega
  have h:=UA H l e qqq l.length 0 qqz;rw [qjq,qwz rfl] at h;generalize lG none l=R at *;simp only [FP] at h;simp at h;simp [ae8,c,c1,h]
 ·have c1:8 < (l.length:Int):=by omega
  simp [ae8,c,c1]
end Go.D
end
section
namespace Go.D
open Go Go.Pav Go.Pw P
attribute [-simp] List.getElem_cons_drop
variable {C:aH}
theorem Zm (H:EU C) (p:Pt):FnW C 549 [.rop p.c]=some (.bool (qo p)):=by
 obtain ⟨k,t,y,s,se,x,ch,ce⟩:=p;rw [aF H.aml rfl,Pt.fH];simp only [];unfold qo;simp only [];have ht:=yt H t;have hy:=yt H y;have hx:=Eb H x;have hs:=aef H s se;generalize isName t=T at *;generalize isText x=X at *;generalize (decide (s.length<=8)&&lG none s)=S at *;by_cases k1:k=1
 ·rw [qwz k1];by_cases c2:y=[]
  ·subst c2;by_cases c5:ch.length<=16
   ·have c7:¬ 16 < (ch.length:Int):=by omega
    cases T
    ·simp [ji,k1,ht,hs,H.inl,ak,H.pp,ppB,c5,c7]
    ·cases S
     ·simp [ji,k1,ht,hs,H.inl,ak,H.pp,ppB,c5,c7]
     ·by_cases c3:x=[] <;> simp [ji,k1,ht,hs,H.inl,ak,H.pp,ppB,c3,c5,c7]
   ·have c7:16 < (ch.length:Int):=by omega
    simp [ji,k1,ht,hs,H.inl,ak,H.pp,ppB,c5,c7]
  ·cases q2:isName y
   ·rw [q2] at hy;simp [ji,k1,hy,H.inl,ak,H.pp,ppB,c2]
   ·rw [q2] at hy;by_cases c5:ch.length<=16
    ·have c7:¬ 16 < (ch.length:Int):=by omega
     cases T
     ·simp [ji,k1,ht,hy,hs,H.inl,ak,H.pp,ppB,c2,c5,c7]
     ·cases S
      ·simp [ji,k1,ht,hy,hs,H.inl,ak,H.pp,ppB,c2,c5,c7]
      ·by_cases c3:x=[] <;> simp [ji,k1,ht,hy,hs,H.inl,ak,H.pp,ppB,c2,c3,c5,c7]
    ·have c7:16 < (ch.length:Int):=by omega
     simp [ji,k1,ht,hy,hs,H.inl,ak,H.pp,ppB,c2,c5,c7]
 ·rw [qwq k1];by_cases k5:k=5
  ·rw [qwz k5];cases T
   ·simp [ji,k5,ht,hs,H.inl,ak,H.pp,ppB]
   ·cases S
    ·simp [ji,k5,ht,hs,H.inl,ak,H.pp,ppB]
    ·by_cases c2:y=[]
     ·by_cases c3:x=[]
      ·by_cases c4:ch=[]
       ·simp [ji,k5,ht,hs,H.inl,ak,H.pp,ppB,c2,c3,c4]
       ·simp [ji,k5,ht,hs,H.inl,ak,H.pp,ppB,c2,c3,c4]
      ·simp [ji,k5,ht,hs,H.inl,ak,H.pp,ppB,c2,c3]
     ·simp [ji,k5,ht,hs,H.inl,ak,H.pp,ppB,c2]
  ·rw [qwq k5];by_cases k2:k=2
   ·rw [qwz k2];cases X
    ·simp [ji,k2,hx,H.inl,ak,H.pp,ppB]
    ·by_cases c1:t=[]
     ·by_cases c2:y=[]
      ·by_cases c3:s=[]
       ·by_cases c4:ch=[]
        ·simp [ji,k2,hx,H.inl,ak,H.pp,ppB,c1,c2,c3,c4]
        ·simp [ji,k2,hx,H.inl,ak,H.pp,ppB,c1,c2,c3,c4]
       ·simp [ji,k2,hx,H.inl,ak,H.pp,ppB,c1,c2,c3]
      ·simp [ji,k2,hx,H.inl,ak,H.pp,ppB,c1,c2]
     ·simp [ji,k2,hx,H.inl,ak,H.pp,ppB,c1]
   ·rw [qwq k2];by_cases k34:k=3\/k=4
    ·rcases k34 with k3 | k4
     ·by_cases c1:t=[]
      ·by_cases c2:y=[]
       ·by_cases c0:x=[]
        ·by_cases c3:s=[]
         ·by_cases c4:ch=[]
          ·simp [ji,k3,H.inl,ak,H.pp,ppB,c1,c2,c0,c3,c4]
          ·simp [ji,k3,H.inl,ak,H.pp,ppB,c1,c2,c0,c3,c4]
         ·simp [ji,k3,H.inl,ak,H.pp,ppB,c1,c2,c0,c3]
        ·simp [ji,k3,H.inl,ak,H.pp,ppB,c1,c2,c0]
       ·simp [ji,k3,H.inl,ak,H.pp,ppB,c1,c2]
      ·simp [ji,k3,H.inl,ak,H.pp,ppB,c1]
     ·by_cases c1:t=[]
      ·by_cases c2:y=[]
       ·by_cases c0:x=[]
        ·by_cases c3:s=[]
         ·by_cases c4:ch=[]
          ·simp [ji,k4,H.inl,ak,H.pp,ppB,c1,c2,c0,c3,c4]
          ·simp [ji,k4,H.inl,ak,H.pp,ppB,c1,c2,c0,c3,c4]
         ·simp [ji,k4,H.inl,ak,H.pp,ppB,c1,c2,c0,c3]
        ·simp [ji,k4,H.inl,ak,H.pp,ppB,c1,c2,c0]
       ·simp [ji,k4,H.inl,ak,H.pp,ppB,c1,c2]
      ·simp [ji,k4,H.inl,ak,H.pp,ppB,c1]
    ·have k3:¬ k=3:=λq=>k34 (.inl q);have k4:¬ k=4:=λq=>k34 (.inr q);simp [ji,k1,k2,k3,k4,k5,H.inl,ak,H.pp,ppB]
mutual
/-- The walk below a part: whether it ends well, how many parts. -/
def tk:Pt->Nat->Nat->Bool × Nat
 | ⟨k,t,y,s,se,x,ch,ce⟩,lv,c=>if 6 < lv\/64 < c+1\/qo ⟨k,t,y,s,se,x,ch,ce⟩=false then (false,c+1) else tks ch (lv+1) (c+1)
def tks:List Pt->Nat->Nat->Bool × Nat
 | [],_,c=>(true,c)
 | m::r,lv,c=>if (tk m lv c).1=true then tks r lv (tk m lv c).2 else (false,(tk m lv c).2)
end
theorem ajl (p:Pt) (lv c:Nat):tk p lv c=if 6 < lv\/64 < c+1\/qo p=false then (false,c+1) else tks p.ch (lv+1) (c+1):=by cases p;rw [tk]
mutual
theorem ajW:∀ (p:Pt) (lv c:Nat),lv<=7->c<=64->(tk p lv c).1=true->(tk p lv c).2<=64
 | ⟨k,t,y,s,se,x,ch,ce⟩,lv,c,h1,h2=>by
  rw [tk];split
  ·exact λq=>by simp at q
  ·rename_i h;exact aeE ch (lv+1) (c+1) qqq qqq
theorem aeE:∀ (l:List Pt) (lv c:Nat),lv<=7->c<=64->(tks l lv c).1=true->(tks l lv c).2<=64
 | [],lv,c,h1,h2=>by rw [tks];exact λ_=>h2
 | m::r,lv,c,h1,h2=>by
  have h4:=ajW m lv c h1 h2;rw [tks];split
  ·rename_i h;exact aeE r lv _ h1 (h4 h)
  ·exact λq=>by simp at q
end
abbrev hpT (c:Nat):aG:=[(0,.cells 1 [[.fn 503 []]] true true),(7,.cells 1 [[.int .i64 c]] true true),(9,.cells 1 [[.fn 548 [.ptr 7 0 0,.ptr 0 0 0,.ptr 9 0 0]]] true false)]
def XJ (C:aH) (p:Pt):Prop:=∀ (lv c n:Nat),10<=n->c<=64->lv<=7 ->
 ∃ n',RnW C 548 [.rop p.c,.int .i64 lv,.ptr 7 0 0,.ptr 0 0 0,.ptr 9 0 0] (hpT c) n=some (.bool (tk p lv c).1,hpT (tk p lv c).2,n')
theorem Vq (H:EU C) (p:Pt) (lv n:Nat) (hn:10<=n) (hlv:lv<=6) (hl:p.ch.length<=16) (ih:∀ m ∈ p.ch,XJ C m):∀ j i,j+i=p.ch.length->∀ c,c<=64 ->
 ∃ n',CK C n (fQ [.tmp 7]) [.sq OU,.bk 0 ⟨true,[],[]⟩,.sq OL] xJ ⟨[(30,.int .i64 i),(29,.int .i64 p.ch.length),(4,.ptr 9 0 0),(1,.int .i64 lv),(0,.rop p.c)],hpT c,n⟩ =
  some (.bool (tks (p.ch.drop i) (lv+1) c).1,hpT (tks (p.ch.drop i) (lv+1) c).2,n'):=by
 have n0:0 < n:=by omega
 have n1:7 < n:=by omega
 have n2:9 < n:=by omega
 intro j;induction j with
 | zero =>
  intro i hi c hc;have h1:p.ch.drop i=[]:=qwj qqq;have h3:¬ i < p.ch.length:=by omega
  rw [h1,tks,aj xJ.eq_1];refine ⟨?_,?_⟩
  rotate_left
  ·simp (disch:=omega) [aj OL.eq_1,n0,n1,n2,h3];rfl
 | succ j ihj =>
  intro i hi c hc;have h1:i < p.ch.length:=by omega
  obtain ⟨n',hw⟩:=ih _ (qxx h1) (lv+1) c (n+1+1+1+11) qqq hc qqq;have hb:=ajW p.ch[i] (lv+1) c qqq hc;rw [drop_cons h1,tks];generalize hR:tk p.ch[i] (lv+1) c=R at *;obtain ⟨r,c'⟩:=R;cases r with
  | true =>obtain ⟨n2',hw2⟩:=ihj (i+1) qqq c' (hb rfl);refine ⟨n2',?_⟩;rw [qwz rfl];rw [aj xJ.eq_1];simp at hw hw2;simp (disch:=omega) [aC,H.inl,ak,H.pp,ppB,n0,n1,n2,h1,hw,hw2]
  | false =>
   rw [qwq qqz];rw [aj xJ.eq_1];simp at hw;refine ⟨?_,?_⟩
   rotate_left
   ·simp (disch:=omega) [aC,H.inl,ak,H.pp,ppB,n0,n1,n2,h1,hw];rfl
theorem BF {p:Pt} (h:qo p=true):p.ch.length<=16:=by
 unfold qo at h;split at h
 ·simp at h;omega
 ·split at h
  ·simp at h;rw [h.2];simp
  ·split at h
   ·simp at h;rw [h.2];simp
   ·simp at h;rw [h.2];simp
theorem Wu (H:EU C) (p:Pt) (ih:∀ m ∈ p.ch,XJ C m):XJ C p:=by
 intro lv c n hn hc hlv;rw [iP (args:=[.rop p.c,.int .i64 lv,.ptr 7 0 0,.ptr 0 0 0,.ptr 9 0 0]) H.akQ rfl (hpT c) n,ajl];have ha:=Zm H p;have hu:FnW C 503 [.rop p.c]=some (.tup []):=by rw [aF H.akg rfl];simp [aie]
 have n0:0 < n:=by omega
 have n1:7 < n:=by omega
 have n2:9 < n:=by omega
 by_cases b1:6 < lv
 ·rw [qwz (.inl b1)];refine ⟨?_,?_⟩
  rotate_left
  ·simp (disch:=omega) [Wi,aC,H.inl,ak,H.pp,ppB,b1,n0,n1,n2];rfl
 ·by_cases b2:64 < c+1
  ·rw [qwz (.inr (.inl b2))];have b2':64 < (c:Int)+1:=by omega
   refine ⟨?_,?_⟩
   rotate_left
   ·simp (disch:=omega) [Wi,aC,H.inl,ak,H.pp,ppB,b1,b2',n0,n1,n2];rfl
  ·have b2':¬ 64 < (c:Int)+1:=by omega
   cases b3:qo p with
   | false =>
    rw [qwz (.inr (.inr rfl))];rw [b3] at ha;refine ⟨?_,?_⟩
    rotate_left
    ·simp (disch:=omega) [Wi,aC,H.inl,ak,H.pp,ppB,b1,b2',ha,n0,n1,n2];rfl
   | true =>rw [qwq qqx];have hl:=BF b3;rw [b3] at ha;obtain ⟨n',hw⟩:=Vq H p lv n hn qqq hl ih p.ch.length 0 qqz (c+1) qqq;refine ⟨n',?_⟩;rw [qjq] at hw;generalize tks p.ch (lv+1) (c+1)=R at *;simp only [hpT] at hw |-;simp at hw;simp (disch:=omega) [Wi,aC,H.inl,ak,H.pp,ppB,b1,b2',ha,hu,n0,n1,n2,hw]
theorem abr (H:EU C) (p:Pt):XJ C p :=Wu H p (λm hm=>abr H m)
termination_by SizeOf.sizeOf p
decreasing_by
 have:=qoj hm;have:=p.yE;omega
def qp (p:Pt):Nat:=if p.k=1/\(tk p 1 0).1=true then (tk p 1 0).2 else 0
theorem acr (H:EU C) (p:Pt):FnW C 502 [.rop p.c,.fn 503 []]=some (.int .i64 (qp p)):=by
 rw [aF H.alL rfl];obtain ⟨n',h⟩:=abr H p 1 0 15 qqq qqq qqq;unfold qp;generalize tk p 1 0=R at *;obtain ⟨r,c⟩:=R;simp only [hpT] at h;simp at h;by_cases k1:p.k=1
 ·cases r <;> simp [ac6,H.inl,ak,H.pp,ppB,k1,h]
 ·simp [ac6,H.inl,ak,H.pp,ppB,k1]
theorem Zd (H:EU C) (p:Pt):FnW C 404 [.agg p.c]=some (.int .i64 (qp p)):=by have h:=acr H p;rw [aF H.amZ rfl];simp [aje,H.inl,ak,H.pp,ppB,h]
theorem Lp (H:EU C) (p:Pt):FnW C 231 [.agg p.c]=some (.int .i64 (if qp p=0 then 14 else 0)):=by
 have h:=Zd H p;rw [aF H.f231 rfl];by_cases c:qp p=0
 ·simp [aeA,H.inl,ak,H.pp,ppB,h,c]
 ·simp [aeA,H.inl,ak,H.pp,ppB,h,c]
end Go.D
end
section
namespace Go.D
open Go Go.Pav Go.Pw P
attribute [-simp] List.getElem_cons_drop
variable {C:aH}
structure QN (C:aH):Prop extends EU C where
 alr:C.fns.get 594=some abC
 aed:C.fns.get 586=some mM
 alD:C.fns.get 550=some Zp
 akr:C.fns.get 505=some aak
 amh:C.fns.get 408=some acu
theorem RN (H:QN C) (l:List Sl) (e:Bool) (hl:l.length<=1000000) (hf:∀ s ∈ l,0<=s.f):∀ n i,n+i=l.length ->
 He C ⟨[(3,.int .i64 i),(0,.ro 3 (l.map eSl) e)],[],0⟩ =
  some (.bool (lG (if i=0 then none else (l[i - 1]?).map Sl.n) (l.drop i))):=by
 intro n;induction n with
 | zero =>
  intro i hi;simp only [He];rw [aj zS.eq_1];have h1:l.drop i=[]:=qwj qqq;have h3:¬ i < l.length:=by omega
  simp [aj Nk.eq_1,h1,h3,lG]
 | succ n ih =>
  intro i hi;have h1:i < l.length:=by omega
  have hb:=qc H.topO l[i].n;have hc:=BR H.topO l[i].v;have h0:=hf _ (qxx h1);have:=ih (i+1) qqq;rw [qwq qqq,show i+1 - 1=i from rfl,qqj h1] at this;rw [drop_cons h1,lG];simp only [He] at this |-;rw [aj zS.eq_1];simp only [qiq] at this;generalize lG (some l[i].n) (l.drop (i+1))=R at *;cases q1:isName l[i].n
  ·rw [q1] at hb;simp (disch:=omega) [h1,aC,hb,H.inl,ak,H.pp,ppB]
  ·rw [q1] at hb;by_cases f3:l[i].f<=3
   ·have f3':¬ 3 < l[i].f:=by omega
    cases q2:isText l[i].v
    ·rw [q2] at hc;simp (disch:=omega) [h1,aC,hb,hc,H.inl,ak,H.pp,ppB,f3,f3']
    ·rw [q2] at hc;by_cases f0:¬ l[i].f=0/\¬ l[i].v=[]
     ·have f1:¬ l[i].f<=0:=by have:=f0.1;omega
      simp (disch:=omega) [h1,aC,hb,hc,H.inl,ak,H.pp,ppB,f3,f3',f0.1,f0.2,f1]
     ·have key:(¬ l[i].f=0/\l[i].v=[])\/l[i].f=0:=by
       by_cases a:l[i].f=0
       ·exact .inr a
       ·exact .inl ⟨a,qpq λb=>f0 ⟨a,b⟩⟩
      cases i with
      | zero =>
       simp at this;rcases key with ⟨a,b⟩ | a
       ·have b':=qZx b;simp (disch:=omega) [h1,aC,hb,hc,H.inl,ak,H.pp,ppB,f3,f3',a,b',this,after]
       ·have a':l[0].f<=0:=by omega
        simp (disch:=omega) [h1,aC,hb,hc,H.inl,ak,H.pp,ppB,f3,f3',qZx a,a',this,after]
      | succ i =>
       have h4:i < l.length:=by omega
       have h5:(i:Int)+1 < l.length:=by omega
       simp at this;by_cases q3:l[i].n < l[i+1].n
       ·have q4:¬ l[i+1].n<=l[i].n:=List.not_le.2 q3;rcases key with ⟨a,b⟩ | a
        ·have b':=qZx b;simp (disch:=omega) [h1,h4,h5,aC,hb,hc,H.inl,ak,H.pp,ppB,f3,f3',a,b',this,after,blt_eq,q3,q4]
        ·have a':l[i+1].f<=0:=by omega
         simp (disch:=omega) [h1,h4,h5,aC,hb,hc,H.inl,ak,H.pp,ppB,f3,f3',qZx a,a',this,after,blt_eq,q3,q4]
       ·have q4:l[i+1].n<=l[i].n:=q4j.1 q3;rcases key with ⟨a,b⟩ | a
        ·have b':=qZx b;simp (disch:=omega) [h1,h4,h5,aC,hb,hc,H.inl,ak,H.pp,ppB,f3,f3',a,b',this,after,blt_eq,q3,q4]
        ·have a':l[i+1].f<=0:=by omega
         simp (disch:=omega) [h1,h4,h5,aC,hb,hc,H.inl,ak,H.pp,ppB,f3,f3',qZx a,a',this,after,blt_eq,q3,q4]
   ·have f3':3 < l[i].f:=by omega
    simp (disch:=omega) [h1,aC,hb,H.inl,ak,H.pp,ppB,f3,f3']
theorem ZK (H:QN C) (l:List Sl) (e:Bool) (hf:∀ s ∈ l,0<=s.f):FnW C 594 [.ro 3 (l.map eSl) e]=some (.bool (decide (l.length<=8)&&lG none l)):=by
 rw [aF H.alr rfl];by_cases c:l.length<=8
 ·have c1:¬ 8 < (l.length:Int):=by omega
  have h:=RN H l e qqq hf l.length 0 qqz;rw [qjq,qwz rfl] at h;generalize lG none l=R at *;simp only [He] at h;simp at h;simp [abC,c,c1,h]
 ·have c1:8 < (l.length:Int):=by omega
  simp [abC,c,c1]
structure Fits (p:Pt):Prop where
 f:∀ s ∈ p.s,0<=s.f
 s:p.s.length<=9223372036854775807
 c:p.ch.length<=9223372036854775807
theorem as2 {α β:Type} (a:List α) (b:List β) [Decidable (a=[])] [Decidable (b=[])]:((a.length:Int)+(b.length:Int) == 0)=(decide (a=[])&&decide (b=[])):=by cases a <;> cases b <;> simp <;> omega
theorem anC {α β:Type} (a:List α) (b:List β) (ha:a.length<=9223372036854775807) (hb:b.length<=9223372036854775807) [Decidable (a=[])] [Decidable (b=[])]:(IntKind.i64.wrap ((a.length:Int)+(b.length:Int)) == 0)=(decide (a=[])&&decide (b=[])):=by
 have h:(IntKind.i64.wrap ((a.length:Int)+(b.length:Int)) == 0)=((a.length:Int)+(b.length:Int) == 0):=by rw [Bool.eq_iff_iff];show ((if (true&&decide (((a.length:Int)+b.length) % 18446744073709551616 ≥ 9223372036854775808))=true then ((a.length:Int)+b.length) % 18446744073709551616 - 18446744073709551616 else ((a.length:Int)+b.length) % 18446744073709551616) == 0)=true↔_;simp only [qYj,qvj,zyz];split <;> omega
 rw [h,as2]
theorem afC (H:QN C) (p:Pt) (hp:Fits p):FnW C 586 [.agg p.c]=some (.bool (qo p)):=by
 rw [aF H.aed rfl];unfold qo;have ht:=qc H.topO p.t;have hy:=qc H.topO p.y;have hx:=BR H.topO p.x;have hs:=ZK H p.s p.se hp.f;have hl1:=hp.s;have hl2:=hp.c;have hz:(IntKind.i64.wrap ((p.s.length:Int)+(p.ch.length:Int)) == 0)=(decide (p.s=[])&&decide (p.ch=[])):=anC _ _ hl1 hl2;generalize isName p.t=T at *;generalize isText p.x=X at *;generalize (decide (p.s.length<=8)&&lG none p.s)=S at *;by_cases k1:p.k=1
 ·rw [qwz k1];cases T
  ·simp [mM,k1,ht,H.inl,ak,H.pp,ppB]
  ·by_cases c2:p.y=[]
   ·have c2':=qZx c2;cases S
    ·simp [mM,k1,ht,hs,H.inl,ak,H.pp,ppB,c2']
    ·by_cases c3:p.x=[]
     ·have c3':=qZx c3;by_cases c5:p.ch.length<=16
      ·have c7:(p.ch.length:Int)<=16:=by omega
       simp [mM,k1,ht,hs,H.inl,ak,H.pp,ppB,c2',c3',c5,c7]
      ·have c7:¬ (p.ch.length:Int)<=16:=by omega
       simp [mM,k1,ht,hs,H.inl,ak,H.pp,ppB,c2',c3',c5,c7]
     ·simp [mM,k1,ht,hs,H.inl,ak,H.pp,ppB,c2',c3]
   ·cases q2:isName p.y
    ·rw [q2] at hy;simp [mM,k1,ht,hy,H.inl,ak,H.pp,ppB,c2]
    ·rw [q2] at hy;cases S
     ·simp [mM,k1,ht,hy,hs,H.inl,ak,H.pp,ppB,c2]
     ·by_cases c3:p.x=[]
      ·have c3':=qZx c3;by_cases c5:p.ch.length<=16
       ·have c7:(p.ch.length:Int)<=16:=by omega
        simp [mM,k1,ht,hy,hs,H.inl,ak,H.pp,ppB,c2,c3',c5,c7]
       ·have c7:¬ (p.ch.length:Int)<=16:=by omega
        simp [mM,k1,ht,hy,hs,H.inl,ak,H.pp,ppB,c2,c3',c5,c7]
      ·simp [mM,k1,ht,hy,hs,H.inl,ak,H.pp,ppB,c2,c3]
 ·rw [qwq k1];by_cases k5:p.k=5
  ·rw [qwz k5];cases T
   ·simp [mM,k5,ht,hs,H.inl,ak,H.pp,ppB]
   ·cases S
    ·simp [mM,k5,ht,hs,H.inl,ak,H.pp,ppB]
    ·by_cases c2:p.y=[]
     ·by_cases c3:p.x=[]
      ·by_cases c4:p.ch=[] <;> simp [mM,k5,ht,hs,H.inl,ak,H.pp,ppB,qZx c2,qZx c3,c4]
      ·simp [mM,k5,ht,hs,H.inl,ak,H.pp,ppB,qZx c2,c3]
     ·simp [mM,k5,ht,hs,H.inl,ak,H.pp,ppB,c2]
  ·rw [qwq k5];by_cases k2:p.k=2
   ·rw [qwz k2];cases X
    ·simp [mM,k2,hx,H.inl,ak,H.pp,ppB]
    ·by_cases c1:p.t=[]
     ·by_cases c2:p.y=[]
      ·simp (disch:=omega) [mM,k2,hx,H.inl,ak,H.pp,ppB,qZx c1,qZx c2,hz]
      ·simp [mM,k2,hx,H.inl,ak,H.pp,ppB,qZx c1,c2]
     ·simp [mM,k2,hx,H.inl,ak,H.pp,ppB,c1]
   ·rw [qwq k2];by_cases k34:p.k=3\/p.k=4
    ·have rest:FnW C 586 [.agg p.c]=some (.bool (decide (p.t=[])&&decide (p.y=[])&&decide (p.x=[])&&decide (p.s=[])&&decide (p.ch=[]))):=by
      rw [aF H.aed rfl];by_cases c0:p.x=[]
      ·by_cases c1:p.t=[]
       ·by_cases c2:p.y=[]
        ·rcases k34 with k3 | k3 <;> simp (disch:=omega) [mM,k3,H.inl,ak,H.pp,ppB,qZx c0,qZx c1,qZx c2,hz]
        ·rcases k34 with k3 | k3 <;> simp [mM,k3,H.inl,ak,H.pp,ppB,qZx c0,qZx c1,c2]
       ·rcases k34 with k3 | k3 <;> simp [mM,k3,H.inl,ak,H.pp,ppB,qZx c0,c1]
      ·rcases k34 with k3 | k3 <;> simp [mM,k3,H.inl,ak,H.pp,ppB,c0]
     rw [aF H.aed rfl] at rest;rw [rest];simp [k34]
    ·have k3:¬ p.k=3:=λq=>k34 (.inl q);have k4:¬ p.k=4:=λq=>k34 (.inr q);simp [mM,k1,k2,k3,k4,k5,H.inl,ak,H.pp,ppB]
inductive iM:Pt->Prop
 | mk (p:Pt) (h:Fits p) (hm:∀ m ∈ p.ch,iM m):iM p
mutual
/-- The specification's count, with so many levels. -/
def trc:Pt->Nat->Nat
 | _,0=>1000
 | ⟨k,t,y,s,se,x,ch,ce⟩,lv+1=>if qo ⟨k,t,y,s,se,x,ch,ce⟩=true then uG ch lv 1 else 1000
def uG:List Pt->Nat->Nat->Nat
 | [],_,c=>c
 | m::r,lv,c=>if c<=64 then uG r lv (c+trc m lv) else c
end
theorem aju (n:Pt):trc n 0=1000:=by cases n;rw [trc]
theorem ajK (n:Pt) (lv:Nat):trc n (lv+1)=if qo n=true then uG n.ch lv 1 else 1000:=by cases n;rw [trc]
theorem ML:∀ (l:List Pt) (lv c:Nat),c<=uG l lv c
 | [],lv,c=>by rw [uG];exact qxq _
 | m::r,lv,c=>by
  rw [uG];split
  ·have:=ML r lv (c+trc m lv);omega
  ·exact qxq _
theorem amy (n:Pt) (lv:Nat):1<=trc n lv:=by
 cases lv with
 | zero=>rw [aju];omega
 | succ lv =>
  rw [ajK];split
  ·exact ML _ _ _
  ·omega
mutual
theorem adJ:∀ (n:Pt) (lv:Nat),trc n lv<=1000+64 * lv
 | ⟨k,t,y,s,se,x,ch,ce⟩,0=>by rw [trc];omega
 | ⟨k,t,y,s,se,x,ch,ce⟩,lv+1=>by
  rw [trc];split
  ·have:=Yy ch lv 1 qqq;omega
  ·omega
theorem Yy:∀ (l:List Pt) (lv c:Nat),c<=1064+64 * lv->uG l lv c<=1064+64 * lv
 | [],lv,c,h=>by rw [uG];exact h
 | m::r,lv,c,h=>by
  rw [uG];split
  ·have h2:=adJ m lv;exact Yy r lv _ qqq
  ·exact h
end
mutual
theorem ajH:∀ (n:Pt) (lv L c:Nat),lv+L=7->c<=64->((tk n L c).1=true->(tk n L c).2=c+trc n lv/\c+trc n lv<=64)/\((tk n L c).1=false->64 < c+trc n lv)
 | ⟨k,t,y,s,se,x,ch,ce⟩,lv,L,c,h1,h2=>by
  have hge:=amy ⟨k,t,y,s,se,x,ch,ce⟩ lv;rw [tk];by_cases q:6 < L\/64 < c+1\/qo ⟨k,t,y,s,se,x,ch,ce⟩=false
  ·rw [qwz q];refine ⟨λr=>by simp at r,λ_=>?_⟩;rcases q with q | q | q
   ·have:lv=0:=by omega
    subst this;rw [trc];omega
   ·omega
   ·cases lv with
    | zero=>rw [trc];omega
    | succ lv=>rw [trc,qwq (by simp [q])];omega
  ·rw [qwq q];cases lv with
   | zero=>omega
   | succ lv =>rw [trc,qwz (by simpa using λr=>q (.inr (.inr r)))];exact aec ch lv (L+1) c 1 qqq qqq
theorem aec:∀ (l:List Pt) (lv L g c:Nat),lv+L=7->g+c<=64->((tks l L (g+c)).1=true->(tks l L (g+c)).2=g+uG l lv c/\g+uG l lv c<=64)/\((tks l L (g+c)).1=false->64 < g+uG l lv c)
 | [],lv,L,g,c,h1,h2=>by rw [tks,uG];exact ⟨λ_=>⟨rfl,h2⟩,λr=>by simp at r⟩
 | m::r,lv,L,g,c,h1,h2=>by
  have hm:=ajH m lv L (g+c) h1 h2;have hr:uG (m::r) lv c=uG r lv (c+trc m lv):=by rw [uG,qwz qqq]
  rw [tks,hr];generalize tk m L (g+c)=R at *;obtain ⟨b,c'⟩:=R;cases b with
  | true =>obtain ⟨e1,e2⟩:=hm.1 rfl;rw [qwz rfl];simp only at e1;rw [e1,qgq];exact aec r lv L g (c+trc m lv) h1 qqq
  | false =>have e:=hm.2 rfl;rw [qwq qqz];refine ⟨λq=>by simp at q,λ_=>?_⟩;have:=ML r lv (c+trc m lv);omega
end
theorem ahC (p:Pt):qp p=if p.k≠1\/64 < trc p 6 then 0 else trc p 6:=by
 have h:=ajH p 6 1 0 rfl qqq;unfold qp;generalize tk p 1 0=R at *;obtain ⟨b,c⟩:=R;by_cases k1:p.k=1
 ·cases b with
  | true =>obtain ⟨e1,e2⟩:=h.1 rfl;simp only at e1;rw [qwz ⟨k1,rfl⟩,qwq (by intro q;rcases q with q | q;exact q k1;omega)];simp only;omega
  | false =>have e:=h.2 rfl;rw [qwq qqz,qwz (.inr qqq)]
 ·rw [qwq (λq=>k1 q.1),qwz (.inl k1)]
abbrev hpP (p:Pt):aG:=[(0,.cells 6 [p.c] true true)]
theorem QM (H:QN C) (n:Pt) (lv:Nat) (hlv:lv<=5) (hl:n.ch.length<=16) (ih:∀ m ∈ n.ch,FnW C 550 [.agg m.c,.int .i64 lv]=some (.int .i64 (trc m lv))):∀ j i,j+i=n.ch.length->∀ c,c<=1064+64 * lv ->
 Ap C ⟨[(6,.int .i64 i),(5,.int .i64 c),(2,.ptr 0 0 0),(1,.int .i64 (lv+1:Nat))],hpP n,1⟩=some (.int .i64 (uG (n.ch.drop i) lv c)):=by
 intro j;induction j with
 | zero =>
  intro i hi c hc;simp only [Ap];rw [aj yC.eq_1];have h1:n.ch.drop i=[]:=qwj qqq;have h3:¬ i < n.ch.length:=by omega
  rw [h1,uG];simp [aj F8.eq_1,h3]
 | succ j ihj =>
  intro i hi c hc;have h1:i < n.ch.length:=by omega
  have hm:=ih _ (qxx h1);have hle:=adJ n.ch[i] lv;rw [drop_cons h1,uG];by_cases c1:c<=64
  ·have:=ihj (i+1) qqq (c+trc n.ch[i] lv) qqq;rw [qwz c1];have c2:(c:Int)<=64:=by omega
   simp only [Ap] at this |-;rw [aj yC.eq_1];simp at this;simp (disch:=omega) [h1,c1,c2,aC,hm,H.inl,ak,H.pp,ppB,this]
  ·rw [qwq c1];have c2:¬ (c:Int)<=64:=by omega
   simp only [Ap];rw [aj yC.eq_1];simp (disch:=omega) [aj F8.eq_1,h1,c1,c2]
theorem MF (H:QN C) (n:Pt) (hf:Fits n) (ih:∀ m ∈ n.ch,∀ lv:Nat,lv<=6->FnW C 550 [.agg m.c,.int .i64 lv]=some (.int .i64 (trc m lv))) (lv:Nat) (hlv:lv<=6):FnW C 550 [.agg n.c,.int .i64 lv]=some (.int .i64 (trc n lv)):=by
 have ho:=afC H n hf;rw [aF H.alD rfl];cases lv with
 | zero=>rw [aju];simp [Zp]
 | succ lv =>
  rw [ajK];have c1:¬ (lv:Int)+1 < 1:=by omega
  cases ha:qo n with
  | false=>rw [ha] at ho;simp [Zp,c1,ho,H.inl,ak,H.pp,ppB]
  | true =>rw [ha] at ho;have hr:=QM H n lv qqq (BF ha) (λm hm=>ih m hm lv qqq) n.ch.length 0 qqz 1 qqq;rw [qjq] at hr;simp only [Ap] at hr;simp at hr;simp [Zp,c1,ho,H.inl,ak,H.pp,ppB,hr]
theorem UH (H:QN C) (p:Pt) (hf:iM p):∀ lv:Nat,lv<=6->FnW C 550 [.agg p.c,.int .i64 lv]=some (.int .i64 (trc p lv)):=by
 induction hf with
 | mk p h hm ih=>exact λlv hlv=>MF H p h (λm hm lv hlv=>ih m hm lv hlv) lv hlv
theorem WV (H:QN C) (p:Pt) (hf:iM p):FnW C 505 [.agg p.c]=some (.int .i64 (qp p)):=by
 have h:=UH H p hf 6 qqq;rw [aF H.akr rfl,ahC];generalize trc p 6=R at *;simp at h;by_cases k1:p.k=1
 ·by_cases c:64 < R
  ·have c1:64 < (R:Int):=by omega
   simp [aak,H.inl,ak,H.pp,ppB,h,c,c1,k1]
  ·have c1:¬ 64 < (R:Int):=by omega
   simp [aak,H.inl,ak,H.pp,ppB,h,c,c1,k1]
 ·simp [aak,H.inl,ak,H.pp,ppB,h,k1]
theorem WR (H:QN C) (p:Pt) (hf:iM p):FnW C 408 [.agg p.c]=some (.int .i64 (if qp p=0 then 14 else 0)):=by
 have h:=WV H p hf;rw [aF H.amh rfl];by_cases c:qp p=0
 ·simp [acu,H.inl,ak,H.pp,ppB,h,c]
 ·simp [acu,H.inl,ak,H.pp,ppB,h,c]
end Go.D
end
section
namespace Go.D
open Go Go.Pav Go.Pw P
attribute [-simp] List.getElem_cons_drop
variable {C:aH}
structure adq (C:aH):Prop extends QN C,TR C where
 al0:C.fns.get 546=some UL
 alm:C.fns.get 580=some aiP
 akm:C.fns.get 512=some WG
def oW (i:It):Bool:=decide (i.k≠0)&&isText i.x&&(decide (i.m.length<=8)&&i.m.all isName)
theorem afs (H:adq C):XG C 580 isName where
 ok s:=by have:=yt H.toEU s;rw [aF H.alm rfl];simp [aiP,H.inl,ak,H.pp,ppB,this]
 ne:=by rfl
 ni:=by rfl
theorem adY (H:adq C) (i:It):FnW C 546 [eIt i]=some (.int .i64 (if oW i=true then 0 else 6)):=by
 have hx:=Eb H.toEU i.x;rw [aF H.al0 rfl];unfold oW;generalize isText i.x=X at *;by_cases c1:i.k=0
 ·simp [UL,qZx c1]
 ·cases X
  ·simp [UL,c1,hx,H.inl,ak,H.pp,ppB]
  ·by_cases c2:i.m.length<=8
   ·have c3:¬ 8 < (i.m.length:Int):=by omega
    have hm:=Aa H.toTR (afs H) i.m i.e qqq;generalize i.m.all isName=M at *;cases M <;> simp at hm <;> simp [UL,c1,hx,c2,c3,hm,H.inl,ak,H.pp,ppB]
   ·have c3:8 < (i.m.length:Int):=by omega
    simp [UL,c1,hx,c2,c3,H.inl,ak,H.pp,ppB]
theorem Xj (H:adq C) (k t:Int) (x:Bs) (m:List Bs) (e:Bool) (hl:m.length<=8):∀ n i,n+i=m.length ->
 Hq C ⟨[(3,.int .i64 i),(1,.ptr 0 0 0)],[(0,.cells 4 [[.int .u64 k,.int .u8 t,.str x,.ro 1 (m.map eS) e]] true true)],1⟩ =
  some (.int .i64 (if (m.drop i).all isName=true then 0 else 6)):=by
 intro n;induction n with
 | zero =>
  intro i hi;simp only [Hq];rw [aj AO.eq_1];have h1:m.drop i=[]:=qwj qqq;have h3:¬ i < m.length:=by omega
  simp [aj Ny.eq_1,h1,h3]
 | succ n ih =>
  intro i hi;have h1:i < m.length:=by omega
  have:=ih (i+1) qqq;have hb:=qc H.topO m[i];rw [drop_cons h1];generalize hX:(m.drop (i+1)).all isName=X at *;rw [qdz,hX];simp only [Hq] at this |-;rw [aj AO.eq_1];cases hn:isName m[i]
  ·rw [hn] at hb;simp (disch:=omega) [h1,aC,hb,H.inl,ak,H.pp,ppB]
  ·rw [hn] at hb;simp at this;simp (disch:=omega) [h1,aC,hb,H.inl,ak,H.pp,ppB,this]
theorem aej (H:adq C) (i:It):FnW C 512 [eIt i]=some (.int .i64 (if oW i=true then 0 else 6)):=by
 have hx:=BR H.topO i.x;rw [aF H.akm rfl];unfold oW;generalize isText i.x=X at *;by_cases c1:i.k=0
 ·simp [WG,qZx c1]
 ·cases X
  ·simp [WG,c1,hx,H.inl,ak,H.pp,ppB]
  ·by_cases c2:i.m.length<=8
   ·have c3:¬ 8 < (i.m.length:Int):=by omega
    have hm:=Xj H i.k i.t i.x i.m i.e c2 i.m.length 0 qqz;rw [qjq] at hm;generalize i.m.all isName=M at *;simp only [Hq] at hm;simp at hm;simp [WG,c1,hx,c2,c3,hm,H.inl,ak,H.pp,ppB]
   ·have c3:8 < (i.m.length:Int):=by omega
    simp [WG,c1,hx,c2,c3,H.inl,ak,H.pp,ppB]
def dec (n:Nat):Bs:=if h:n < 10 then [UInt8.ofNat (48+n)] else dec (n / 10)++[UInt8.ofNat (48+n % 10)]
termination_by n
theorem XW:∀ (k n:Nat),n < 10 ^ (k+1)->(dec n).length<=k+1
 | 0,n,h=>by unfold dec;rw [zyj (by simpa using h)];simp
 | k+1,n,h=>by
  unfold dec;split
  ·simp
  ·have:=XW k (n / 10) (by rw [Nat.pow_succ] at h;omega);simp;omega
structure acF (C:aH):Prop extends adq C where
 ak8:C.fns.get 584=some ai1
 agp:C.fns.get 558=some abq
theorem YI (n:Nat) (h:n < 10):dec n=[UInt8.ofNat (48+n)]:=by unfold dec;rw [zyj h]
theorem Yo (H:acF C) (n:Nat) (h:n < 10):FnW C 558 [.int .u64 n]=some (.str (dec n)):=by
 rw [aF H.agp rfl,YI n h];obtain rfl | rfl | rfl | rfl | rfl | rfl | rfl | rfl | rfl | rfl:n=0\/n=1\/n=2\/n=3\/n=4\/n=5\/n=6\/n=7\/n=8\/n=9:=by omega
 all_goals (simp (disch:=omega) [abq,pJ];try rfl)
theorem Y9 (H:acF C) (n:Nat) (h:n < 18446744073709551616) (ih:∀ m < n,FnW C 558 [.int .u64 m]=some (.str (dec m))):FnW C 558 [.int .u64 n]=some (.str (dec n)):=by
 by_cases c:n < 10
 ·exact Yo H n c
 ·have h1:=ih (n / 10) qqq;have h2:=Yo H (n % 10) qqq;have hl:=XW 19 (n / 10) qqq;rw [YI _ qqq] at h2;rw [aF H.agp rfl];rw [dec,dif_neg c];have e1:(n:Int).tdiv 10=((n / 10:Nat):Int):=by rw [qKx qqq];omega
  have e2:(n:Int).tmod 10=((n % 10:Nat):Int):=by rw [qkz qqq];omega
  have c2:¬ (n:Int) < 10:=by omega
  have hm:(dec (n / 10)).length+1<=maxStr:=by unfold maxStr;omega
  have b1:n / 10<=n:=by omega
  have b2:n % 10<=n:=by omega
  generalize dec (n / 10)=D at *;generalize UInt8.ofNat (48+n % 10)=dg at *;generalize n / 10=q at *;generalize n % 10=r at *;simp (disch:=omega) [abq,pJ,c2,e1,e2,h1,h2,hm,H.inl,ak,H.pp,ppB]
theorem Po (H:acF C) (n:Nat):n < 18446744073709551616->FnW C 558 [.int .u64 n]=some (.str (dec n)):=by
 induction n using Nat.strongRecOn with
 | ind n ih=>exact λh=>Y9 H n h (λm hm=>ih m hm qqq)
theorem bytesOf_map:∀ l:List UInt8,bytesOf (l.map λb=>[AV.int .u8 b.toNat])=some l
 | []=>rfl
 | b::r=>by rw [qvz,bytesOf,bytesOf_map r];simp
theorem ae4 (r:Nat) (h:r < 10):([48,49,50,51,52,53,54,55,56,57]:List UInt8)[r]'(by simpa using h)=UInt8.ofNat (48+r):=by
 obtain rfl | rfl | rfl | rfl | rfl | rfl | rfl | rfl | rfl | rfl:r=0\/r=1\/r=2\/r=3\/r=4\/r=5\/r=6\/r=7\/r=8\/r=9:=by omega
 all_goals rfl
theorem aee:∀ (i n:Nat) (acc:List UInt8),acc.length+i=19->n < 10 ^ (i+1)->n < 18446744073709551616 ->
 G8 C ⟨[(4,.int .i64 (i+1:Nat)),(3,.ptr 0 0 0),(0,.int .u64 n)],[(0,.cells 20 [List.replicate i (AV.int .u8 0)++AV.int .u8 0::acc.map λb=>AV.int .u8 b.toNat] true true)],1⟩=some (.str (dec n++acc)):=by
 intro i;induction i with
 | zero =>
  intro n acc ha hn hb;have e1:(n:Int).tdiv 10=0:=by rw [qKx qqq];omega
  have e2:(n:Int).tmod 10=n:=by rw [qkz qqq];omega
  have hr:n < 10:=by simpa using hn
  have hd:=ae4 n hr;have h19:19<=acc.length:=by omega
  rw [YI n hr];generalize UInt8.ofNat (48+n)=dg at *;have hm:bytesOf ([AV.int .u8 dg.toNat]::List.map ((λx=>[x]) ∘ λb:UInt8=>AV.int .u8 b.toNat) acc)=some (dg::acc):=bytesOf_map (dg::acc);simp only [G8];rw [aj CU.eq_1];simp (disch:=(first | omega | (simp;done) | (simp;omega))) [aC,pJ,e1,e2,hr,hd,h19,hm,qzz,RX]
 | succ i ih =>
  intro n acc ha hn hb;have e1:(n:Int).tdiv 10=((n / 10:Nat):Int):=by rw [qKx qqq];omega
  have e2:(n:Int).tmod 10=((n % 10:Nat):Int):=by rw [qkz qqq];omega
  have hr:n % 10 < 10:=by omega
  have hq:n / 10 < 10 ^ (i+1):=by rw [Nat.pow_succ] at hn;omega
  have hqb:n / 10<=n:=by omega
  have h18:acc.length+i=18:=by omega
  have hi:i+1 < 20:=by omega
  have h20:20<=i+1+(acc.length+1):=by omega
  have hi19:i<=19:=by omega
  have hd:=ae4 (n % 10) hr;have ih':=λdg=>ih (n / 10) (dg::acc) qqx hq qqq;have hdec:dec n=(if n / 10=0 then [] else dec (n / 10))++[UInt8.ofNat (48+n % 10)]:=by
   by_cases c:n < 10
   ·have:n / 10=0:=by omega
    have h2:n % 10=n:=by omega
    rw [YI n c,this,h2];simp
   ·rw [dec,dif_neg c,qwq qqq]
  rw [hdec];have t1:∀ (z:AV) (L:List AV),List.take (i+1) (List.replicate (i+1) z++L)=List.replicate (i+1) z:=λz L=>List.take_left' qqz;have t2:∀ (z y:AV) (L:List AV),List.drop (i+1+1) (List.replicate (i+1) z++y::L)=L:=λz y L=>by rw [List.append_cons];exact List.drop_left' qqz
  have t3:∀ (z:AV) (X:List AV),List.replicate i z++z::X=List.replicate (i+1) z++X:=λz X=>by rw [List.replicate_succ'];simp
  generalize dec (n / 10)=D at *;generalize UInt8.ofNat (48+n % 10)=dg at *;have hm:bytesOf ([AV.int .u8 dg.toNat]::List.map ((λx=>[x]) ∘ λb:UInt8=>AV.int .u8 b.toNat) acc)=some (dg::acc):=bytesOf_map (dg::acc);have ih2:=ih' dg;rw [t3] at ih2;generalize n / 10=q at *;generalize n % 10=r at *;simp only [G8] at ih2 |-;rw [aj CU.eq_1];simp at ih2;by_cases c:q=0
  ·simp (disch:=(first | omega | (simp;done) | (simp;omega))) [aC,pJ,e1,e2,hr,hd,hi,h20,hi19,hm,t1,t2,c,qzz,RX]
  ·simp (disch:=(first | omega | (simp;done) | (simp;omega))) [aC,pJ,e1,e2,hr,hd,hi,t1,t2,c,ih2]
theorem Ou (H:acF C) (n:Nat) (h:n < 18446744073709551616):FnW C 584 [.int .u64 n]=some (.str (dec n)):=by have hl:=aee (C:=C) 19 n [] rfl qqq h;have e:List.replicate 19 (AV.int .u8 0)++AV.int .u8 0::List.map (λb:UInt8=>AV.int .u8 b.toNat) []=rep 20 (AV.int .u8 0):=rfl;rw [e] at hl;simp only [G8] at hl;simp at hl;rw [aF H.ak8 rfl];simp [ai1,hl]
def bG (x:It) (s:Sl):Bs × Bs:=(s.n,if s.f=1 then x.x else if s.f=2 then dec x.k.toNat else if s.f=3 then dec x.m.length else s.v)
structure ac2 (C:aH):Prop extends acF C where
 akO:C.fns.get 559=some ag0
 ak2:C.fns.get 592=some abH
theorem TY (H:ac2 C) (x:It) (hk:0<=x.k/\x.k < 18446744073709551616) (hm:x.m.length<=1000000) (l:List Sl) (e:Bool) (hl:l.length<=8):∀ n i,n+i=l.length->∀ G:List (Bs × Bs),G.length=i ->
 GN C ⟨[(6,.int .i64 i),(5,.sl 0 2 0 G.length G.length false),(3,.ptr 1 0 0),(0,.ro 3 (l.map eSl) e)],[(0,.cells 2 (G.map eA) true true),(1,.cells 4 [[.int .u64 x.k,.int .u8 x.t,.str x.x,.ro 1 (x.m.map eS) x.e]] true true)],2⟩ =
  some (.ro 2 ((G++(l.drop i).map (bG x)).map eA) false):=by
 intro n;induction n with
 | zero =>
  intro i hi G hG;have h1:l.drop i=[]:=qwj qqq;have h3:¬ i < l.length:=by omega
  simp only [GN];rw [aj zY.eq_1];cases G with
  | nil=>simp [aj FV.eq_1,h1,h3]
  | cons g G=>simp (disch:=(first | omega | (simp;done) | (simp;omega))) [aj FV.eq_1,h1,h3,qzz]
 | succ n ih =>
  intro i hi G hG;have h1:i < l.length:=by omega
  obtain ⟨k,hk2⟩:∃ k:Nat,x.k=k:=⟨x.k.toNat,by omega⟩;have d1:=Po H.toacF k qqq;have d2:=Po H.toacF x.m.length qqq;have ih':=ih (i+1) qqq (G++[bG x l[i]]) (by simp [hG]);have hfit:(G.length+1) * 33<=35184372088832:=by omega
  rw [drop_cons h1];simp only [GN] at ih' |-;rw [aj zY.eq_1];simp at ih';unfold bG at ih' |-;rw [hk2] at ih' |-;by_cases f1:l[i].f=1
  ·simp [f1] at ih';simp (disch:=omega) [h1,f1,aC,hfit,ih',H.inl,ak,H.pp,ppB]
  ·by_cases f2:l[i].f=2
   ·simp [f2] at ih';simp (disch:=omega) [h1,f2,aC,hfit,d1,ih',H.inl,ak,H.pp,ppB]
   ·by_cases f3:l[i].f=3
    ·simp [f3] at ih';simp (disch:=omega) [h1,f3,aC,pJ,hfit,d2,ih',H.inl,ak,H.pp,ppB]
    ·simp [f1,f2,f3] at ih';simp (disch:=omega) [h1,f1,f2,f3,aC,hfit,ih',H.inl,ak,H.pp,ppB]
theorem jH (H:ac2 C) (x:It) (hk:0<=x.k/\x.k < 18446744073709551616) (hm:x.m.length<=1000000) (l:List Sl) (e:Bool) (hl:l.length<=8) :
 FnW C 559 [.ro 3 (l.map eSl) e,eIt x]=some (.ro 2 ((l.map (bG x)).map eA) false):=by
 have h:=TY H x hk hm l e hl l.length 0 qqz [] rfl;simp only [GN] at h;simp at h;rw [aF H.akO rfl];simp [ag0,h]
theorem RY (H:ac2 C) (x:It) (hk:0<=x.k/\x.k < 18446744073709551616) (hm:x.m.length<=1000000) (l:List Sl) (e:Bool) (hl:l.length<=8) (hf:∀ s ∈ l,0<=s.f/\s.f<=3):∀ n i,n+i=l.length->∀ G:List (Bs × Bs),G.length=i ->
 Gh C ⟨[(13,.int .i64 i),(12,.int .i64 l.length),(11,.ro 3 (l.map eSl) e),(5,.sl 0 2 0 l.length l.length true),(2,.ptr 1 0 0)],[(0,.cells 2 (G.map eA++List.replicate n [.str [],.str []]) true true),(1,.cells 4 [[.int .u64 x.k,.int .u8 x.t,.str x.x,.ro 1 (x.m.map eS) x.e]] true true)],2⟩ =
  some (.ro 2 ((G++(l.drop i).map (bG x)).map eA) true):=by
 intro n;induction n with
 | zero =>
  intro i hi G hG;have h1:l.drop i=[]:=qwj qqq;have h3:¬ i < l.length:=by omega
  have h5:G.length=l.length:=by omega
  have h6:List.take l.length (List.map eA G)=List.map eA G:=qzz (by simp [h5]);simp only [Gh];rw [aj xH.eq_1];simp [aj FT.eq_1,h1,h3,h5,h6]
 | succ n ih =>
  intro i hi G hG;have h1:i < l.length:=by omega
  obtain ⟨k,hk2⟩:∃ k:Nat,x.k=k:=⟨x.k.toNat,by omega⟩;have d1:=Ou H.toacF k qqq;have d2:=Ou H.toacF x.m.length qqq;have ih':=ih (i+1) qqq (G++[bG x l[i]]) (by simp [hG]);have h0:=hf _ (qxx h1);rw [drop_cons h1];simp only [Gh] at ih' |-;rw [aj xH.eq_1];simp at ih';unfold bG at ih' |-;rw [hk2] at ih' |-;have f0123:l[i].f=0\/l[i].f=1\/l[i].f=2\/l[i].f=3:=by omega
  rcases f0123 with f | f | f | f;all_goals
   simp [f] at ih';simp (disch:=omega) [h1,f,aC,pJ,d1,d2,pq,o7,H.inl,ak,H.pp,ppB,ih']
theorem Z9 (H:ac2 C) (x:It) (hk:0<=x.k/\x.k < 18446744073709551616) (hm:x.m.length<=1000000) (l:List Sl) (e:Bool) (hl:l.length<=8) (hf:∀ s ∈ l,0<=s.f/\s.f<=3) :
 FnW C 592 [eIt x,.ro 3 (l.map eSl) e]=some (.ro 2 ((l.map (bG x)).map eA) true):=by
 rw [aF H.ak2 rfl];by_cases hne:l=[]
 ·subst hne;simp (disch:=omega) [abH,aj xH.eq_1,aj FT.eq_1]
 ·have h:=RY H x hk hm l e hl hf l.length 0 qqz [] rfl;simp only [Gh] at h;simp at h;simp (disch:=omega) [abH,fits,hne,h]
structure afE (C:aH):Prop extends ac2 C where
 al5:C.fns.get 582=some ag5
 alM:C.fns.get 583=some ait
 akG:C.fns.get 593=some ahh
def bT (s:Bs):Nd:=⟨2,[],[],[],true,s,[],true⟩
theorem yg (H:afE C) (s:Bs):FnW C 583 [.str s]=some (.agg (bT s).c):=by rw [aF H.alM rfl,Nd.fH];simp [ait,bT]
theorem ai3 (H:afE C) (l:List Nd) (e:Bool):FnW C 593 [.ro 6 (l.map Nd.c) e]=some (.ro 6 (l.map Nd.c) true):=by have h:List.take l.length (List.map Nd.c l)=List.map Nd.c l:=qzz qqz;rw [aF H.akG rfl];simp [ahh,h]
def yZ (x:It) (p:Pt) (key:Bs) (ch:List Nd):Nd:=⟨1,p.t,key,p.s.map (bG x),true,[],ch,true⟩
theorem Ib (H:afE C) (x:It) (hk:0<=x.k/\x.k < 18446744073709551616) (hm:x.m.length<=1000000) (p:Pt) (hl:p.s.length<=8) (hf:∀ s ∈ p.s,0<=s.f/\s.f<=3) (key:Bs) (ch:List Nd) (e:Bool) :
 FnW C 582 [eIt x,.agg p.c,.str key,.ro 6 (ch.map Nd.c) e]=some (.agg (yZ x p key ch).c):=by
 have h1:=Z9 H.toac2 x hk hm p.s p.se hl hf;have h2:=ai3 H ch e;rw [aF H.al5 rfl,Nd.fH];simp only [yZ];simp [ag5,h1,h2,H.inl,ak,H.pp,ppB]
end Go.D
end
section
namespace Go.D
open Go Go.Pav Go.Pw P
mutual
/-- A tree without what is known of its memory. -/
def Nd.z:Nd->Nd
 | ⟨k,t,y,a,ae,x,ch,ce⟩=>⟨k,t,y,a,true,x,Nd.zs ch,true⟩
def Nd.zs:List Nd->List Nd
 | []=>[]
 | n::r=>n.z::Nd.zs r
end
theorem Nd.aj7:∀ l:List Nd,Nd.zs l=l.map Nd.z
 | []=>rfl
 | n::r=>by rw [Nd.zs,Nd.aj7 r];rfl
theorem Nd.agu (n:Nd):n.z=⟨n.k,n.t,n.y,n.a,true,n.x,n.ch.map Nd.z,true⟩:=by cases n;rw [Nd.z,Nd.aj7]
theorem Nd.z_y (n:Nd):n.z.y=n.y:=by rw [Nd.agu]
theorem ai7 (n:Nd):alone n.z=alone n:=by
 have h:(n.ch.map Nd.z).map Nd.y=n.ch.map Nd.y:=by rw [qVz];exact qrj λm _=>m.z_y
 rw [Nd.agu];unfold alone;simp only [h,qQq,List.map_eq_nil_iff]
mutual
theorem aoH:∀ (n:Nd) (lv:Nat) (s:Nat × Nat),wk n.z lv s=wk n lv s
 | ⟨k,t,y,a,ae,x,ch,ce⟩,lv,(c,d)=>by
  have h:=ai7 ⟨k,t,y,a,ae,x,ch,ce⟩;rw [aeQ,aeQ,h];have e:(Nd.z ⟨k,t,y,a,ae,x,ch,ce⟩).ch=Nd.zs ch:=by rw [Nd.z]
  rw [e,ajR ch (lv+1) (c+1,max d lv)]
theorem ajR:∀ (l:List Nd) (lv:Nat) (s:Nat × Nat),wks (Nd.zs l) lv s=wks l lv s
 | [],lv,s=>by rw [Nd.zs]
 | m::r,lv,s=>by
  rw [Nd.zs,wks,wks,aoH m lv s];split
  ·exact ajR r lv _
  ·rfl
end
theorem aj9 (n:Nd):cnt n.z=cnt n:=by unfold cnt;rw [aoH]
end Go.D
end
section
namespace Go.D
open Go Go.Pav Go.Pw P
inductive Okp:Pt->Prop
 | mk (p:Pt) (h:qo p=true) (hf:Fits p) (hm:∀ m ∈ p.ch,Okp m):Okp p
mutual
theorem aek:∀ (p:Pt),iM p->∀ (lv c:Nat),(tk p lv c).1=true->Okp p
 | ⟨k,t,y,s,se,x,ch,ce⟩,hf,lv,c,h=>by
  rw [ajl] at h;split at h
  ·cases h
  ·rename_i q;cases hf with
   | mk _ h1 hm =>exact .mk _ (by simpa using λe=>q (.inr (.inr e))) h1 (XA ch hm _ _ h)
theorem XA:∀ (l:List Pt),(∀ m ∈ l,iM m)->∀ (lv c:Nat),(tks l lv c).1=true->∀ m ∈ l,Okp m
 | [],_,_,_,_=>by simp
 | m::r,hf,lv,c,h=>by
  rw [tks] at h;split at h
  ·rename_i q;intro a ha;have h0:=aek m (hf m qqz) lv c q;have h2:=XA r (λb hb=>hf b (by simp [hb])) lv _ h;rcases qkq.1 ha with e | ha
   ·exact e ▸ h0
   ·exact h2 a ha
  ·cases h
end
theorem RH {p:Pt} (hf:iM p) (h:qp p≠0):Okp p:=by
 unfold qp at h;split at h
 ·rename_i q;exact aek p hf 1 0 q.2
 ·exact absurd rfl h
theorem ae6 {p:Pt} (h:qp p≠0):p.k=1:=by
 unfold qp at h;split at h
 ·rename_i q;exact q.1
 ·exact absurd rfl h
theorem Py:∀ (l:List Sl) (p:Option Bs),lG p l=true->∀ s ∈ l,s.f<=3
 | [],_,_=>by simp
 | s::r,p,h=>by
  rw [lG] at h;simp at h;intro a ha;rcases qkq.1 ha with rfl | ha
  ·exact h.1.1.1.1.2
  ·exact Py r _ h.2 a ha
theorem UR {p:Pt} (h:qo p=true):p.s.length<=8/\∀ s ∈ p.s,s.f<=3:=by
 unfold qo at h;split at h
 ·simp at h;exact ⟨h.1.2.1,Py _ _ h.1.2.2⟩
 ·split at h
  ·simp at h;exact ⟨h.1.1.1.2.1,Py _ _ h.1.1.1.2.2⟩
  ·split at h
   ·simp at h;rw [h.1.2];simp
   ·simp at h;rw [h.1.2];simp
theorem WS {p:Pt} (h:qo p=true):p.k=1\/p.k=2\/p.k=3\/p.k=4\/p.k=5:=by
 unfold qo at h;split at h
 ·exact .inl ‹_›
 ·split at h
  ·exact .inr (.inr (.inr (.inr ‹_›)))
  ·split at h
   ·exact .inr (.inl ‹_›)
   ·simp at h;rcases h.1.1.1.1.1 with q | q
    ·exact .inr (.inr (.inl q))
    ·exact .inr (.inr (.inr (.inl q)))
mutual
/-- What a part makes. -/
def mk (x:It):Pt->List Nd
 | ⟨k,t,y,s,se,tx,ch,ce⟩ =>
  if k=1 then [⟨1,t,y,s.map (bG x),true,[],mks x ch,true⟩]
  else if k=2 then [bT tx] else if k=3 then [bT x.x] else if k=4 then [bT (dec x.k.toNat)]
  else if k=5 then x.m.map λm=>⟨1,t,m,s.map (bG x),true,[],[bT m],true⟩ else []
def mks (x:It):List Pt->List Nd
 | []=>[]
 | p::r=>mk x p++mks x r
end
theorem mk_eq (x:It) (p:Pt):mk x p=if p.k=1 then [yZ x p p.y (mks x p.ch)]
 else if p.k=2 then [bT p.x] else if p.k=3 then [bT x.x] else if p.k=4 then [bT (dec x.k.toNat)]
 else if p.k=5 then x.m.map λm=>yZ x p m [bT m] else []:=by cases p;rw [mk];rfl
mutual
/-- What the specification's part makes. -/
def md (x:It):Pt->List Nd
 | ⟨k,t,y,s,se,tx,ch,ce⟩ =>
  if k=2 then [bT tx] else if k=3 then [bT x.x] else if k=4 then [bT (dec x.k.toNat)]
  else if k=5 then x.m.map λm=>⟨1,t,m,s.map (bG x),false,[],[bT m],true⟩
  else [⟨1,t,y,s.map (bG x),false,[],mds x ch,(mds x ch).isEmpty⟩]
def mds (x:It):List Pt->List Nd
 | []=>[]
 | p::r=>md x p++mds x r
end
def jk (x:It) (p:Pt) (key:Bs) (ch:List Nd) (e:Bool):Nd:=⟨1,p.t,key,p.s.map (bG x),false,[],ch,e⟩
theorem abh (x:It) (p:Pt):md x p=if p.k=2 then [bT p.x] else if p.k=3 then [bT x.x] else if p.k=4 then [bT (dec x.k.toNat)]
 else if p.k=5 then x.m.map λm=>jk x p m [bT m] true else [jk x p p.y (mds x p.ch) (mds x p.ch).isEmpty]:=by cases p;rw [md];rfl
mutual
theorem ajv (x:It):∀ (p:Pt),Okp p->(mk x p).map Nd.z=(md x p).map Nd.z
 | ⟨k,t,y,s,se,tx,ch,ce⟩,h=>by
  have hk:=WS (by cases h;assumption:qo ⟨k,t,y,s,se,tx,ch,ce⟩=true);have hm:∀ m ∈ ch,Okp m:=by cases h;assumption
  have ih:=YB x ch hm;rw [mk,md];simp only at hk;rcases hk with rfl | rfl | rfl | rfl | rfl
  ·simp [Nd.agu,ih]
  ·simp
  ·simp
  ·simp
  ·simp [Nd.agu]
theorem YB (x:It):∀ (l:List Pt),(∀ m ∈ l,Okp m)->(mks x l).map Nd.z=(mds x l).map Nd.z
 | [],_=>by rw [mks,mds]
 | p::r,h=>by rw [mks,mds,qcz,qcz,ajv x p (h p qqz),YB x r λm hm=>h m (by simp [hm])]
end
theorem acP (x:It) (hx:x.m.length<=8) (p:Pt):(md x p).length<=8:=by rw [abh];split <;> (try split) <;> (try split) <;> (try split) <;> (try split) <;> simp <;> omega
def zN:Nd:=⟨0,[],[],[],true,[],[],true⟩
def mkN (x:It) (p:Pt):Nd:=(mk x p).headD zN
def mdN (x:It) (p:Pt):Nd:=(md x p).headD zN
theorem aom (x:It) (p:Pt) (h:Okp p):(mkN x p).z=(mdN x p).z:=by have:=ajv x p h;unfold mkN mdN;cases h1:mk x p <;> cases h2:md x p <;> rw [h1,h2] at this <;> simp at this |-;exact this.1
def gJ (p:Pt) (x:It) (most:Int):Int :=if most < 1\/64 < most then 1 else if qp p=0 then 14 else if oW x=false then 6 else if cnt (mkN x p)=0\/most < cnt (mkN x p) then 14 else 0
def SC (p:Pt) (x:It) (most:Int):Nd:=if gJ p x most=0 then mkN x p else zN
def alZ (p:Pt) (x:It) (most:Int):Nd:=if gJ p x most=0 then mdN x p else zN
end Go.D
end
section
namespace Go.D
open Go Go.Pav Go.Pw P
attribute [-simp] List.getElem_cons_drop
variable {C:aH}
structure rG (C:aH):Prop extends afE C,RI C where
 al9:C.fns.get 547=some ajh
 amr:C.fns.get 513=some TS
 akE:C.fns.get 501=some J5
 aln:C.fns.get 425=some J6
@[simp] theorem Nd.anI (n:Nd) (k:Nat):n.c.any (dG (k+1))=true:=by rw [Nd.fH];rfl
@[simp] theorem Nd.ana (n:Nd) (k:Nat):(∃ x,x ∈ n.c/\dG (k+1) x=true)=True:=by refine qZx ⟨.ro 2 (n.a.map eA) n.ae,?_,rfl⟩;rw [Nd.fH];simp
theorem afJ (H:rG C) (x:It) (hk:0<=x.k/\x.k < 18446744073709551616) (hm:x.m.length<=8) (l:List Pt) (e:Bool) (hl:l.length<=16) (p:Pt) (hp:qo p=true/\Fits p) (hk5:p.k=5) (i:Nat) (hi:i < l.length)
 (hnext:∀ G:List Nd,G.length<=8 * (i+1)->kG C ⟨[(12,.int .i64 ((i:Int)+1)),(11,.int .i64 l.length),(10,.ro 6 (l.map Pt.c) e),(5,.sl 0 6 0 G.length G.length false),(2,.ptr 1 0 0)],[(0,.cells 6 (G.map Nd.c) true true),(1,.cells 4 [[.int .u64 x.k,.int .u8 x.t,.str x.x,.ro 1 (x.m.map eS) x.e]] true true)],2⟩ =
  some (.ro 6 ((G++mks x (l.drop (i+1))).map Nd.c) false)):∀ n k,n+k=x.m.length->∀ G:List Nd,G.length<=8 * i+k ->
 Fj C ⟨[(65,.int .i64 k),(64,.int .i64 x.m.length),(63,.ro 1 (x.m.map eS) x.e),(12,.int .i64 i),(11,.int .i64 l.length),(10,.ro 6 (l.map Pt.c) e),(7,.ptr 0 0 0),(5,.sl 1 6 0 G.length G.length false),(2,.ptr 2 0 0)],[(0,.cells 6 [p.c] true true),(1,.cells 6 (G.map Nd.c) true true),(2,.cells 4 [[.int .u64 x.k,.int .u8 x.t,.str x.x,.ro 1 (x.m.map eS) x.e]] true true)],3⟩ =
  some (.ro 6 ((G++(x.m.drop k).map (λm=>yZ x p m [bT m])++mks x (l.drop (i+1))).map Nd.c) false):=by
 intro n;induction n with
 | zero =>
  intro k hk2 G hG;have h1:x.m.drop k=[]:=qwj qqq;have h3:¬ k < x.m.length:=by omega
  have:=hnext G qqq;simp only [kG] at this;simp at this;simp only [Fj];rw [aj AZ.eq_1];simp (disch:=omega) [aj qJ.eq_1,h1,h3,aC,this]
 | succ n ih =>
  intro k hk2 G hG;have h1:k < x.m.length:=by omega
  have hs:=UR hp.1;have he:=Ib H.toafE x hk qqq p hs.1 (λs q=>⟨hp.2.f s q,hs.2 s q⟩) x.m[k] [bT x.m[k]] true;have hw:=yg H.toafE x.m[k];have:=ih (k+1) qqq (G++[yZ x p x.m[k] [bT x.m[k]]]) qqx;have hfit:(G.length+1) * 105<=35184372088832:=by omega
  rw [drop_cons h1];simp only [Fj] at this |-;rw [aj AZ.eq_1];simp at this;simp at he;simp (disch:=omega) [h1,aC,hfit,hw,he,H.inl,ak,H.pp,ppB,this]
theorem ZJ (H:rG C) (x:It) (hk:0<=x.k/\x.k < 18446744073709551616) (hm:x.m.length<=8) (l:List Pt) (e:Bool) (hl:l.length<=16) (ho:∀ p ∈ l,Okp p)
 (ih:∀ p ∈ l,FnW C 547 [eIt x,.ro 6 (p.ch.map Pt.c) p.ce]=some (.ro 6 ((mks x p.ch).map Nd.c) false)):∀ n i,n+i=l.length->∀ G:List Nd,G.length<=8 * i ->
 kG C ⟨[(12,.int .i64 i),(11,.int .i64 l.length),(10,.ro 6 (l.map Pt.c) e),(5,.sl 0 6 0 G.length G.length false),(2,.ptr 1 0 0)],[(0,.cells 6 (G.map Nd.c) true true),(1,.cells 4 [[.int .u64 x.k,.int .u8 x.t,.str x.x,.ro 1 (x.m.map eS) x.e]] true true)],2⟩ =
  some (.ro 6 ((G++mks x (l.drop i)).map Nd.c) false):=by
 intro n;induction n with
 | zero =>
  intro i hi G hG;have h1:l.drop i=[]:=qwj qqq;have h3:¬ i < l.length:=by omega
  simp only [kG];rw [aj oL.eq_1];cases G with
  | nil=>simp [aj Bg.eq_1,h1,h3,mks]
  | cons g G=>simp (disch:=(first | omega | (simp;done) | (simp;omega))) [aj Bg.eq_1,h1,h3,mks,qzz]
 | succ n ihn =>
  intro i hi G hG;have h1:i < l.length:=by omega
  have hp:=ho _ (qxx h1);have hpo:qo l[i]=true:=by cases hp;assumption
  have hpf:Fits l[i]:=by cases hp;assumption
  have hs:=UR hpo;have hnext:∀ G:List Nd,G.length<=8 * (i+1)->kG C ⟨[(12,.int .i64 ((i:Int)+1)),(11,.int .i64 l.length),(10,.ro 6 (l.map Pt.c) e),(5,.sl 0 6 0 G.length G.length false),(2,.ptr 1 0 0)],[(0,.cells 6 (G.map Nd.c) true true),(1,.cells 4 [[.int .u64 x.k,.int .u8 x.t,.str x.x,.ro 1 (x.m.map eS) x.e]] true true)],2⟩ = some (.ro 6 ((G++mks x (l.drop (i+1))).map Nd.c) false):=λG q=>by have:=ihn (i+1) qqq G q;simpa using this
  have hfit:(G.length+1) * 105<=35184372088832:=by omega
  rw [drop_cons h1,mks];have step:∀ N:Nd,kG C ⟨[(12,.int .i64 ((i:Int)+1)),(11,.int .i64 l.length),(10,.ro 6 (l.map Pt.c) e),(5,.sl 0 6 0 (G.length+1) (G.length+1) false),(2,.ptr 1 0 0)],[(0,.cells 6 (G.map Nd.c++[N.c]) true true),(1,.cells 4 [[.int .u64 x.k,.int .u8 x.t,.str x.x,.ro 1 (x.m.map eS) x.e]] true true)],2⟩ = some (.ro 6 ((G++([N]++mks x (l.drop (i+1)))).map Nd.c) false):=λN=>by have:=hnext (G++[N]) qqx;simpa using this
  rcases WS hpo with k1 | k1 | k1 | k1 | k1
  ·have he:=Ib H.toafE x hk qqq l[i] hs.1 (λs q=>⟨hpf.f s q,hs.2 s q⟩) l[i].y (mks x l[i].ch) false;have hr:=ih _ (qxx h1);have:=step (yZ x l[i] l[i].y (mks x l[i].ch));have hq:mk x l[i]=[yZ x l[i] l[i].y (mks x l[i].ch)]:=by rw [mk_eq,qwz k1]
   rw [hq];simp only [kG] at this |-;rw [aj oL.eq_1];simp at this;simp (disch:=omega) [aj qJ.eq_1,h1,k1,aC,hfit,he,hr,H.inl,ak,H.pp,ppB,this]
  ·have hw:=yg H.toafE l[i].x;have:=step (bT l[i].x);have hq:mk x l[i]=[bT l[i].x]:=by rw [mk_eq,qwq qqq,qwz k1]
   rw [hq];simp only [kG] at this |-;rw [aj oL.eq_1];simp at this;simp (disch:=omega) [aj qJ.eq_1,h1,k1,aC,hfit,hw,H.inl,ak,H.pp,ppB,this]
  ·have hw:=yg H.toafE x.x;have:=step (bT x.x);have hq:mk x l[i]=[bT x.x]:=by rw [mk_eq,qwq qqq,qwq qqq,qwz k1]
   rw [hq];simp only [kG] at this |-;rw [aj oL.eq_1];simp at this;simp (disch:=omega) [aj qJ.eq_1,h1,k1,aC,hfit,hw,H.inl,ak,H.pp,ppB,this]
  ·obtain ⟨k,hk2⟩:∃ k:Nat,x.k=k:=⟨x.k.toNat,by omega⟩;have hd:=Ou H.toacF k qqq;have hw:=yg H.toafE (dec x.k.toNat);have:=step (bT (dec x.k.toNat));have hq:mk x l[i]=[bT (dec x.k.toNat)]:=by rw [mk_eq,qwq qqq,qwq qqq,qwq qqq,qwz k1]
   rw [hq];rw [hk2] at this hw |-;simp only [kG] at this |-;rw [aj oL.eq_1];simp at this hw;simp (disch:=omega) [aj qJ.eq_1,h1,k1,aC,hfit,hd,hw,H.inl,ak,H.pp,ppB,this]
  ·have:=afJ H x hk hm l e hl l[i] ⟨hpo,hpf⟩ k1 i h1 hnext x.m.length 0 qqz G qqq;have hq:mk x l[i]=x.m.map λm=>yZ x l[i] m [bT m]:=by rw [mk_eq,qwq qqq,qwq qqq,qwq qqq,qwq qqq,qwz k1]
   rw [hq,<- qQj];rw [qjq] at this;generalize G++List.map (λm=>yZ x l[i] m [bT m]) x.m++mks x (l.drop (i+1))=R at *;simp only [kG];simp only [Fj] at this;rw [aj oL.eq_1];simp at this;simp (disch:=omega) [aj qJ.eq_1,h1,k1,aC,H.inl,ak,H.pp,ppB,this]
theorem LZ (H:rG C) (x:It) (hk:0<=x.k/\x.k < 18446744073709551616) (hm:x.m.length<=8) (l:List Pt) (e:Bool) (hl:l.length<=16) (ho:∀ p ∈ l,Okp p)
 (ih:∀ p ∈ l,FnW C 547 [eIt x,.ro 6 (p.ch.map Pt.c) p.ce]=some (.ro 6 ((mks x p.ch).map Nd.c) false)):FnW C 547 [eIt x,.ro 6 (l.map Pt.c) e]=some (.ro 6 ((mks x l).map Nd.c) false):=by
 have h:=ZJ H x hk hm l e hl ho ih l.length 0 qqz [] qqz;simp only [kG] at h;simp at h;rw [aF H.al9 rfl];simp [ajh,h]
theorem TD (H:rG C) (x:It) (hk:0<=x.k/\x.k < 18446744073709551616) (hm:x.m.length<=8) (p:Pt) (hp:Okp p):FnW C 547 [eIt x,.ro 6 (p.ch.map Pt.c) p.ce]=some (.ro 6 ((mks x p.ch).map Nd.c) false):=by
 have ho:∀ m ∈ p.ch,Okp m:=by cases hp;assumption
 have hl:p.ch.length<=16:=BF (by cases hp;assumption);exact LZ H x hk hm p.ch p.ce hl ho λm q=>TD H x hk hm m (ho m q)
termination_by SizeOf.sizeOf p
decreasing_by
 have:=qoj q;have:=Pt.yE p;omega
theorem afY (H:rG C) (x:It) (hk:0<=x.k/\x.k < 18446744073709551616) (hm:x.m.length<=8) (l:List Pt) (e:Bool) (hl:l.length<=16) (ho:∀ p ∈ l,Okp p) :
 FnW C 547 [eIt x,.ro 6 (l.map Pt.c) e]=some (.ro 6 ((mks x l).map Nd.c) false) :=
 LZ H x hk hm l e hl ho λm q=>TD H x hk hm m (ho m q)
theorem dP (x:It) (p:Pt) (m:Bs):(jk x p m [bT m] true).c=[.int .u8 1,.str p.t,.str m,.ro 2 ((p.s.map (bG x)).map eA) false,.str [],.ro 6 [[.int .u8 2,.str [],.str [],.ro 2 [] true,.str m,.ro 6 [] true]] true]:=by rw [Nd.fH];simp only [jk,qvz,qax];rw [Nd.fH];simp [bT]
theorem ahv (H:rG C) (x:It) (hk:0<=x.k/\x.k < 18446744073709551616) (hl8:x.m.length<=8) (p:Pt) (hl:p.s.length<=8) (m1 m2 m3 m4 m5 m6 m7 m8:Bs) (r:List Bs) (hm:x.m=[m1,m2,m3,m4,m5,m6,m7,m8]++r) :
 dH C ⟨[(6,.int .i64 8),(5,.sl 0 6 0 8 8 false),(3,.ptr 9 0 0),(2,.ptr 10 0 0)],[(0,.cells 6 [[.int .u8 1,.str p.t,.str m1,.ro 2 ((p.s.map (bG x)).map eA) false,.str [],.sl 1 6 0 1 1 true],[.int .u8 1,.str p.t,.str m2,.ro 2 ((p.s.map (bG x)).map eA) false,.str [],.sl 2 6 0 1 1 true],[.int .u8 1,.str p.t,.str m3,.ro 2 ((p.s.map (bG x)).map eA) false,.str [],.sl 3 6 0 1 1 true],[.int .u8 1,.str p.t,.str m4,.ro 2 ((p.s.map (bG x)).map eA) false,.str [],.sl 4 6 0 1 1 true],[.int .u8 1,.str p.t,.str m5,.ro 2 ((p.s.map (bG x)).map eA) false,.str [],.sl 5 6 0 1 1 true],[.int .u8 1,.str p.t,.str m6,.ro 2 ((p.s.map (bG x)).map eA) false,.str [],.sl 6 6 0 1 1 true],[.int .u8 1,.str p.t,.str m7,.ro 2 ((p.s.map (bG x)).map eA) false,.str [],.sl 7 6 0 1 1 true],[.int .u8 1,.str p.t,.str m8,.ro 2 ((p.s.map (bG x)).map eA) false,.str [],.sl 8 6 0 1 1 true]] true false),(1,.cells 6 [[.int .u8 2,.str [],.str [],.ro 2 [] true,.str m1,.ro 6 [] true]] true true),(2,.cells 6 [[.int .u8 2,.str [],.str [],.ro 2 [] true,.str m2,.ro 6 [] true]] true true),(3,.cells 6 [[.int .u8 2,.str [],.str [],.ro 2 [] true,.str m3,.ro 6 [] true]] true true),(4,.cells 6 [[.int .u8 2,.str [],.str [],.ro 2 [] true,.str m4,.ro 6 [] true]] true true),(5,.cells 6 [[.int .u8 2,.str [],.str [],.ro 2 [] true,.str m5,.ro 6 [] true]] true true),(6,.cells 6 [[.int .u8 2,.str [],.str [],.ro 2 [] true,.str m6,.ro 6 [] true]] true true),(7,.cells 6 [[.int .u8 2,.str [],.str [],.ro 2 [] true,.str m7,.ro 6 [] true]] true true),(8,.cells 6 [[.int .u8 2,.str [],.str [],.ro 2 [] true,.str m8,.ro 6 [] true]] true true),(9,.cells 4 [[.int .u64 x.k,.int .u8 x.t,.str x.x,.ro 1 (x.m.map eS) x.e]] true true),(10,.cells 6 [p.c] true true)],11⟩ =
  some (.ro 6 (([m1,m2,m3,m4,m5,m6,m7,m8]++r).map λm=>(jk x p m [bT m] true).c) false):=by
 simp only [dH];rw [aj kJ.eq_1];have hxl:x.m.length=8+r.length:=by rw [hm];simp;omega
 cases r with
 | nil =>simp at hxl;simp [aj lH.eq_1,hxl,dP]
 | cons m9 r=>simp at hxl;omega
theorem ail (H:rG C) (x:It) (hk:0<=x.k/\x.k < 18446744073709551616) (hl8:x.m.length<=8) (p:Pt) (hl:p.s.length<=8) (m1 m2 m3 m4 m5 m6 m7:Bs) (r:List Bs) (hm:x.m=[m1,m2,m3,m4,m5,m6,m7]++r) :
 dH C ⟨[(6,.int .i64 7),(5,.sl 0 6 0 7 7 false),(3,.ptr 8 0 0),(2,.ptr 9 0 0)],[(0,.cells 6 [[.int .u8 1,.str p.t,.str m1,.ro 2 ((p.s.map (bG x)).map eA) false,.str [],.sl 1 6 0 1 1 true],[.int .u8 1,.str p.t,.str m2,.ro 2 ((p.s.map (bG x)).map eA) false,.str [],.sl 2 6 0 1 1 true],[.int .u8 1,.str p.t,.str m3,.ro 2 ((p.s.map (bG x)).map eA) false,.str [],.sl 3 6 0 1 1 true],[.int .u8 1,.str p.t,.str m4,.ro 2 ((p.s.map (bG x)).map eA) false,.str [],.sl 4 6 0 1 1 true],[.int .u8 1,.str p.t,.str m5,.ro 2 ((p.s.map (bG x)).map eA) false,.str [],.sl 5 6 0 1 1 true],[.int .u8 1,.str p.t,.str m6,.ro 2 ((p.s.map (bG x)).map eA) false,.str [],.sl 6 6 0 1 1 true],[.int .u8 1,.str p.t,.str m7,.ro 2 ((p.s.map (bG x)).map eA) false,.str [],.sl 7 6 0 1 1 true]] true false),(1,.cells 6 [[.int .u8 2,.str [],.str [],.ro 2 [] true,.str m1,.ro 6 [] true]] true true),(2,.cells 6 [[.int .u8 2,.str [],.str [],.ro 2 [] true,.str m2,.ro 6 [] true]] true true),(3,.cells 6 [[.int .u8 2,.str [],.str [],.ro 2 [] true,.str m3,.ro 6 [] true]] true true),(4,.cells 6 [[.int .u8 2,.str [],.str [],.ro 2 [] true,.str m4,.ro 6 [] true]] true true),(5,.cells 6 [[.int .u8 2,.str [],.str [],.ro 2 [] true,.str m5,.ro 6 [] true]] true true),(6,.cells 6 [[.int .u8 2,.str [],.str [],.ro 2 [] true,.str m6,.ro 6 [] true]] true true),(7,.cells 6 [[.int .u8 2,.str [],.str [],.ro 2 [] true,.str m7,.ro 6 [] true]] true true),(8,.cells 4 [[.int .u64 x.k,.int .u8 x.t,.str x.x,.ro 1 (x.m.map eS) x.e]] true true),(9,.cells 6 [p.c] true true)],10⟩ =
  some (.ro 6 (([m1,m2,m3,m4,m5,m6,m7]++r).map λm=>(jk x p m [bT m] true).c) false):=by
 simp only [dH];rw [aj kJ.eq_1];have hxl:x.m.length=7+r.length:=by rw [hm];simp;omega
 cases r with
 | nil =>simp at hxl;simp [aj lH.eq_1,hxl,dP]
 | cons m8 r =>
  have h1:7 < x.m.length:=by rw [hxl];simp
  have hg:x.m[7]=m8:=by
   have q:x.m[7]?=some m8:=by rw [hm];simp
   rw [qqj h1] at q;exact qyj q
  have ha:=jH H.toac2 x hk qqq p.s p.se hl;have this:=ahv H x hk hl8 p hl m1 m2 m3 m4 m5 m6 m7 m8 r (by rw [hm];simp);simp only [dH] at this;simp [dP] at this;have h2:(7:Int) < x.m.length:=by omega
  simp (disch:=omega) [h1,h2,hg,aC,dP,ha,H.inl,ak,H.pp,ppB,this]
theorem ag8 (H:rG C) (x:It) (hk:0<=x.k/\x.k < 18446744073709551616) (hl8:x.m.length<=8) (p:Pt) (hl:p.s.length<=8) (m1 m2 m3 m4 m5 m6:Bs) (r:List Bs) (hm:x.m=[m1,m2,m3,m4,m5,m6]++r) :
 dH C ⟨[(6,.int .i64 6),(5,.sl 0 6 0 6 6 false),(3,.ptr 7 0 0),(2,.ptr 8 0 0)],[(0,.cells 6 [[.int .u8 1,.str p.t,.str m1,.ro 2 ((p.s.map (bG x)).map eA) false,.str [],.sl 1 6 0 1 1 true],[.int .u8 1,.str p.t,.str m2,.ro 2 ((p.s.map (bG x)).map eA) false,.str [],.sl 2 6 0 1 1 true],[.int .u8 1,.str p.t,.str m3,.ro 2 ((p.s.map (bG x)).map eA) false,.str [],.sl 3 6 0 1 1 true],[.int .u8 1,.str p.t,.str m4,.ro 2 ((p.s.map (bG x)).map eA) false,.str [],.sl 4 6 0 1 1 true],[.int .u8 1,.str p.t,.str m5,.ro 2 ((p.s.map (bG x)).map eA) false,.str [],.sl 5 6 0 1 1 true],[.int .u8 1,.str p.t,.str m6,.ro 2 ((p.s.map (bG x)).map eA) false,.str [],.sl 6 6 0 1 1 true]] true false),(1,.cells 6 [[.int .u8 2,.str [],.str [],.ro 2 [] true,.str m1,.ro 6 [] true]] true true),(2,.cells 6 [[.int .u8 2,.str [],.str [],.ro 2 [] true,.str m2,.ro 6 [] true]] true true),(3,.cells 6 [[.int .u8 2,.str [],.str [],.ro 2 [] true,.str m3,.ro 6 [] true]] true true),(4,.cells 6 [[.int .u8 2,.str [],.str [],.ro 2 [] true,.str m4,.ro 6 [] true]] true true),(5,.cells 6 [[.int .u8 2,.str [],.str [],.ro 2 [] true,.str m5,.ro 6 [] true]] true true),(6,.cells 6 [[.int .u8 2,.str [],.str [],.ro 2 [] true,.str m6,.ro 6 [] true]] true true),(7,.cells 4 [[.int .u64 x.k,.int .u8 x.t,.str x.x,.ro 1 (x.m.map eS) x.e]] true true),(8,.cells 6 [p.c] true true)],9⟩ =
  some (.ro 6 (([m1,m2,m3,m4,m5,m6]++r).map λm=>(jk x p m [bT m] true).c) false):=by
 simp only [dH];rw [aj kJ.eq_1];have hxl:x.m.length=6+r.length:=by rw [hm];simp;omega
 cases r with
 | nil =>simp at hxl;simp [aj lH.eq_1,hxl,dP]
 | cons m7 r =>
  have h1:6 < x.m.length:=by rw [hxl];simp
  have hg:x.m[6]=m7:=by
   have q:x.m[6]?=some m7:=by rw [hm];simp
   rw [qqj h1] at q;exact qyj q
  have ha:=jH H.toac2 x hk qqq p.s p.se hl;have this:=ail H x hk hl8 p hl m1 m2 m3 m4 m5 m6 m7 r (by rw [hm];simp);simp only [dH] at this;simp [dP] at this;have h2:(6:Int) < x.m.length:=by omega
  simp (disch:=omega) [h1,h2,hg,aC,dP,ha,H.inl,ak,H.pp,ppB,this]
theorem agR (H:rG C) (x:It) (hk:0<=x.k/\x.k < 18446744073709551616) (hl8:x.m.length<=8) (p:Pt) (hl:p.s.length<=8) (m1 m2 m3 m4 m5:Bs) (r:List Bs) (hm:x.m=[m1,m2,m3,m4,m5]++r) :
 dH C ⟨[(6,.int .i64 5),(5,.sl 0 6 0 5 5 false),(3,.ptr 6 0 0),(2,.ptr 7 0 0)],[(0,.cells 6 [[.int .u8 1,.str p.t,.str m1,.ro 2 ((p.s.map (bG x)).map eA) false,.str [],.sl 1 6 0 1 1 true],[.int .u8 1,.str p.t,.str m2,.ro 2 ((p.s.map (bG x)).map eA) false,.str [],.sl 2 6 0 1 1 true],[.int .u8 1,.str p.t,.str m3,.ro 2 ((p.s.map (bG x)).map eA) false,.str [],.sl 3 6 0 1 1 true],[.int .u8 1,.str p.t,.str m4,.ro 2 ((p.s.map (bG x)).map eA) false,.str [],.sl 4 6 0 1 1 true],[.int .u8 1,.str p.t,.str m5,.ro 2 ((p.s.map (bG x)).map eA) false,.str [],.sl 5 6 0 1 1 true]] true false),(1,.cells 6 [[.int .u8 2,.str [],.str [],.ro 2 [] true,.str m1,.ro 6 [] true]] true true),(2,.cells 6 [[.int .u8 2,.str [],.str [],.ro 2 [] true,.str m2,.ro 6 [] true]] true true),(3,.cells 6 [[.int .u8 2,.str [],.str [],.ro 2 [] true,.str m3,.ro 6 [] true]] true true),(4,.cells 6 [[.int .u8 2,.str [],.str [],.ro 2 [] true,.str m4,.ro 6 [] true]] true true),(5,.cells 6 [[.int .u8 2,.str [],.str [],.ro 2 [] true,.str m5,.ro 6 [] true]] true true),(6,.cells 4 [[.int .u64 x.k,.int .u8 x.t,.str x.x,.ro 1 (x.m.map eS) x.e]] true true),(7,.cells 6 [p.c] true true)],8⟩ =
  some (.ro 6 (([m1,m2,m3,m4,m5]++r).map λm=>(jk x p m [bT m] true).c) false):=by
 simp only [dH];rw [aj kJ.eq_1];have hxl:x.m.length=5+r.length:=by rw [hm];simp;omega
 cases r with
 | nil =>simp at hxl;simp [aj lH.eq_1,hxl,dP]
 | cons m6 r =>
  have h1:5 < x.m.length:=by rw [hxl];simp
  have hg:x.m[5]=m6:=by
   have q:x.m[5]?=some m6:=by rw [hm];simp
   rw [qqj h1] at q;exact qyj q
  have ha:=jH H.toac2 x hk qqq p.s p.se hl;have this:=ag8 H x hk hl8 p hl m1 m2 m3 m4 m5 m6 r (by rw [hm];simp);simp only [dH] at this;simp [dP] at this;have h2:(5:Int) < x.m.length:=by omega
  simp (disch:=omega) [h1,h2,hg,aC,dP,ha,H.inl,ak,H.pp,ppB,this]
theorem agS (H:rG C) (x:It) (hk:0<=x.k/\x.k < 18446744073709551616) (hl8:x.m.length<=8) (p:Pt) (hl:p.s.length<=8) (m1 m2 m3 m4:Bs) (r:List Bs) (hm:x.m=[m1,m2,m3,m4]++r) :
 dH C ⟨[(6,.int .i64 4),(5,.sl 0 6 0 4 4 false),(3,.ptr 5 0 0),(2,.ptr 6 0 0)],[(0,.cells 6 [[.int .u8 1,.str p.t,.str m1,.ro 2 ((p.s.map (bG x)).map eA) false,.str [],.sl 1 6 0 1 1 true],[.int .u8 1,.str p.t,.str m2,.ro 2 ((p.s.map (bG x)).map eA) false,.str [],.sl 2 6 0 1 1 true],[.int .u8 1,.str p.t,.str m3,.ro 2 ((p.s.map (bG x)).map eA) false,.str [],.sl 3 6 0 1 1 true],[.int .u8 1,.str p.t,.str m4,.ro 2 ((p.s.map (bG x)).map eA) false,.str [],.sl 4 6 0 1 1 true]] true false),(1,.cells 6 [[.int .u8 2,.str [],.str [],.ro 2 [] true,.str m1,.ro 6 [] true]] true true),(2,.cells 6 [[.int .u8 2,.str [],.str [],.ro 2 [] true,.str m2,.ro 6 [] true]] true true),(3,.cells 6 [[.int .u8 2,.str [],.str [],.ro 2 [] true,.str m3,.ro 6 [] true]] true true),(4,.cells 6 [[.int .u8 2,.str [],.str [],.ro 2 [] true,.str m4,.ro 6 [] true]] true true),(5,.cells 4 [[.int .u64 x.k,.int .u8 x.t,.str x.x,.ro 1 (x.m.map eS) x.e]] true true),(6,.cells 6 [p.c] true true)],7⟩ =
  some (.ro 6 (([m1,m2,m3,m4]++r).map λm=>(jk x p m [bT m] true).c) false):=by
 simp only [dH];rw [aj kJ.eq_1];have hxl:x.m.length=4+r.length:=by rw [hm];simp;omega
 cases r with
 | nil =>simp at hxl;simp [aj lH.eq_1,hxl,dP]
 | cons m5 r =>
  have h1:4 < x.m.length:=by rw [hxl];simp
  have hg:x.m[4]=m5:=by
   have q:x.m[4]?=some m5:=by rw [hm];simp
   rw [qqj h1] at q;exact qyj q
  have ha:=jH H.toac2 x hk qqq p.s p.se hl;have this:=agR H x hk hl8 p hl m1 m2 m3 m4 m5 r (by rw [hm];simp);simp only [dH] at this;simp [dP] at this;have h2:(4:Int) < x.m.length:=by omega
  simp (disch:=omega) [h1,h2,hg,aC,dP,ha,H.inl,ak,H.pp,ppB,this]
theorem ahx (H:rG C) (x:It) (hk:0<=x.k/\x.k < 18446744073709551616) (hl8:x.m.length<=8) (p:Pt) (hl:p.s.length<=8) (m1 m2 m3:Bs) (r:List Bs) (hm:x.m=[m1,m2,m3]++r) :
 dH C ⟨[(6,.int .i64 3),(5,.sl 0 6 0 3 3 false),(3,.ptr 4 0 0),(2,.ptr 5 0 0)],[(0,.cells 6 [[.int .u8 1,.str p.t,.str m1,.ro 2 ((p.s.map (bG x)).map eA) false,.str [],.sl 1 6 0 1 1 true],[.int .u8 1,.str p.t,.str m2,.ro 2 ((p.s.map (bG x)).map eA) false,.str [],.sl 2 6 0 1 1 true],[.int .u8 1,.str p.t,.str m3,.ro 2 ((p.s.map (bG x)).map eA) false,.str [],.sl 3 6 0 1 1 true]] true false),(1,.cells 6 [[.int .u8 2,.str [],.str [],.ro 2 [] true,.str m1,.ro 6 [] true]] true true),(2,.cells 6 [[.int .u8 2,.str [],.str [],.ro 2 [] true,.str m2,.ro 6 [] true]] true true),(3,.cells 6 [[.int .u8 2,.str [],.str [],.ro 2 [] true,.str m3,.ro 6 [] true]] true true),(4,.cells 4 [[.int .u64 x.k,.int .u8 x.t,.str x.x,.ro 1 (x.m.map eS) x.e]] true true),(5,.cells 6 [p.c] true true)],6⟩ =
  some (.ro 6 (([m1,m2,m3]++r).map λm=>(jk x p m [bT m] true).c) false):=by
 simp only [dH];rw [aj kJ.eq_1];have hxl:x.m.length=3+r.length:=by rw [hm];simp;omega
 cases r with
 | nil =>simp at hxl;simp [aj lH.eq_1,hxl,dP]
 | cons m4 r =>
  have h1:3 < x.m.length:=by rw [hxl];simp
  have hg:x.m[3]=m4:=by
   have q:x.m[3]?=some m4:=by rw [hm];simp
   rw [qqj h1] at q;exact qyj q
  have ha:=jH H.toac2 x hk qqq p.s p.se hl;have this:=agS H x hk hl8 p hl m1 m2 m3 m4 r (by rw [hm];simp);simp only [dH] at this;simp [dP] at this;have h2:(3:Int) < x.m.length:=by omega
  simp (disch:=omega) [h1,h2,hg,aC,dP,ha,H.inl,ak,H.pp,ppB,this]
theorem ahI (H:rG C) (x:It) (hk:0<=x.k/\x.k < 18446744073709551616) (hl8:x.m.length<=8) (p:Pt) (hl:p.s.length<=8) (m1 m2:Bs) (r:List Bs) (hm:x.m=[m1,m2]++r) :
 dH C ⟨[(6,.int .i64 2),(5,.sl 0 6 0 2 2 false),(3,.ptr 3 0 0),(2,.ptr 4 0 0)],[(0,.cells 6 [[.int .u8 1,.str p.t,.str m1,.ro 2 ((p.s.map (bG x)).map eA) false,.str [],.sl 1 6 0 1 1 true],[.int .u8 1,.str p.t,.str m2,.ro 2 ((p.s.map (bG x)).map eA) false,.str [],.sl 2 6 0 1 1 true]] true false),(1,.cells 6 [[.int .u8 2,.str [],.str [],.ro 2 [] true,.str m1,.ro 6 [] true]] true true),(2,.cells 6 [[.int .u8 2,.str [],.str [],.ro 2 [] true,.str m2,.ro 6 [] true]] true true),(3,.cells 4 [[.int .u64 x.k,.int .u8 x.t,.str x.x,.ro 1 (x.m.map eS) x.e]] true true),(4,.cells 6 [p.c] true true)],5⟩ =
  some (.ro 6 (([m1,m2]++r).map λm=>(jk x p m [bT m] true).c) false):=by
 simp only [dH];rw [aj kJ.eq_1];have hxl:x.m.length=2+r.length:=by rw [hm];simp;omega
 cases r with
 | nil =>simp at hxl;simp [aj lH.eq_1,hxl,dP]
 | cons m3 r =>
  have h1:2 < x.m.length:=by rw [hxl];simp
  have hg:x.m[2]=m3:=by
   have q:x.m[2]?=some m3:=by rw [hm];simp
   rw [qqj h1] at q;exact qyj q
  have ha:=jH H.toac2 x hk qqq p.s p.se hl;have this:=ahx H x hk hl8 p hl m1 m2 m3 r (by rw [hm];simp);simp only [dH] at this;simp [dP] at this;have h2:(2:Int) < x.m.length:=by omega
  simp (disch:=omega) [h1,h2,hg,aC,dP,ha,H.inl,ak,H.pp,ppB,this]
theorem agN (H:rG C) (x:It) (hk:0<=x.k/\x.k < 18446744073709551616) (hl8:x.m.length<=8) (p:Pt) (hl:p.s.length<=8) (m1:Bs) (r:List Bs) (hm:x.m=[m1]++r) :
 dH C ⟨[(6,.int .i64 1),(5,.sl 0 6 0 1 1 false),(3,.ptr 2 0 0),(2,.ptr 3 0 0)],[(0,.cells 6 [[.int .u8 1,.str p.t,.str m1,.ro 2 ((p.s.map (bG x)).map eA) false,.str [],.sl 1 6 0 1 1 true]] true false),(1,.cells 6 [[.int .u8 2,.str [],.str [],.ro 2 [] true,.str m1,.ro 6 [] true]] true true),(2,.cells 4 [[.int .u64 x.k,.int .u8 x.t,.str x.x,.ro 1 (x.m.map eS) x.e]] true true),(3,.cells 6 [p.c] true true)],4⟩ =
  some (.ro 6 (([m1]++r).map λm=>(jk x p m [bT m] true).c) false):=by
 simp only [dH];rw [aj kJ.eq_1];have hxl:x.m.length=1+r.length:=by rw [hm];simp;omega
 cases r with
 | nil =>simp at hxl;simp [aj lH.eq_1,hxl,dP]
 | cons m2 r =>
  have h1:1 < x.m.length:=by rw [hxl];simp
  have hg:x.m[1]=m2:=by
   have q:x.m[1]?=some m2:=by rw [hm];simp
   rw [qqj h1] at q;exact qyj q
  have ha:=jH H.toac2 x hk qqq p.s p.se hl;have this:=ahI H x hk hl8 p hl m1 m2 r (by rw [hm];simp);simp only [dH] at this;simp [dP] at this;have h2:(1:Int) < x.m.length:=by omega
  simp (disch:=omega) [h1,h2,hg,aC,dP,ha,H.inl,ak,H.pp,ppB,this]
theorem aho (H:rG C) (x:It) (hk:0<=x.k/\x.k < 18446744073709551616) (hl8:x.m.length<=8) (p:Pt) (hl:p.s.length<=8) (r:List Bs) (hm:x.m=r) :
 dH C ⟨[(6,.int .i64 0),(5,.sl 0 6 0 0 0 false),(3,.ptr 1 0 0),(2,.ptr 2 0 0)],[(0,.cells 6 [] true true),(1,.cells 4 [[.int .u64 x.k,.int .u8 x.t,.str x.x,.ro 1 (x.m.map eS) x.e]] true true),(2,.cells 6 [p.c] true true)],3⟩ =
  some (.ro 6 (r.map λm=>(jk x p m [bT m] true).c) false):=by
 simp only [dH];rw [aj kJ.eq_1];have hxl:x.m.length=0+r.length:=by rw [hm];simp
 cases r with
 | nil =>simp at hxl;simp [aj lH.eq_1,hxl,dP]
 | cons m1 r =>
  have h1:0 < x.m.length:=by rw [hxl];simp
  have hg:x.m[0]=m1:=by
   have q:x.m[0]?=some m1:=by rw [hm];simp
   rw [qqj h1] at q;exact qyj q
  have ha:=jH H.toac2 x hk qqq p.s p.se hl;have this:=agN H x hk hl8 p hl  m1 r (by rw [hm];simp);simp only [dH] at this;simp [dP] at this;have h2:(0:Int) < x.m.length:=by omega
  simp (disch:=omega) [h1,h2,hg,aC,dP,ha,H.inl,ak,H.pp,ppB,this]
def mdF (p:Pt):Bool:=decide (p.k≠5)
theorem agh (H:rG C) (x:It) (hk:0<=x.k/\x.k < 18446744073709551616) (hm:x.m.length<=8) (p:Pt) (hl:p.ch.length<=16)
 (ih:∀ m ∈ p.ch,FnW C 513 [.agg m.c,eIt x]=some (.ro 6 ((md x m).map Nd.c) (mdF m))):∀ n i,n+i=p.ch.length->∀ G:List Nd,G.length<=8 * i ->
 oO C ⟨[(8,.int .i64 i),(7,.ptr 0 0 0),(3,.ptr 2 0 0),(2,.ptr 3 0 0)],[(0,.cells 6 [[.int .u8 1,.str p.t,.str p.y,.ro 2 ((p.s.map (bG x)).map eA) false,.str [],.sl 1 6 0 G.length G.length false]] true false),(1,.cells 6 (G.map Nd.c) true true),(2,.cells 4 [[.int .u64 x.k,.int .u8 x.t,.str x.x,.ro 1 (x.m.map eS) x.e]] true true),(3,.cells 6 [p.c] true true)],4⟩ =
  some (.ro 6 [(jk x p p.y (G++mds x (p.ch.drop i)) false).c] true):=by
 intro n;induction n with
 | zero =>
  intro i hi G hG;have h1:p.ch.drop i=[]:=qwj qqq;have h3:¬ i < p.ch.length:=by omega
  have h4:List.take G.length (List.map Nd.c G)=List.map Nd.c G:=qzz qqz;have hw:(jk x p p.y G false).c=[.int .u8 1,.str p.t,.str p.y,.ro 2 ((p.s.map (bG x)).map eA) false,.str [],.ro 6 (G.map Nd.c) false]:=by rw [Nd.fH];rfl
  rw [h1,mds,qXz,hw];simp only [oO];rw [aj oG.eq_1];simp (disch:=omega) [aj FM.eq_1,h3,h4]
 | succ n ihn =>
  intro i hi G hG;have h1:i < p.ch.length:=by omega
  have hr:=ih _ (qxx h1);have hlen:=acP x hm p.ch[i];have:=ihn (i+1) qqq (G++md x p.ch[i]) qqx;have hfit:(G.length+(md x p.ch[i]).length) * 105<=35184372088832:=by omega
  rw [drop_cons h1,mds,<- qQj];generalize (jk x p p.y (G++md x p.ch[i]++mds x (List.drop (i+1) p.ch)) false).c=R at *;by_cases hE:md x p.ch[i]=[]
  ·simp only [oO] at this |-;rw [aj oG.eq_1];simp [hE] at this;simp (disch:=omega) [h1,aC,hr,hE,H.inl,ak,H.pp,ppB,this]
  ·simp only [oO] at this |-;rw [aj oG.eq_1];simp at this;simp (disch:=omega) [h1,aC,hr,hE,isE hE,hfit,H.inl,ak,H.pp,ppB,this]
theorem aer (H:rG C) (x:It) (hk:0<=x.k/\x.k < 18446744073709551616) (hm:x.m.length<=8) (p:Pt) (hl:p.ch.length<=16)
 (ih:∀ m ∈ p.ch,FnW C 513 [.agg m.c,eIt x]=some (.ro 6 ((md x m).map Nd.c) (mdF m))):∀ n i,n+i=p.ch.length ->
 oO C ⟨[(8,.int .i64 i),(7,.ptr 0 0 0),(3,.ptr 1 0 0),(2,.ptr 2 0 0)],[(0,.cells 6 [[.int .u8 1,.str p.t,.str p.y,.ro 2 ((p.s.map (bG x)).map eA) false,.str [],.ro 6 [] true]] true true),(1,.cells 4 [[.int .u64 x.k,.int .u8 x.t,.str x.x,.ro 1 (x.m.map eS) x.e]] true true),(2,.cells 6 [p.c] true true)],3⟩ =
  some (.ro 6 [(jk x p p.y (mds x (p.ch.drop i)) (mds x (p.ch.drop i)).isEmpty).c] true):=by
 intro n;induction n with
 | zero =>
  intro i hi;have h1:p.ch.drop i=[]:=qwj qqq;have h3:¬ i < p.ch.length:=by omega
  have hw:(jk x p p.y [] true).c=[.int .u8 1,.str p.t,.str p.y,.ro 2 ((p.s.map (bG x)).map eA) false,.str [],.ro 6 [] true]:=by rw [Nd.fH];rfl
  rw [h1,mds,List.isEmpty_nil,hw];simp only [oO];rw [aj oG.eq_1];simp (disch:=omega) [aj FM.eq_1,h3]
 | succ n ihn =>
  intro i hi;have h1:i < p.ch.length:=by omega
  have hr:=ih _ (qxx h1);have hlen:=acP x hm p.ch[i];have hfit:((md x p.ch[i]).length) * 105<=35184372088832:=by omega
  rw [drop_cons h1,mds];by_cases hE:md x p.ch[i]=[]
  ·have:=ihn (i+1) qqq;rw [hE,qJj];generalize (jk x p p.y (mds x (List.drop (i+1) p.ch)) (mds x (List.drop (i+1) p.ch)).isEmpty).c=R at *;simp only [oO] at this |-;rw [aj oG.eq_1];simp at this;simp (disch:=omega) [h1,aC,hr,hE,H.inl,ak,H.pp,ppB,this]
  ·have:=agh H x hk hm p hl ih n (i+1) qqq (md x p.ch[i]) qqq;have he:(md x p.ch[i]++mds x (List.drop (i+1) p.ch)).isEmpty=false:=isE (by simp [hE]);rw [he];generalize (jk x p p.y (md x p.ch[i]++mds x (List.drop (i+1) p.ch)) false).c=R at *;simp only [oO] at this |-;rw [aj oG.eq_1];simp at this;simp (disch:=omega) [h1,aC,hr,hE,isE hE,hfit,H.inl,ak,H.pp,ppB,this]
theorem aaw (H:rG C) (x:It) (hk:0<=x.k/\x.k < 18446744073709551616) (hm:x.m.length<=8) (p:Pt) (hp:qo p=true)
 (ih:∀ m ∈ p.ch,FnW C 513 [.agg m.c,eIt x]=some (.ro 6 ((md x m).map Nd.c) (mdF m))):FnW C 513 [.agg p.c,eIt x]=some (.ro 6 ((md x p).map Nd.c) (mdF p)):=by
 have hl:=BF hp;have hs:=UR hp;rw [aF H.amr rfl,abh];unfold mdF;have hw:∀ s:Bs,(bT s).c=[.int .u8 2,.str [],.str [],.ro 2 [] true,.str s,.ro 6 [] true]:=λs=>by rw [Nd.fH];rfl
 rcases WS hp with k1 | k1 | k1 | k1 | k1
 ·have h:=aer H x hk hm p hl ih p.ch.length 0 qqz;have ha:=jH H.toac2 x hk qqq p.s p.se hs.1;rw [qwq qqq,qwq qqq,qwq qqq,qwq qqq];rw [qjq] at h;simp only [qvz,qax];generalize (jk x p p.y (mds x p.ch) (mds x p.ch).isEmpty).c=R at *;simp only [oO] at h;simp at h;simp [TS,aj OV.eq_1,k1,ha,H.inl,ak,H.pp,ppB,h]
 ·simp [TS,k1,hw]
 ·simp [TS,k1,hw]
 ·obtain ⟨k,hk2⟩:∃ k:Nat,x.k=k:=⟨x.k.toNat,by omega⟩;have hd:=Po H.toacF k qqq;simp [TS,k1,hw,hk2,hd,H.inl,ak,H.pp,ppB]
 ·have h:=aho H x hk hm p hs.1 x.m rfl;rw [qwq qqq,qwq qqq,qwq qqq,qwz k1,qVz];have hq:(Nd.c ∘ λm=>jk x p m [bT m] true)=λm=>(jk x p m [bT m] true).c:=rfl;rw [hq];generalize List.map (λm=>(jk x p m [bT m] true).c) x.m=R at *;simp only [dH] at h;simp [TS,k1,h]
theorem qM (H:rG C) (x:It) (hk:0<=x.k/\x.k < 18446744073709551616) (hm:x.m.length<=8) (p:Pt) (hp:Okp p):FnW C 513 [.agg p.c,eIt x]=some (.ro 6 ((md x p).map Nd.c) (mdF p)):=by
 have ho:∀ m ∈ p.ch,Okp m:=by cases hp;assumption
 exact aaw H x hk hm p (by cases hp;assumption) λm q=>qM H x hk hm m (ho m q)
termination_by SizeOf.sizeOf p
decreasing_by
 have:=qoj q;have:=Pt.yE p;omega
theorem YH {x:It} (h:oW x=true):x.m.length<=8:=by unfold oW at h;simp at h;exact h.2.1
theorem aaZ (H:rG C) (p:Pt) (hf:iM p) (x:It) (hk:0<=x.k/\x.k < 18446744073709551616) (most:Int) :
 FnW C 501 [.agg p.c,eIt x,.int .i64 most]=some (.tup [.agg (SC p x most).c,.int .i64 (gJ p x most)]):=by
 have hz:zN.c=[.int .u8 0,.str [],.str [],.ro 2 [] true,.str [],.ro 6 [] true]:=by rw [Nd.fH];rfl
 have hc:=Lp H.toEU p;have hi:=adY H.toadq x;rw [aF H.akE rfl];unfold SC gJ;by_cases c1:most < 1
 ·simp [J5,c1,hz]
 ·by_cases c2:64 < most
  ·simp [J5,c1,c2,hz]
  ·by_cases c3:qp p=0
   ·rw [c3] at hc;simp at hc;simp [J5,c1,c2,c3,hc,hz,H.inl,ak,H.pp,ppB]
   ·rw [qwq c3] at hc;cases c4:oW x
    ·rw [c4] at hi;simp at hi;simp [J5,c1,c2,c3,hc,hi,hz,H.inl,ak,H.pp,ppB]
    ·rw [c4] at hi;simp at hi;have hk1:=ae6 c3;have hmk:=afY H x hk (YH c4) [p] true qqz (by simpa using RH hf c3);have hq:mks x [p]=[mkN x p]:=by unfold mkN;rw [mks,mks,mk_eq,qwz hk1];rfl
     rw [hq] at hmk;have hn:=Um H.toSV (mkN x p);generalize hN:mkN x p=N at *;generalize cnt N=K at *;simp at hmk;by_cases c5:K=0
     ·subst c5;simp [J5,c1,c2,c3,hc,hi,hz,hmk,hn,H.inl,ak,H.pp,ppB]
     ·by_cases c6:most < K
      ·simp [J5,c1,c2,c3,hc,hi,hz,hmk,hn,c5,c6,H.inl,ak,H.pp,ppB]
      ·simp [J5,c1,c2,c3,hc,hi,hz,hmk,hn,c5,c6,H.inl,ak,H.pp,ppB]
theorem WM (H:rG C) (p:Pt) (hf:iM p) (x:It) (hk:0<=x.k/\x.k < 18446744073709551616) (most:Int) :
 FnW C 425 [.agg p.c,eIt x,.int .i64 most]=some (.tup [.agg (alZ p x most).c,.int .i64 (gJ p x most)]):=by
 have hz:zN.c=[.int .u8 0,.str [],.str [],.ro 2 [] true,.str [],.ro 6 [] true]:=by rw [Nd.fH];rfl
 have hc:=WR H.toQN p hf;have hi:=aej H.toadq x;rw [aF H.aln rfl];unfold alZ gJ;by_cases c1:most < 1
 ·simp [J6,c1,hz]
 ·by_cases c2:64 < most
  ·simp [J6,c1,c2,hz]
  ·by_cases c3:qp p=0
   ·rw [c3] at hc;simp at hc;simp [J6,c1,c2,c3,hc,hz,H.inl,ak,H.pp,ppB]
   ·rw [qwq c3] at hc;cases c4:oW x
    ·rw [c4] at hi;simp at hi;simp [J6,c1,c2,c3,hc,hi,hz,H.inl,ak,H.pp,ppB]
    ·rw [c4] at hi;simp at hi;have hk1:=ae6 c3;have ho:=RH hf c3;have hmk:=qM H x hk (YH c4) p ho;have hq:md x p=[mdN x p]:=by unfold mdN;rw [abh,qwq qqq,qwq qqq,qwq qqq,qwq qqq];rfl
     rw [hq] at hmk;have hn:=Lu H.toRI (mdN x p);have hn2:=ZI H.toRI (mdN x p);have hcz:cnt (mkN x p)=cnt (mdN x p):=by rw [<- aj9,aom x p ho,aj9]
     rw [hcz];generalize hN:mdN x p=N at *;generalize cnt N=K at *;simp at hmk;by_cases c5:K=0
     ·subst c5;simp at hn2;simp [J6,c1,c2,c3,hc,hi,hz,hmk,hn,hn2,H.inl,ak,H.pp,ppB]
     ·simp [c5] at hn2;by_cases c6:most < K
      ·simp [J6,c1,c2,c3,hc,hi,hz,hmk,hn,hn2,c5,c6,H.inl,ak,H.pp,ppB]
      ·simp [J6,c1,c2,c3,hc,hi,hz,hmk,hn,hn2,c5,c6,H.inl,ak,H.pp,ppB]
end Go.D
end
section
namespace Go.D
open Go Go.Pav Go.Pw P
structure Kd where
 p:Pt
 b:Int
 st:Bool
 pl:Int
structure En where
 i:It
 s:Int
 kn:Bool
@[simp] def eKd (k:Kd):List AV:=[.int .u8 k.p.k,.str k.p.t,.str k.p.y,.ro 3 (k.p.s.map eSl) k.p.se,.str k.p.x,.ro 6 (k.p.ch.map Pt.c) k.p.ce,.int .i64 k.b,.bool k.st,.int .i64 k.pl]
@[simp] def cIt (i:It):List AV:=[.int .u64 i.k,.int .u8 i.t,.str i.x,.ro 1 (i.m.map eS) i.e]
@[simp] def eEn (e:En):List AV:=[.int .u64 e.i.k,.int .u8 e.i.t,.str e.i.x,.ro 1 (e.i.m.map eS) e.i.e,.int .i64 e.s,.bool e.kn]
abbrev aR (ks:List Kd) (ke:Bool) (cap:Int):AV:=.agg [.ro 9 (ks.map eKd) ke,.int .i64 cap]
abbrev aL (l:List En) (e:Bool):AV:=.agg [.ro 6 (l.map eEn) e]
abbrev aE (e:En):AV:=.agg (eEn e)
structure iU (i:It):Prop where
 k:0<=i.k/\i.k < 18446744073709551616
 t:0<=i.t/\i.t<=255
 m:i.m.length<=1000000
structure dQ (e:En):Prop where
 i:iU e.i
 s:-9223372036854775808<=e.s/\e.s<=9223372036854775807
structure jF (ks:List Kd):Prop where
 n:ks.length<=1000000
 f:∀ k ∈ ks,iM k.p
def hOk (n:Int):Bool:=decide (1<=n)&&decide (n<=2305843009213693952)
def OM (k:Kd):Bool:=hOk k.b&&decide (qp k.p≠0)
def rJ (ks:List Kd) (cap:Int):Bool:=decide (1<=ks.length)&&decide (ks.length<=8)&&decide (1<=cap)&&decide (cap<=64)&&ks.all OM
def zP:Pt:=⟨0,[],[],[],true,[],[],true⟩
def bW (ks:List Kd) (t:Int):Kd:=(ks[t.toNat]?).getD ⟨zP,0,false,0⟩
def itE (ks:List Kd) (cap:Int) (x:It) (seen:Bool):Int :=if fM ks.length x=false then 6 else if seen=true then 8 else if gJ (bW ks x.t).p x cap=0 then 0 else 14
def enE (ks:List Kd) (cap:Int) (e:En) (seen:Bool):Int :=if itE ks cap e.i seen≠0 then itE ks cap e.i seen else if hOk e.s=true/\(e.kn=true\/e.s=(bW ks e.i.t).b) then 0 else 12
def chk (ks:List Kd) (cap:Int):List Int->List En->Int
 | _,[]=>0
 | seen,e::r=>if enE ks cap e (seen.contains e.i.k)≠0 then enE ks cap e (seen.contains e.i.k) else chk ks cap (seen++[e.i.k]) r
def qj:Int->List En->Int
 | sum,[]=>sum
 | sum,e::r=>if 4611686018427387904 - sum < imax e.s 0 then 4611686018427387905 else qj (sum+imax e.s 0) r
def tot (l:List En):Int:=qj 0 l
def ovE (l:List En):Int:=if 4611686018427387904 < tot l then 13 else 0
def ckE (ks:List Kd) (cap:Int) (l:List En):Int :=if rJ ks cap=false then 7 else if 1024 < l.length then 3 else if chk ks cap [] l≠0 then chk ks cap [] l else ovE l
def tK (a b:It):Bool:=decide (a.k=b.k)&&decide (a.t=b.t)&&decide (a.x=b.x)&&decide (a.m=b.m)
def VL (a b:En):Bool:=decide (a.s=b.s)&&decide (a.kn=b.kn)&&tK a.i b.i
def yX:List En->List En->Bool
 | [],[]=>true
 | a::r,b::s=>VL a b&&yX r s
 | _,_=>false
def It.own (i:It):It:={ i with e:=true }
def En.own (e:En):En:={ e with i:=e.i.own }
def fre (ks:List Kd) (x:It):En:=⟨x,(bW ks x.t).b,false⟩
def spl {α:Type} (l:List α) (at_ count:Nat) (x:List α):List α:=l.take at_++x++l.drop (at_+count)
end Go.D
end
section
end
section
namespace Go.D
open Go Go.Pav Go.Pw P
attribute [-simp] List.getElem_cons_drop
variable {C:aH}
structure jR (C:aH):Prop extends pO C where
 f225:C.fns.get 225=some ahR
 f111:C.fns.get 111=some afN
 f227:C.fns.get 227=some agv
 amb:C.fns.get 460=some adU
 aeS:C.fns.get 459=some UW
 f340:C.fns.get 340=some agE
 f226:C.fns.get 226=some ab1
 f221:C.fns.get 221=some ajd
 akZ:C.fns.get 400=some ac1
 f219:C.fns.get 219=some ada
 al8:C.fns.get 504=some ahN
 alN:C.fns.get 407=some aiI
 f239:C.fns.get 239=some afD
 alx:C.fns.get 406=some aiC
 f240:C.fns.get 240=some ahE
 amM:C.fns.get 410=some abt
 f172:C.fns.get 172=some abP
 f112:C.fns.get 112=some RG
 amw:C.fns.get 423=some aiT
theorem La (H:jR C) (n:Int):FnW C 225 [.int .i64 n]=some (.bool (hOk n)):=by rw [aF H.f225 rfl];unfold hOk;by_cases c1:1<=n <;> by_cases c2:n<=2305843009213693952 <;> simp [ahR,c1,c2]
theorem Xo (s:Int) (h1:-9223372036854775808<=s) (h2:s<=9223372036854775807):0<=imax s 0/\imax s 0<=9223372036854775807:=by unfold imax;split <;> omega
theorem ae3 (H:jR C) (l:List En) (e:Bool) (hl:l.length<=1000000) (hs:∀ x ∈ l,-9223372036854775808<=x.s/\x.s<=9223372036854775807):∀ n i,n+i=l.length->∀ sum:Int,0<=sum->sum<=4611686018427387904 ->
 AU C ⟨[(10,.int .i64 i),(9,.int .i64 l.length),(8,.ro 6 (l.map eEn) e),(3,.int .i64 sum)],[],0⟩=some (.int .i64 (qj sum (l.drop i))):=by
 intro n;induction n with
 | zero =>
  intro i hi sum s1 s2;simp only [AU];rw [aj wL.eq_1];have h1:l.drop i=[]:=qwj qqq;have h3:¬ i < l.length:=by omega
  simp [aj Md.eq_1,h1,h3,qj]
 | succ n ih =>
  intro i hi sum s1 s2;have h1:i < l.length:=by omega
  have hb:=Xo l[i].s (hs _ (qxx h1)).1 (hs _ (qxx h1)).2;rw [drop_cons h1,qj];generalize hM:imax l[i].s 0=M at *;by_cases c:4611686018427387904 - sum < M
  ·rw [qwz c];simp only [AU];rw [aj wL.eq_1];simp (disch:=omega) [h1,aC,hM,c]
  ·rw [qwq c];have:=ih (i+1) qqq (sum+M) qqq qqq;simp only [AU] at this |-;rw [aj wL.eq_1];simp at this;simp (disch:=omega) [h1,aC,hM,c,this]
theorem afz (H:jR C) (l:List En) (e:Bool) (hl:l.length<=1000000) (hs:∀ x ∈ l,-9223372036854775808<=x.s/\x.s<=9223372036854775807):FnW C 111 [aL l e]=some (.int .i64 (tot l)):=by have h:=ae3 H l e hl hs l.length 0 qqz 0 qqq qqq;simp only [AU] at h;simp at h;rw [aF H.f111 rfl];unfold tot;simp [afN,h]
theorem akv (H:jR C) (l:List En) (e:Bool) (hl:l.length<=1000000) (hs:∀ x ∈ l,dQ x):FnW C 111 [aL l e]=some (.int .i64 (tot l)):=afz H l e hl λx hx=>(hs x hx).s
theorem sG (H:jR C) (l:List En) (e:Bool) (hl:l.length<=1000000) (hs:∀ x ∈ l,dQ x):FnW C 227 [aL l e]=some (.int .i64 (ovE l)):=by have h:=akv H l e hl hs;rw [aF H.f227 rfl];unfold ovE;by_cases c:4611686018427387904 < tot l <;> simp [agv,h,H.inl,ak,H.pp,ppB,c]
theorem ZF (H:jR C) (l:List En) (e:Bool) (hl:l.length<=1000000) (hs:∀ x ∈ l,-9223372036854775808<=x.s/\x.s<=9223372036854775807):∀ n i,n+i=l.length->∀ sum:Int,0<=sum->sum<=4611686018427387904 ->
 yM C ⟨[(4,.int .i64 i),(3,.int .u64 sum),(0,.ro 6 (l.map eEn) e)],[],0⟩=some (.int .i64 (qj sum (l.drop i))):=by
 intro n;induction n with
 | zero =>
  intro i hi sum s1 s2;simp only [yM];rw [aj tH.eq_1];have h1:l.drop i=[]:=qwj qqq;have h3:¬ i < l.length:=by omega
  simp (disch:=omega) [aj PU.eq_1,h1,h3,qj,aC]
 | succ n ih =>
  intro i hi sum s1 s2;have h1:i < l.length:=by omega
  have hx:=hs _ (qxx h1);have hb:=Xo l[i].s hx.1 hx.2;rw [drop_cons h1,qj];by_cases p:0 < l[i].s
  ·rw [Qr (by omega:(0:Int)<=l[i].s)] at *;by_cases c:4611686018427387904 - sum < l[i].s
   ·rw [qwz c];have c':4611686018427387904 < sum+l[i].s:=by omega
    simp only [yM];rw [aj tH.eq_1];simp (disch:=omega) [h1,aC,pJ,p,c']
   ·rw [qwq c];have c':¬ 4611686018427387904 < sum+l[i].s:=by omega
    have:=ih (i+1) qqq (sum+l[i].s) qqq qqq;simp only [yM] at this |-;rw [aj tH.eq_1];simp at this;simp (disch:=omega) [h1,aC,pJ,p,c',this]
  ·rw [afc (by omega:l[i].s<=(0:Int)),qwq qqq,Int.add_zero];have c':¬ 4611686018427387904 < sum:=by omega
   have:=ih (i+1) qqq sum qqq qqq;simp only [yM] at this |-;rw [aj tH.eq_1];simp at this;simp (disch:=omega) [h1,aC,pJ,p,c',this]
theorem adX (H:jR C) (l:List En) (e:Bool) (hl:l.length<=1000000) (hs:∀ x ∈ l,-9223372036854775808<=x.s/\x.s<=9223372036854775807):FnW C 504 [.ro 6 (l.map eEn) e]=some (.int .i64 (tot l)):=by have h:=ZF H l e hl hs l.length 0 qqz 0 qqq qqq;simp only [yM] at h;simp at h;rw [aF H.al8 rfl];unfold tot;simp [ahN,h]
theorem ag7 (H:jR C) (l:List En) (e:Bool) (hl:l.length<=1000000) (hs:∀ x ∈ l,dQ x):FnW C 504 [.ro 6 (l.map eEn) e]=some (.int .i64 (tot l)):=adX H l e hl λx hx=>(hs x hx).s
theorem TT (H:jR C) (l:List En) (e:Bool) (hl:l.length<=1000000) (hs:∀ x ∈ l,dQ x):FnW C 407 [.ro 6 (l.map eEn) e]=some (.int .i64 (ovE l)):=by have h:=ag7 H l e hl hs;rw [aF H.alN rfl];unfold ovE;by_cases c:4611686018427387904 < tot l <;> simp [aiI,h,H.inl,ak,H.pp,ppB,c]
def PV (k:Int):Nat->List En->Int
 | _,[]=>-1
 | i,e::r=>if e.i.k=k then i else PV k (i+1) r
def Fb (k:Int):Nat->List It->Int
 | _,[]=>-1
 | i,x::r=>if x.k=k then i else Fb k (i+1) r
theorem W9 (H:jR C) (l:List En) (e:Bool) (k:Int) (hl:l.length<=1000000):∀ n i,n+i=l.length ->
 BD C ⟨[(5,.int .i64 i),(1,.int .u64 k),(0,.ro 6 (l.map eEn) e)],[],0⟩=some (.int .i64 (PV k i (l.drop i))):=by
 intro n;induction n with
 | zero =>
  intro i hi;simp only [BD];rw [aj xW.eq_1];have h1:l.drop i=[]:=qwj qqq;have h3:¬ i < l.length:=by omega
  simp (disch:=omega) [aj Ov.eq_1,h1,h3,PV]
 | succ n ih =>
  intro i hi;have h1:i < l.length:=by omega
  have:=ih (i+1) qqq;rw [drop_cons h1,PV];by_cases c:l[i].i.k=k
  ·rw [qwz c];simp only [BD];rw [aj xW.eq_1];simp (disch:=omega) [h1,aC,c]
  ·rw [qwq c];simp only [BD] at this |-;rw [aj xW.eq_1];simp at this;simp (disch:=omega) [h1,aC,c,this]
theorem adx (H:jR C) (l:List En) (e:Bool) (k:Int) (hl:l.length<=1000000):FnW C 239 [.ro 6 (l.map eEn) e,.int .u64 k]=some (.int .i64 (PV k 0 l)):=by have h:=W9 H l e k hl l.length 0 qqz;simp only [BD] at h;simp at h;rw [aF H.f239 rfl];simp [afD,h]
theorem Wh (H:jR C) (l:List It) (e:Bool) (k:Int) (hl:l.length<=1000000):∀ n i,n+i=l.length ->
 zX C ⟨[(5,.int .i64 i),(1,.int .u64 k),(0,.ro 4 (l.map cIt) e)],[],0⟩=some (.int .i64 (Fb k i (l.drop i))):=by
 intro n;induction n with
 | zero =>
  intro i hi;simp only [zX];rw [aj yF.eq_1];have h1:l.drop i=[]:=qwj qqq;have h3:¬ i < l.length:=by omega
  simp (disch:=omega) [aj Ns.eq_1,h1,h3,Fb]
 | succ n ih =>
  intro i hi;have h1:i < l.length:=by omega
  have:=ih (i+1) qqq;rw [drop_cons h1,Fb];by_cases c:l[i].k=k
  ·rw [qwz c];simp only [zX];rw [aj yF.eq_1];simp (disch:=omega) [h1,aC,c]
  ·rw [qwq c];simp only [zX] at this |-;rw [aj yF.eq_1];simp at this;simp (disch:=omega) [h1,aC,c,this]
theorem RZ (H:jR C) (l:List It) (e:Bool) (k:Int) (hl:l.length<=1000000):FnW C 423 [.ro 4 (l.map cIt) e,.int .u64 k]=some (.int .i64 (Fb k 0 l)):=by have h:=Wh H l e k hl l.length 0 qqz;simp only [zX] at h;simp at h;rw [aF H.amw rfl];simp [aiT,h]
theorem aa7 (H:jR C) (b:Bool):FnW C 406 [.bool b]=some (.int .i64 (if b=true then 1 else 0)):=by rw [aF H.alx rfl];cases b <;> simp [aiC]
def inR (a c n:Int):Bool:=decide (0<=a)&&decide (a<=n)&&decide (0<=c)&&decide (c<=n - a)
theorem rQ (H:jR C) (a c n:Int) (hn:0<=n/\n<=1000000):FnW C 219 [.int .i64 a,.int .i64 c,.int .i64 n]=some (.bool (inR a c n)):=by
 rw [aF H.f219 rfl];unfold inR;by_cases c1:0<=a <;> by_cases c2:a<=n <;> by_cases c3:0<=c <;> by_cases c4:c<=n - a <;> first
  | (simp (disch:=omega) [ada,c1,c2,c3,c4,aC];done)
  | (simp (disch:=omega) [ada,c1,c2,c3,c4,aC];omega)
theorem yu (H:jR C) (a c n:Int) (hn:0<=n/\n<=1000000):FnW C 410 [.int .i64 a,.int .i64 c,.int .i64 n]=some (.int .i64 (if inR a c n=true then 1 else 0)):=by
 have ht:=aa7 H true;have hf:=aa7 H false;rw [aF H.amM rfl];unfold inR;by_cases c1:0<=a <;> by_cases c2:a<=n <;> by_cases c3:0<=c <;> by_cases c4:c<=n - a <;> first
  | (simp (disch:=omega) [abt,c1,c2,c3,c4,aC,ht,hf,H.inl,ak,H.pp,ppB];done)
  | (simp (disch:=omega) [abt,c1,c2,c3,c4,aC,ht,hf,H.inl,ak,H.pp,ppB];omega)
end Go.D
end
section
namespace Go.D
open Go Go.Pav Go.Pw P
attribute [-simp] List.getElem_cons_drop
variable {C:aH}
theorem aaM (H:jR C) (m:List Bs) (e:Bool) (hl:m.length<=1000000):FnW C 460 [.ro 1 (m.map eS) e]=some (.ro 1 (m.map eS) true):=by
 rw [aF H.amb rfl];by_cases h:m=[]
 ·subst h;simp [adU]
 ·have h2:m.length * 17<=35184372088832:=by omega
  have hT:List.take m.length (List.map eS m)=List.map eS m:=qzz qqz;simp (disch:=omega) [adU,h,h2,isE,hT]
theorem ady (H:jR C) (x:It) (e:Bool) (hl:x.m.length<=1000000):FnW C 340 [.ro 4 [cIt x] e]=some (.ro 4 [cIt x.own] true):=by have hg:=λa h n=>iP (args:=[a]) H.aeS rfl h n;have he:=aaM H x.m x.e hl;rw [aF H.f340 rfl];simp (disch:=omega) [agE,aj Oj.eq_1,aj Yv.eq_1,hg,UW,he,H.inl,ak,H.pp,ppB,It.own,aC]
theorem aep (H:jR C) (l:List En) (e:Bool) (hl:l.length<=1000000) (hm:∀ x ∈ l,x.i.m.length<=1000000):∀ n i,n+i=l.length->∀ G:List En,G.length=i ->
 Gf C ⟨[(15,.int .i64 i),(14,.int .i64 l.length),(13,.ro 6 (l.map eEn) e),(3,.sl 0 6 0 l.length l.length true),(2,.ptr 1 0 0)],[(0,.cells 6 (G.map eEn++List.replicate n [.int .u64 0,.int .u8 0,.str [],.ro 1 [] true,.int .i64 0,.bool false]) true true),(1,.cells 1 [[.ro 6 [] true]] true true)],2⟩ =
  some (aL (G++(l.drop i).map En.own) true):=by
 intro n;induction n with
 | zero =>
  intro i hi G hG;have h1:l.drop i=[]:=qwj qqq;have h3:¬ i < l.length:=by omega
  have h6:List.take l.length (List.map eEn G)=List.map eEn G:=qzz qqx;have h7:G.length=l.length:=by omega
  simp only [Gf];rw [aj BZ.eq_1];simp [aj OX.eq_1,h1,h3,h6,h7]
 | succ n ih =>
  intro i hi G hG;have h1:i < l.length:=by omega
  have hc:=ady H l[i].i true (hm _ (qxx h1));have:=ih (i+1) qqq (G++[l[i].own]) (by simp [hG]);rw [drop_cons h1];simp only [Gf] at this |-;rw [aj BZ.eq_1];simp [It.own] at hc;simp [En.own,It.own] at this;simp (disch:=omega) [h1,aC,hc,pq,o7,hG,H.inl,ak,H.pp,ppB,En.own,It.own,this]
theorem II (H:jR C) (l:List En) (e:Bool) (hl:l.length<=1000000) (hm:∀ x ∈ l,x.i.m.length<=1000000):FnW C 226 [.ro 6 (l.map eEn) e]=some (aL (l.map En.own) true):=by
 rw [aF H.f226 rfl];by_cases hne:l=[]
 ·subst hne;simp [ab1]
 ·have h:=aep H l e hl hm l.length 0 qqz [] rfl;have h2:l.length * 73<=35184372088832:=by omega
  simp only [Gf] at h;simp at h;simp (disch:=omega) [ab1,hne,h2,h]
section
variable {β:Type} {base:Nat} {fin:Ex × WSt->Option β} {K:List Pw.Frame} {a:Ann} {l:List bg} {d:Option Nat} {e:Env} {n:Nat}
theorem agm {z bytes N nid:Nat} {zz:List AV} {xs:List (List AV)} {ex:Bool} (h:xs.length<=N) :
 SK C base fin K a l d e [(0,.cells z (List.replicate N zz) true true)] n (jg [(0,.cells z (List.replicate N zz) true true)] nid z bytes (.sl 0 z 0 0 N ex) xs true) =
  OK C base fin K a l ⟨eG e d (.sl 0 z 0 xs.length N ex),[(0,.cells z (xs++List.replicate (N - xs.length) zz) true true)],n⟩:=by
 by_cases c:xs=[]
 ·subst c;simp [Cj]
 ·simp [isE c,h,Cj]
theorem aeo {z bytes N nid k m:Nat} {zz:List AV} {A xs:List (List AV)} {ex:Bool} (hA:A.length=k) (hm:k+m=N) (h:xs.length<=m) :
 SK C base fin K a l d e [(0,.cells z (A++List.replicate m zz) true true)] n (jg [(0,.cells z (A++List.replicate m zz) true true)] nid z bytes (.sl 0 z 0 k N ex) xs true) =
  OK C base fin K a l ⟨eG e d (.sl 0 z 0 (k+xs.length) N ex),[(0,.cells z (A++(xs++List.replicate (m - xs.length) zz)) true true)],n⟩:=by
 have h1:k+xs.length<=N:=by omega
 have h2:List.take k A=A:=qzz qqq;have h3:List.drop (k+xs.length) A=[]:=qwj qqq;by_cases c:xs=[]
 ·subst c;simp [Cj]
 ·simp (disch:=omega) [isE c,hA,hm,h1,h2,h3,Cj,List.take_append,List.drop_append]
theorem af5 {z bytes N nid k m:Nat} {zz:List AV} {A B xs:List (List AV)} {ex:Bool} (hA:A.length+B.length=k) (hm:k+m=N) (h:xs.length<=m) :
 SK C base fin K a l d e [(0,.cells z (A++(B++List.replicate m zz)) true true)] n (jg [(0,.cells z (A++(B++List.replicate m zz)) true true)] nid z bytes (.sl 0 z 0 k N ex) xs true) =
  OK C base fin K a l ⟨eG e d (.sl 0 z 0 (k+xs.length) N ex),[(0,.cells z (A++(B++(xs++List.replicate (m - xs.length) zz))) true true)],n⟩:=by
 have:=aeo (C:=C) (base:=base) (fin:=fin) (K:=K) (a:=a) (l:=l) (d:=d) (e:=e) (n:=n) (z:=z) (bytes:=bytes) (N:=N) (nid:=nid) (k:=k) (m:=m) (zz:=zz) (A:=A++B) (xs:=xs) (ex:=ex) (by simpa using hA) hm h;simpa only [qQj] using this
end
theorem tY {α:Type} (l x:List α) (a c:Nat) (h:a+c<=l.length):(spl l a c x).length=l.length - c+x.length:=by unfold spl;simp;omega
theorem rV (H:jR C) (l x:List En) (e e2:Bool) (a c:Nat) (hl:l.length<=1000000) (hx:x.length<=1000000) (hac:a+c<=l.length) :
 FnW C 221 [.ro 6 (l.map eEn) e,.int .i64 a,.int .i64 c,.ro 6 (x.map eEn) e2]=some (.ro 6 ((spl l a c x).map eEn) true):=by
 rw [aF H.f221 rfl];obtain ⟨N,hN,hN2⟩:∃ N:Nat,(l.length:Int) - c+x.length=N/\N=l.length - c+x.length:=⟨_,by omega,rfl⟩;have h1:(c:Int)<=l.length:=by omega
 have h2:N * 73<=35184372088832:=by omega
 have hA:min a l.length=a:=by omega
 have h3:a<=N:=by omega
 have h4:a+x.length<=N:=by omega
 have h5:a+x.length+(l.length - (a+c))=N:=by omega
 have h6:a<=l.length:=by omega
 have hT:List.take l.length (List.map eEn l)=List.map eEn l:=qzz qqz;have h9:a+(x.length+(l.length - (a+c)))=N:=by omega
 have h7:N - a - x.length=l.length - (a+c):=by omega
 have h8:List.take N (List.map eEn (spl l a c x))=List.map eEn (spl l a c x):=qzz (by simp [spl];omega);simp only [spl] at h8 |-;simp at h8;simp (disch:=first | omega | (simp;done) | (simp;omega)) [ajd,aC,h1,hN,h2,hA,h3,h4,h5,h6,hac,-aaI,agm,aeo,af5,hT,h7,h8,h9]
end Go.D
end
section
namespace Go.D
open Go Go.Pav Go.Pw P
attribute [-simp] List.getElem_cons_drop
variable {C:aH}
structure zD (C:aH):Prop extends rG C,jR C where
 ak3:C.fns.get 399=some ai5
 f230:C.fns.get 230=some Y8
 al7:C.fns.get 405=some ahr
 f232:C.fns.get 232=some acn
 f115:C.fns.get 115=some PE
 f271:C.fns.get 271=some Ux
 f223:C.fns.get 223=some aah
 ala:C.fns.get 532=some agf
theorem oZ {ks:List Kd} {t:Nat} (h:t < ks.length):bW ks t=ks[t]:=by unfold bW;simp [h]
theorem nT {n:Int} {x:It} (h:fM n x=true):x.t < n:=by unfold fM at h;simp at h;exact h.1.1.2
theorem tZ (H:zD C) (ks:List Kd) (ke:Bool) (cap:Int) (x:It) (hx:iU x) (ht:x.t < ks.length) (hr:jF ks) :
 FnW C 399 [aR ks ke cap,eIt x]=some (.tup [.agg (SC (bW ks x.t).p x cap).c,.int .i64 (gJ (bW ks x.t).p x cap)]):=by
 obtain ⟨t,hT⟩:∃ t:Nat,x.t=t:=⟨x.t.toNat,by have:=hx.t;omega⟩;have h1:t < ks.length:=by omega
 have h:=aaZ H.torG ks[t].p (hr.f _ (qxx h1)) x hx.k cap;rw [hT,oZ h1];rw [aF H.ak3 rfl];generalize (SC ks[t].p x cap)=N at *;generalize gJ ks[t].p x cap=E at *;rw [Pt.fH] at h;simp only [eIt,hT] at h;simp (disch:=omega) [ai5,hT,h1,h,H.inl,ak,H.pp,ppB]
theorem amB (H:zD C) (k:Kd):FnW C 230 [.agg (eKd k)]=some (.bool (!OM k)):=by
 have h1:=La H.tojR k.b;have h2:=Lp H.toEU k.p;rw [Pt.fH] at h2;rw [aF H.f230 rfl];unfold OM;generalize hOk k.b=X at *;cases X
 ·simp [Y8,h1,H.inl,ak,H.pp,ppB]
 ·by_cases c:qp k.p=0
  ·simp [c] at h2;simp [Y8,h1,h2,c,H.inl,ak,H.pp,ppB]
  ·simp [c] at h2;simp [Y8,h1,h2,c,H.inl,ak,H.pp,ppB]
theorem Uw (H:zD C) (ks:List Kd) (e:Bool) (hl:ks.length<=1000000):∀ n i,n+i=ks.length ->
 ∃ v:Int,BG C ⟨[(8,.int .i64 i),(7,.int .i64 ks.length),(1,.fn 230 []),(0,.ro 9 (ks.map eKd) e)],[],0⟩=some (.int .i64 v)/\decide (v < 0)=(ks.drop i).all OM:=by
 intro n;induction n with
 | zero =>
  intro i hi;simp only [BG];rw [aj yK.eq_1];have h1:ks.drop i=[]:=qwj qqq;have h3:¬ i < ks.length:=by omega
  exact ⟨-1,by simp (disch:=omega) [aj Nl.eq_1,h1,h3],by simp [h1]⟩
 | succ n ih =>
  intro i hi;have h1:i < ks.length:=by omega
  have hb:=amB H ks[i];simp only [eKd] at hb;rw [drop_cons h1];cases c:OM ks[i]
  ·refine ⟨i,?_,by simp [c]⟩;rw [c] at hb;simp only [BG];rw [aj yK.eq_1];simp (disch:=omega) [h1,hb,H.inl,ak,H.pp,ppB]
  ·obtain ⟨v,hv,hq⟩:=ih (i+1) qqq;refine ⟨v,?_,by simp [hq,c]⟩;rw [c] at hb;simp only [BG] at hv |-;rw [aj yK.eq_1];simp at hv;simp (disch:=omega) [h1,aC,hb,H.inl,ak,H.pp,ppB,hv]
theorem PD (H:zD C) (ks:List Kd) (e:Bool) (hl:ks.length<=1000000):FnW C 232 [.ro 9 (ks.map eKd) e,.fn 230 []]=some (.bool (!ks.all OM)):=by
 obtain ⟨v,h,q⟩:=Uw H ks e hl ks.length 0 qqz;simp only [BG] at h;simp at h;have h2:FnW C 405 [.ro 9 (ks.map eKd) e,.fn 230 []]=some (.int .i64 v):=by rw [aF H.al7 rfl];simp [ahr,h]
 rw [aF H.f232 rfl];rw [qjq] at q;rw [<- q];by_cases c:v < 0
 ·have c':¬ 0<=v:=by omega
  simp [acn,H.inl,ak,H.pp,ppB,h2,c,c']
 ·have c':0<=v:=by omega
  simp [acn,H.inl,ak,H.pp,ppB,h2,c,c']
theorem ac5 (H:zD C) (ks:List Kd) (ke:Bool) (cap:Int) (hr:jF ks):FnW C 115 [aR ks ke cap]=some (.int .i64 (if rJ ks cap=true then 0 else 7)):=by
 have h:=PD H ks ke hr.n;have hl:=hr.n;rw [aF H.f115 rfl];unfold rJ;by_cases c1:1<=ks.length
 ·have c1':¬ ((ks.length:Int) < 1):=by omega
  by_cases c2:ks.length<=8
  ·have c2':¬ (8 < (ks.length:Int)):=by omega
   by_cases c3:1<=cap
   ·have c3':¬ cap < 1:=by omega
    by_cases c4:cap<=64
    ·have c4':¬ 64 < cap:=by omega
     cases c5:ks.all OM
     ·rw [c5] at h;simp [PE,c1,c1',c2,c2',c3,c3',c4,c4',h,H.inl,ak,H.pp,ppB]
     ·rw [c5] at h;simp [PE,c1,c1',c2,c2',c3,c3',c4,c4',h,H.inl,ak,H.pp,ppB]
    ·have c4':64 < cap:=by omega
     simp [PE,c1,c1',c2,c2',c3,c3',c4,c4']
   ·have c3':cap < 1:=by omega
    simp [PE,c1,c1',c2,c2',c3,c3']
  ·have c2':(8 < (ks.length:Int)):=by omega
   simp [PE,c1,c1',c2,c2']
 ·have c1':((ks.length:Int) < 1):=by omega
  simp [PE,c1,c1']
theorem CS (H:zD C) (ks:List Kd) (ke:Bool) (cap:Int) (x:It) (hx:iU x) (hr:jF ks) (seen:Bool) :
 FnW C 271 [aR ks ke cap,eIt x,.int .i64 (if seen=true then 1 else 0)]=some (.int .i64 (itE ks cap x seen)):=by
 have hc:=aad H.toTR x ks.length hx.t hx.m;rw [aF H.f271 rfl];unfold itE;cases c1:fM ks.length x
 ·rw [c1] at hc;simp at hc;simp [Ux,hc,H.inl,ak,H.pp,ppB]
 ·rw [c1] at hc;cases seen
  ·have ht:=nT c1;obtain ⟨t,hT⟩:∃ t:Nat,x.t=t:=⟨x.t.toNat,by have:=hx.t;omega⟩;have h1:t < ks.length:=by omega
   have h:=WM H.torG ks[t].p (hr.f _ (qxx h1)) x hx.k cap;rw [hT,oZ h1];have hE:0<=gJ ks[t].p x cap:=by unfold gJ;repeat (first | omega | split)
   generalize (alZ ks[t].p x cap)=N at *;generalize gJ ks[t].p x cap=E at *;rw [Pt.fH] at h;simp only [eIt,hT] at h hc;by_cases c:E=0
   ·subst c;simp at hc;simp (disch:=omega) [Ux,hc,hT,h1,h,H.inl,ak,H.pp,ppB]
   ·have c':0 < E:=by omega
    simp at hc;simp (disch:=omega) [Ux,hc,hT,h1,h,c,c',H.inl,ak,H.pp,ppB]
  ·simp at hc;simp [Ux,hc,H.inl,ak,H.pp,ppB]
def qw (s:List Int):List (AV × AV):=s.map λk=>(.int .u64 k,.bool true)
theorem IY:qw []=[]:=rfl
theorem Ae (k:Int):∀ s:List Int,mQ (qw s) (.int .u64 k)=some (if s.contains k=true then some (.bool true) else none)
 | []=>rfl
 | a::r=>by
  have ih:=Ae k r;unfold qw at ih |-;rw [qvz,mQ];simp only [iO,qQx,ob];by_cases c:k=a
  ·subst c;simp
  ·simp [c,ih]
theorem wC (k:Int):∀ s:List Int,s.contains k=false->kN (qw s) (.int .u64 k) (.bool true)=some (qw (s++[k]))
 | [],_=>rfl
 | a::r,h=>by simp at h;have ih:=wC k r (by simpa using h.2);unfold qw at ih |-;rw [qvz,kN];simp only [iO,qQx,ob];simp [h.1,ih,om]
theorem Sj (k:Int):∀ (l:List En) (i:Nat),decide (0<=PV k i l)=(l.map λe=>e.i.k).contains k
 | [],_=>rfl
 | e::r,i=>by
  rw [PV];by_cases c:e.i.k=k
  ·rw [qwz c];simp [c]
  ·have c':¬ k=e.i.k:=λq=>c q.symm;rw [qwq c,Sj k r (i+1)];simp [c']
theorem Ug (k:Int):∀ (l:List It) (i:Nat),decide (0<=Fb k i l)=(l.map λe=>e.k).contains k
 | [],_=>rfl
 | e::r,i=>by
  rw [Fb];by_cases c:e.k=k
  ·rw [qwz c];simp [c]
  ·have c':¬ k=e.k:=λq=>c q.symm;rw [qwq c,Ug k r (i+1)];simp [c']
abbrev bH (l:List En):List Int:=l.map λe=>e.i.k
theorem zy (H:zD C) (ks:List Kd) (ke:Bool) (cap:Int) (hr:jF ks) (l:List En) (e:Bool) (hl:l.length<=1000000) (hs:∀ x ∈ l,dQ x):∀ n i,n+i=l.length->∀ seen:List Int,
 nJ C ⟨[(25,.int .i64 i),(24,.int .i64 l.length),(23,.ro 6 (l.map eEn) e),(6,.map 0),(3,.ptr 1 0 0),(2,.ptr 2 0 0)],[(0,.map (qw seen)),(1,.cells 1 [[.ro 6 (l.map eEn) e]] true true),(2,.cells 2 [[.ro 9 (ks.map eKd) ke,.int .i64 cap]] true true)],3⟩ =
  some (.int .i64 (if chk ks cap seen (l.drop i)≠0 then chk ks cap seen (l.drop i) else ovE l)):=by
 intro n;induction n with
 | zero =>
  intro i hi seen;have ht:=sG H.tojR l e hl hs;simp only [nJ];rw [aj lS.eq_1];have h1:l.drop i=[]:=qwj qqq;have h3:¬ i < l.length:=by omega
  simp (disch:=omega) [aj Qy.eq_1,h1,h3,chk,ht,H.inl,ak,H.pp,ppB]
 | succ n ih =>
  intro i hi seen;have h1:i < l.length:=by omega
  have hx:=hs _ (qxx h1);have hc:=yG H.toTR l[i].i ks.length hx.i.t;have hg:=Ae l[i].i.k seen;rw [drop_cons h1,chk];cases c1:fM ks.length l[i].i
  ·have hE:enE ks cap l[i] (seen.contains l[i].i.k)=6:=by unfold enE itE;simp [c1]
   rw [hE];rw [c1] at hc;simp at hc;simp only [nJ];rw [aj lS.eq_1];simp (disch:=omega) [h1,hc,H.inl,ak,H.pp,ppB]
  ·rw [c1] at hc;simp at hc;cases c2:seen.contains l[i].i.k
   ·have ht:=nT c1;obtain ⟨t,hT⟩:∃ t:Nat,l[i].i.t=t:=⟨l[i].i.t.toNat,by have:=hx.i.t;omega⟩;have h2:t < ks.length:=by omega
    have hp:=wC l[i].i.k seen c2;have hre:=tZ H ks ke cap l[i].i hx.i ht hr;have hh:=La H.tojR l[i].s;have this:=ih (i+1) qqq (seen++[l[i].i.k]);rw [c2] at hg;simp only [aR,eIt] at hre;have hk:=oZ h2;have hE:enE ks cap l[i] false=if gJ ks[t].p l[i].i cap=0 then (if hOk l[i].s=true/\(l[i].kn=true\/l[i].s=ks[t].b) then 0 else 12) else 14:=by unfold enE itE;rw [c1,hT,hk];by_cases q:gJ ks[t].p l[i].i cap=0 <;> simp [q]
    simp only [eIt,hT,hk] at hc hre;generalize SC ks[t].p l[i].i cap=N at *;generalize gJ ks[t].p l[i].i cap=E at *;by_cases c3:E=0
    ·subst c3;cases c4:hOk l[i].s
     ·rw [c4] at hh;have hE':enE ks cap l[i] false=12:=by rw [hE];simp [c4]
      rw [hE'];simp only [nJ];rw [aj lS.eq_1];simp (disch:=omega) [h1,h2,hT,hc,hg,hp,hre,hh,H.inl,ak,H.pp,ppB]
     ·rw [c4] at hh;cases c5:l[i].kn
      ·by_cases c6:l[i].s=ks[t].b
       ·have hE':enE ks cap l[i] false=0:=by rw [hE,qwz rfl,qwz ⟨c4,.inr c6⟩]
        rw [hE'];simp only [nJ] at this |-;rw [aj lS.eq_1];generalize chk ks cap (seen++[l[i].i.k]) (List.drop (i+1) l)=Z at *;simp at this;simp (disch:=omega) [h1,h2,hT,hc,hg,hp,hre,hh,c5,qZx c6,aC,H.inl,ak,H.pp,ppB,this]
       ·have hE':enE ks cap l[i] false=12:=by rw [hE];simp [c5,c6]
        rw [hE'];simp only [nJ];rw [aj lS.eq_1];simp (disch:=omega) [h1,h2,hT,hc,hg,hp,hre,hh,c5,c6,H.inl,ak,H.pp,ppB]
      ·have hE':enE ks cap l[i] false=0:=by rw [hE];simp [c4,c5]
       rw [hE'];simp only [nJ] at this |-;rw [aj lS.eq_1];generalize chk ks cap (seen++[l[i].i.k]) (List.drop (i+1) l)=Z at *;simp at this;simp (disch:=omega) [h1,h2,hT,hc,hg,hp,hre,hh,c5,aC,H.inl,ak,H.pp,ppB,this]
    ·have hE':enE ks cap l[i] false=14:=by rw [hE];simp [c3]
     rw [hE'];simp only [nJ];rw [aj lS.eq_1];simp (disch:=omega) [h1,h2,hT,hc,hg,hp,hre,c3,H.inl,ak,H.pp,ppB]
   ·have hE:enE ks cap l[i] true=8:=by unfold enE itE;simp [c1]
    rw [hE];rw [c2] at hg;simp only [nJ];rw [aj lS.eq_1];simp (disch:=omega) [h1,hc,hg,H.inl,ak,H.pp,ppB]
theorem iY (H:zD C) (ks:List Kd) (ke:Bool) (cap:Int) (hr:jF ks) (l:List En) (e:Bool) (hl:l.length<=1000000) (hs:∀ x ∈ l,dQ x) :
 FnW C 223 [aR ks ke cap,aL l e]=some (.int .i64 (ckE ks cap l)):=by
 have hv:=ac5 H ks ke cap hr;have h:=zy H ks ke cap hr l e hl hs l.length 0 qqz [];rw [qjq,IY] at h;rw [aF H.f223 rfl];unfold ckE;generalize (if chk ks cap [] l≠0 then chk ks cap [] l else ovE l)=R at *;simp only [nJ] at h;simp at h;cases c1:rJ ks cap
 ·rw [c1] at hv;simp at hv;simp [aah,hv,H.inl,ak,H.pp,ppB]
 ·rw [c1] at hv;simp at hv;by_cases c2:1024 < l.length
  ·have c2':1024 < (l.length:Int):=by omega
   simp [aah,hv,c2,c2',H.inl,ak,H.pp,ppB]
  ·have c2':¬ 1024 < (l.length:Int):=by omega
   simp [aah,hv,c2,c2',h,H.inl,ak,H.pp,ppB]
def dI (ks:List Kd) (cap:Int):List Int->List It->Int
 | _,[]=>0
 | seen,x::r=>if itE ks cap x (seen.contains x.k)≠0 then itE ks cap x (seen.contains x.k) else dI ks cap (seen++[x.k]) r
theorem J4 (H:zD C) (ks:List Kd) (ke:Bool) (cap:Int) (hr:jF ks) (l:List En) (e:Bool) (hl:l.length<=1000000) (x:List It) (e2:Bool) (hxl:x.length<=1000000) (hs:∀ i ∈ x,iU i):∀ n i,n+i=x.length ->
 oC C ⟨[(7,.int .i64 i),(3,.ptr 0 0 0),(2,.ro 4 (x.map cIt) e2),(1,.ro 6 (l.map eEn) e)],[(0,.cells 2 [[.ro 9 (ks.map eKd) ke,.int .i64 cap]] true true)],1⟩ =
  some (.int .i64 (dI ks cap (bH l++(x.take i).map It.k) (x.drop i))):=by
 intro n;induction n with
 | zero =>
  intro i hi;simp only [oC];rw [aj nG.eq_1];have h1:x.drop i=[]:=qwj qqq;have h3:¬ i < x.length:=by omega
  simp (disch:=omega) [aj N9.eq_1,h1,h3,dI]
 | succ n ih =>
  intro i hi;have h1:i < x.length:=by omega
  have h1':i<=x.length:=by omega
  have hx:=hs _ (qxx h1);have hf1:=adx H.tojR l e x[i].k hl;have hf:=λe=>RZ H.tojR (x.take i) e x[i].k (by rw [qKz];omega);have hb:=λb=>aa7 H.tojR b;have hii:=λb=>CS H ks ke cap x[i] hx hr b;have this:=ih (i+1) qqq;rw [show (x.take (i+1)).map It.k=(x.take i).map It.k++[x[i].k] by rw [qJq h1,qcz];rfl,<- qQj] at this;have hC:(bH l++(x.take i).map It.k).contains x[i].k=(decide (0<=PV x[i].k 0 l)||decide (0<=Fb x[i].k 0 (x.take i))):=by rw [Sj,Ug];simp
  rw [drop_cons h1,dI,hC];generalize PV x[i].k 0 l=F at *;generalize Fb x[i].k 0 (x.take i)=F2 at *;have hE0:∀ b,0<=itE ks cap x[i] b:=by intro b;unfold itE;repeat (first | omega | split)
  simp only [qdj] at hf;simp only [aR,eIt] at hii;have b1:=hb true;have b0:=hb false;have i1:=hii true;have i0:=hii false;have e1:=hE0 true;have e0:=hE0 false;simp only [qQx,qjz,qWz] at b1 b0 i1 i0;generalize hE1:itE ks cap x[i] true=E1 at *;generalize hE2:itE ks cap x[i] false=E0 at *;by_cases c1:0<=F
  ·rw [qVj c1,qfx,hE1];by_cases c3:E1=0
   ·subst c3;simp only [oC] at this |-;rw [aj nG.eq_1];generalize dI ks cap (bH l++(x.take i).map It.k++[x[i].k]) (List.drop (i+1) x)=Z at *;simp at this;simp (disch:=omega) [h1,h1',hf1,hf,b1,i1,c1,aC,H.inl,ak,H.pp,ppB,this]
   ·have c3':0 < E1:=by omega
    simp only [oC];rw [aj nG.eq_1];simp (disch:=omega) [h1,h1',hf1,hf,b1,i1,c1,c3,c3',H.inl,ak,H.pp,ppB]
  ·by_cases c2:0<=F2
   ·rw [qJz c1,qVj c2,qdx,hE1];by_cases c3:E1=0
    ·subst c3;simp only [oC] at this |-;rw [aj nG.eq_1];generalize dI ks cap (bH l++(x.take i).map It.k++[x[i].k]) (List.drop (i+1) x)=Z at *;simp at this;simp (disch:=omega) [h1,h1',hf1,hf,b1,i1,c1,c2,aC,H.inl,ak,H.pp,ppB,this]
    ·have c3':0 < E1:=by omega
     simp only [oC];rw [aj nG.eq_1];simp (disch:=omega) [h1,h1',hf1,hf,b1,i1,c1,c2,c3,c3',H.inl,ak,H.pp,ppB]
   ·rw [qJz c1,qJz c2,qdx,hE2];by_cases c3:E0=0
    ·subst c3;simp only [oC] at this |-;rw [aj nG.eq_1];generalize dI ks cap (bH l++(x.take i).map It.k++[x[i].k]) (List.drop (i+1) x)=Z at *;simp at this;simp (disch:=omega) [h1,h1',hf1,hf,b0,i0,c1,c2,aC,H.inl,ak,H.pp,ppB,this]
    ·have c3':0 < E0:=by omega
     simp only [oC];rw [aj nG.eq_1];simp (disch:=omega) [h1,h1',hf1,hf,b0,i0,c1,c2,c3,c3',H.inl,ak,H.pp,ppB]
theorem Rk (H:zD C) (ks:List Kd) (ke:Bool) (cap:Int) (hr:jF ks) (l:List En) (e:Bool) (hl:l.length<=1000000) (x:List It) (e2:Bool) (hxl:x.length<=1000000) (hs:∀ i ∈ x,iU i) :
 FnW C 532 [aR ks ke cap,.ro 6 (l.map eEn) e,.ro 4 (x.map cIt) e2]=some (.int .i64 (dI ks cap (bH l) x)):=by
 have h:=J4 H ks ke cap hr l e hl x e2 hxl hs x.length 0 qqz;rw [qjq,zvz,qax,qXz] at h;generalize dI ks cap (bH l) x=R at *;simp only [oC] at h;simp at h;rw [aF H.ala rfl];simp [agf,h]
structure ET (C:aH):Prop extends zD C where
 f216:C.fns.get 216=some rD
 f222:C.fns.get 222=some ahG
 al3:C.fns.get 409=some agx
 f228:C.fns.get 228=some aeZ
 f229:C.fns.get 229=some ahB
 f110:C.fns.get 110=some aiN
 f237:C.fns.get 237=some abW
 f114:C.fns.get 114=some ah2
theorem xk (H:zD C) (ks:List Kd) (ke:Bool) (cap:Int) (x:It) (hx:iU x) (ht:x.t < ks.length) :
 FnW C 240 [aR ks ke cap,eIt x]=some (aE (fre ks x)):=by
 obtain ⟨t,hT⟩:∃ t:Nat,x.t=t:=⟨x.t.toNat,by have:=hx.t;omega⟩;have h1:t < ks.length:=by omega
 rw [aF H.f240 rfl];unfold fre;rw [hT,oZ h1];simp (disch:=omega) [ahE,hT,h1]
theorem Vk (H:zD C) (ks:List Kd) (ke:Bool) (cap:Int) (x:List It) (e:Bool) (hxl:x.length<=1000000) (hx:∀ i ∈ x,iU i/\i.t < ks.length):∀ n i,n+i=x.length->∀ G:List En,G.length=i ->
 Gz C ⟨[(13,.int .i64 i),(12,.int .i64 x.length),(11,.ro 4 (x.map cIt) e),(5,.sl 0 6 0 x.length x.length true),(2,.ptr 1 0 0)],[(0,.cells 6 (G.map eEn++List.replicate n [.int .u64 0,.int .u8 0,.str [],.ro 1 [] true,.int .i64 0,.bool false]) true true),(1,.cells 2 [[.ro 9 (ks.map eKd) ke,.int .i64 cap]] true true)],2⟩ =
  some (.ro 6 ((G++(x.drop i).map (fre ks)).map eEn) true):=by
 intro n;induction n with
 | zero =>
  intro i hi G hG;have h1:x.drop i=[]:=qwj qqq;have h3:¬ i < x.length:=by omega
  have h6:List.take x.length (List.map eEn G)=List.map eEn G:=qzz qqx;have h7:G.length=x.length:=by omega
  simp only [Gz];rw [aj wQ.eq_1];simp [aj Fq.eq_1,h1,h3,h6,h7]
 | succ n ih =>
  intro i hi G hG;have h1:i < x.length:=by omega
  have hxi:=hx _ (qxx h1);obtain ⟨t,hT⟩:∃ t:Nat,x[i].t=t:=⟨x[i].t.toNat,by have:=hxi.1.t;omega⟩;have h2:t < ks.length:=by have:=hxi.2;omega
  have:=ih (i+1) qqq (G++[fre ks x[i]]) (by simp [hG]);rw [drop_cons h1];simp only [Gz] at this |-;rw [aj wQ.eq_1];simp [fre,hT,oZ h2] at this;simp (disch:=omega) [h1,h2,hT,aC,pq,o7,hG,fre,oZ h2,this]
theorem o8 (H:zD C) (ks:List Kd) (ke:Bool) (cap:Int) (x:List It) (e:Bool) (hxl:x.length<=1000000) (hx:∀ i ∈ x,iU i/\i.t < ks.length) :
 FnW C 400 [aR ks ke cap,.ro 4 (x.map cIt) e]=some (.ro 6 ((x.map (fre ks)).map eEn) true):=by
 rw [aF H.akZ rfl];by_cases hne:x=[]
 ·subst hne;simp (disch:=omega) [ac1,aj wQ.eq_1,aj Fq.eq_1]
 ·have h:=Vk H ks ke cap x e hxl hx x.length 0 qqz [] rfl;have h2:x.length * 73<=35184372088832:=by omega
  simp only [Gz] at h;simp at h;simp (disch:=omega) [ac1,hne,h2,h]
theorem adG (H:ET C) (X:AV) (hX:∃ es ex,X=.ro 6 es ex) (l:List En) (e:Bool) (a c:Nat) (hl:l.length<=1000000) (hac:a+c<=l.length) :
 FnW C 222 [X,.rop [.ro 6 (l.map eEn) e],.rop [.int .i64 a],.rop [.int .i64 c]]=some (.ro 6 ((spl l a c []).map eEn) true):=by
 obtain ⟨es,ex,rfl⟩:=hX;have h:=rV H.tojR l [] e true a c hl qqz hac;simp only [qax] at h;rw [aF H.f222 rfl];generalize spl l a c []=R at *;simp [ahG,h,H.inl,ak,H.pp,ppB]
theorem abp (H:ET C) (x:List En) (ex:Bool) (y:List It) (ye:Bool) (hxl:x.length<=1000000) (hxy:y.length=x.length) (l:List En) (e:Bool) (a:Nat) (hl:l.length<=1000000) (hac:a+x.length<=l.length) :
 FnW C 229 [.ro 6 (x.map eEn) ex,.rop [.ro 6 (l.map eEn) e],.rop [.int .i64 a],.rop [.ro 4 (y.map cIt) ye]]=some (.ro 6 ((spl l a x.length x).map eEn) true):=by
 have h:=rV H.tojR l x e ex a x.length hl hxl hac;rw [aF H.f229 rfl];generalize spl l a x.length x=R at *;simp [ahB,hxy,h,H.inl,ak,H.pp,ppB]
theorem abY (H:ET C) (X:AV) (hX:∃ es ex,X=.ro 6 es ex) (l:List En) (e:Bool) (a c t:Nat) (hl:l.length<=1000000) (hac:a+c<=l.length) (ht:t<=l.length - c) :
 FnW C 409 [X,.rop [.ro 6 (l.map eEn) e],.rop [.int .i64 a],.rop [.int .i64 c],.rop [.int .i64 t]]=some (.ro 6 ((spl (spl l a c []) t 0 ((l.take (a+c)).drop a)).map eEn) true):=by
 obtain ⟨es,ex,rfl⟩:=hX;have h:=rV H.tojR l [] e true a c hl qqz hac;have hlen:=tY l [] a c hac;simp only [qax] at h;have h2:=λe2=>rV H.tojR (spl l a c []) ((l.take (a+c)).drop a) true e2 t 0 (by rw [hlen];simp;omega) qqx (by rw [hlen];simp;omega);have h3:a<=l.length:=by omega
 have h5:a<=a+c:=by omega
 simp only [qbx,qdj,show ((0:Nat):Int)=0 from rfl] at h2;rw [aF H.al3 rfl];generalize spl (spl l a c []) t 0 ((l.take (a+c)).drop a)=R2 at *;generalize spl l a c []=R at *;simp (disch:=omega) [agx,aC,h,h2,h3,hac,h5,H.inl,ak,H.pp,ppB]
theorem aaJ (H:ET C) (i:Nat) (x:It) (l:List En) (e:Bool) (a j:Nat) (hj:j=a+i) (hl:l.length<=1000000) (hi:j < l.length) :
 FnW C 228 [.int .i64 i,eIt x,.rop [.ro 6 (l.map eEn) e],.rop [.int .i64 a]]=some (.int .i64 (if l[j].i.k=x.k then 0 else 9)):=by
 rw [aF H.f228 rfl];have hj2:(a:Int)+(i:Int)=j:=by omega
 by_cases c:l[j].i.k=x.k
 ·simp (disch:=omega) [aeZ,aC,hj2,hi,c]
 ·simp (disch:=omega) [aeZ,aC,hj2,hi,c]
def dh (e:Int):AV:=.tup [aL [] true,.int .i64 e]
def iE (out:List En):AV:=if ovE (out.map En.own)≠0 then dh (ovE (out.map En.own)) else .tup [aL (out.map En.own) true,.int .i64 0]
theorem Z4 (H:ET C) (ks:List Kd) (ke:Bool) (cap:Int) (hr:jF ks) (l:List En) (e:Bool) (hl:l.length<=1000000) (hs:∀ x ∈ l,dQ x) (ins:Bool) (a c:Int) (hin:ins=true->inR a c l.length=true) :
 FnW C 216 [aR ks ke cap,aL l e,.agg [.bool ins,.int .i64 0,.ro 4 [] true,.bQ,.fn 222 [.rop [.ro 6 (l.map eEn) e],.rop [.int .i64 a],.rop [.int .i64 c]]]] =
  some (if ckE ks cap l≠0 then dh (ckE ks cap l) else if ins=false then dh 4 else iE (spl l a.toNat c.toNat [])):=by
 have hc:=iY H.tozD ks ke cap hr l e hl hs;rw [aF H.f216 rfl];unfold dh;by_cases c1:ckE ks cap l=0
 ·rw [qwq (by simpa using c1)];rw [c1] at hc;cases ins
  ·simp [rD,hc,H.inl,ak,H.pp,ppB]
  ·rw [qwq qqz];have hq:=hin rfl;unfold inR at hq;simp at hq;obtain ⟨a',rfl⟩:∃ a':Nat,a=a':=⟨a.toNat,by omega⟩;obtain ⟨c',rfl⟩:∃ c':Nat,c=c':=⟨c.toNat,by omega⟩;have hac:a'+c'<=l.length:=by omega
   have hf:=o8 H.tozD ks ke cap [] true qqz qqz;have hm:=adG H (.ro 6 [] true) ⟨_,_,rfl⟩ l e a' c' hl hac;have hm2:∀ x ∈ spl l a' c' [],dQ x:=λx q=>by
    simp only [spl,qXz,qjj] at q;rcases q with q | q
    ·exact hs x (qZz q)
    ·exact hs x (qQz q)
   have hlen:=tY l [] a' c' hac;simp only [qWj];have hlen2:(spl l a' c' []).length<=1000000:=by rw [hlen];simp;omega
   generalize spl l a' c' []=R at *;have ho:=II H.tojR R true hlen2 (λx q=>(hm2 x q).i.m);have ht:=sG H.tojR (R.map En.own) true (by simpa using hlen2) (λx q=>by obtain ⟨y,hy,rfl⟩:=qyq.1 q;exact ⟨⟨(hm2 y hy).i.k,(hm2 y hy).i.t,(hm2 y hy).i.m⟩,(hm2 y hy).s⟩);unfold iE dh;generalize R.map En.own=R' at *;simp only [qax] at hf;by_cases c2:ovE R'=0
   ·rw [c2] at ht;simp [rD,aj dO.eq_1,aj jo.eq_1,hc,hf,hm,ho,ht,c2,H.inl,ak,H.pp,ppB]
   ·simp [rD,aj dO.eq_1,aj jo.eq_1,hc,hf,hm,ho,ht,c2,H.inl,ak,H.pp,ppB]
 ·rw [qwz c1];simp [rD,hc,c1,H.inl,ak,H.pp,ppB]
structure afj (C:aH):Prop extends ET C where
 f241:C.fns.get 241=some ach
 f242:C.fns.get 242=some aaq
theorem Uc (H:jR C) (a b:It) (hl:a.m.length=b.m.length) (hb:a.m.length<=9223372036854775807):∀ n i,n+i=a.m.length ->
 CX C ⟨[(5,.int .i64 i),(3,.ptr 0 0 0),(2,.ptr 1 0 0)],[(0,.cells 4 [[.int .u64 b.k,.int .u8 b.t,.str b.x,.ro 1 (b.m.map eS) b.e]] true true),(1,.cells 4 [[.int .u64 a.k,.int .u8 a.t,.str a.x,.ro 1 (a.m.map eS) a.e]] true true)],2⟩ =
  some (.int .i64 (if decide (a.m.drop i=b.m.drop i)=true then 1 else 0)):=by
 intro n;induction n with
 | zero =>
  intro i hi;have h1:a.m.drop i=[]:=qwj qqq;have h2:b.m.drop i=[]:=qwj qqq;have h3:¬ i < b.m.length:=by omega
  simp only [CX];rw [aj yx.eq_1];simp (disch:=omega) [aj Qp.eq_1,h1,h2,h3,hl]
 | succ n ih =>
  intro i hi;have h1:i < a.m.length:=by omega
  have h2:i < b.m.length:=by omega
  have this:=ih (i+1) qqq;rw [drop_cons h1,drop_cons h2];by_cases c:a.m[i]=b.m[i]
  ·have hq:decide (a.m[i]::a.m.drop (i+1)=b.m[i]::b.m.drop (i+1))=decide (a.m.drop (i+1)=b.m.drop (i+1)):=by simp [c]
   rw [hq];generalize decide (a.m.drop (i+1)=b.m.drop (i+1))=X at *;simp only [CX] at this |-;rw [aj yx.eq_1];simp at this;simp (disch:=omega) [h1,h2,qZx c,aC,this]
  ·have hq:decide (a.m[i]::a.m.drop (i+1)=b.m[i]::b.m.drop (i+1))=false:=by simp [c]
   rw [hq];simp only [CX];rw [aj yx.eq_1];simp (disch:=omega) [h1,h2,c]
theorem LC (H:jR C) (a b:It) (hb:a.m.length<=9223372036854775807) (hb2:b.m.length<=9223372036854775807):FnW C 112 [eIt a,eIt b]=some (.int .i64 (if tK a b=true then 1 else 0)):=by
 rw [aF H.f112 rfl];unfold tK;by_cases c1:a.k=b.k
 ·by_cases c2:a.t=b.t
  ·by_cases c3:a.x=b.x
   ·by_cases c4:a.m.length=b.m.length
    ·have h:=Uc H a b c4 hb a.m.length 0 qqz;rw [qjq,qjq] at h;rw [qVj c1,qVj c2,qVj c3,qYj,qYj,qYj];generalize decide (a.m=b.m)=X at *;simp only [CX] at h;simp at h;simp [RG,qZx c1,qZx c2,qZx c3,qZx c4,h]
    ·have c5:¬ a.m=b.m:=λq=>c4 (by rw [q]);simp [RG,qZx c1,qZx c2,qZx c3,c4,c5]
   ·simp [RG,qZx c1,qZx c2,c3]
  ·simp [RG,qZx c1,c2]
 ·simp [RG,c1]
theorem Ve (H:jR C) (a b:List En) (e f:Bool) (hl:a.length=b.length) (hb:a.length<=1000000) (ha:∀ x ∈ a,x.i.m.length<=9223372036854775807) (hbm:∀ x ∈ b,x.i.m.length<=9223372036854775807):∀ n i,n+i=a.length ->
 uI C ⟨[(5,.int .i64 i),(1,.ro 6 (b.map eEn) f),(0,.ro 6 (a.map eEn) e)],[],0⟩=some (.int .i64 (if yX (a.drop i) (b.drop i)=true then 1 else 0)):=by
 intro n;induction n with
 | zero =>
  intro i hi;have h1:a.drop i=[]:=qwj qqq;have h2:b.drop i=[]:=qwj qqq;have h3:¬ i < b.length:=by omega
  simp only [uI];rw [aj qE.eq_1];simp (disch:=omega) [aj OE.eq_1,h1,h2,h3,hl,yX]
 | succ n ih =>
  intro i hi;have h1:i < a.length:=by omega
  have h2:i < b.length:=by omega
  have this:=ih (i+1) qqq;have hs:=LC H a[i].i b[i].i (ha _ (qxx h1)) (hbm _ (qxx h2));rw [drop_cons h1,drop_cons h2,yX];unfold VL;simp only [eIt] at hs;generalize yX (a.drop (i+1)) (b.drop (i+1))=Y at *;generalize tK a[i].i b[i].i=X at *;by_cases c1:a[i].s=b[i].s
  ·by_cases c2:a[i].kn=b[i].kn
   ·rw [qVj c1,qVj c2,qYj,qYj];cases X
    ·simp at hs;simp only [uI];rw [aj qE.eq_1];simp (disch:=omega) [h1,h2,qZx c1,qZx c2,hs,H.inl,ak,H.pp,ppB]
    ·simp at hs;simp only [uI] at this |-;rw [aj qE.eq_1];simp at this;simp (disch:=omega) [h1,h2,qZx c1,qZx c2,hs,aC,H.inl,ak,H.pp,ppB,this]
   ·rw [qVj c1,qJz c2];simp only [uI];rw [aj qE.eq_1];simp (disch:=omega) [h1,h2,qZx c1,c2]
  ·rw [qJz c1];simp only [uI];rw [aj qE.eq_1];simp (disch:=omega) [h1,h2,c1]
theorem aaf (H:jR C) (a b:List En) (e f:Bool) (hb:a.length<=1000000) (hb2:b.length<=1000000) (ha:∀ x ∈ a,x.i.m.length<=9223372036854775807) (hbm:∀ x ∈ b,x.i.m.length<=9223372036854775807) :
 FnW C 172 [.ro 6 (a.map eEn) e,.ro 6 (b.map eEn) f]=some (.int .i64 (if (decide (a.length=b.length)&&yX a b)=true then 1 else 0)):=by
 rw [aF H.f172 rfl];by_cases c:a.length=b.length
 ·have h:=Ve H a b e f c hb ha hbm a.length 0 qqz;rw [qjq,qjq] at h;rw [qVj c,qYj];generalize yX a b=X at *;simp only [uI] at h;simp at h;simp [abP,qZx c,h]
 ·simp [abP,c]
theorem adV (H:jR C) (a b:List En) (e f:Bool) (hb:a.length<=1000000) (hb2:b.length<=1000000) (ha:∀ x ∈ a,x.i.m.length<=1000000) (hbm:∀ x ∈ b,x.i.m.length<=1000000) :
 FnW C 172 [.ro 6 (a.map eEn) e,.ro 6 (b.map eEn) f]=some (.int .i64 (if (decide (a.length=b.length)&&yX a b)=true then 1 else 0)) :=
 aaf H a b e f hb hb2 (λx hx=>by have:=ha x hx;omega) (λx hx=>by have:=hbm x hx;omega)
theorem KC:∀ l:List En,yX (l.map En.own) l=true
 | []=>rfl
 | a::r=>by rw [qvz,yX,KC r];simp [VL,tK,En.own,It.own]
def rmF {α:Type} (a c:Nat):Nat->List α->List α
 | _,[]=>[]
 | i,e::r=>if i < a\/a+c<=i then e::rmF a c (i+1) r else rmF a c (i+1) r
theorem aen {α:Type} (a c:Nat):∀ (l:List α) (i:Nat),rmF a c i l=l.take (a - i)++l.drop (a+c - i)
 | [],i=>by simp [rmF]
 | e::r,i=>by
  rw [rmF,aen a c r (i+1)];by_cases h1:i < a
  ·rw [qwz (.inl h1),show a - i=(a - (i+1))+1 by omega,show a+c - i=(a+c - (i+1))+1 by omega];rfl
  ·by_cases h2:a+c<=i
   ·rw [qwz (.inr h2),show a - i=0 by omega,show a - (i+1)=0 by omega,show a+c - i=0 by omega,show a+c - (i+1)=0 by omega];simp
   ·rw [qwq qqq,show a - i=0 by omega,show a - (i+1)=0 by omega,show a+c - i=(a+c - (i+1))+1 by omega];simp
theorem agw {α:Type} (a c:Nat) (l:List α):rmF a c 0 l=spl l a c []:=by rw [aen];unfold spl;simp
theorem P7 (H:jR C) (l:List En) (e:Bool) (hl:l.length<=1000000) (a c:Nat) (hac:a+c<=l.length):∀ n i,n+i=l.length->∀ G:List En,G.length<=i ->
 yw C ⟨[(9,.int .i64 i),(8,.sl 0 6 0 G.length G.length false),(2,.int .i64 c),(1,.int .i64 a),(0,.ro 6 (l.map eEn) e)],[(0,.cells 6 (G.map eEn) true true)],1⟩ =
  some (.tup [.ro 6 ((G++rmF a c i (l.drop i)).map eEn) false,.int .i64 0]):=by
 intro n;induction n with
 | zero =>
  intro i hi G hG;have h1:l.drop i=[]:=qwj qqq;have h3:¬ i < l.length:=by omega
  simp only [yw];rw [aj uF.eq_1];cases G with
  | nil=>simp [aj GV.eq_1,h1,h3,rmF]
  | cons g G=>simp (disch:=(first | omega | (simp;done) | (simp;omega))) [aj GV.eq_1,h1,h3,rmF,qzz]
 | succ n ih =>
  intro i hi G hG;have h1:i < l.length:=by omega
  have hfit:(G.length+1) * 73<=35184372088832:=by omega
  rw [drop_cons h1,rmF];have w1:(a:Int)+(c:Int)=((a+c:Nat):Int):=by omega
  by_cases c1:i < a
  ·have this:=ih (i+1) qqq (G++[l[i]]) qqx;rw [qwz (.inl c1)];simp only [yw] at this |-;rw [aj uF.eq_1];simp at this;simp (disch:=omega) [h1,c1,hfit,aC,this]
  ·by_cases c2:a+c<=i
   ·have this:=ih (i+1) qqq (G++[l[i]]) qqx;have c2':(a:Int)+(c:Int)<=i:=by omega
    rw [qwz (.inr c2)];simp only [yw] at this |-;rw [aj uF.eq_1];simp at this;simp (disch:=omega) [h1,c1,c2',hfit,aC,this]
   ·have this:=ih (i+1) qqq G qqq;have c2':¬ (a:Int)+(c:Int)<=i:=by omega
    rw [qwq qqq];simp only [yw] at this |-;rw [aj uF.eq_1];simp at this;simp (disch:=omega) [h1,c1,c2',hfit,aC,this]
theorem HY (H:afj C) (l:List En) (e:Bool) (hl:l.length<=1000000) (a c:Int) :
 FnW C 241 [.ro 6 (l.map eEn) e,.int .i64 a,.int .i64 c]=some (if inR a c l.length=true then .tup [.ro 6 ((spl l a.toNat c.toNat []).map eEn) false,.int .i64 0] else .tup [.ro 6 [] true,.int .i64 4]):=by
 have hw:=yu H.tojR a c l.length qqq;rw [aF H.f241 rfl];cases c1:inR a c l.length
 ·rw [c1] at hw;simp at hw;simp [ach,hw,H.inl,ak,H.pp,ppB]
 ·have hq:=c1;unfold inR at hq;simp at hq;rw [c1] at hw;simp at hw;obtain ⟨a',rfl⟩:∃ a':Nat,a=a':=⟨a.toNat,by omega⟩;obtain ⟨c',rfl⟩:∃ c':Nat,c=c':=⟨c.toNat,by omega⟩;have h:=P7 H.tojR l e hl a' c' qqq l.length 0 qqz [] qqz;rw [qjq,qJj,agw] at h;simp only [qWj];generalize spl l a' c' []=R at *;simp only [yw] at h;simp at h;simp [ach,hw,h,H.inl,ak,H.pp,ppB]
structure vJ (C:aH):Prop extends afj C where
 alg:C.fns.get 422=some Ik
 f270:C.fns.get 270=some aji
 f126:C.fns.get 126=some ahW
 f130:C.fns.get 130=some af9
structure Good (i:It):Prop where
 k:1<=i.k/\i.k<=60
 t:0<=i.t/\i.t<=2
 x:isText i.x=true
 l:i.m.length<=8
 m:i.m.all isName=true
def Vf (k t:Int) (x:Bs) (o:Option AV):Prop:=∃ (m:List Bs) (e:Bool),o=some (eIt ⟨k,t,x,m,e⟩)/\m.length<=8/\m.all isName=true
theorem oJ (H:vJ C) (k t a b c d:Int) (hd:0<=d/\d<=255) (x:Bs) (G:List Bs) (hG:G≠[]) (hl:G.length<=3) (hm:G.all isName=true) :
 Vf k t x (dn C ⟨[(4,.int .i64 3),(3,.ptr 0 0 0),(2,.ptr 2 0 0),(1,.ptr 3 0 0)],[(0,.cells 4 [[.int .u64 k,.int .u8 t,.str x,.sl 1 1 0 G.length G.length false]] true false),(1,.cells 1 (G.map eS) true true),(2,.cells 4 [[.int .u64 0,.int .u8 0,.str [],.ro 1 [] true]] true true),(3,.cells 4 [[.int .u8 a,.int .u8 b,.int .u8 c,.int .u8 d]] true true)],4⟩):=by
 have hfit:(G.length+1) * 17<=35184372088832:=by omega
 have hfit2:(G.length+2) * 17<=35184372088832:=by omega
 have h4:List.take G.length (List.map eS G)=List.map eS G:=qzz qqz;by_cases c1:240<=d
 ·refine ⟨G++[[97],[97]],false,?_,by simp;omega,by simp only [qpz,hm];decide⟩;have h5:List.take (G.length+2) (List.map eS G++[[.str [97]],[.str [97]]])=List.map eS G++[[.str [97]],[.str [97]]]:=qzz qqz;simp only [dn];rw [aj kK.eq_1];simp (disch:=omega) [aj yB.eq_1,c1,h4,h5,hfit2]
 ·refine ⟨G,false,?_,by omega,hm⟩;simp only [dn];rw [aj kK.eq_1];simp (disch:=omega) [aj yB.eq_1,c1,h4]
theorem Jp (H:vJ C) (k t a b c d:Int) (hd:0<=d/\d<=255) (x:Bs) :
 Vf k t x (dn C ⟨[(4,.int .i64 3),(3,.ptr 0 0 0),(2,.ptr 1 0 0),(1,.ptr 2 0 0)],[(0,.cells 4 [[.int .u64 k,.int .u8 t,.str x,.ro 1 [] true]] true true),(1,.cells 4 [[.int .u64 0,.int .u8 0,.str [],.ro 1 [] true]] true true),(2,.cells 4 [[.int .u8 a,.int .u8 b,.int .u8 c,.int .u8 d]] true true)],3⟩):=by
 by_cases c1:240<=d
 ·refine ⟨[[97],[97]],false,?_,by simp,by decide⟩;simp only [dn];rw [aj kK.eq_1];simp (disch:=omega) [aj yB.eq_1,c1]
 ·refine ⟨[],true,?_,by simp,rfl⟩;simp only [dn];rw [aj kK.eq_1];simp (disch:=omega) [aj yB.eq_1,c1]
theorem oH (H:vJ C) (k t a b c d:Int) (hd:0<=d/\d<=255) (x:Bs) (G:List Bs) (hG:G≠[]) (hl:G.length<=2) (hm:G.all isName=true) :
 Vf k t x (dn C ⟨[(4,.int .i64 2),(3,.ptr 0 0 0),(2,.ptr 2 0 0),(1,.ptr 3 0 0)],[(0,.cells 4 [[.int .u64 k,.int .u8 t,.str x,.sl 1 1 0 G.length G.length false]] true false),(1,.cells 1 (G.map eS) true true),(2,.cells 4 [[.int .u64 0,.int .u8 0,.str [],.ro 1 [] true]] true true),(3,.cells 4 [[.int .u8 a,.int .u8 b,.int .u8 c,.int .u8 d]] true true)],4⟩):=by
 have hfit:(G.length+1) * 17<=35184372088832:=by omega
 have hfit2:(G.length+2) * 17<=35184372088832:=by omega
 have h4:List.take G.length (List.map eS G)=List.map eS G:=qzz qqz;have h6:d.tdiv 8=d / 8:=qKx qqq;have h5:(2+d / 8).tmod 3=(2+d / 8) % 3:=qkz qqq;have hJ:(2+d / 8) % 3=0\/(2+d / 8) % 3=1\/(2+d / 8) % 3=2:=by omega
 simp only [dn];rw [aj kK.eq_1];rcases hJ with hj | hj | hj
 ·simp (disch:=omega) [aC,wU8,h5,h6,hj,h4,hfit];split
  ·have h:=oJ H k t a b c d hd x (G++[[97]]) qqz qqx (by simp only [qpz,hm];decide);simp only [dn] at h;simpa using h
  ·exact oJ H k t a b c d hd x G hG qqq hm
 ·simp (disch:=omega) [aC,wU8,h5,h6,hj,h4,hfit];split
  ·have h:=oJ H k t a b c d hd x (G++[[98,50]]) qqz qqx (by simp only [qpz,hm];decide);simp only [dn] at h;simpa using h
  ·exact oJ H k t a b c d hd x G hG qqq hm
 ·simp (disch:=omega) [aC,wU8,h5,h6,hj,h4,hfit];split
  ·have h:=oJ H k t a b c d hd x (G++[[107,101,121]]) qqz qqx (by simp only [qpz,hm];decide);simp only [dn] at h;simpa using h
  ·exact oJ H k t a b c d hd x G hG qqq hm
theorem JA (H:vJ C) (k t a b c d:Int) (hd:0<=d/\d<=255) (x:Bs) :
 Vf k t x (dn C ⟨[(4,.int .i64 2),(3,.ptr 0 0 0),(2,.ptr 1 0 0),(1,.ptr 2 0 0)],[(0,.cells 4 [[.int .u64 k,.int .u8 t,.str x,.ro 1 [] true]] true true),(1,.cells 4 [[.int .u64 0,.int .u8 0,.str [],.ro 1 [] true]] true true),(2,.cells 4 [[.int .u8 a,.int .u8 b,.int .u8 c,.int .u8 d]] true true)],3⟩):=by
 have h6:d.tdiv 8=d / 8:=qKx qqq;have h5:(2+d / 8).tmod 3=(2+d / 8) % 3:=qkz qqq;have hJ:(2+d / 8) % 3=0\/(2+d / 8) % 3=1\/(2+d / 8) % 3=2:=by omega
 simp only [dn];rw [aj kK.eq_1];rcases hJ with hj | hj | hj
 ·simp (disch:=omega) [aC,wU8,h5,h6,hj];split
  ·exact oJ H k t a b c d hd x [[97]] qqz qqz (by decide)
  ·exact Jp H k t a b c d hd x
 ·simp (disch:=omega) [aC,wU8,h5,h6,hj];split
  ·exact oJ H k t a b c d hd x [[98,50]] qqz qqz (by decide)
  ·exact Jp H k t a b c d hd x
 ·simp (disch:=omega) [aC,wU8,h5,h6,hj];split
  ·exact oJ H k t a b c d hd x [[107,101,121]] qqz qqz (by decide)
  ·exact Jp H k t a b c d hd x
theorem MR (H:vJ C) (k t a b c d:Int) (hd:0<=d/\d<=255) (x:Bs) (G:List Bs) (hG:G≠[]) (hl:G.length<=1) (hm:G.all isName=true) :
 Vf k t x (dn C ⟨[(4,.int .i64 1),(3,.ptr 0 0 0),(2,.ptr 2 0 0),(1,.ptr 3 0 0)],[(0,.cells 4 [[.int .u64 k,.int .u8 t,.str x,.sl 1 1 0 G.length G.length false]] true false),(1,.cells 1 (G.map eS) true true),(2,.cells 4 [[.int .u64 0,.int .u8 0,.str [],.ro 1 [] true]] true true),(3,.cells 4 [[.int .u8 a,.int .u8 b,.int .u8 c,.int .u8 d]] true true)],4⟩):=by
 have hfit:(G.length+1) * 17<=35184372088832:=by omega
 have hfit2:(G.length+2) * 17<=35184372088832:=by omega
 have h4:List.take G.length (List.map eS G)=List.map eS G:=qzz qqz;have h6:d.tdiv 8=d / 8:=qKx qqq;have h5:(1+d / 8).tmod 3=(1+d / 8) % 3:=qkz qqq;have hJ:(1+d / 8) % 3=0\/(1+d / 8) % 3=1\/(1+d / 8) % 3=2:=by omega
 simp only [dn];rw [aj kK.eq_1];rcases hJ with hj | hj | hj
 ·simp (disch:=omega) [aC,wU8,h5,h6,hj,h4,hfit];split
  ·have h:=oH H k t a b c d hd x (G++[[97]]) qqz qqx (by simp only [qpz,hm];decide);simp only [dn] at h;simpa using h
  ·exact oH H k t a b c d hd x G hG qqq hm
 ·simp (disch:=omega) [aC,wU8,h5,h6,hj,h4,hfit];split
  ·have h:=oH H k t a b c d hd x (G++[[98,50]]) qqz qqx (by simp only [qpz,hm];decide);simp only [dn] at h;simpa using h
  ·exact oH H k t a b c d hd x G hG qqq hm
 ·simp (disch:=omega) [aC,wU8,h5,h6,hj,h4,hfit];split
  ·have h:=oH H k t a b c d hd x (G++[[107,101,121]]) qqz qqx (by simp only [qpz,hm];decide);simp only [dn] at h;simpa using h
  ·exact oH H k t a b c d hd x G hG qqq hm
theorem Ij (H:vJ C) (k t a b c d:Int) (hd:0<=d/\d<=255) (x:Bs) :
 Vf k t x (dn C ⟨[(4,.int .i64 1),(3,.ptr 0 0 0),(2,.ptr 1 0 0),(1,.ptr 2 0 0)],[(0,.cells 4 [[.int .u64 k,.int .u8 t,.str x,.ro 1 [] true]] true true),(1,.cells 4 [[.int .u64 0,.int .u8 0,.str [],.ro 1 [] true]] true true),(2,.cells 4 [[.int .u8 a,.int .u8 b,.int .u8 c,.int .u8 d]] true true)],3⟩):=by
 have h6:d.tdiv 8=d / 8:=qKx qqq;have h5:(1+d / 8).tmod 3=(1+d / 8) % 3:=qkz qqq;have hJ:(1+d / 8) % 3=0\/(1+d / 8) % 3=1\/(1+d / 8) % 3=2:=by omega
 simp only [dn];rw [aj kK.eq_1];rcases hJ with hj | hj | hj
 ·simp (disch:=omega) [aC,wU8,h5,h6,hj];split
  ·exact oH H k t a b c d hd x [[97]] qqz qqz (by decide)
  ·exact JA H k t a b c d hd x
 ·simp (disch:=omega) [aC,wU8,h5,h6,hj];split
  ·exact oH H k t a b c d hd x [[98,50]] qqz qqz (by decide)
  ·exact JA H k t a b c d hd x
 ·simp (disch:=omega) [aC,wU8,h5,h6,hj];split
  ·exact oH H k t a b c d hd x [[107,101,121]] qqz qqz (by decide)
  ·exact JA H k t a b c d hd x
theorem abA (H:vJ C) (k t a b c d:Int) (hd:0<=d/\d<=255) (x:Bs) :
 Vf k t x (dn C ⟨[(4,.int .i64 0),(3,.ptr 0 0 0),(2,.ptr 1 0 0),(1,.ptr 2 0 0)],[(0,.cells 4 [[.int .u64 k,.int .u8 t,.str x,.ro 1 [] true]] true true),(1,.cells 4 [[.int .u64 0,.int .u8 0,.str [],.ro 1 [] true]] true true),(2,.cells 4 [[.int .u8 a,.int .u8 b,.int .u8 c,.int .u8 d]] true true)],3⟩):=by
 have h6:d.tdiv 8=d / 8:=qKx qqq;have h5:(0+d / 8).tmod 3=(0+d / 8) % 3:=qkz qqq;have hJ:(0+d / 8) % 3=0\/(0+d / 8) % 3=1\/(0+d / 8) % 3=2:=by omega
 simp only [dn];rw [aj kK.eq_1];simp only [q8x] at h5 hJ;rcases hJ with hj | hj | hj
 ·simp (disch:=omega) [aC,wU8,h5,h6,hj];split
  ·exact MR H k t a b c d hd x [[97]] qqz qqz (by decide)
  ·exact Ij H k t a b c d hd x
 ·simp (disch:=omega) [aC,wU8,h5,h6,hj];split
  ·exact MR H k t a b c d hd x [[98,50]] qqz qqz (by decide)
  ·exact Ij H k t a b c d hd x
 ·simp (disch:=omega) [aC,wU8,h5,h6,hj];split
  ·exact MR H k t a b c d hd x [[107,101,121]] qqz qqz (by decide)
  ·exact Ij H k t a b c d hd x
structure Q4 where
 (a b c d:Int)
@[simp] def eQ (q:Q4):List AV:=[.int .u8 q.a,.int .u8 q.b,.int .u8 q.c,.int .u8 q.d]
structure QIn (q:Q4):Prop where
 a:0<=q.a/\q.a<=255
 b:0<=q.b/\q.b<=255
 c:0<=q.c/\q.c<=255
 d:0<=q.d/\q.d<=255
theorem sD (H:vJ C) (q:Q4) (hq:QIn q):∃ i:It,FnW C 422 [.agg (eQ q)]=some (eIt i)/\Good i:=by
 obtain ⟨a,b,c,d⟩:=q;obtain ⟨ha,hb,hc,hd⟩:=hq;simp only at ha hb hc hd;have h1:a.tmod 60=a % 60:=qkz qqq;have h2:b.tmod 3=b % 3:=qkz qqq;have h3:c.tmod 8=c % 8:=qkz qqq;have hx:∀ x:Bs,isText x=true->∃ i:It,dn C ⟨[(4,.int .i64 0),(3,.ptr 0 0 0),(2,.ptr 1 0 0),(1,.ptr 2 0 0)],[(0,.cells 4 [[.int .u64 (1+a % 60),.int .u8 (b % 3),.str x,.ro 1 [] true]] true true),(1,.cells 4 [[.int .u64 0,.int .u8 0,.str [],.ro 1 [] true]] true true),(2,.cells 4 [[.int .u8 a,.int .u8 b,.int .u8 c,.int .u8 d]] true true)],3⟩=some (eIt i)/\Good i:=by intro x hx;obtain ⟨m,e,h,r1,r2⟩:=abA H (1+a % 60) (b % 3) a b c d hd x;exact ⟨_,h,⟨by simp only;omega,by simp only;omega,hx,r1,r2⟩⟩
 rw [aF H.alg rfl];have hJ:c % 8=0\/c % 8=1\/c % 8=2\/c % 8=3\/c % 8=4\/c % 8=5\/c % 8=6\/c % 8=7:=by omega
 rcases hJ with hj | hj | hj | hj | hj | hj | hj | hj
 ·obtain ⟨i,h,g⟩:=hx [] (by decide);refine ⟨i,?_,g⟩;simp only [dn] at h;simp (disch:=omega) [Ik,h1,h2,h3,hj,aC,wU8,pJ,h]
 ·obtain ⟨i,h,g⟩:=hx [97] (by decide);refine ⟨i,?_,g⟩;simp only [dn] at h;simp (disch:=omega) [Ik,h1,h2,h3,hj,aC,wU8,pJ,h]
 ·obtain ⟨i,h,g⟩:=hx [114,111,119] (by decide);refine ⟨i,?_,g⟩;simp only [dn] at h;simp (disch:=omega) [Ik,h1,h2,h3,hj,aC,wU8,pJ,h]
 ·obtain ⟨i,h,g⟩:=hx [116,119,111,32,119,111,114,100,115] (by decide);refine ⟨i,?_,g⟩;simp only [dn] at h;simp (disch:=omega) [Ik,h1,h2,h3,hj,aC,wU8,pJ,h]
 ·obtain ⟨i,h,g⟩:=hx [32,32] (by decide);refine ⟨i,?_,g⟩;simp only [dn] at h;simp (disch:=omega) [Ik,h1,h2,h3,hj,aC,wU8,pJ,h]
 ·obtain ⟨i,h,g⟩:=hx [126,33,45,44] (by decide);refine ⟨i,?_,g⟩;simp only [dn] at h;simp (disch:=omega) [Ik,h1,h2,h3,hj,aC,wU8,pJ,h]
 ·obtain ⟨i,h,g⟩:=hx [97,32,108,111,110,103,101,114,32,116,101,120,116,32,111,102,32,116,104,105,115,32,107,105,110,100] (by decide);refine ⟨i,?_,g⟩;simp only [dn] at h;simp (disch:=omega) [Ik,h1,h2,h3,hj,aC,wU8,pJ,h]
 ·obtain ⟨i,h,g⟩:=hx [57] (by decide);refine ⟨i,?_,g⟩;simp only [dn] at h;simp (disch:=omega) [Ik,h1,h2,h3,hj,aC,wU8,pJ,h]
theorem Good.it {i:It} (h:Good i):iU i:=⟨by have:=h.k;omega,by have:=h.t;omega,by have:=h.l;omega⟩
theorem Good.ok {i:It} (h:Good i):fM 3 i=true:=by have h1:=h.k;have h2:=h.t;have h3:=h.x;have h4:=h.l;have h5:=h.m;unfold fM;simp only [qzq,qvj];exact ⟨⟨⟨by omega,by omega⟩,h3⟩,h4,h5⟩
theorem Yj {k:Int}:∀ (l:List It) (i:Nat),Fb k i l < 0->∀ x ∈ l,x.k≠k
 | [],_,_=>by simp
 | e::r,i,h=>by
  rw [Fb] at h;split at h
  ·omega
  ·rename_i c;intro x hx;rcases qkq.1 hx with rfl | hx
   ·exact c
   ·exact Yj r (i+1) h x hx
theorem UK (H:vJ C) (hone:∀ q:Q4,QIn q->∃ i:It,FnW C 422 [.agg (eQ q)]=some (eIt i)/\Good i) (l:List Q4) (e:Bool) (hq:∀ q ∈ l,QIn q):∀ n i,n+i=min l.length 12->∀ G:List It,G.length<=i->(∀ x ∈ G,Good x)->(G.map It.k).Nodup ->
 ∃ R:List It,Bh C ⟨[(4,.int .i64 i),(3,.sl 0 4 0 G.length G.length false),(1,.ptr 1 0 0)],[(0,.cells 4 (G.map cIt) true true),(1,.cells 1 [[.ro 4 (l.map eQ) e]] true true)],2⟩=some (.ro 4 (R.map cIt) false) /\
  R.length<=12/\(∀ x ∈ R,Good x)/\(R.map It.k).Nodup:=by
 intro n;induction n with
 | zero =>
  intro i hi G hG hg hn;refine ⟨G,?_,by omega,hg,hn⟩;simp only [Bh];rw [aj wW.eq_1];have h6:List.take G.length (List.map cIt G)=List.map cIt G:=qzz qqz;by_cases h3:i < l.length
  ·have h4:¬ (i:Int) < 12:=by omega
   simp [aj GI.eq_1,h3,h4,h6]
  ·simp [aj GI.eq_1,h3,h6]
 | succ n ih =>
  intro i hi G hG hg hn;have h1:i < l.length:=by omega
  have h2:(i:Int) < 12:=by omega
  obtain ⟨x,hx,gx⟩:=hone l[i] (hq _ (qxx h1));have hf:=RZ H.tojR G false x.k qqq;have h6:List.take G.length (List.map cIt G)=List.map cIt G:=qzz qqz;have hfit:(G.length+1) * 57<=35184372088832:=by omega
  simp only [eQ] at hx;by_cases c:Fb x.k 0 G < 0
  ·have hno:=Yj G 0 c;obtain ⟨R,this,r1,r2,r3⟩:=ih (i+1) qqq (G++[x]) qqx (by
    intro y hy;rcases qjj.1 hy with q | q
    ·exact hg y q
    ·simp at q;rw [q];exact gx) (by
    rw [qcz,quj];refine ⟨hn,by simp,?_⟩;intro a ha b hb;simp at hb;obtain ⟨y,hy,rfl⟩:=qyq.1 ha;rw [hb];exact hno y hy)
   refine ⟨R,?_,r1,r2,r3⟩;simp only [Bh] at this |-;rw [aj wW.eq_1];simp at this;simp (disch:=omega) [h1,h2,hx,hf,h6,c,hfit,aC,H.inl,ak,H.pp,ppB,this]
  ·obtain ⟨R,this,r1,r2,r3⟩:=ih (i+1) qqq G qqq hg hn;refine ⟨R,?_,r1,r2,r3⟩;simp only [Bh] at this |-;rw [aj wW.eq_1];simp at this;simp (disch:=omega) [h1,h2,hx,hf,h6,c,aC,H.inl,ak,H.pp,ppB,this]
theorem adn (H:vJ C) (hone:∀ q:Q4,QIn q->∃ i:It,FnW C 422 [.agg (eQ q)]=some (eIt i)/\Good i) (l:List Q4) (e:Bool) (hq:∀ q ∈ l,QIn q) :
 ∃ R:List It,FnW C 270 [.agg [.ro 4 (l.map eQ) e]]=some (.ro 4 (R.map cIt) false)/\R.length<=12/\(∀ x ∈ R,Good x)/\(R.map It.k).Nodup:=by
 obtain ⟨R,h,r⟩:=UK H hone l e hq (min l.length 12) 0 qqz [] qqz qqz qqz;refine ⟨R,?_,r⟩;simp only [Bh] at h;simp at h;rw [aF H.f270 rfl];simp [aji,h]
def zi (k:Int) (t:Bs):Pt:=⟨k,[],[],[],true,t,[],true⟩
def EI:Pt:=⟨1,[114,111,119],[],[⟨[110],3,[]⟩,⟨[116,101,120,116],1,[]⟩],true,[],[zi 3 []],true⟩
def wF:Pt:=⟨1,[104,101,97,100],[104],[⟨[105,100],2,[]⟩],true,[],[zi 2 [35],zi 4 []],true⟩
def wB:Pt:=⟨1,[114,111,119],[],[],true,[],[⟨1,[98],[98,50],[],true,[],[zi 3 []],true⟩,⟨5,[116,97,103],[],[⟨[111,102],2,[]⟩],true,[],[],true⟩],true⟩
def fA (n:Int):List Kd:=[⟨EI,10+n % 7,false,n % 4⟩,⟨wF,6+n % 3,true,n / 4 % 3⟩,⟨wB,20,decide (n % 16=15),n / 8 % 3⟩]
theorem ab6 (H:vJ C) (n:Int) (hn:0<=n/\n<=255):FnW C 126 [.int .u8 n]=some (.ro 9 ((fA n).map eKd) true):=by rw [aF H.f126 rfl];have h1:n.tmod 7=n % 7:=qkz qqq;have h2:n.tmod 4=n % 4:=qkz qqq;have h3:n.tmod 3=n % 3:=qkz qqq;have h4:n.tdiv 4=n / 4:=qKx qqq;have h5:n.tdiv 8=n / 8:=qKx qqq;have h6:(n / 4).tmod 3=n / 4 % 3:=qkz qqq;have h7:(n / 8).tmod 3=n / 8 % 3:=qkz qqq;have h8:n.tmod 16=n % 16:=qkz qqq;simp (disch:=omega) [ahW,fA,EI,wF,wB,zi,h1,h2,h3,h4,h5,h6,h7,h8,aC,wU8,Pt.fH];rfl
theorem Em (k:Int) (t:Bs):iM (zi k t):=.mk _ ⟨by simp [zi],by simp [zi],by simp [zi]⟩ (by simp [zi])
theorem adh:iM EI:=.mk _ ⟨by simp [EI],by simp [EI],by simp [EI]⟩ (by simp only [EI,qkq,qdq,q0x];rintro m rfl;exact Em _ _)
theorem aaV:iM wF:=.mk _ ⟨by simp [wF],by simp [wF],by simp [wF]⟩ (by simp only [wF,qkq,qdq,q0x];rintro m (rfl | rfl) <;> exact Em _ _)
theorem aaD:iM wB:=.mk _ ⟨by simp [wB],by simp [wB],by simp [wB]⟩ (by
 simp only [wB,qkq,qdq,q0x];rintro m (rfl | rfl)
 ·exact .mk _ ⟨by simp,by simp,by simp⟩ (by simp only [qkq,qdq,q0x];rintro m rfl;exact Em _ _)
 ·exact .mk _ ⟨by simp,by simp,by simp⟩ qqz)
theorem anw (n:Int):jF (fA n):=⟨by simp [fA],by
 simp only [fA,qkq,qdq,q0x];rintro k (rfl | rfl | rfl)
 ·exact adh
 ·exact aaV
 ·exact aaD⟩
theorem ali:qp EI≠0:=by decide +kernel
theorem aiM:qp wF≠0:=by decide +kernel
theorem ag3:qp wB≠0:=by decide +kernel
theorem aoF (n:Int) (hn:0<=n/\n<=255):rJ (fA n) 12=true:=by
 have e1:(1:Int)<=10+n % 7/\10+n % 7<=2305843009213693952:=by omega
 have e2:(1:Int)<=6+n % 3/\6+n % 3<=2305843009213693952:=by omega
 simp [rJ,OM,hOk,fA,ali,aiM,ag3,e1,e2]
theorem XK (n:Int) (hn:0<=n/\n<=255) (t:Int) (ht:0<=t/\t<=2):1<=(bW (fA n) t).b/\(bW (fA n) t).b<=30:=by
 have:t=0\/t=1\/t=2:=by omega
 rcases this with rfl | rfl | rfl <;> simp [bW,fA] <;> omega
structure nY (ks:List Kd) (e:En):Prop where
 i:Good e.i
 ok:itE ks 12 e.i false=0
 s:1<=e.s/\e.s<=40
 b:e.kn=true\/e.s=(bW ks e.i.t).b
structure VN (ks:List Kd):Prop where
 r:jF ks
 l:ks.length=3
 b:∀ t:Int,0<=t->t<=2->1<=(bW ks t).b/\(bW ks t).b<=30
theorem ajX (n:Int) (hn:0<=n/\n<=255):VN (fA n):=⟨anw n,rfl,λt h1 h2=>XK n hn t ⟨h1,h2⟩⟩
theorem akY (H:vJ C) (ks:List Kd) (hks:VN ks) (l:List It) (le:Bool) (hl:l.length<=12) (hg:∀ x ∈ l,Good x) (q:List Q4) (qe:Bool) (z:List Int) (ze:Bool) (hz:∀ s ∈ z,0<=s/\s<=255) (hzl:z.length < 9223372036854775808) (r:Int):∀ n i,n+i=l.length ->
 ∀ G:List En,G≠[]->G.length<=i->(∀ x ∈ G,nY ks x)->(bH G++(l.drop i).map It.k).Nodup ->
 ∃ (R:List En) (f:Bool),iQ C ⟨[(7,.int .i64 i),(6,.ptr 0 0 0),(5,.ro 4 (l.map cIt) le),(4,.ptr 2 0 0),(3,.ptr 3 0 0),(2,.ptr 4 0 0),(1,.ptr 5 0 0)],[(0,.cells 1 [[.sl 1 6 0 G.length G.length false]] true false),(1,.cells 6 (G.map eEn) true true),(2,.cells 2 [[.ro 9 (ks.map eKd) true,.int .i64 12]] true true),(3,.cells 1 [[.ro 6 [] true]] true true),(4,.cells 2 [[.ro 9 [] true,.int .i64 0]] true true),(5,.cells 3 [[.ro 4 (q.map eQ) qe,.ro 1 (z.map eU8) ze,.int .u8 r]] true true)],6⟩=some (.tup [aR ks true 12,aL R f])/\R.length<=12/\(∀ e ∈ R,nY ks e)/\(bH R).Nodup:=by
 intro n;induction n with
 | zero =>
  intro i hi G hne hG hge hn;have h1:l.drop i=[]:=qwj qqq;have h3:¬ i < l.length:=by omega
  have h6:List.take G.length (List.map eEn G)=List.map eEn G:=qzz qqz;refine ⟨G,false,?_,by omega,hge,by rw [h1] at hn;simpa using hn⟩;simp only [iQ];rw [aj jJ.eq_1];simp [aj Hf.eq_1,h3,h6]
 | succ n ih =>
  intro i hi G hne hG hge hn;have h1:i < l.length:=by omega
  have gx:=hg _ (qxx h1);have hii:=CS H.tozD ks true 12 l[i] gx.it hks.r false;have hfr:=xk H.tozD ks true 12 l[i] gx.it (by have:=gx.t;have:=hks.l;omega);have hbase:=hks.b l[i].t gx.t.1 gx.t.2;rw [drop_cons h1,qvz] at hn;have hfit:(G.length+1) * 73<=35184372088832:=by omega
  simp only [aR,eIt,qjz,qWz] at hii;simp only [aR,eIt,aE,eEn,fre] at hfr;have hE0:0<=itE ks 12 l[i] false:=by unfold itE;repeat (first | omega | split)
  by_cases c1:itE ks 12 l[i] false=0
  ·have step:∀ e:En,e.i=l[i]->nY ks e->∃ (R:List En) (f:Bool),iQ C ⟨[(7,.int .i64 ((i:Int)+1)),(6,.ptr 0 0 0),(5,.ro 4 (l.map cIt) le),(4,.ptr 2 0 0),(3,.ptr 3 0 0),(2,.ptr 4 0 0),(1,.ptr 5 0 0)],[(0,.cells 1 [[.sl 1 6 0 (G.length+1) (G.length+1) false]] true false),(1,.cells 6 (G.map eEn++[eEn e]) true true),(2,.cells 2 [[.ro 9 (ks.map eKd) true,.int .i64 12]] true true),(3,.cells 1 [[.ro 6 [] true]] true true),(4,.cells 2 [[.ro 9 [] true,.int .i64 0]] true true),(5,.cells 3 [[.ro 4 (q.map eQ) qe,.ro 1 (z.map eU8) ze,.int .u8 r]] true true)],6⟩=some (.tup [aR ks true 12,aL R f])/\R.length<=12/\(∀ e ∈ R,nY ks e)/\(bH R).Nodup:=by
    intro e he hge2;have:=ih (i+1) qqq (G++[e]) qqz qqx (by
     intro y hy;rcases qjj.1 hy with q | q
     ·exact hge y q
     ·simp at q;rw [q];exact hge2) (by simpa [bH,he] using hn)
    simpa using this
   by_cases c2:G.length < z.length
   ·by_cases c3:(0:Int) < z[G.length]
    ·have hzz:=hz _ (qxx c2);have hm:z[G.length].tmod 40=z[G.length] % 40:=qkz hzz.1;have hm1:(0:Int)<=z[G.length] % 40:=qnq _ qqq;have hm2:z[G.length] % 40 < 40:=qhq _ qqq;obtain ⟨R,f,this,hR⟩:=step ⟨l[i],1+z[G.length] % 40,true⟩ rfl ⟨gx,c1,by simp only;omega,.inl rfl⟩;refine ⟨R,f,?_,hR⟩;rw [c1] at hii;generalize z[G.length] % 40=M at *;simp only [iQ] at this |-;rw [aj jJ.eq_1];simp at this;simp (disch:=omega) [h1,c2,c3,hm,hii,hfr,hfit,aC,wU8,H.inl,ak,H.pp,ppB,this]
    ·obtain ⟨R,f,this,hR⟩:=step (fre ks l[i]) rfl ⟨gx,c1,by unfold fre;simp only;omega,.inr rfl⟩;refine ⟨R,f,?_,hR⟩;rw [c1] at hii;simp only [fre] at this;simp only [iQ] at this |-;rw [aj jJ.eq_1];simp at this;simp (disch:=omega) [h1,c2,c3,hii,hfr,hfit,aC,wU8,H.inl,ak,H.pp,ppB,this]
   ·obtain ⟨R,f,this,hR⟩:=step (fre ks l[i]) rfl ⟨gx,c1,by unfold fre;simp only;omega,.inr rfl⟩;refine ⟨R,f,?_,hR⟩;rw [c1] at hii;simp only [fre] at this;simp only [iQ] at this |-;rw [aj jJ.eq_1];simp at this;simp (disch:=omega) [h1,c2,hii,hfr,hfit,aC,wU8,H.inl,ak,H.pp,ppB,this]
  ·have c1':0 < itE ks 12 l[i] false:=by omega
   obtain ⟨R,f,this,hR⟩:=ih (i+1) qqq G hne qqq hge (by refine List.Nodup.sublist ?_ hn;exact List.Sublist.append (List.Sublist.refl _) (List.sublist_cons_self _ _));refine ⟨R,f,?_,hR⟩;generalize itE ks 12 l[i] false=E at *;simp only [iQ] at this |-;rw [aj jJ.eq_1];simp at this;simp (disch:=omega) [h1,c1',hii,aC,H.inl,ak,H.pp,ppB,this]
theorem aii (H:vJ C) (ks:List Kd) (hks:VN ks) (l:List It) (le:Bool) (hl:l.length<=12) (hg:∀ x ∈ l,Good x) (q:List Q4) (qe:Bool) (z:List Int) (ze:Bool) (hz:∀ s ∈ z,0<=s/\s<=255) (hzl:z.length < 9223372036854775808) (r:Int):∀ n i,n+i=l.length ->
 (bH []++(l.drop i).map It.k).Nodup ->
 ∃ (R:List En) (f:Bool),iQ C ⟨[(7,.int .i64 i),(6,.ptr 0 0 0),(5,.ro 4 (l.map cIt) le),(4,.ptr 1 0 0),(3,.ptr 2 0 0),(2,.ptr 3 0 0),(1,.ptr 4 0 0)],[(0,.cells 1 [[.ro 6 [] true]] true true),(1,.cells 2 [[.ro 9 (ks.map eKd) true,.int .i64 12]] true true),(2,.cells 1 [[.ro 6 [] true]] true true),(3,.cells 2 [[.ro 9 [] true,.int .i64 0]] true true),(4,.cells 3 [[.ro 4 (q.map eQ) qe,.ro 1 (z.map eU8) ze,.int .u8 r]] true true)],5⟩=some (.tup [aR ks true 12,aL R f])/\R.length<=12/\(∀ e ∈ R,nY ks e)/\(bH R).Nodup:=by
 intro n;induction n with
 | zero =>
  intro i hi  hn;have h1:l.drop i=[]:=qwj qqq;have h3:¬ i < l.length:=by omega
  refine ⟨[],true,?_,by simp,by simp,by simp⟩;simp only [iQ];rw [aj jJ.eq_1];simp [aj Hf.eq_1,h3]
 | succ n ih =>
  intro i hi  hn;have h1:i < l.length:=by omega
  have gx:=hg _ (qxx h1);have hii:=CS H.tozD ks true 12 l[i] gx.it hks.r false;have hfr:=xk H.tozD ks true 12 l[i] gx.it (by have:=gx.t;have:=hks.l;omega);have hbase:=hks.b l[i].t gx.t.1 gx.t.2;rw [drop_cons h1,qvz] at hn;simp only [aR,eIt,qjz,qWz] at hii;simp only [aR,eIt,aE,eEn,fre] at hfr;have hE0:0<=itE ks 12 l[i] false:=by unfold itE;repeat (first | omega | split)
  by_cases c1:itE ks 12 l[i] false=0
  ·have step:∀ e:En,e.i=l[i]->nY ks e->∃ (R:List En) (f:Bool),iQ C ⟨[(7,.int .i64 ((i:Int)+1)),(6,.ptr 0 0 0),(5,.ro 4 (l.map cIt) le),(4,.ptr 2 0 0),(3,.ptr 3 0 0),(2,.ptr 4 0 0),(1,.ptr 5 0 0)],[(0,.cells 1 [[.sl 1 6 0 1 1 false]] true false),(1,.cells 6 [eEn e] true true),(2,.cells 2 [[.ro 9 (ks.map eKd) true,.int .i64 12]] true true),(3,.cells 1 [[.ro 6 [] true]] true true),(4,.cells 2 [[.ro 9 [] true,.int .i64 0]] true true),(5,.cells 3 [[.ro 4 (q.map eQ) qe,.ro 1 (z.map eU8) ze,.int .u8 r]] true true)],6⟩=some (.tup [aR ks true 12,aL R f])/\R.length<=12/\(∀ e ∈ R,nY ks e)/\(bH R).Nodup:=by intro e he hge2;have:=akY H ks hks l le hl hg q qe z ze hz hzl r n (i+1) qqq [e] qqz qqz (by simpa using hge2) (by simpa [bH,he] using hn);simpa using this
   by_cases c2:0 < z.length
   ·by_cases c3:(0:Int) < z[0]
    ·have hzz:=hz _ (qxx c2);have hm:z[0].tmod 40=z[0] % 40:=qkz hzz.1;have hm1:(0:Int)<=z[0] % 40:=qnq _ qqq;have hm2:z[0] % 40 < 40:=qhq _ qqq;obtain ⟨R,f,this,hR⟩:=step ⟨l[i],1+z[0] % 40,true⟩ rfl ⟨gx,c1,by simp only;omega,.inl rfl⟩;refine ⟨R,f,?_,hR⟩;rw [c1] at hii;generalize z[0] % 40=M at *;simp only [iQ] at this |-;rw [aj jJ.eq_1];simp at this;simp (disch:=omega) [h1,c2,c3,hm,hii,hfr,aC,wU8,H.inl,ak,H.pp,ppB,this]
    ·obtain ⟨R,f,this,hR⟩:=step (fre ks l[i]) rfl ⟨gx,c1,by unfold fre;simp only;omega,.inr rfl⟩;refine ⟨R,f,?_,hR⟩;rw [c1] at hii;simp only [fre] at this;simp only [iQ] at this |-;rw [aj jJ.eq_1];simp at this;simp (disch:=omega) [h1,c2,c3,hii,hfr,aC,wU8,H.inl,ak,H.pp,ppB,this]
   ·obtain ⟨R,f,this,hR⟩:=step (fre ks l[i]) rfl ⟨gx,c1,by unfold fre;simp only;omega,.inr rfl⟩;refine ⟨R,f,?_,hR⟩;rw [c1] at hii;simp only [fre] at this;simp only [iQ] at this |-;rw [aj jJ.eq_1];simp at this;simp (disch:=omega) [h1,c2,hii,hfr,aC,wU8,H.inl,ak,H.pp,ppB,this]
  ·have c1':0 < itE ks 12 l[i] false:=by omega
   obtain ⟨R,f,this,hR⟩:=ih (i+1) qqq (by simp only [bH,qax,qJj] at hn |-;exact (qtx.1 hn).2);refine ⟨R,f,?_,hR⟩;generalize itE ks 12 l[i] false=E at *;simp only [iQ] at this |-;rw [aj jJ.eq_1];simp at this;simp (disch:=omega) [h1,c1',hii,aC,H.inl,ak,H.pp,ppB,this]
theorem akM (H:vJ C) (hone:∀ q:Q4,QIn q->∃ i:It,FnW C 422 [.agg (eQ q)]=some (eIt i)/\Good i) (q:List Q4) (qe:Bool) (hq:∀ x ∈ q,QIn x) (z:List Int) (ze:Bool) (hz:∀ s ∈ z,0<=s/\s<=255) (hzl:z.length < 9223372036854775808) (r:Int) (hr:0<=r/\r<=255) :
 ∃ (R:List En) (f:Bool),FnW C 130 [.agg [.ro 4 (q.map eQ) qe,.ro 1 (z.map eU8) ze,.int .u8 r]]=some (.tup [aR (fA r) true 12,aL R f])/\R.length<=12/\(∀ e ∈ R,nY (fA r) e)/\(bH R).Nodup:=by
 obtain ⟨I,hI,l1,l2,l3⟩:=adn H hone q qe hq;have hk:=ab6 H r hr;obtain ⟨R,f,h,hR⟩:=aii H (fA r) (ajX r hr) I false l1 l2 q qe z ze hz hzl r I.length 0 qqz (by simpa [bH] using l3);refine ⟨R,f,?_,hR⟩;rw [aF H.f130 rfl];generalize fA r=ks at *;simp only [iQ] at h;simp at h;simp [af9,hI,hk,h,H.inl,ak,H.pp,ppB]
mutual
theorem VQ (i:It):∀ p:Pt,mk i.own p=mk i p
 | ⟨k,t,y,s,se,tx,ch,ce⟩=>by rw [mk,mk,Xv i ch];rfl
theorem Xv (i:It):∀ l:List Pt,mks i.own l=mks i l
 | []=>rfl
 | p::r=>by rw [mks,mks,VQ i p,Xv i r]
end
theorem Sm (ks:List Kd) (hb:∀ t:Int,0<=t->t<=2->1<=(bW ks t).b/\(bW ks t).b<=30):∀ (l:List En) (s:List Int),(∀ e ∈ l,nY ks e)->(s++bH l).Nodup->chk ks 12 s l=0
 | [],_,_,_=>rfl
 | e::r,s,hg,hn=>by
  have h1:=hg e qqz;have h2:s.contains e.i.k=false:=by simp only [bH,qvz] at hn;have:=(quj.1 hn).2.2;simp only [qlj,qmx];intro q;exact this _ q _ qqz rfl
  have h3:enE ks 12 e false=0:=by
   unfold enE;rw [h1.ok];have hh:hOk e.s=true:=by unfold hOk;have:=h1.s;simp;omega
   simp [hh,h1.b]
  rw [chk,h2,h3];simp only [ne_eq,qmj,qWz];refine Sm ks hb r _ (λx hx=>hg x (by simp [hx])) ?_;simpa [bH] using hn
theorem RQ (ks:List Kd):∀ (l:List En) (s:Int),(∀ e ∈ l,nY ks e)->0<=s->s+40 * l.length<=4611686018427387904->qj s l<=s+40 * l.length
 | [],s,_,_,_=>by simp [qj]
 | e::r,s,hg,h0,h=>by have h1:=(hg e qqz).s;have h2:imax e.s 0=e.s:=Qr qqq;simp only [qaz] at h |-;rw [qj,h2,qwq qqq];have:=RQ ks r (s+e.s) (λx hx=>hg x (by simp [hx])) qqq qqq;omega
theorem agb (r:Int) (hr:0<=r/\r<=255) (l:List En) (hl:l.length<=1024) (hg:∀ e ∈ l,nY (fA r) e) (hn:(bH l).Nodup):ckE (fA r) 12 l=0:=by
 have h1:=Sm (fA r) (λt a b=>XK r hr t ⟨a,b⟩) l [] hg (by simpa using hn);have h2:=RQ (fA r) l 0 hg qqq qqq;have h3:ovE l=0:=by unfold ovE tot;rw [qwq qqq]
 unfold ckE;rw [aoF r hr,h1,qwq qqz,qwq qqq,qwq qqz,h3]
theorem nY.en {ks:List Kd} {e:En} (h:nY ks e):dQ e:=⟨h.i.it,by have:=h.s;omega⟩
theorem nY.ow {ks:List Kd} {e:En} (h:nY ks e):nY ks e.own:=by
 refine ⟨⟨h.i.k,h.i.t,h.i.x,h.i.l,h.i.m⟩,?_,h.s,h.b⟩;have h1:=h.ok;have e1:∀ i:It,fM ks.length i.own=fM ks.length i:=λi=>rfl;have e2:∀ (i:It) (p:Pt),gJ p i.own 12=gJ p i 12:=by
  intro i p;have:mkN i.own p=mkN i p:=by
   have m1:∀ p,Go.D.mk i.own p=Go.D.mk i p:=by intro p;exact (VQ i p)
   unfold mkN;rw [m1]
  unfold gJ;rw [this];rfl
 unfold itE at h1 |-;simp only [En.own,e1,e2];exact h1
end Go.D
end
section
end
