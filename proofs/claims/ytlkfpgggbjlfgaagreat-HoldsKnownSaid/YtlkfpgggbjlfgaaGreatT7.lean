/- Part of the theory that the claims of this work use: E01, E02, E03, E04, E06, E08, G01, E12, Q01, Q02, PwNest, PwNest2, Q03, Q04, Q05, Q06, Q07, E13, Q08, Q09, E07, E09, D46. No conditions of its own. -/
import Derived.Test.YtlkfpgggbjlfgaaGreatT6
set_option linter.unusedVariables false
set_option linter.unusedSimpArgs false
set_option maxHeartbeats 4000000
set_option maxRecDepth 10000
section
namespace Go.D
open Go Go.Pav Go.Pw P
def sm:List En->Int
 |[]=>0
 |e::r=>e.s+sm r
def top(l:List En)(i:Nat):Int:=sm (l.take i)
theorem aew(l:List En):top l 0=0:=rfl
theorem acv:∀(a b:List En),sm (a++b)=sm a+sm b
 |[],b=>by simp[sm]
 |e::r,b=>by simp only[qmx,sm];rw[acv r b];omega
theorem adL{l:List En}{i:Nat}(h:i<l.length):top l (i+1)=top l i+l[i].s:=by unfold top;rw[qij,qqj h,acv];simp[sm]
theorem QU(l:List En):top l l.length=sm l:=by unfold top;rw[List.take_length]
theorem akH{l:List En}{i:Nat}(h:l.length<=i):top l i=sm l:=by unfold top;rw[qxz h]
structure Szd(l:List En):Prop where
 n:l.length<=1024
 s:∀x∈l,1<=x.s/\x.s<=2305843009213693952
 t:sm l<=4611686018427387904
theorem ads:∀(l:List En),(∀x∈l,1<=x.s)->0<=sm l
 |[],_=>by simp[sm]
 |e::r,h=>by have h1:=h e qqz;have h2:=ads r λx hx=>h x (by simp[hx]);rw[sm];omega
theorem YO:∀(l:List En) (s:Int),(∀x∈l,1<=x.s)->s<=4611686018427387904 ->
 (s+sm l<=4611686018427387904/\zT s l=s+sm l)\/(4611686018427387904<s+sm l/\zT s l=4611686018427387905)
 |[],s,_,h=>by left;simp[sm,zT,h]
 |e::r,s,hs,h=>by
  have h1:=hs e qqz;have h2:=ads r λx hx=>hs x (by simp[hx]);have h3:imax e.s 0=e.s:=JO qqq;rw[zT,sm,h3];by_cases c:4611686018427387904-s<e.s
  ·right;rw[qzq c];omega
  ·rw[qwx c];have:=YO r (s+e.s) (λx hx=>hs x (by simp[hx])) qqq;rw[<- qmq];exact this
theorem Szd.tot{l:List En}(h:Szd l):tot l=sm l:=by
 unfold Go.D.tot;have h2:=h.t;rcases YO l 0 (λx hx=>(h.s x hx).1) qqq with q | q
 ·omega
 ·omega
theorem Szd.nn{l:List En}(h:Szd l):0<=sm l:=ads l λx hx=>(h.s x hx).1
theorem Szd.lt{l:List En}(h:Szd l){i:Nat}(hi:i<l.length):top l i+1<=top l (i+1):=by rw[adL hi];have:=(h.s _ (qxq hi)).1;omega
theorem Szd.mono{l:List En}(h:Szd l){i:Nat}:∀{j:Nat},i<=j->j<=l.length->top l i+((j:Int)-i)<=top l j:=by
 intro j hij;induction j with
 |zero=>
  intro _;have:i=0:=by omega
  subst this;simp
 |succ j ih=>
  intro hj;by_cases c:i=j+1
  ·subst c;omega
  ·have h1:=ih qqq qqq;have h2:=h.lt (i:=j) qqq;omega
theorem Szd.rng{l:List En}(h:Szd l)(i:Nat):0<=top l i/\top l i<=sm l:=by
 by_cases c:i<=l.length
 ·have h1:=h.mono (i:=0) (j:=i) qqq c;have h2:=h.mono (i:=i) (j:=l.length) c qqq;rw[aew]at h1;rw[QU]at h2;omega
 ·rw[akH qqq];have:=h.nn;omega
theorem Szd.row{l:List En}(h:Szd l){x:Int}(h0:0<=x)(h1:x<sm l):∃p,p<l.length/\top l p<=x/\x<top l (p+1):=by
 have key:∀n,n<=l.length->top l n<=x\/∃p,p<n/\top l p<=x/\x<top l (p+1):=by
  intro n;induction n with
  |zero=>intro _;left;rw[aew];exact h0
  |succ n ih=>
   intro hn;rcases ih qqq with q|⟨p,q1,q2⟩
   ·by_cases c:top l (n+1)<=x
    ·exact .inl c
    ·exact .inr ⟨n,by omega,q,by omega⟩
   ·exact .inr ⟨p,by omega,q2⟩
 rcases key l.length qqq with q|⟨p,q⟩
 ·rw[QU]at q;omega
 ·exact⟨p,q⟩
def akw(l:List En)(v:Int):Int:=if sm l<v then 0 else sm l-v
structure Vp(l:List En)(o v:Int):Prop extends Szd l where
 v0:1<=v/\v<=2147483648
 s0:0<=o/\o<=akw l v
theorem Vp.ends{l:List En}{s v:Int}(h:Vp l s v)(hl:0<l.length):∃p q:Nat,p<l.length/\q<l.length/\p<=q/\(top l p<=s/\s<top l (p+1))/\(top l q<=wC (s+v) (sm l)-1/\wC (s+v) (sm l)-1<top l (q+1)):=by
 have h1:=h.v0;have h2:=h.s0;have h3:1<=sm l:=by have:=h.mono (i:=0) (j:=l.length) qqq qqq;rw[aew,QU]at this;omega
 have h4:s<sm l:=by unfold akw at h2;split at h2<;>omega
 have h5:s+1<=wC (s+v) (sm l)/\wC (s+v) (sm l)<=sm l:=by unfold wC;split<;>omega
 obtain⟨p,p1,p2,p3⟩:=h.row h2.1 h4;obtain⟨q,q1,q2,q3⟩:=h.row (x:=wC (s+v) (sm l)-1) qqq qqq;refine⟨p,q,p1,q1,?_,⟨p2,p3⟩,q2,q3⟩;by_cases c:p<=q
 ·exact c
 ·have:=h.mono (i:=q+1) (j:=p) qqq qqq;omega
theorem Vp.seen{l:List En}{s v:Int}(h:Vp l s v){p q:Nat}(hp:p<l.length)(hq:q<l.length)(h1:top l p<=s/\s<top l (p+1))(h2:top l q<=wC (s+v) (sm l)-1/\wC (s+v) (sm l)-1<top l (q+1)){i:Nat}(hi:i<l.length) :
 (top l i<s+v/\s<top l (i+1))↔(p<=i/\i<=q):=by
 have e1:wC (s+v) (sm l)<=s+v:=by unfold wC;split<;>omega
 have hm:=h.rng (i+1);have hlt:=h.lt hi;constructor
 ·rintro⟨a,b⟩;constructor
  ·by_cases c:p<=i
   ·exact c
   ·have:=h.mono (i:=i+1) (j:=p) qqq qqq;omega
  ·by_cases c:i<=q
   ·exact c
   ·have:=h.mono (i:=q+1) (j:=i) qqq qqq;have e2:s+v<=top l i:=by unfold wC at h2;split at h2<;>omega
    omega
 ·rintro⟨a,b⟩;have m1:=h.mono (i:=i) (j:=q) b qqq;have m2:=h.mono (i:=p+1) (j:=i+1) qqq qqq;omega
end Go.D
end
section
namespace Go.D
open Go Go.Pav Go.Pw P
attribute [-simp] List.getElem_cons_drop
variable {C:aJ}
structure anF(C:aJ):Prop extends zn C
structure apg(C:aJ):Prop extends ql C
def akl(v least over:Int):Prop:=v<1\/2147483648<v\/least<1\/2305843009213693952<least\/over<0\/16<over
instance (v least over:Int):Decidable (akl v least over):=by unfold akl;infer_instance
structure ao0(C:aJ):Prop extends anF C,apg C,vY C
end Go.D
end
section
namespace Go.Proofs.YtlkfpgggbjlfgaaGreat
open Go.ChangeShapes Go.WideShapes Go.ChangeAt Go.RowKit Go.Pav Go.Pw P Go.D
theorem ar2:vY prog:={ akT:=rfl,akY:=rfl,alV:=rfl,ak1:=rfl,ams:=rfl,alv:=rfl,aiA:=rfl,ajt:=rfl,alP:=rfl,akB:=rfl,alm:=rfl,alq:=rfl,al5:=rfl,inl:=rfl,pp:=rfl,amu:=rfl,ak5:=rfl,amA:=rfl,alT:=rfl,ak7:=rfl,f282:=rfl,f140:=rfl,am3:=rfl,amZ:=rfl,al2:=rfl,amF:=rfl,alH:=rfl,amW:=rfl,alu:=rfl,alY:=rfl,akF:=rfl,f231:=rfl,ak8:=rfl,afY:=rfl,akQ:=rfl,akS:=rfl,amy:=rfl,alU:=rfl,amd:=rfl,amf:=rfl,ajs:=rfl,alS:=rfl,aml:=rfl,akD:=rfl,aln:=rfl,ama:=rfl,alI:=rfl,akG:=rfl,akE:=rfl,ahd:=rfl,amX:=rfl,am4:=rfl,amP:=rfl,ak9:=rfl,akK:=rfl,adC:=rfl,amj:=rfl,alQ:=rfl,akM:=rfl,ale:=rfl,amS:=rfl,al8:=rfl,akC:=rfl,f225:=rfl,f111:=rfl,f227:=rfl,al1:=rfl,alc:=rfl,amc:=rfl,f239:=rfl,alA:=rfl,f240:=rfl,amg:=rfl,alb:=rfl,f230:=rfl,agw:=rfl,f232:=rfl,f115:=rfl,f236:=rfl,f271:=rfl,f223:=rfl,f235:=rfl,ali:=rfl,f270:=rfl,f126:=rfl,f130:=rfl }
end Go.Proofs.YtlkfpgggbjlfgaaGreat
end
section
namespace Go.D
open Go Go.Pav Go.Pw P
attribute [-simp] List.getElem_cons_drop
variable {C:aJ}
structure JA(C:aJ):Prop extends ql C where
 aoH:GwC C 415 LC
 anX:GwC C 552 aem
 ao6:GwC C 551 aeZ
mutual
/-- Are two trees equal? -/
def eqN:Nd->Nd->Bool
 |⟨k,t,y,a,_,x,ch,_⟩,⟨k',t',y',a',_,x',ch',_⟩=>decide (k=k')&&decide (t=t')&&decide (y=y')&&decide (x=x')&&decide (a=a')&&lQ ch ch'
def lQ:List Nd->List Nd->Bool
 |[],[]=>true
 |n::r,m::s=>eqN n m&&lQ r s
 |_,_=>false
end
theorem aeu(n m:Nd):eqN n m=(decide (n.k=m.k)&&decide (n.t=m.t)&&decide (n.y=m.y)&&decide (n.x=m.x)&&decide (n.a=m.a)&&lQ n.ch m.ch):=by cases n;cases m;rw[eqN]
theorem KO:∀(l r:List Nd),lQ l r=true->l.length=r.length
 |[],[],_=>rfl
 |n::l,m::r,h=>by rw[lQ,qwz]at h;simp[KO l r h.2]
 |[],_::_,h=>by simp[lQ]at h
 |_::_,[],h=>by simp[lQ]at h
inductive zu:Nd->Prop
 |mk (n:Nd) (h1:n.a.length<=9223372036854775807) (h2:n.ch.length<=9223372036854775807) (h:∀m∈n.ch,zu m):zu n
theorem aoP(H:JA C)(a b:Nd)(hl:a.ch.length=b.ch.length)(h2:a.ch.length<=9223372036854775807)
 (ih:∀c∈a.ch,∀m:Nd,FnW C 415 [.agg c.c,.agg m.c]=some (.int .i64 (if eqN c m=true then 1 else 0))):∀n i,n+i=a.ch.length ->
 yO C ⟨[(6,.int .i64 i),(3,.ptr 0 0 0),(2,.ptr 1 0 0)],[(0,.cells 6 [b.c] true true),(1,.cells 6 [a.c] true true)],2⟩=some (.int .i64 (if lQ (a.ch.drop i) (b.ch.drop i)=true then 1 else 0)):=by
 intro n;induction n with
 |zero=>
  intro i hi;have h3:¬i<a.ch.length:=by omega
  have e1:a.ch.drop i=[]:=qzx qqq;have e2:b.ch.drop i=[]:=qzx qqq;simp only[yO];rw[au yA.eq_1];simp(disch:=omega) [au Qb.eq_1,h3,e1,e2,lQ]
 |succ n ihn=>
  intro i hi;have h1:i<a.ch.length:=by omega
  have h1':i<b.ch.length:=by omega
  have this:=ihn (i+1) qqq;have hs:=ih a.ch[i] (qxq h1) b.ch[i];rw[drop_cons h1,drop_cons h1',lQ];cases c:eqN a.ch[i] b.ch[i]
  ·rw[c]at hs;simp at hs;simp only[yO];rw[au yA.eq_1];simp(disch:=omega) [h1,h1',hs,aK,H.kk]
  ·rw[c]at hs;simp at hs;rw[qlx];generalize (if lQ (a.ch.drop (i+1)) (b.ch.drop (i+1))=true then(1:Int)else 0)=R at *;simp only[yO]at this |-;rw[au yA.eq_1];simp at this;simp(disch:=omega) [h1,h1',hs,aK,H.kk,this]
theorem anP(H:JA C)(a b:Nd)(hl:a.a.length=b.a.length)(h1:a.a.length<=9223372036854775807)(X:Int)
 (h0:yO C ⟨[(6,.int .i64 0),(3,.ptr 0 0 0),(2,.ptr 1 0 0)],[(0,.cells 6 [b.c] true true),(1,.cells 6 [a.c] true true)],2⟩=some (.int .i64 X)):∀n i,n+i=a.a.length ->
 xH C ⟨[(5,.int .i64 i),(3,.ptr 0 0 0),(2,.ptr 1 0 0)],[(0,.cells 6 [b.c] true true),(1,.cells 6 [a.c] true true)],2⟩=some (.int .i64 (if a.a.drop i=b.a.drop i then X else 0)):=by
 intro n;induction n with
 |zero=>
  intro i hi;have h3:¬i<a.a.length:=by omega
  have e1:a.a.drop i=[]:=qzx qqq;have e2:b.a.drop i=[]:=qzx qqq;rw[e1,e2,qzq rfl];simp only[yO]at h0;try simp at h0
  simp only[xH];rw[au uX.eq_1];simp(disch:=omega) [au Qc.eq_1,h3,h0]
 |succ n ihn=>
  intro i hi;have hi1:i<a.a.length:=by omega
  have hi2:i<b.a.length:=by omega
  have this:=ihn (i+1) qqq;rw[drop_cons hi1,drop_cons hi2];by_cases c1:a.a[i].1=b.a[i].1
  ·by_cases c2:a.a[i].2=b.a[i].2
   ·have c:a.a[i]=b.a[i]:=Prod.ext c1 c2;have hq:(if a.a[i]::a.a.drop (i+1)=b.a[i]::b.a.drop (i+1)then X else 0)=if a.a.drop (i+1)=b.a.drop (i+1)then X else 0:=by simp[c]
    rw[hq];generalize (if a.a.drop (i+1)=b.a.drop (i+1)then X else 0)=R at *;simp only[xH]at this |-;rw[au uX.eq_1];simp at this;simp(disch:=omega) [hi1,hi2,qQz c1,qQz c2,aK,H.kk,this]
   ·have hq:(if a.a[i]::a.a.drop (i+1)=b.a[i]::b.a.drop (i+1)then X else 0)=0:=by rw[qwx];intro q;exact c2 (congrArg Prod.snd (zzq q).1)
    rw[hq];simp only[xH];rw[au uX.eq_1];simp(disch:=omega) [hi1,hi2,qQz c1,c2,aK,H.kk]
  ·have hq:(if a.a[i]::a.a.drop (i+1)=b.a[i]::b.a.drop (i+1)then X else 0)=0:=by rw[qwx];intro q;exact c1 (congrArg Prod.fst (zzq q).1)
   rw[hq];simp only[xH];rw[au uX.eq_1];simp(disch:=omega) [hi1,hi2,c1,aK,H.kk]
theorem aeL(H:JA C){a:Nd}(ha:zu a):∀b:Nd,FnW C 415 [.agg a.c,.agg b.c]=some (.int .i64 (if eqN a b=true then 1 else 0)):=by
 induction ha with
 |mk a h1 h2 h ih=>
  intro b;rw[aN H.aoH rfl,aeu];by_cases c1:a.k=b.k
  ·by_cases c2:a.t=b.t
   ·by_cases c3:a.y=b.y
    ·by_cases c4:a.x=b.x
     ·by_cases c5:a.a.length=b.a.length
      ·by_cases c6:a.ch.length=b.ch.length
       ·have k0:=aoP H a b c6 h2 ih a.ch.length 0 qqz;rw[qjz,qjz]at k0;have k1:=anP H a b c5 h1 _ k0 a.a.length 0 qqz;rw[qjz,qjz]at k1;have hq:(if (decide (a.k=b.k)&&decide (a.t=b.t)&&decide (a.y=b.y)&&decide (a.x=b.x)&&decide (a.a=b.a)&&lQ a.ch b.ch)=true then(1:Int)else 0)=if a.a=b.a then(if lQ a.ch b.ch=true then 1 else 0)else 0:=by by_cases q:a.a=b.a<;>simp[c1,c2,c3,c4,q]
        rw[hq];generalize (if a.a=b.a then(if lQ a.ch b.ch=true then(1:Int)else 0)else 0)=R at *;simp only[xH]at k1;simp at k1;simp(disch:=omega) [LC,qQz c1,qQz c2,qQz c3,qQz c4,c5,c6,k1]
       ·have hq:lQ a.ch b.ch=false:=by
         cases q:lQ a.ch b.ch
         ·rfl
         ·exact absurd (KO _ _ q) c6
        simp(disch:=omega) [LC,qQz c1,qQz c2,qQz c3,qQz c4,c5,c6,hq]
      ·have hq:¬a.a=b.a:=λq=>c5 (by rw[q]);simp(disch:=omega) [LC,qQz c1,qQz c2,qQz c3,qQz c4,c5,hq]
     ·simp(disch:=omega) [LC,qQz c1,qQz c2,qQz c3,c4]
    ·simp(disch:=omega) [LC,qQz c1,qQz c2,c3]
   ·simp(disch:=omega) [LC,qQz c1,c2]
  ·simp(disch:=omega) [LC,c1]
structure Hd where
 k:Int
 t:Int
 n:Nd
@[simp] def eHd(h:Hd):List AV:=.int .u64 h.k::.int .u8 h.t::h.n.c
abbrev Pl:=List Hd×Bool
@[simp] def ePl(p:Pl):List AV:=[.ro 8 (p.1.map eHd) p.2]
abbrev aSt(rows:List Hd)(re:Bool)(ps:List Pl)(pe:Bool):AV:=.agg [.ro 8 (rows.map eHd) re,.ro 1 (ps.map ePl) pe]
@[simp] def eAt(a:Nat):List AV:=[.int .i64 a]
structure oq(C:aJ):Prop extends JA C,Oa C where
 apb:GwC C 435 agc
 aoL:GwC C 436 ah2
 aoS:GwC C 437 afN
 f286:GwC C 286 aai
 f297:GwC C 297 aeN
 f284:GwC C 284 ajc
def atF(k:Int):Nat->List Hd->Int
 |_,[]=>-1
 |i,h::r=>if h.k=k then i else atF k (i+1) r
theorem aaj(H:oq C)(l:List Hd)(e:Bool)(k:Int)(hl:l.length<=1000000):∀n i,n+i=l.length ->
 Il C ⟨[(5,.int .i64 i),(1,.int .u64 k),(0,.ro 8 (l.map eHd) e)],[],0⟩=some (.int .i64 (atF k i (l.drop i))):=by
 intro n;induction n with
 |zero=>
  intro i hi;have h1:l.drop i=[]:=qzx qqq;have h3:¬i<l.length:=by omega
  simp only[Il];rw[au BQ.eq_1];simp[au Qy.eq_1,h1,h3,atF]
 |succ n ih=>
  intro i hi;have h1:i<l.length:=by omega
  have:=ih (i+1) qqq;rw[drop_cons h1];simp only[Il]at this |-;rw[au BQ.eq_1];simp at this;by_cases c:l[i].k=k
  ·simp(disch:=omega) [h1,aK,c,atF]
  ·simp(disch:=omega) [h1,aK,c,atF,this]
theorem aeU(H:oq C)(l:List Hd)(e:Bool)(k:Int)(hl:l.length<=1000000):FnW C 436 [.ro 8 (l.map eHd) e,.int .u64 k]=some (.int .i64 (atF k 0 l)):=by have h:=aaj H l e k hl l.length 0 qqz;rw[aN H.aoL rfl];simp only[Il]at h;simp at h;simp[ah2,h]
def stF(h:Hd)(l:List En)(A:List Nat):Bool:=A.any λa=>match l[a]? with
 |some e=>decide (e.i.k=h.k)&&decide (e.i.t=h.t)
 |none=>false
theorem abP(H:oq C)(h:Hd)(l:List En)(e f:Bool)(A:List Nat)(hA:A.length<=1000000)(hb:∀a∈A,a<l.length):∀n i,n+i=A.length ->
 Hq C ⟨[(7,.int .i64 i),(3,.ptr 0 0 0),(2,.ro 1 (A.map eAt) f),(1,.ro 6 (l.map eEn) e)],[(0,.cells 8 [eHd h] true true)],1⟩=some (.int .i64 (if stF h l (A.drop i)=true then 1 else 0)):=by
 intro n;induction n with
 |zero=>
  intro i hi;have h1:A.drop i=[]:=qzx qqq;have h3:¬i<A.length:=by omega
  simp only[Hq];rw[au DV.eq_1];simp[au OG.eq_1,h1,h3,stF]
 |succ n ih=>
  intro i hi;have h1:i<A.length:=by omega
  have hai:=hb _ (qxq h1);have:=ih (i+1) qqq;have hs:stF h l (A.drop i)=((decide (l[A[i]].i.k=h.k)&&decide (l[A[i]].i.t=h.t))||stF h l (A.drop (i+1))):=by rw[drop_cons h1];simp only[stF,List.any_cons,qqj hai]
  rw[hs];simp only[Hq]at this |-;rw[au DV.eq_1];simp at this;by_cases c:l[A[i]].i.k=h.k
  ·by_cases c2:l[A[i]].i.t=h.t
   ·simp(disch:=omega) [h1,hai,aK,c,c2]
   ·simp(disch:=omega) [h1,hai,aK,c,c2,this]
  ·simp(disch:=omega) [h1,hai,aK,c,this]
theorem acB(H:oq C)(h:Hd)(l:List En)(e f:Bool)(A:List Nat)(hA:A.length<=1000000)(hb:∀a∈A,a<l.length) :
 FnW C 435 [.agg (eHd h),.ro 6 (l.map eEn) e,.ro 1 (A.map eAt) f]=some (.int .i64 (if stF h l A=true then 1 else 0)):=by
 have h1:=abP H h l e f A hA hb A.length 0 qqz;rw[aN H.apb rfl];simp only[Hq]at h1;simp at h1;simp[agc,h1]
def eY:List Hd->List Hd->Bool
 |[],[]=>true
 |a::l,b::r=>decide (a.k=b.k)&&decide (a.t=b.t)&&eqN a.n b.n&&eY l r
 |_,_=>false
theorem Ew:∀l r,eY l r=true->l.length=r.length
 |[],[],_=>rfl
 |a::l,b::r,h=>by simp only[eY,qwz]at h;simp[Ew l r h.2]
 |[],_::_,h=>by cases h
 |_::_,[],h=>by cases h
theorem adY(H:oq C)(a b:List Hd)(e f:Bool)(hl:a.length=b.length)(hb:a.length<=1000000)(hi:∀x∈a,zu x.n):∀n i,n+i=a.length ->
 IG C ⟨[(5,.int .i64 i),(1,.ro 8 (b.map eHd) f),(0,.ro 8 (a.map eHd) e)],[],0⟩=some (.int .i64 (if eY (a.drop i) (b.drop i)=true then 1 else 0)):=by
 intro n;induction n with
 |zero=>
  intro i hi';have h1:a.drop i=[]:=qzx qqq;have h2:b.drop i=[]:=qzx qqq;have h3:¬i<a.length:=by omega
  simp only[IG];rw[au Dq.eq_1];simp[au Ru.eq_1,h1,h2,h3,eY]
 |succ n ih=>
  intro i hi';have h1:i<a.length:=by omega
  have h2:i<b.length:=by omega
  have ht:=aeL H.toJA (hi _ (qxq h1)) b[i].n;have:=ih (i+1) qqq;rw[drop_cons h1,drop_cons h2];simp only[IG]at this |-;rw[au Dq.eq_1];simp at this;by_cases c1:a[i].k=b[i].k
  ·by_cases c2:a[i].t=b[i].t
   ·by_cases c3:eqN a[i].n b[i].n=true
    ·rw[qzq c3]at ht;simp(disch:=omega) [h1,h2,aK,c1,c2,c3,ht,eY,H.kk,this]
    ·rw[qwx c3]at ht;have c3:eqN a[i].n b[i].n=false:=by simpa using c3
     simp(disch:=omega) [h1,h2,aK,c1,c2,c3,ht,eY,H.kk]
   ·simp(disch:=omega) [h1,h2,aK,c1,c2,eY]
  ·simp(disch:=omega) [h1,h2,aK,c1,eY]
theorem UD(H:oq C)(a b:List Hd)(e f:Bool)(hb:a.length<=1000000)(hi:∀x∈a,zu x.n):FnW C 437 [.ro 8 (a.map eHd) e,.ro 8 (b.map eHd) f]=some (.int .i64 (if eY a b=true then 1 else 0)):=by
 rw[aN H.aoS rfl];by_cases hl:a.length=b.length
 ·have h1:=adY H a b e f hl hb hi a.length 0 qqz;simp only[IG]at h1;simp at h1;simp[afN,hl,h1]
 ·have:eY a b=false:=by
   cases h:eY a b
   ·rfl
   ·exact absurd (Ew a b h) hl
  simp[afN,hl,this]
def fA:List Pl->List Pl->Bool
 |[],[]=>true
 |a::l,b::r=>eY a.1 b.1&&fA l r
 |_,_=>false
theorem zY:∀l r,fA l r=true->l.length=r.length
 |[],[],_=>rfl
 |a::l,b::r,h=>by simp only[fA,qwz]at h;simp[zY l r h.2]
 |[],_::_,h=>by cases h
 |_::_,[],h=>by cases h
structure LW(l:List Hd):Prop where
 len:l.length<=1000000
 nd:∀x∈l,zu x.n
theorem aeC(H:oq C)(ra rb:List Hd)(ea eb:Bool)(a b:List Pl)(e f:Bool)(hl:a.length=b.length)(hb:a.length<=1000000)(hi:∀p∈a,LW p.1):∀n i,n+i=a.length ->
 IU C ⟨[(5,.int .i64 i),(3,.ptr 0 0 0),(2,.ptr 1 0 0)],[(0,.cells 2 [[.ro 8 (rb.map eHd) eb,.ro 1 (b.map ePl) f]] true true),(1,.cells 2 [[.ro 8 (ra.map eHd) ea,.ro 1 (a.map ePl) e]] true true)],2⟩=some (.int .i64 (if fA (a.drop i) (b.drop i)=true then 1 else 0)):=by
 intro n;induction n with
 |zero=>
  intro i hi';have h1:a.drop i=[]:=qzx qqq;have h2:b.drop i=[]:=qzx qqq;have h3:¬i<a.length:=by omega
  simp only[IU];rw[au Bj.eq_1];simp[au Ov.eq_1,h1,h2,h3,fA]
 |succ n ih=>
  intro i hi';have h1:i<a.length:=by omega
  have h2:i<b.length:=by omega
  have hh:=hi _ (qxq h1);have ht:=UD H a[i].1 b[i].1 a[i].2 b[i].2 hh.len hh.nd;have:=ih (i+1) qqq;rw[drop_cons h1,drop_cons h2];simp only[IU]at this |-;rw[au Bj.eq_1];simp at this;try simp at ht
  by_cases c1:eY a[i].1 b[i].1=true
  ·rw[qzq c1]at ht;simp(disch:=omega) [h1,h2,aK,c1,ht,fA,H.kk,this]
  ·rw[qwx c1]at ht;have c1:eY a[i].1 b[i].1=false:=by simpa using c1
   simp(disch:=omega) [h1,h2,aK,c1,ht,fA,H.kk]
theorem iY(H:oq C)(ra rb:List Hd)(ea eb:Bool)(a b:List Pl)(e f:Bool)(h0:LW ra)(hb:a.length<=1000000)(hi:∀p∈a,LW p.1) :
 FnW C 286 [aSt ra ea a e,aSt rb eb b f]=some (.int .i64 (if (eY ra rb&&fA a b)=true then 1 else 0)):=by
 have h1:=UD H ra rb ea eb h0.len h0.nd;rw[aN H.f286 rfl];try simp at h1
 by_cases c1:eY ra rb=true
 ·rw[qzq c1]at h1;by_cases hl:a.length=b.length
  ·have h2:=aeC H ra rb ea eb a b e f hl hb hi a.length 0 qqz;simp only[IU]at h2;simp at h2;simp[aai,H.kk,h1,c1,hl];simpa [hl]using h2
  ·have:fA a b=false:=by
    cases h:fA a b
    ·rfl
    ·exact absurd (zY a b h) hl
   simp[aai,H.kk,h1,c1,hl,this]
 ·rw[qwx c1]at h1;have c1:eY ra rb=false:=by simpa using c1
  simp[aai,H.kk,h1,c1]
def okS(l:List Hd):Bool:=l.all λh=>decide (cnt h.n≠0)
def jA:List Hd->Nat
 |[]=>0
 |h::r=>cnt h.n+jA r
def okL(L:List (List Hd)):Bool:=L.all okS
def lS:List (List Hd)->Nat
 |[]=>0
 |l::r=>jA l+lS r
def live(L:List (List Hd)):Int:=if okL L=true then 1+(lS L:Nat)else 0
theorem pF(l:List Hd)(L:List (List Hd)):okL (l::L)=(okS l&&okL L):=rfl
theorem adK{l:List Hd}(L:List (List Hd))(c:okS l=false):live (l::L)=0:=by simp[live,pF,c]
theorem agh{l:List Hd}(L:List (List Hd))(c:okS l=true):live (l::L)=if okL L=true then 1+((jA l:Nat):Int)+(lS L:Nat)else 0:=by simp[live,pF,c,lS,qmq]
theorem cnt_le(n:Nd):cnt n<=64:=by rw[Kw];split<;>omega
theorem yV:∀l:List Hd,jA l<=64*l.length
 |[]=>by simp[jA]
 |h::r=>by have:=cnt_le h.n;have:=yV r;simp only[jA,qQx];omega
section
variable (ra:List Hd)(ea:Bool)(ps:List Pl)(pe:Bool)
abbrev hpL:aI:=[(0,.cells 2 [[.ro 8 (ra.map eHd) ea,.ro 1 (ps.map ePl) pe]] true true)]
theorem aj3(H:oq C)(l:List Hd)(e:Bool)(i:Int)(hl:l.length<=1000000):∀m k,m+k=l.length->∀n:Int,0<=n->n+64*m<=1000000000000000 ->
 (okS (l.drop k)=false->ug C ⟨[(6,.int .i64 k),(5,.ro 8 (l.map eHd) e),(4,.int .i64 i),(3,.int .i64 n),(1,.ptr 0 0 0)],hpL ra ea ps pe,1⟩=some (.int .i64 0)) /\
 (okS (l.drop k)=true->ug C ⟨[(6,.int .i64 k),(5,.ro 8 (l.map eHd) e),(4,.int .i64 i),(3,.int .i64 n),(1,.ptr 0 0 0)],hpL ra ea ps pe,1⟩ =
  CK C 0 (aO [.tmp 2]) [.sq DR,.bk 0 ⟨true,[3],[]⟩,.sq D6] Bz ⟨[(4,.int .i64 i),(3,.int .i64 (n+(jA (l.drop k):Nat))),(1,.ptr 0 0 0)],hpL ra ea ps pe,1⟩):=by
 intro m;induction m with
 |zero=>
  intro k hk n h0 h1;have h2:l.drop k=[]:=qzx qqq;have h3:¬k<l.length:=by omega
  rw[h2];refine⟨λh=>by simp[okS]at h,λ_=>?_⟩;simp only[ug];rw[au yK.eq_1];simp[h3,jA]
 |succ m ih=>
  intro k hk n h0 h1;have h3:k<l.length:=by omega
  have hr1:=EM H.toOa l[k].n;have hr2:=yQ H.toOa l[k].n;have hc:=cnt_le l[k].n;have hm:aZ (bD (hpL ra ea ps pe) 15) l[k].n.c=some l[k].n.c:=l[k].n.akv _ 14;rw[drop_cons h3];by_cases c:cnt l[k].n=0
  ·rw[qzq c]at hr1;have ho:okS (l[k]::l.drop (k+1))=false:=by simp[okS,c]
   rw[ho];refine⟨λ_=>?_,λh=>by cases h⟩;simp only[ug];rw[au yK.eq_1];simp(disch:=omega) [h3,hr1,H.kk]
  ·rw[qwx c]at hr1;have ho:okS (l[k]::l.drop (k+1))=okS (l.drop (k+1)):=by simp[okS,c]
   have:=ih (k+1) qqq (n+(cnt l[k].n:Nat)) qqq qqq;rw[ho];simp only[jA,ug]at this |-;rw[au yK.eq_1];simp(disch:=omega) [h3,hr1,hr2,H.kk,aK];simp at this;refine⟨this.1,λq=>?_⟩;rw[this.2 q];simp[qmq]
theorem akU(H:oq C)(hps:∀p∈ps,p.1.length<=1000000)(hpl:ps.length<=1000000):∀m j,m+j=ps.length->∀n:Int,0<=n->n+64000000*m<=1000000000000000 ->
 Dy C ⟨[(4,.int .i64 (j:Nat)),(3,.int .i64 n),(1,.ptr 0 0 0)],hpL ra ea ps pe,1⟩=some (.int .i64 (if okL ((ps.drop j).map (·.1))=true then n+(lS ((ps.drop j).map (·.1)):Nat)else 0)):=by
 intro m;induction m with
 |zero=>
  intro j hj n h0 h1;have h2:ps.drop j=[]:=qzx qqq;have h3:¬j<ps.length:=by omega
  simp only[Dy];rw[au uT.eq_1];simp[au D6.eq_1,h2,h3,okL,lS]
 |succ m ih=>
  intro j hj n h0 h1;have h3:j<ps.length:=by omega
  have hl:=hps _ (qxq h3);have hc:=yV ps[j].1;obtain⟨i1,i2⟩:=aj3 ra ea ps pe H ps[j].1 ps[j].2 (j:Nat) hl ps[j].1.length 0 qqz n h0 qqq;rw[qjz]at i1 i2;rw[drop_cons h3];simp only[qvj,okL,qYj,lS];simp only[Dy,ug]at i1 i2 |-;rw[au uT.eq_1];have hj0:¬(j:Int)<0:=by omega
  cases c:okS ps[j].1
  ·have:=i1 c;simp at this;simp(disch:=omega) [h3,hj0,this]
  ·have:=i2 c;have h4:=ih (j+1) qqq (n+(jA ps[j].1:Nat)) qqq qqq;simp only[Dy,okL]at h4;simp at this h4;simp(disch:=omega) [h3,hj0,this,au Bz.eq_1,aK,h4,qmq]
end
theorem Na(H:oq C)(ra:List Hd)(ea:Bool)(ps:List Pl)(pe:Bool)(hra:ra.length<=1000000)(hps:∀p∈ps,p.1.length<=1000000)(hpl:ps.length<=1000):FnW C 297 [aSt ra ea ps pe]=some (.int .i64 (live (ra::ps.map (·.1)))):=by
 obtain⟨i1,i2⟩:=aj3 ra ea ps pe H ra ea (-1) hra ra.length 0 qqz 1 qqq qqq;have hc:=yV ra;rw[qjz]at i1 i2;rw[aN H.f297 rfl];simp only[ug]at i1 i2;by_cases c:okS ra=true
 rotate_left
 ·have c:okS ra=false:=by simpa using c
  have:=i1 c;rw[adK _ c];simp at this;have hng:(-1:Int)<(ps.length:Int):=by omega
  simp[aeN];rw[au uT.eq_1];simp(disch:=omega) [this,hng]
 ·have:=i2 c;have h4:=akU ra ea ps pe H hps qqq ps.length 0 qqz (1+(jA ra:Nat)) qqq qqq;rw[qjz]at h4;rw[agh _ c];generalize (if okL (ps.map (·.1))=true then 1+((jA ra:Nat):Int)+(lS (ps.map (·.1)):Nat)else 0)=Z at *;simp only[Dy]at h4;simp at this h4;have hng:(-1:Int)<(ps.length:Int):=by omega
  simp[aeN];rw[au uT.eq_1];simp(disch:=omega) [this,hng];rw[au Bz.eq_1];simp(disch:=omega) [aK,h4]
def iU(x:Nat):Nat->Nat->List Nat
 |_,0=>[]
 |i,m+1=>if x / 2 ^ i % 2=1 then i::iU x (i+1) m else iU x (i+1) m
theorem mW(x:Nat):∀m i,∀a∈iU x i m,i<=a/\a<i+m
 |0,_,a,h=>by simp[iU]at h
 |m+1,i,a,h=>by
  simp only[iU]at h;split at h
  ·rcases qjj.1 h with rfl | h
   ·omega
   ·have:=mW x m (i+1) a h;omega
  ·have:=mW x m (i+1) a h;omega
theorem qI(x:Nat):∀m i,(iU x i m).Nodup
 |0,_=>by simp[iU]
 |m+1,i=>by
  simp only[iU];split
  ·refine qoq.2 ⟨λh=>?_,qI x m (i+1)⟩;have:=mW x m (i+1) i h;omega
  ·exact qI x m (i+1)
theorem pJ(x:Nat):∀m i,(iU x i m).length<=m
 |0,_=>by simp[iU]
 |m+1,i=>by have:=pJ x m (i+1);simp only[iU];split<;>simp<;>omega
theorem aeI(x i:Nat)(hi:i<16):((x:Int).fdiv (2 ^ min i IntKind.u16.bits)).tmod 2=((x / 2 ^ i % 2:Nat):Int):=by
 have h1:min i IntKind.u16.bits=i:=by show min i 16=i;omega
 rw[h1];have h2:((x:Int).fdiv (2 ^ i))=((x / 2 ^ i:Nat):Int):=by rw[Int.fdiv_eq_ediv_of_nonneg _ (Int.le_of_lt (Int.pow_pos qqq))];rw[Int.natCast_ediv,Int.natCast_pow];rfl
 rw[h2];rfl
theorem aaW(H:oq C)(x n:Nat)(hx:x<=65535)(hn:n<=1000000):∀m i,m+i=min n 16->∀G:List Nat,G.length<=i ->
 H8 C ⟨[(6,.int .i64 i),(5,.sl 0 1 0 G.length G.length false),(1,.int .i64 n),(0,.int .u16 x)],[(0,.cells 1 (G.map eAt) true true)],1⟩=some (.ro 1 ((G++iU x i m).map eAt) false):=by
 intro m;induction m with
 |zero=>
  intro i hi G hG;have hT:List.take G.length (List.map eAt G)=List.map eAt G:=qxz qqz;simp only[H8];rw[au Bq.eq_1];by_cases c:(i:Int)<n
  ·have c2:¬(i:Int)<16:=by omega
   simp[c,c2,au Ij.eq_1,iU,hT]
  ·simp[c,au Ij.eq_1,iU,hT]
 |succ m ih=>
  intro i hi G hG;have c:(i:Int)<n:=by omega
  have c2:(i:Int)<16:=by omega
  simp only[iU];simp only[H8]at ih |-;rw[au Bq.eq_1];by_cases cb:x / 2 ^ i % 2=1
  ·have:=ih (i+1) qqq (G++[i]) qqx;have hft:(G.length+1)*9<=35184372088832:=by omega
   rw[qzq cb];simp at this;simp(disch:=omega) [c,c2,aK,aeI,cb,hft,this]
  ·have:=ih (i+1) qqq G qqq;have cb0:x / 2 ^ i % 2=0:=by omega
   rw[qwx cb];simp at this;simp(disch:=omega) [c,c2,aK,aeI,cb0,this]
theorem xP(H:oq C)(x n:Nat)(hx:x<=65535)(hn:n<=1000000):FnW C 284 [.int .u16 x,.int .i64 n]=some (.ro 1 ((iU x 0 (min n 16)).map eAt) false):=by have:=aaW H x n hx hn (min n 16) 0 rfl [] qqz;rw[aN H.f284 rfl];simp only[H8]at this;simp at this;simp[ajc,this]
end Go.D
end
section
namespace Go.Pw
open Go Go.Pav
theorem af6{α:Type}(l:List (Nat×α))(k:Nat)(x:α)(j:Nat):Pav.get (Pav.put l k x) j=if k=j then some x else Pav.get l j:=get_put l k x j
theorem ak{α:Type}(l:List (Nat×α))(k:Nat)(x:α):Pav.get (Pav.put l k x) k=some x:=by rw[af6,qzq rfl]
theorem aj{α:Type}{l:List (Nat×α)}{k:Nat}{x:α}{j:Nat}(h:k≠j):Pav.get (Pav.put l k x) j=Pav.get l j:=by rw[af6,qwx h]
theorem bH{α:Type}(l:List (Nat×α))(k:Nat)(x y:α):Pav.put (Pav.put l k x) k y=Pav.put l k y:=by
 induction l with
 |nil=>simp[Pav.put]
 |cons a r ih=>
  obtain⟨j,v⟩:=a;simp only[Pav.put];by_cases h1:j=k
  ·simp[h1,Pav.put]
  ·by_cases h2:k<=j
   ·simp[h1,h2,Pav.put]
   ·simp[h1,h2,Pav.put,ih]
theorem amk{α:Type}(l:List (Nat×α))(k:Nat)(j:Nat):Pav.get (Pav.del l k) j=if k=j then none else Pav.get l j:=nC l k j
theorem aF{α:Type}{l:List (Nat×α)}{k:Nat}{j:Nat}(h:k≠j):Pav.get (Pav.del l k) j=Pav.get l j:=by rw[amk,qwx h]
theorem ltF{a b:Nat}(h:a<b):(a=b)=False:=zQz qqq
theorem gtF{a b:Nat}(h:b<a):(a=b)=False:=zQz qqq
theorem neF{a b:Nat}(h:a≠b):(a=b)=False:=zQz h
structure Rw where
 i:Nat
 len:Nat
 cap:Nat
 es:List (List AV)
abbrev Rw.of(es:List (List AV)):Rw:=⟨0,es.length,es.length,es⟩
def Rw.c(w:Rw):List (List AV):=(w.es.drop w.i).take w.len
def Rw.v(z b:Nat)(w:Rw):AV:=match w.es with
 |[]=>.ro z [] true
 |_::_=>if w.cap=0 then .ro z [] false else .sl b z w.i w.len w.cap false
def Rw.d(z:Nat)(w:Rw):AV:=match w.es with
 |[]=>.ro z [] true
 |_::_=>.ro z w.c false
structure Rw.Ok(w:Rw):Prop where
 le:w.i+w.len<=w.es.length
 c0:w.cap=0->w.len=0
structure Nst(z:Nat)(h:aI)(lo hi:Nat)(id:Nat->Nat)(cs:List (List AV))(W:List Rw):Prop where
 len:cs.length=W.length
 bd:∀i,i<W.length->lo<=id i/\id i<hi
 inj:∀i j,i<W.length->j<W.length->id i=id j->i=j
 cell:∀(i:Nat) (w:Rw),W[i]?=some w->cs[i]?=some [w.v z (id i)]
 blk:∀(i:Nat) (w:Rw),W[i]?=some w->w.es≠[]->Pav.get h (id i)=some (.cells z w.es true true)
 ok:∀w,w∈W->w.Ok
section
variable {z:Nat}{h h':aI}{lo hi hi':Nat}{id:Nat->Nat}{cs:List (List AV)}{W:List Rw}
theorem Nst.nil:Nst z h lo hi id [] []:=⟨rfl,λi h=>by simp at h,λi j h=>by simp at h,λi w h=>by simp at h,λi w h=>by simp at h,λw h=>by simp at h⟩
theorem Nst.mono(R:Nst z h lo hi id cs W)(hh:hi<=hi')(hg:∀j,lo<=j->j<hi->Pav.get h' j=Pav.get h j):Nst z h' lo hi' id cs W where
 len:=R.len
 bd i hi:=⟨(R.bd i hi).1,qZx (R.bd i hi).2 hh⟩
 inj:=R.inj
 cell:=R.cell
 blk i w hw hn:=by have hl:i<W.length:=(qzj.1 hw).1;rw[hg _ (R.bd i hl).1 (R.bd i hl).2];exact R.blk i w hw hn
 ok:=R.ok
theorem Nst.snoc(R:Nst z h lo hi id cs W)(b:Nat)(hb:hi<=b)(hb2:lo<=b)(hh:b<hi')(w:Rw)(hw:w.Ok)
 (hg:∀j,lo<=j->j<hi->Pav.get h' j=Pav.get h j) (hn:w.es≠[]->Pav.get h' b=some (.cells z w.es true true)) :
 Nst z h' lo hi' (λi=>if i=W.length then b else id i) (cs++[[w.v z b]]) (W++[w]):=by
 have hid:∀i,i<W.length->(if i=W.length then b else id i)=id i:=λi hi=>qwx qqq;have hlt:∀i,i<(W++[w]).length->i=W.length\/i<W.length:=by intro i hi;simp at hi;omega
 refine⟨by simp[R.len],?_,?_,?_,?_,?_⟩
 ·intro i hi;rcases hlt i hi with q | q
  ·rw[qzq q];exact⟨hb2,hh⟩
  ·rw[hid i q];exact⟨(R.bd i q).1,by have:=(R.bd i q).2;omega⟩
 ·intro i j hi hj he;rcases hlt i hi with q | q<;>rcases hlt j hj with q' | q'
  ·omega
  ·rw[qzq q,hid j q']at he;have:=(R.bd j q').2;omega
  ·rw[qzq q',hid i q]at he;have:=(R.bd i q).2;omega
  ·rw[hid i q,hid j q']at he;exact R.inj i j q q' he
 ·intro i x hx;have hi:i<(W++[w]).length:=(qzj.1 hx).1;rcases hlt i hi with q | q
  ·subst q;rw[qzq rfl];simp at hx;subst hx;rw[<- R.len];simp
  ·rw[hid i q];rw[qJj q]at hx;rw[qJj (by rw[R.len];exact q)];exact R.cell i x hx
 ·intro i x hx hne;have hi:i<(W++[w]).length:=(qzj.1 hx).1;rcases hlt i hi with q | q
  ·subst q;rw[qzq rfl];simp at hx;subst hx;exact hn hne
  ·rw[hid i q,hg _ (R.bd i q).1 (R.bd i q).2];rw[qJj q]at hx;exact R.blk i x hx hne
 ·intro x hx;rcases qWj.1 hx with q | q
  ·exact R.ok x q
  ·simp at q;subst q;exact hw
theorem Nst.set(R:Nst z h lo hi id cs W)(k:Nat)(hk:k<W.length)(b:Nat)(hb:b=id k\/hi<=b)(hb2:lo<=b)(hh:b<hi')(hhi:hi<=hi')(w:Rw)(hw:w.Ok)
 (hg:∀j,j<W.length->j≠k->Pav.get h' (id j)=Pav.get h (id j)) (hn:w.es≠[]->Pav.get h' b=some (.cells z w.es true true)) :
 Nst z h' lo hi' (λi=>if i=k then b else id i) (cs.set k [w.v z b]) (W.set k w):=by
 refine⟨by simp[R.len],?_,?_,?_,?_,?_⟩
 ·intro i hi;rw[q0x]at hi;by_cases q:i=k
  ·rw[qzq q];exact⟨hb2,hh⟩
  ·rw[qwx q];exact⟨(R.bd i hi).1,by have:=(R.bd i hi).2;omega⟩
 ·intro i j hi hj he;rw[q0x]at hi hj;have hne:∀j,j<W.length->j≠k->b≠id j:=by
   intro j hj q e;rcases hb with q2 | q2
   ·exact q (R.inj j k hj hk (by rw[<- e,q2]))
   ·have:=(R.bd j hj).2;omega
  by_cases q:i=k<;>by_cases q':j=k
  ·omega
  ·rw[qzq q,qwx q']at he;exact absurd he (hne j hj q')
  ·rw[qwx q,qzq q']at he;exact absurd he.symm (hne i hi q)
  ·rw[qwx q,qwx q']at he;exact R.inj i j hi hj he
 ·intro i x hx;by_cases q:i=k
  ·subst q;rw[qez hk]at hx;cases hx;rw[qzq rfl,qez (by rw[R.len];exact hk)]
  ·rw[qwx q];rw[qsj qqq]at hx |-;exact R.cell i x hx
 ·intro i x hx hne;by_cases q:i=k
  ·subst q;rw[qez hk]at hx;cases hx;rw[qzq rfl];exact hn hne
  ·rw[qwx q];rw[qsj qqq]at hx;have hi:i<W.length:=(qzj.1 hx).1;rw[hg i hi q];exact R.blk i x hx hne
 ·intro x hx;rcases qXx hx with q | q
  ·exact R.ok x q
  ·subst q;exact hw
theorem Nst.alX(R:Nst z h lo hi id cs W)(n:Nat){i:Nat}{w:Rw}(hw:W[i]?=some w):aZ (bD h (n+2)) [w.v z (id i)]=some [w.d z]:=by
 have hb:=R.blk i w hw;have hok:=(R.ok w (qwj hw)).le;have hc0:=(R.ok w (qwj hw)).c0;unfold Rw.v Rw.d;cases he:w.es with
 |nil=>simp[aZ,ob,om]
 |cons a r=>
  simp only;have:=hb (by simp[he]);by_cases hcap:w.cap=0
  ·rw[qzq hcap];have hl0:=hc0 hcap;simp[aZ,ob,om,Rw.c,hl0]
  rw[qwx hcap];simp only[aZ,ji,this,pK];have hl:((w.es.drop w.i).take w.len).length=w.len:=by rw[qbx,qbj];omega
  simp[hl,og,ob,Rw.c]
theorem Nst.frz(R:Nst z h lo hi id cs W)(n:Nat):aZ (aZ (bD h (n+2))) cs=some (W.map λw=>[w.d z]):=by
 have key:∀(cs:List (List AV)) (W:List Rw) (id:Nat->Nat),cs.length=W.length->(∀(i:Nat) (w:Rw),W[i]?=some w->∃c,cs[i]?=some c/\aZ (bD h (n+2)) c=some [w.d z])->aZ (aZ (bD h (n+2))) cs=some (W.map λw=>[w.d z]):=by
  intro cs;induction cs with
  |nil=>intro W id hl _;cases W with
   |nil=>rfl
   |cons _ _=>simp at hl
  |cons c cs ih=>
   intro W id hl hc;cases W with
   |nil=>simp at hl
   |cons w W=>obtain⟨c',h1,h2⟩:=hc 0 w rfl;simp at h1;subst h1;have:=ih W (λi=>id (i+1)) (by simpa using hl) (λi w hw=>by simpa using hc (i+1) w (by simpa using hw));simp only[aZ,h2,this,ob,om,qvj]
 exact key cs W id R.len λi w hw=>⟨_,R.cell i w hw,R.alX n hw⟩
theorem Nst.flat(R:Nst z h lo hi id cs W)(h0:∀w∈W,w.es=[]):cs=W.map λw=>[w.d z]:=by
 apply zqj;intro i;rw[qQq];cases hw:W[i]? with
 |none=>rw[qtx]at hw;rw[qtx.2 (by rw[R.len];exact hw)];rfl
 |some w=>rw[R.cell i w hw];have:=h0 w (qwj hw);simp[Rw.v,Rw.d,this]
theorem Rw.anN(z:Nat)(w:Rw):isC (w.d z)=true:=by unfold Rw.d;split<;>rfl
theorem Nst.pK(R:Nst z h lo hi id cs W)(n:Nat){mu dt ex:Bool}(hd:dt=true->∀w∈W,w.es=[]) :
 Pw.pK h (n+2) 1 0 W.length W.length ex (some (.cells 1 cs mu dt))=some (.ro 1 (W.map λw=>[w.d z]) ex):=by
 have hl:=R.len;cases dt with
 |true=>have:=R.flat (hd rfl);simp only[Pw.pK,qjz];rw[qxz qqq,this];simp[og]
 |false=>
  simp only[Pw.pK,qjz];rw[qxz qqq,R.frz n];have:((W.map λw=>[w.d z]).all λe=>e.all isC)=true:=by rw[qkz];intro x hx;obtain⟨w,_,rfl⟩:=qkx.1 hx;simp only[qYj,q7z,Rw.anN,qhj]
  simp only[ob,qQj,qlj,this,qhj,og,q4q]
theorem ex3{x:Option (AV×aI×Nat)}{P:AV->aI->Nat->Prop}{v:AV}{h:aI}{n:Nat}(h1:x=some (v,h,n))(h2:P v h n):∃v h n,x=some (v,h,n)/\P v h n:=⟨v,h,n,h1,h2⟩
end
structure kG{α:Type}(P:Option dD->Nat->AV->α->Prop)(h:aI)(lo hi:Nat)(id:Nat->Nat)(cs:List (List AV))(D:List α):Prop where
 len:cs.length=D.length
 bd:∀i,i<D.length->lo<=id i/\id i<hi
 inj:∀i j,i<D.length->j<D.length->id i=id j->i=j
 row:∀(i:Nat) (d:α),D[i]?=some d->∃v,cs[i]?=some [v]/\P (Pav.get h (id i)) (id i) v d
section
variable {α:Type}{P Q:Option dD->Nat->AV->α->Prop}{h h':aI}{lo hi hi':Nat}{id:Nat->Nat}{cs:List (List AV)}{D:List α}
theorem kG.nil:kG P h lo hi id [] []:=⟨rfl,λi h=>by simp at h,λi j h=>by simp at h,λi w h=>by simp at h⟩
theorem kG.weak(R:kG P h lo hi id cs D)(hq:∀o b v d,P o b v d->Q o b v d):kG Q h lo hi id cs D :=⟨R.len,R.bd,R.inj,λi d hd=>by obtain⟨v,h1,h2⟩:=R.row i d hd;exact⟨v,h1,hq _ _ _ _ h2⟩⟩
theorem kG.mono(R:kG P h lo hi id cs D)(hh:hi<=hi')(hg:∀j,j<D.length->Pav.get h' (id j)=Pav.get h (id j)):kG P h' lo hi' id cs D where
 len:=R.len
 bd i hi:=⟨(R.bd i hi).1,qZx (R.bd i hi).2 hh⟩
 inj:=R.inj
 row i d hd:=by have hl:i<D.length:=(qzj.1 hd).1;rw[hg i hl];exact R.row i d hd
theorem kG.snoc(R:kG P h lo hi id cs D)(b:Nat)(hb:hi<=b)(hb2:lo<=b)(hh:b<hi')(v:AV)(d:α)
 (hg:∀j,j<D.length->Pav.get h' (id j)=Pav.get h (id j)) (hp:P (Pav.get h' b) b v d) :
 kG P h' lo hi' (λi=>if i=D.length then b else id i) (cs++[[v]]) (D++[d]):=by
 have hid:∀i,i<D.length->(if i=D.length then b else id i)=id i:=λi hi=>qwx qqq;have hlt:∀i,i<(D++[d]).length->i=D.length\/i<D.length:=by intro i hi;simp at hi;omega
 refine⟨by simp[R.len],?_,?_,?_⟩
 ·intro i hi;rcases hlt i hi with q | q
  ·rw[qzq q];exact⟨hb2,hh⟩
  ·rw[hid i q];exact⟨(R.bd i q).1,by have:=(R.bd i q).2;omega⟩
 ·intro i j hi hj he;rcases hlt i hi with q | q<;>rcases hlt j hj with q' | q'
  ·omega
  ·rw[qzq q,hid j q']at he;have:=(R.bd j q').2;omega
  ·rw[qzq q',hid i q]at he;have:=(R.bd i q).2;omega
  ·rw[hid i q,hid j q']at he;exact R.inj i j q q' he
 ·intro i x hx;have hi:i<(D++[d]).length:=(qzj.1 hx).1;rcases hlt i hi with q | q
  ·subst q;rw[qzq rfl];simp at hx;subst hx;refine⟨v,?_,hp⟩;rw[<- R.len];simp
  ·rw[hid i q];rw[qJj q]at hx;rw[qJj (by rw[R.len];exact q),hg i q];exact R.row i x hx
theorem kG.set(R:kG P h lo hi id cs D)(k:Nat)(hk:k<D.length)(b:Nat)(hb:b=id k\/hi<=b)(hb2:lo<=b)(hh:b<hi')(hhi:hi<=hi')(v:AV)(d:α)
 (hg:∀j,j<D.length->j≠k->Pav.get h' (id j)=Pav.get h (id j)) (hp:P (Pav.get h' b) b v d) :
 kG P h' lo hi' (λi=>if i=k then b else id i) (cs.set k [v]) (D.set k d):=by
 refine⟨by simp[R.len],?_,?_,?_⟩
 ·intro i hi;rw[q0x]at hi;by_cases q:i=k
  ·rw[qzq q];exact⟨hb2,hh⟩
  ·rw[qwx q];exact⟨(R.bd i hi).1,by have:=(R.bd i hi).2;omega⟩
 ·intro i j hi hj he;rw[q0x]at hi hj;have hne:∀j,j<D.length->j≠k->b≠id j:=by
   intro j hj q e;rcases hb with q2 | q2
   ·exact q (R.inj j k hj hk (by rw[<- e,q2]))
   ·have:=(R.bd j hj).2;omega
  by_cases q:i=k<;>by_cases q':j=k
  ·omega
  ·rw[qzq q,qwx q']at he;exact absurd he (hne j hj q')
  ·rw[qwx q,qzq q']at he;exact absurd he.symm (hne i hi q)
  ·rw[qwx q,qwx q']at he;exact R.inj i j hi hj he
 ·intro i x hx;by_cases q:i=k
  ·subst q;rw[qez hk]at hx;cases hx;rw[qzq rfl];exact⟨v,qez (by rw[R.len];exact hk),hp⟩
  ·rw[qwx q];rw[qsj qqq]at hx;rw[qsj qqq];have hi:i<D.length:=(qzj.1 hx).1;rw[hg i hi q];exact R.row i x hx
theorem kG.frz{z:Nat}{enc:α->List (List AV)}(R:kG P h lo hi id cs D)(n:Nat)(hf:∀b v d,P (Pav.get h b) b v d->∃ex,bD h (n+2) v=some (.ro z (enc d) ex)) :
 ∃ps:List (α×Bool),ps.map (·.1)=D/\aZ (aZ (bD h (n+2))) cs=some (ps.map λp=>[.ro z (enc p.1) p.2]):=by
 have key:∀(cs:List (List AV)) (D:List α),cs.length=D.length->(∀(i:Nat) (d:α),D[i]?=some d->∃v ex,cs[i]?=some [v]/\bD h (n+2) v=some (.ro z (enc d) ex)) ->
  ∃ps:List (α×Bool),ps.map (·.1)=D/\aZ (aZ (bD h (n+2))) cs=some (ps.map λp=>[.ro z (enc p.1) p.2]):=by
  intro cs;induction cs with
  |nil=>intro D hl _;cases D with
   |nil=>exact⟨[],rfl,rfl⟩
   |cons _ _=>simp at hl
  |cons c cs ih=>
   intro D hl hc;cases D with
   |nil=>simp at hl
   |cons d D=>obtain⟨v,ex,h1,h2⟩:=hc 0 d rfl;simp at h1;subst h1;obtain⟨ps,h3,h4⟩:=ih D (by simpa using hl) (λi w hw=>by simpa using hc (i+1) w (by simpa using hw));exact⟨(d,ex)::ps,by simp[h3],by simp only[aZ,h2,h4,ob,om,qvj]⟩
 exact key cs D R.len λi d hd=>by obtain⟨v,h1,h2⟩:=R.row i d hd;obtain⟨ex,h3⟩:=hf _ _ _ h2;exact⟨v,ex,h1,h3⟩
theorem kG.pK{z:Nat}{enc:α->List (List AV)}(R:kG P h lo hi id cs D)(n:Nat)(hf:∀b v d,P (Pav.get h b) b v d->∃ex,bD h (n+2) v=some (.ro z (enc d) ex)){mu:Bool}{cap:Nat}{ex:Bool} :
 ∃(ps:List (α×Bool)) (pe:Bool),ps.map (·.1)=D/\Pw.pK h (n+2) 1 0 D.length cap ex (some (.cells 1 cs mu false))=some (.ro 1 (ps.map λp=>[.ro z (enc p.1) p.2]) pe):=by
 obtain⟨ps,h1,h2⟩:=R.frz n hf;refine⟨ps,ex&&decide (cap=D.length),h1,?_⟩;have hl:=R.len;have hpl:ps.length=D.length:=by rw[<- h1];simp
 simp only[Pw.pK,qjz];rw[qxz qqq,h2];have:((ps.map λp=>[AV.ro z (enc p.1) p.2]).all λe=>e.all isC)=true:=by rw[qkz];intro x hx;obtain⟨w,_,rfl⟩:=qkx.1 hx;rfl
 simp only[ob,qQj,hpl,qlj,this,qhj,og]
end
end Go.Pw
end
section
namespace Go.D
open Go Go.Pav Go.Pw P
set_option maxHeartbeats 1000000
attribute [-simp] List.getElem_cons_drop
variable {C:aJ}
abbrev eHs(l:List Hd):List (List AV):=l.map eHd
def nM(o:Option dD)(b:Nat)(v:AV)(d:List Hd):Prop :=(d=[]/\v=.sl b 8 0 0 0 true/\o=some (.cells 8 [] true true))\/(d≠[]/\v=.sl b 8 0 d.length d.length false/\o=some (.cells 8 (eHs d) true true))
def jO(o:Option dD)(b:Nat)(v:AV)(d:List Hd):Prop :=∃cap ex es,v=.sl b 8 0 d.length cap ex/\d.length<=cap/\d.length<=es.length/\es.take d.length=d/\o=some (.cells 8 (eHs es) true true)
theorem nM.any{o:Option dD}{b:Nat}{v:AV}{d:List Hd}(h:nM o b v d):jO o b v d:=by
 rcases h with⟨rfl,h1,h2⟩|⟨h0,h1,h2⟩
 ·exact⟨0,true,[],by simpa using h1,by simp,by simp,by simp,by simpa using h2⟩
 ·exact⟨d.length,false,d,h1,qxx _,qxx _,by simp,h2⟩
theorem jO.frz{h:aI}{b:Nat}{v:AV}{d:List Hd}(q:jO (Pav.get h b) b v d)(n:Nat):∃ex,bD h (n+2) v=some (.ro 8 (eHs d) ex):=by
 obtain⟨cap,ex,es,rfl,h1,h2,h3,h4⟩:=q;refine⟨ex&&decide (cap=d.length),?_⟩;have h5:List.take d.length (eHs es)=eHs d:=by rw[<- q4j,h3]
 rw[ji,h4];simp only[Pw.pK,qjz,h5,qQj,qlj,og]
structure CpI(ra:List Hd)(ea:Bool)(ps:List Pl)(pe:Bool)(Rv:AV)(q rr bx lo:Nat)(i:Nat)(h0 h:aI)(next:Nat)(cs:List (List AV))(pb:Nat)(id:Nat->Nat)(dq:Bool):Prop where
 R:kG nM h lo next id cs ((ps.take i).map (·.1))
 gq:Pav.get h q=some (.cells 2 [[Rv,if i=0 then .ro 1 [] true else .sl pb 1 0 i i false]] true dq)
 gp:i≠0->Pav.get h pb=some (.cells 1 cs true false)
 pl:i≠0->lo<=pb/\pb<next/\∀j,j<i->id j≠pb
 gb:Pav.get h bx=some (.cells 2 [[.ro 8 (ra.map eHd) ea,.ro 1 (ps.map ePl) pe]] true true)
 gr:Pav.get h rr=some (.cells 2 [[.ro 8 [] true,.ro 1 [] true]] true true)
 lt:q<lo/\rr<lo/\bx<lo/\q≠rr/\q≠bx/\rr≠bx/\lo<=next
 un:∀j,j<lo->j≠q->Pav.get h j=Pav.get h0 j
def CpP(ps:List Pl)(Rv:AV)(q rr lo next:Nat)(h0:aI)(v:AV)(h':aI)(n':Nat):Prop :=
 ∃pb cs id,v=.agg [Rv,.sl pb 1 0 ps.length ps.length false]/\kG nM h' lo n' id cs (ps.map (·.1))/\Pav.get h' pb=some (.cells 1 cs true false)/\lo<=pb/\pb<n'/\(∀j,j<ps.length->id j≠pb)/\next<=n' /\
  ∀j,j<lo->j≠q->j≠rr->Pav.get h' j=Pav.get h0 j
theorem aaX(base:Nat)(ra:List Hd)(ea:Bool)(ps:List Pl)(pe:Bool)(q rr bx lo:Nat)(h0:aI)(hps:ps.length<=1000)(hpos:0<ps.length)(hr:∀p∈ps,p.1.length<=1000000):∀m i,m+i=ps.length->∀(h:aI) (next:Nat) (cs:List (List AV)) (pb:Nat) (id:Nat->Nat) (dq:Bool),
 CpI ra ea ps pe (.ro 8 [] true) q rr bx lo i h0 h next cs pb id dq ->
 ∃v h' n',CK C base (gX [.cell 2 2 true]) [.sq He,.bk 0 ⟨true,[3,2],[(9999,65537)]⟩,.sq Bf] rG ⟨[(4,.int .i64 i),(3,.ptr q 0 0),(2,.ptr rr 0 0),(1,.ptr bx 0 0)],h,next⟩ =
  some (v,h',n')/\CpP ps (.ro 8 [] true) q rr lo next h0 v h' n':=by
 intro m;induction m with
 |zero=>
  intro i hi h next cs pb id dq T
  have h3:¬i<ps.length:=by omega
  have hine:i≠0:=by omega
  have hie:i=ps.length:=by omega
  have R:=T.R;have gq:=T.gq;have gp:=T.gp hine;have pl:=T.pl hine;have lt:=T.lt;rw[qwx hine]at gq;rw[qxz qqq]at R;subst hie;rw[au rG.eq_1];apply ex3
  ·simp(disch:=omega) [T.gb,h3,au Bf.eq_1,gq,T.gr,ak,aj];exact⟨rfl,rfl,rfl⟩
  ·refine⟨pb,cs,id,rfl,R.mono qqq (λj hj=>by have:=R.bd j hj;rw[aj qqq]),by rw[aj qqq];exact gp,pl.1,by omega,pl.2.2,by omega,λj h1 h2 h3=>?_⟩;rw[aj (qYx h3)];exact T.un j h1 h2
 |succ m ih=>
  intro i hi h next cs pb id dq T
  have h3:i<ps.length:=by omega
  have hri:=hr _ (qxq h3);have htk:ps.take (i+1)=ps.take i++[ps[i]]:=by rw[qZj h3]
  have htm:(ps.take (i+1)).map (·.1)=(ps.take i).map (·.1)++[ps[i].1]:=by rw[htk,qWx];rfl
  have R:=T.R;have gq:=T.gq;have lt:=T.lt;have hlen:((ps.take i).map (·.1)).length=i:=by simp;omega
  have hcl:cs.length=i:=by rw[R.len,hlen]
  rw[au rG.eq_1];by_cases c:ps[i].1=[]
  ·by_cases c0:i=0
   ·subst c0;obtain rfl:cs=[]:=qZq.1 hcl;simp at gq;have key:CpI ra ea ps pe (.ro 8 [] true) q rr bx lo (0+1) h0 (put (put (put (put h (next+7) (.cells 8 [] true true)) (next+14) (.cells 1 [[.sl (next+7) 8 0 0 0 true]] true false)) (next+15) (.cells 1 ([]++[[.sl (next+7) 8 0 0 0 true]]) true false)) q (.cells 2 [[(.ro 8 [] true),.sl (next+15) 1 0 (0+1) (0+1) false]] true false)) (next+21) ([]++[[.sl (next+7) 8 0 0 0 true]]) (next+15) (λj=>if j=((ps.take 0).map (·.1)).length then next+7 else id j) false:=by
     refine⟨by rw[htm];exact R.snoc (next+7) qqq qqq qqq _ _ (λj hj=>by have:=R.bd j hj;rw[hlen]at hj;simp(disch:=omega)only[ak,aj,aF]) (.inl ⟨c,rfl,by simp(disch:=omega)only[ak,aj,aF]⟩),?_,λ_=>?_,λ_=>⟨by omega,by omega,λj hj=>?_⟩,?_,?_,by omega,λj h1 h2=>?_⟩
     ·rw[qwx qqq,ak]
     ·simp(disch:=omega)only[ak,aj,aF]
     ·rw[hlen];split
      ·omega
      ·have:=R.bd j qqq;omega
     ·simp(disch:=omega)only[ak,aj,aF];exact T.gb
     ·simp(disch:=omega)only[ak,aj,aF];exact T.gr
     ·rw[<- T.un j h1 h2];simp(disch:=omega)only[ak,aj,aF]
    obtain⟨v,h',n',e1,pb',cs',id',e2,e3,e4,e5,e6,e7,e8,e9⟩:=ih (0+1) qqq _ _ _ _ _ _ key;refine⟨v,h',n',?_,pb',cs',id',e2,e3,e4,e5,e6,e7,by omega,e9⟩;simp(disch:=omega) [T.gb,h3,gq,ak,aj,aF,c,aK,fits,ltF,gtF,neF];simpa using e1
   ·rw[qwx c0]at gq;have gp:=T.gp c0;have pl:=T.pl c0;have hft:(i+1)*25<=35184372088832:=by omega
    have key:CpI ra ea ps pe (.ro 8 [] true) q rr bx lo (i+1) h0 (put (put (del (put (put h (next+7) (.cells 8 [] true true)) (next+14) (.cells 1 [[.sl (next+7) 8 0 0 0 true]] true false)) pb) (next+15) (.cells 1 (cs++[[.sl (next+7) 8 0 0 0 true]]) true false)) q (.cells 2 [[(.ro 8 [] true),.sl (next+15) 1 0 (i+1) (i+1) false]] true false)) (next+21) (cs++[[.sl (next+7) 8 0 0 0 true]]) (next+15) (λj=>if j=((ps.take i).map (·.1)).length then next+7 else id j) false:=by
     refine⟨by rw[htm];exact R.snoc (next+7) qqq qqq qqq _ _ (λj hj=>by have:=R.bd j hj;rw[hlen]at hj;have:=pl.2.2 j qqq;simp(disch:=omega)only[ak,aj,aF]) (.inl ⟨c,rfl,by simp(disch:=omega)only[ak,aj,aF]⟩),?_,λ_=>?_,λ_=>⟨by omega,by omega,λj hj=>?_⟩,?_,?_,by omega,λj h1 h2=>?_⟩
     ·rw[qwx qqq,ak]
     ·simp(disch:=omega)only[ak,aj,aF]
     ·rw[hlen];split
      ·omega
      ·have:=R.bd j qqq;omega
     ·simp(disch:=omega)only[ak,aj,aF];exact T.gb
     ·simp(disch:=omega)only[ak,aj,aF];exact T.gr
     ·rw[<- T.un j h1 h2];simp(disch:=omega)only[ak,aj,aF]
    obtain⟨v,h',n',e1,pb',cs',id',e2,e3,e4,e5,e6,e7,e8,e9⟩:=ih (i+1) qqq _ _ _ _ _ _ key;refine⟨v,h',n',?_,pb',cs',id',e2,e3,e4,e5,e6,e7,by omega,e9⟩;simp(disch:=omega) [T.gb,h3,gq,ak,aj,aF,c,aK,fits,ltF,gtF,neF,gp,hft,hcl];simpa using e1
  ·have hft2:ps[i].1.length*121<=35184372088832:=by omega
   by_cases c0:i=0
   ·subst c0;obtain rfl:cs=[]:=qZq.1 hcl;simp at gq;have key:CpI ra ea ps pe (.ro 8 [] true) q rr bx lo (0+1) h0 (put (put (put (put (put h (next+7) (.cells 8 [] true true)) (next+13) (.cells 8 (ps[0].1.map eHd) true true)) (next+14) (.cells 1 [[.sl (next+13) 8 0 ps[0].1.length ps[0].1.length false]] true false)) (next+15) (.cells 1 ([]++[[.sl (next+13) 8 0 ps[0].1.length ps[0].1.length false]]) true false)) q (.cells 2 [[(.ro 8 [] true),.sl (next+15) 1 0 (0+1) (0+1) false]] true false)) (next+21) ([]++[[.sl (next+13) 8 0 ps[0].1.length ps[0].1.length false]]) (next+15) (λj=>if j=((ps.take 0).map (·.1)).length then next+13 else id j) false:=by
     refine⟨by rw[htm];exact R.snoc (next+13) qqq qqq qqq _ _ (λj hj=>by have:=R.bd j hj;rw[hlen]at hj;simp(disch:=omega)only[ak,aj,aF]) (.inr ⟨c,rfl,by simp(disch:=omega)only[ak,aj,aF]⟩),?_,λ_=>?_,λ_=>⟨by omega,by omega,λj hj=>?_⟩,?_,?_,by omega,λj h1 h2=>?_⟩
     ·rw[qwx qqq,ak]
     ·simp(disch:=omega)only[ak,aj,aF]
     ·rw[hlen];split
      ·omega
      ·have:=R.bd j qqq;omega
     ·simp(disch:=omega)only[ak,aj,aF];exact T.gb
     ·simp(disch:=omega)only[ak,aj,aF];exact T.gr
     ·rw[<- T.un j h1 h2];simp(disch:=omega)only[ak,aj,aF]
    obtain⟨v,h',n',e1,pb',cs',id',e2,e3,e4,e5,e6,e7,e8,e9⟩:=ih (0+1) qqq _ _ _ _ _ _ key;refine⟨v,h',n',?_,pb',cs',id',e2,e3,e4,e5,e6,e7,by omega,e9⟩;simp(disch:=omega) [T.gb,h3,gq,ak,aj,aF,c,aK,fits,ltF,gtF,neF,hft2];simpa using e1
   ·rw[qwx c0]at gq;have gp:=T.gp c0;have pl:=T.pl c0;have hft:(i+1)*25<=35184372088832:=by omega
    have key:CpI ra ea ps pe (.ro 8 [] true) q rr bx lo (i+1) h0 (put (put (del (put (put (put h (next+7) (.cells 8 [] true true)) (next+13) (.cells 8 (ps[i].1.map eHd) true true)) (next+14) (.cells 1 [[.sl (next+13) 8 0 ps[i].1.length ps[i].1.length false]] true false)) pb) (next+15) (.cells 1 (cs++[[.sl (next+13) 8 0 ps[i].1.length ps[i].1.length false]]) true false)) q (.cells 2 [[(.ro 8 [] true),.sl (next+15) 1 0 (i+1) (i+1) false]] true false)) (next+21) (cs++[[.sl (next+13) 8 0 ps[i].1.length ps[i].1.length false]]) (next+15) (λj=>if j=((ps.take i).map (·.1)).length then next+13 else id j) false:=by
     refine⟨by rw[htm];exact R.snoc (next+13) qqq qqq qqq _ _ (λj hj=>by have:=R.bd j hj;rw[hlen]at hj;have:=pl.2.2 j qqq;simp(disch:=omega)only[ak,aj,aF]) (.inr ⟨c,rfl,by simp(disch:=omega)only[ak,aj,aF]⟩),?_,λ_=>?_,λ_=>⟨by omega,by omega,λj hj=>?_⟩,?_,?_,by omega,λj h1 h2=>?_⟩
     ·rw[qwx qqq,ak]
     ·simp(disch:=omega)only[ak,aj,aF]
     ·rw[hlen];split
      ·omega
      ·have:=R.bd j qqq;omega
     ·simp(disch:=omega)only[ak,aj,aF];exact T.gb
     ·simp(disch:=omega)only[ak,aj,aF];exact T.gr
     ·rw[<- T.un j h1 h2];simp(disch:=omega)only[ak,aj,aF]
    obtain⟨v,h',n',e1,pb',cs',id',e2,e3,e4,e5,e6,e7,e8,e9⟩:=ih (i+1) qqq _ _ _ _ _ _ key;refine⟨v,h',n',?_,pb',cs',id',e2,e3,e4,e5,e6,e7,by omega,e9⟩;simp(disch:=omega) [T.gb,h3,gq,ak,aj,aF,c,aK,fits,ltF,gtF,neF,gp,hft,hcl,hft2];simpa using e1
theorem aaf(base:Nat)(ra:List Hd)(ea:Bool)(ps:List Pl)(pe:Bool)(rb rn:Nat)(q rr bx lo:Nat)(h0:aI)(hps:ps.length<=1000)(hpos:0<ps.length)(hr:∀p∈ps,p.1.length<=1000000):∀m i,m+i=ps.length->∀(h:aI) (next:Nat) (cs:List (List AV)) (pb:Nat) (id:Nat->Nat) (dq:Bool),
 CpI ra ea ps pe (.sl rb 8 0 rn rn false) q rr bx lo i h0 h next cs pb id dq ->
 ∃v h' n',CK C base (gX [.cell 2 2 true]) [.sq He,.bk 0 ⟨true,[3,2],[(9999,65537)]⟩,.sq Bf] rG ⟨[(4,.int .i64 i),(3,.ptr q 0 0),(2,.ptr rr 0 0),(1,.ptr bx 0 0)],h,next⟩ =
  some (v,h',n')/\CpP ps (.sl rb 8 0 rn rn false) q rr lo next h0 v h' n':=by
 intro m;induction m with
 |zero=>
  intro i hi h next cs pb id dq T
  have h3:¬i<ps.length:=by omega
  have hine:i≠0:=by omega
  have hie:i=ps.length:=by omega
  have R:=T.R;have gq:=T.gq;have gp:=T.gp hine;have pl:=T.pl hine;have lt:=T.lt;rw[qwx hine]at gq;rw[qxz qqq]at R;subst hie;rw[au rG.eq_1];apply ex3
  ·simp(disch:=omega) [T.gb,h3,au Bf.eq_1,gq,T.gr,ak,aj];exact⟨rfl,rfl,rfl⟩
  ·refine⟨pb,cs,id,rfl,R.mono qqq (λj hj=>by have:=R.bd j hj;rw[aj qqq]),by rw[aj qqq];exact gp,pl.1,by omega,pl.2.2,by omega,λj h1 h2 h3=>?_⟩;rw[aj (qYx h3)];exact T.un j h1 h2
 |succ m ih=>
  intro i hi h next cs pb id dq T
  have h3:i<ps.length:=by omega
  have hri:=hr _ (qxq h3);have htk:ps.take (i+1)=ps.take i++[ps[i]]:=by rw[qZj h3]
  have htm:(ps.take (i+1)).map (·.1)=(ps.take i).map (·.1)++[ps[i].1]:=by rw[htk,qWx];rfl
  have R:=T.R;have gq:=T.gq;have lt:=T.lt;have hlen:((ps.take i).map (·.1)).length=i:=by simp;omega
  have hcl:cs.length=i:=by rw[R.len,hlen]
  rw[au rG.eq_1];by_cases c:ps[i].1=[]
  ·by_cases c0:i=0
   ·subst c0;obtain rfl:cs=[]:=qZq.1 hcl;simp at gq;have key:CpI ra ea ps pe (.sl rb 8 0 rn rn false) q rr bx lo (0+1) h0 (put (put (put (put h (next+7) (.cells 8 [] true true)) (next+14) (.cells 1 [[.sl (next+7) 8 0 0 0 true]] true false)) (next+15) (.cells 1 ([]++[[.sl (next+7) 8 0 0 0 true]]) true false)) q (.cells 2 [[(.sl rb 8 0 rn rn false),.sl (next+15) 1 0 (0+1) (0+1) false]] true false)) (next+21) ([]++[[.sl (next+7) 8 0 0 0 true]]) (next+15) (λj=>if j=((ps.take 0).map (·.1)).length then next+7 else id j) false:=by
     refine⟨by rw[htm];exact R.snoc (next+7) qqq qqq qqq _ _ (λj hj=>by have:=R.bd j hj;rw[hlen]at hj;simp(disch:=omega)only[ak,aj,aF]) (.inl ⟨c,rfl,by simp(disch:=omega)only[ak,aj,aF]⟩),?_,λ_=>?_,λ_=>⟨by omega,by omega,λj hj=>?_⟩,?_,?_,by omega,λj h1 h2=>?_⟩
     ·rw[qwx qqq,ak]
     ·simp(disch:=omega)only[ak,aj,aF]
     ·rw[hlen];split
      ·omega
      ·have:=R.bd j qqq;omega
     ·simp(disch:=omega)only[ak,aj,aF];exact T.gb
     ·simp(disch:=omega)only[ak,aj,aF];exact T.gr
     ·rw[<- T.un j h1 h2];simp(disch:=omega)only[ak,aj,aF]
    obtain⟨v,h',n',e1,pb',cs',id',e2,e3,e4,e5,e6,e7,e8,e9⟩:=ih (0+1) qqq _ _ _ _ _ _ key;refine⟨v,h',n',?_,pb',cs',id',e2,e3,e4,e5,e6,e7,by omega,e9⟩;simp(disch:=omega) [T.gb,h3,gq,ak,aj,aF,c,aK,fits,ltF,gtF,neF];simpa using e1
   ·rw[qwx c0]at gq;have gp:=T.gp c0;have pl:=T.pl c0;have hft:(i+1)*25<=35184372088832:=by omega
    have key:CpI ra ea ps pe (.sl rb 8 0 rn rn false) q rr bx lo (i+1) h0 (put (put (del (put (put h (next+7) (.cells 8 [] true true)) (next+14) (.cells 1 [[.sl (next+7) 8 0 0 0 true]] true false)) pb) (next+15) (.cells 1 (cs++[[.sl (next+7) 8 0 0 0 true]]) true false)) q (.cells 2 [[(.sl rb 8 0 rn rn false),.sl (next+15) 1 0 (i+1) (i+1) false]] true false)) (next+21) (cs++[[.sl (next+7) 8 0 0 0 true]]) (next+15) (λj=>if j=((ps.take i).map (·.1)).length then next+7 else id j) false:=by
     refine⟨by rw[htm];exact R.snoc (next+7) qqq qqq qqq _ _ (λj hj=>by have:=R.bd j hj;rw[hlen]at hj;have:=pl.2.2 j qqq;simp(disch:=omega)only[ak,aj,aF]) (.inl ⟨c,rfl,by simp(disch:=omega)only[ak,aj,aF]⟩),?_,λ_=>?_,λ_=>⟨by omega,by omega,λj hj=>?_⟩,?_,?_,by omega,λj h1 h2=>?_⟩
     ·rw[qwx qqq,ak]
     ·simp(disch:=omega)only[ak,aj,aF]
     ·rw[hlen];split
      ·omega
      ·have:=R.bd j qqq;omega
     ·simp(disch:=omega)only[ak,aj,aF];exact T.gb
     ·simp(disch:=omega)only[ak,aj,aF];exact T.gr
     ·rw[<- T.un j h1 h2];simp(disch:=omega)only[ak,aj,aF]
    obtain⟨v,h',n',e1,pb',cs',id',e2,e3,e4,e5,e6,e7,e8,e9⟩:=ih (i+1) qqq _ _ _ _ _ _ key;refine⟨v,h',n',?_,pb',cs',id',e2,e3,e4,e5,e6,e7,by omega,e9⟩;simp(disch:=omega) [T.gb,h3,gq,ak,aj,aF,c,aK,fits,ltF,gtF,neF,gp,hft,hcl];simpa using e1
  ·have hft2:ps[i].1.length*121<=35184372088832:=by omega
   by_cases c0:i=0
   ·subst c0;obtain rfl:cs=[]:=qZq.1 hcl;simp at gq;have key:CpI ra ea ps pe (.sl rb 8 0 rn rn false) q rr bx lo (0+1) h0 (put (put (put (put (put h (next+7) (.cells 8 [] true true)) (next+13) (.cells 8 (ps[0].1.map eHd) true true)) (next+14) (.cells 1 [[.sl (next+13) 8 0 ps[0].1.length ps[0].1.length false]] true false)) (next+15) (.cells 1 ([]++[[.sl (next+13) 8 0 ps[0].1.length ps[0].1.length false]]) true false)) q (.cells 2 [[(.sl rb 8 0 rn rn false),.sl (next+15) 1 0 (0+1) (0+1) false]] true false)) (next+21) ([]++[[.sl (next+13) 8 0 ps[0].1.length ps[0].1.length false]]) (next+15) (λj=>if j=((ps.take 0).map (·.1)).length then next+13 else id j) false:=by
     refine⟨by rw[htm];exact R.snoc (next+13) qqq qqq qqq _ _ (λj hj=>by have:=R.bd j hj;rw[hlen]at hj;simp(disch:=omega)only[ak,aj,aF]) (.inr ⟨c,rfl,by simp(disch:=omega)only[ak,aj,aF]⟩),?_,λ_=>?_,λ_=>⟨by omega,by omega,λj hj=>?_⟩,?_,?_,by omega,λj h1 h2=>?_⟩
     ·rw[qwx qqq,ak]
     ·simp(disch:=omega)only[ak,aj,aF]
     ·rw[hlen];split
      ·omega
      ·have:=R.bd j qqq;omega
     ·simp(disch:=omega)only[ak,aj,aF];exact T.gb
     ·simp(disch:=omega)only[ak,aj,aF];exact T.gr
     ·rw[<- T.un j h1 h2];simp(disch:=omega)only[ak,aj,aF]
    obtain⟨v,h',n',e1,pb',cs',id',e2,e3,e4,e5,e6,e7,e8,e9⟩:=ih (0+1) qqq _ _ _ _ _ _ key;refine⟨v,h',n',?_,pb',cs',id',e2,e3,e4,e5,e6,e7,by omega,e9⟩;simp(disch:=omega) [T.gb,h3,gq,ak,aj,aF,c,aK,fits,ltF,gtF,neF,hft2];simpa using e1
   ·rw[qwx c0]at gq;have gp:=T.gp c0;have pl:=T.pl c0;have hft:(i+1)*25<=35184372088832:=by omega
    have key:CpI ra ea ps pe (.sl rb 8 0 rn rn false) q rr bx lo (i+1) h0 (put (put (del (put (put (put h (next+7) (.cells 8 [] true true)) (next+13) (.cells 8 (ps[i].1.map eHd) true true)) (next+14) (.cells 1 [[.sl (next+13) 8 0 ps[i].1.length ps[i].1.length false]] true false)) pb) (next+15) (.cells 1 (cs++[[.sl (next+13) 8 0 ps[i].1.length ps[i].1.length false]]) true false)) q (.cells 2 [[(.sl rb 8 0 rn rn false),.sl (next+15) 1 0 (i+1) (i+1) false]] true false)) (next+21) (cs++[[.sl (next+13) 8 0 ps[i].1.length ps[i].1.length false]]) (next+15) (λj=>if j=((ps.take i).map (·.1)).length then next+13 else id j) false:=by
     refine⟨by rw[htm];exact R.snoc (next+13) qqq qqq qqq _ _ (λj hj=>by have:=R.bd j hj;rw[hlen]at hj;have:=pl.2.2 j qqq;simp(disch:=omega)only[ak,aj,aF]) (.inr ⟨c,rfl,by simp(disch:=omega)only[ak,aj,aF]⟩),?_,λ_=>?_,λ_=>⟨by omega,by omega,λj hj=>?_⟩,?_,?_,by omega,λj h1 h2=>?_⟩
     ·rw[qwx qqq,ak]
     ·simp(disch:=omega)only[ak,aj,aF]
     ·rw[hlen];split
      ·omega
      ·have:=R.bd j qqq;omega
     ·simp(disch:=omega)only[ak,aj,aF];exact T.gb
     ·simp(disch:=omega)only[ak,aj,aF];exact T.gr
     ·rw[<- T.un j h1 h2];simp(disch:=omega)only[ak,aj,aF]
    obtain⟨v,h',n',e1,pb',cs',id',e2,e3,e4,e5,e6,e7,e8,e9⟩:=ih (i+1) qqq _ _ _ _ _ _ key;refine⟨v,h',n',?_,pb',cs',id',e2,e3,e4,e5,e6,e7,by omega,e9⟩;simp(disch:=omega) [T.gb,h3,gq,ak,aj,aF,c,aK,fits,ltF,gtF,neF,gp,hft,hcl,hft2];simpa using e1
structure ac1(C:aJ):Prop extends oq C where
 acE:GwC C 2031 Xi
def ake(h:aI)(lo hi:Nat)(v:AV)(ra:List Hd):Prop:=(ra=[]/\v=.ro 8 [] true)\/(ra≠[]/\∃rb,v=.sl rb 8 0 ra.length ra.length false/\Pav.get h rb=some (.cells 8 (eHs ra) true true)/\lo<=rb/\rb<hi)
def apk(ra:List Hd)(ps:List Pl)(h:aI)(n:Nat)(v:AV)(h':aI)(n':Nat):Prop :=
 ∃Rv pb cs id lo,v=.agg [Rv,.sl pb 1 0 ps.length ps.length false]/\ake h' n lo Rv ra/\kG nM h' lo n' id cs (ps.map (·.1))/\Pav.get h' pb=some (.cells 1 cs true false)/\n<=lo/\lo<=pb/\pb<n'/\(∀j,j<ps.length->id j≠pb) /\
  ∀j,j<n->Pav.get h' j=Pav.get h j
theorem MS(H:ac1 C)(ra:List Hd)(ea:Bool)(ps:List Pl)(pe:Bool)(hra:ra.length<=1000000)(hps:ps.length<=1000)(hpos:0<ps.length)(hr:∀p∈ps,p.1.length<=1000000)(h:aI)(n:Nat) :
 ∃v h' n',RnW C 2031 [aSt ra ea ps pe] h n=some (v,h',n')/\apk ra ps h n v h' n':=by
 have hft:ra.length*121<=35184372088832:=by omega
 by_cases c:ra=[]
 ·subst c;have T:CpI [] ea ps pe (.ro 8 [] true) (n+2) (n+1) n (n+11) 0 (put (put (put h n (.cells 2 [[.ro 8 [] ea,.ro 1 (ps.map ePl) pe]] true true)) (n+1) (.cells 2 [[.ro 8 [] true,.ro 1 [] true]] true true)) (n+2) (.cells 2 [[.ro 8 [] true,.ro 1 [] true]] true true))
   (put (put (put h n (.cells 2 [[.ro 8 [] ea,.ro 1 (ps.map ePl) pe]] true true)) (n+1) (.cells 2 [[.ro 8 [] true,.ro 1 [] true]] true true)) (n+2) (.cells 2 [[.ro 8 [] true,.ro 1 [] true]] true true)) (n+11) [] 0 (λ_=>0) true :=
   ⟨by simpa using kG.nil,by simp(disch:=omega)only[ak,aj];rfl,λq=>absurd rfl q,λq=>absurd rfl q,by simp(disch:=omega)only[ak,aj];rfl,by simp(disch:=omega)only[ak,aj],by omega,λ_ _ _=>rfl⟩
  obtain⟨v,h',n',e1,pb,cs,id,e2,e3,e4,e5,e6,e7,e8,e9⟩:=aaX (C:=C) n [] ea ps pe (n+2) (n+1) n (n+11) _ hps hpos hr ps.length 0 qqz _ _ _ _ _ _ T;refine⟨v,h',n',?_,_,pb,cs,id,n+11,e2,.inl ⟨rfl,rfl⟩,e3,e4,by omega,e5,e6,e7,λj hj=>?_⟩
  ·rw[jL H.acE rfl];simp(disch:=omega) [Xi,ak,aj,bH];simpa [bH]using e1
  ·rw[e9 j qqq qqq qqq];simp(disch:=omega)only[aj]
 ·have T:CpI ra ea ps pe (.sl (n+7) 8 0 ra.length ra.length false) (n+2) (n+1) n (n+11) 0 (put (put (put (put (put h n (.cells 2 [[.ro 8 (ra.map eHd) ea,.ro 1 (ps.map ePl) pe]] true true)) (n+1) (.cells 2 [[.ro 8 [] true,.ro 1 [] true]] true true)) (n+2) (.cells 2 [[.ro 8 [] true,.ro 1 [] true]] true true)) (n+7) (.cells 8 (ra.map eHd) true true)) (n+2) (.cells 2 [[.sl (n+7) 8 0 ra.length ra.length false,.ro 1 [] true]] true false))
   (put (put (put (put (put h n (.cells 2 [[.ro 8 (ra.map eHd) ea,.ro 1 (ps.map ePl) pe]] true true)) (n+1) (.cells 2 [[.ro 8 [] true,.ro 1 [] true]] true true)) (n+2) (.cells 2 [[.ro 8 [] true,.ro 1 [] true]] true true)) (n+7) (.cells 8 (ra.map eHd) true true)) (n+2) (.cells 2 [[.sl (n+7) 8 0 ra.length ra.length false,.ro 1 [] true]] true false)) (n+11) [] 0 (λ_=>0) false :=
   ⟨by simpa using kG.nil,by simp(disch:=omega)only[ak,aj];rfl,λq=>absurd rfl q,λq=>absurd rfl q,by simp(disch:=omega)only[ak,aj],by simp(disch:=omega)only[ak,aj],by omega,λ_ _ _=>rfl⟩
  obtain⟨v,h',n',e1,pb,cs,id,e2,e3,e4,e5,e6,e7,e8,e9⟩:=aaf (C:=C) n ra ea ps pe (n+7) ra.length (n+2) (n+1) n (n+11) _ hps hpos hr ps.length 0 qqz _ _ _ _ _ _ T;refine⟨v,h',n',?_,_,pb,cs,id,n+11,e2,.inr ⟨c,n+7,rfl,?_,by omega,by omega⟩,e3,e4,by omega,e5,e6,e7,λj hj=>?_⟩
  ·rw[jL H.acE rfl];simp(disch:=omega) [Xi,ak,aj,bH,c,hft];exact e1
  ·rw[e9 _ qqq qqq qqq];simp(disch:=omega)only[ak,aj]
  ·rw[e9 j qqq qqq qqq];simp(disch:=omega)only[aj]
abbrev cCf(vw ov ls:Int)(ks:List Kd)(ke:Bool)(cap ar fl:Int):List AV:=[.int .i64 vw,.int .i64 ov,.int .i64 ls,.ro 9 (ks.map eKd) ke,.int .i64 cap,.int .i64 ar,.int .u8 fl]
def vk(ks:List Kd)(t:Int):Int:=match ks[t.toNat]? with | some k=>k.pl | none=>0
def rowAt(W:List (List Hd))(t:Int):List Hd:=W[t.toNat]?.getD []
def cm1(ks:List Kd)(l:List En)(A:List Nat):List Hd->List (List Hd)×Int->List (List Hd)×Int
 |[],s=>s
 |h::r,s=>cm1 ks l A r (if stF h l A=true then s else if ((rowAt s.1 h.t).length:Int)=vk ks h.t then(s.1,s.2+1)else(s.1.set h.t.toNat (rowAt s.1 h.t++[h]),s.2))
section
variable (vw ov ls:Int)(ks:List Kd)(ke:Bool)(cap ar fl:Int)(ra:List Hd)(ea:Bool)(ps:List Pl)(pe:Bool)
structure CmI(RW:AV)(pb ob nb lo:Nat)(P:Option dD->Nat->AV->List Hd->Prop)(W:List (List Hd))(N:List Int)(h:aI)(next:Nat)(cs:List (List AV))(id:Nat->Nat):Prop where
 R:kG P h lo next id cs W
 wl:W.length=ks.length
 go:Pav.get h ob=some (.cells 2 [[RW,.sl pb 1 0 ks.length ks.length false]] true false)
 gp:Pav.get h pb=some (.cells 1 cs true false)
 gn:Pav.get h nb=some (.cells 4 [N.map (AV.int .i64)] true true)
 g0:Pav.get h 0=some (.cells 7 [cCf vw ov ls ks ke cap ar fl] true true)
 g1:Pav.get h 1=some (.cells 2 [[.ro 8 (ra.map eHd) ea,.ro 1 (ps.map ePl) pe]] true true)
 g2:Pav.get h 2=some (.cells 2 [[.ro 8 [] true,.ro 1 [] true]] true true)
 g3:Pav.get h 3=some (.cells 4 [[.int .i64 0,.int .i64 0,.int .i64 0,.int .i64 0]] true true)
 ne:4<=lo/\lo<=pb/\lo<=ob/\lo<=nb/\pb<next/\ob<next/\nb<next/\pb≠ob/\pb≠nb/\ob≠nb
 nd:∀j,j<ks.length->id j≠pb/\id j≠ob/\id j≠nb
theorem CmI.later{RW:AV}{pb ob nb lo:Nat}{P:Option dD->Nat->AV->List Hd->Prop}{W:List (List Hd)}{N:List Int}{h h':aI}{next next':Nat}{cs:List (List AV)}{id:Nat->Nat}
 (T:CmI vw ov ls ks ke cap ar fl ra ea ps pe RW pb ob nb lo P W N h next cs id) (hn:next<=next') (hg:∀j,j<next->Pav.get h' j=Pav.get h j):CmI vw ov ls ks ke cap ar fl ra ea ps pe RW pb ob nb lo P W N h' next' cs id:=by
 have ne:=T.ne;exact⟨T.R.mono hn (λj hj=>hg _ (T.R.bd j hj).2),T.wl,by rw[hg _ qqq];exact T.go,by rw[hg _ qqq];exact T.gp,by rw[hg _ qqq];exact T.gn,by rw[hg _ qqq];exact T.g0, by rw[hg _ qqq];exact T.g1,by rw[hg _ qqq];exact T.g2,by rw[hg _ qqq];exact T.g3,by omega,T.nd⟩
theorem CmI.ak6{RW:AV}{pb ob nb lo:Nat}{P:Option dD->Nat->AV->List Hd->Prop}{W:List (List Hd)}{N:List Int}{h:aI}{next:Nat}{cs:List (List AV)}{id:Nat->Nat}
 (T:CmI vw ov ls ks ke cap ar fl ra ea ps pe RW pb ob nb lo P W N h next cs id) (N':List Int):CmI vw ov ls ks ke cap ar fl ra ea ps pe RW pb ob nb lo P W N' (put h nb (.cells 4 [N'.map (AV.int .i64)] true true)) next cs id:=by
 have ne:=T.ne;exact⟨T.R.mono (qxx _) (λj hj=>aj (qYx (T.nd j (by rw[<- T.wl];exact hj)).2.2)),T.wl,by rw[aj qqq];exact T.go,by rw[aj qqq];exact T.gp,ak ..,by rw[aj qqq];exact T.g0, by rw[aj qqq];exact T.g1,by rw[aj qqq];exact T.g2,by rw[aj qqq];exact T.g3,T.ne,T.nd⟩
theorem CmI.aeH{RW:AV}{pb ob nb lo:Nat}{P:Option dD->Nat->AV->List Hd->Prop}{W:List (List Hd)}{N:List Int}{h h':aI}{next next':Nat}{cs:List (List AV)}{id:Nat->Nat}
 (T:CmI vw ov ls ks ke cap ar fl ra ea ps pe RW pb ob nb lo P W N h next cs id) (t:Nat) (ht:t<ks.length) (b:Nat) (hb:b=id t\/next<=b) (hb2:b<next') (hn:next<=next') (v:AV) (d:List Hd) (hP:P (Pav.get h' b) b v d)
 (hp:Pav.get h' pb=some (.cells 1 (cs.set t [v]) true false)) (hg:∀j,j<next->j≠id t->j≠pb->Pav.get h' j=Pav.get h j) :
 CmI vw ov ls ks ke cap ar fl ra ea ps pe RW pb ob nb lo P (W.set t d) N h' next' (cs.set t [v]) (λi=>if i=t then b else id i):=by
 have ne:=T.ne;have wl:=T.wl;have hbd:=T.R.bd t qqq;have hnt:=T.nd t ht;refine⟨T.R.set t qqq b hb qqq hb2 hn v d (λj hj hjt=>?_) hP,by simp[wl],?_,hp,?_,?_,?_,?_,?_,by omega,λj hj=>?_⟩
 ·have h1:=T.R.bd j hj;exact hg _ h1.2 (λq=>hjt (T.R.inj j t hj qqq q)) (T.nd j qqq).1
 ·rw[hg _ qqq qqq qqq];exact T.go
 ·rw[hg _ qqq qqq qqq];exact T.gn
 ·rw[hg _ qqq qqq qqq];exact T.g0
 ·rw[hg _ qqq qqq qqq];exact T.g1
 ·rw[hg _ qqq qqq qqq];exact T.g2
 ·rw[hg _ qqq qqq qqq];exact T.g3
 ·have h1:=T.nd j hj;split
  ·rcases hb with q | q
   ·rw[q];exact hnt
   ·omega
  ·exact h1
theorem acd(H:ac1 C)(l:List En)(e:Bool)(A:List Nat)(f:Bool)(hA:A.length<=1000000)(hAl:∀a∈A,a<l.length)(hra:ra.length<=1000)(hty:∀x∈ra,∃t:Nat,x.t=t/\t<ks.length)
 (pb ob nb lo:Nat):∀m i,m+i=ra.length->∀(W:List (List Hd)) (d:Int) (h:aI) (next:Nat) (cs:List (List AV)) (id:Nat->Nat),
 CmI vw ov ls ks ke cap ar fl ra ea ps pe (.ro 8 [] true) pb ob nb lo nM W [0,0,d,0] h next cs id->(∀w∈W,w.length+m<=1000000)->0<=d->d+m<=1000000 ->
 ∃h' next' cs' id',CK C 0 (aO [.cell 8 2 true,.cell 9 4 true,.tmp 10]) [.sq IY,.bk 0 ⟨true,[12,11,9,8,5,4,3,2],[(9999,65537)]⟩,.sq Bl] oH
  ⟨[(13,.int .i64 i),(12,.ptr nb 0 0),(11,.ptr ob 0 0),(9,.ptr 3 0 0),(8,.ptr 2 0 0),(5,.ptr 1 0 0),(4,.ptr 0 0 0),(3,.ro 1 (A.map eAt) f),(2,.ro 6 (l.map eEn) e)],h,next⟩ =
  CK C 0 (aO [.cell 8 2 true,.cell 9 4 true,.tmp 10]) [] Bl
   ⟨[(12,.ptr nb 0 0),(11,.ptr ob 0 0),(9,.ptr 3 0 0),(8,.ptr 2 0 0),(5,.ptr 1 0 0),(4,.ptr 0 0 0),(3,.ro 1 (A.map eAt) f),(2,.ro 6 (l.map eEn) e)],h',next'⟩ /\
  CmI vw ov ls ks ke cap ar fl ra ea ps pe (.ro 8 [] true) pb ob nb lo nM (cm1 ks l A (ra.drop i) (W,d)).1 [0,0,(cm1 ks l A (ra.drop i) (W,d)).2,0] h' next' cs' id':=by
 intro m;induction m with
 |zero=>
  intro i hi W d h next cs id T hW h0 h1
  have h2:ra.drop i=[]:=qzx qqq;have h3:¬i<ra.length:=by omega
  rw[h2];refine⟨h,next+5,cs,id,?_,T.later vw ov ls ks ke cap ar fl ra ea ps pe qqq (λ_ _=>rfl)⟩;rw[au oH.eq_1];simp(disch:=omega) [T.g1,h3]
 |succ m ih=>
  intro i hi W d h next cs id T hW h0 h1
  have h3:i<ra.length:=by omega
  obtain⟨t,ht,htl⟩:=hty _ (qxq h3);have hst:=acB H.tooq ra[i] l e f A hA hAl;have ne:=T.ne;rw[drop_cons h3];have hwl:=T.wl;have htW:t<W.length:=by omega
  have hrow:rowAt W ra[i].t=W[t]:=by rw[ht];simp[rowAt,htW]
  have hpl:vk ks ra[i].t=ks[t].pl:=by rw[ht];simp[vk,htl]
  have hW1:=hW _ (qxq htW);have hcl:cs.length=ks.length:=by rw[T.R.len,hwl]
  have htc:t<cs.length:=by omega
  by_cases c:stF ra[i] l A=true
  ·rw[qzq c]at hst;obtain⟨h',n',cs',id',e1,e2⟩:=ih (i+1) qqq W d (put h (next+10) (.cells 8 [eHd ra[i]] true true)) (next+20) cs id (T.later vw ov ls ks ke cap ar fl ra ea ps pe qqq (λj hj=>aj qqq)) (λw hw=>by have:=hW w hw;omega) h0 qqq;refine⟨h',n',cs',id',?_,by simp only[cm1,c,qyx];exact e2⟩;rw[<- e1];rw[au oH.eq_1];simp at hst;simp(disch:=omega) [T.g1,h3,ak,aj,H.kk,hst,aK,bH]
  ·rw[qwx c]at hst;obtain⟨v,hv,hP⟩:=T.R.row t W[t] (qqj htW);rw[qqj htc]at hv;replace hv:=qkq hv;by_cases c2:(W[t].length:Int)=ks[t].pl
   ·have hcm:∀r s,cm1 ks l A (ra[i]::r) (W,s)=cm1 ks l A r (W,s+1):=by intro r s;simp only[cm1,qwx c];rw[qzq (by rw[hrow,hpl];exact c2)]
    rw[hcm];have T1:=(T.later vw ov ls ks ke cap ar fl ra ea ps pe (h':=put h (next+10) (.cells 8 [eHd ra[i]] true true)) (next':=next+40) qqq (λj hj=>aj qqq)).ak6 vw ov ls ks ke cap ar fl ra ea ps pe [0,0,d+1,0];obtain⟨h',n',cs',id',e1,e2⟩:=ih (i+1) qqq W (d+1) _ _ cs id T1 (λw hw=>by have:=hW w hw;omega) qqq qqq;refine⟨h',n',cs',id',?_,e2⟩;rw[<- e1];rw[au oH.eq_1];simp[ht]at hst;rcases hP with⟨p0,p1,p2⟩|⟨p0,p1,p2⟩
    ·rw[p1]at hv;rw[p0]at c2;simp at c2;have c2:=c2.symm;simp(disch:=omega) [T.g0,T.g1,T.go,T.gp,T.gn,p2,h3,ak,aj,aF,H.kk,hst,aK,bH,ht,htl,htc,hv,c2]
    ·rw[p1]at hv;simp(disch:=omega) [T.g0,T.g1,T.go,T.gp,T.gn,p2,h3,ak,aj,aF,H.kk,hst,aK,bH,ht,htl,htc,hv,c2]
   ·have hcm:∀r s,cm1 ks l A (ra[i]::r) (W,s)=cm1 ks l A r (W.set t (W[t]++[ra[i]]),s):=by
     intro r s;have:ra[i].t.toNat=t:=by omega
     simp only[cm1,qwx c];rw[qwx (by rw[hrow,hpl];exact c2),hrow,this]
    rw[hcm];have nd:=T.nd t htl;have bd:=T.R.bd t htW;have hft:(W[t].length+1)*121<=35184372088832:=by omega
    have hWn:∀w∈W.set t (W[t]++[ra[i]]),w.length+m<=1000000:=by
     intro w hw;rcases qXx hw with q | q
     ·have:=hW w q;omega
     ·subst q;simp;omega
    rcases hP with⟨p0,p1,p2⟩|⟨p0,p1,p2⟩
    ·rw[p1]at hv;have T1:=T.aeH vw ov ls ks ke cap ar fl ra ea ps pe t htl (next+44) (.inr qqq) (show next+44<next+50 by omega) qqq (.sl (next+44) 8 0 1 1 false) (W[t]++[ra[i]])
      (h':=put (put (put (put h (next+10) (.cells 8 [(AV.int .u64 ra[i].k::AV.int .u8 t::ra[i].n.c)] true true)) (next+43) (.cells 8 [(AV.int .u64 ra[i].k::AV.int .u8 t::ra[i].n.c)] true true)) (next+44) (.cells 8 [(AV.int .u64 ra[i].k::AV.int .u8 t::ra[i].n.c)] true true)) pb (.cells 1 (cs.set t [.sl (next+44) 8 0 1 1 false]) true false))
      (.inr ⟨by simp,by rw[p0];rfl,by simp(disch:=omega)only[ak,aj];rw[p0];simp[ht]⟩) (by rw[ak]) (λj h1 h2 h3=>by simp(disch:=omega)only[ak,aj])
     obtain⟨h',n',cs',id',e1,e2⟩:=ih (i+1) qqq _ d _ _ _ _ T1 hWn h0 qqq;refine⟨h',n',cs',id',?_,e2⟩;rw[<- e1];rw[au oH.eq_1];rw[p0]at c2;simp at c2;simp[ht]at hst;simp(disch:=omega) [T.g0,T.g1,T.go,T.gp,T.gn,p2,h3,ak,aj,aF,H.kk,hst,aK,bH,ht,htl,htc,hv,c2,ltF,gtF,neF,fits]
    ·rw[p1]at hv;have T1:=T.aeH vw ov ls ks ke cap ar fl ra ea ps pe t htl (next+44) (.inr qqq) (show next+44<next+50 by omega) qqq (.sl (next+44) 8 0 (W[t].length+1) (W[t].length+1) false) (W[t]++[ra[i]])
      (h':=put (put (del (put (put h (next+10) (.cells 8 [(AV.int .u64 ra[i].k::AV.int .u8 t::ra[i].n.c)] true true)) (next+43) (.cells 8 [(AV.int .u64 ra[i].k::AV.int .u8 t::ra[i].n.c)] true true)) (id t)) (next+44) (.cells 8 (eHs W[t]++[(AV.int .u64 ra[i].k::AV.int .u8 t::ra[i].n.c)]) true true)) pb (.cells 1 (cs.set t [.sl (next+44) 8 0 (W[t].length+1) (W[t].length+1) false]) true false))
      (.inr ⟨by simp,by simp,by simp(disch:=omega)only[ak,aj];simp[ht]⟩) (by rw[ak]) (λj h1 h2 h3=>by have:=qYx h2;simp(disch:=omega)only[ak,aj,aF])
     obtain⟨h',n',cs',id',e1,e2⟩:=ih (i+1) qqq _ d _ _ _ _ T1 hWn h0 qqq;refine⟨h',n',cs',id',?_,e2⟩;rw[<- e1];rw[au oH.eq_1];simp[ht]at hst;simp(disch:=omega) [T.g0,T.g1,T.go,T.gp,T.gn,p2,h3,ak,aj,aF,H.kk,hst,aK,bH,ht,htl,htc,hv,c2,ltF,gtF,neF,hft]
end
end Go.D
end
section
namespace Go.D
open Go Go.Pav Go.Pw P
set_option maxHeartbeats 2000000
attribute [-simp] List.getElem_cons_drop
variable {C:aJ}
structure Yu(C:aJ):Prop extends ac1 C where
 f285:GwC C 285 XT
 f299:GwC C 299 aif
theorem EO(H:Yu C)(vw ov ls:Int)(ks:List Kd)(ke:Bool)(cap ar fl:Int):FnW C 299 [.agg (cCf vw ov ls ks ke cap ar fl)]=some (aR ks ke cap):=by rw[aN H.f299 rfl];simp[aif]
def nI(ra:List Hd)(e:En):Bool:=decide (0<=atF e.i.k 0 ra)&&(match ra[(atF e.i.k 0 ra).toNat]? with | some h=>decide (h.t=e.i.t) | none=>false)
def cm2(tr:En->Nd)(ra:List Hd)(l:List En):List Nat->List Hd×List (List Hd)×Int×Int->List Hd×List (List Hd)×Int×Int
 |[],s=>s
 |a::r,s=>cm2 tr ra l r (match l[a]? with
  |none=>s
  |some e=>if nI ra e=true then(s.1++[⟨e.i.k,e.i.t,tr e⟩],s.2)else if (rowAt s.2.1 e.i.t).length=0 then(s.1++[⟨e.i.k,e.i.t,tr e⟩],s.2.1,s.2.2.1,s.2.2.2+1)
   else(s.1++[⟨e.i.k,e.i.t,tr e⟩],s.2.1.set e.i.t.toNat ((rowAt s.2.1 e.i.t).take ((rowAt s.2.1 e.i.t).length-1)),s.2.2.1+1,s.2.2.2))
def tJ(ks:List Kd)(pb ob nb lo:Nat)(RW:AV)(O:List Hd)(rb:Nat)(h:aI)(next:Nat)(id:Nat->Nat):Prop :=(O=[]/\RW=.ro 8 [] true)\/(O≠[]/\RW=.sl rb 8 0 O.length O.length false/\Pav.get h rb=some (.cells 8 (eHs O) true true)/\lo<=rb/\rb<next/\rb≠pb/\rb≠ob/\rb≠nb/\∀j,j<ks.length->id j≠rb)
theorem JK(k:Int):∀(l:List Hd) (i:Nat),0<=atF k i l->(i:Int)<=atF k i l/\atF k i l<i+l.length
 |[],i,h=>by simp[atF]at h
 |x::l,i,h=>by
  simp only[atF]at h |-;split at h
  ·rename_i q;rw[qzq q];simp;omega
  ·rename_i q;rw[qwx q];have:=JK k l (i+1) h;simp only[qQx];push_cast at this |-;omega
section
variable (vw ov ls:Int)(ks:List Kd)(ke:Bool)(cap ar fl:Int)(ra:List Hd)(ea:Bool)(ps:List Pl)(pe:Bool)
theorem ac9(H:Yu C)(tr:En->Nd)(l:List En)(e:Bool)(A:List Nat)(f:Bool)(hA:A.length<=1000)(hAl:∀a∈A,a<l.length)(hra:ra.length<=1000000)
 (hty:∀x∈l,∃t:Nat,x.i.t=t/\t<ks.length) (htr:∀(a:Nat) (h:a<l.length),FnW C 417 [aR ks ke cap,.ro 6 (l.map eEn) e,.int .i64 a]=some (.agg (tr l[a]).c))
 (pb ob nb lo:Nat):∀m i,m+i=A.length->∀(RW:AV) (O:List Hd) (rbk:Nat) (W:List (List Hd)) (rb mk d:Int) (h:aI) (next:Nat) (cs:List (List AV)) (id:Nat->Nat),
 CmI vw ov ls ks ke cap ar fl ra ea ps pe RW pb ob nb lo jO W [rb,mk,d,0] h next cs id->tJ ks pb ob nb lo RW O rbk h next id->O.length+m<=1000000->0<=rb->rb+m<=1000000->0<=mk->mk+m<=1000000->(∀w∈W,w.length<=1000000) ->
 ∃h' next' cs' id' RW' rbk',CK C 0 (aO [.cell 8 2 true,.cell 9 4 true,.tmp 10]) [.sq BG,.bk 2 ⟨true,[12,11,9,8,4],[(9999,65537)]⟩,.sq uN] qG
  ⟨[(15,.int .i64 i),(12,.ptr nb 0 0),(11,.ptr ob 0 0),(9,.ptr 3 0 0),(8,.ptr 2 0 0),(5,.ptr 1 0 0),(4,.ptr 0 0 0),(3,.ro 1 (A.map eAt) f),(2,.ro 6 (l.map eEn) e)],h,next⟩ =
  CK C 0 (aO [.cell 8 2 true,.cell 9 4 true,.tmp 10]) [] uN
   ⟨[(12,.ptr nb 0 0),(11,.ptr ob 0 0),(9,.ptr 3 0 0),(8,.ptr 2 0 0),(4,.ptr 0 0 0)],h',next'⟩ /\
  CmI vw ov ls ks ke cap ar fl ra ea ps pe RW' pb ob nb lo jO (cm2 tr ra l (A.drop i) (O,W,rb,mk)).2.1 [(cm2 tr ra l (A.drop i) (O,W,rb,mk)).2.2.1,(cm2 tr ra l (A.drop i) (O,W,rb,mk)).2.2.2,d,0] h' next' cs' id' /\
  tJ ks pb ob nb lo RW' (cm2 tr ra l (A.drop i) (O,W,rb,mk)).1 rbk' h' next' id':=by
 intro m;induction m with
 |zero=>
  intro i hi RW O rbk W rb mk d h next cs id T U hO hrb hrb2 hmk hmk2 hW
  have h2:A.drop i=[]:=qzx qqq;have h3:¬i<A.length:=by omega
  rw[h2];refine⟨h,next+4,cs,id,RW,rbk,?_,T.later vw ov ls ks ke cap ar fl ra ea ps pe qqq (λ_ _=>rfl),?_⟩
  ·rw[au qG.eq_1];simp(disch:=omega) [h3]
  ·rcases U with u|⟨u1,u2,u3,u4,u5,u6⟩
   ·exact .inl u
   ·exact .inr ⟨u1,u2,u3,u4,by omega,u6⟩
 |succ m ih=>
  intro i hi RW O rbk W rb mk d h next cs id T U hO hrb hrb2 hmk hmk2 hW
  have h3:i<A.length:=by omega
  have hAi:=hAl _ (qxq h3);obtain⟨t,ht,htl⟩:=hty _ (qxq hAi);have htree:=htr A[i] hAi;have hrules:=EO H vw ov ls ks ke cap ar fl;have hat:=aeU H.tooq ra ea l[A[i]].i.k hra;have ne:=T.ne;have hwl:=T.wl;have htW:t<W.length:=by omega
  have hcl:cs.length=ks.length:=by rw[T.R.len,hwl]
  have htc:t<cs.length:=by omega
  have hW1:=hW _ (qxq htW);have hrow:rowAt W l[A[i]].i.t=W[t]:=by rw[ht];simp[rowAt,htW]
  have hft:(O.length+1)*121<=35184372088832:=by omega
  have hNc:=(tr l[A[i]]).bU;rw[drop_cons h3];try simp at htree
  try simp at hat
  obtain⟨v,hv,hP⟩:=T.R.row t W[t] (qqj htW);rw[qqj htc]at hv;replace hv:=qkq hv;obtain⟨cap2,ex,es,rfl,q1,q2,q3,q4⟩:=hP;have bd:=T.R.bd t htW;have nd:=T.nd t htl;have hatt:l[A[i]].i.t.toNat=t:=by omega
  rcases U with⟨u1,u2⟩|⟨u1,u2,u3,u4,u5,u6,u7,u8,u9⟩
  ·subst u1;subst u2;obtain⟨L,hL⟩:∃L,L=CK C 0 (aO [.cell 8 2 true,.cell 9 4 true,.tmp 10]) [.sq BG,.bk 2 ⟨true,[12,11,9,8,4],[(9999,65537)]⟩,.sq uN] qG ⟨[(15,.int .i64 i),(12,.ptr nb 0 0),(11,.ptr ob 0 0),(9,.ptr 3 0 0),(8,.ptr 2 0 0),(5,.ptr 1 0 0),(4,.ptr 0 0 0),(3,.ro 1 (A.map eAt) f),(2,.ro 6 (l.map eEn) e)],h,next⟩:=⟨_,rfl⟩;rw[<- hL];rw[au qG.eq_1]at hL;simp(disch:=omega) [T.g0,T.g1,T.go,h3,hAi,ak,aj,aF,H.kk,htree,hrules,aK,bH,ltF,gtF,neF,fits,hft]at hL;by_cases c:nI ra l[A[i]]=true
   ·have hcm:∀O r,cm2 tr ra l (A[i]::r) (O,W,rb,mk)=cm2 tr ra l r (O++[⟨l[A[i]].i.k,l[A[i]].i.t,tr l[A[i]]⟩],W,rb,mk):=by intro O r;simp only[cm2,qqj hAi,c,qyx]
    obtain⟨c1,c2⟩:=qwz _ _ ▸ c;have c1:=qoj c1;obtain⟨hge,hlt⟩:=JK _ _ _ c1;obtain⟨k,hk⟩:∃k:Nat,atF l[A[i]].i.k 0 ra=k:=⟨(atF l[A[i]].i.k 0 ra).toNat,by omega⟩;have hkl:k<ra.length:=by omega
    rw[hk]at c2;simp[hkl]at c2;obtain⟨hh,hhe⟩:∃hh,hh=put (put (put (put (put h (next+12) (.cells 4 [[AV.int .u64 l[A[i]].i.k,AV.int .u8 l[A[i]].i.t,AV.str l[A[i]].i.x,AV.ro 1 (List.map eS l[A[i]].i.m) l[A[i]].i.e]] true true)) (next+27) (.cells 8 [(AV.int .u64 l[A[i]].i.k::AV.int .u8 l[A[i]].i.t::(tr l[A[i]]).c)] true true)) (next+32) (.cells 8 [(AV.int .u64 l[A[i]].i.k::AV.int .u8 l[A[i]].i.t::(tr l[A[i]]).c)] true true)) (next+33) (.cells 8 [(AV.int .u64 l[A[i]].i.k::AV.int .u8 l[A[i]].i.t::(tr l[A[i]]).c)] true true)) ob (.cells 2 [[.sl (next+33) 8 0 1 1 false,.sl pb 1 0 ks.length ks.length false]] true false):=⟨_,rfl⟩;have T1:CmI vw ov ls ks ke cap ar fl ra ea ps pe (.sl (next+33) 8 0 1 1 false) pb ob nb lo jO W [rb,mk,d,0] hh (next+58) cs id:=by
     refine⟨T.R.mono qqq (λj hj=>by rw[hhe];have:=T.R.bd j qqq;have:=T.nd j qqq;simp(disch:=omega)only[ak,aj,aF]),by simp[hwl],?_,?_,?_,?_,?_,?_,?_,by omega,λj hj=>?_⟩;any_goals (rw[hhe];simp(disch:=omega)only[ak,aj,aF]<;>first | rfl | exact T.g0 | exact T.g1 | exact T.g2 | exact T.g3 | exact T.gp | exact T.gn)
     ·have:=T.nd j hj;exact this
    have U1:tJ ks pb ob nb lo (.sl (next+33) 8 0 1 1 false) [⟨l[A[i]].i.k,l[A[i]].i.t,tr l[A[i]]⟩] (next+33) hh (next+58) id:=by
     refine .inr ⟨by simp,by simp,?_,by omega,by omega,by omega,by omega,by omega,λj hj=>?_⟩
     ·rw[hhe];simp(disch:=omega)only[ak,aj,aF];simp[ht]
     ·have:=T.R.bd j qqq;have:=T.R.bd t htW;omega
    obtain⟨h',n',cs',id',RW',rbk',e1,e2,e3⟩:=ih (i+1) qqq _ [⟨l[A[i]].i.k,l[A[i]].i.t,tr l[A[i]]⟩] _ W rb mk d _ _ _ _ T1 U1 qqx qqq qqq qqq qqq hW;refine⟨h',n',cs',id',RW',rbk',?_,by rw[hcm];exact e2,by rw[hcm];exact e3⟩;rw[hL,<- e1,hhe];simp(disch:=omega) [T.g0,T.g1,T.go,T.gp,T.gn,hAi,ak,aj,aF,H.kk,hat,aK,bH,ltF,gtF,neF,fits,hft,hk,hkl,c2]
   ·have c':nI ra l[A[i]]=false:=by simpa using c
    have hc0:(∃_:¬0<=atF l[A[i]].i.k 0 ra,True)\/∃k:Nat,atF l[A[i]].i.k 0 ra=k/\∃h:k<ra.length,¬ra[k].t=(t:Int):=by
     by_cases c0:0<=atF l[A[i]].i.k 0 ra
     ·obtain⟨hge,hlt⟩:=JK _ _ _ c0;refine .inr ⟨(atF l[A[i]].i.k 0 ra).toNat,by omega,by omega,λq=>?_⟩;have hkl:(atF l[A[i]].i.k 0 ra).toNat<ra.length:=by omega
      have:nI ra l[A[i]]=true:=by simp[nI,c0,hkl,q,ht]
      exact c this
     ·exact .inl ⟨c0,trivial⟩
    by_cases c3:W[t].length=0
    ·have hcm:∀O r,cm2 tr ra l (A[i]::r) (O,W,rb,mk)=cm2 tr ra l r (O++[⟨l[A[i]].i.k,l[A[i]].i.t,tr l[A[i]]⟩],W,rb,mk+1):=by intro O r;simp only[cm2,qqj hAi,c',hrow,c3,qyx,qxj,qWq]
     rw[c3]at hv;rcases hc0 with⟨c0,_⟩|⟨k,hk,hkl,c2⟩
     ·skip
      obtain⟨hh,hhe⟩:∃hh,hh=put (put (put (put (put (put h (next+12) (.cells 4 [[AV.int .u64 l[A[i]].i.k,AV.int .u8 (t:Int),AV.str l[A[i]].i.x,AV.ro 1 (List.map eS l[A[i]].i.m) l[A[i]].i.e]] true true)) (next+27) (.cells 8 [(AV.int .u64 l[A[i]].i.k::AV.int .u8 (t:Int)::(tr l[A[i]]).c)] true true)) (next+32) (.cells 8 [(AV.int .u64 l[A[i]].i.k::AV.int .u8 (t:Int)::(tr l[A[i]]).c)] true true)) (next+33) (.cells 8 [(AV.int .u64 l[A[i]].i.k::AV.int .u8 (t:Int)::(tr l[A[i]]).c)] true true)) ob (.cells 2 [[.sl (next+33) 8 0 1 1 false,.sl pb 1 0 ks.length ks.length false]] true false)) nb (.cells 4 [[.int .i64 rb,.int .i64 (mk+1),.int .i64 d,.int .i64 0]] true true):=⟨_,rfl⟩;have T1:CmI vw ov ls ks ke cap ar fl ra ea ps pe (.sl (next+33) 8 0 1 1 false) pb ob nb lo jO W [rb,mk+1,d,0] hh (next+73) cs id:=by
       refine⟨T.R.mono qqq (λj hj=>by rw[hhe];have:=T.R.bd j qqq;have:=T.nd j qqq;simp(disch:=omega)only[ak,aj,aF]),by simp[hwl],?_,?_,?_,?_,?_,?_,?_,by omega,λj hj=>?_⟩;any_goals (rw[hhe];simp(disch:=omega)only[ak,aj,aF]<;>first | rfl | exact T.g0 | exact T.g1 | exact T.g2 | exact T.g3 | exact T.gp | exact T.gn)
       ·have:=T.nd j hj;exact this
      have U1:tJ ks pb ob nb lo (.sl (next+33) 8 0 1 1 false) [⟨l[A[i]].i.k,l[A[i]].i.t,tr l[A[i]]⟩] (next+33) hh (next+73) id:=by
       refine .inr ⟨by simp,by simp,?_,by omega,by omega,by omega,by omega,by omega,λj hj=>?_⟩
       ·rw[hhe];simp(disch:=omega)only[ak,aj,aF];simp[ht]
       ·have:=T.R.bd j qqq;have:=T.R.bd t htW;omega
      obtain⟨h',n',cs',id',RW',rbk',e1,e2,e3⟩:=ih (i+1) qqq _ [⟨l[A[i]].i.k,l[A[i]].i.t,tr l[A[i]]⟩] _ W rb (mk+1) d _ _ _ _ T1 U1 qqx qqq qqq qqq qqq hW;refine⟨h',n',cs',id',RW',rbk',?_,by rw[hcm];exact e2,by rw[hcm];exact e3⟩;rw[hL,<- e1,hhe];simp(disch:=omega) [T.g0,T.g1,T.go,T.gp,T.gn,hAi,ak,aj,aF,H.kk,hat,aK,bH,ltF,gtF,neF,fits,hft,ht,htc,htl,hv,c0]
     ·skip
      obtain⟨hh,hhe⟩:∃hh,hh=put (put (put (put (put (put h (next+12) (.cells 4 [[AV.int .u64 l[A[i]].i.k,AV.int .u8 (t:Int),AV.str l[A[i]].i.x,AV.ro 1 (List.map eS l[A[i]].i.m) l[A[i]].i.e]] true true)) (next+27) (.cells 8 [(AV.int .u64 l[A[i]].i.k::AV.int .u8 (t:Int)::(tr l[A[i]]).c)] true true)) (next+32) (.cells 8 [(AV.int .u64 l[A[i]].i.k::AV.int .u8 (t:Int)::(tr l[A[i]]).c)] true true)) (next+33) (.cells 8 [(AV.int .u64 l[A[i]].i.k::AV.int .u8 (t:Int)::(tr l[A[i]]).c)] true true)) ob (.cells 2 [[.sl (next+33) 8 0 1 1 false,.sl pb 1 0 ks.length ks.length false]] true false)) nb (.cells 4 [[.int .i64 rb,.int .i64 (mk+1),.int .i64 d,.int .i64 0]] true true):=⟨_,rfl⟩;have T1:CmI vw ov ls ks ke cap ar fl ra ea ps pe (.sl (next+33) 8 0 1 1 false) pb ob nb lo jO W [rb,mk+1,d,0] hh (next+73) cs id:=by
       refine⟨T.R.mono qqq (λj hj=>by rw[hhe];have:=T.R.bd j qqq;have:=T.nd j qqq;simp(disch:=omega)only[ak,aj,aF]),by simp[hwl],?_,?_,?_,?_,?_,?_,?_,by omega,λj hj=>?_⟩;any_goals (rw[hhe];simp(disch:=omega)only[ak,aj,aF]<;>first | rfl | exact T.g0 | exact T.g1 | exact T.g2 | exact T.g3 | exact T.gp | exact T.gn)
       ·have:=T.nd j hj;exact this
      have U1:tJ ks pb ob nb lo (.sl (next+33) 8 0 1 1 false) [⟨l[A[i]].i.k,l[A[i]].i.t,tr l[A[i]]⟩] (next+33) hh (next+73) id:=by
       refine .inr ⟨by simp,by simp,?_,by omega,by omega,by omega,by omega,by omega,λj hj=>?_⟩
       ·rw[hhe];simp(disch:=omega)only[ak,aj,aF];simp[ht]
       ·have:=T.R.bd j qqq;have:=T.R.bd t htW;omega
      obtain⟨h',n',cs',id',RW',rbk',e1,e2,e3⟩:=ih (i+1) qqq _ [⟨l[A[i]].i.k,l[A[i]].i.t,tr l[A[i]]⟩] _ W rb (mk+1) d _ _ _ _ T1 U1 qqx qqq qqq qqq qqq hW;refine⟨h',n',cs',id',RW',rbk',?_,by rw[hcm];exact e2,by rw[hcm];exact e3⟩;rw[hL,<- e1,hhe];simp(disch:=omega) [T.g0,T.g1,T.go,T.gp,T.gn,hAi,ak,aj,aF,H.kk,hat,aK,bH,ltF,gtF,neF,fits,hft,ht,htc,htl,hv,hk,hkl,c2]
    ·obtain⟨n,hn⟩:∃n,W[t].length=n+1:=⟨W[t].length-1,by omega⟩;have hcm:∀O r,cm2 tr ra l (A[i]::r) (O,W,rb,mk)=cm2 tr ra l r (O++[⟨l[A[i]].i.k,l[A[i]].i.t,tr l[A[i]]⟩],W.set t (W[t].take n),rb+1,mk):=by
      intro O r;have:W[t].length-1=n:=by omega
      simp only[cm2,qqj hAi,c',hrow,c3,qxj,qWq,hatt,this]
     rw[hn]at hv q1 q2 q3;have hnl:(W[t].take n).length=n:=by simp;omega
     have hes3:=q3;have hwn:IntKind.i64.wrap (n:Int)=n:=aK qqq qqq;have hne0:¬((n:Int)+1=0):=by omega
     have hncap:n<=cap2:=by omega
     have hcap1:n+1<=cap2:=by omega
     have hcap0:0<cap2:=by omega
     have hWs:∀w∈W.set t (W[t].take n),w.length<=1000000:=by
      intro w hw;rcases qXx hw with q | q
      ·exact hW w q
      ·subst q;omega
     have hANY:∀o,o=some (dD.cells 8 (eHs es) true true)->jO o (id t) (.sl (id t) 8 0 n cap2 ex) (W[t].take n):=by rintro o rfl;refine⟨cap2,ex,es,by rw[hnl],by omega,by omega,?_,rfl⟩;rw[hnl,<- hes3,q9j];congr 1;omega
     rcases hc0 with⟨c0,_⟩|⟨k,hk,hkl,c2⟩
     ·skip
      obtain⟨hh,hhe⟩:∃hh,hh=put (put (put (put (put (put (put h (next+12) (.cells 4 [[AV.int .u64 l[A[i]].i.k,AV.int .u8 (t:Int),AV.str l[A[i]].i.x,AV.ro 1 (List.map eS l[A[i]].i.m) l[A[i]].i.e]] true true)) (next+27) (.cells 8 [(AV.int .u64 l[A[i]].i.k::AV.int .u8 (t:Int)::(tr l[A[i]]).c)] true true)) (next+32) (.cells 8 [(AV.int .u64 l[A[i]].i.k::AV.int .u8 (t:Int)::(tr l[A[i]]).c)] true true)) (next+33) (.cells 8 [(AV.int .u64 l[A[i]].i.k::AV.int .u8 (t:Int)::(tr l[A[i]]).c)] true true)) ob (.cells 2 [[.sl (next+33) 8 0 1 1 false,.sl pb 1 0 ks.length ks.length false]] true false)) nb (.cells 4 [[.int .i64 (rb+1),.int .i64 mk,.int .i64 d,.int .i64 0]] true true)) pb (.cells 1 (cs.set t [.sl (id t) 8 0 n cap2 ex]) true false):=⟨_,rfl⟩;have T1:CmI vw ov ls ks ke cap ar fl ra ea ps pe (.sl (next+33) 8 0 1 1 false) pb ob nb lo jO (W.set t (W[t].take n)) [rb+1,mk,d,0] hh (next+88) (cs.set t [.sl (id t) 8 0 n cap2 ex]) (λj=>if j=t then id t else id j):=by
       refine⟨T.R.set t htW (id t) (.inl rfl) bd.1 qqq qqq _ _ (λj hj hjt=>by rw[hhe];have:=T.R.bd j qqq;have:=T.nd j qqq;simp(disch:=omega)only[ak,aj,aF]) (hANY _ (by rw[hhe];simp(disch:=omega)only[ak,aj,aF];exact q4)),by simp[hwl],?_,?_,?_,?_,?_,?_,?_,by omega,λj hj=>?_⟩;any_goals (rw[hhe];simp(disch:=omega)only[ak,aj,aF]<;>first | rfl | exact T.g0 | exact T.g1 | exact T.g2 | exact T.g3 | exact T.gp | exact T.gn)
       ·have h1:=T.nd j hj;have h2:=T.nd t htl;split<;>assumption
      have U1:tJ ks pb ob nb lo (.sl (next+33) 8 0 1 1 false) [⟨l[A[i]].i.k,l[A[i]].i.t,tr l[A[i]]⟩] (next+33) hh (next+88) (λj=>if j=t then id t else id j):=by
       refine .inr ⟨by simp,by simp,?_,by omega,by omega,by omega,by omega,by omega,λj hj=>?_⟩
       ·rw[hhe];simp(disch:=omega)only[ak,aj,aF];simp[ht]
       ·have:=T.R.bd j qqq;have:=T.R.bd t htW;show(if j=t then id t else id j)≠next+33;split<;>omega
      obtain⟨h',n',cs',id',RW',rbk',e1,e2,e3⟩:=ih (i+1) qqq _ [⟨l[A[i]].i.k,l[A[i]].i.t,tr l[A[i]]⟩] _ (W.set t (W[t].take n)) (rb+1) mk d _ _ _ _ T1 U1 qqx qqq qqq qqq qqq hWs;refine⟨h',n',cs',id',RW',rbk',?_,by rw[hcm];exact e2,by rw[hcm];exact e3⟩;rw[hL,<- e1,hhe];simp(disch:=omega) [T.g0,T.g1,T.go,T.gp,T.gn,hAi,ak,aj,aF,H.kk,hat,aK,bH,ltF,gtF,neF,fits,hft,ht,htc,htl,hv,hwn,hncap,hne0,hcap1,hcap0,c0]
     ·skip
      obtain⟨hh,hhe⟩:∃hh,hh=put (put (put (put (put (put (put h (next+12) (.cells 4 [[AV.int .u64 l[A[i]].i.k,AV.int .u8 (t:Int),AV.str l[A[i]].i.x,AV.ro 1 (List.map eS l[A[i]].i.m) l[A[i]].i.e]] true true)) (next+27) (.cells 8 [(AV.int .u64 l[A[i]].i.k::AV.int .u8 (t:Int)::(tr l[A[i]]).c)] true true)) (next+32) (.cells 8 [(AV.int .u64 l[A[i]].i.k::AV.int .u8 (t:Int)::(tr l[A[i]]).c)] true true)) (next+33) (.cells 8 [(AV.int .u64 l[A[i]].i.k::AV.int .u8 (t:Int)::(tr l[A[i]]).c)] true true)) ob (.cells 2 [[.sl (next+33) 8 0 1 1 false,.sl pb 1 0 ks.length ks.length false]] true false)) nb (.cells 4 [[.int .i64 (rb+1),.int .i64 mk,.int .i64 d,.int .i64 0]] true true)) pb (.cells 1 (cs.set t [.sl (id t) 8 0 n cap2 ex]) true false):=⟨_,rfl⟩;have T1:CmI vw ov ls ks ke cap ar fl ra ea ps pe (.sl (next+33) 8 0 1 1 false) pb ob nb lo jO (W.set t (W[t].take n)) [rb+1,mk,d,0] hh (next+88) (cs.set t [.sl (id t) 8 0 n cap2 ex]) (λj=>if j=t then id t else id j):=by
       refine⟨T.R.set t htW (id t) (.inl rfl) bd.1 qqq qqq _ _ (λj hj hjt=>by rw[hhe];have:=T.R.bd j qqq;have:=T.nd j qqq;simp(disch:=omega)only[ak,aj,aF]) (hANY _ (by rw[hhe];simp(disch:=omega)only[ak,aj,aF];exact q4)),by simp[hwl],?_,?_,?_,?_,?_,?_,?_,by omega,λj hj=>?_⟩;any_goals (rw[hhe];simp(disch:=omega)only[ak,aj,aF]<;>first | rfl | exact T.g0 | exact T.g1 | exact T.g2 | exact T.g3 | exact T.gp | exact T.gn)
       ·have h1:=T.nd j hj;have h2:=T.nd t htl;split<;>assumption
      have U1:tJ ks pb ob nb lo (.sl (next+33) 8 0 1 1 false) [⟨l[A[i]].i.k,l[A[i]].i.t,tr l[A[i]]⟩] (next+33) hh (next+88) (λj=>if j=t then id t else id j):=by
       refine .inr ⟨by simp,by simp,?_,by omega,by omega,by omega,by omega,by omega,λj hj=>?_⟩
       ·rw[hhe];simp(disch:=omega)only[ak,aj,aF];simp[ht]
       ·have:=T.R.bd j qqq;have:=T.R.bd t htW;show(if j=t then id t else id j)≠next+33;split<;>omega
      obtain⟨h',n',cs',id',RW',rbk',e1,e2,e3⟩:=ih (i+1) qqq _ [⟨l[A[i]].i.k,l[A[i]].i.t,tr l[A[i]]⟩] _ (W.set t (W[t].take n)) (rb+1) mk d _ _ _ _ T1 U1 qqx qqq qqq qqq qqq hWs;refine⟨h',n',cs',id',RW',rbk',?_,by rw[hcm];exact e2,by rw[hcm];exact e3⟩;rw[hL,<- e1,hhe];simp(disch:=omega) [T.g0,T.g1,T.go,T.gp,T.gn,hAi,ak,aj,aF,H.kk,hat,aK,bH,ltF,gtF,neF,fits,hft,ht,htc,htl,hv,hwn,hncap,hne0,hcap1,hcap0,hk,hkl,c2]
  ·subst u2;obtain⟨L,hL⟩:∃L,L=CK C 0 (aO [.cell 8 2 true,.cell 9 4 true,.tmp 10]) [.sq BG,.bk 2 ⟨true,[12,11,9,8,4],[(9999,65537)]⟩,.sq uN] qG ⟨[(15,.int .i64 i),(12,.ptr nb 0 0),(11,.ptr ob 0 0),(9,.ptr 3 0 0),(8,.ptr 2 0 0),(5,.ptr 1 0 0),(4,.ptr 0 0 0),(3,.ro 1 (A.map eAt) f),(2,.ro 6 (l.map eEn) e)],h,next⟩:=⟨_,rfl⟩;rw[<- hL];rw[au qG.eq_1]at hL;simp(disch:=omega) [T.g0,T.g1,T.go,h3,hAi,ak,aj,aF,H.kk,htree,hrules,aK,bH,ltF,gtF,neF,fits,hft,u3]at hL;by_cases c:nI ra l[A[i]]=true
   ·have hcm:∀O r,cm2 tr ra l (A[i]::r) (O,W,rb,mk)=cm2 tr ra l r (O++[⟨l[A[i]].i.k,l[A[i]].i.t,tr l[A[i]]⟩],W,rb,mk):=by intro O r;simp only[cm2,qqj hAi,c,qyx]
    obtain⟨c1,c2⟩:=qwz _ _ ▸ c;have c1:=qoj c1;obtain⟨hge,hlt⟩:=JK _ _ _ c1;obtain⟨k,hk⟩:∃k:Nat,atF l[A[i]].i.k 0 ra=k:=⟨(atF l[A[i]].i.k 0 ra).toNat,by omega⟩;have hkl:k<ra.length:=by omega
    rw[hk]at c2;simp[hkl]at c2;obtain⟨hh,hhe⟩:∃hh,hh=put (put (del (put (put (put h (next+12) (.cells 4 [[AV.int .u64 l[A[i]].i.k,AV.int .u8 l[A[i]].i.t,AV.str l[A[i]].i.x,AV.ro 1 (List.map eS l[A[i]].i.m) l[A[i]].i.e]] true true)) (next+27) (.cells 8 [(AV.int .u64 l[A[i]].i.k::AV.int .u8 l[A[i]].i.t::(tr l[A[i]]).c)] true true)) (next+32) (.cells 8 [(AV.int .u64 l[A[i]].i.k::AV.int .u8 l[A[i]].i.t::(tr l[A[i]]).c)] true true)) rbk) (next+33) (.cells 8 (eHs O++[(AV.int .u64 l[A[i]].i.k::AV.int .u8 l[A[i]].i.t::(tr l[A[i]]).c)]) true true)) ob (.cells 2 [[.sl (next+33) 8 0 (O.length+1) (O.length+1) false,.sl pb 1 0 ks.length ks.length false]] true false):=⟨_,rfl⟩;have T1:CmI vw ov ls ks ke cap ar fl ra ea ps pe (.sl (next+33) 8 0 (O.length+1) (O.length+1) false) pb ob nb lo jO W [rb,mk,d,0] hh (next+58) cs id:=by
     refine⟨T.R.mono qqq (λj hj=>by rw[hhe];have:=T.R.bd j qqq;have:=T.nd j qqq;have:=u9 j qqq;simp(disch:=omega)only[ak,aj,aF]),by simp[hwl],?_,?_,?_,?_,?_,?_,?_,by omega,λj hj=>?_⟩;any_goals (rw[hhe];simp(disch:=omega)only[ak,aj,aF]<;>first | rfl | exact T.g0 | exact T.g1 | exact T.g2 | exact T.g3 | exact T.gp | exact T.gn)
     ·have:=T.nd j hj;exact this
    have U1:tJ ks pb ob nb lo (.sl (next+33) 8 0 (O.length+1) (O.length+1) false) (O++[⟨l[A[i]].i.k,l[A[i]].i.t,tr l[A[i]]⟩]) (next+33) hh (next+58) id:=by
     refine .inr ⟨by simp,by simp,?_,by omega,by omega,by omega,by omega,by omega,λj hj=>?_⟩
     ·rw[hhe];simp(disch:=omega)only[ak,aj,aF];simp[ht]
     ·have:=T.R.bd j qqq;have:=T.R.bd t htW;omega
    obtain⟨h',n',cs',id',RW',rbk',e1,e2,e3⟩:=ih (i+1) qqq _ (O++[⟨l[A[i]].i.k,l[A[i]].i.t,tr l[A[i]]⟩]) _ W rb mk d _ _ _ _ T1 U1 qqx qqq qqq qqq qqq hW;refine⟨h',n',cs',id',RW',rbk',?_,by rw[hcm];exact e2,by rw[hcm];exact e3⟩;rw[hL,<- e1,hhe];simp(disch:=omega) [T.g0,T.g1,T.go,T.gp,T.gn,hAi,ak,aj,aF,H.kk,hat,aK,bH,ltF,gtF,neF,fits,hft,hk,hkl,c2,u3]
   ·have c':nI ra l[A[i]]=false:=by simpa using c
    have hc0:(∃_:¬0<=atF l[A[i]].i.k 0 ra,True)\/∃k:Nat,atF l[A[i]].i.k 0 ra=k/\∃h:k<ra.length,¬ra[k].t=(t:Int):=by
     by_cases c0:0<=atF l[A[i]].i.k 0 ra
     ·obtain⟨hge,hlt⟩:=JK _ _ _ c0;refine .inr ⟨(atF l[A[i]].i.k 0 ra).toNat,by omega,by omega,λq=>?_⟩;have hkl:(atF l[A[i]].i.k 0 ra).toNat<ra.length:=by omega
      have:nI ra l[A[i]]=true:=by simp[nI,c0,hkl,q,ht]
      exact c this
     ·exact .inl ⟨c0,trivial⟩
    by_cases c3:W[t].length=0
    ·have hcm:∀O r,cm2 tr ra l (A[i]::r) (O,W,rb,mk)=cm2 tr ra l r (O++[⟨l[A[i]].i.k,l[A[i]].i.t,tr l[A[i]]⟩],W,rb,mk+1):=by intro O r;simp only[cm2,qqj hAi,c',hrow,c3,qyx,qxj,qWq]
     rw[c3]at hv;rcases hc0 with⟨c0,_⟩|⟨k,hk,hkl,c2⟩
     ·skip
      obtain⟨hh,hhe⟩:∃hh,hh=put (put (put (del (put (put (put h (next+12) (.cells 4 [[AV.int .u64 l[A[i]].i.k,AV.int .u8 (t:Int),AV.str l[A[i]].i.x,AV.ro 1 (List.map eS l[A[i]].i.m) l[A[i]].i.e]] true true)) (next+27) (.cells 8 [(AV.int .u64 l[A[i]].i.k::AV.int .u8 (t:Int)::(tr l[A[i]]).c)] true true)) (next+32) (.cells 8 [(AV.int .u64 l[A[i]].i.k::AV.int .u8 (t:Int)::(tr l[A[i]]).c)] true true)) rbk) (next+33) (.cells 8 (eHs O++[(AV.int .u64 l[A[i]].i.k::AV.int .u8 (t:Int)::(tr l[A[i]]).c)]) true true)) ob (.cells 2 [[.sl (next+33) 8 0 (O.length+1) (O.length+1) false,.sl pb 1 0 ks.length ks.length false]] true false)) nb (.cells 4 [[.int .i64 rb,.int .i64 (mk+1),.int .i64 d,.int .i64 0]] true true):=⟨_,rfl⟩;have T1:CmI vw ov ls ks ke cap ar fl ra ea ps pe (.sl (next+33) 8 0 (O.length+1) (O.length+1) false) pb ob nb lo jO W [rb,mk+1,d,0] hh (next+73) cs id:=by
       refine⟨T.R.mono qqq (λj hj=>by rw[hhe];have:=T.R.bd j qqq;have:=T.nd j qqq;have:=u9 j qqq;simp(disch:=omega)only[ak,aj,aF]),by simp[hwl],?_,?_,?_,?_,?_,?_,?_,by omega,λj hj=>?_⟩;any_goals (rw[hhe];simp(disch:=omega)only[ak,aj,aF]<;>first | rfl | exact T.g0 | exact T.g1 | exact T.g2 | exact T.g3 | exact T.gp | exact T.gn)
       ·have:=T.nd j hj;exact this
      have U1:tJ ks pb ob nb lo (.sl (next+33) 8 0 (O.length+1) (O.length+1) false) (O++[⟨l[A[i]].i.k,l[A[i]].i.t,tr l[A[i]]⟩]) (next+33) hh (next+73) id:=by
       refine .inr ⟨by simp,by simp,?_,by omega,by omega,by omega,by omega,by omega,λj hj=>?_⟩
       ·rw[hhe];simp(disch:=omega)only[ak,aj,aF];simp[ht]
       ·have:=T.R.bd j qqq;have:=T.R.bd t htW;omega
      obtain⟨h',n',cs',id',RW',rbk',e1,e2,e3⟩:=ih (i+1) qqq _ (O++[⟨l[A[i]].i.k,l[A[i]].i.t,tr l[A[i]]⟩]) _ W rb (mk+1) d _ _ _ _ T1 U1 qqx qqq qqq qqq qqq hW;refine⟨h',n',cs',id',RW',rbk',?_,by rw[hcm];exact e2,by rw[hcm];exact e3⟩;rw[hL,<- e1,hhe];simp(disch:=omega) [T.g0,T.g1,T.go,T.gp,T.gn,hAi,ak,aj,aF,H.kk,hat,aK,bH,ltF,gtF,neF,fits,hft,ht,htc,htl,hv,c0,u3]
     ·skip
      obtain⟨hh,hhe⟩:∃hh,hh=put (put (put (del (put (put (put h (next+12) (.cells 4 [[AV.int .u64 l[A[i]].i.k,AV.int .u8 (t:Int),AV.str l[A[i]].i.x,AV.ro 1 (List.map eS l[A[i]].i.m) l[A[i]].i.e]] true true)) (next+27) (.cells 8 [(AV.int .u64 l[A[i]].i.k::AV.int .u8 (t:Int)::(tr l[A[i]]).c)] true true)) (next+32) (.cells 8 [(AV.int .u64 l[A[i]].i.k::AV.int .u8 (t:Int)::(tr l[A[i]]).c)] true true)) rbk) (next+33) (.cells 8 (eHs O++[(AV.int .u64 l[A[i]].i.k::AV.int .u8 (t:Int)::(tr l[A[i]]).c)]) true true)) ob (.cells 2 [[.sl (next+33) 8 0 (O.length+1) (O.length+1) false,.sl pb 1 0 ks.length ks.length false]] true false)) nb (.cells 4 [[.int .i64 rb,.int .i64 (mk+1),.int .i64 d,.int .i64 0]] true true):=⟨_,rfl⟩;have T1:CmI vw ov ls ks ke cap ar fl ra ea ps pe (.sl (next+33) 8 0 (O.length+1) (O.length+1) false) pb ob nb lo jO W [rb,mk+1,d,0] hh (next+73) cs id:=by
       refine⟨T.R.mono qqq (λj hj=>by rw[hhe];have:=T.R.bd j qqq;have:=T.nd j qqq;have:=u9 j qqq;simp(disch:=omega)only[ak,aj,aF]),by simp[hwl],?_,?_,?_,?_,?_,?_,?_,by omega,λj hj=>?_⟩;any_goals (rw[hhe];simp(disch:=omega)only[ak,aj,aF]<;>first | rfl | exact T.g0 | exact T.g1 | exact T.g2 | exact T.g3 | exact T.gp | exact T.gn)
       ·have:=T.nd j hj;exact this
      have U1:tJ ks pb ob nb lo (.sl (next+33) 8 0 (O.length+1) (O.length+1) false) (O++[⟨l[A[i]].i.k,l[A[i]].i.t,tr l[A[i]]⟩]) (next+33) hh (next+73) id:=by
       refine .inr ⟨by simp,by simp,?_,by omega,by omega,by omega,by omega,by omega,λj hj=>?_⟩
       ·rw[hhe];simp(disch:=omega)only[ak,aj,aF];simp[ht]
       ·have:=T.R.bd j qqq;have:=T.R.bd t htW;omega
      obtain⟨h',n',cs',id',RW',rbk',e1,e2,e3⟩:=ih (i+1) qqq _ (O++[⟨l[A[i]].i.k,l[A[i]].i.t,tr l[A[i]]⟩]) _ W rb (mk+1) d _ _ _ _ T1 U1 qqx qqq qqq qqq qqq hW;refine⟨h',n',cs',id',RW',rbk',?_,by rw[hcm];exact e2,by rw[hcm];exact e3⟩;rw[hL,<- e1,hhe];simp(disch:=omega) [T.g0,T.g1,T.go,T.gp,T.gn,hAi,ak,aj,aF,H.kk,hat,aK,bH,ltF,gtF,neF,fits,hft,ht,htc,htl,hv,hk,hkl,c2,u3]
    ·obtain⟨n,hn⟩:∃n,W[t].length=n+1:=⟨W[t].length-1,by omega⟩;have hcm:∀O r,cm2 tr ra l (A[i]::r) (O,W,rb,mk)=cm2 tr ra l r (O++[⟨l[A[i]].i.k,l[A[i]].i.t,tr l[A[i]]⟩],W.set t (W[t].take n),rb+1,mk):=by
      intro O r;have:W[t].length-1=n:=by omega
      simp only[cm2,qqj hAi,c',hrow,c3,qxj,qWq,hatt,this]
     rw[hn]at hv q1 q2 q3;have hnl:(W[t].take n).length=n:=by simp;omega
     have hes3:=q3;have hwn:IntKind.i64.wrap (n:Int)=n:=aK qqq qqq;have hne0:¬((n:Int)+1=0):=by omega
     have hncap:n<=cap2:=by omega
     have hcap1:n+1<=cap2:=by omega
     have hcap0:0<cap2:=by omega
     have hWs:∀w∈W.set t (W[t].take n),w.length<=1000000:=by
      intro w hw;rcases qXx hw with q | q
      ·exact hW w q
      ·subst q;omega
     have hANY:∀o,o=some (dD.cells 8 (eHs es) true true)->jO o (id t) (.sl (id t) 8 0 n cap2 ex) (W[t].take n):=by rintro o rfl;refine⟨cap2,ex,es,by rw[hnl],by omega,by omega,?_,rfl⟩;rw[hnl,<- hes3,q9j];congr 1;omega
     rcases hc0 with⟨c0,_⟩|⟨k,hk,hkl,c2⟩
     ·skip
      obtain⟨hh,hhe⟩:∃hh,hh=put (put (put (put (del (put (put (put h (next+12) (.cells 4 [[AV.int .u64 l[A[i]].i.k,AV.int .u8 (t:Int),AV.str l[A[i]].i.x,AV.ro 1 (List.map eS l[A[i]].i.m) l[A[i]].i.e]] true true)) (next+27) (.cells 8 [(AV.int .u64 l[A[i]].i.k::AV.int .u8 (t:Int)::(tr l[A[i]]).c)] true true)) (next+32) (.cells 8 [(AV.int .u64 l[A[i]].i.k::AV.int .u8 (t:Int)::(tr l[A[i]]).c)] true true)) rbk) (next+33) (.cells 8 (eHs O++[(AV.int .u64 l[A[i]].i.k::AV.int .u8 (t:Int)::(tr l[A[i]]).c)]) true true)) ob (.cells 2 [[.sl (next+33) 8 0 (O.length+1) (O.length+1) false,.sl pb 1 0 ks.length ks.length false]] true false)) nb (.cells 4 [[.int .i64 (rb+1),.int .i64 mk,.int .i64 d,.int .i64 0]] true true)) pb (.cells 1 (cs.set t [.sl (id t) 8 0 n cap2 ex]) true false):=⟨_,rfl⟩;have T1:CmI vw ov ls ks ke cap ar fl ra ea ps pe (.sl (next+33) 8 0 (O.length+1) (O.length+1) false) pb ob nb lo jO (W.set t (W[t].take n)) [rb+1,mk,d,0] hh (next+88) (cs.set t [.sl (id t) 8 0 n cap2 ex]) (λj=>if j=t then id t else id j):=by
       refine⟨T.R.set t htW (id t) (.inl rfl) bd.1 qqq qqq _ _ (λj hj hjt=>by rw[hhe];have:=T.R.bd j qqq;have:=T.nd j qqq;have:=u9 j qqq;simp(disch:=omega)only[ak,aj,aF]) (hANY _ (by rw[hhe];have:=u9 t htl;simp(disch:=omega)only[ak,aj,aF];exact q4)),by simp[hwl],?_,?_,?_,?_,?_,?_,?_,by omega,λj hj=>?_⟩;any_goals (rw[hhe];simp(disch:=omega)only[ak,aj,aF]<;>first | rfl | exact T.g0 | exact T.g1 | exact T.g2 | exact T.g3 | exact T.gp | exact T.gn)
       ·have h1:=T.nd j hj;have h2:=T.nd t htl;split<;>assumption
      have U1:tJ ks pb ob nb lo (.sl (next+33) 8 0 (O.length+1) (O.length+1) false) (O++[⟨l[A[i]].i.k,l[A[i]].i.t,tr l[A[i]]⟩]) (next+33) hh (next+88) (λj=>if j=t then id t else id j):=by
       refine .inr ⟨by simp,by simp,?_,by omega,by omega,by omega,by omega,by omega,λj hj=>?_⟩
       ·rw[hhe];simp(disch:=omega)only[ak,aj,aF];simp[ht]
       ·have:=T.R.bd j qqq;have:=T.R.bd t htW;show(if j=t then id t else id j)≠next+33;split<;>omega
      obtain⟨h',n',cs',id',RW',rbk',e1,e2,e3⟩:=ih (i+1) qqq _ (O++[⟨l[A[i]].i.k,l[A[i]].i.t,tr l[A[i]]⟩]) _ (W.set t (W[t].take n)) (rb+1) mk d _ _ _ _ T1 U1 qqx qqq qqq qqq qqq hWs;refine⟨h',n',cs',id',RW',rbk',?_,by rw[hcm];exact e2,by rw[hcm];exact e3⟩;rw[hL,<- e1,hhe];simp(disch:=omega) [T.g0,T.g1,T.go,T.gp,T.gn,hAi,ak,aj,aF,H.kk,hat,aK,bH,ltF,gtF,neF,fits,hft,ht,htc,htl,hv,hwn,hncap,hne0,hcap1,hcap0,c0,u3]
     ·skip
      obtain⟨hh,hhe⟩:∃hh,hh=put (put (put (put (del (put (put (put h (next+12) (.cells 4 [[AV.int .u64 l[A[i]].i.k,AV.int .u8 (t:Int),AV.str l[A[i]].i.x,AV.ro 1 (List.map eS l[A[i]].i.m) l[A[i]].i.e]] true true)) (next+27) (.cells 8 [(AV.int .u64 l[A[i]].i.k::AV.int .u8 (t:Int)::(tr l[A[i]]).c)] true true)) (next+32) (.cells 8 [(AV.int .u64 l[A[i]].i.k::AV.int .u8 (t:Int)::(tr l[A[i]]).c)] true true)) rbk) (next+33) (.cells 8 (eHs O++[(AV.int .u64 l[A[i]].i.k::AV.int .u8 (t:Int)::(tr l[A[i]]).c)]) true true)) ob (.cells 2 [[.sl (next+33) 8 0 (O.length+1) (O.length+1) false,.sl pb 1 0 ks.length ks.length false]] true false)) nb (.cells 4 [[.int .i64 (rb+1),.int .i64 mk,.int .i64 d,.int .i64 0]] true true)) pb (.cells 1 (cs.set t [.sl (id t) 8 0 n cap2 ex]) true false):=⟨_,rfl⟩;have T1:CmI vw ov ls ks ke cap ar fl ra ea ps pe (.sl (next+33) 8 0 (O.length+1) (O.length+1) false) pb ob nb lo jO (W.set t (W[t].take n)) [rb+1,mk,d,0] hh (next+88) (cs.set t [.sl (id t) 8 0 n cap2 ex]) (λj=>if j=t then id t else id j):=by
       refine⟨T.R.set t htW (id t) (.inl rfl) bd.1 qqq qqq _ _ (λj hj hjt=>by rw[hhe];have:=T.R.bd j qqq;have:=T.nd j qqq;have:=u9 j qqq;simp(disch:=omega)only[ak,aj,aF]) (hANY _ (by rw[hhe];have:=u9 t htl;simp(disch:=omega)only[ak,aj,aF];exact q4)),by simp[hwl],?_,?_,?_,?_,?_,?_,?_,by omega,λj hj=>?_⟩;any_goals (rw[hhe];simp(disch:=omega)only[ak,aj,aF]<;>first | rfl | exact T.g0 | exact T.g1 | exact T.g2 | exact T.g3 | exact T.gp | exact T.gn)
       ·have h1:=T.nd j hj;have h2:=T.nd t htl;split<;>assumption
      have U1:tJ ks pb ob nb lo (.sl (next+33) 8 0 (O.length+1) (O.length+1) false) (O++[⟨l[A[i]].i.k,l[A[i]].i.t,tr l[A[i]]⟩]) (next+33) hh (next+88) (λj=>if j=t then id t else id j):=by
       refine .inr ⟨by simp,by simp,?_,by omega,by omega,by omega,by omega,by omega,λj hj=>?_⟩
       ·rw[hhe];simp(disch:=omega)only[ak,aj,aF];simp[ht]
       ·have:=T.R.bd j qqq;have:=T.R.bd t htW;show(if j=t then id t else id j)≠next+33;split<;>omega
      obtain⟨h',n',cs',id',RW',rbk',e1,e2,e3⟩:=ih (i+1) qqq _ (O++[⟨l[A[i]].i.k,l[A[i]].i.t,tr l[A[i]]⟩]) _ (W.set t (W[t].take n)) (rb+1) mk d _ _ _ _ T1 U1 qqx qqq qqq qqq qqq hWs;refine⟨h',n',cs',id',RW',rbk',?_,by rw[hcm];exact e2,by rw[hcm];exact e3⟩;rw[hL,<- e1,hhe];simp(disch:=omega) [T.g0,T.g1,T.go,T.gp,T.gn,hAi,ak,aj,aF,H.kk,hat,aK,bH,ltF,gtF,neF,fits,hft,ht,htc,htl,hv,hwn,hncap,hne0,hcap1,hcap0,hk,hkl,c2,u3]
end
def cmF(tr:En->Nd)(ks:List Kd)(ra:List Hd)(W:List (List Hd))(l:List En)(A:List Nat):List Hd×List (List Hd)×Int×Int×Int :=
 let s:=cm1 ks l A ra (W,0);let u:=cm2 tr ra l A ([],s.1,0,0)
 (u.1,u.2.1,u.2.2.1,u.2.2.2,s.2)
abbrev aCn(rb mk d lv:Int):AV:=.agg [.int .i64 rb,.int .i64 mk,.int .i64 d,.int .i64 lv]
theorem XW{h:aI}{lo hi pb rb:Nat}{id:Nat->Nat}{cs:List (List AV)}{W:List (List Hd)}{O:List Hd}{RW:AV}(hR:(O=[]/\RW=.ro 8 [] true)\/(RW=.sl rb 8 0 O.length O.length false/\Pav.get h rb=some (.cells 8 (eHs O) true true)))
 (R:kG jO h lo hi id cs W) (gp:Pav.get h pb=some (.cells 1 cs true false)) (r:Nat) (hr:r=W.length) (n:Nat):∃eo ps' pe',ps'.map (·.1)=W/\bD h (n+4) (.agg [RW,.sl pb 1 0 r r false])=some (aSt O eo ps' pe'):=by
 subst hr;obtain⟨ps,pe,h1,h2⟩:=R.pK (enc:=eHs) (z:=8) n (λb v d q=>jO.frz q n) (mu:=true) (cap:=W.length) (ex:=false);rcases hR with⟨rfl,rfl⟩|⟨rfl,h3⟩
 ·refine⟨true,ps,pe,h1,?_⟩;rw[fO];simp only[aZ,Hf,ji,gp,h2,ob,om,ED];rfl
 ·refine⟨false,ps,pe,h1,?_⟩;have h4:List.take O.length (eHs O)=eHs O:=qxz qqz;rw[fO];simp only[aZ,ji,gp,h2,h3,ob,om,ED];simp only[Pw.pK,qjz,h4,qQj,qlj,og,qiz,ob,om,ED];rfl
theorem CmI.any{vw ov ls:Int}{ks:List Kd}{ke:Bool}{cap ar fl:Int}{ra:List Hd}{ea:Bool}{ps:List Pl}{pe:Bool}{RW:AV}{pb ob nb lo:Nat}{W:List (List Hd)}{N:List Int}{h:aI}{next:Nat}{cs:List (List AV)}{id:Nat->Nat}
 (T:CmI vw ov ls ks ke cap ar fl ra ea ps pe RW pb ob nb lo nM W N h next cs id):CmI vw ov ls ks ke cap ar fl ra ea ps pe RW pb ob nb lo jO W N h next cs id :=
 ⟨T.R.weak (λ_ _ _ _ q=>q.any),T.wl,T.go,T.gp,T.gn,T.g0,T.g1,T.g2,T.g3,T.ne,T.nd⟩
theorem Aa(ks:List Kd)(l:List En)(A:List Nat):∀(ra:List Hd) (s:List (List Hd)×Int) (B:Nat),(∀w∈s.1,w.length<=B)->∀w∈(cm1 ks l A ra s).1,w.length<=B+ra.length
 |[],s,B,h,w,hw=>by simpa using h w hw
 |x::r,s,B,h,w,hw=>by
  simp only[cm1]at hw;have:=Aa ks l A r _ (B+1) (by
   intro w hw;split at hw
   ·have:=h w hw;omega
   ·split at hw
    ·have:=h w hw;omega
    ·rcases qXx hw with q | q
     ·have:=h w q;omega
     ·subst q;have:(rowAt s.1 x.t).length<=B:=by
       unfold rowAt;cases hq:s.1[x.t.toNat]? with
       |none=>simp
       |some y=>exact h y (qwj hq)
      simp;omega) w hw
  simp only[qQx];omega
theorem qK(tr:En->Nd)(ra:List Hd)(l:List En):∀(A:List Nat) (s:List Hd×List (List Hd)×Int×Int) (B:Nat),(∀w∈s.2.1,w.length<=B) ->
 (cm2 tr ra l A s).1.length<=s.1.length+A.length/\(∀w∈(cm2 tr ra l A s).2.1,w.length<=B)/\(cm2 tr ra l A s).2.1.length=s.2.1.length
 |[],s,B,h=>by simpa [cm2]using h
 |a::r,s,B,h=>by
  simp only[cm2];cases l[a]? with
  |none=>have:=qK tr ra l r s B h;simp only[qQx];exact⟨by omega,this.2⟩
  |some e=>
   simp only;split
   ·have:=qK tr ra l r (s.1++[⟨e.i.k,e.i.t,tr e⟩],s.2) B h;simp only[qQx,qdx,qJx]at this |-;exact⟨by omega,this.2⟩
   ·split
    ·have:=qK tr ra l r (s.1++[⟨e.i.k,e.i.t,tr e⟩],s.2.1,s.2.2.1,s.2.2.2+1) B h;simp only[qQx,qdx,qJx]at this |-;exact⟨by omega,this.2⟩
    ·have:=qK tr ra l r (s.1++[⟨e.i.k,e.i.t,tr e⟩],s.2.1.set e.i.t.toNat ((rowAt s.2.1 e.i.t).take ((rowAt s.2.1 e.i.t).length-1)),s.2.2.1+1,s.2.2.2) B (by
      intro w hw;rcases qXx hw with q | q
      ·exact h w q
      ·subst q;have:(rowAt s.2.1 e.i.t).length<=B:=by
        unfold rowAt;cases hq:s.2.1[e.i.t.toNat]? with
        |none=>simp
        |some y=>exact h y (qwj hq)
       simp;omega)
     simp only[qQx,qdx,qJx,q0x]at this |-;exact⟨by omega,this.2⟩
theorem Oj(h:aI)(n:Nat)(a b c d:Int):bD h (n+2) (aCn a b c d)=some (aCn a b c d):=rfl
theorem zL(H:Yu C)(tr:En->Nd)(vw ov ls:Int)(ks:List Kd)(ke:Bool)(cap ar fl:Int)(ra:List Hd)(ea:Bool)(ps:List Pl)(pe:Bool)(l:List En)(e:Bool)(A:List Nat)(f:Bool)
 (hA:A.length<=1000) (hAl:∀a∈A,a<l.length) (hra:ra.length<=1000) (hpk:ps.length=ks.length) (hkl:ks.length<=1000) (hk0:0<ks.length) (hps:∀p∈ps,p.1.length<=100000)
 (hty:∀x∈l,∃t:Nat,x.i.t=t/\t<ks.length) (htyr:∀x∈ra,∃t:Nat,x.t=t/\t<ks.length) (htr:∀(a:Nat) (h:a<l.length),FnW C 417 [aR ks ke cap,.ro 6 (l.map eEn) e,.int .i64 a]=some (.agg (tr l[a]).c)) :
 ∃(ps':List Pl) (ea' pe':Bool),ps'.map (·.1)=(cmF tr ks ra (ps.map (·.1)) l A).2.1 /\
  FnW C 285 [.agg (cCf vw ov ls ks ke cap ar fl),aSt ra ea ps pe,.ro 6 (l.map eEn) e,.ro 1 (A.map eAt) f]=some (.tup (
   if live ((cmF tr ks ra (ps.map (·.1)) l A).1::(cmF tr ks ra (ps.map (·.1)) l A).2.1) > ar then[aSt [] true [] true,aCn 0 0 0 0,.int .i64 15]
   else[aSt (cmF tr ks ra (ps.map (·.1)) l A).1 ea' ps' pe',aCn (cmF tr ks ra (ps.map (·.1)) l A).2.2.1 (cmF tr ks ra (ps.map (·.1)) l A).2.2.2.1 (cmF tr ks ra (ps.map (·.1)) l A).2.2.2.2 (live ((cmF tr ks ra (ps.map (·.1)) l A).1::(cmF tr ks ra (ps.map (·.1)) l A).2.1)),.int .i64 0])):=by
 obtain⟨v,h',n',e1,Rv,pb,cs,id,lo,rfl,e2,R,gp,l1,l2,l3,l4,l5⟩:=MS H.toac1 ra ea ps pe qqq qqq qqq (λp hp=>by have:=hps p hp;omega) [(0,.cells 7 [cCf vw ov ls ks ke cap ar fl] true true),(1,.cells 2 [[.ro 8 (ra.map eHd) ea,.ro 1 (ps.map ePl) pe]] true true),(2,.cells 2 [[.ro 8 [] true,.ro 1 [] true]] true true),(3,.cells 4 [[.int .i64 0,.int .i64 0,.int .i64 0,.int .i64 0]] true true)] 7;have g0:=l5 0 qqq;have g1:=l5 1 qqq;have g2:=l5 2 qqq;have g3:=l5 3 qqq;simp at g0 g1 g2 g3;rw[hpk]at e1 l4;rw[aN H.f285 rfl];obtain⟨L,hL⟩:∃L,L=CK C 0 (aO XT.res) [] XT.body ⟨Fh 0 [.agg (cCf vw ov ls ks ke cap ar fl),aSt ra ea ps pe,.ro 6 (l.map eEn) e,.ro 1 (A.map eAt) f] [],[],0⟩:=⟨_,rfl⟩;rw[<- hL];have hL1:L=CK C 0 (aO [.cell 8 2 true,.cell 9 4 true,.tmp 10]) [.sq IY,.bk 0 ⟨true,[12,11,9,8,5,4,3,2],[(9999,65537)]⟩,.sq Bl] oH
  ⟨[(13,.int .i64 (0:Nat)),(12,.ptr (n'+4) 0 0),(11,.ptr n' 0 0),(9,.ptr 3 0 0),(8,.ptr 2 0 0),(5,.ptr 1 0 0),(4,.ptr 0 0 0),(3,.ro 1 (A.map eAt) f),(2,.ro 6 (l.map eEn) e)],
   put (put h' n' (.cells 2 [[.ro 8 [] true,.sl pb 1 0 ks.length ks.length false]] true false)) (n'+4) (.cells 4 [[.int .i64 0,.int .i64 0,.int .i64 0,.int .i64 0]] true true),n'+6⟩:=by
  rw[hL];rcases e2 with⟨_,rfl⟩|⟨_,rb0,rfl,_⟩
  ·simp(disch:=omega) [XT,H.kk,e1,ak,aj,bH]
  ·simp(disch:=omega) [XT,H.kk,e1,ak,aj,bH]
 have T0:CmI vw ov ls ks ke cap ar fl ra ea ps pe (.ro 8 [] true) pb n' (n'+4) lo nM (ps.map (·.1)) [0,0,0,0] (put (put h' n' (.cells 2 [[.ro 8 [] true,.sl pb 1 0 ks.length ks.length false]] true false)) (n'+4) (.cells 4 [[.int .i64 0,.int .i64 0,.int .i64 0,.int .i64 0]] true true)) (n'+6) cs id:=by
  refine⟨R.mono qqq (λj hj=>by have:=R.bd j hj;simp(disch:=omega)only[ak,aj]),by simpa using hpk,?_,?_,?_,?_,?_,?_,?_,by omega,λj hj=>?_⟩
  ·simp(disch:=omega)only[ak,aj]
  ·simp(disch:=omega)only[ak,aj];exact gp
  ·simp(disch:=omega)only[ak,aj];rfl
  ·simp(disch:=omega)only[ak,aj];exact g0
  ·simp(disch:=omega)only[ak,aj];exact g1
  ·simp(disch:=omega)only[ak,aj];exact g2
  ·simp(disch:=omega)only[ak,aj];exact g3
  ·have h1:=R.bd j qqx;have h2:=l4 j hj;omega
 obtain⟨h1,n1,cs1,id1,x1,T1⟩:=acd vw ov ls ks ke cap ar fl ra ea ps pe H.toac1 l e A f qqq hAl hra htyr pb n' (n'+4) lo ra.length 0 qqz (ps.map (·.1)) 0 _ _ _ _ T0 (λw hw=>by obtain⟨p,hp,rfl⟩:=qkx.1 hw;have:=hps p hp;omega) qqq qqq;rw[qjz]at T1;have hl1:=Aa ks l A ra (ps.map (·.1),0) 100000 (λw hw=>by obtain⟨p,hp,rfl⟩:=qkx.1 hw;exact hps p hp);obtain⟨h2,n2,cs2,id2,RW,rbk,x2,T2,U2⟩:=ac9 vw ov ls ks ke cap ar fl ra ea ps pe H tr l e A f hA hAl qqq hty htr pb n' (n'+4) lo A.length 0 qqz (.ro 8 [] true) [] 0 _ 0 0 _ h1 (n1+1) cs1 id1 (T1.any.later vw ov ls ks ke cap ar fl ra ea ps pe qqq (λ_ _=>rfl)) (.inl ⟨rfl,rfl⟩) qqx qqq qqq qqq qqq (λw hw=>by have:=hl1 w hw;omega);rw[qjz]at T2 U2;obtain⟨L2,hL2⟩:∃L2,L2=CK C 0 (aO [.cell 8 2 true,.cell 9 4 true,.tmp 10]) [] uN ⟨[(12,.ptr (n'+4) 0 0),(11,.ptr n' 0 0),(9,.ptr 3 0 0),(8,.ptr 2 0 0),(4,.ptr 0 0 0)],h2,n2⟩:=⟨_,rfl⟩;have hL3:L=L2:=by rw[<- hL2]at x2;simp at x2;rw[hL1,x1,au Bl.eq_1];simp[x2]
 have hl2:=qK tr ra l A ([],(cm1 ks l A ra (ps.map (·.1),0)).1,0,0) _ hl1;rw[hL3];unfold cmF;simp only;simp only[qJx,qXj]at hl2;generalize hS:cm1 ks l A ra (ps.map (·.1),0)=S at *;generalize hV:cm2 tr ra l A ([],S.1,0,0)=V at *;have hR2:(V.1=[]/\RW=.ro 8 [] true)\/(RW=.sl rbk 8 0 V.1.length V.1.length false/\Pav.get h2 rbk=some (.cells 8 (eHs V.1) true true)):=by
  rcases U2 with u|⟨_,u2,u3,_⟩
  ·exact .inl u
  ·exact .inr ⟨u2,u3⟩
 have hR4:∀hf:aI,(∀j,lo<=j->j≠n'+4->Pav.get hf j=Pav.get h2 j)->(V.1=[]/\RW=.ro 8 [] true)\/(RW=.sl rbk 8 0 V.1.length V.1.length false/\Pav.get hf rbk=some (.cells 8 (eHs V.1) true true)):=by
  intro hf hg;rcases U2 with u|⟨_,u2,u3,u4,u5,u6,u7,u8,_⟩
  ·exact .inl u
  ·exact .inr ⟨u2,by rw[hg _ u4 u8];exact u3⟩
 have ne:=T2.ne;obtain⟨eo,ps1,pe1,f1,f2⟩:=XW hR2 T2.R T2.gp ks.length T2.wl.symm 12;have hlv:=Na H.tooq V.1 eo ps1 pe1 qqq (λp hp=>by have:=hl2.2.1 p.1 (by rw[<- f1];exact qkx.2 ⟨p,hp,rfl⟩);omega) (by have:=congrArg List.length f1;simp at this;have:=T2.wl;omega);rw[f1]at hlv;obtain⟨lv,hlve⟩:∃lv,live (V.1::V.2.1)=lv:=⟨_,rfl⟩;rw[hlve]at hlv;have hcell:AV.cell RW=true:=by rcases hR2 with⟨_,rfl⟩|⟨rfl,_⟩<;>rfl
 rw[hL2,au uN.eq_1];clear hV hS hL2 hL3 x1 x2 hL1 hL;by_cases c:lv > ar
 ·refine⟨ps1,eo,pe1,f1,?_⟩;rw[hlve,qzq c];rcases hR2 with⟨q1,rfl⟩|⟨rfl,q3⟩
  ·rw[q1]at f2 hlv;simp(disch:=omega) [T2.go,T2.gn,T2.g0,T2.g2,T2.g3,ak,aj,H.kk,f2,hlv,c,-fO,bH];rfl
  ·simp(disch:=omega) [T2.go,T2.gn,T2.g0,T2.g2,T2.g3,ak,aj,H.kk,f2,hlv,c,-fO,bH];rfl
 ·rw[hlve];rcases hR2 with⟨q1,rfl⟩|⟨rfl,q3⟩
  ·obtain⟨hf,hfe⟩:∃hf,hf=put (put (put h2 (n'+4) (.cells 4 [[.int .i64 V.2.2.1,.int .i64 V.2.2.2,.int .i64 S.2,.int .i64 lv]] true true)) 2 (.cells 2 [[.ro 8 [] true,.sl pb 1 0 ks.length ks.length false]] true false)) 3 (.cells 4 [[.int .i64 V.2.2.1,.int .i64 V.2.2.2,.int .i64 S.2,.int .i64 lv]] true true):=⟨_,rfl⟩;have hg:∀j,lo<=j->j≠n'+4->Pav.get hf j=Pav.get h2 j:=λj h1 h2=>by rw[hfe];simp(disch:=omega)only[aj]
   obtain⟨eo',ps2,pe2,f3,f4⟩:=XW (hR4 hf hg) (T2.R.mono (qxx _) (λj hj=>hg _ (T2.R.bd j hj).1 (T2.nd j (by rw[<- T2.wl];exact hj)).2.2)) (by rw[hg _ qqq qqq];exact T2.gp) ks.length T2.wl.symm 11;refine⟨ps2,eo',pe2,f3,?_⟩;rw[qwx c];rw[hfe]at f4;rw[q1]at f2 hlv;simp(disch:=omega) [T2.go,T2.gn,T2.g0,T2.g2,T2.g3,ak,aj,H.kk,f2,hlv,c,-fO,bH];rw[f4,Oj];rfl
  ·obtain⟨hf,hfe⟩:∃hf,hf=put (put (put h2 (n'+4) (.cells 4 [[.int .i64 V.2.2.1,.int .i64 V.2.2.2,.int .i64 S.2,.int .i64 lv]] true true)) 2 (.cells 2 [[.sl rbk 8 0 V.1.length V.1.length false,.sl pb 1 0 ks.length ks.length false]] true false)) 3 (.cells 4 [[.int .i64 V.2.2.1,.int .i64 V.2.2.2,.int .i64 S.2,.int .i64 lv]] true true):=⟨_,rfl⟩;have hg:∀j,lo<=j->j≠n'+4->Pav.get hf j=Pav.get h2 j:=λj h1 h2=>by rw[hfe];simp(disch:=omega)only[aj]
   obtain⟨eo',ps2,pe2,f3,f4⟩:=XW (hR4 hf hg) (T2.R.mono (qxx _) (λj hj=>hg _ (T2.R.bd j hj).1 (T2.nd j (by rw[<- T2.wl];exact hj)).2.2)) (by rw[hg _ qqq qqq];exact T2.gp) ks.length T2.wl.symm 11;refine⟨ps2,eo',pe2,f3,?_⟩;rw[qwx c];rw[hfe]at f4;simp(disch:=omega) [T2.go,T2.gn,T2.g0,T2.g2,T2.g3,ak,aj,H.kk,f2,hlv,c,-fO,bH];rw[f4,Oj];rfl
end Go.D
end
section
namespace Go.D
open Go Go.Pav Go.Pw P
attribute [-simp] List.getElem_cons_drop
variable {C:aJ}
theorem adR(H:JA C)(a b:List (Bs×Bs))(e f:Bool)(hl:a.length=b.length)(hm:a.length<=9223372036854775807):∀n i,n+i=a.length ->
 yS C ⟨[(13,.int .i64 i),(12,.int .i64 a.length),(1,.ro 2 (b.map eA) f),(0,.ro 2 (a.map eA) e)],[],0⟩=some (.bool (decide (a.drop i=b.drop i))):=by
 intro n;induction n with
 |zero=>
  intro i hi;have h1:a.drop i=[]:=qzx qqq;have h2:b.drop i=[]:=qzx qqq;have h3:¬i<a.length:=by omega
  simp only[yS];rw[au tN.eq_1];simp(disch:=omega) [au Oc.eq_1,h1,h2,h3]
 |succ n ih=>
  intro i hi;have h1:i<a.length:=by omega
  have h2:i<b.length:=by omega
  have this:=ih (i+1) qqq;rw[drop_cons h1,drop_cons h2];by_cases c1:a[i].1=b[i].1
  ·by_cases c2:a[i].2=b[i].2
   ·have c:a[i]=b[i]:=Prod.ext c1 c2;have hq:decide (a[i]::a.drop (i+1)=b[i]::b.drop (i+1))=decide (a.drop (i+1)=b.drop (i+1)):=by simp[c]
    rw[hq];generalize decide (a.drop (i+1)=b.drop (i+1))=X at *;simp only[yS]at this |-;rw[au tN.eq_1];simp at this;simp(disch:=omega) [h1,h2,qQz c1,qQz c2,aK,this]
   ·have hq:decide (a[i]::a.drop (i+1)=b[i]::b.drop (i+1))=false:=by rw[qfj];intro q;exact c2 (congrArg Prod.snd (zzq q).1)
    rw[hq];simp only[yS];rw[au tN.eq_1];simp(disch:=omega) [h1,h2,qQz c1,c2,aK]
  ·have hq:decide (a[i]::a.drop (i+1)=b[i]::b.drop (i+1))=false:=by rw[qfj];intro q;exact c1 (congrArg Prod.fst (zzq q).1)
   rw[hq];simp only[yS];rw[au tN.eq_1];simp(disch:=omega) [h1,h2,c1,aK]
theorem akN(H:JA C)(a b:List (Bs×Bs))(e f:Bool)(hm:a.length<=9223372036854775807):FnW C 551 [.ro 2 (a.map eA) e,.ro 2 (b.map eA) f]=some (.bool (decide (a=b))):=by
 rw[aN H.ao6 rfl];by_cases c:a.length=b.length
 ·have h:=adR H a b e f c hm a.length 0 qqz;rw[qjz,qjz]at h;generalize decide (a=b)=X at *;simp only[yS]at h;simp at h;simp[aeZ,qQz c,h]
 ·have c2:decide (a=b)=false:=by simp;intro q;exact c (by rw[q])
  rw[c2];simp[aeZ,c]
structure Rw where
 k:Int
 t:Int
 s:Int
 n:Nd
@[simp] def eRw(r:Rw):List AV:=[.int .u64 r.k,.int .i64 r.t,.int .i64 r.s,.int .u8 r.n.k,.str r.n.t,.str r.n.y,.ro 2 (r.n.a.map eA) r.n.ae,.str r.n.x,.ro 6 (r.n.ch.map Nd.c) r.n.ce]
structure Sc where
 o:Int
 r:List Rw
 e:Bool
 p:Bool
 h:Rw
@[simp] def eSc(x:Sc):List AV:=[.int .i64 x.o,.ro 9 (x.r.map eRw) x.e,.bool x.p,.int .u64 x.h.k,.int .i64 x.h.t,.int .i64 x.h.s,.int .u8 x.h.n.k,.str x.h.n.t,.str x.h.n.y,.ro 2 (x.h.n.a.map eA) x.h.n.ae,.str x.h.n.x,.ro 6 (x.h.n.ch.map Nd.c) x.h.n.ce]
structure wV(C:aJ):Prop extends oq C where
 f298:GwC C 298 acw
 apq:GwC C 443 aiW
 aod:GwC C 521 acj
 aor:GwC C 522 ZP
 aoh:GwC C 444 aci
 apw:GwC C 523 N8
 f289:GwC C 289 adb
 ado:GwC C 438 Qa
theorem Zy(H:wV C)(a b:List Nd)(e f:Bool)(hl:a.length=b.length)(hm:a.length<=9223372036854775807)(ih:∀c∈a,∀m:Nd,FnW C 523 [.agg c.c,.agg m.c]=some (.bool (eqN c m))):∀n i,n+i=a.length ->
 Dz C ⟨[(17,.int .i64 i),(16,.int .i64 a.length),(15,.ro 6 (a.map Nd.c) e),(2,.fn 523 []),(1,.ro 6 (b.map Nd.c) f)],[],0⟩=some (.bool (lQ (a.drop i) (b.drop i))):=by
 intro n;induction n with
 |zero=>
  intro i hi;have h1:a.drop i=[]:=qzx qqq;have h2:b.drop i=[]:=qzx qqq;have h3:¬i<a.length:=by omega
  simp only[Dz];rw[au yC.eq_1];simp(disch:=omega) [au Qe.eq_1,h1,h2,h3,lQ]
 |succ n ihn=>
  intro i hi;have h1:i<a.length:=by omega
  have h2:i<b.length:=by omega
  have this:=ihn (i+1) qqq;have hs:=ih a[i] (qxq h1) b[i];rw[drop_cons h1,drop_cons h2,lQ];generalize lQ (a.drop (i+1)) (b.drop (i+1))=X at *;cases c:eqN a[i] b[i]
  ·rw[c]at hs;simp only[Dz];rw[au yC.eq_1];simp(disch:=omega) [h1,h2,hs,aK,H.kk]
  ·rw[c]at hs;simp only[Dz]at this |-;rw[au yC.eq_1];simp at this;simp(disch:=omega) [h1,h2,hs,aK,H.kk,this]
theorem ZQ(H:wV C){a:Nd}(ha:zu a):∀b:Nd,FnW C 523 [.agg a.c,.agg b.c]=some (.bool (eqN a b)):=by
 induction ha with
 |mk a h1 h2 h ih=>
  intro b;have k1:=akN H.toJA a.a b.a a.ae b.ae h1;have k2:FnW C 552 [.ro 6 (a.ch.map Nd.c) a.ce,.ro 6 (b.ch.map Nd.c) b.ce,.fn 523 []]=some (.bool (lQ a.ch b.ch)):=by
   rw[aN H.toJA.anX rfl];by_cases c:a.ch.length=b.ch.length
   ·have k:=Zy H a.ch b.ch a.ce b.ce c h2 ih a.ch.length 0 qqz;rw[qjz,qjz]at k;generalize lQ a.ch b.ch=X at *;simp only[Dz]at k;simp at k;simp[aem,qQz c,k]
   ·have hq:lQ a.ch b.ch=false:=by
     cases q:lQ a.ch b.ch
     ·rfl
     ·exact absurd (KO _ _ q) c
    rw[hq];simp[aem,c]
  rw[aN H.apw rfl,aeu];generalize lQ a.ch b.ch=X at *;by_cases c1:a.k=b.k
  ·by_cases c2:a.t=b.t
   ·by_cases c3:a.y=b.y
    ·by_cases c4:a.x=b.x
     ·by_cases c5:a.a=b.a
      ·rw[qgj c5]at k1;simp(disch:=omega) [N8,qQz c1,qQz c2,qQz c3,qQz c4,qQz c5,k1,k2,H.kk]
      ·rw[qKj c5]at k1;simp(disch:=omega) [N8,qQz c1,qQz c2,qQz c3,qQz c4,c5,k1,H.kk]
     ·simp(disch:=omega) [N8,qQz c1,qQz c2,qQz c3,c4]
    ·simp(disch:=omega) [N8,qQz c1,qQz c2,c3]
   ·simp(disch:=omega) [N8,qQz c1,c2]
  ·simp(disch:=omega) [N8,c1]
theorem agj(H:wV C)(a b:Hd)(ha:zu a.n):FnW C 522 [.agg (eHd a),.agg (eHd b)]=some (.bool (decide (a.k=b.k)&&decide (a.t=b.t)&&eqN a.n b.n)):=by
 have k:=ZQ H ha b.n;rw[Nd.bU,Nd.bU]at k;rw[aN H.aor rfl];unfold eHd;rw[Nd.bU,Nd.bU];generalize eqN a.n b.n=X at *;by_cases c1:a.k=b.k
 ·by_cases c2:a.t=b.t
  ·simp(disch:=omega) [ZP,qQz c1,qQz c2,k,H.kk]
  ·simp(disch:=omega) [ZP,qQz c1,c2]
 ·simp(disch:=omega) [ZP,c1]
theorem adh(H:wV C)(a b:List Hd)(e f:Bool)(hl:a.length=b.length)(hm:a.length<=1000000)(hi:∀x∈a,zu x.n):∀n i,n+i=a.length ->
 Ci C ⟨[(17,.int .i64 i),(16,.int .i64 a.length),(15,.ro 8 (a.map eHd) e),(2,.fn 522 []),(1,.ro 8 (b.map eHd) f)],[],0⟩=some (.bool (eY (a.drop i) (b.drop i))):=by
 intro n;induction n with
 |zero=>
  intro i hi';have h1:a.drop i=[]:=qzx qqq;have h2:b.drop i=[]:=qzx qqq;have h3:¬i<a.length:=by omega
  simp only[Ci];rw[au xG.eq_1];simp(disch:=omega) [au QY.eq_1,h1,h2,h3,eY]
 |succ n ihn=>
  intro i hi';have h1:i<a.length:=by omega
  have h2:i<b.length:=by omega
  have this:=ihn (i+1) qqq;have hs:=agj H a[i] b[i] (hi _ (qxq h1));rw[drop_cons h1,drop_cons h2,eY];unfold eHd at hs;generalize eY (a.drop (i+1)) (b.drop (i+1))=X at *;generalize hE:(decide (a[i].k=b[i].k)&&decide (a[i].t=b[i].t)&&eqN a[i].n b[i].n)=E at *;cases E
  ·simp only[Ci];rw[au xG.eq_1];simp(disch:=omega) [h1,h2,hs,aK,H.kk]
  ·simp only[Ci]at this |-;rw[au xG.eq_1];simp at this;simp(disch:=omega) [h1,h2,hs,aK,H.kk,this]
theorem UG(H:wV C)(a b:List Hd)(e f:Bool)(hm:a.length<=1000000)(hi:∀x∈a,zu x.n):FnW C 443 [.ro 8 (a.map eHd) e,.ro 8 (b.map eHd) f]=some (.bool (eY a b)):=by
 have k2:FnW C 521 [.ro 8 (a.map eHd) e,.ro 8 (b.map eHd) f,.fn 522 []]=some (.bool (eY a b)):=by
  rw[aN H.aod rfl];by_cases c:a.length=b.length
  ·have k:=adh H a b e f c hm hi a.length 0 qqz;rw[qjz,qjz]at k;generalize eY a b=X at *;simp only[Ci]at k;simp at k;simp[acj,qQz c,k]
  ·have hq:eY a b=false:=by
    cases q:eY a b
    ·rfl
    ·exact absurd (Ew _ _ q) c
   rw[hq];simp[acj,c]
 rw[aN H.apq rfl];simp[aiW,H.kk,k2]
theorem adD(H:wV C)(a b:List Pl)(e f:Bool)(hl:a.length=b.length)(hm:a.length<=1000000)(hi:∀p∈a,LW p.1):∀n i,n+i=a.length ->
 Di C ⟨[(17,.int .i64 i),(16,.int .i64 a.length),(15,.ro 1 (a.map ePl) e),(2,.fn 443 []),(1,.ro 1 (b.map ePl) f)],[],0⟩=some (.bool (fA (a.drop i) (b.drop i))):=by
 intro n;induction n with
 |zero=>
  intro i hi';have h1:a.drop i=[]:=qzx qqq;have h2:b.drop i=[]:=qzx qqq;have h3:¬i<a.length:=by omega
  simp only[Di];rw[au xJ.eq_1];simp(disch:=omega) [au OD.eq_1,h1,h2,h3,fA]
 |succ n ihn=>
  intro i hi';have h1:i<a.length:=by omega
  have h2:i<b.length:=by omega
  have this:=ihn (i+1) qqq;have hh:=hi _ (qxq h1);have hs:=UG H a[i].1 b[i].1 a[i].2 b[i].2 hh.len hh.nd;rw[drop_cons h1,drop_cons h2,fA];try simp at hs
  generalize fA (a.drop (i+1)) (b.drop (i+1))=X at *;generalize hE:eY a[i].1 b[i].1=E at *;cases E
  ·simp only[Di];rw[au xJ.eq_1];simp(disch:=omega) [h1,h2,hs,aK,H.kk]
  ·simp only[Di]at this |-;rw[au xJ.eq_1];simp at this;simp(disch:=omega) [h1,h2,hs,aK,H.kk,this]
theorem aeJ(H:wV C)(ra rb:List Hd)(ea eb:Bool)(a b:List Pl)(e f:Bool)(h0:LW ra)(hb:a.length<=1000000)(hi:∀p∈a,LW p.1) :
 FnW C 298 [aSt ra ea a e,aSt rb eb b f]=some (.bool (eY ra rb&&fA a b)):=by
 have k1:=UG H ra rb ea eb h0.len h0.nd;have k2:FnW C 444 [.ro 1 (a.map ePl) e,.ro 1 (b.map ePl) f,.fn 443 []]=some (.bool (fA a b)):=by
  rw[aN H.aoh rfl];by_cases c:a.length=b.length
  ·have k:=adD H a b e f c hb hi a.length 0 qqz;rw[qjz,qjz]at k;generalize fA a b=X at *;simp only[Di]at k;simp at k;simp[aci,qQz c,k]
  ·have hq:fA a b=false:=by
    cases q:fA a b
    ·rfl
    ·exact absurd (zY _ _ q) c
   rw[hq];simp[aci,c]
 rw[aN H.f298 rfl];try simp at k1
 try simp at k2
 generalize fA a b=X at *;cases c:eY ra rb
 ·rw[c]at k1;simp[acw,H.kk,k1]
 ·rw[c]at k1;simp[acw,H.kk,k1,k2]
end Go.D
end
section
namespace Go.D
open Go Go.Pav Go.Pw P
set_option maxHeartbeats 1000000
attribute [-simp] List.getElem_cons_drop
variable {C:aJ}
section
variable (ra:List Hd)(ea:Bool)(ps:List Pl)(pe:Bool)
abbrev hpV(s:Int)(ok:Bool):aI:=[(0,.cells 2 [[.ro 8 (ra.map eHd) ea,.ro 1 (ps.map ePl) pe]] true true),(2,.cells 1 [[.int .i64 s]] true true),(3,.cells 1 [[.bool ok]] true true),
 (6,.cells 1 [[.fn 438 [.ptr 3 0 0,.ptr 2 0 0,.ptr 6 0 0]]] true false),(12,.cells 1 [[.ro 8 (ra.map eHd) ea]] true true)]
theorem SL(H:wV C)(X:AV)(hX:X=.sl 12 1 0 1 1 true\/∃(l:List Pl) (e:Bool),X=.ro 1 (l.map ePl) e)(l:List Hd)(e:Bool)(hl:l.length<=1000000)(n:Nat)(hn:13<=n):∀m i,m+i=l.length->∀(s:Int) (ok:Bool),0<=s->s+64*m<=1000000000000000 ->
 CK C n (gX []) [.sq Og,.bk 0 ⟨true,[3,0],[]⟩,.sq Dx] Af ⟨[(14,.int .i64 i),(13,.int .i64 l.length),(12,.ro 8 (l.map eHd) e),(3,.ptr 6 0 0),(2,.ptr 2 0 0),(1,.ptr 3 0 0),(0,X)],hpV ra ea ps pe s ok,n⟩ =
  CK C n (gX []) [] Dx ⟨[(3,.ptr 6 0 0),(0,X)],hpV ra ea ps pe (s+(jA (l.drop i):Nat)) (ok&&okS (l.drop i)),n⟩:=by
 have n0:0<n:=by omega
 have n2:2<n:=by omega
 have n3:3<n:=by omega
 have n6:6<n:=by omega
 have n12:12<n:=by omega
 have m1:¬n=0:=by omega
 have m2:¬n=3:=by omega
 have m3:¬n=9:=by omega
 have m4:¬n<=3:=by omega
 have m5:¬n<=9:=by omega
 have m6:¬n+1+1+1<n:=by omega
 have m7:¬n<=12:=by omega
 have m8:¬n=2:=by omega
 have m9:¬n=6:=by omega
 have m10:¬n=12:=by omega
 have p0:¬0=n:=by omega
 have p2:¬2=n:=by omega
 have p3:¬3=n:=by omega
 have p6:¬6=n:=by omega
 have p12:¬12=n:=by omega
 intro m;induction m with
 |zero=>
  intro i hi s ok h0 h1;have h2:l.drop i=[]:=qzx qqq;have h3:¬i<l.length:=by omega
  rw[h2,au Af.eq_1];rcases hX with rfl|⟨L,E,rfl⟩
  ·simp(disch:=omega) [h3,jA,okS,n0,n2,n3,n6,n12]
  ·simp(disch:=omega) [h3,jA,okS,n0,n2,n3,n6,n12]
 |succ m ih=>
  intro i hi s ok h0 h1;have h3:i<l.length:=by omega
  have hr1:=tu H.toOa.toUJ l[i].n;have hr2:=Dw H.toOa.toUJ l[i].n;have hc:=cnt_le l[i].n;have:=ih (i+1) qqq (s+(cnt l[i].n:Nat)) (ok&&decide (cnt l[i].n≠0)) qqq qqq;have ho:∀q,(ok&&okS (l[i]::q))=((ok&&decide (cnt l[i].n≠0))&&okS q):=by intro q;simp[okS,Bool.and_assoc]
  rw[drop_cons h3,ho,jA];rw[au Af.eq_1];rw[Nd.bU]at hr1 hr2;by_cases c:cnt l[i].n=0
  ·rw[qzq c]at hr1;rw[c]at hr2 this;simp at this;cases ok
   ·rcases hX with rfl|⟨L,E,rfl⟩
    ·simp(disch:=omega) [h3,hr1,hr2,H.kk,aK,n0,n2,n3,n6,n12,m1,m2,m3,m4,m5,m6,m7,m8,m9,m10,p0,p2,p3,p6,p12,c,Nd.bU];rw[this]
    ·simp(disch:=omega) [h3,hr1,hr2,H.kk,aK,n0,n2,n3,n6,n12,m1,m2,m3,m4,m5,m6,m7,m8,m9,m10,p0,p2,p3,p6,p12,c,Nd.bU];rw[this]
   ·rcases hX with rfl|⟨L,E,rfl⟩
    ·simp(disch:=omega) [h3,hr1,hr2,H.kk,aK,n0,n2,n3,n6,n12,m1,m2,m3,m4,m5,m6,m7,m8,m9,m10,p0,p2,p3,p6,p12,c,Nd.bU];rw[this]
    ·simp(disch:=omega) [h3,hr1,hr2,H.kk,aK,n0,n2,n3,n6,n12,m1,m2,m3,m4,m5,m6,m7,m8,m9,m10,p0,p2,p3,p6,p12,c,Nd.bU];rw[this]
  ·rw[qwx c]at hr1;cases ok
   ·rcases hX with rfl|⟨L,E,rfl⟩
    ·simp(disch:=omega) [h3,hr1,hr2,H.kk,aK,n0,n2,n3,n6,n12,m1,m2,m3,m4,m5,m6,m7,m8,m9,m10,p0,p2,p3,p6,p12,c,Nd.bU];simp[c]at this;rw[this];simp[qmq]
    ·simp(disch:=omega) [h3,hr1,hr2,H.kk,aK,n0,n2,n3,n6,n12,m1,m2,m3,m4,m5,m6,m7,m8,m9,m10,p0,p2,p3,p6,p12,c,Nd.bU];simp[c]at this;rw[this];simp[qmq]
   ·rcases hX with rfl|⟨L,E,rfl⟩
    ·simp(disch:=omega) [h3,hr1,hr2,H.kk,aK,n0,n2,n3,n6,n12,m1,m2,m3,m4,m5,m6,m7,m8,m9,m10,p0,p2,p3,p6,p12,c,Nd.bU];simp[c]at this;rw[this];simp[qmq]
    ·simp(disch:=omega) [h3,hr1,hr2,H.kk,aK,n0,n2,n3,n6,n12,m1,m2,m3,m4,m5,m6,m7,m8,m9,m10,p0,p2,p3,p6,p12,c,Nd.bU];simp[c]at this;rw[this];simp[qmq]
theorem aaO(H:wV C)(hpl:∀p∈ps,p.1.length<=1000000):∀(l:List Pl),(∀p∈l,p.1.length<=1000000)->∀(e:Bool) (n:Nat),13<=n->∀(s:Int) (ok:Bool),0<=s->s+64000000*l.length<=1000000000000000 ->
 ∃n',RnW C 438 [.ro 1 (l.map ePl) e,.ptr 3 0 0,.ptr 2 0 0,.ptr 6 0 0] (hpV ra ea ps pe s ok) n=some (.tup [],hpV ra ea ps pe (s+(lS (l.map (·.1)):Nat)) (ok&&okL (l.map (·.1))),n'):=by
 intro l;induction l with
 |nil=>
  intro _ e n hn s ok h0 h1;rw[jL (args:=[.ro 1 (([]:List Pl).map ePl) e,.ptr 3 0 0,.ptr 2 0 0,.ptr 6 0 0]) H.ado rfl _ n];refine⟨?_,?_⟩
  rotate_left
  ·simp[Qa,H.kk,lS,okL];rfl
 |cons p l ih=>
  intro hl e n hn s ok h0 h1;have n0:0<n:=by omega
  have n2:2<n:=by omega
  have n3:3<n:=by omega
  have n6:6<n:=by omega
  have n12:12<n:=by omega
  have hp:=hl p qqz;have hc:=yV p.1;simp only[qQx]at h1;have hr:=SL ra ea ps pe H (.ro 1 ((p::l).map ePl) e) (.inr ⟨p::l,e,rfl⟩) p.1 p.2 hp n hn p.1.length 0 qqz s ok h0 qqq;rw[qjz]at hr;rw[jL (args:=[.ro 1 ((p::l).map ePl) e,.ptr 3 0 0,.ptr 2 0 0,.ptr 6 0 0]) H.ado rfl _ n];simp only[qvj,okL,qYj,lS];have hne:¬((l.length:Int)+1=0):=by omega
  obtain⟨n1,hq⟩:=ih (λq hq=>hl q (by simp[hq])) e (n+4) qqq (s+(jA p.1:Nat)) (ok&&okS p.1) qqq qqq;have ht:List.take l.length (l.map ePl)=l.map ePl:=qxz qqz;have ha:(ok&&(okS p.1&&(l.map (·.1)).all okS))=((ok&&okS p.1)&&okL (l.map (·.1))):=by rw[Bool.and_assoc];rfl
  have hs:s+((jA p.1+lS (l.map (·.1)):Nat):Int)=s+(jA p.1:Nat)+(lS (l.map (·.1)):Nat):=by omega
  rw[ha,hs];generalize s+((jA p.1:Nat):Int)+((lS (l.map (·.1)):Nat):Int)=S at *;generalize (ok&&okS p.1&&okL (l.map (·.1)))=O at *;simp at hr;refine⟨?_,?_⟩
  rotate_left
  ·simp[Qa,H.kk,n0,n2,n3,n6,n12,hne,hr];rw[au Dx.eq_1];simp[Qa,H.kk,n0,n2,n3,n6,n12,hne,hr,ht,hq];rfl
theorem Jr(H:wV C)(hra:ra.length<=1000000)(hps:∀p∈ps,p.1.length<=1000000)(hpl:ps.length<=1000):FnW C 289 [aSt ra ea ps pe]=some (.int .i64 (live (ra::ps.map (·.1)))):=by
 have hc:=yV ra;rw[aN H.f289 rfl];have e1:∃n',13<=n'/\RnW C 438 [.sl 12 1 0 1 1 true,.ptr 3 0 0,.ptr 2 0 0,.ptr 6 0 0] (hpV ra ea ps pe 1 true) 14=some (.tup [],hpV ra ea ps pe (1+(jA ra:Nat)) (okS ra),n'):=by
  have hr:=SL ra ea ps pe H (.sl 12 1 0 1 1 true) (.inl rfl) ra ea hra 14 qqq ra.length 0 qqz 1 true qqq qqq;rw[qjz]at hr;rw[jL (args:=[.sl 12 1 0 1 1 true,.ptr 3 0 0,.ptr 2 0 0,.ptr 6 0 0]) H.ado rfl _ 14];simp at hr;have e0:RnW C 438 [.ro 1 [] true,.ptr 3 0 0,.ptr 2 0 0,.ptr 6 0 0] (hpV ra ea ps pe (1+(jA ra:Nat)) (okS ra)) 18=some (.tup [],hpV ra ea ps pe (1+(jA ra:Nat)) (okS ra),21):=by rw[jL (args:=[.ro 1 [] true,.ptr 3 0 0,.ptr 2 0 0,.ptr 6 0 0]) H.ado rfl _ 18];simp[Qa,H.kk,lS,okL]
  generalize 1+((jA ra:Nat):Int)=S at *;refine⟨?_,?_,?_⟩
  rotate_right
  ·simp[Qa,H.kk,hr];rw[au Dx.eq_1];simp[Qa,H.kk,hr,e0];rfl
  ·omega
 obtain⟨n1,hn1,e1⟩:=e1;obtain⟨n2,e2⟩:∃n',RnW C 438 [.ro 1 (ps.map ePl) pe,.ptr 3 0 0,.ptr 2 0 0,.ptr 6 0 0] (hpV ra ea ps pe (1+(jA ra:Nat)) (okS ra)) (n1+1+1+1+1)=_:=aaO ra ea ps pe H hps ps hps pe (n1+1+1+1+1) qqq (1+(jA ra:Nat)) (okS ra) qqq qqq;have hl:live (ra::ps.map (·.1))=if (okS ra&&okL (ps.map (·.1)))=true then 1+((jA ra:Nat):Int)+(lS (ps.map (·.1)):Nat)else 0:=by unfold live;rw[pF,lS];simp[qmq]
 rw[hl];generalize 1+((jA ra:Nat):Int)+((lS (ps.map (·.1)):Nat):Int)=S2 at *;generalize 1+((jA ra:Nat):Int)=S at *;generalize (okS ra&&okL (ps.map (·.1)))=O at *;cases O
 ·simp[adb,H.kk,e1,e2]
 ·simp[adb,H.kk,e1,e2]
end
end Go.D
end
section
namespace Go.D
open Go Go.Pav Go.Pw P
attribute [-simp] List.getElem_cons_drop
variable {C:aJ}
structure ajI(C:aJ):Prop extends vY C where
 f238:GwC C 238 agA
theorem agS(H:ajI C)(ks:List Kd)(ke:Bool)(cap:Int)(hr:zM ks)(l:List En)(e:Bool)(hl:l.length<=10000)(hs:∀x∈l,BA x)(hck:ckE ks cap l=0)(a:Nat)(ha:a<l.length)(ht:l[a].i.t<ks.length) :
 FnW C 238 [aR ks ke cap,aL l e,.int .i64 a]=some (.tup [.agg (A8 (jY ks l[a].i.t).p l[a].i cap).c,.int .i64 (lT (jY ks l[a].i.t).p l[a].i cap)]):=by
 have hc:=yj H.tozk ks ke cap hr l e qqq hs;rw[hck]at hc;have h:=Ls H.tozk ks ke cap l[a].i (hs _ (qxq ha)).i ht hr;rw[aN H.f238 rfl];generalize A8 (jY ks l[a].i.t).p l[a].i cap=N at *;generalize lT (jY ks l[a].i.t).p l[a].i cap=E at *;rw[Nd.bU]at h |-;simp only[aR,eIt]at h;have a1:¬(a:Int)<0:=by omega
 have a2:¬(l.length:Int)<=a:=by omega
 simp(disch:=omega) [agA,hc,h,ha,a1,a2,H.kk]
end Go.D
end
