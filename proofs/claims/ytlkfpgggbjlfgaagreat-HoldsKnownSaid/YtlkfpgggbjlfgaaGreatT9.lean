/- Part of the theory that the claims of this work use: Q32, Q33, Q34, Q35, Q36, Q37, Q38, Q39, Q40, Q41, Q42, Q43, Q44, R01, R02, PwOrc, PwRun, R04, R03. No conditions of its own. -/
import Derived.Test.YtlkfpgggbjlfgaaGreatT8
set_option linter.unusedVariables false
set_option linter.unusedSimpArgs false
set_option maxHeartbeats 4000000
set_option maxRecDepth 10000
section
namespace Go.D
open Go Go.Pav Go.Pw P
set_option maxHeartbeats 2000000
attribute [-simp] List.getElem_cons_drop
variable {C:aJ}
section
variable (vw ov ls:Int)(ks:List Kd)(ke:Bool)(cap ar fl:Int)(l:List En)(e:Bool)
theorem PcO.any{M S:List (AV×AV)}{sb pb lo:Nat}{RW:AV}{W:List (List Hd)}{N:List Int}{h:aI}{next:Nat}{cs:List (List AV)}{id:Nat->Nat}
 (T:PcO vw ov ls ks ke cap ar fl l e M S sb pb lo RW nM W N h next cs id):PcO vw ov ls ks ke cap ar fl l e M S sb pb lo RW jO W N h next cs id :=
 ⟨T.g0,T.g2,T.g3,T.g4,T.g5,T.gs,T.gp,T.R.weak (λ_ _ _ _ q=>q.any),T.wl,T.ne,T.nd⟩
theorem aer(H:sF C)(tp:En->Nd)(A:List Nat)(f:Bool)(ra:List Hd)(hA:A.length<=1000)(hAl:∀a∈A,a<l.length)(hll:l.length<=100000)
 (hty:∀x∈l,∃t:Nat,x.i.t=t/\t<ks.length) (htr:∀(a:Nat) (h:a<l.length) (q:Bool),FnW C 238 [aR ks ke cap,aL [l[a]] q,.int .i64 0]=some (.tup [.agg (tp l[a]).c,.int .i64 0]))
 (M S:List (AV×AV)) (hS:∀a∈A,∀(h:a<l.length),jP S (.int .u64 l[a].i.k)=some (if nI ra l[a]=true then some (.bool true)else none)) (sb pb lo:Nat):∀m i,m+i=A.length->∀(RW:AV) (O:List Hd) (rbk:Nat) (W:List (List Hd)) (rb mk d:Int) (h:aI) (next:Nat) (cs:List (List AV)) (id:Nat->Nat),
 PcO vw ov ls ks ke cap ar fl l e M S sb pb lo RW jO W [rb,mk,d,0] h next cs id->tJ ks pb sb sb lo RW O rbk h next id->O.length+m<=1000000->0<=rb->rb+m<=1000000->0<=mk->mk+m<=1000000->(∀w∈W,w.length<=1000000) ->
 ∃h' next' cs' id' RW' rbk',CK C 0 (aO [.cell 8 2 true,.cell 9 4 true]) [.sq AX,.bk 7 ⟨true,[9,8],[(9999,65537)]⟩,.sq yT] rD
  ⟨[(127,.int .i64 i),(126,.int .i64 A.length),(125,.ro 1 (A.map eAt) f),(16,.map sb),(9,.ptr 4 0 0),(8,.ptr 3 0 0),(6,.ptr 2 0 0),(4,.ptr 0 0 0)],h,next⟩ =
  CK C 0 (aO [.cell 8 2 true,.cell 9 4 true]) [] yT ⟨[(9,.ptr 4 0 0),(8,.ptr 3 0 0)],h',next'⟩ /\
  PcO vw ov ls ks ke cap ar fl l e M S sb pb lo RW' jO (cm2 tp ra l (A.drop i) (O,W,rb,mk)).2.1 [(cm2 tp ra l (A.drop i) (O,W,rb,mk)).2.2.1,(cm2 tp ra l (A.drop i) (O,W,rb,mk)).2.2.2,d,0] h' next' cs' id' /\
  tJ ks pb sb sb lo RW' (cm2 tp ra l (A.drop i) (O,W,rb,mk)).1 rbk' h' next' id':=by
 intro m;induction m with
 |zero=>
  intro i hi RW O rbk W rb mk d h next cs id T U hO hrb hrb2 hmk hmk2 hW
  have h2:A.drop i=[]:=qzx qqq;have h3:¬i<A.length:=by omega
  rw[h2];refine⟨h,next+1,cs,id,RW,rbk,?_,T.later vw ov ls ks ke cap ar fl l e qqq (λ_ _=>rfl),?_⟩
  ·rw[au rD.eq_1];simp(disch:=omega) [h3]
  ·rcases U with u|⟨u1,u2,u3,u4,u5,u6⟩
   ·exact .inl u
   ·exact .inr ⟨u1,u2,u3,u4,by omega,u6⟩
 |succ m ih=>
  intro i hi RW O rbk W rb mk d h next cs id T U hO hrb hrb2 hmk hmk2 hW
  have h3:i<A.length:=by omega
  have hAi:=hAl _ (qxq h3);obtain⟨t,ht,htl⟩:=hty _ (qxq hAi);have htree:FnW C 238 [.agg [.ro 9 (ks.map eKd) ke,.int .i64 cap],.agg [.ro 6 [[.int .u64 l[A[i]].i.k,.int .u8 (t:Int),.str l[A[i]].i.x,.ro 1 (l[A[i]].i.m.map eS) l[A[i]].i.e,.int .i64 l[A[i]].s,.bool l[A[i]].kn]] true],.int .i64 0]=some (.tup [.agg (tp l[A[i]]).c,.int .i64 0]):=by rw[<- ht];exact htr A[i] hAi true
  have hrules:=sN H.toqV vw ov ls ks ke cap ar fl;have hg:=hS _ (qxq h3) hAi;have ne:=T.ne;have hwl:=T.wl;have htW:t<W.length:=by omega
  have hcl:cs.length=ks.length:=by rw[T.R.len,hwl]
  have htc:t<cs.length:=by omega
  have hW1:=hW _ (qxq htW);have hrow:rowAt W l[A[i]].i.t=W[t]:=by rw[ht];simp[rowAt,htW]
  have hft:(O.length+1)*121<=35184372088832:=by omega
  have hA1:A[i]+1<=l.length:=by omega
  have hsl:List.drop A[i] (List.take (A[i]+1) (l.map eEn))=[eEn l[A[i]]]:=by rw[List.drop_take,zqz (by simpa using hAi)];simp
  rw[drop_cons h3];obtain⟨v,hv,hP⟩:=T.R.row t W[t] (qqj htW);rw[qqj htc]at hv;replace hv:=qkq hv;obtain⟨cap2,ex,es,rfl,q1,q2,q3,q4⟩:=hP;have bd:=T.R.bd t htW;have nd:=T.nd t htl;have hatt:l[A[i]].i.t.toNat=t:=by omega
  have gp:=T.gp;have gs:=T.gs;have g4:=T.g4;have g5:=T.g5;rcases U with⟨u1,u2⟩|⟨u1,u2,u3,u4,u5,u6,u7,u8,u9⟩
  ·subst u1;subst u2;obtain⟨L,hL⟩:∃L,L=CK C 0 (aO [.cell 8 2 true,.cell 9 4 true]) [.sq AX,.bk 7 ⟨true,[9,8],[(9999,65537)]⟩,.sq yT] rD ⟨[(127,.int .i64 i),(126,.int .i64 A.length),(125,.ro 1 (A.map eAt) f),(16,.map sb),(9,.ptr 4 0 0),(8,.ptr 3 0 0),(6,.ptr 2 0 0),(4,.ptr 0 0 0)],h,next⟩:=⟨_,rfl⟩;rw[<- hL];rw[au rD.eq_1]at hL;simp(disch:=omega) [T.g0,T.g2,T.g3,g4,gp,gs,hv,h3,hAi,ak,aj,aF,H.kk,htree,hrules,aK,bH,ltF,gtF,neF,fits,hft,ht,htl,htc,hA1,hsl]at hL;by_cases c:nI ra l[A[i]]=true
   ·have hcm:∀O r,cm2 tp ra l (A[i]::r) (O,W,rb,mk)=cm2 tp ra l r (O++[⟨l[A[i]].i.k,l[A[i]].i.t,tp l[A[i]]⟩],W,rb,mk):=by intro O r;simp only[cm2,qqj hAi,c,qyx]
    rw[qzq c]at hg;obtain⟨hh,hhe⟩:∃hh,hh=put (put (put (put (put h (next+10) (.cells 4 [[AV.int .u64 l[A[i]].i.k,AV.int .u8 (t:Int),AV.str l[A[i]].i.x,AV.ro 1 (List.map eS l[A[i]].i.m) l[A[i]].i.e]] true true)) (next+27) (.cells 6 [(tp l[A[i]]).c] true true)) (next+38) (.cells 8 [(AV.int .u64 l[A[i]].i.k::AV.int .u8 (t:Int)::(tp l[A[i]]).c)] true true)) (next+39) (.cells 8 [(AV.int .u64 l[A[i]].i.k::AV.int .u8 (t:Int)::(tp l[A[i]]).c)] true true)) 3 (.cells 2 [[.sl (next+39) 8 0 1 1 false,.sl pb 1 0 ks.length ks.length true]] true false):=⟨_,rfl⟩;have T1:PcO vw ov ls ks ke cap ar fl l e M S sb pb lo (.sl (next+39) 8 0 1 1 false) jO W [rb,mk,d,0] hh (next+60) cs id:=by
     refine⟨?_,?_,?_,?_,?_,?_,?_,T.R.mono qqq (λj hj=>by rw[hhe];have:=T.R.bd j qqq;have:=T.nd j qqq;simp(disch:=omega)only[ak,aj,aF]),by simp[hwl],by omega,λj hj=>?_⟩;any_goals (rw[hhe];simp(disch:=omega)only[ak,aj,aF]<;>first | rfl | exact T.g0 | exact T.g2 | exact g4 | exact g5 | exact gs | exact gp)
     ·have:=T.nd j hj;exact this
    have U1:tJ ks pb sb sb lo (.sl (next+39) 8 0 1 1 false) [⟨l[A[i]].i.k,l[A[i]].i.t,tp l[A[i]]⟩] (next+39) hh (next+60) id:=by
     refine .inr ⟨by simp,by simp,?_,by omega,by omega,by omega,by omega,by omega,λj hj=>?_⟩
     ·rw[hhe];simp(disch:=omega)only[ak,aj,aF];simp[ht]
     ·have:=T.R.bd j qqq;have:=T.R.bd t htW;omega
    obtain⟨h',n',cs',id',RW',rbk',e1,e2,e3⟩:=ih (i+1) qqq _ [⟨l[A[i]].i.k,l[A[i]].i.t,tp l[A[i]]⟩] _ W rb mk d _ _ _ _ T1 U1 qqx qqq qqq qqq qqq hW;refine⟨h',n',cs',id',RW',rbk',?_,by rw[hcm];exact e2,by rw[hcm];exact e3⟩;rw[hL,<- e1,hhe];simp(disch:=omega) [T.g0,T.g2,T.g3,g4,gp,gs,hAi,ak,aj,aF,H.kk,aK,bH,ltF,gtF,neF,fits,hft,ht,htl,htc,hv,hg]
   ·have c':nI ra l[A[i]]=false:=by simpa using c
    rw[qwx c]at hg;by_cases c3:W[t].length=0
    ·have hcm:∀O r,cm2 tp ra l (A[i]::r) (O,W,rb,mk)=cm2 tp ra l r (O++[⟨l[A[i]].i.k,l[A[i]].i.t,tp l[A[i]]⟩],W,rb,mk+1):=by intro O r;simp only[cm2,qqj hAi,c',hrow,c3,qyx,qxj,qWq]
     obtain⟨hh,hhe⟩:∃hh,hh=put (put (put (put (put (put h (next+10) (.cells 4 [[AV.int .u64 l[A[i]].i.k,AV.int .u8 (t:Int),AV.str l[A[i]].i.x,AV.ro 1 (List.map eS l[A[i]].i.m) l[A[i]].i.e]] true true)) (next+27) (.cells 6 [(tp l[A[i]]).c] true true)) (next+38) (.cells 8 [(AV.int .u64 l[A[i]].i.k::AV.int .u8 (t:Int)::(tp l[A[i]]).c)] true true)) (next+39) (.cells 8 [(AV.int .u64 l[A[i]].i.k::AV.int .u8 (t:Int)::(tp l[A[i]]).c)] true true)) 3 (.cells 2 [[.sl (next+39) 8 0 1 1 false,.sl pb 1 0 ks.length ks.length true]] true false)) 4 (.cells 4 [[.int .i64 rb,.int .i64 (mk+1),.int .i64 d,.int .i64 0]] true true):=⟨_,rfl⟩;have T1:PcO vw ov ls ks ke cap ar fl l e M S sb pb lo (.sl (next+39) 8 0 1 1 false) jO W [rb,mk+1,d,0] hh (next+68) cs id:=by
      refine⟨?_,?_,?_,?_,?_,?_,?_,T.R.mono qqq (λj hj=>by rw[hhe];have:=T.R.bd j qqq;have:=T.nd j qqq;simp(disch:=omega)only[ak,aj,aF]),by simp[hwl],by omega,λj hj=>?_⟩;any_goals (rw[hhe];simp(disch:=omega)only[ak,aj,aF]<;>first | rfl | exact T.g0 | exact T.g2 | exact g4 | exact g5 | exact gs | exact gp)
      ·have:=T.nd j hj;exact this
     have U1:tJ ks pb sb sb lo (.sl (next+39) 8 0 1 1 false) [⟨l[A[i]].i.k,l[A[i]].i.t,tp l[A[i]]⟩] (next+39) hh (next+68) id:=by
      refine .inr ⟨by simp,by simp,?_,by omega,by omega,by omega,by omega,by omega,λj hj=>?_⟩
      ·rw[hhe];simp(disch:=omega)only[ak,aj,aF];simp[ht]
      ·have:=T.R.bd j qqq;have:=T.R.bd t htW;omega
     obtain⟨h',n',cs',id',RW',rbk',e1,e2,e3⟩:=ih (i+1) qqq _ [⟨l[A[i]].i.k,l[A[i]].i.t,tp l[A[i]]⟩] _ W rb (mk+1) d _ _ _ _ T1 U1 qqx qqq qqq qqq qqq hW;refine⟨h',n',cs',id',RW',rbk',?_,by rw[hcm];exact e2,by rw[hcm];exact e3⟩;rw[hL,<- e1,hhe];simp(disch:=omega) [T.g0,T.g2,T.g3,g4,gp,gs,hAi,ak,aj,aF,H.kk,aK,bH,ltF,gtF,neF,fits,hft,ht,htl,htc,hv,hg,c3]
    ·obtain⟨n,hn⟩:∃n,W[t].length=n+1:=⟨W[t].length-1,by omega⟩;have hcm:∀O r,cm2 tp ra l (A[i]::r) (O,W,rb,mk)=cm2 tp ra l r (O++[⟨l[A[i]].i.k,l[A[i]].i.t,tp l[A[i]]⟩],W.set t (W[t].take n),rb+1,mk):=by
      intro O r;have:W[t].length-1=n:=by omega
      simp only[cm2,qqj hAi,c',hrow,c3,qxj,qWq,hatt,this]
     have hnl:(W[t].take n).length=n:=by simp;omega
     have hwn:IntKind.i64.wrap (n:Int)=n:=aK qqq qqq;have hne0:¬((n:Int)+1=0):=by omega
     have hncap:n<=cap2:=by omega
     have hcap1:n+1<=cap2:=by omega
     have hcap0:0<cap2:=by omega
     have hif:(if 0<n then some (AV.sl (id t) 8 0 n n true)else some (AV.sl (id t) 8 0 0 0 true))=some (AV.sl (id t) 8 0 n n true):=by
      split
      ·rfl
      ·rw[show n=0 by omega]
     have hWs:∀w∈W.set t (W[t].take n),w.length<=1000000:=by
      intro w hw;rcases qXx hw with q | q
      ·exact hW w q
      ·subst q;omega
     have hANY:∀o,o=some (dD.cells 8 (eHs es) true true)->jO o (id t) (.sl (id t) 8 0 n n true) (W[t].take n):=by rintro o rfl;refine⟨n,true,es,by rw[hnl],by omega,by omega,?_,rfl⟩;rw[hnl,<- q3,q9j];congr 1;omega
     obtain⟨hh,hhe⟩:∃hh,hh=put (put (put (put (put (put (put h (next+10) (.cells 4 [[AV.int .u64 l[A[i]].i.k,AV.int .u8 (t:Int),AV.str l[A[i]].i.x,AV.ro 1 (List.map eS l[A[i]].i.m) l[A[i]].i.e]] true true)) (next+27) (.cells 6 [(tp l[A[i]]).c] true true)) (next+38) (.cells 8 [(AV.int .u64 l[A[i]].i.k::AV.int .u8 (t:Int)::(tp l[A[i]]).c)] true true)) (next+39) (.cells 8 [(AV.int .u64 l[A[i]].i.k::AV.int .u8 (t:Int)::(tp l[A[i]]).c)] true true)) 3 (.cells 2 [[.sl (next+39) 8 0 1 1 false,.sl pb 1 0 ks.length ks.length true]] true false)) pb (.cells 1 (cs.set t [.sl (id t) 8 0 n n true]) true false)) 4 (.cells 4 [[.int .i64 (rb+1),.int .i64 mk,.int .i64 d,.int .i64 0]] true true):=⟨_,rfl⟩;have T1:PcO vw ov ls ks ke cap ar fl l e M S sb pb lo (.sl (next+39) 8 0 1 1 false) jO (W.set t (W[t].take n)) [rb+1,mk,d,0] hh (next+79) (cs.set t [.sl (id t) 8 0 n n true]) (λj=>if j=t then id t else id j):=by
      refine⟨?_,?_,?_,?_,?_,?_,?_,T.R.set t htW (id t) (.inl rfl) bd.1 qqq qqq _ _ (λj hj hjt=>by rw[hhe];have:=T.R.bd j qqq;have:=T.nd j qqq;simp(disch:=omega)only[ak,aj,aF]) (hANY _ (by rw[hhe];simp(disch:=omega)only[ak,aj,aF];exact q4)),by simp[hwl],by omega,λj hj=>?_⟩;any_goals (rw[hhe];simp(disch:=omega)only[ak,aj,aF]<;>first | rfl | exact T.g0 | exact T.g2 | exact g4 | exact g5 | exact gs | exact gp)
      ·have h1:=T.nd j hj;have h2:=T.nd t htl;split<;>assumption
     have U1:tJ ks pb sb sb lo (.sl (next+39) 8 0 1 1 false) [⟨l[A[i]].i.k,l[A[i]].i.t,tp l[A[i]]⟩] (next+39) hh (next+79) (λj=>if j=t then id t else id j):=by
      refine .inr ⟨by simp,by simp,?_,by omega,by omega,by omega,by omega,by omega,λj hj=>?_⟩
      ·rw[hhe];simp(disch:=omega)only[ak,aj,aF];simp[ht]
      ·have:=T.R.bd j qqq;have:=T.R.bd t htW;show(if j=t then id t else id j)≠next+39;split<;>omega
     obtain⟨h',n',cs',id',RW',rbk',e1,e2,e3⟩:=ih (i+1) qqq _ [⟨l[A[i]].i.k,l[A[i]].i.t,tp l[A[i]]⟩] _ (W.set t (W[t].take n)) (rb+1) mk d _ _ _ _ T1 U1 qqx qqq qqq qqq qqq hWs;refine⟨h',n',cs',id',RW',rbk',?_,by rw[hcm];exact e2,by rw[hcm];exact e3⟩;rw[hL,<- e1,hhe];simp(disch:=omega) [T.g0,T.g2,T.g3,g4,gp,gs,hAi,ak,aj,aF,H.kk,aK,bH,ltF,gtF,neF,fits,hft,ht,htl,htc,hv,hg,hn,hwn,hncap,hne0,hcap1,hcap0,hif]
  ·subst u2;obtain⟨L,hL⟩:∃L,L=CK C 0 (aO [.cell 8 2 true,.cell 9 4 true]) [.sq AX,.bk 7 ⟨true,[9,8],[(9999,65537)]⟩,.sq yT] rD ⟨[(127,.int .i64 i),(126,.int .i64 A.length),(125,.ro 1 (A.map eAt) f),(16,.map sb),(9,.ptr 4 0 0),(8,.ptr 3 0 0),(6,.ptr 2 0 0),(4,.ptr 0 0 0)],h,next⟩:=⟨_,rfl⟩;rw[<- hL];rw[au rD.eq_1]at hL;simp(disch:=omega) [T.g0,T.g2,T.g3,g4,gp,gs,hv,h3,hAi,ak,aj,aF,H.kk,htree,hrules,aK,bH,ltF,gtF,neF,fits,hft,ht,htl,htc,hA1,hsl,u3]at hL;by_cases c:nI ra l[A[i]]=true
   ·have hcm:∀O r,cm2 tp ra l (A[i]::r) (O,W,rb,mk)=cm2 tp ra l r (O++[⟨l[A[i]].i.k,l[A[i]].i.t,tp l[A[i]]⟩],W,rb,mk):=by intro O r;simp only[cm2,qqj hAi,c,qyx]
    rw[qzq c]at hg;obtain⟨hh,hhe⟩:∃hh,hh=put (put (del (put (put (put h (next+10) (.cells 4 [[AV.int .u64 l[A[i]].i.k,AV.int .u8 (t:Int),AV.str l[A[i]].i.x,AV.ro 1 (List.map eS l[A[i]].i.m) l[A[i]].i.e]] true true)) (next+27) (.cells 6 [(tp l[A[i]]).c] true true)) (next+38) (.cells 8 [(AV.int .u64 l[A[i]].i.k::AV.int .u8 (t:Int)::(tp l[A[i]]).c)] true true)) rbk) (next+39) (.cells 8 (eHs O++[(AV.int .u64 l[A[i]].i.k::AV.int .u8 (t:Int)::(tp l[A[i]]).c)]) true true)) 3 (.cells 2 [[.sl (next+39) 8 0 (O.length+1) (O.length+1) false,.sl pb 1 0 ks.length ks.length true]] true false):=⟨_,rfl⟩;have T1:PcO vw ov ls ks ke cap ar fl l e M S sb pb lo (.sl (next+39) 8 0 (O.length+1) (O.length+1) false) jO W [rb,mk,d,0] hh (next+60) cs id:=by
     refine⟨?_,?_,?_,?_,?_,?_,?_,T.R.mono qqq (λj hj=>by rw[hhe];have:=T.R.bd j qqq;have:=T.nd j qqq;have:=u9 j qqq;simp(disch:=omega)only[ak,aj,aF]),by simp[hwl],by omega,λj hj=>?_⟩;any_goals (rw[hhe];simp(disch:=omega)only[ak,aj,aF]<;>first | rfl | exact T.g0 | exact T.g2 | exact g4 | exact g5 | exact gs | exact gp)
     ·have:=T.nd j hj;exact this
    have U1:tJ ks pb sb sb lo (.sl (next+39) 8 0 (O.length+1) (O.length+1) false) (O++[⟨l[A[i]].i.k,l[A[i]].i.t,tp l[A[i]]⟩]) (next+39) hh (next+60) id:=by
     refine .inr ⟨by simp,by simp,?_,by omega,by omega,by omega,by omega,by omega,λj hj=>?_⟩
     ·rw[hhe];simp(disch:=omega)only[ak,aj,aF];simp[ht]
     ·have:=T.R.bd j qqq;have:=T.R.bd t htW;omega
    obtain⟨h',n',cs',id',RW',rbk',e1,e2,e3⟩:=ih (i+1) qqq _ (O++[⟨l[A[i]].i.k,l[A[i]].i.t,tp l[A[i]]⟩]) _ W rb mk d _ _ _ _ T1 U1 qqx qqq qqq qqq qqq hW;refine⟨h',n',cs',id',RW',rbk',?_,by rw[hcm];exact e2,by rw[hcm];exact e3⟩;rw[hL,<- e1,hhe];simp(disch:=omega) [T.g0,T.g2,T.g3,g4,gp,gs,hAi,ak,aj,aF,H.kk,aK,bH,ltF,gtF,neF,fits,hft,ht,htl,htc,hv,hg,u3]
   ·have c':nI ra l[A[i]]=false:=by simpa using c
    rw[qwx c]at hg;by_cases c3:W[t].length=0
    ·have hcm:∀O r,cm2 tp ra l (A[i]::r) (O,W,rb,mk)=cm2 tp ra l r (O++[⟨l[A[i]].i.k,l[A[i]].i.t,tp l[A[i]]⟩],W,rb,mk+1):=by intro O r;simp only[cm2,qqj hAi,c',hrow,c3,qyx,qxj,qWq]
     obtain⟨hh,hhe⟩:∃hh,hh=put (put (put (del (put (put (put h (next+10) (.cells 4 [[AV.int .u64 l[A[i]].i.k,AV.int .u8 (t:Int),AV.str l[A[i]].i.x,AV.ro 1 (List.map eS l[A[i]].i.m) l[A[i]].i.e]] true true)) (next+27) (.cells 6 [(tp l[A[i]]).c] true true)) (next+38) (.cells 8 [(AV.int .u64 l[A[i]].i.k::AV.int .u8 (t:Int)::(tp l[A[i]]).c)] true true)) rbk) (next+39) (.cells 8 (eHs O++[(AV.int .u64 l[A[i]].i.k::AV.int .u8 (t:Int)::(tp l[A[i]]).c)]) true true)) 3 (.cells 2 [[.sl (next+39) 8 0 (O.length+1) (O.length+1) false,.sl pb 1 0 ks.length ks.length true]] true false)) 4 (.cells 4 [[.int .i64 rb,.int .i64 (mk+1),.int .i64 d,.int .i64 0]] true true):=⟨_,rfl⟩;have T1:PcO vw ov ls ks ke cap ar fl l e M S sb pb lo (.sl (next+39) 8 0 (O.length+1) (O.length+1) false) jO W [rb,mk+1,d,0] hh (next+68) cs id:=by
      refine⟨?_,?_,?_,?_,?_,?_,?_,T.R.mono qqq (λj hj=>by rw[hhe];have:=T.R.bd j qqq;have:=T.nd j qqq;have:=u9 j qqq;simp(disch:=omega)only[ak,aj,aF]),by simp[hwl],by omega,λj hj=>?_⟩;any_goals (rw[hhe];simp(disch:=omega)only[ak,aj,aF]<;>first | rfl | exact T.g0 | exact T.g2 | exact g4 | exact g5 | exact gs | exact gp)
      ·have:=T.nd j hj;exact this
     have U1:tJ ks pb sb sb lo (.sl (next+39) 8 0 (O.length+1) (O.length+1) false) (O++[⟨l[A[i]].i.k,l[A[i]].i.t,tp l[A[i]]⟩]) (next+39) hh (next+68) id:=by
      refine .inr ⟨by simp,by simp,?_,by omega,by omega,by omega,by omega,by omega,λj hj=>?_⟩
      ·rw[hhe];simp(disch:=omega)only[ak,aj,aF];simp[ht]
      ·have:=T.R.bd j qqq;have:=T.R.bd t htW;omega
     obtain⟨h',n',cs',id',RW',rbk',e1,e2,e3⟩:=ih (i+1) qqq _ (O++[⟨l[A[i]].i.k,l[A[i]].i.t,tp l[A[i]]⟩]) _ W rb (mk+1) d _ _ _ _ T1 U1 qqx qqq qqq qqq qqq hW;refine⟨h',n',cs',id',RW',rbk',?_,by rw[hcm];exact e2,by rw[hcm];exact e3⟩;rw[hL,<- e1,hhe];simp(disch:=omega) [T.g0,T.g2,T.g3,g4,gp,gs,hAi,ak,aj,aF,H.kk,aK,bH,ltF,gtF,neF,fits,hft,ht,htl,htc,hv,hg,c3,u3]
    ·obtain⟨n,hn⟩:∃n,W[t].length=n+1:=⟨W[t].length-1,by omega⟩;have hcm:∀O r,cm2 tp ra l (A[i]::r) (O,W,rb,mk)=cm2 tp ra l r (O++[⟨l[A[i]].i.k,l[A[i]].i.t,tp l[A[i]]⟩],W.set t (W[t].take n),rb+1,mk):=by
      intro O r;have:W[t].length-1=n:=by omega
      simp only[cm2,qqj hAi,c',hrow,c3,qxj,qWq,hatt,this]
     have hnl:(W[t].take n).length=n:=by simp;omega
     have hwn:IntKind.i64.wrap (n:Int)=n:=aK qqq qqq;have hne0:¬((n:Int)+1=0):=by omega
     have hncap:n<=cap2:=by omega
     have hcap1:n+1<=cap2:=by omega
     have hcap0:0<cap2:=by omega
     have hif:(if 0<n then some (AV.sl (id t) 8 0 n n true)else some (AV.sl (id t) 8 0 0 0 true))=some (AV.sl (id t) 8 0 n n true):=by
      split
      ·rfl
      ·rw[show n=0 by omega]
     have hWs:∀w∈W.set t (W[t].take n),w.length<=1000000:=by
      intro w hw;rcases qXx hw with q | q
      ·exact hW w q
      ·subst q;omega
     have hANY:∀o,o=some (dD.cells 8 (eHs es) true true)->jO o (id t) (.sl (id t) 8 0 n n true) (W[t].take n):=by rintro o rfl;refine⟨n,true,es,by rw[hnl],by omega,by omega,?_,rfl⟩;rw[hnl,<- q3,q9j];congr 1;omega
     obtain⟨hh,hhe⟩:∃hh,hh=put (put (put (put (del (put (put (put h (next+10) (.cells 4 [[AV.int .u64 l[A[i]].i.k,AV.int .u8 (t:Int),AV.str l[A[i]].i.x,AV.ro 1 (List.map eS l[A[i]].i.m) l[A[i]].i.e]] true true)) (next+27) (.cells 6 [(tp l[A[i]]).c] true true)) (next+38) (.cells 8 [(AV.int .u64 l[A[i]].i.k::AV.int .u8 (t:Int)::(tp l[A[i]]).c)] true true)) rbk) (next+39) (.cells 8 (eHs O++[(AV.int .u64 l[A[i]].i.k::AV.int .u8 (t:Int)::(tp l[A[i]]).c)]) true true)) 3 (.cells 2 [[.sl (next+39) 8 0 (O.length+1) (O.length+1) false,.sl pb 1 0 ks.length ks.length true]] true false)) pb (.cells 1 (cs.set t [.sl (id t) 8 0 n n true]) true false)) 4 (.cells 4 [[.int .i64 (rb+1),.int .i64 mk,.int .i64 d,.int .i64 0]] true true):=⟨_,rfl⟩;have T1:PcO vw ov ls ks ke cap ar fl l e M S sb pb lo (.sl (next+39) 8 0 (O.length+1) (O.length+1) false) jO (W.set t (W[t].take n)) [rb+1,mk,d,0] hh (next+79) (cs.set t [.sl (id t) 8 0 n n true]) (λj=>if j=t then id t else id j):=by
      refine⟨?_,?_,?_,?_,?_,?_,?_,T.R.set t htW (id t) (.inl rfl) bd.1 qqq qqq _ _ (λj hj hjt=>by rw[hhe];have:=T.R.bd j qqq;have:=T.nd j qqq;have:=u9 j qqq;simp(disch:=omega)only[ak,aj,aF]) (hANY _ (by rw[hhe];have:=u9 t htl;simp(disch:=omega)only[ak,aj,aF];exact q4)),by simp[hwl],by omega,λj hj=>?_⟩;any_goals (rw[hhe];simp(disch:=omega)only[ak,aj,aF]<;>first | rfl | exact T.g0 | exact T.g2 | exact g4 | exact g5 | exact gs | exact gp)
      ·have h1:=T.nd j hj;have h2:=T.nd t htl;split<;>assumption
     have U1:tJ ks pb sb sb lo (.sl (next+39) 8 0 (O.length+1) (O.length+1) false) (O++[⟨l[A[i]].i.k,l[A[i]].i.t,tp l[A[i]]⟩]) (next+39) hh (next+79) (λj=>if j=t then id t else id j):=by
      refine .inr ⟨by simp,by simp,?_,by omega,by omega,by omega,by omega,by omega,λj hj=>?_⟩
      ·rw[hhe];simp(disch:=omega)only[ak,aj,aF];simp[ht]
      ·have:=T.R.bd j qqq;have:=T.R.bd t htW;show(if j=t then id t else id j)≠next+39;split<;>omega
     obtain⟨h',n',cs',id',RW',rbk',e1,e2,e3⟩:=ih (i+1) qqq _ (O++[⟨l[A[i]].i.k,l[A[i]].i.t,tp l[A[i]]⟩]) _ (W.set t (W[t].take n)) (rb+1) mk d _ _ _ _ T1 U1 qqx qqq qqq qqq qqq hWs;refine⟨h',n',cs',id',RW',rbk',?_,by rw[hcm];exact e2,by rw[hcm];exact e3⟩;rw[hL,<- e1,hhe];simp(disch:=omega) [T.g0,T.g2,T.g3,g4,gp,gs,hAi,ak,aj,aF,H.kk,aK,bH,ltF,gtF,neF,fits,hft,ht,htl,htc,hv,hg,hn,hwn,hncap,hne0,hcap1,hcap0,hif,u3]
end
theorem Si{h:aI}{lo hi pb rb:Nat}{id:Nat->Nat}{cs:List (List AV)}{W:List (List Hd)}{O:List Hd}{RW:AV}(hR:(O=[]/\RW=.ro 8 [] true)\/(RW=.sl rb 8 0 O.length O.length false/\Pav.get h rb=some (.cells 8 (eHs O) true true)))
 (R:kG jO h lo hi id cs W) (gp:Pav.get h pb=some (.cells 1 cs true false)) (r:Nat) (hr:r=W.length) (n:Nat):∃eo ps' pe',ps'.map (·.1)=W/\bD h (n+4) (.agg [RW,.sl pb 1 0 r r true])=some (aSt O eo ps' pe'):=by
 subst hr;obtain⟨ps,pe,h1,h2⟩:=R.pK (enc:=eHs) (z:=8) n (λb v d q=>jO.frz q n) (mu:=true) (cap:=W.length) (ex:=true);rcases hR with⟨rfl,rfl⟩|⟨rfl,h3⟩
 ·refine⟨true,ps,pe,h1,?_⟩;rw[fO];simp only[aZ,Hf,ji,gp,h2,ob,om,ED];rfl
 ·refine⟨false,ps,pe,h1,?_⟩;have h4:List.take O.length (eHs O)=eHs O:=qxz qqz;rw[fO];simp only[aZ,ji,gp,h2,h3,ob,om,ED];simp only[Pw.pK,qjz,h4,qQj,qlj,og,qiz,ob,om,ED];rfl
theorem FP(H:sF C)(tp:En->Nd)(vw ov ls:Int)(ks:List Kd)(ke:Bool)(cap ar fl:Int)(ra:List Hd)(ea:Bool)(ps:List Pl)(pe:Bool)(l:List En)(e:Bool)(A:List Nat)(f:Bool)
 (hA:A.length<=1000) (hAl:∀a∈A,a<l.length) (hAn:A.Nodup) (hn:(bQ l).Nodup) (hll:l.length<=100000) (hra:ra.length<=1000) (hrn:(ra.map Hd.k).Nodup) (hpk:ps.length=ks.length) (hkl:ks.length<=1000) (hk0:0<ks.length) (hps:∀p∈ps,p.1.length<=100000)
 (hpp:∀(j:Nat) (w:List Hd),(ps.map (·.1))[j]?=some w->(w.length:Int)<=vk ks j)
 (hty:∀x∈l,∃t:Nat,x.i.t=t/\t<ks.length) (htyr:∀x∈ra,∃t:Nat,x.t=t/\t<ks.length) (htr:∀(a:Nat) (h:a<l.length) (q:Bool),FnW C 238 [aR ks ke cap,aL [l[a]] q,.int .i64 0]=some (.tup [.agg (tp l[a]).c,.int .i64 0])) :
 ∃(ps':List Pl) (ea' pe':Bool),ps'.map (·.1)=(cmF tp ks ra (ps.map (·.1)) l A).2.1 /\
  FnW C 280 [.agg (cCf vw ov ls ks ke cap ar fl),aSt ra ea ps pe,aL l e,.ro 1 (A.map eAt) f]=some (.tup [aSt (cmF tp ks ra (ps.map (·.1)) l A).1 ea' ps' pe',aCn (cmF tp ks ra (ps.map (·.1)) l A).2.2.1 (cmF tp ks ra (ps.map (·.1)) l A).2.2.2.1 (cmF tp ks ra (ps.map (·.1)) l A).2.2.2.2 (live ((cmF tp ks ra (ps.map (·.1)) l A).1::(cmF tp ks ra (ps.map (·.1)) l A).2.1))]):=by
 rw[aN H.f280 rfl];obtain⟨L,hL⟩:∃L,L=CK C 0 (aO aau.res) [] aau.body ⟨Fh 0 [.agg (cCf vw ov ls ks ke cap ar fl),aSt ra ea ps pe,aL l e,.ro 1 (A.map eAt) f] [],[],0⟩:=⟨_,rfl⟩;rw[<- hL];simp[aau]at hL;obtain⟨h1,n1,T1,x1⟩:=abS (C:=C) vw ov ls ks ke cap ar fl ra ea ps pe l e A f hA hAl hAn hn A.length 0 qqz
  [(0,.cells 7 [cCf vw ov ls ks ke cap ar fl] true true),(1,.cells 2 [[.ro 8 (ra.map eHd) ea,.ro 1 (ps.map ePl) pe]] true true),(2,.cells 1 [[.ro 6 (l.map eEn) e]] true true),(3,.cells 2 [[.ro 8 [] true,.ro 1 [] true]] true true),(4,.cells 4 [[.int .i64 0,.int .i64 0,.int .i64 0,.int .i64 0]] true true),(5,.map [])] 10
  ⟨rfl,rfl,rfl,rfl,rfl,rfl,by omega⟩
 have x1':=hL.trans x1;clear hL x1;have nx:=T1.nx;have T2:PcN vw ov ls ks ke cap ar fl ra ea ps pe l e (vV (sQ l A)) (n1+3) (n1+3) (put (put h1 (n1+3) (.cells 1 (List.replicate ps.length [.ro 8 [] true]) true true)) 3 (.cells 2 [[.ro 8 [] true,.sl (n1+3) 1 0 ps.length ps.length true]] true false)) (n1+10) [] (λ_=>0) 0 true:=by
  refine⟨?_,?_,?_,ak ..,?_,?_,?_,by simpa using kG.nil,by omega,λj hj=>by omega⟩
  ·simp(disch:=omega)only[aj];exact T1.g0
  ·simp(disch:=omega)only[aj];exact T1.g1
  ·simp(disch:=omega)only[aj];exact T1.g2
  ·simp(disch:=omega)only[aj];exact T1.g4
  ·simp(disch:=omega)only[aj];exact T1.g5
  ·simp(disch:=omega)only[aj,ak];simp
 obtain⟨h2,n2,cs,id,dt,T3,hd,x2⟩:=ac4 vw ov ls ks ke cap ar fl ra ea ps pe l e H A f qqq (λp hp=>by have:=hps p hp;omega) (vV (sQ l A)) (n1+3) (n1+3) ps.length 0 qqz _ _ _ _ _ T2;have hdt:dt=false:=hd (.inr qqq);subst hdt;rw[au Ht.eq_1]at x1';have hk25:ps.length*25<=35184372088832:=by omega
 simp(disch:=omega) [T1.g0,T1.g1,T1.g2,T1.g3,T1.g4,T1.g5,ak,aj,hk25,aK]at x1';have x2':=x1'.trans x2;clear x1' x2;have ne:=T3.ne;have gp:=T3.gp;rw[zQx,qtj,qKz]at gp;have hR:=T3.R;rw[show ps.length=(ps.map (·.1)).length by simp,List.take_length]at hR;have nd3:=T3.nd;have T4:PcO vw ov ls ks ke cap ar fl l e (vV (sQ l A)) (vO (stay (ra.take 0) l A)) n2 (n1+3) (n1+3) (.ro 8 [] true) nM (ps.map (·.1)) [0,0,0,0] (put h2 n2 (.map [])) (n2+6) cs id:=by
  refine⟨?_,?_,?_,?_,?_,ak ..,?_,hR.mono qqq (λj hj=>aj (by have:=(hR.bd j hj).2;omega)),by simpa using hpk,by omega,λj hj=>⟨nd3 j qqq,by have:=(hR.bd j qqx).2;omega⟩⟩
  ·rw[aj qqq];exact T3.g0
  ·rw[aj qqq];exact T3.g2
  ·rw[aj qqq,<- hpk];exact T3.g3
  ·rw[aj qqq];exact T3.g4
  ·rw[aj qqq];exact T3.g5
  ·rw[aj qqq];exact gp
 obtain⟨h3,n3,cs3,id3,T5,x3⟩:=ab5 vw ov ls ks ke cap ar fl l e H A f ra ea hra hrn htyr (sQ l A) (λx hx=>afj hn x A hAn hAl) n2 (n1+3) (n1+3) ra.length 0 qqz (ps.map (·.1)) 0 _ _ _ _ T4 (λw hw=>by obtain⟨p,hp,rfl⟩:=qkx.1 hw;have:=hps p hp;omega) hpp qqq qqq;rw[au GN.eq_1]at x2';simp(disch:=omega) [T3.g0,T3.g1,T3.g2,T3.g3,T3.g4,T3.g5,gp,ak,aj,aK]at x2';have x3':=x2'.trans x3;clear x2' x3;rw[qjz]at T5;have hl1:=Aa ks l A ra (ps.map (·.1),0) 100000 (λw hw=>by obtain⟨p,hp,rfl⟩:=qkx.1 hw;exact hps p hp);generalize hS:cm1 ks l A ra (ps.map (·.1),0)=S at *;obtain⟨h4,n4,cs4,id4,RW,rbk,x4,T6,U6⟩:=aer vw ov ls ks ke cap ar fl l e H tp A f ra hA hAl hll hty htr (vV (sQ l A)) (vO (stay ra l A)) (λa ha h=>by rw[CS,BF hrn hn hAl ha h]) n2 (n1+3) (n1+3) A.length 0 qqz (.ro 8 [] true) [] 0 S.1 0 0 S.2 _ _ _ _ ((T5.any vw ov ls ks ke cap ar fl l e).later vw ov ls ks ke cap ar fl l e (show n3<=n3+3 by omega) (λ_ _=>rfl)) (.inl ⟨rfl,rfl⟩) qqx qqq qqq qqq qqq (λw hw=>by have:=hl1 w hw;omega);rw[au Io.eq_1]at x3';simp(disch:=omega)at x3';have x4':=x3'.trans x4;clear x3' x4;rw[qjz]at T6 U6;have hl2:=qK tp ra l A ([],S.1,0,0) _ hl1;unfold cmF;simp only;rw[hS];simp only[qJx,qXj]at hl2;generalize hV:cm2 tp ra l A ([],S.1,0,0)=V at *;have hR2:(V.1=[]/\RW=.ro 8 [] true)\/(RW=.sl rbk 8 0 V.1.length V.1.length false/\Pav.get h4 rbk=some (.cells 8 (eHs V.1) true true)):=by
  rcases U6 with u|⟨_,u2,u3,_⟩
  ·exact .inl u
  ·exact .inr ⟨u2,u3⟩
 have hR4:∀hf:aI,(∀j,n1+3<=j->Pav.get hf j=Pav.get h4 j)->(V.1=[]/\RW=.ro 8 [] true)\/(RW=.sl rbk 8 0 V.1.length V.1.length false/\Pav.get hf rbk=some (.cells 8 (eHs V.1) true true)):=by
  intro hf hg;rcases U6 with u|⟨_,u2,u3,u4,_⟩
  ·exact .inl u
  ·exact .inr ⟨u2,by rw[hg _ u4];exact u3⟩
 have ne6:=T6.ne;obtain⟨eo,ps1,pe1,f1,f2⟩:=Si hR2 T6.R T6.gp ks.length T6.wl.symm 12;have hlv:=Jr V.1 eo ps1 pe1 H.towV qqq (λp hp=>by have:=hl2.2.1 p.1 (by rw[<- f1];exact qkx.2 ⟨p,hp,rfl⟩);omega) (by have:=congrArg List.length f1;simp at this;have:=T6.wl;omega);rw[f1]at hlv;obtain⟨lv,hlve⟩:∃lv,live (V.1::V.2.1)=lv:=⟨_,rfl⟩;rw[hlve]at hlv |-;rw[x4',au yT.eq_1];clear hV hS x4';rcases hR2 with⟨q1,rfl⟩|⟨rfl,q3⟩
 ·obtain⟨hf,hfe⟩:∃hf,hf=put (put (put h4 4 (.cells 4 [[.int .i64 V.2.2.1,.int .i64 V.2.2.2,.int .i64 S.2,.int .i64 lv]] true true)) 3 (.cells 2 [[.ro 8 [] true,.sl (n1+3) 1 0 ks.length ks.length true]] true false)) 4 (.cells 4 [[.int .i64 V.2.2.1,.int .i64 V.2.2.2,.int .i64 S.2,.int .i64 lv]] true true):=⟨_,rfl⟩;have hg:∀j,n1+3<=j->Pav.get hf j=Pav.get h4 j:=λj h1=>by rw[hfe];simp(disch:=omega)only[aj]
  obtain⟨eo',ps2,pe2,f3,f4⟩:=Si (hR4 hf hg) (T6.R.mono (qxx _) (λj hj=>hg _ (T6.R.bd j hj).1)) (by rw[hg (n1+3) qqq];exact T6.gp) ks.length T6.wl.symm 11;refine⟨ps2,eo',pe2,f3,?_⟩;rw[hfe]at f4;rw[q1]at f2 hlv;simp(disch:=omega) [T6.g0,T6.g2,T6.g3,T6.g4,ak,aj,H.kk,f2,hlv,-fO,bH];rw[f4,Oj];rfl
 ·obtain⟨hf,hfe⟩:∃hf,hf=put (put (put h4 4 (.cells 4 [[.int .i64 V.2.2.1,.int .i64 V.2.2.2,.int .i64 S.2,.int .i64 lv]] true true)) 3 (.cells 2 [[.sl rbk 8 0 V.1.length V.1.length false,.sl (n1+3) 1 0 ks.length ks.length true]] true false)) 4 (.cells 4 [[.int .i64 V.2.2.1,.int .i64 V.2.2.2,.int .i64 S.2,.int .i64 lv]] true true):=⟨_,rfl⟩;have hg:∀j,n1+3<=j->Pav.get hf j=Pav.get h4 j:=λj h1=>by rw[hfe];simp(disch:=omega)only[aj]
  obtain⟨eo',ps2,pe2,f3,f4⟩:=Si (hR4 hf hg) (T6.R.mono (qxx _) (λj hj=>hg _ (T6.R.bd j hj).1)) (by rw[hg (n1+3) qqq];exact T6.gp) ks.length T6.wl.symm 11;refine⟨ps2,eo',pe2,f3,?_⟩;rw[hfe]at f4;simp(disch:=omega) [T6.g0,T6.g2,T6.g3,T6.g4,ak,aj,H.kk,f2,hlv,-fO,bH];rw[f4,Oj];rfl
section
variable (vw ov ls:Int)(ks:List Kd)(ke:Bool)(cap ar fl:Int)(ra:List Hd)(ea:Bool)(ps:List Pl)(pe:Bool)(l:List En)(e:Bool)
abbrev hpC:aI:=[(0,.cells 4 [[.int .i64 0,.int .i64 0,.int .i64 0,.int .i64 0]] true true),(1,.cells 2 [[.ro 8 [] true,.ro 1 [] true]] true true),(2,.cells 1 [[.ro 6 (l.map eEn) e]] true true),
 (3,.cells 2 [[.ro 8 (ra.map eHd) ea,.ro 1 (ps.map ePl) pe]] true true),(4,.cells 7 [cCf vw ov ls ks ke cap ar fl] true true)]
theorem abv(H:sF C)(A:List Nat)(f:Bool)(hA:A.length<=1000)(hAl:∀a∈A,a<l.length)(hll:l.length<=100000)(hri:∀(i:Nat) (h:i+1<A.length),A[i]<A[i+1]):∀m i,m+i=A.length ->
 CK C 0 (aO [.cell 8 2 true,.cell 9 4 true,.tmp 10]) [.sq PD,.bk 0 ⟨true,[9,8,6,5,4,3],[]⟩,.sq yL] uJ
  ⟨[(36,.int .i64 i),(35,.int .i64 A.length),(34,.ro 1 (A.map eAt) f),(9,.ptr 0 0 0),(8,.ptr 1 0 0),(6,.ptr 2 0 0),(5,.ptr 3 0 0),(4,.ptr 4 0 0),(3,.ro 1 (A.map eAt) f)],hpC vw ov ls ks ke cap ar fl ra ea ps pe l e,5⟩ =
 CK C 0 (aO [.cell 8 2 true,.cell 9 4 true,.tmp 10]) [] yL
  ⟨[(9,.ptr 0 0 0),(8,.ptr 1 0 0),(6,.ptr 2 0 0),(5,.ptr 3 0 0),(4,.ptr 4 0 0),(3,.ro 1 (A.map eAt) f)],hpC vw ov ls ks ke cap ar fl ra ea ps pe l e,5⟩:=by
 intro m;induction m with
 |zero=>
  intro i hi;have h3:¬i<A.length:=by omega
  rw[au uJ.eq_1];simp(disch:=omega) [h3]
 |succ m ih=>
  intro i hi;have h1:i<A.length:=by omega
  have h2:=hAl _ (qxq h1);have h3:=ih (i+1) qqq;rw[<- h3];have h4:¬(l.length:Int)<=A[i]:=by omega
  have h5:¬l.length<=A[i]:=by omega
  rw[au uJ.eq_1];cases i with
  |zero=>simp(disch:=omega) [h1,h2,h4,h5,aK]
  |succ j=>
   have h6:=hri j h1;have h7:j<A.length:=by omega
   have h8:¬(A[j+1]:Int)<=A[j]:=by omega
   have h9:¬A[j+1]<=A[j]:=by omega
   have h10:IntKind.i64.wrap (j:Int)=j:=aK qqq qqq;have h11:(0:Int)<j+1:=by omega
   simp(disch:=omega) [h1,h2,h4,h5,h7,h8,h9,h10,h11,aK];intro q;omega
theorem VY(H:sF C)(tp:En->Nd)(A:List Nat)(f:Bool)
 (hchk:FnW C 278 [.agg (cCf vw ov ls ks ke cap ar fl),aSt ra ea ps pe]=some (.int .i64 0)) (hlc:FnW C 223 [aR ks ke cap,aL l e]=some (.int .i64 0)) (hri:∀(i:Nat) (h:i+1<A.length),A[i]<A[i+1])
 (hA:A.length<=1000) (hAl:∀a∈A,a<l.length) (hAn:A.Nodup) (hn:(bQ l).Nodup) (hll:l.length<=100000) (hra:ra.length<=1000) (hrn:(ra.map Hd.k).Nodup) (hpk:ps.length=ks.length) (hkl:ks.length<=1000) (hk0:0<ks.length) (hps:∀p∈ps,p.1.length<=100000)
 (hpp:∀(j:Nat) (w:List Hd),(ps.map (·.1))[j]?=some w->(w.length:Int)<=vk ks j)
 (hty:∀x∈l,∃t:Nat,x.i.t=t/\t<ks.length) (htyr:∀x∈ra,∃t:Nat,x.t=t/\t<ks.length) (htr:∀(a:Nat) (h:a<l.length) (q:Bool),FnW C 238 [aR ks ke cap,aL [l[a]] q,.int .i64 0]=some (.tup [.agg (tp l[a]).c,.int .i64 0]))
 (hrc:(cmF tp ks ra (ps.map (·.1)) l A).1.length<=1000000/\∀x∈(cmF tp ks ra (ps.map (·.1)) l A).1,cnt x.n≠0) (hpc:∀w∈(cmF tp ks ra (ps.map (·.1)) l A).2.1,w.length<=1000000/\∀x∈w,cnt x.n≠0) (hplen:(cmF tp ks ra (ps.map (·.1)) l A).2.1.length<=1000) :
 ∃ps':List Pl,ps'.map (·.1)=(cmF tp ks ra (ps.map (·.1)) l A).2.1.map (λw=>w.map bY) /\
 FnW C 139 [.agg (cCf vw ov ls ks ke cap ar fl),aSt ra ea ps pe,aL l e,.ro 1 (A.map eAt) f]=some (.tup (
  if live ((cmF tp ks ra (ps.map (·.1)) l A).1::(cmF tp ks ra (ps.map (·.1)) l A).2.1) > ar then[aSt [] true [] true,aCn 0 0 0 0,.int .i64 15]
  else[aSt ((cmF tp ks ra (ps.map (·.1)) l A).1.map bY) true ps' true,aCn (cmF tp ks ra (ps.map (·.1)) l A).2.2.1 (cmF tp ks ra (ps.map (·.1)) l A).2.2.2.1 (cmF tp ks ra (ps.map (·.1)) l A).2.2.2.2 (live ((cmF tp ks ra (ps.map (·.1)) l A).1::(cmF tp ks ra (ps.map (·.1)) l A).2.1)),.int .i64 0])):=by
 obtain⟨ps1,ea1,pe1,u1,u2⟩:=FP H tp vw ov ls ks ke cap ar fl ra ea ps pe l e A f hA hAl hAn hn hll hra hrn hpk hkl hk0 hps hpp hty htyr htr;have hrules:=sN H.toqV vw ov ls ks ke cap ar fl;have h2:=abv vw ov ls ks ke cap ar fl ra ea ps pe l e H A f hA hAl hll hri A.length 0 qqz;generalize cmF tp ks ra (ps.map (·.1)) l A=V at *;have h3:=amB H V.1 ea1 ps1 pe1 hrc.1 hrc.2 (by have:=congrArg List.length u1;simp at this;omega) (λp hp=>hpc p.1 (by rw[<- u1];exact qkx.2 ⟨p,hp,rfl⟩));refine⟨ps1.map jm,by rw[<- u1,qZz,qZz];rfl,?_⟩;rw[aN H.f139 rfl];rw[au yL.eq_1]at h2;generalize live (V.1::V.2.1)=lv at *;generalize V.1.map bY=rk at *;generalize ps1.map jm=pk at *;simp[hpC]at h2;by_cases c:ar<lv
 ·rw[qzq c];simp(disch:=omega) [XC,H.kk,hchk,hrules,hlc,h2,u2,h3,c,au yL.eq_1]
 ·rw[qwx c];simp(disch:=omega) [XC,H.kk,hchk,hrules,hlc,h2,u2,h3,c,au yL.eq_1]
end
def trN(ks:List Kd)(x:En):Nd:=A8 (jY ks x.i.t).p x.i 12
theorem Aw{tp tr:En->Nd}{l:List En}(hz':∀e∈l,(tp e).z=(tr e).z)(ra:List Hd):∀(A:List Nat) (s s':List Hd×List (List Hd)×Int×Int),s.1.map hz=s'.1.map hz->s.2=s'.2 ->
 (cm2 tp ra l A s).1.map hz=(cm2 tr ra l A s').1.map hz/\(cm2 tp ra l A s).2=(cm2 tr ra l A s').2
 |[],s,s',h1,h2=>by simpa [cm2]using⟨h1,h2⟩
 |a::r,(o,w),(o',w'),h1,h2=>by
  simp only at h1 h2;subst h2;simp only[cm2];cases hq:l[a]? with
  |none=>exact Aw hz' ra r _ _ h1 rfl
  |some e=>
   have he:=hz' e (qwj hq);have h3:(o++[(⟨e.i.k,e.i.t,tp e⟩:Hd)]).map hz=(o'++[(⟨e.i.k,e.i.t,tr e⟩:Hd)]).map hz:=by rw[qWx,qWx,h1];simp[hz,he]
   simp only;split
   ·exact Aw hz' ra r _ _ h3 rfl
   ·split
    ·exact Aw hz' ra r _ _ h3 rfl
    ·exact Aw hz' ra r _ _ h3 rfl
theorem aha{tp tr:En->Nd}{l:List En}(hz':∀e∈l,(tp e).z=(tr e).z)(ks:List Kd)(ra:List Hd)(W:List (List Hd))(A:List Nat):(cmF tp ks ra W l A).1.map hz=(cmF tr ks ra W l A).1.map hz/\(cmF tp ks ra W l A).2=(cmF tr ks ra W l A).2:=by obtain⟨h1,h2⟩:=Aw hz' ra A ([],(cm1 ks l A ra (W,0)).1,0,0) ([],(cm1 ks l A ra (W,0)).1,0,0) rfl rfl;unfold cmF;simp only;exact⟨h1,by rw[h2]⟩
theorem VG{a b:Hd}(h:hz a=hz b):cnt a.n=cnt b.n:=by simp only[hz,qjx]at h;rw[<- zF,h.2.2,zF]
theorem Xt:∀{a b:List Hd},a.map hz=b.map hz->okS a=okS b/\jA a=jA b
 |[],[],_=>⟨rfl,rfl⟩
 |x::a,y::b,h=>by simp only[qvj,qlz]at h;obtain⟨h1,h2⟩:=Xt h.2;have h3:=VG h.1;unfold okS at h1 |-;simp only[qYj,jA,h3,h2,h1,and_self]
 |[],_::_,h=>by simp at h
 |_::_,[],h=>by simp at h
theorem agk{a b:List Hd}(h:a.map hz=b.map hz)(L:List (List Hd)):live (a::L)=live (b::L):=by obtain⟨h1,h2⟩:=Xt h;unfold live;rw[pF,pF,h1];simp only[lS,h2]
theorem Wi:∀{a b:List Hd},a.map hz=b.map hz->∀x∈a,∃y∈b,hz x=hz y
 |[],_,_,x,hx=>by cases hx
 |x::a,y::b,h,u,hu=>by
  simp only[qvj,qlz]at h;rcases qjj.1 hu with rfl | hu
  ·exact⟨y,by simp,h.1⟩
  ·obtain⟨v,hv,h3⟩:=Wi h.2 u hu;exact⟨v,by simp[hv],h3⟩
 |_::_,[],h,_,_=>by simp at h
theorem aoR{r:Int}{l:List En}(L:LG r l):∀e∈l,(trN (ay r) e).z=(trK (ay r) e).z:=λe he=>by unfold trN trK;rw[aei _ (G5 (pq r) (L.t e he))]
structure ao8(r:Int)(B:Nat)(U:List Hd×List (List Hd)×Int×Int×Int):Prop where
 l1:U.1.length<=12
 v1:∀x∈U.1,VH (ay r) 12 x
 n1:(U.1.map Hd.k).Nodup
 l2:U.2.1.length=3
 v2:PV (ay r) 12 U.2.1
 b2:∀w∈U.2.1,w.length<=B
 lv:0<=live (U.1::U.2.1)/\live (U.1::U.2.1)<=64*B*4+1
theorem U8{r:Int}{l:List En}(L:LG r l)(hg:∀x∈l,fM (ay r) x)(hn:(bQ l).Nodup){B:Nat}{ra:List Hd}{ps:List Pl}(S:Gi B ra ps)(K:CkS (ay r) 12 ra ps)(A:List Nat)(hA:A.length<=12)(hAl:∀a∈A,a<l.length)(hAn:A.Nodup) :
 ao8 r (B+12) (cmF (trK (ay r)) (ay r) ra (ps.map (·.1)) l A):=by
 have l1:=Aa (ay r) l A ra (ps.map (·.1),0) B (λw hw=>by obtain⟨p,hp,rfl⟩:=qkx.1 hw;exact S.pb p hp);have l2:=qK (trK (ay r)) ra l A ([],(cm1 (ay r) l A ra (ps.map (·.1),0)).1,0,0) (B+ra.length) l1;have l3:=QW (Q:=HQ) (ay r) l A ra (ps.map (·.1),0) S.q (λw hw=>by obtain⟨p,hp,rfl⟩:=qkx.1 hw;exact S.qp p hp);have l4:=qL (Q:=HQ) (trK (ay r)) ra l (λx hx=>⟨ab9 L hx,x.i.t.toNat,by have:=L.t x hx;simp only;omega,by have:=L.t x hx;have hk:(ay r).length=3:=rfl;omega⟩) A ([],(cm1 (ay r) l A ra (ps.map (·.1),0)).1,0,0) qqz l3;have l5:=P7 (ay r) l A ra (ps.map (·.1),0);have hpv0:PV (ay r) 12 (ps.map (·.1)):=by
  intro i w hw;rw[qQq]at hw;cases hq:ps[i]? with
  |none=>rw[hq]at hw;cases hw
  |some p=>rw[hq]at hw;obtain rfl:=qkq hw;exact K.pv i p hq
 have l6:=JL (ay r) 12 l A ra (ps.map (·.1),0) K.rv (by simp only[qQj];exact K.pl) hpv0;have l7:=EY (ay r) 12 (trK (ay r)) ra l (λx hx=>⟨x.i.t.toNat,by have:=L.t x hx;omega⟩) A ([],(cm1 (ay r) l A ra (ps.map (·.1),0)).1,0,0) l6;have l8:=sV (trK (ay r)) ra l A ([],(cm1 (ay r) l A ra (ps.map (·.1),0)).1,0,0) hAl;have l9:=qL (Q:=λx=>zu x.n->VH (ay r) 12 x) (trK (ay r)) ra l (λx hx _=>afp L hg hx) A ([],(cm1 (ay r) l A ra (ps.map (·.1),0)).1,0,0) qqz (λw hw x hx _=>by obtain⟨i,hi,rfl⟩:=qaj.1 hw;exact((l6 i _ (qqj hi)).2 x hx).1);have l10:=Df hn A hAn (λa ha=>by have:=hAl a ha;simpa [bQ]using this);have hrl:=S.rl;have hpl:=S.pl;simp only[qJx,qXj,qQj]at l2 l5;unfold cmF;simp only;generalize cm1 (ay r) l A ra (ps.map (·.1),0)=s at *;generalize cm2 (trK (ay r)) ra l A ([],s.1,0,0)=u at *;have hb:∀w∈u.2.1,w.length<=B+12:=λw hw=>by have:=l2.2.1 w hw;omega
 have hlv:=NW (B+12) (u.1::u.2.1) (by
  intro w hw;rcases qjj.1 hw with rfl | q
  ·omega
  ·exact hb w q)
 have hlen:(u.1::u.2.1).length=4:=by simp;omega
 rw[hlen]at hlv;refine⟨by simp only;omega,λx hx=>l9.1 x hx (l4.1 x hx).1,by rw[l8];simpa using l10,by simp only;omega,l7,hb,?_⟩;simp only;unfold live;split<;>omega
theorem Nq{r:Int}{l:List En}(L:LG r l){B:Nat}{ra:List Hd}{W:List (List Hd)}{A:List Nat}(R:ao8 r B (cmF (trK (ay r)) (ay r) ra W l A)) :
 (cmF (trN (ay r)) (ay r) ra W l A).1.map hz=(cmF (trK (ay r)) (ay r) ra W l A).1.map hz/\(cmF (trN (ay r)) (ay r) ra W l A).2=(cmF (trK (ay r)) (ay r) ra W l A).2 /\
 live ((cmF (trN (ay r)) (ay r) ra W l A).1::(cmF (trN (ay r)) (ay r) ra W l A).2.1)=live ((cmF (trK (ay r)) (ay r) ra W l A).1::(cmF (trK (ay r)) (ay r) ra W l A).2.1) /\
 (cmF (trN (ay r)) (ay r) ra W l A).1.length<=12/\(∀x∈(cmF (trN (ay r)) (ay r) ra W l A).1,cnt x.n≠0)/\∀w∈(cmF (trK (ay r)) (ay r) ra W l A).2.1,w.length<=B/\∀x∈w,cnt x.n≠0:=by
 obtain⟨h1,h2⟩:=aha (aoR L) (ay r) ra W A;have h3:=congrArg List.length h1;simp only[qQj]at h3;refine⟨h1,h2,?_,by rw[h3];exact R.l1,λx hx=>?_,λw hw=>⟨R.b2 w hw,λx hx=>?_⟩⟩
 ·rw[h2];exact agk h1 _
 ·obtain⟨y,hy,e⟩:=Wi h1 x hx;rw[VG e];exact(R.v1 y hy).c.1
 ·obtain⟨i,hi,rfl⟩:=qaj.1 hw;exact((R.v2 i _ (qqj hi)).2 x hx).1.c.1
end Go.D
end
section
namespace Go.D
open Go Go.Pav Go.Pw P
attribute [-simp] List.getElem_cons_drop
variable {C:aJ}
structure ajL(C:aJ):Prop extends sF C where
 f143:GwC C 143 VN
theorem o8(x:Nat):∀m i,∀(j:Nat) (h:j+1<(iU x i m).length),(iU x i m)[j]<(iU x i m)[j+1]
 |0,i,j,h=>by simp[iU]at h
 |m+1,i,j,h=>by
  have hh:=h;unfold iU at hh;by_cases c:x / 2 ^ i % 2=1
  ·rw[qzq c]at hh;have e:iU x i (m+1)=i::iU x (i+1) m:=by rw[iU,qzq c]
   simp only[e];cases j with
   |zero=>
    simp only[zjz,q3q];have hl:0<(iU x (i+1) m).length:=by simpa using hh
    have:=mW x m (i+1) _ (qxq hl);omega
   |succ j=>simp only[q3q];exact o8 x m (i+1) j (by simpa using hh)
  ·rw[qwx c]at hh;have e:iU x i (m+1)=iU x (i+1) m:=by rw[iU,qwx c]
   simp only[e];exact o8 x m (i+1) j hh
theorem E5(H:ace C){r:Int}{l:List En}(L:LG r l)(a:Nat)(ha:a<l.length)(q:Bool):FnW C 238 [aR (ay r) true 12,aL [l[a]] q,.int .i64 0]=some (.tup [.agg (trN (ay r) l[a]).c,.int .i64 0]):=by have hx:=qxq ha;have h1:ckE (ay r) 12 [l[a]]=0:=L.ck1 _ hx;have h2:=agS H.toajI (ay r) true 12 (pq r) [l[a]] q qqz (by intro y hy;rw[qhx]at hy;subst hy;exact L.en _ hx) h1 0 qqz (L.t _ hx).2;simp only[zjz]at h2;rw[L.rE _ hx]at h2;exact h2
theorem Jy(H:sF C){r:Int}{l:List En}(L:LG r l)(hg:∀x∈l,fM (ay r) x)(hn:(bQ l).Nodup)(e:Bool){B:Nat}(hB:B<=200){ra:List Hd}{ps:List Pl}(S:Gi B ra ps)(K:CkS (ay r) 12 ra ps)(ea pe:Bool)(A:List Nat)(f:Bool)(hA:A.length<=12)(hAl:∀a∈A,a<l.length)(hAn:A.Nodup)(hri:∀(i:Nat) (h:i+1<A.length),A[i]<A[i+1]) :
 ∃lv:Int,0<=lv/\lv<=60000/\∀ar,1<=ar->ar<=65536->∃(r1 r2:List Hd) (e1 e2:Bool) (p1 p2:List Pl) (g1 g2:Bool) (rb mk d:Int),
  FnW C 285 [.agg (cCf 100 1 1 (ay r) true 12 ar 0),aSt ra ea ps pe,.ro 6 (l.map eEn) e,.ro 1 (A.map eAt) f]=some (.tup [aSt r1 e1 p1 g1,aCn rb mk d (if lv > ar then 0 else lv),.int .i64 (if lv > ar then 15 else 0)]) /\
  FnW C 139 [.agg (cCf 100 1 1 (ay r) true 12 ar 0),aSt ra ea ps pe,.agg [.ro 6 (l.map eEn) e],.ro 1 (A.map eAt) f]=some (.tup [aSt r2 e2 p2 g2,aCn rb mk d (if lv > ar then 0 else lv),.int .i64 (if lv > ar then 15 else 0)]) /\
  FnW C 286 [aSt r2 e2 p2 g2,aSt r1 e1 p1 g1]=some (.int .i64 1):=by
 have hk:(ay r).length=3:=rfl;have R:=U8 L hg hn S K A hA hAl hAn;obtain⟨z1,z2,z3,z4,z5,z6⟩:=Nq L R;have hrl:=S.rl;have hpl:=S.pl;obtain⟨lv,hlv⟩:∃lv,live ((cmF (trK (ay r)) (ay r) ra (ps.map (·.1)) l A).1::(cmF (trK (ay r)) (ay r) ra (ps.map (·.1)) l A).2.1)=lv:=⟨_,rfl⟩;have hlb:=R.lv;rw[hlv]at hlb;refine⟨lv,hlb.1,by omega,λar ha1 ha2=>?_⟩;have htyl:∀x∈l,∃t:Nat,x.i.t=t/\t<(ay r).length:=λx hx=>⟨x.i.t.toNat,by have:=L.t x hx;omega,by have:=L.t x hx;omega⟩;have htyr:∀x∈ra,∃t:Nat,x.t=t/\t<(ay r).length:=λx hx=>by rw[hk];exact(S.q x hx).2
 obtain⟨ps1,ea1,pe1,h1,h2⟩:=zL H.toYu (trK (ay r)) 100 1 1 (ay r) true 12 ar 0 ra ea ps pe l e A f qqq hAl qqq (by rw[hpl];rfl) qqq qqq (λp hp=>by have:=S.pb p hp;omega) htyl htyr (λa ha=>Fe H.toace L e a ha);have hF:=DZ H.toqV 100 1 1 (ay r) true 12 ar 0 (pq r) (Nb r L.hr) qqq (vG r) ⟨ha1,ha2⟩;have hC:=o9 100 1 1 (ay r) true 12 ar 0 H.toqV hF qqq (vG r) ra ea ps pe K;have hlc:=yj H.tozk (ay r) true 12 (pq r) l e (by have:=L.hl;omega) L.en;rw[L.ck]at hlc;obtain⟨ps2,h3,h4⟩:=VY 100 1 1 (ay r) true 12 ar 0 ra ea ps pe l e H (trN (ay r)) A f hC hlc hri qqq hAl hAn hn (by have:=L.hl;omega) qqq K.rn (by rw[hpl];rfl) qqq qqq (λp hp=>by have:=S.pb p hp;omega)
  (λj w hw=>by
   rw[qQq]at hw;cases hq:ps[j]? with
   |none=>rw[hq]at hw;cases hw
   |some p=>rw[hq]at hw;obtain rfl:=qkq hw;exact(K.pv j p hq).1)
  htyl htyr (λa ha q=>E5 H.toace L a ha q) ⟨by omega,z5⟩ (λw hw=>by rw[z2]at hw;have:=z6 w hw;exact⟨by omega,this.2⟩) (by rw[z2,R.l2];omega)
 rw[z3,hlv,z2]at h4;rw[z2]at h3;rw[hlv]at h2;by_cases c:lv > ar
 ·rw[qzq c]at h2 h4 |-;have t2:=iY H.tooq [] [] true true [] [] true true ⟨by simp,by simp⟩ qqz qqz;have t3:(eY [] []&&fA [] [])=true:=rfl;rw[qzq t3]at t2;refine⟨[],[],true,true,[],[],true,true,0,0,0,?_,?_,t2⟩
  ·rw[qzq c];exact h2
  ·rw[qzq c];exact h4
 ·rw[qwx c]at h2 h4 |-;rw[qwx c];refine⟨_,_,_,_,_,_,_,_,_,_,_,h2,h4,?_⟩;have hs:∀x∈((cmF (trN (ay r)) (ay r) ra (ps.map (·.1)) l A).1.map bY),zu x.n:=λx hx=>by obtain⟨y,hy,rfl⟩:=qkx.1 hx;exact Eu (uD (by simp only[bY];rw[AL];exact z5 y hy))
  have hq:(eY ((cmF (trN (ay r)) (ay r) ra (ps.map (·.1)) l A).1.map bY) (cmF (trK (ay r)) (ay r) ra (ps.map (·.1)) l A).1&&fA ps2 ps1)=true:=by
   rw[oP _ _ (by rw[kW,z1]),nS _ _ (by
    have e1:(ps2.map λp=>p.1.map hz)=(ps2.map (·.1)).map λw=>w.map hz:=by rw[qZz];rfl
    have e2:(ps1.map λp=>p.1.map hz)=(ps1.map (·.1)).map λw=>w.map hz:=by rw[qZz];rfl
    rw[e1,e2,h3,h1,qZz];exact qex λw _=>kW w)];rfl
  have hp2:ps2.length=3:=by have:=congrArg List.length h3;simp at this;rw[this];exact R.l2
  have t3:=iY H.tooq ((cmF (trN (ay r)) (ay r) ra (ps.map (·.1)) l A).1.map bY) (cmF (trK (ay r)) (ay r) ra (ps.map (·.1)) l A).1 true ea1 ps2 ps1 true pe1 ⟨by simp;omega,hs⟩ qqq (λp hp=>by have:p.1∈ps2.map (·.1):=qkx.2 ⟨p,hp,rfl⟩;rw[h3]at this;obtain⟨w,hw,he⟩:=qkx.1 this;have hw2:=z6 w hw;rw[<- he];refine⟨by simp;omega,λx hx=>?_⟩;obtain⟨y,hy,rfl⟩:=qkx.1 hx;exact Eu (uD (by simp only[bY];rw[AL];exact hw2.2 y hy)));rw[qzq hq]at t3;exact t3
theorem aeY(H:ajL C)(hl:FnW C 145 []=some (.bool true))(q1 q2:List Q4)(e1 e2:Bool)(z1 z2:List Int)(f1 f2:Bool)(r r2:Int)(hr:0<=r/\r<=255)(w:List (Int×Int))(we:Bool)(a b:Nat)(hb:b<=65535)(y:Int)(hy:-128<=y/\y<=127)
 {ra:List Hd}{ea:Bool}{ps:List Pl}{pe:Bool}(S:Gi 96 ra ps) (K:CkS (ay r) 12 ra ps) (R1 R2:List En) (g1 g2:Bool) (L1:LG r R1) (L2:LG r R2) (G1:∀x∈R1,fM (ay r) x) (G2:∀x∈R2,fM (ay r) x) (N1:(bQ R1).Nodup) (N2:(bQ R2).Nodup)
 (ha:FnW C 283 [.agg [.ro 4 (q1.map eQ) e1,.ro 1 (z1.map eU8) f1,.int .u8 r,.ro 4 (q2.map eQ) e2,.ro 1 (z2.map eU8) f2,.int .u8 r2,.ro 2 (w.map eW) we]]=some (.tup [.agg (cCf 100 1 1 (ay r) true 12 65536 0),aSt ra ea ps pe,.agg [.ro 6 (R1.map eEn) g1,.ro 6 (R2.map eEn) g2]])) :
 FnW C 143 [.agg [.ro 4 (q1.map eQ) e1,.ro 1 (z1.map eU8) f1,.int .u8 r,.ro 4 (q2.map eQ) e2,.ro 1 (z2.map eU8) f2,.int .u8 r2,.ro 2 (w.map eW) we],.agg [.int .u16 a,.int .u16 b],.int .i8 y]=some (.bool true):=by
 by_cases c:(a:Int).tmod 2=0
 ·have hb2:=xP H.tooq b R1.length hb (by have:=L1.hl;omega);have hbl:=pJ b (min R1.length 16) 0;obtain⟨lv,h0,h1,h2⟩:=Jy H.tosF L1 G1 N1 g1 (B:=96) qqq S K ea pe (iU b 0 (min R1.length 16)) false (by have:=L1.hl;omega) (λa ha=>by have:=mW b _ 0 a ha;omega) (qI b _ 0) (o8 b _ 0);obtain⟨r1,_,x1,_,p1,_,y1,_,rb,mk,d,t1,_,_⟩:=h2 65536 qqq qqq;rw[qwx qqq,qwx qqq]at t1;have hw:IntKind.i64.wrap (lv+y)=lv+y:=aK qqq qqq;obtain⟨ar,har⟩:∃ar,imax 1 (lv+y)=ar:=⟨_,rfl⟩;have har2:1<=ar/\ar<=65536:=by rw[<- har];unfold imax;split<;>omega
  obtain⟨r1',r2',x1',x2',p1',p2',y1',y2',rb',mk',d',s1,s2,s3⟩:=h2 ar har2.1 har2.2;generalize ay r=ks at *;generalize iU b 0 (min R1.length 16)=Z at *;rw[aN H.f143 rfl];by_cases c2:ar<lv
  ·simp only[zQj,c2,qyx]at s1 s2;simp(disch:=omega) [VN,H.kk,ha,c,hb2,t1,hw,har,s1,s2,s3,hl,c2,aK]
  ·simp only[zQj,c2,qWq]at s1 s2;simp(disch:=omega) [VN,H.kk,ha,c,hb2,t1,hw,har,s1,s2,s3,hl,c2,aK]
 ·have c':(a:Int).tmod 2=1:=by have:=qyq (a:=(a:Int)) (b:=2) qqq;omega
  have hb2:=xP H.tooq b R2.length hb (by have:=L2.hl;omega);have hbl:=pJ b (min R2.length 16) 0;obtain⟨lv,h0,h1,h2⟩:=Jy H.tosF L2 G2 N2 g2 (B:=96) qqq S K ea pe (iU b 0 (min R2.length 16)) false (by have:=L2.hl;omega) (λa ha=>by have:=mW b _ 0 a ha;omega) (qI b _ 0) (o8 b _ 0);obtain⟨r1,_,x1,_,p1,_,y1,_,rb,mk,d,t1,_,_⟩:=h2 65536 qqq qqq;rw[qwx qqq,qwx qqq]at t1;have hw:IntKind.i64.wrap (lv+y)=lv+y:=aK qqq qqq;obtain⟨ar,har⟩:∃ar,imax 1 (lv+y)=ar:=⟨_,rfl⟩;have har2:1<=ar/\ar<=65536:=by rw[<- har];unfold imax;split<;>omega
  obtain⟨r1',r2',x1',x2',p1',p2',y1',y2',rb',mk',d',s1,s2,s3⟩:=h2 ar har2.1 har2.2;generalize ay r=ks at *;generalize iU b 0 (min R2.length 16)=Z at *;rw[aN H.f143 rfl];by_cases c2:ar<lv
  ·simp only[zQj,c2,qyx]at s1 s2;simp(disch:=omega) [VN,H.kk,ha,c',hb2,t1,hw,har,s1,s2,s3,hl,c2,aK]
  ·simp only[zQj,c2,qWq]at s1 s2;simp(disch:=omega) [VN,H.kk,ha,c',hb2,t1,hw,har,s1,s2,s3,hl,c2,aK]
end Go.D
end
section
namespace Go.D
open Go Go.Pav Go.Pw P
set_option maxHeartbeats 2000000
attribute [-simp] List.getElem_cons_drop
variable {C:aJ}
structure MQ(C:aJ):Prop extends ajL C where
 ajB:GwC C 5036 Y5
 akb:GwC C 5035 Yy
 aj6:GwC C 5034 Ud
theorem leF{a b:Nat}(h:b<a):(a<=b)=False:=zQz qqq
abbrev zNd:List AV:=[.int .u8 0,.str [],.str [],.ro 2 [] true,.str [],.ro 6 [] true]
abbrev BD(n:Nd)(b:Nat):List AV:=[.int .u8 n.k,.str n.t,.str n.y,.ro 2 (n.a.map eA) true,.str n.x,.sl b 6 0 n.ch.length n.ch.length true]
abbrev Xd(n:Nd):dD:=.cells 6 ((n.ch.map jV).map Nd.c) true true
theorem abV(H:MQ C)(n:Nd)(hl:n.ch.length<=16)(ih:∀c∈n.ch,FnW C 507 [.agg c.c,.bool true]=some (.agg (jV c).c))(bs bx r kb:Nat)(h1:bx≠kb)(h2:r≠kb)(h3:bx≠r):∀m i,m+i=n.ch.length->∀(G:List Nd),G.length=i->G=(n.ch.take i).map jV->∀(h:aI) (next:Nat),bx<next->r<next->kb<next ->
 Pav.get h bx=some (.cells 6 [[.int .u8 n.k,.str n.t,.str n.y,.ro 2 (n.a.map eA) true,.str n.x,.ro 6 (n.ch.map Nd.c) n.ce]] true true)->Pav.get h r=some (.cells 6 [zNd] true true)->Pav.get h kb=some (.cells 6 (G.map Nd.c++List.replicate m zNd) true true) ->
 ∃h' next',Pav.get h' kb=some (Xd n)/\next<=next' /\
 CK C bs (gX [.cell 4 6 true]) [.sq Ji,.bk 0 ⟨true,[5,4,2],[(9999,65537)]⟩,.sq Jh] wK
  ⟨[(23,.int .i64 i),(22,.int .i64 n.ch.length),(21,.ro 6 (n.ch.map Nd.c) n.ce),(5,.sl kb 6 0 n.ch.length n.ch.length true),(4,.ptr r 0 0),(2,.ptr bx 0 0),(1,.bool true)],h,next⟩=some (.agg (BD n kb),h',next'):=by
 intro m;induction m with
 |zero=>
  intro i hi G hG hGe h next l1 l2 l3 g1 g2 g3
  have c1:¬i<n.ch.length:=by omega
  have e1:n.ch.take i=n.ch:=qxz qqq;rw[e1]at hGe;rw[hGe]at g3;simp only[qtj,qKz]at g3;refine⟨put (put h bx (.cells 6 [BD n kb] true false)) r (.cells 6 [BD n kb] true false),next+6,?_,by omega,?_⟩
  ·simp(disch:=omega)only[aj];exact g3
  ·rw[au wK.eq_1];simp(disch:=omega) [au Jh.eq_1,c1,g1,g2,g3,ak,aj]
 |succ m ihm=>
  intro i hi G hG hGe h next l1 l2 l3 g1 g2 g3
  have c1:i<n.ch.length:=by omega
  have hs:=ih n.ch[i] (qxq c1);have q1:=JU Nd.c G zNd m;have q2:=JD Nd.c G zNd m (jV n.ch[i]);rw[hG]at q1 q2;obtain⟨h',n',r1,r2,r3⟩:=ihm (i+1) qqq (G++[jV n.ch[i]]) (by simp[hG]) (by rw[hGe,qij,qqj c1,qWx];rfl)
   (put (put h (next+4) (.cells 6 [n.ch[i].c] true true)) kb (.cells 6 ((G++[jV n.ch[i]]).map Nd.c++List.replicate m zNd) true true)) (next+16) qqq qqq qqq
   (by simp(disch:=omega)only[aj];exact g1) (by simp(disch:=omega)only[aj];exact g2) (ak ..)
  refine⟨h',n',r1,by omega,?_⟩;rw[<- r3,au wK.eq_1];simp at q2;simp(disch:=omega) [c1,hs,aK,H.kk,g1,g2,g3,q1,q2,ak,aj,bH]
theorem amv(H:MQ C)(n:Nd)(ha:n.a.length<=8)(hl:n.ch.length<=16)(ih:∀c∈n.ch,FnW C 507 [.agg c.c,.bool true]=some (.agg (jV c).c))(nx:Nat) :
 ∃h1 n1 b,RnW C 5036 [.agg n.c,.bool true] [] nx=some (.agg (BD n b),h1,n1)/\nx<=b/\b<n1/\Pav.get h1 b=some (Xd n):=by
 have h1:=Nh H.toac6 n.a n.ae qqq;have h2:=Uw H.toac6 n.a n.a.isEmpty;have h4:n.ch.length*105<=35184372088832:=by omega
 obtain⟨L,hL⟩:∃L,L=RnW C 5036 [.agg n.c,.bool true] [] nx:=⟨_,rfl⟩;rw[<- hL];rw[jL (args:=[.agg n.c,.bool true]) H.ajB rfl,Nd.bU n]at hL;simp(disch:=omega) [Y5,h1,h2,h4,H.kk,ltF,gtF,leF]at hL;obtain⟨h',n',r1,r2,r3⟩:=abV H n hl ih nx nx (nx+1) (nx+13) qqq qqq qqq n.ch.length 0 qqz [] rfl rfl
  [(nx,.cells 6 [[.int .u8 n.k,.str n.t,.str n.y,.ro 2 (n.a.map eA) true,.str n.x,.ro 6 (n.ch.map Nd.c) n.ce]] true true),(nx+1,.cells 6 [zNd] true true),(nx+13,.cells 6 (List.replicate n.ch.length zNd) true true)] (nx+19) qqq qqq qqq
  qqz (by simp(disch:=omega) [ltF,gtF]) (by simp(disch:=omega) [ltF,gtF])
 exact⟨h',n',nx+13,hL.trans r3,by omega,by omega,r1⟩
theorem dM{n b:Nat}{h1 h:aI}(hb:b<n):Pav.get (over n h1 h) b=Pav.get h b:=by unfold over;rw[KP,qwx qqq]
theorem oO{n b:Nat}{h1 h:aI}{o:dD}(hb:n<=b)(hg:Pav.get h1 b=some o):Pav.get (over n h1 h) b=some o:=by unfold over;rw[KP,qzq hb,hg]
theorem alz(H:MQ C)(n:Nd)(hc:cnt n≠0)(nx:Nat) :
 ∃h1 n1 b,RnW C 5035 [.agg n.c] [] nx=some (.agg (BD n b),h1,n1)/\nx<=b/\b<n1/\Pav.get h1 b=some (Xd n):=by
 have h1:=tu H.toOa.toUJ n;rw[qwx hc]at h1;have hv:=uD hc;obtain⟨ha,hl,ih⟩:n.a.length<=8/\n.ch.length<=16/\∀c∈n.ch,FnW C 507 [.agg c.c,.bool true]=some (.agg (jV c).c):=by
  cases hv with
  |mk _ hc h1 h2 h=>exact⟨h1,h2,λc hcc=>Y8 H.toJE (h c hcc)⟩
 obtain⟨L,hL⟩:∃L,L=RnW C 5035 [.agg n.c] [] nx:=⟨_,rfl⟩;rw[<- hL];obtain⟨g1,n1,b,r1,r2,r3,r4⟩:=amv H n ha hl ih (nx+6+1);rw[jL (args:=[.agg n.c]) H.akb rfl,Nd.bU n]at hL;rw[Nd.bU n]at h1 r1;simp(disch:=omega) [Yy,h1,r1,H.kk,ltF,gtF,leF,dM,ak,aj]at hL;exact⟨_,_,b,hL,by omega,by omega,by simp(disch:=omega)only[aj];exact oO r2 r4⟩
structure vT(h:aI)(lo hi:Nat)(cs:List (List AV))(l:List Hd):Prop where
 len:cs.length=l.length
 row:∀(i:Nat) (x:Hd),l[i]?=some x->∃b,lo<=b/\b<hi/\cs[i]?=some (.int .u64 x.k::.int .u8 x.t::BD x.n b)/\Pav.get h b=some (Xd x.n)
theorem vT.mono{h h':aI}{lo lo' hi hi':Nat}{cs:List (List AV)}{l:List Hd}(R:vT h lo hi cs l)(hl:lo'<=lo)(hh:hi<=hi')(hg:∀b,lo<=b->b<hi->Pav.get h' b=Pav.get h b):vT h' lo' hi' cs l :=⟨R.len,λi x hx=>by obtain⟨b,h1,h2,h3,h4⟩:=R.row i x hx;exact⟨b,by omega,by omega,h3,by rw[hg b h1 h2];exact h4⟩⟩
theorem vT.snoc{h:aI}{lo hi:Nat}{cs:List (List AV)}{l:List Hd}(R:vT h lo hi cs l)(x:Hd)(b:Nat)(h1:lo<=b)(h2:b<hi)(h3:Pav.get h b=some (Xd x.n)):vT h lo hi (cs++[.int .u64 x.k::.int .u8 x.t::BD x.n b]) (l++[x]):=by
 refine⟨by simp[R.len],λi y hy=>?_⟩;have hi':i<(l++[x]).length:=(qzj.1 hy).1;simp at hi';by_cases c:i=l.length
 ·subst c;simp at hy;subst hy;exact⟨b,h1,h2,by rw[<- R.len];simp,h3⟩
 ·have hil:i<l.length:=by omega
  rw[qJj hil]at hy;obtain⟨b',k1,k2,k3,k4⟩:=R.row i y hy;exact⟨b',k1,k2,by rw[qJj (by rw[R.len];exact hil)];exact k3,k4⟩
theorem adX(H:MQ C)(l:List Hd)(e:Bool)(hl:l.length<=1000000)(hc:∀x∈l,cnt x.n≠0)(bs rb:Nat):∀m i,m+i=l.length->∀(cs:List (List AV)) (dt:Bool) (h:aI) (next:Nat),rb<next->vT h (rb+1) next cs (l.take i) ->
 Pav.get h rb=some (.cells 8 (cs++List.replicate m zH) true dt) ->
 ∃cs' dt' h' next',vT h' (rb+1) next' cs' l/\Pav.get h' rb=some (.cells 8 cs' true dt')/\(0<m\/dt=false->dt'=false)/\next<=next' /\
 CK C bs (gX [.tmp 2]) [.sq JJ,.bk 0 ⟨true,[3],[(9999,65537)]⟩,.sq J4] wQ
  ⟨[(14,.int .i64 i),(13,.int .i64 l.length),(12,.ro 8 (l.map eHd) e),(3,.sl rb 8 0 l.length l.length true)],h,next⟩=some (.sl rb 8 0 l.length l.length true,h',next'):=by
 intro m;induction m with
 |zero=>
  intro i hi cs dt h next hlt R g
  have c1:¬i<l.length:=by omega
  have e1:l.take i=l:=qxz qqq;rw[e1]at R;simp only[qtj,qKz]at g;refine⟨cs,dt,h,next+3,R.mono (qxx _) qqq (λ_ _ _=>rfl),g,λq=>by rcases q with q | q;omega;exact q,by omega,?_⟩;rw[au wQ.eq_1];simp(disch:=omega) [au J4.eq_1,c1]
 |succ m ih=>
  intro i hi cs dt h next hlt R g
  have c1:i<l.length:=by omega
  obtain⟨g1,n1,b,r1,r2,r3,r4⟩:=alz H l[i].n (hc _ (qxq c1)) (next+10);have hcl:cs.length=i:=by rw[R.len];simp;omega
  have hci:(cs++zH::List.replicate m zH)[i]?=some zH:=by rw[qax qqq];simp[hcl]
  have hset:cs++(List.replicate (m+1) zH).set 0 (.int .u64 l[i].k::.int .u8 l[i].t::BD l[i].n b)=(cs++[.int .u64 l[i].k::.int .u8 l[i].t::BD l[i].n b])++List.replicate m zH:=by rw[qej];simp
  have htk:l.take (i+1)=l.take i++[l[i]]:=qZj c1;obtain⟨cs',dt',h',n',k1,k2,k3,k4,k5⟩:=ih (i+1) qqq (cs++[.int .u64 l[i].k::.int .u8 l[i].t::BD l[i].n b]) false
   (put (put (over (next+9+1) g1 (put h (next+4) (.cells 8 [.int .u64 l[i].k::.int .u8 l[i].t::l[i].n.c] true true))) (next+4) (.cells 8 [.int .u64 l[i].k::.int .u8 l[i].t::BD l[i].n b] true false)) rb (.cells 8 ((cs++[.int .u64 l[i].k::.int .u8 l[i].t::BD l[i].n b])++List.replicate m zH) true false)) (n1+9) qqq
   (by
    rw[htk];refine(R.mono (qxx _) qqq (λc q1 q2=>?_)).snoc l[i] b qqq qqq ?_
    ·simp(disch:=omega)only[aj,dM]
    ·simp(disch:=omega)only[aj];exact oO r2 r4)
   (ak ..)
  refine⟨cs',dt',h',n',k1,k2,λ_=>k3 (.inr rfl),by omega,?_⟩;rw[<- k5,au wQ.eq_1];rw[Nd.bU]at r1;simp(disch:=omega) [c1,r1,g,ak,aj,aK,H.kk,Nd.bU,dM,leF,ltF,hci,bH,qej]
def yZ(h:aI)(lo hi:Nat)(v:AV)(l:List Hd):Prop :=(l=[]/\v=.ro 8 [] true)\/(l≠[]/\∃rb cs,v=.sl rb 8 0 l.length l.length true/\lo<=rb/\rb<hi/\Pav.get h rb=some (.cells 8 cs true false)/\vT h (rb+1) hi cs l)
theorem yZ.mono{h h':aI}{lo lo' hi hi':Nat}{v:AV}{l:List Hd}(R:yZ h lo hi v l)(hl:lo'<=lo)(hh:hi<=hi')(hg:∀b,lo<=b->b<hi->Pav.get h' b=Pav.get h b):yZ h' lo' hi' v l:=by
 rcases R with q|⟨q,rb,cs,h1,h2,h3,h4,h5⟩
 ·exact .inl q
 ·exact .inr ⟨q,rb,cs,h1,by omega,by omega,by rw[hg rb h2 h3];exact h4,h5.mono (qxx _) hh (λb k1 k2=>hg b qqq k2)⟩
theorem aeO(H:MQ C)(l:List Hd)(e:Bool)(hl:l.length<=1000000)(hc:∀x∈l,cnt x.n≠0)(nx:Nat):∃v h1 n1,RnW C 5034 [.ro 8 (l.map eHd) e] [] nx=some (v,h1,n1)/\nx<=n1/\yZ h1 nx n1 v l:=by
 obtain⟨L,hL⟩:∃L,L=RnW C 5034 [.ro 8 (l.map eHd) e] [] nx:=⟨_,rfl⟩;rw[<- hL];rw[jL (args:=[.ro 8 (l.map eHd) e]) H.aj6 rfl]at hL;by_cases c:l=[]
 ·subst c;simp[Ud]at hL;exact⟨_,_,_,hL,by omega,.inl ⟨rfl,rfl⟩⟩
 ·have c0:¬l.length=0:=λq=>c (qZq.1 q);have h4:l.length*121<=35184372088832:=by omega
  simp[Ud,c0,h4,c]at hL;obtain⟨cs',dt',h',n',k1,k2,k3,k4,k5⟩:=adX H l e hl hc nx (nx+6) l.length 0 qqz [] true [(nx+6,.cells 8 (List.replicate l.length zH) true true)] (nx+11) qqq ⟨rfl,λi x hx=>by simp at hx⟩ qqz;rw[k3 (.inl qqq)]at k2;exact⟨_,_,_,hL.trans k5,by omega,.inr ⟨c,nx+6,cs',rfl,by omega,by omega,k2,k1⟩⟩
theorem J9{α β:Type}{f:α->Option β}:∀(l:List α) (r:List β),l.length=r.length->(∀(i:Nat) (x:α) (y:β),l[i]?=some x->r[i]?=some y->f x=some y)->aZ f l=some r
 |[],[],_,_=>rfl
 |x::l,y::r,h,hh=>by have h0:=hh 0 x y rfl rfl;have h1:=J9 l r (by simpa using h) (λi a b p q=>hh (i+1) a b (by simpa using p) (by simpa using q));simp only[aZ,h0,h1,ob,om]
 |[],_::_,h,_=>by simp at h
 |_::_,[],h,_=>by simp at h
theorem ahc{h:aI}{x:Hd}{b:Nat}(hg:Pav.get h b=some (Xd x.n))(n:Nat):aZ (bD h (n+2)) (.int .u64 x.k::.int .u8 x.t::BD x.n b)=some (eHd (bY x)):=by
 have e:(jV x.n).c=[.int .u8 x.n.k,.str x.n.t,.str x.n.y,.ro 2 (x.n.a.map eA) true,.str x.n.x,.ro 6 ((x.n.ch.map jV).map Nd.c) true]:=by rw[Nd.bU,QB]
 have h1:List.take x.n.ch.length ((x.n.ch.map jV).map Nd.c)=(x.n.ch.map jV).map Nd.c:=qxz qqz;simp only[eHd,bY,e];rw[qZz]at h1 |-;simp[aZ,hg,h1]
theorem yZ.frz{h:aI}{lo hi:Nat}{v:AV}{l:List Hd}(R:yZ h lo hi v l)(n:Nat):bD h (n+3) v=some (.ro 8 ((l.map bY).map eHd) true):=by
 rcases R with⟨rfl,rfl⟩|⟨_,rb,cs,rfl,_,_,g,R⟩
 ·rfl
 ·have h1:cs.take l.length=cs:=qxz (by rw[R.len];exact qxx _);have h2:aZ (aZ (bD h (n+2))) cs=some ((l.map bY).map eHd):=by
   refine J9 _ _ (by simp[R.len]) (λi c y hc hy=>?_);have hil:i<l.length:=by have:=(qzj.1 hc).1;rw[<- R.len];exact this
   obtain⟨b,_,_,k3,k4⟩:=R.row i l[i] (qqj hil);rw[hc]at k3;rw[qkq k3];simp[hil]at hy;rw[<- hy];exact ahc k4 n
  have h3:(((l.map bY).map eHd).all λe=>e.all isC)=true:=by rw[qkz];intro e he;obtain⟨x,_,rfl⟩:=qkx.1 he;simp only[eHd,Nd.bU];rfl
  rw[ji,g];simp only[Pw.pK,qjz,h1,h2,ob,h3];simp[og]
structure rO(h:aI)(lo hi:Nat)(cs:List (List AV))(W:List (List Hd)):Prop where
 len:cs.length=W.length
 row:∀(j:Nat) (w:List Hd),W[j]?=some w->∃v,cs[j]?=some [v]/\yZ h lo hi v w
theorem rO.mono{h h':aI}{lo lo' hi hi':Nat}{cs:List (List AV)}{W:List (List Hd)}(R:rO h lo hi cs W)(hl:lo'<=lo)(hh:hi<=hi')(hg:∀b,lo<=b->b<hi->Pav.get h' b=Pav.get h b):rO h' lo' hi' cs W :=⟨R.len,λj w hw=>by obtain⟨v,h1,h2⟩:=R.row j w hw;exact⟨v,h1,h2.mono hl hh hg⟩⟩
theorem rO.snoc{h:aI}{lo hi:Nat}{cs:List (List AV)}{W:List (List Hd)}(R:rO h lo hi cs W)(w:List Hd)(v:AV)(hv:yZ h lo hi v w):rO h lo hi (cs++[[v]]) (W++[w]):=by
 refine⟨by simp[R.len],λi y hy=>?_⟩;have hi':i<(W++[w]).length:=(qzj.1 hy).1;simp at hi';by_cases c:i=W.length
 ·subst c;simp at hy;subst hy;exact⟨v,by rw[<- R.len];simp,hv⟩
 ·have hil:i<W.length:=by omega
  rw[qJj hil]at hy;obtain⟨v',k1,k2⟩:=R.row i y hy;exact⟨v',by rw[qJj (by rw[R.len];exact hil)];exact k1,k2⟩
theorem rO.frz{h:aI}{lo hi pb:Nat}{cs:List (List AV)}{W:List (List Hd)}(R:rO h lo hi cs W){dt:Bool}(g:Pav.get h pb=some (.cells 1 cs true dt))(hd:dt=true->∀w∈W,w=[])(n:Nat)(k:Nat)(hk:k=W.length):bD h (n+4) (.sl pb 1 0 k k true)=some (.ro 1 (W.map λw=>[.ro 8 ((w.map bY).map eHd) true]) true):=by
 subst hk;have h1:cs.take W.length=cs:=qxz (by rw[R.len];exact qxx _);have h2:aZ (aZ (bD h (n+3))) cs=some (W.map λw=>[.ro 8 ((w.map bY).map eHd) true]):=by
  refine J9 _ _ (by simp[R.len]) (λi c y hc hy=>?_);have hil:i<W.length:=by have:=(qzj.1 hc).1;rw[<- R.len];exact this
  obtain⟨v,k1,k2⟩:=R.row i W[i] (qqj hil);rw[hc]at k1;rw[qkq k1];rw[qQq,qqj hil]at hy;rw[<- qkq hy];simp only[aZ,k2.frz n,ob,om]
 have h3:((W.map λw=>[AV.ro 8 ((w.map bY).map eHd) true]).all λe=>e.all isC)=true:=by rw[qkz];intro e he;obtain⟨x,_,rfl⟩:=qkx.1 he;rfl
 rw[ji,g];cases dt with
 |false=>simp only[Pw.pK,qjz,h1,h2,ob,h3];simp[og]
 |true=>
  have h4:cs=W.map λw=>[.ro 8 ((w.map bY).map eHd) true]:=by
   refine List.ext_getElem (by simp[R.len]) (λi q1 q2=>?_);have hil:i<W.length:=by simpa using q2
   obtain⟨v,k1,k2⟩:=R.row i W[i] (qqj hil);rw[qqj q1]at k1;have hw:=hd rfl _ (qxq hil);rcases k2 with⟨_,rfl⟩|⟨q,_⟩
   ·rw[qkq k1];simp[hw]
   ·exact absurd hw q
  simp only[Pw.pK,qjz,h1];rw[h4];simp[og]
structure MV(C:aJ):Prop extends MQ C where
 aj9:GwC C 5033 UU
 aj8:GwC C 5032 Yt
structure StO(h:aI)(lo hi:Nat)(Rv:AV)(pb:Nat)(ra:List Hd)(W:List (List Hd)):Prop where
 rows:yZ h lo hi Rv ra
 pool:∃cs dt,Pav.get h pb=some (.cells 1 cs true dt)/\rO h lo hi cs W/\(dt=true->∀w∈W,w=[])
 bd:pb<hi
theorem StO.frz{h:aI}{lo hi:Nat}{Rv:AV}{pb:Nat}{ra:List Hd}{W:List (List Hd)}(R:StO h lo hi Rv pb ra W)(n:Nat)(k:Nat)(hk:k=W.length):bD h (n+5) (.agg [Rv,.sl pb 1 0 k k true])=some (aSt (ra.map bY) true ((W.map λw=>(w.map bY,true))) true):=by obtain⟨cs,dt,h1,h2,h3⟩:=R.pool;rw[fO];simp only[aZ,R.rows.frz (n+1),h2.frz h1 h3 n k hk,ob,om,ED];simp[aSt,ePl]
theorem adJ(H:MV C)(ps:List Pl)(pe:Bool)(hl:ps.length<=1000)(hp:∀p∈ps,p.1.length<=1000000/\∀x∈p.1,cnt x.n≠0)(bs ob rs pb L0:Nat)(Rv:AV)(ra:List Hd)(d1:ob≠pb)(d2:rs≠pb)(d3:ob≠rs)(l1:ob<L0)(l2:rs<L0)(l3:pb<L0)(hRv:AV.cell Rv=true):∀m i,m+i=ps.length->∀(cs:List (List AV)) (dt:Bool) (h:aI) (next:Nat),L0<=next ->
 Pav.get h ob=some (.cells 2 [[Rv,.sl pb 1 0 ps.length ps.length true]] true false)->Pav.get h rs=some (.cells 2 [[.ro 8 [] true,.ro 1 [] true]] true true)->Pav.get h pb=some (.cells 1 (cs++List.replicate m [.ro 8 [] true]) true dt) ->
 yZ h L0 next Rv ra->rO h L0 next cs ((ps.map (·.1)).take i)->(dt=true->∀w∈(ps.map (·.1)).take i,w=[]) ->
 ∃h' next',StO h' L0 next' Rv pb ra (ps.map (·.1))/\next<=next' /\
 CK C bs (gX [.cell 2 2 true]) [.sq AZ,.bk 0 ⟨true,[3,2],[(9999,65537)]⟩,.sq wL] pY
  ⟨[(17,.int .i64 i),(16,.int .i64 ps.length),(15,.ro 1 (ps.map ePl) pe),(3,.ptr ob 0 0),(2,.ptr rs 0 0)],h,next⟩=some (.agg [Rv,.sl pb 1 0 ps.length ps.length true],h',next'):=by
 intro m;induction m with
 |zero=>
  intro i hi cs dt h next ln g1 g2 g3 O R hd
  have c1:¬i<ps.length:=by omega
  have e1:(ps.map (·.1)).take i=ps.map (·.1):=qxz qqx;rw[e1]at R hd;simp only[qtj,qKz]at g3;refine⟨put h rs (.cells 2 [[Rv,.sl pb 1 0 ps.length ps.length true]] true false),next+3,⟨O.mono (qxx _) qqq (λb k1 k2=>aj qqq),⟨cs,dt,by rw[aj qqq];exact g3,R.mono (qxx _) qqq (λb k1 k2=>aj qqq),hd⟩,by omega⟩,by omega,?_⟩;rw[au pY.eq_1];rcases O with⟨_,rfl⟩|⟨_,rb,cs2,rfl,_⟩
  ·simp(disch:=omega) [au wL.eq_1,c1,g1,g2,ak,aj]
  ·simp(disch:=omega) [au wL.eq_1,c1,g1,g2,ak,aj]
 |succ m ih=>
  intro i hi cs dt h next ln g1 g2 g3 O R hd
  have c1:i<ps.length:=by omega
  have hpi:=hp _ (qxq c1);obtain⟨v,q1,n1,r1,r2,r3⟩:=aeO H.toMQ ps[i].1 ps[i].2 hpi.1 hpi.2 (next+13);have hcl:cs.length=i:=by rw[R.len];simp;omega
  have hci:(cs++[AV.ro 8 [] true]::List.replicate m [.ro 8 [] true])[i]?=some [.ro 8 [] true]:=by rw[qax qqq];simp[hcl]
  have htk:(ps.map (·.1)).take (i+1)=(ps.map (·.1)).take i++[ps[i].1]:=by rw[qZj (by simpa using c1)];simp
  have key:∀dt',(dt'=true->dt=true/\ps[i].1=[])->∃h' next',StO h' L0 next' Rv pb ra (ps.map (·.1))/\next<=next' /\
   CK C bs (gX [.cell 2 2 true]) [.sq AZ,.bk 0 ⟨true,[3,2],[(9999,65537)]⟩,.sq wL] pY
    ⟨[(17,.int .i64 (i+1:Nat)),(16,.int .i64 ps.length),(15,.ro 1 (ps.map ePl) pe),(3,.ptr ob 0 0),(2,.ptr rs 0 0)],put (over (next+6+7) q1 h) pb (.cells 1 ((cs++[[v]])++List.replicate m [.ro 8 [] true]) true dt'),n1+2⟩=some (.agg [Rv,.sl pb 1 0 ps.length ps.length true],h',next'):=by
   intro dt' hd';obtain⟨h',n',z1,z2,z3⟩:=ih (i+1) qqq (cs++[[v]]) dt' (put (over (next+6+7) q1 h) pb (.cells 1 ((cs++[[v]])++List.replicate m [.ro 8 [] true]) true dt')) (n1+2) qqq
    (by simp(disch:=omega)only[aj,dM];exact g1) (by simp(disch:=omega)only[aj,dM];exact g2) (ak ..)
    (O.mono (qxx _) qqq (λb k1 k2=>by simp(disch:=omega)only[aj,dM]))
    (by
     rw[htk];refine(R.mono (qxx _) qqq (λb k1 k2=>by simp(disch:=omega)only[aj,dM])).snoc _ _ ?_;have r4:=r3;rcases r3 with q|⟨q,rb,cs2,e1,e2,e3,e4,e5⟩
     ·exact .inl q
     ·refine .inr ⟨q,rb,cs2,e1,by omega,by omega,?_,⟨e5.len,λj x hx=>?_⟩⟩
      ·rw[aj qqq];exact oO e2 e4
      ·obtain⟨b,f1,f2,f3,f4⟩:=e5.row j x hx;exact⟨b,f1,by omega,f3,by rw[aj qqq];exact oO qqq f4⟩)
    (λq=>by
     rw[htk];intro w hw;rcases qWj.1 hw with hw | hw
     ·exact hd (hd' q).1 w hw
     ·rw[qhx]at hw;subst hw;exact(hd' q).2)
   exact⟨h',n',z1,by omega,z3⟩
  rcases r3 with⟨q,rfl⟩|⟨q,rb,cs2,rfl,_⟩
  ·obtain⟨h',n',z1,z2,z3⟩:=key dt (λw=>⟨w,q⟩);refine⟨h',n',z1,z2,?_⟩;rw[<- z3,au pY.eq_1];simp(disch:=omega) [c1,r1,g1,g2,g3,ak,aj,aK,H.kk,dM,leF,ltF,gtF,hci,qej]
  ·obtain⟨h',n',z1,z2,z3⟩:=key false (λw=>by cases w);refine⟨h',n',z1,z2,?_⟩;rw[<- z3,au pY.eq_1];simp(disch:=omega) [c1,r1,g1,g2,g3,ak,aj,aK,H.kk,dM,leF,ltF,gtF,hci,qej]
theorem amO(H:MV C)(ra:List Hd)(ea:Bool)(ps:List Pl)(pe:Bool)(hr:ra.length<=1000000)(hrc:∀x∈ra,cnt x.n≠0)(hl:ps.length<=1000)(hp:∀p∈ps,p.1.length<=1000000/\∀x∈p.1,cnt x.n≠0)(nx:Nat) :
 ∃Rv pb h1 n1,RnW C 5033 [aSt ra ea ps pe] [] nx=some (.agg [Rv,.sl pb 1 0 ps.length ps.length true],h1,n1)/\nx<=n1/\nx<=pb/\StO h1 nx n1 Rv pb ra (ps.map (·.1)):=by
 obtain⟨L,hL⟩:∃L,L=RnW C 5033 [aSt ra ea ps pe] [] nx:=⟨_,rfl⟩;rw[<- hL];obtain⟨Rv,q1,n1,r1,r2,r3⟩:=aeO H.toMQ ra ea hr hrc (nx+12);have h4:ps.length*25<=35184372088832:=by omega
 have hRc:AV.cell Rv=true:=by rcases r3 with⟨_,rfl⟩|⟨_,_,_,rfl,_⟩<;>rfl
 obtain⟨HH,hHH⟩:∃HH,HH=put (put (over (nx+2+10) q1 [(nx,.cells 2 [[.ro 8 (ra.map eHd) ea,.ro 1 (ps.map ePl) pe]] true true),(nx+1,.cells 2 [[.ro 8 [] true,.ro 1 [] true]] true true)]) (nx+8) (.cells 1 (List.replicate ps.length [.ro 8 [] true]) true true)) (nx+10) (.cells 2 [[Rv,.sl (nx+8) 1 0 ps.length ps.length true]] true false):=⟨_,rfl⟩;have hO:yZ HH (nx+12) (n1+4) Rv ra:=by
  rcases r3 with q|⟨q,rb,cs2,e1,e2,e3,e4,e5⟩
  ·exact .inl q
  ·refine .inr ⟨q,rb,cs2,e1,by omega,by omega,?_,⟨e5.len,λj x hx=>?_⟩⟩
   ·rw[hHH,aj qqq,aj qqq];exact oO qqq e4
   ·obtain⟨b,f1,f2,f3,f4⟩:=e5.row j x hx;exact⟨b,f1,by omega,f3,by rw[hHH,aj qqq,aj qqq];exact oO qqq f4⟩
 obtain⟨h',n',z1,z2,z3⟩:=adJ H ps pe hl hp nx (nx+10) (nx+1) (nx+8) (nx+12) Rv ra qqq qqq qqq qqq qqq qqq hRc ps.length 0 qqz [] true HH (n1+4) qqq (by rw[hHH,ak]) (by rw[hHH];simp(disch:=omega) [aj,dM,ltF,gtF]) (by rw[hHH];simp(disch:=omega) [aj,ak]) hO ⟨rfl,λj w hw=>by simp at hw⟩ (λ_ w hw=>by simp at hw);refine⟨Rv,nx+8,h',n',?_,by omega,by omega,⟨z1.rows.mono qqq (qxx _) (λ_ _ _=>rfl),?_,z1.bd⟩⟩
 ·rw[<- z3,hHH,hL];rw[jL (args:=[aSt ra ea ps pe]) H.aj9 rfl];rcases r3 with⟨_,rfl⟩|⟨_,_,_,rfl,_⟩
  ·simp(disch:=omega) [UU,r1,h4,H.kk,dM,leF,ltF,gtF,ak,aj,bH]
  ·simp(disch:=omega) [UU,r1,h4,H.kk,dM,leF,ltF,gtF,ak,aj,bH]
 ·obtain⟨cs,dt,k1,k2,k3⟩:=z1.pool;exact⟨cs,dt,k1,k2.mono qqq (qxx _) (λ_ _ _=>rfl),k3⟩
theorem VU(H:MV C)(l:List En)(e:Bool)(A:List Nat)(f:Bool)(hA:A.length<=1000)(hAl:∀a∈A,a<l.length)(hll:l.length<=100000)(hri:∀(i:Nat) (h:i+1<A.length),A[i]<A[i+1])(bs b4 b5 b6 b8 b9:Nat)(hh:aI)(g6:Pav.get hh b6=some (.cells 1 [[.ro 6 (l.map eEn) e]] true true)):∀m i,m+i=A.length->∀next,∃next',next<=next' /\
 CK C bs (gX [.cell 8 2 true,.cell 9 4 true,.tmp 10]) [.sq KU,.bk 0 ⟨true,[9,8,6,5,4,3],[(9999,65537)]⟩,.sq Cm] wJ
  ⟨[(36,.int .i64 i),(35,.int .i64 A.length),(34,.ro 1 (A.map eAt) f),(9,.ptr b9 0 0),(8,.ptr b8 0 0),(6,.ptr b6 0 0),(5,.ptr b5 0 0),(4,.ptr b4 0 0),(3,.ro 1 (A.map eAt) f)],hh,next⟩ =
 CK C bs (gX [.cell 8 2 true,.cell 9 4 true,.tmp 10]) [] Cm
  ⟨[(9,.ptr b9 0 0),(8,.ptr b8 0 0),(6,.ptr b6 0 0),(5,.ptr b5 0 0),(4,.ptr b4 0 0),(3,.ro 1 (A.map eAt) f)],hh,next'⟩:=by
 intro m;induction m with
 |zero=>
  intro i hi next
  have h3:¬i<A.length:=by omega
  refine⟨next+1,by omega,?_⟩;rw[au wJ.eq_1];simp(disch:=omega) [h3]
 |succ m ih=>
  intro i hi next
  have h1:i<A.length:=by omega
  have h2:=hAl _ (qxq h1);have h4:¬(l.length:Int)<=A[i]:=by omega
  have h5:¬l.length<=A[i]:=by omega
  obtain⟨n',k1,k2⟩:=ih (i+1) qqq (next+30);refine⟨n',by omega,?_⟩;rw[<- k2];rw[au wJ.eq_1];cases i with
  |zero=>simp(disch:=omega) [h1,h2,h4,h5,aK,g6]
  |succ j=>
   have h6:=hri j h1;have h7:j<A.length:=by omega
   have h8:¬(A[j+1]:Int)<=A[j]:=by omega
   have h9:¬A[j+1]<=A[j]:=by omega
   have h10:IntKind.i64.wrap (j:Int)=j:=aK qqq qqq;have h11:(0:Int)<j+1:=by omega
   simp(disch:=omega) [h1,h2,h4,h5,h7,h8,h9,h10,h11,aK,g6];try (intro q;omega)
theorem yZ.over{h1:aI}{lo hi B:Nat}{v:AV}{l:List Hd}(R:yZ h1 lo hi v l)(hB:B<=lo)(h:aI):yZ (Pw.over B h1 h) lo hi v l:=by
 rcases R with q|⟨q,rb,cs2,e1,e2,e3,e4,e5⟩
 ·exact .inl q
 ·refine .inr ⟨q,rb,cs2,e1,by omega,by omega,oO qqq e4,⟨e5.len,λj x hx=>?_⟩⟩;obtain⟨b,f1,f2,f3,f4⟩:=e5.row j x hx;exact⟨b,f1,by omega,f3,oO qqq f4⟩
theorem StO.over{h1:aI}{lo hi B:Nat}{Rv:AV}{pb:Nat}{ra:List Hd}{W:List (List Hd)}(R:StO h1 lo hi Rv pb ra W)(hB:B<=lo)(hpb:B<=pb)(h:aI):StO (Pw.over B h1 h) lo hi Rv pb ra W:=by obtain⟨cs,dt,k1,k2,k3⟩:=R.pool;refine⟨R.rows.over hB h,⟨cs,dt,oO hpb k1,⟨k2.len,λj w hw=>?_⟩,k3⟩,R.bd⟩;obtain⟨v,m1,m2⟩:=k2.row j w hw;exact⟨v,m1,m2.over hB h⟩
theorem StO.mono{h h':aI}{lo lo' hi hi':Nat}{Rv:AV}{pb:Nat}{ra:List Hd}{W:List (List Hd)}(R:StO h lo hi Rv pb ra W)(hl:lo'<=lo)(hh:hi<=hi')(hpb:lo'<=pb)(hg:∀b,lo'<=b->b<hi->Pav.get h' b=Pav.get h b):StO h' lo' hi' Rv pb ra W:=by obtain⟨cs,dt,k1,k2,k3⟩:=R.pool;exact⟨R.rows.mono hl hh (λb p q=>hg b qqq q),⟨cs,dt,by rw[hg pb hpb R.bd];exact k1,k2.mono hl hh (λb p q=>hg b qqq q),k3⟩,by have:=R.bd;omega⟩
theorem afX(vw ov ls:Int)(ks:List Kd)(ke:Bool)(cap ar fl:Int)(ra:List Hd)(ea:Bool)(ps:List Pl)(pe:Bool)(l:List En)(e:Bool)(H:MV C)(tp:En->Nd)(A:List Nat)(f:Bool)
 (hchk:FnW C 278 [.agg (cCf vw ov ls ks ke cap ar fl),aSt ra ea ps pe]=some (.int .i64 0)) (hlc:FnW C 223 [aR ks ke cap,aL l e]=some (.int .i64 0)) (hri:∀(i:Nat) (h:i+1<A.length),A[i]<A[i+1])
 (hA:A.length<=1000) (hAl:∀a∈A,a<l.length) (hAn:A.Nodup) (hn:(bQ l).Nodup) (hll:l.length<=100000) (hra:ra.length<=1000) (hrn:(ra.map Hd.k).Nodup) (hpk:ps.length=ks.length) (hkl:ks.length<=1000) (hk0:0<ks.length) (hps:∀p∈ps,p.1.length<=100000)
 (hpp:∀(j:Nat) (w:List Hd),(ps.map (·.1))[j]?=some w->(w.length:Int)<=vk ks j)
 (hty:∀x∈l,∃t:Nat,x.i.t=t/\t<ks.length) (htyr:∀x∈ra,∃t:Nat,x.t=t/\t<ks.length) (htr:∀(a:Nat) (h:a<l.length) (q:Bool),FnW C 238 [aR ks ke cap,aL [l[a]] q,.int .i64 0]=some (.tup [.agg (tp l[a]).c,.int .i64 0]))
 (hrc:(cmF tp ks ra (ps.map (·.1)) l A).1.length<=1000000/\∀x∈(cmF tp ks ra (ps.map (·.1)) l A).1,cnt x.n≠0) (hpc:∀w∈(cmF tp ks ra (ps.map (·.1)) l A).2.1,w.length<=1000000/\∀x∈w,cnt x.n≠0) (hplen:(cmF tp ks ra (ps.map (·.1)) l A).2.1.length<=1000)
 (hlv:¬live ((cmF tp ks ra (ps.map (·.1)) l A).1::(cmF tp ks ra (ps.map (·.1)) l A).2.1) > ar) (nx:Nat) :
 ∃Rv pb h1 n1,RnW C 5032 [.agg (cCf vw ov ls ks ke cap ar fl),aSt ra ea ps pe,aL l e,.ro 1 (A.map eAt) f] [] nx=some (.tup [
  .agg [Rv,.sl pb 1 0 (cmF tp ks ra (ps.map (·.1)) l A).2.1.length (cmF tp ks ra (ps.map (·.1)) l A).2.1.length true],aCn (cmF tp ks ra (ps.map (·.1)) l A).2.2.1 (cmF tp ks ra (ps.map (·.1)) l A).2.2.2.1 (cmF tp ks ra (ps.map (·.1)) l A).2.2.2.2 (live ((cmF tp ks ra (ps.map (·.1)) l A).1::(cmF tp ks ra (ps.map (·.1)) l A).2.1)),.int .i64 0],h1,n1) /\
  nx<=n1/\nx<=pb/\StO h1 nx n1 Rv pb (cmF tp ks ra (ps.map (·.1)) l A).1 (cmF tp ks ra (ps.map (·.1)) l A).2.1:=by
 obtain⟨ps1,ea1,pe1,u1,u2⟩:=FP H.tosF tp vw ov ls ks ke cap ar fl ra ea ps pe l e A f hA hAl hAn hn hll hra hrn hpk hkl hk0 hps hpp hty htyr htr;have hrules:=sN H.toqV vw ov ls ks ke cap ar fl;generalize cmF tp ks ra (ps.map (·.1)) l A=V at *;have hV:V.2.1.length=ps1.length:=by rw[<- u1];simp
 obtain⟨L,hL⟩:∃L,L=RnW C 5032 [.agg (cCf vw ov ls ks ke cap ar fl),aSt ra ea ps pe,aL l e,.ro 1 (A.map eAt) f] [] nx:=⟨_,rfl⟩;rw[<- hL];rw[jL (args:=[.agg (cCf vw ov ls ks ke cap ar fl),aSt ra ea ps pe,aL l e,.ro 1 (A.map eAt) f]) H.aj8 rfl]at hL;generalize live (V.1::V.2.1)=lv at *;simp(disch:=omega) [Yt,hchk,hrules,hlc,H.kk,leF,ltF,gtF]at hL;obtain⟨n',k1,k2⟩:=VU H l e A f hA hAl hll hri nx nx (nx+1) (nx+2) (nx+3) (nx+4)
  [(nx,.cells 7 [cCf vw ov ls ks ke cap ar fl] true true),(nx+1,.cells 2 [[.ro 8 (ra.map eHd) ea,.ro 1 (ps.map ePl) pe]] true true),(nx+2,.cells 1 [[.ro 6 (l.map eEn) e]] true true),(nx+3,.cells 2 [[.ro 8 [] true,.ro 1 [] true]] true true),(nx+4,.cells 4 [[.int .i64 0,.int .i64 0,.int .i64 0,.int .i64 0]] true true)]
  (by simp(disch:=omega) [ltF,gtF]) A.length 0 qqz (nx+22)
 have hL2:=hL.trans k2;clear hL k2;obtain⟨Rv,pb,h1,n1,r1,r2,r3,r4⟩:=amO H V.1 ea1 ps1 pe1 hrc.1 hrc.2 qqq (λp hp=>hpc p.1 (by rw[<- u1];exact qkx.2 ⟨p,hp,rfl⟩)) (n'+17+6);rw[u1]at r4;rw[au Cm.eq_1]at hL2;have hRc:AV.cell Rv=true:=by rcases r4.rows with⟨_,rfl⟩|⟨_,_,_,rfl,_⟩<;>rfl
 refine⟨Rv,pb,put (put (over (n'+17+6) h1
  [(nx,.cells 7 [cCf vw ov ls ks ke cap ar fl] true true),(nx+1,.cells 2 [[.ro 8 (ra.map eHd) ea,.ro 1 (ps.map ePl) pe]] true true),(nx+2,.cells 1 [[.ro 6 (l.map eEn) e]] true true),(nx+3,.cells 2 [[.ro 8 [] true,.ro 1 [] true]] true true),(nx+4,.cells 4 [[.int .i64 0,.int .i64 0,.int .i64 0,.int .i64 0]] true true),
   (n'+8,.cells 2 [[.ro 8 (V.1.map eHd) ea1,.ro 1 (ps1.map ePl) pe1]] true true),(n'+9,.cells 4 [[.int .i64 V.2.2.1,.int .i64 V.2.2.2.1,.int .i64 V.2.2.2.2,.int .i64 lv]] true true)])
  (nx+3) (.cells 2 [[Rv,.sl pb 1 0 ps1.length ps1.length true]] true false)) (nx+4) (.cells 4 [[.int .i64 V.2.2.1,.int .i64 V.2.2.2.1,.int .i64 V.2.2.2.2,.int .i64 lv]] true true),n1,?_,by omega,by omega,?_⟩
 ·rw[hL2,hV];rcases r4.rows with⟨_,rfl⟩|⟨_,_,_,rfl,_⟩
  ·simp(disch:=omega) [u2,hlv,r1,H.kk,leF,ltF,gtF,dM,ak,aj]
  ·simp(disch:=omega) [u2,hlv,r1,H.kk,leF,ltF,gtF,dM,ak,aj]
 ·generalize [(nx,dD.cells 7 [cCf vw ov ls ks ke cap ar fl] true true),(nx+1,.cells 2 [[.ro 8 (ra.map eHd) ea,.ro 1 (ps.map ePl) pe]] true true),(nx+2,.cells 1 [[.ro 6 (l.map eEn) e]] true true),(nx+3,.cells 2 [[.ro 8 [] true,.ro 1 [] true]] true true),(nx+4,.cells 4 [[.int .i64 0,.int .i64 0,.int .i64 0,.int .i64 0]] true true),
   (n'+8,.cells 2 [[.ro 8 (V.1.map eHd) ea1,.ro 1 (ps1.map ePl) pe1]] true true),(n'+9,.cells 4 [[.int .i64 V.2.2.1,.int .i64 V.2.2.2.1,.int .i64 V.2.2.2.2,.int .i64 lv]] true true)]=X
  have s1:=r4.over (qxx _) r3 X;have s2:=s1.mono (h':=put (put (over (n'+17+6) h1 X) (nx+3) (.cells 2 [[Rv,.sl pb 1 0 ps1.length ps1.length true]] true false)) (nx+4) (.cells 4 [[.int .i64 V.2.2.1,.int .i64 V.2.2.2.1,.int .i64 V.2.2.2.2,.int .i64 lv]] true true)) (qxx _) (qxx _) r3 (λb p q=>by rw[aj qqq,aj qqq]);exact s2.mono qqq (qxx _) qqq (λ_ _ _=>rfl)
end Go.D
end
section
namespace Go.D
open Go Go.Pav Go.Pw P
set_option maxHeartbeats 2000000
attribute [-simp] List.getElem_cons_drop
def Kv(tr:En->Nd)(l:List En)(a:Nat):Option Hd:=l[a]?.map λe=>⟨e.i.k,e.i.t,tr e⟩
theorem o7(tr:En->Nd)(ra:List Hd)(l:List En):∀(A:List Nat) (s:List Hd×List (List Hd)×Int×Int),(cm2 tr ra l A s).1=s.1++A.filterMap (Kv tr l)
 |[],s=>by simp[cm2]
 |a::r,s=>by
  simp only[cm2];cases h:l[a]? with
  |none=>simp only[o7 tr ra l r,List.filterMap_cons,Kv,h,Option.map_none]
  |some e=>
   simp only;split
   ·rw[o7 tr ra l r];simp[Kv,h]
   ·split
    ·rw[o7 tr ra l r];simp[Kv,h]
    ·rw[o7 tr ra l r];simp[Kv,h]
def fQ:List (List Hd)->Nat
 |[]=>0
 |w::r=>w.length+fQ r
theorem JM:∀(W:List (List Hd)) (t:Nat) (h:t<W.length) (w:List Hd),fQ (W.set t w)+W[t].length=fQ W+w.length
 |x::r,0,_,w=>by simp[fQ];omega
 |x::r,t+1,h,w=>by have:=JM r t (by simpa using h) w;simp only[List.set_cons_succ,fQ,q3q];omega
theorem MR(W:List (List Hd))(t:Nat)(h:t<W.length):rowAt W (t:Int)=W[t]:=by simp[rowAt,h]
theorem Jc(ks:List Kd)(l:List En)(A:List Nat):∀(ra:List Hd) (s:List (List Hd)×Int),(∀x∈ra,∃t:Nat,x.t=t/\t<s.1.length) ->
 (fQ (cm1 ks l A ra s).1:Int)+(cm1 ks l A ra s).2+(ra.filter λx=>stF x l A).length=fQ s.1+s.2+ra.length
 |[],s,_=>by simp[cm1]
 |x::r,s,h=>by
  obtain⟨t,ht,htl⟩:=h x qqz;simp only[cm1];by_cases c:stF x l A=true
  ·rw[qzq c];have:=Jc ks l A r s (λy hy=>h y (by simp[hy]));simp only[zxx,c,qyx,qQx]
   push_cast
   omega
  ·rw[qwx c];have c':stF x l A=false:=by simpa using c
   simp only[zxx,c',qxj,qWq,qQx];by_cases c2:((rowAt s.1 x.t).length:Int)=vk ks x.t
   ·rw[qzq c2];have:=Jc ks l A r (s.1,s.2+1) (λy hy=>h y (by simp[hy]));simp only at this
    push_cast
    omega
   ·rw[qwx c2];have h1:=JM s.1 t htl (s.1[t]++[x]);have e1:x.t.toNat=t:=by omega
    have e2:rowAt s.1 x.t=s.1[t]:=by rw[ht];exact MR _ _ htl
    rw[e1,e2];have:=Jc ks l A r (s.1.set t (s.1[t]++[x]),s.2) (λy hy=>by simpa using h y (by simp[hy]));simp only at this;simp only[qdx,List.length_singleton]at h1
    push_cast
    omega
def Ut(ra:List Hd)(l:List En)(A:List Nat):Nat:=(A.filter λa=>match l[a]? with | some e=>nI ra e | none=>false).length
theorem G9(tr:En->Nd)(ra:List Hd)(l:List En):∀(A:List Nat) (s:List Hd×List (List Hd)×Int×Int),(∀a∈A,∃h:a<l.length,∃t:Nat,l[a].i.t=t/\t<s.2.1.length) ->
 (fQ (cm2 tr ra l A s).2.1:Int)+(cm2 tr ra l A s).2.2.1=fQ s.2.1+s.2.2.1 /\
 (cm2 tr ra l A s).2.2.2+(cm2 tr ra l A s).2.2.1+Ut ra l A=s.2.2.2+s.2.2.1+A.length
 |[],s,_=>by simp[cm2,Ut]
 |a::r,s,h=>by
  obtain⟨ha,t,ht,htl⟩:=h a qqz;have hr:=λb hb=>h b (qyj a hb);have hc:Ut ra l (a::r)=(if nI ra l[a]=true then 1 else 0)+Ut ra l r:=by
   unfold Ut;rw[zxx];simp only[qqj ha];split
   ·simp;omega
   ·simp
  simp only[cm2,qqj ha];rw[hc];by_cases c:nI ra l[a]=true
  ·rw[qzq c,qzq c];have:=G9 tr ra l r (s.1++[⟨l[a].i.k,l[a].i.t,tr l[a]⟩],s.2) hr;simp only[qQx]at this |-
   push_cast
   omega
  ·rw[qwx c,qwx c];have e2:rowAt s.2.1 l[a].i.t=s.2.1[t]:=by rw[ht];exact MR _ _ htl
   by_cases c2:(rowAt s.2.1 l[a].i.t).length=0
   ·rw[qzq c2];have:=G9 tr ra l r (s.1++[⟨l[a].i.k,l[a].i.t,tr l[a]⟩],s.2.1,s.2.2.1,s.2.2.2+1) hr;simp only[qQx]at this |-
    push_cast
    omega
   ·rw[qwx c2];have e1:l[a].i.t.toNat=t:=by omega
    have h1:=JM s.2.1 t htl (s.2.1[t].take (s.2.1[t].length-1));rw[e2]at c2 |-;rw[e1];have:=G9 tr ra l r (s.1++[⟨l[a].i.k,l[a].i.t,tr l[a]⟩],s.2.1.set t (s.2.1[t].take (s.2.1[t].length-1)),s.2.2.1+1,s.2.2.2) (λb hb=>by simpa using hr b hb);simp only[qQx,qbx]at this h1 |-
    push_cast
    omega
theorem afe{ra:List Hd}(hr:(ra.map Hd.k).Nodup){l:List En}(hn:(bQ l).Nodup){A:List Nat}(hA:∀a∈A,a<l.length)(hAn:A.Nodup):Ut ra l A=(ra.filter λx=>stF x l A).length:=by
 have h1:(stay ra l A).length=(ra.filter λx=>stF x l A).length:=by simp[stay]
 rw[<- h1];have h2:Ut ra l A=((A.filter λa=>match l[a]? with | some e=>nI ra e | none=>false).map λa=>(bQ l)[a]?.getD 0).length:=by simp[Ut]
 rw[h2];refine List.Perm.length_eq ((List.perm_ext_iff_of_nodup ?_ ?_).2 ?_)
 ·exact Df hn _ (hAn.filter _) (λa ha=>by have:=hA a (qaz.1 ha).1;simpa [bQ]using this)
 ·unfold stay;exact List.Nodup.sublist ((List.filter_sublist).map _) hr
 ·intro k;rw[qkx];constructor
  ·rintro⟨a,ha,rfl⟩;obtain⟨q1,q2⟩:=qaz.1 ha;have hal:=hA a q1;rw[qqj hal]at q2;replace q2:nI ra l[a]=true:=q2;have hk:(bQ l)[a]?.getD 0=l[a].i.k:=by simp[bQ,hal]
   rw[hk];rw[<- BF hr hn hA q1 hal]at q2;exact qVq.1 q2
  ·intro hk;obtain⟨x,hx,hxk⟩:=qkx.1 hk;obtain⟨hx1,hx2⟩:=qaz.1 hx;unfold stF at hx2;obtain⟨a,ha,hae⟩:=qaq.1 hx2;have hal:=hA a ha;rw[qqj hal]at hae;simp only[qwz,qkj]at hae;have hka:l[a].i.k=k:=hae.1.trans hxk;refine⟨a,qaz.2 ⟨ha,?_⟩,by simp[bQ,hal,hka]⟩;rw[qqj hal];show nI ra l[a]=true;rw[<- BF hr hn hA ha hal,hka];exact qVq.2 hk
theorem agb(tr:En->Nd)(ks:List Kd){ra:List Hd}(hr:(ra.map Hd.k).Nodup)(W:List (List Hd)){l:List En}(hn:(bQ l).Nodup){A:List Nat}(hA:∀a∈A,a<l.length)(hAn:A.Nodup)
 (ht1:∀x∈ra,∃t:Nat,x.t=t/\t<W.length) (ht2:∀x∈l,∃t:Nat,x.i.t=t/\t<W.length) :
 (ra.length:Int)+fQ W+(cmF tr ks ra W l A).2.2.2.1=(cmF tr ks ra W l A).1.length+fQ (cmF tr ks ra W l A).2.1+(cmF tr ks ra W l A).2.2.2.2:=by
 have h1:=Jc ks l A ra (W,0) ht1;have hwl:=P7 ks l A ra (W,0);obtain⟨h2,h3⟩:=G9 tr ra l A ([],(cm1 ks l A ra (W,0)).1,0,0) (λa ha=>⟨hA a ha,by simp only at hwl |-;rw[hwl];exact ht2 _ (qxq _)⟩);have h4:=sV tr ra l A ([],(cm1 ks l A ra (W,0)).1,0,0) hA;have h5:=congrArg List.length h4;simp only[qQj,qdx,qJx,qXj]at h5;have h6:=afe hr hn hA hAn;unfold cmF;simp only at h1 h2 h3 |-;rw[h5];omega
theorem ai2{tr:En->Nd}{l:List En}{A:List Nat}{x:Hd}{y:Hd}(hy:y∈A.filterMap (Kv tr l))(hk:x.k=y.k)(ht:x.t=y.t):stF x l A=true:=by
 obtain⟨a,ha,hae⟩:=q9q.1 hy;unfold Kv at hae;cases h:l[a]? with
 |none=>rw[h]at hae;cases hae
 |some e=>rw[h]at hae;cases hae;unfold stF;refine qaq.2 ⟨a,ha,?_⟩;rw[h];simp[hk,ht]
theorem AA(ks:List Kd)(l:List En)(A:List Nat):∀(ra:List Hd) (s:List (List Hd)×Int),(∀x∈ra,stF x l A=true)->cm1 ks l A ra s=s
 |[],s,_=>rfl
 |x::r,s,h=>by simp only[cm1,h x qqz,qyx];exact AA ks l A r s (λy hy=>h y (by simp[hy]))
theorem vW(tr:En->Nd)(ra:List Hd)(l:List En):∀(A:List Nat) (s:List Hd×List (List Hd)×Int×Int),(∀a∈A,∀h:a<l.length,nI ra l[a]=true)->(cm2 tr ra l A s).2=s.2
 |[],s,_=>rfl
 |a::r,s,h=>by
  have hr:=λb hb=>h b (qyj a hb);simp only[cm2];cases q:l[a]? with
  |none=>exact vW tr ra l r s hr
  |some e=>obtain⟨hal,rfl⟩:=qzj.1 q;simp only[h a qqz hal,qyx];exact vW tr ra l r _ hr
theorem aby(tr:En->Nd)(ks:List Kd){ra g:List Hd}{W W2:List (List Hd)}{l:List En}(hn:(bQ l).Nodup){A:List Nat}(hA:∀a∈A,a<l.length)
 (hg:g.map (λx=>(x.k,x.t))=((cmF tr ks ra W l A).1).map λx=>(x.k,x.t)) (hgn:(g.map Hd.k).Nodup):cmF tr ks g W2 l A=((cmF tr ks ra W l A).1,W2,0,0,0):=by
 have e1:(cmF tr ks ra W l A).1=A.filterMap (Kv tr l):=by unfold cmF;simp only[o7,qYz]
 rw[e1]at hg |-;have hst:∀x∈g,stF x l A=true:=by intro x hx;have:(x.k,x.t)∈g.map λx=>(x.k,x.t):=qkx.2 ⟨x,hx,rfl⟩;rw[hg]at this;obtain⟨y,hy,hye⟩:=qkx.1 this;simp only[qjx]at hye;exact ai2 hy hye.1.symm hye.2.symm
 have hwas:∀a∈A,∀h:a<l.length,nI g l[a]=true:=by intro a ha hal;rw[<- BF hgn hn hA ha hal];refine qVq.2 ?_;have hm:(⟨l[a].i.k,l[a].i.t,tr l[a]⟩:Hd)∈A.filterMap (Kv tr l):=q9q.2 ⟨a,ha,by simp[Kv,hal]⟩;have:(l[a].i.k,l[a].i.t)∈(A.filterMap (Kv tr l)).map λx=>(x.k,x.t):=qkx.2 ⟨_,hm,rfl⟩;rw[<- hg]at this;obtain⟨x,hx,hxe⟩:=qkx.1 this;simp only[qjx]at hxe;exact qkx.2 ⟨x,qaz.2 ⟨hx,hst x hx⟩,hxe.1⟩
 unfold cmF;simp only;rw[AA ks l A g (W2,0) hst];have h1:=o7 tr g l A ([],W2,0,0);have h2:=vW tr g l A ([],W2,0,0) hwas;simp only[qYz]at h1;rw[h1,h2]
theorem Tt{M:Nat}:∀(l:List Hd),(∀x∈l,cnt x.n<=M)->jA l<=M*l.length
 |[],_=>by simp[jA]
 |x::r,h=>by have h1:=Tt r (λy hy=>h y (by simp[hy]));have h2:=h x qqz;simp only[jA,qQx,zwz,q2q];omega
theorem TW{M:Nat}:∀(L:List (List Hd)),(∀w∈L,∀x∈w,cnt x.n<=M)->lS L<=M*fQ L
 |[],_=>by simp[lS]
 |w::r,h=>by have h1:=TW r (λy hy=>h y (by simp[hy]));have h2:=Tt w (h w qqz);simp only[lS,fQ,zwz];omega
theorem acs{M:Nat}{L:List (List Hd)}(h:∀w∈L,∀x∈w,cnt x.n<=M):live L<=1+(fQ L:Int)*M:=by
 have:=TW L h;have h2:((M*fQ L:Nat):Int)=(fQ L:Int)*M:=by push_cast;exact Int.mul_comm _ _
 unfold live;split<;>omega
theorem TB:∀ps:List Pl,tmD 0 ps=fQ (ps.map (·.1))
 |[]=>rfl
 |p::r=>by simp only[tmD,qvj,fQ,TB r];omega
theorem U4(f:Hd->Hd):∀W:List (List Hd),fQ (W.map λw=>w.map f)=fQ W
 |[]=>rfl
 |w::r=>by simp only[qvj,fQ,qQj,U4 f r]
end Go.D
end
section
namespace Go.D
open Go Go.Pav Go.Pw P
attribute [-simp] List.getElem_cons_drop
variable {C:aJ}
theorem aoA{ks:List Kd}{cap:Int}{a b:Hd}(h:hz a=hz b)(V:VH ks cap b):VH ks cap a:=by
 have hc:=VG h;simp only[hz,qjx]at h;obtain⟨h1,h2,h3⟩:=h;refine⟨by rw[h1];exact V.k,by rw[h2];exact V.t,by rw[hc];exact V.c,?_⟩;have e:∀n:Nd,n.z.k=n.k/\n.z.t=n.t:=λ⟨k,t,y,a,ae,x,ch,ce⟩=>by rw[Nd.z];exact⟨rfl,rfl⟩
 rw[h2,<- (e a.n).1,<- (e a.n).2,h3,(e b.n).1,(e b.n).2];exact V.n
theorem Vr:∀{L L':List (List Hd)},L.map (λw=>w.map hz)=L'.map (λw=>w.map hz)->okL L=okL L'/\lS L=lS L'
 |[],[],_=>⟨rfl,rfl⟩
 |a::L,b::L',h=>by simp only[qvj,qlz]at h;obtain⟨h1,h2⟩:=Xt h.1;obtain⟨h3,h4⟩:=Vr h.2;exact⟨by rw[pF,pF,h1,h3],by simp only[lS,h2,h4]⟩
 |[],_::_,h=>by simp at h
 |_::_,[],h=>by simp at h
theorem SI{L L':List (List Hd)}(h:L.map (λw=>w.map hz)=L'.map (λw=>w.map hz)):live L=live L':=by obtain⟨h1,h2⟩:=Vr h;unfold live;rw[h1,h2]
abbrev kpW(W:List (List Hd)):List Pl:=W.map λw=>(w.map bY,true)
theorem Zn(W:List (List Hd)):(kpW W).map (·.1)=W.map λw=>w.map bY:=by simp[kpW]
theorem KW(W:List (List Hd)):((kpW W).map λp=>p.1.map hz)=W.map λw=>w.map hz:=by rw[qZz];exact qex λw _=>kW w
structure CmO(C:aJ)(r:Int)(l:List En)(e:Bool)(ra:List Hd)(ea:Bool)(ps:List Pl)(pe:Bool)(A:List Nat)(f:Bool)(V1:List Hd)(W1 W2:List (List Hd))(rb mk d lv:Int)(r1:List Hd)(e1:Bool)(p1:List Pl)(g1:Bool):Prop where
 want:FnW C 285 [.agg (cCf 100 1 1 (ay r) true 12 65536 0),aSt ra ea ps pe,.ro 6 (l.map eEn) e,.ro 1 (A.map eAt) f]=some (.tup [aSt r1 e1 p1 g1,aCn rb mk d lv,.int .i64 0])
 got:∀nx,∃Rv pb h1 n1,RnW C 5032 [.agg (cCf 100 1 1 (ay r) true 12 65536 0),aSt ra ea ps pe,aL l e,.ro 1 (A.map eAt) f] [] nx=some (.tup [.agg [Rv,.sl pb 1 0 3 3 true],aCn rb mk d lv,.int .i64 0],h1,n1)/\nx<=n1/\nx<=pb/\StO h1 nx n1 Rv pb V1 W1
 wl:W1.length=3/\W2.length=3
 s1:FnW C 286 [aSt (V1.map bY) true (kpW W1) true,aSt r1 e1 p1 g1]=some (.int .i64 1)
 ex:FnW C 287 [aSt (V1.map bY) true (kpW W1) true]=some (.int .i64 1)
 ck:FnW C 278 [.agg (cCf 100 1 1 (ay r) true 12 65536 0),aSt (V1.map bY) true (kpW W1) true]=some (.int .i64 0)
 pl:FnW C 288 [aSt ra ea ps pe]=some (.int .i64 (fQ (ps.map (·.1)):Nat))/\FnW C 288 [aSt (V1.map bY) true (kpW W1) true]=some (.int .i64 (fQ W1:Nat))
 lvg:FnW C 289 [aSt (V1.map bY) true (kpW W1) true]=some (.int .i64 lv)
 sum:(ra.length:Int)+(fQ (ps.map (·.1)):Nat)+mk=V1.length+(fQ W1:Nat)+d
 bds:ra.length<=12/\V1.length<=12/\fQ (ps.map (·.1))<=300/\fQ W1<=400/\0<=mk/\0<=d/\0<=lv/\lv<=60000/\mk<=1000/\d<=1000
 mx:lv<=1+((V1.length:Int)+(fQ W1:Nat))*12
 again:∀nx,∃Rv pb h1 n1,RnW C 5032 [.agg (cCf 100 1 1 (ay r) true 12 65536 0),aSt (V1.map bY) true (kpW W1) true,aL l e,.ro 1 (A.map eAt) f] [] nx=some (.tup [.agg [Rv,.sl pb 1 0 3 3 true],aCn 0 0 0 lv,.int .i64 0],h1,n1)/\nx<=n1/\nx<=pb/\StO h1 nx n1 Rv pb V1 W2
 s2:FnW C 286 [aSt (V1.map bY) true (kpW W2) true,aSt (V1.map bY) true (kpW W1) true]=some (.int .i64 1)
 s3:FnW C 286 [aSt ra ea ps pe,aSt ra ea ps pe]=some (.int .i64 1)
 cn:∀x∈V1,cnt x.n≠0
theorem PO(B:Nat):∀W:List (List Hd),(∀w∈W,w.length<=B)->fQ W<=B*W.length
 |[],_=>by simp[fQ]
 |w::r,h=>by have h1:=PO B r (λx hx=>h x (by simp[hx]));have h2:=h w qqz;simp only[fQ,qQx,zwz,q2q];omega
theorem afI(ks:List Kd)(l:List En)(A:List Nat):∀(ra:List Hd) (s:List (List Hd)×Int),s.2<=(cm1 ks l A ra s).2/\(cm1 ks l A ra s).2<=s.2+ra.length
 |[],s=>by simp[cm1]
 |x::r,s=>by
  simp only[cm1,qQx];have:=afI ks l A r (if stF x l A=true then s else if ((rowAt s.1 x.t).length:Int)=vk ks x.t then(s.1,s.2+1)else(s.1.set x.t.toNat (rowAt s.1 x.t++[x]),s.2))
  push_cast
  split at this
  ·split<;>simp_all<;>omega
  ·split at this<;>simp_all<;>omega
theorem Lc(tr:En->Nd)(ra:List Hd)(l:List En):∀(A:List Nat) (s:List Hd×List (List Hd)×Int×Int),s.2.2.2<=(cm2 tr ra l A s).2.2.2/\(cm2 tr ra l A s).2.2.2<=s.2.2.2+A.length
 |[],s=>by simp[cm2]
 |a::r,s=>by
  simp only[cm2,qQx]
  push_cast
  cases l[a]? with
  |none=>have:=Lc tr ra l r s;simp only;omega
  |some e=>
   simp only;split
   ·have:=Lc tr ra l r (s.1++[⟨e.i.k,e.i.t,tr e⟩],s.2);simp only at this |-;omega
   ·split
    ·have:=Lc tr ra l r (s.1++[⟨e.i.k,e.i.t,tr e⟩],s.2.1,s.2.2.1,s.2.2.2+1);simp only at this |-;omega
    ·have:=Lc tr ra l r (s.1++[⟨e.i.k,e.i.t,tr e⟩],s.2.1.set e.i.t.toNat ((rowAt s.2.1 e.i.t).take ((rowAt s.2.1 e.i.t).length-1)),s.2.2.1+1,s.2.2.2);simp only at this |-;omega
theorem ae3{a b:List Hd}(h:a.map hz=b.map hz):a.map Hd.k=b.map Hd.k:=by have h2:=congrArg (λl=>l.map λx:Int×Int×Nd=>x.1) h;simp only[qZz]at h2;exact h2
theorem afv(H:MV C){r:Int}{l:List En}(L:LG r l)(hg:∀x∈l,fM (ay r) x)(hn:(bQ l).Nodup)(e:Bool){ra:List Hd}{ps:List Pl}(S:Gi 96 ra ps)(K:CkS (ay r) 12 ra ps)(ea pe:Bool)(A:List Nat)(f:Bool)(hA:A.length<=12)(hAl:∀a∈A,a<l.length)(hAn:A.Nodup)(hri:∀(i:Nat) (h:i+1<A.length),A[i]<A[i+1]) :
 ∃V1 W1 W2 rb mk d lv r1 e1 p1 g1,CmO C r l e ra ea ps pe A f V1 W1 W2 rb mk d lv r1 e1 p1 g1:=by
 have hk:(ay r).length=3:=rfl;have R:=U8 L hg hn S K A hA hAl hAn;obtain⟨z1,z2,z3,z4,z5,z6⟩:=Nq L R;have hrl:=S.rl;have hpl:=S.pl;have htyl:∀x∈l,∃t:Nat,x.i.t=t/\t<(ay r).length:=λx hx=>⟨x.i.t.toNat,by have:=L.t x hx;omega,by have:=L.t x hx;omega⟩;have htyr:∀x∈ra,∃t:Nat,x.t=t/\t<(ay r).length:=λx hx=>by rw[hk];exact(S.q x hx).2
 obtain⟨ps1,ea1,pe1,h1,h2⟩:=zL H.toYu (trK (ay r)) 100 1 1 (ay r) true 12 65536 0 ra ea ps pe l e A f qqq hAl qqq (by rw[hpl];rfl) qqq qqq (λp hp=>by have:=S.pb p hp;omega) htyl htyr (λa ha=>Fe H.toace L e a ha);have hF:=DZ H.toqV 100 1 1 (ay r) true 12 65536 0 (pq r) (Nb r L.hr) qqq (vG r) qqq;have hC:=o9 100 1 1 (ay r) true 12 65536 0 H.toqV hF qqq (vG r) ra ea ps pe K;have hlc:=yj H.tozk (ay r) true 12 (pq r) l e (by have:=L.hl;omega) L.en;rw[L.ck]at hlc;have hwl:(cmF (trN (ay r)) (ay r) ra (ps.map (·.1)) l A).2.1.length=3:=by rw[z2];exact R.l2
 have hlvb:live ((cmF (trN (ay r)) (ay r) ra (ps.map (·.1)) l A).1::(cmF (trN (ay r)) (ay r) ra (ps.map (·.1)) l A).2.1)<=60000/\0<=live ((cmF (trN (ay r)) (ay r) ra (ps.map (·.1)) l A).1::(cmF (trN (ay r)) (ay r) ra (ps.map (·.1)) l A).2.1):=by rw[z3];have:=R.lv;omega
 have hpp:∀(j:Nat) (w:List Hd),(ps.map (·.1))[j]?=some w->(w.length:Int)<=vk (ay r) j:=λj w hw=>by
  rw[qQq]at hw;cases hq:ps[j]? with
  |none=>rw[hq]at hw;cases hw
  |some p=>rw[hq]at hw;obtain rfl:=qkq hw;exact(K.pv j p hq).1
 have hgot:=λnx=>afX 100 1 1 (ay r) true 12 65536 0 ra ea ps pe l e H (trN (ay r)) A f hC hlc hri qqq hAl hAn hn (by have:=L.hl;omega) qqq K.rn (by rw[hpl];rfl) qqq qqq (λp hp=>by have:=S.pb p hp;omega) hpp htyl htyr (λa ha q=>E5 H.toace L a ha q) ⟨by omega,z5⟩ (λw hw=>by rw[z2]at hw;have:=z6 w hw;exact⟨by omega,this.2⟩) qqq qqq nx;have hsum:=agb (trN (ay r)) (ay r) K.rn (ps.map (·.1)) hn hAl hAn (λx hx=>by rw[qQj,hpl];exact htyr x hx) (λx hx=>by rw[qQj,hpl];exact htyl x hx);have hd0:=afI (ay r) l A ra (ps.map (·.1),0);have hm0:=Lc (trN (ay r)) ra l A ([],(cm1 (ay r) l A ra (ps.map (·.1),0)).1,0,0);have hm1:0<=(cmF (trN (ay r)) (ay r) ra (ps.map (·.1)) l A).2.2.2.1/\(cmF (trN (ay r)) (ay r) ra (ps.map (·.1)) l A).2.2.2.1<=12/\0<=(cmF (trN (ay r)) (ay r) ra (ps.map (·.1)) l A).2.2.2.2/\(cmF (trN (ay r)) (ay r) ra (ps.map (·.1)) l A).2.2.2.2<=12:=by unfold cmF;simp only at hd0 hm0 |-;omega
 rw[qwx (by rw[<- z3];omega)]at h2;rw[<- z3,<- z2]at h2;have z1':=z1;have hv1:∀x∈(cmF (trN (ay r)) (ay r) ra (ps.map (·.1)) l A).1,VH (ay r) 12 x:=λx hx=>by obtain⟨y,hy,e⟩:=Wi z1 x hx;exact aoA e (R.v1 y hy)
 have hnd:((cmF (trN (ay r)) (ay r) ra (ps.map (·.1)) l A).1.map Hd.k).Nodup:=by rw[ae3 z1];exact R.n1
 have hpv:=R.v2;have hb2:=R.b2;rw[<- z2]at hpv hb2 z6 h1;have hag:=λ(g:List Hd) (W2:List (List Hd)) (q1:g.map (λx=>(x.k,x.t))=((cmF (trN (ay r)) (ay r) ra (ps.map (·.1)) l A).1).map λx=>(x.k,x.t)) (q2:(g.map Hd.k).Nodup)=>aby (W2:=W2) (trN (ay r)) (ay r) hn hAl q1 q2;clear z3 R;generalize hU:(cmF (trK (ay r)) (ay r) ra (ps.map (·.1)) l A).1=U at *;generalize cmF (trN (ay r)) (ay r) ra (ps.map (·.1)) l A=V at *;obtain⟨V1,W1,rb,mk,d⟩:=V;simp only at *;have hmaxc:∀w∈V1::W1,∀x∈w,cnt x.n<=12:=by
  intro w hw x hx;rcases qjj.1 hw with rfl | hw
  ·have:=(hv1 x hx).c.2;omega
  ·obtain⟨i,hi,rfl⟩:=qaj.1 hw;have:=((hpv i _ (qqj hi)).2 x hx).1.c.2;omega
 have hmx:=acs hmaxc;obtain⟨lv,hlv⟩:∃lv,live (V1::W1)=lv:=⟨_,rfl⟩;rw[hlv]at hlvb hmx h2 hgot;have hkl:(kpW W1).length=3:=by simpa using hwl
 have K2:CkS (ay r) 12 (V1.map bY) (kpW W1):=by
  refine⟨by simp;omega,λh hh=>?_,?_,hkl,λi p hp=>?_⟩
  ·obtain⟨x,hx,rfl⟩:=qkx.1 hh;exact KE (hv1 x hx)
  ·rw[qZz];exact hnd
  ·rw[qQq]at hp;cases hq:W1[i]? with
   |none=>rw[hq]at hp;cases hp
   |some w=>rw[hq]at hp;obtain rfl:=qkq hp;obtain⟨q1,q2⟩:=hpv i w hq;refine⟨by simpa using q1,λh hh=>?_⟩;obtain⟨x,hx,rfl⟩:=qkx.1 hh;exact⟨KE (q2 x hx).1,(q2 x hx).2⟩
 have hpb:∀p∈kpW W1,p.1.length<=108:=λp hp=>by obtain⟨w,hw,rfl⟩:=qkx.1 hp;simpa using hb2 w hw
 obtain⟨i1,i2,i3,i4⟩:=rY K2 (λp hp=>by have:=hpb p hp;omega);obtain⟨j1,j2,j3,j4⟩:=rY K (λp hp=>by have:=S.pb p hp;omega);have hC2:=o9 100 1 1 (ay r) true 12 65536 0 H.toqV hF qqq (vG r) (V1.map bY) true (kpW W1) true K2;have t4:=Ny H.toMO (V1.map bY) (kpW W1) qqq (λp hp=>by obtain⟨w,_,rfl⟩:=qkx.1 hp;rfl);have t6:=yY H.toMO (V1.map bY) true (kpW W1) true qqq (λp hp=>(i4 p hp).1);have t7:=yY H.toMO ra ea ps pe qqq (λp hp=>(j4 p hp).1);rw[TB]at t6 t7;rw[Zn,U4]at t6;have t8:=Jr (V1.map bY) true (kpW W1) true H.towV qqx (λp hp=>(i4 p hp).1) qqq;have hl2:live (V1.map bY::(kpW W1).map (·.1))=lv:=by rw[<- hlv];refine SI ?_;rw[qvj,qvj,kW,qZz,<- KW];rfl
 rw[hl2]at t8;have e1:∀X:List Pl,(X.map λp=>p.1.map hz)=(X.map (·.1)).map λw=>w.map hz:=λX=>by rw[qZz];rfl
 have s1:=iY H.tooq (V1.map bY) U true ea1 (kpW W1) ps1 true pe1 i1 qqq i2;rw[qzq (by rw[oP _ _ (by rw[kW,z1']),nS _ _ (by rw[KW,e1,h1])];rfl)]at s1;have s3:=iY H.tooq ra ra ea ea ps ps pe pe j1 qqq j2;rw[qzq (by rw[oP _ _ rfl,nS _ _ rfl];rfl)]at s3;have s2:=iY H.tooq (V1.map bY) (V1.map bY) true true (kpW (W1.map λw=>w.map bY)) (kpW W1) true true i1 (by simpa using(by omega:W1.length<=1000000)) (λp hp=>by obtain⟨w,hw,rfl⟩:=qkx.1 hp;obtain⟨w0,hw0,rfl⟩:=qkx.1 hw;have hm:=i2 (w0.map bY,true) (qkx.2 ⟨w0,hw0,rfl⟩);refine⟨by simpa using hm.len,λx hx=>?_⟩;obtain⟨y,hy,rfl⟩:=qkx.1 hx;have hy2:=(i4 (w0.map bY,true) (qkx.2 ⟨w0,hw0,rfl⟩)).2 y hy;exact Eu (uD (by simp only[bY];rw[AL];exact hy2)));rw[qzq (by rw[oP _ _ rfl,nS _ _ (by rw[KW,KW,qZz];exact qex λw _=>kW w)];rfl)]at s2;have hA2:=hag (V1.map bY) ((kpW W1).map (·.1)) (by rw[qZz];rfl) (by rw[qZz];exact hnd);have hlv2:live (V1::(kpW W1).map (·.1))=lv:=by rw[<- hlv];refine SI ?_;rw[qvj,qvj,qZz,<- KW];rfl
 have hagain:=λnx=>afX 100 1 1 (ay r) true 12 65536 0 (V1.map bY) true (kpW W1) true l e H (trN (ay r)) A f hC2 hlc hri qqq hAl hAn hn (by have:=L.hl;omega) qqx K2.rn (by rw[hkl];rfl) qqq qqq (λp hp=>by have:=hpb p hp;omega)
  (λj w hw=>by
   rw[qQq]at hw;cases hq:(kpW W1)[j]? with
   |none=>rw[hq]at hw;cases hw
   |some p=>rw[hq]at hw;obtain rfl:=qkq hw;exact(K2.pv j p hq).1)
  htyl (λx hx=>by obtain⟨t,q1,q2⟩:=(K2.rv x hx).t;exact⟨t,q1,q2⟩) (λa ha q=>E5 H.toace L a ha q)
  (by rw[hA2];exact⟨by simp only;omega,z5⟩) (by rw[hA2];intro w hw;obtain⟨p,hp,rfl⟩:=qkx.1 hw;exact i4 p hp) (by rw[hA2];simp;omega) (by rw[hA2];simp only;rw[hlv2];omega) nx
 rw[hA2]at hagain;simp only[hlv2]at hagain;have hs0:=PO 96 (ps.map (·.1)) (λw hw=>by obtain⟨p,hp,rfl⟩:=qkx.1 hw;exact S.pb p hp);have hs1:=PO 108 W1 hb2;have hsl:(ps.map (·.1)).length=3:=by simpa using hpl
 rw[hsl]at hs0;rw[hwl]at hs1;have hw3:((kpW W1).map (·.1)).length=3:=by simpa using hkl
 refine⟨V1,W1,(kpW W1).map (·.1),rb,mk,d,lv,U,ea1,ps1,pe1,⟨h2,λnx=>?_,⟨hwl,hw3⟩,s1,t4,hC2,⟨t7,t6⟩,t8,by omega,by omega,?_,λnx=>?_,by rw[Zn];exact s2,s3,z5⟩⟩
 ·have:=hgot nx;rw[hwl]at this;exact this
 ·simp only[fQ]at hmx;push_cast at hmx |-;omega
 ·have:=hagain nx;rw[hw3]at this;exact this
structure BL(C:aJ):Prop extends MV C where
 f141:GwC C 141 aiM
def afl(X:aI)(rb b16:Nat)(c:List AV):Prop :=∃k t a1 a2 a3 a4 a5 b m es dt,c=[k,t,a1,a2,a3,a4,a5,.sl b 6 0 m m true]/\50<=b/\b≠rb/\b≠b16/\Pav.get X b=some (.cells 6 es true dt)/\es.length=m/\(m<=1000000)/\∀e∈es,∃c0 c1 c2 c3 c4 c5:AV,e=[c0,c1,c2,c3,c4,c5]
structure LwF(o0 o10 o40:dD)(PV:AV)(rb b16 n:Nat)(X:aI):Prop where
 f0:Pav.get X 0=some o0
 f10:Pav.get X 10=some o10
 f40:Pav.get X 40=some o40
 f16:Pav.get X b16=some (.cells 2 [[.sl rb 8 0 n n true,PV]] true false)
 rows:∃cs dt,Pav.get X rb=some (.cells 8 cs true dt)/\cs.length=n/\∀c∈cs,afl X rb b16 c
 ne:50<=rb/\50<=b16/\rb≠b16/\n<=1000000
theorem acG{X:aI}{rb b16:Nat}{c:List AV}(R:afl X rb b16 c){cs:List (List AV)}{dt:Bool}:afl (put X rb (.cells 8 cs true dt)) rb b16 c:=by obtain⟨k,t,a1,a2,a3,a4,a5,b,m,es,dt',h1,h2,h3,h4,h5,h6,h7,h8⟩:=R;exact⟨k,t,a1,a2,a3,a4,a5,b,m,es,dt',h1,h2,h3,h4,by rw[aj (qYx h3)];exact h5,h6,h7,h8⟩
theorem aas{X:aI}{rb b16 b:Nat}{c:List AV}(R:afl X rb b16 c){es:List (List AV)}{dt:Bool}(m:Nat)(hm:m<=1000000)(hl:es.length=m)(he:∀e∈es,∃c0 c1 c2 c3 c4 c5:AV,e=[c0,c1,c2,c3,c4,c5]){es0:List (List AV)}{dt0:Bool}(h0:Pav.get X b=some (.cells 6 es0 true dt0))(hl0:es0.length=m):afl (put X b (.cells 6 es true dt)) rb b16 c:=by
 obtain⟨k,t,a1,a2,a3,a4,a5,b',m',es',dt',h1,h2,h3,h4,h5,h6,h7,h8⟩:=R;by_cases q:b=b'
 ·subst q;rw[h0]at h5;cases h5;exact⟨k,t,a1,a2,a3,a4,a5,b,m',es,dt,h1,h2,h3,h4,ak ..,by omega,h7,he⟩
 ·exact⟨k,t,a1,a2,a3,a4,a5,b',m',es',dt',h1,h2,h3,h4,by rw[aj q];exact h5,h6,h7,h8⟩
theorem afM(H:BL C)(o0 o10 o40:dD)(PV v13:AV)(rb b16 n:Nat)(i:Nat)(hi:i<n):∀(m M k:Nat),m+k=M->∀(X:aI) (next:Nat),LwF o0 o10 o40 PV rb b16 n X ->
 (∃cs dt c k t a1 a2 a3 a4 a5 b,Pav.get X rb=some (.cells 8 cs true dt)/\cs[i]?=some c/\c=[k,t,a1,a2,a3,a4,a5,.sl b 6 0 M M true]) ->
 ∃X' n',LwF o0 o10 o40 PV rb b16 n X'/\next<=n' /\
 CK C 0 (aO [.tmp 4]) [.sq Ia,.bk 2 ⟨true,[19,16,13,10,6,2],[(9999,65537)]⟩,.bk 1 ⟨true,[19,16,13,10,6,2],[(9999,65537)]⟩,.sq G8,.sq oQ,.bk 0 ⟨true,[13,10,6,2],[(9999,65537)]⟩,.sq jE] xB
  ⟨[(20,.int .i64 k),(19,.int .i64 i),(16,.ptr b16 0 0),(13,v13),(10,.ptr 40 0 0),(6,.ptr 10 0 0),(2,.ptr 0 0 0)],X,next⟩ =
 CK C 0 (aO [.tmp 4]) [.sq oQ,.bk 0 ⟨true,[13,10,6,2],[(9999,65537)]⟩,.sq jE] mV
  ⟨[(19,.int .i64 (i+1:Nat)),(16,.ptr b16 0 0),(13,v13),(10,.ptr 40 0 0),(6,.ptr 10 0 0),(2,.ptr 0 0 0)],X',n'⟩:=by
 intro m;induction m with
 |zero=>
  intro M k hk X next F hc
  have ne:=F.ne;obtain⟨cs,dt,c,k',t,a1,a2,a3,a4,a5,b,g,hci,rfl⟩:=hc;have c1:¬k<M:=by omega
  have hil:i<cs.length:=(qzj.1 hci).1;have hcg:cs[i]=[k',t,a1,a2,a3,a4,a5,.sl b 6 0 M M true]:=by rw[qqj hil]at hci;exact qkq hci
  refine⟨X,next+13,F,by omega,?_⟩;rw[au xB.eq_1];simp(disch:=omega) [F.f16,g,hi,hil,hcg,c1,au G8.eq_1,aK]
 |succ m ih=>
  intro M k hk X next F hc
  have ne:=F.ne;obtain⟨cs,dt,c,k',t,a1,a2,a3,a4,a5,b,g,hci,rfl⟩:=hc;have c1:k<M:=by omega
  have hil:i<cs.length:=(qzj.1 hci).1;have hcg:cs[i]=[k',t,a1,a2,a3,a4,a5,.sl b 6 0 M M true]:=by rw[qqj hil]at hci;exact qkq hci
  obtain⟨cs',dt',g',hl',hr⟩:=F.rows;rw[g]at g';cases g';obtain⟨q1,q2,q3,q4,q5,q6,q7,b',m',es,dt2,e1,e2,e3,e4,e5,e6,e7,e8⟩:=hr _ (qxq hil);rw[hcg]at e1;simp only[qlz,AV.sl.injEq]at e1;obtain⟨rfl,rfl,rfl,rfl,rfl,rfl,rfl,⟨rfl,_,_,rfl,_⟩,_⟩:=e1;have hkl:k<es.length:=by omega
  obtain⟨c0,d1,d2,d3,d4,d5,he⟩:=e8 _ (qxq hkl);have F2:∀dt3,LwF o0 o10 o40 PV rb b16 n (put X b (.cells 6 (es.set k [c0,d1,d2,d3,.str [111,116,104,101,114],d5]) true dt3)):=by
   intro dt3;refine⟨by rw[aj qqq];exact F.f0,by rw[aj qqq];exact F.f10,by rw[aj qqq];exact F.f40,by rw[aj e4];exact F.f16,⟨cs,dt,by rw[aj e3];exact g,hl',λc hc=>aas (hr c hc) M e7 qqx (λx hx=>?_) e5 e6⟩,ne⟩;rcases qXx hx with q | q
   ·exact e8 x q
   ·exact⟨_,_,_,_,_,_,q⟩
  have ihx:=λdt3 nx=>ih M (k+1) qqq (put X b (.cells 6 (es.set k [c0,d1,d2,d3,.str [111,116,104,101,114],d5]) true dt3)) nx (F2 dt3) ⟨cs,dt,_,k',t,a1,a2,a3,a4,a5,b,by rw[aj e3];exact g,hci,rfl⟩;obtain⟨X',n',z1,z0,z2⟩:=ihx dt2 (next+24);refine⟨X',n',z1,by omega,?_⟩;rw[<- z2,au xB.eq_1];simp(disch:=omega) [F.f16,g,hi,hil,hcg,c1,aK,e5,hkl,he]
theorem aeR(H:BL C)(o0 o10 o40:dD)(PV v13:AV)(rb b16 n:Nat):∀(m i:Nat),m+i=n->∀(X:aI) (next:Nat),LwF o0 o10 o40 PV rb b16 n X ->
 ∃X' n',LwF o0 o10 o40 PV rb b16 n X'/\next<=n' /\
 CK C 0 (aO [.tmp 4]) [.sq oQ,.bk 0 ⟨true,[13,10,6,2],[(9999,65537)]⟩,.sq jE] mV
  ⟨[(19,.int .i64 i),(16,.ptr b16 0 0),(13,v13),(10,.ptr 40 0 0),(6,.ptr 10 0 0),(2,.ptr 0 0 0)],X,next⟩ =
 CK C 0 (aO [.tmp 4]) [] jE ⟨[(13,v13),(10,.ptr 40 0 0),(6,.ptr 10 0 0),(2,.ptr 0 0 0)],X',n'⟩:=by
 intro m;induction m with
 |zero=>
  intro i hi X next F
  have ne:=F.ne;have c1:¬i<n:=by omega
  refine⟨X,next+5,F,by omega,?_⟩;rw[au mV.eq_1];simp(disch:=omega) [F.f16,c1]
 |succ m ih=>
  intro i hi X next F
  have ne:=F.ne;have c1:i<n:=by omega
  obtain⟨cs,dt,g,hl,hr⟩:=F.rows;have hil:i<cs.length:=by omega
  obtain⟨k',t,a1,a2,a3,a4,a5,b,M,es,dt2,e1,e2,e3,e4,e5,e6,e7,e8⟩:=hr _ (qxq hil);have F2:∀dt3,LwF o0 o10 o40 PV rb b16 n (put X rb (.cells 8 (cs.set i [k',t,a1,.str [111,116,104,101,114],a3,a4,a5,.sl b 6 0 M M true]) true dt3)):=by
   intro dt3;refine⟨by rw[aj qqq];exact F.f0,by rw[aj qqq];exact F.f10,by rw[aj qqq];exact F.f40,by rw[aj qqq];exact F.f16,⟨_,dt3,ak ..,by simp;omega,λc hc=>?_⟩,ne⟩;rcases qXx hc with q | q
   ·exact acG (hr c q)
   ·subst q;exact⟨_,_,_,_,_,_,_,b,M,es,dt2,rfl,e2,e3,e4,by rw[aj (qYx e3)];exact e5,e6,e7,e8⟩
  have key:∀dt3 nx,∃X' n',LwF o0 o10 o40 PV rb b16 n X'/\nx<=n' /\
   CK C 0 (aO [.tmp 4]) [.sq Ia,.bk 2 ⟨true,[19,16,13,10,6,2],[(9999,65537)]⟩,.bk 1 ⟨true,[19,16,13,10,6,2],[(9999,65537)]⟩,.sq G8,.sq oQ,.bk 0 ⟨true,[13,10,6,2],[(9999,65537)]⟩,.sq jE] xB
    ⟨[(20,.int .i64 (0:Nat)),(19,.int .i64 i),(16,.ptr b16 0 0),(13,v13),(10,.ptr 40 0 0),(6,.ptr 10 0 0),(2,.ptr 0 0 0)],put X rb (.cells 8 (cs.set i [k',t,a1,.str [111,116,104,101,114],a3,a4,a5,.sl b 6 0 M M true]) true dt3),nx⟩ =
   CK C 0 (aO [.tmp 4]) [] jE ⟨[(13,v13),(10,.ptr 40 0 0),(6,.ptr 10 0 0),(2,.ptr 0 0 0)],X',n'⟩:=by
   intro dt3 nx;obtain⟨X1,n1,z1,z5,z2⟩:=afM H o0 o10 o40 PV v13 rb b16 n i c1 M M 0 qqz _ nx (F2 dt3) ⟨_,dt3,_,k',t,a1,_,a3,a4,a5,b,ak ..,qez hil,rfl⟩;obtain⟨X2,n2,z3,z6,z4⟩:=ih (i+1) qqq X1 n1 z1;exact⟨X2,n2,z3,by omega,z2.trans z4⟩
  obtain⟨X',n',z1,z5,z2⟩:=key dt (next+13);refine⟨X',n',z1,by omega,?_⟩;rw[<- z2,au mV.eq_1];simp(disch:=omega) [F.f16,g,c1,hil,e1,aK]
theorem ak4(H:BL C)(PV v13:AV)(b16:Nat)(X:aI)(next:Nat)(f16:Pav.get X b16=some (.cells 2 [[.ro 8 [] true,PV]] true false)):∃n',next<=n' /\
 CK C 0 (aO [.tmp 4]) [.sq oQ,.bk 0 ⟨true,[13,10,6,2],[(9999,65537)]⟩,.sq jE] mV
  ⟨[(19,.int .i64 0),(16,.ptr b16 0 0),(13,v13),(10,.ptr 40 0 0),(6,.ptr 10 0 0),(2,.ptr 0 0 0)],X,next⟩ =
 CK C 0 (aO [.tmp 4]) [] jE ⟨[(13,v13),(10,.ptr 40 0 0),(6,.ptr 10 0 0),(2,.ptr 0 0 0)],X,n'⟩:=by
 refine⟨next+5,by omega,?_⟩;rw[au mV.eq_1];simp(disch:=omega) [f16]
theorem adn(H:BL C)(hl:FnW C 145 []=some (.bool true))(q1 q2:List Q4)(e1 e2:Bool)(z1 z2:List Int)(f1 f2:Bool)(r r2:Int)(w:List (Int×Int))(we:Bool){ks:List Kd}{ra:List Hd}{ea:Bool}{ps:List Pl}{pe:Bool}(R1 R2:List En)(g1 g2:Bool)
 (ha:FnW C 283 [.agg [.ro 4 (q1.map eQ) e1,.ro 1 (z1.map eU8) f1,.int .u8 r,.ro 4 (q2.map eQ) e2,.ro 1 (z2.map eU8) f2,.int .u8 r2,.ro 2 (w.map eW) we]]=some (.tup [.agg (cCf 100 1 1 ks true 12 65536 0),aSt ra ea ps pe,.agg [.ro 6 (R1.map eEn) g1,.ro 6 (R2.map eEn) g2]]))
 {G r1:List Hd}{P2 p1:List Pl}{x1 y1:Bool}(t1:FnW C 286 [aSt G true P2 true,aSt r1 x1 p1 y1]=some (.int .i64 1)) (t2:FnW C 286 [aSt ra ea ps pe,aSt ra ea ps pe]=some (.int .i64 1))
 (X:aI) (n:Nat) (hn:50<=n) (f0:Pav.get X 0=some (.cells 7 [[.ro 4 (q1.map eQ) e1,.ro 1 (z1.map eU8) f1,.int .u8 r,.ro 4 (q2.map eQ) e2,.ro 1 (z2.map eU8) f2,.int .u8 r2,.ro 2 (w.map eW) we]] true true)) (f10:Pav.get X 10=some (.cells 2 [[.ro 8 (ra.map eHd) ea,.ro 1 (ps.map ePl) pe]] true true)) (f40:Pav.get X 40=some (.cells 2 [[.ro 8 (r1.map eHd) x1,.ro 1 (p1.map ePl) y1]] true true)) :
 CK C 0 (aO [.tmp 4]) [] jE ⟨[(13,.rop [.ro 8 (G.map eHd) true,.ro 1 (P2.map ePl) true]),(10,.ptr 40 0 0),(6,.ptr 10 0 0),(2,.ptr 0 0 0)],X,n⟩=some (.bool true):=by
 rw[au jE.eq_1];simp(disch:=omega) [f0,f10,f40,ha,t1,t2,hl,H.kk,ak,aj,aK]
theorem XP(H:BL C)(hl:FnW C 145 []=some (.bool true))(q1 q2:List Q4)(e1 e2:Bool)(z1 z2:List Int)(f1 f2:Bool)(r r2:Int)(w:List (Int×Int))(we:Bool){ks:List Kd}{ra:List Hd}{ea:Bool}{ps:List Pl}{pe:Bool}(R1 R2:List En)(g1 g2:Bool)
 (ha:FnW C 283 [.agg [.ro 4 (q1.map eQ) e1,.ro 1 (z1.map eU8) f1,.int .u8 r,.ro 4 (q2.map eQ) e2,.ro 1 (z2.map eU8) f2,.int .u8 r2,.ro 2 (w.map eW) we]]=some (.tup [.agg (cCf 100 1 1 ks true 12 65536 0),aSt ra ea ps pe,.agg [.ro 6 (R1.map eEn) g1,.ro 6 (R2.map eEn) g2]]))
 {G r1:List Hd}{P2 p1:List Pl}{x1 y1:Bool}(t1:FnW C 286 [aSt G true P2 true,aSt r1 x1 p1 y1]=some (.int .i64 1)) (t2:FnW C 286 [aSt ra ea ps pe,aSt ra ea ps pe]=some (.int .i64 1))
 (X:aI) (n:Nat) (hn:50<=n) (f0:Pav.get X 0=some (.cells 7 [[.ro 4 (q1.map eQ) e1,.ro 1 (z1.map eU8) f1,.int .u8 r,.ro 4 (q2.map eQ) e2,.ro 1 (z2.map eU8) f2,.int .u8 r2,.ro 2 (w.map eW) we]] true true)) (f10:Pav.get X 10=some (.cells 2 [[.ro 8 (ra.map eHd) ea,.ro 1 (ps.map ePl) pe]] true true)) (f40:Pav.get X 40=some (.cells 2 [[.ro 8 (r1.map eHd) x1,.ro 1 (p1.map ePl) y1]] true true)) (PV:AV) (b16:Nat) (f16:Pav.get X b16=some (.cells 2 [[.ro 8 [] true,PV]] true false)) :
 CK C 0 (aO [.tmp 4]) [.sq oQ,.bk 0 ⟨true,[13,10,6,2],[(9999,65537)]⟩,.sq jE] mV
  ⟨[(19,.int .i64 0),(16,.ptr b16 0 0),(13,.rop [.ro 8 (G.map eHd) true,.ro 1 (P2.map ePl) true]),(10,.ptr 40 0 0),(6,.ptr 10 0 0),(2,.ptr 0 0 0)],X,n⟩=some (.bool true):=by
 obtain⟨n',k1,k2⟩:=ak4 H PV (.rop [.ro 8 (G.map eHd) true,.ro 1 (P2.map ePl) true]) b16 X n f16;rw[k2];exact adn H hl q1 q2 e1 e2 z1 z2 f1 f2 r r2 w we R1 R2 g1 g2 ha t1 t2 X n' qqq f0 f10 f40
theorem alK(H:BL C)(hl:FnW C 145 []=some (.bool true))(q1 q2:List Q4)(e1 e2:Bool)(z1 z2:List Int)(f1 f2:Bool)(r r2:Int)(w:List (Int×Int))(we:Bool){ks:List Kd}{ra:List Hd}{ea:Bool}{ps:List Pl}{pe:Bool}(R1 R2:List En)(g1 g2:Bool)
 (ha:FnW C 283 [.agg [.ro 4 (q1.map eQ) e1,.ro 1 (z1.map eU8) f1,.int .u8 r,.ro 4 (q2.map eQ) e2,.ro 1 (z2.map eU8) f2,.int .u8 r2,.ro 2 (w.map eW) we]]=some (.tup [.agg (cCf 100 1 1 ks true 12 65536 0),aSt ra ea ps pe,.agg [.ro 6 (R1.map eEn) g1,.ro 6 (R2.map eEn) g2]]))
 {G r1:List Hd}{P2 p1:List Pl}{x1 y1:Bool}(t1:FnW C 286 [aSt G true P2 true,aSt r1 x1 p1 y1]=some (.int .i64 1)) (t2:FnW C 286 [aSt ra ea ps pe,aSt ra ea ps pe]=some (.int .i64 1))
 (X:aI) (n:Nat) (hn:50<=n) (f0:Pav.get X 0=some (.cells 7 [[.ro 4 (q1.map eQ) e1,.ro 1 (z1.map eU8) f1,.int .u8 r,.ro 4 (q2.map eQ) e2,.ro 1 (z2.map eU8) f2,.int .u8 r2,.ro 2 (w.map eW) we]] true true)) (f10:Pav.get X 10=some (.cells 2 [[.ro 8 (ra.map eHd) ea,.ro 1 (ps.map ePl) pe]] true true)) (f40:Pav.get X 40=some (.cells 2 [[.ro 8 (r1.map eHd) x1,.ro 1 (p1.map ePl) y1]] true true)) (PV:AV) (b16 rb lo hi:Nat) (V1:List Hd) (cs:List (List AV)) (hlo:50<=rb) (hb16:hi<=b16) (hrb:rb<hi) (f16:Pav.get X b16=some (.cells 2 [[.sl rb 8 0 V1.length V1.length true,PV]] true false))
 (g:Pav.get X rb=some (.cells 8 cs true false)) (R:vT X (rb+1) hi cs V1) (hV:V1.length<=1000000) (hcn:∀x∈V1,cnt x.n≠0) :
 CK C 0 (aO [.tmp 4]) [.sq oQ,.bk 0 ⟨true,[13,10,6,2],[(9999,65537)]⟩,.sq jE] mV
  ⟨[(19,.int .i64 0),(16,.ptr b16 0 0),(13,.rop [.ro 8 (G.map eHd) true,.ro 1 (P2.map ePl) true]),(10,.ptr 40 0 0),(6,.ptr 10 0 0),(2,.ptr 0 0 0)],X,n⟩=some (.bool true):=by
 have F:LwF (.cells 7 [[.ro 4 (q1.map eQ) e1,.ro 1 (z1.map eU8) f1,.int .u8 r,.ro 4 (q2.map eQ) e2,.ro 1 (z2.map eU8) f2,.int .u8 r2,.ro 2 (w.map eW) we]] true true) (.cells 2 [[.ro 8 (ra.map eHd) ea,.ro 1 (ps.map ePl) pe]] true true) (.cells 2 [[.ro 8 (r1.map eHd) x1,.ro 1 (p1.map ePl) y1]] true true) PV rb b16 V1.length X:=by
  refine⟨f0,f10,f40,f16,⟨cs,false,g,R.len,λc hc=>?_⟩,by omega⟩;obtain⟨i,hi',rfl⟩:=qaj.1 hc;have hil:i<V1.length:=by rw[<- R.len];exact hi'
  obtain⟨b,m1,m2,m3,m4⟩:=R.row i V1[i] (qqj hil);rw[qqj hi']at m3;rw[qkq m3];have hch:V1[i].n.ch.length<=16:=by
   cases uD (hcn _ (qxq hil))with
   |mk _ hc h1 h2 h=>exact h2
  refine⟨_,_,_,_,_,_,_,b,_,_,true,rfl,by omega,by omega,by omega,m4,by simp,by omega,λe he=>?_⟩;obtain⟨x,hx,rfl⟩:=qkx.1 he;exact⟨_,_,_,_,_,_,Nd.bU x⟩
 obtain⟨X',n',z3,k1,k2⟩:=aeR H _ _ _ PV (.rop [.ro 8 (G.map eHd) true,.ro 1 (P2.map ePl) true]) rb b16 V1.length V1.length 0 qqz X n F;exact k2.trans (adn H hl q1 q2 e1 e2 z1 z2 f1 f2 r r2 w we R1 R2 g1 g2 ha t1 t2 X' n' qqq z3.f0 z3.f10 z3.f40)
def Gp(h:aI)(b:Nat):aI:=bT h (bf h (aQ h aC (.ptr b 0 0)))
theorem aip{H:aI}{bx pb lo hi k:Nat}{Rv:AV}{V1:List Hd}{W1:List (List Hd)}(h2:Pav.get H bx=some (.cells 2 [[Rv,.sl pb 1 0 k k true]] true false))(h3:StO H lo hi Rv pb V1 W1)(hk:k=W1.length)(n:Nat) :
 bD H (n+6) (.ptr bx 0 0)=some (.rop [.ro 8 ((V1.map bY).map eHd) true,.ro 1 ((kpW W1).map ePl) true]):=by
 obtain⟨cs,dt,h4,h5,h6⟩:=h3.pool;rw[aej,h2];simp only[ah8,List.getElem?_cons_zero,ob,qjz,aZ,h3.rows.frz (n+2),h5.frz h4 h6 (n+1) k hk,om];simp[ePl]
theorem abD{E:Env}{H:aI}{n bx pb lo hi k:Nat}{Rv:AV}{V1:List Hd}{W1:List (List Hd)}(h2:Pav.get H bx=some (.cells 2 [[Rv,.sl pb 1 0 k k true]] true false))(h3:StO H lo hi Rv pb V1 W1)(hk:k=W1.length)(h1:Pav.get E 13=some (.ptr bx 0 0)) :
 sS 13 ⟨E,H,n⟩=some ⟨fC E (some 13) (.rop [.ro 8 ((V1.map bY).map eHd) true,.ro 1 ((kpW W1).map ePl) true]),Gp H bx,n⟩:=by
 unfold sS;simp only[h1,ob];have:=aip h2 h3 hk 10;rw[show aC=10+6 from rfl,this];rfl
theorem af0{h:aI}{b:Nat}:∀(L:List Nat) (h':aI),b∉L->Pav.get (bT h' (bf h L)) b=Pav.get h' b:=by
 intro L;induction L with
 |nil=>intro h' _;rfl
 |cons c L ih=>
  intro h' hb;simp only[qjj,not_or]at hb;unfold bf;split
  ·simp only[bT,BI];rw[ih _ hb.2,aj (qYx hb.1)]
  ·exact ih _ hb.2
theorem ZM{h:aI}{x:Hd}{b:Nat}(hg:Pav.get h b=some (Xd x.n))(n:Nat):∀c∈(AV.int .u64 x.k::.int .u8 x.t::BD x.n b).flatMap (aQ h (n+1)),c=b:=by intro c hc;simp[aQ,hg]at hc;exact hc
theorem yZ.reach{h:aI}{lo hi:Nat}{v:AV}{l:List Hd}(R:yZ h lo hi v l)(n:Nat):∀c∈aQ h (n+2) v,lo<=c/\c<hi:=by
 intro c hc;rcases R with⟨rfl,rfl⟩|⟨_,rb,cs,rfl,k1,k2,g,R⟩
 ·simp[aQ]at hc
 ·unfold aQ at hc;simp only[g,qxj,qWq]at hc;rcases qjj.1 hc with rfl | hc
  ·exact⟨k1,k2⟩
  ·obtain⟨e,he,hce⟩:=qvq.1 hc;have he2:e∈cs:=qXz (qJq he);obtain⟨i,hi',rfl⟩:=qaj.1 he2;have hil:i<l.length:=by rw[<- R.len];exact hi'
   obtain⟨b,m1,m2,m3,m4⟩:=R.row i l[i] (qqj hil);rw[qqj hi']at m3;rw[qkq m3]at hce;have:=ZM m4 n c hce;omega
theorem afW{H:aI}{bx pb lo hi k:Nat}{Rv:AV}{V1:List Hd}{W1:List (List Hd)}(h2:Pav.get H bx=some (.cells 2 [[Rv,.sl pb 1 0 k k true]] true false))(h3:StO H lo hi Rv pb V1 W1)(hpb:lo<=pb){b:Nat}(hb:b≠bx)(hb2:b<lo\/hi<=b):Pav.get (Gp H bx) b=Pav.get H b:=by
 unfold Gp;refine af0 _ _ λhc=>?_;obtain⟨cs,dt,h4,h5,h6⟩:=h3.pool;have hbd:=h3.bd;rw[show aC=14+2 from rfl]at hc;unfold aQ at hc;simp only[h2,qxj,qWq,List.getElem?_cons_zero,qKq,qjz]at hc;rcases qjj.1 hc with q | hc
 ·exact hb q
 ·simp only[qgx,List.flatMap_nil,qKz]at hc;rcases qWj.1 hc with hc | hc
  ·have:=h3.rows.reach 13 b hc;omega
  ·unfold aQ at hc;simp only[h4]at hc;rcases qjj.1 hc with q | hc
   ·omega
   ·cases dt with
    |true=>simp at hc
    |false=>
     simp only[qxj,qWq]at hc;obtain⟨e,he,hce⟩:=qvq.1 hc;have he2:e∈cs:=qXz (qJq he);obtain⟨i,hi',rfl⟩:=qaj.1 he2;have hil:i<W1.length:=by rw[<- h5.len];exact hi'
     obtain⟨v,m1,m2⟩:=h5.row i W1[i] (qqj hil);rw[qqj hi']at m1;rw[qkq m1]at hce;simp only[qgx,List.flatMap_nil,qKz]at hce;have:=m2.reach 12 b hce;omega
theorem Ye(H:BL C)(hl:FnW C 145 []=some (.bool true))(q1 q2:List Q4)(e1 e2:Bool)(z1 z2:List Int)(f1 f2:Bool)(r r2:Int)(hr:0<=r/\r<=255)(w:List (Int×Int))(we:Bool)(a b:Nat)(hb:b<=65535)
 {ra:List Hd}{ea:Bool}{ps:List Pl}{pe:Bool}(R1 R2:List En) (g1 g2:Bool)
 (ha:FnW C 283 [.agg [.ro 4 (q1.map eQ) e1,.ro 1 (z1.map eU8) f1,.int .u8 r,.ro 4 (q2.map eQ) e2,.ro 1 (z2.map eU8) f2,.int .u8 r2,.ro 2 (w.map eW) we]]=some (.tup [.agg (cCf 100 1 1 (ay r) true 12 65536 0),aSt ra ea ps pe,.agg [.ro 6 (R1.map eEn) g1,.ro 6 (R2.map eEn) g2]]))
 (A:List Nat) (f:Bool) {V1:List Hd}{W1 W2:List (List Hd)}{rb mk d lv:Int}{r1:List Hd}{x1:Bool}{p1:List Pl}{y1:Bool}
 {l:List En}{g:Bool}(hsel:((a:Int).tmod 2=0/\R1=l/\g1=g)\/((a:Int).tmod 2=1/\R2=l/\g2=g)) (hb2:FnW C 284 [.int .u16 b,.int .i64 l.length]=some (.ro 1 (A.map eAt) f)) (M:CmO C r l g ra ea ps pe A f V1 W1 W2 rb mk d lv r1 x1 p1 y1) :
 FnW C 141 [.agg [.ro 4 (q1.map eQ) e1,.ro 1 (z1.map eU8) f1,.int .u8 r,.ro 4 (q2.map eQ) e2,.ro 1 (z2.map eU8) f2,.int .u8 r2,.ro 2 (w.map eW) we],.agg [.int .u16 a,.int .u16 b]]=some (.bool true):=by
 have t1:=M.want;have tag:=M.again;have ts2:=M.s2;have ts3:=M.s3;have s1:=M.s1;have tex:=M.ex;have tck:=M.ck;obtain⟨pl1,pl2⟩:=M.pl;have tlv:=M.lvg;have bds:=M.bds;have hsum:=M.sum;have hmx:=M.mx;have w1:IntKind.i64.wrap ((ra.length:Int)+(fQ (ps.map (·.1)):Nat))=(ra.length:Int)+(fQ (ps.map (·.1)):Nat):=aK qqq qqq;have w2:IntKind.i64.wrap ((ra.length:Int)+(fQ (ps.map (·.1)):Nat)+mk)=(ra.length:Int)+(fQ (ps.map (·.1)):Nat)+mk:=aK qqq qqq;have w3:IntKind.i64.wrap ((V1.length:Int)+(fQ W1:Nat))=(V1.length:Int)+(fQ W1:Nat):=aK qqq qqq;have w4:IntKind.i64.wrap ((V1.length:Int)+(fQ W1:Nat)+d)=(V1.length:Int)+(fQ W1:Nat)+d:=aK qqq qqq;have w5:IntKind.i64.wrap (((V1.length:Int)+(fQ W1:Nat))*12)=((V1.length:Int)+(fQ W1:Nat))*12:=aK qqq qqq;have w6:IntKind.i64.wrap (1+((V1.length:Int)+(fQ W1:Nat))*12)=1+((V1.length:Int)+(fQ W1:Nat))*12:=aK qqq qqq;have tsum:((ra.length:Int)+(fQ (ps.map (·.1)):Nat)+mk=(V1.length:Int)+(fQ W1:Nat)+d)=True:=qQz hsum;have tmx:¬(1+((V1.length:Int)+(fQ W1:Nat))*12<lv):=by omega
 obtain⟨Rv,pb,h1,n1,k1,k2,k3,k4⟩:=M.got 50;generalize ay r=ks at *;rw[aN H.f141 rfl];have st0:=λX=>k4.over (qxx 50) k3 X;have hw3:=M.wl.1;obtain⟨Rv',hRv⟩:∃x,x=Rv:=⟨_,rfl⟩;rcases hsel with⟨c,o3,o4⟩|⟨c,o3,o4⟩<;>rw[o3,o4]at ha<;>rcases k4.rows with⟨v0,rfl⟩|⟨v0,rb1,cs1,rfl,k5,k6,k7,k8⟩;all_goals
  simp(disch:=omega) [-sS,aiM,H.kk,ha,c,hb2,t1,aK,k1,dM,ak,aj,leF,ltF,gtF];generalize hH:put _ (n1+1+1+1+1+1) (dD.cells 4 [[AV.int .i64 rb,AV.int .i64 mk,AV.int .i64 d,AV.int .i64 lv]] true true)=HH;have stH:StO HH 50 n1 Rv' pb V1 W1:=by rw[<- hH,hRv];exact(st0 _).mono (qxx _) (qxx _) k3 (λb p q=>by rw[aj qqq,aj qqq,aj qqq,aj qqq])
  have yb:Pav.get HH (n1+1+1+1+1)=some (.cells 2 [[Rv',.sl pb 1 0 3 3 true]] true false):=by rw[<- hH,hRv];simp(disch:=omega) [ak,aj]
  have fY:∀b,b<50\/b=n1+1+1+1+1+1->Pav.get (Gp HH (n1+1+1+1+1)) b=Pav.get HH b:=λb q=>afW yb stH k3 qqq qqq;have y0:Pav.get (Gp HH (n1+1+1+1+1)) 0=some (.cells 7 [[.ro 4 (q1.map eQ) e1,.ro 1 (z1.map eU8) f1,.int .u8 r,.ro 4 (q2.map eQ) e2,.ro 1 (z2.map eU8) f2,.int .u8 r2,.ro 2 (w.map eW) we]] true true):=(fY 0 qqq).trans (by rw[<- hH];simp(disch:=omega)only[aj,dM];rfl);have y9:Pav.get (Gp HH (n1+1+1+1+1)) 9=some (.cells 7 [cCf 100 1 1 ks true 12 65536 0] true true):=(fY 9 qqq).trans (by rw[<- hH];simp(disch:=omega)only[aj,dM];rfl);have y10:Pav.get (Gp HH (n1+1+1+1+1)) 10=some (.cells 2 [[.ro 8 (ra.map eHd) ea,.ro 1 (ps.map ePl) pe]] true true):=(fY 10 qqq).trans (by rw[<- hH];simp(disch:=omega)only[aj,dM];rfl);have y21:Pav.get (Gp HH (n1+1+1+1+1)) 21=some (.cells 1 [[.ro 6 (l.map eEn) g]] true true):=(fY 21 qqq).trans (by rw[<- hH];simp(disch:=omega)only[aj,dM];rfl);have y40:Pav.get (Gp HH (n1+1+1+1+1)) 40=some (.cells 2 [[.ro 8 (r1.map eHd) x1,.ro 1 (p1.map ePl) y1]] true true):=(fY 40 qqq).trans (by rw[<- hH];simp(disch:=omega)only[aj,dM];rfl);have y41:Pav.get (Gp HH (n1+1+1+1+1)) 41=some (.cells 4 [[.int .i64 rb,.int .i64 mk,.int .i64 d,.int .i64 lv]] true true):=(fY 41 qqq).trans (by rw[<- hH];simp(disch:=omega)only[aj,dM];rfl);have y14:Pav.get (Gp HH (n1+1+1+1+1)) (n1+1+1+1+1+1)=some (.cells 4 [[.int .i64 rb,.int .i64 mk,.int .i64 d,.int .i64 lv]] true true):=(fY (n1+1+1+1+1+1) qqq).trans (by rw[<- hH];exact ak ..);rw[abD yb stH hw3.symm qqz];generalize Gp HH (n1+1+1+1+1)=Y at *;clear hH fY yb stH st0;have hGl:(V1.map bY).length=V1.length:=by simp
  generalize hG:V1.map bY=G at *;generalize kpW W1=P2 at *;obtain⟨Rv2,pb2,h2,n2,m1,m2,m3,m4⟩:=tag (n1+80+1);have st2:=λX=>m4.over (qxx _) m3 X;have hw4:=M.wl.2;obtain⟨Rv2',hRv2⟩:∃x,x=Rv2:=⟨_,rfl⟩;rcases m4.rows with⟨u0,rfl⟩|⟨u0,rb2,cs2,rfl,u1,u2,u3,u4⟩;all_goals first | exact absurd v0 u0 | exact absurd u0 v0 | skip
  all_goals
   simp(disch:=omega) [H.kk,y9,y10,y21,y40,y41,y14,s1,tex,tck,pl1,pl2,tlv,tsum,tmx,hGl,w1,w2,w3,w4,w5,w6,aK];simp(disch:=omega) [m1,y14,dM,ak,aj,ltF,gtF,leF];generalize hH2:put _ (n2+1+1+1+1+1) (dD.cells 4 [[AV.int .i64 0,AV.int .i64 0,AV.int .i64 0,AV.int .i64 lv]] true true)=HH2;have z0:Pav.get HH2 0=some (.cells 7 [[.ro 4 (q1.map eQ) e1,.ro 1 (z1.map eU8) f1,.int .u8 r,.ro 4 (q2.map eQ) e2,.ro 1 (z2.map eU8) f2,.int .u8 r2,.ro 2 (w.map eW) we]] true true):=by rw[<- hH2];simp(disch:=omega)only[aj,dM];exact y0
   have z10:Pav.get HH2 10=some (.cells 2 [[.ro 8 (ra.map eHd) ea,.ro 1 (ps.map ePl) pe]] true true):=by rw[<- hH2];simp(disch:=omega)only[aj,dM];exact y10
   have z40:Pav.get HH2 40=some (.cells 2 [[.ro 8 (r1.map eHd) x1,.ro 1 (p1.map ePl) y1]] true true):=by rw[<- hH2];simp(disch:=omega)only[aj,dM];exact y40
   have z16:Pav.get HH2 (n2+1+1+1+1)=some (.cells 2 [[Rv2',.sl pb2 1 0 3 3 true]] true false):=by rw[<- hH2,hRv2];simp(disch:=omega) [ak,aj]
   have st3:StO HH2 (n1+80+1) n2 Rv2' pb2 V1 W2:=by rw[<- hH2,hRv2];exact(st2 _).mono (qxx _) (qxx _) m3 (λb p q=>by rw[aj qqq,aj qqq,aj qqq,aj qqq])
   have fz2:bD HH2 15 (.sl pb2 1 0 3 3 true)=some (.ro 1 ((kpW W2).map ePl) true):=by obtain⟨cs,dt,h4,h5,h6⟩:=st3.pool;rw[h5.frz h4 h6 11 3 hw4.symm];simp[ePl]
   generalize kpW W2=P3 at *;clear hH2 st2;first
   |
    have hG0:G=[]:=by rw[<- hG,u0];rfl
    subst hG0;simp only[aSt,qgz]at ts2;simp(disch:=omega) [-ji,H.kk,fz2,ts2];rw[hRv2]at z16;exact XP H hl q1 q2 e1 e2 z1 z2 f1 f2 r r2 w we (G:=[]) _ _ _ _ ha s1 ts3 HH2 _ qqq z0 z10 z40 _ _ z16
   |
    have fz1:bD HH2 15 (.sl rb2 8 0 V1.length V1.length true)=some (.ro 8 (G.map eHd) true):=by rw[<- hG,<- hRv2];exact st3.rows.frz 12
    rw[hRv2]at z16 st3;obtain⟨cs3,g3,R3⟩:∃cs,Pav.get HH2 rb2=some (.cells 8 cs true false)/\vT HH2 (rb2+1) n2 cs V1:=by
     rcases st3.rows with⟨q,_⟩|⟨_,rb3,cs3,e3,_,_,e6,e7⟩
     ·exact absurd q v0
     ·simp only[AV.sl.injEq]at e3;obtain⟨rfl,_⟩:=e3;exact⟨cs3,e6,e7⟩
    simp(disch:=omega) [-ji,H.kk,fz1,fz2,ts2];exact alK H hl q1 q2 e1 e2 z1 z2 f1 f2 r r2 w we _ _ _ _ ha s1 ts3 HH2 _ qqq z0 z10 z40 _ _ rb2 0 n2 V1 cs3 qqq qqq u2 z16 g3 R3 qqq M.cn
theorem af2(H:BL C)(hl:FnW C 145 []=some (.bool true))(q1 q2:List Q4)(e1 e2:Bool)(z1 z2:List Int)(f1 f2:Bool)(r r2:Int)(hr:0<=r/\r<=255)(w:List (Int×Int))(we:Bool)(a b:Nat)(hb:b<=65535)
 {ra:List Hd}{ea:Bool}{ps:List Pl}{pe:Bool}(S:Gi 96 ra ps) (K:CkS (ay r) 12 ra ps) (R1 R2:List En) (g1 g2:Bool) (L1:LG r R1) (L2:LG r R2) (G1:∀x∈R1,fM (ay r) x) (G2:∀x∈R2,fM (ay r) x) (N1:(bQ R1).Nodup) (N2:(bQ R2).Nodup)
 (ha:FnW C 283 [.agg [.ro 4 (q1.map eQ) e1,.ro 1 (z1.map eU8) f1,.int .u8 r,.ro 4 (q2.map eQ) e2,.ro 1 (z2.map eU8) f2,.int .u8 r2,.ro 2 (w.map eW) we]]=some (.tup [.agg (cCf 100 1 1 (ay r) true 12 65536 0),aSt ra ea ps pe,.agg [.ro 6 (R1.map eEn) g1,.ro 6 (R2.map eEn) g2]])) :
 FnW C 141 [.agg [.ro 4 (q1.map eQ) e1,.ro 1 (z1.map eU8) f1,.int .u8 r,.ro 4 (q2.map eQ) e2,.ro 1 (z2.map eU8) f2,.int .u8 r2,.ro 2 (w.map eW) we],.agg [.int .u16 a,.int .u16 b]]=some (.bool true):=by
 by_cases c:(a:Int).tmod 2=0
 ·have hb2:=xP H.tooq b R1.length hb (by have:=L1.hl;omega);have hbl:=pJ b (min R1.length 16) 0;obtain⟨V1,W1,W2,rb,mk,d,lv,r1,x1,p1,y1,M⟩:=afv H.toMV L1 G1 N1 g1 S K ea pe (iU b 0 (min R1.length 16)) false (by have:=L1.hl;omega) (λa ha=>by have:=mW b _ 0 a ha;omega) (qI b _ 0) (o8 b _ 0);exact Ye H hl q1 q2 e1 e2 z1 z2 f1 f2 r r2 hr w we a b hb R1 R2 g1 g2 ha _ _ (.inl ⟨c,rfl,rfl⟩) hb2 M
 ·have c':(a:Int).tmod 2=1:=by have:=qyq (a:=(a:Int)) (b:=2) qqq;omega
  have hb2:=xP H.tooq b R2.length hb (by have:=L2.hl;omega);have hbl:=pJ b (min R2.length 16) 0;obtain⟨V1,W1,W2,rb,mk,d,lv,r1,x1,p1,y1,M⟩:=afv H.toMV L2 G2 N2 g2 S K ea pe (iU b 0 (min R2.length 16)) false (by have:=L2.hl;omega) (λa ha=>by have:=mW b _ 0 a ha;omega) (qI b _ 0) (o8 b _ 0);exact Ye H hl q1 q2 e1 e2 z1 z2 f1 f2 r r2 hr w we a b hb R1 R2 g1 g2 ha _ _ (.inr ⟨c',rfl,rfl⟩) hb2 M
end Go.D
end
section
namespace Go.D
open Go Go.Pav Go.Pw P
set_option maxHeartbeats 1000000
attribute [-simp] List.getElem_cons_drop
variable {C:aJ}
structure jg(C:aJ):Prop extends BL C where
 f142:GwC C 142 O9
 f144:GwC C 144 abH
 f294:GwC C 294 ahf
 f295:GwC C 295 ahw
 f300:GwC C 300 adZ
 f138:GwC C 138 agE
 anU:GwC C 440 agW
theorem jg.qz(H:jg C):sF C:=H.toBL.toMV.toMQ.toajL.tosF
theorem jg.qk(H:jg C):qV C:=H.qz.toMO.toajy.toYz.toqV
theorem jg.qh(H:jg C):Nj C:=H.qk.toabJ.toJE.toNj
theorem jg.qo(H:jg C):oq C:=H.qh.toYu.toac1.tooq
section
variable (vw ov ls:Int)(ks:List Kd)(ke:Bool)(cap ar fl:Int)
theorem Yr(H:jg C)(h:Hd)(V:VH ks cap h)(t:Nat)(ht:h.t=t)(hl:ks.length<=255):FnW C 440 [.agg (cCf vw ov ls ks ke cap ar fl),.agg (eHd h),.int .i64 t]=some (.int .i64 1):=by
 have h1:=EM H.qo.toOa h.n;have h2:=yQ H.qo.toOa h.n;have hv:=V.k;obtain⟨t',ht',htl⟩:=V.t;obtain rfl:t'=t:=by omega
 rw[qwx V.c.1]at h1;have hc:¬cap<(cnt h.n:Int):=by have:=V.c.2;omega
 have hn:=V.n;rw[ht,iW htl]at hn;rw[Nd.bU,hn.1,hn.2]at h1 h2;have c1:¬(ks.length:Int)<=t':=by omega
 have c2:¬ks.length<=t':=by omega
 rw[aN H.anU rfl];unfold eHd;rw[Nd.bU];simp(disch:=omega) [agW,H.kk,aK,h1,h2,hv,ht,htl,hc,c1,c2,hn.1,hn.2]
theorem Wn(H:jg C)(hl:ks.length<=1000)(hp:∀k∈ks,Gn k):∀n i,n+i=ks.length ->
 GX C ⟨[(3,.int .i64 i),(1,.ptr 0 0 0)],[(0,.cells 7 [cCf vw ov ls ks ke cap ar fl] true true)],1⟩=some (.int .i64 0):=by
 intro n;induction n with
 |zero=>
  intro i hi;have h3:¬i<ks.length:=by omega
  simp only[GX];rw[au DJ.eq_1];simp(disch:=omega) [au RD.eq_1,h3]
 |succ n ih=>
  intro i hi;have h1:i<ks.length:=by omega
  obtain⟨k1,k2⟩:=hp _ (qxq h1);have k3:¬ks[i].pl<0:=by omega
  have k4:¬16<ks[i].pl:=by omega
  have hv:=ih (i+1) qqq;simp only[GX]at hv |-;rw[au DJ.eq_1];simp at hv;simp(disch:=omega) [h1,aK,k3,k4,H.kk,hv]
theorem acp(H:jg C)(hr:zM ks)(hk:JX ks cap=true)(hl:ks.length<=1000)(hp:∀k∈ks,Gn k)(ha:1<=ar/\ar<=65536):FnW C 295 [.agg (cCf vw ov ls ks ke cap ar fl)]=some (.int .i64 0):=by
 have h1:=EO H.qh.toYu vw ov ls ks ke cap ar fl;have h2:=Nz H.qk.tozk ks ke cap hr;rw[qzq hk]at h2;have h3:=Wn vw ov ls ks ke cap ar fl H hl hp ks.length 0 qqz;have a1:¬ar<1:=by omega
 have a2:¬65536<ar:=by omega
 simp only[GX]at h3;simp at h3;rw[aN H.f295 rfl];simp[ahw,H.kk,h1,h2,h3,a1,a2]
theorem aaD(H:jg C)(hl:ks.length<=1000)(hF:FnW C 277 [.agg (cCf vw ov ls ks ke cap ar fl)]=some (.int .i64 0))(h3:ks.length=3) :
 FnW C 138 [.agg (cCf vw ov ls ks ke cap ar fl)]=some (.tup [aSt [] true [([],true),([],true),([],true)] true,.int .i64 0]):=by
 rw[aN H.f138 rfl];simp(disch:=omega) [agE,H.kk,hF,h3,aK,List.replicate]
theorem abL(H:jg C)(hr:FnW C 445 [.ro 1 [[.int .i64 0],[.int .i64 1]] true]=some (.int .i64 1))(n:Nat)(hn:n<=100000):FnW C 300 [.ro 1 [[.int .i64 0],[.int .i64 1]] true,.int .i64 n]=some (.int .i64 (if 2<=n then 1 else 0)):=by
 rw[aN H.f300 rfl];by_cases c:2<=n
 ·have c1:¬(n:Int)<=1:=by omega
  have c2:¬n<=1:=by omega
  rw[qzq c];simp(disch:=omega) [adZ,H.kk,hr,aK,c1,c2]
 ·have c1:(n:Int)<=1:=by omega
  have c2:n<=1:=by omega
  rw[qwx c];simp(disch:=omega) [adZ,H.kk,hr,aK,c1,c2]
end
theorem afL(k:Int):∀(l:List Hd) (i:Nat),k∉l.map Hd.k->atF k i l=-1
 |[],_,_=>rfl
 |a::r,i,h=>by rw[qvj,qjj]at h;rw[atF,qwx (λq=>h (.inl q.symm))];exact afL k r (i+1) λq=>h (.inr q)
section
variable (vw ov ls:Int)(ks:List Kd)(ke:Bool)(cap ar fl:Int)(ra:List Hd)(ea:Bool)(ps:List Pl)(pe:Bool)
abbrev hpR:aI:=[(0,.cells 2 [[.ro 8 (ra.map eHd) ea,.ro 1 (ps.map ePl) pe]] true true),(1,.cells 7 [cCf vw ov ls ks ke cap ar fl] true true)]
theorem alD(H:jg C)(hl:ks.length<=255)(i:Nat)(hi:i<ps.length)(hil:i<ks.length)(hv:∀h∈ps[i].1,VH ks cap h/\h.t=i)(hb:ps[i].1.length<=16)(S:CkS ks cap ra ps):∀n j,n+j=ps[i].1.length ->
 Gu C ⟨[(7,.int .i64 j),(6,.int .i64 i),(3,.ptr 0 0 0),(2,.ptr 1 0 0)],hpR vw ov ls ks ke cap ar fl ra ea ps pe,2⟩ =
  yN C ⟨[(6,.int .i64 ((i+1:Nat):Int)),(3,.ptr 0 0 0),(2,.ptr 1 0 0)],hpR vw ov ls ks ke cap ar fl ra ea ps pe,2⟩:=by
 intro n;have hpl:=S.pl;induction n with
 |zero=>
  intro j hj;have h3:¬j<ps[i].1.length:=by omega
  simp only[yN,Gu];rw[au DU.eq_1];simp(disch:=omega) [au QL.eq_1,h3,hi,aK]
 |succ n ih=>
  intro j hj;have h1:j<ps[i].1.length:=by omega
  obtain⟨v1,v2⟩:=hv _ (qxq h1);have hw:=Yr vw ov ls ks ke cap ar fl H ps[i].1[j] v1 i v2 hl;have this:=ih (j+1) qqq;rw[<- this];unfold eHd at hw;rw[Nd.bU]at hw;simp only[Gu];rw[au DU.eq_1];simp(disch:=omega) [H.kk,h1,hi,hw,aK,Nd.bU]
theorem afr(H:jg C)(hl:ks.length<=255)(hpm:∀k∈ks,Gn k)(S:CkS ks cap ra ps):∀n i,n+i=ps.length ->
 yN C ⟨[(6,.int .i64 i),(3,.ptr 0 0 0),(2,.ptr 1 0 0)],hpR vw ov ls ks ke cap ar fl ra ea ps pe,2⟩=some (.int .i64 0):=by
 intro n;have hpl:=S.pl;induction n with
 |zero=>
  intro i hi;have h3:¬i<ps.length:=by omega
  simp only[yN];rw[au Dl.eq_1];simp(disch:=omega) [au Gy.eq_1,h3]
 |succ n ih=>
  intro i hi;have h1:i<ps.length:=by omega
  have h2:i<ks.length:=by omega
  obtain⟨hc,hv⟩:=S.pv i ps[i] (qqj h1);have hm:=hpm _ (qxq h2);have hk:=hc;simp[vk,h2]at hk;have hk2:¬ks[i].pl<(ps[i].1.length:Int):=by omega
  have hq:=ih (i+1) qqq;have hin:=alD vw ov ls ks ke cap ar fl ra ea ps pe H hl i h1 h2 hv (by have:=hm.2;omega) S ps[i].1.length 0 qqz;rw[<- hq,<- hin];simp only[yN,Gu];rw[au Dl.eq_1];simp(disch:=omega) [H.kk,h1,h2,hk2,aK]
theorem aiZ(H:jg C)(hl:ks.length<=255)(S:CkS ks cap ra ps):∀n i,n+i=ra.length ->
 Iq C ⟨[(5,.int .i64 i),(3,.ptr 0 0 0),(2,.ptr 1 0 0)],hpR vw ov ls ks ke cap ar fl ra ea ps pe,2⟩ =
  CK C 0 (aO [.tmp 4]) [] G6 ⟨[(3,.ptr 0 0 0),(2,.ptr 1 0 0)],hpR vw ov ls ks ke cap ar fl ra ea ps pe,2⟩:=by
 intro n;have hrl:=S.rl;induction n with
 |zero=>
  intro i hi;have h3:¬i<ra.length:=by omega
  simp only[Iq];rw[au Ai.eq_1];simp(disch:=omega) [h3]
 |succ n ih=>
  intro i hi;have h1:i<ra.length:=by omega
  have hV:=S.rv _ (qxq h1);obtain⟨t,ht,htl⟩:=hV.t;have hw:=Yr vw ov ls ks ke cap ar fl H ra[i] hV t ht hl;have hno:ra[i].k∉(ra.take i).map Hd.k:=by
   have hn:=S.rn;rw[<- q3j i ra,qWx,qpq]at hn;intro q1;have q2:ra[i].k∈(ra.drop i).map Hd.k:=by rw[drop_cons h1];simp
   exact absurd rfl (hn.2.2 _ q1 _ q2)
  have hat:∀e,FnW C 436 [.ro 8 ((ra.map eHd).take i) e,.int .u64 ra[i].k]=some (.int .i64 (-1)):=by intro e;have h:=aeU H.qo (ra.take i) e ra[i].k (by rw[qbx];omega);rw[afL _ _ 0 hno,q4j]at h;exact h
  have hq:=ih (i+1) qqq;rw[<- hq];unfold eHd at hw;rw[Nd.bU]at hw;simp only[Iq];rw[au Ai.eq_1];have hi2:i<=ra.length:=by omega
  simp only[ht]at hw |-;simp(disch:=omega) [H.kk,h1,hi2,hw,ht,hat,aK,Nd.bU]
theorem ahu(H:jg C)(hF:FnW C 295 [.agg (cCf vw ov ls ks ke cap ar fl)]=some (.int .i64 0))(hl:ks.length<=255)(hpm:∀k∈ks,Gn k)(S:CkS ks cap ra ps) :
 FnW C 294 [.agg (cCf vw ov ls ks ke cap ar fl),aSt ra ea ps pe]=some (.int .i64 0):=by
 have h1:¬1024<(ra.length:Int):=by have:=S.rl;omega
 have h1':¬1024<ra.length:=by have:=S.rl;omega
 have h2:=aiZ vw ov ls ks ke cap ar fl ra ea ps pe H hl S ra.length 0 qqz;have h3:=afr vw ov ls ks ke cap ar fl ra ea ps pe H hl hpm S ps.length 0 qqz;have hpl:=S.pl;have hpl2:(ps.length:Int)=ks.length:=by omega
 simp only[Iq,yN]at h2 h3;rw[au G6.eq_1]at h2;simp at h2 h3;rw[aN H.f294 rfl];simp[ahf,H.kk,hF,h1,h1',hpl,hpl2,h2,h3]
end
section
variable (vw ov ls:Int)(ks:List Kd)(ke:Bool)(cap ar fl:Int)(ra:List Hd)(ea:Bool)(ps:List Pl)(pe:Bool)(l:List En)(e:Bool)
theorem aga(H:jg C)(hchk:FnW C 278 [.agg (cCf vw ov ls ks ke cap ar fl),aSt ra ea ps pe]=some (.int .i64 0))(hlc:FnW C 223 [aR ks ke cap,aL l e]=some (.int .i64 0))(hl:l.length<2) :
 FnW C 139 [.agg (cCf vw ov ls ks ke cap ar fl),aSt ra ea ps pe,aL l e,.ro 1 [[.int .i64 0],[.int .i64 1]] true]=some (.tup [aSt [] true [] true,aCn 0 0 0 0,.int .i64 1]):=by
 have hrules:=sN H.qk vw ov ls ks ke cap ar fl;rw[aN H.qz.f139 rfl];have c:l.length=0\/l.length=1:=by omega
 simp only[aR,aL]at hlc hrules |-;rcases c with c | c
 ·simp(disch:=omega) [XC,H.kk,hchk,hrules,hlc,c,aK,au uJ.eq_1]
 ·simp(disch:=omega) [XC,H.kk,hchk,hrules,hlc,c,aK,au uJ.eq_1]
end
end Go.D
end
section
namespace Go.D
open Go Go.Pav Go.Pw P
set_option maxHeartbeats 2000000
attribute [-simp] List.getElem_cons_drop
variable {C:aJ}
abbrev zZ:AV:=.agg [.int .u64 0,.int .u8 0,.int .u8 0,.str [],.str [],.ro 2 [] true,.str [],.ro 6 [] true,.int .u8 0,.int .u8 0,.int .i64 0,.int .i64 0,.int .i64 0]
abbrev QT:AV:=.ro 1 [[.int .i64 0],[.int .i64 1]] true
theorem ad6(H:jg C)(ra:List Hd)(ps:List Pl)(e1 e2 p1 p2:Bool)(i1:LW ra)(hb:ps.length<=1000000)(i2:∀p∈ps,LW p.1):FnW C 298 [aSt ra e1 ps p1,aSt ra e2 ps p2]=some (.bool true):=by have h:=aeJ H.qh.towV ra ra e1 e2 ps ps p1 p2 i1 hb i2;rw[oP _ _ rfl,nS _ _ rfl]at h;exact h
section
variable (H:jg C)(hl:FnW C 145 []=some (.bool true))(x cf st L:AV)(A0 A1:AV)(lv:Int)
theorem Ui(H:jg C)(hl:FnW C 145 []=some (.bool true))(x1 x2:List (List AV))(x3:Bool)(x4:List (List AV))(x5:Bool)(r:Int)(x6:List (List AV))(x7:Bool)(x8:List (List AV))(x9:Bool)(r2:Int)(x10:List (List AV))(x11:Bool)(ks:List Kd)(b1:Bool)(ra:List (List AV))(ea:Bool)(ps:List (List AV))(pe:Bool)(R1 R2:List (List AV))(g1 g2:Bool)(lv n:Int)
 (h292:FnW C 292 [.agg [.int .u8 0,.str [],.str [],.ro 2 [] true,.str [],.ro 6 [] true],.int .i64 80]=some (.int .i64 1))
 (ha:FnW C 283 [.agg [.ro 4 x1 b1,.ro 1 x4 x5,.int .u8 r,.ro 4 x6 x7,.ro 1 x8 x9,.int .u8 r2,.ro 2 x10 x11]]=some (.tup [.agg (cCf 100 1 1 ks true 12 65536 0),.agg [.ro 8 ra ea,.ro 1 ps pe],.agg [.ro 6 R1 g1,.ro 6 R2 g2]]))
 (h294:FnW C 294 [.agg (cCf 100 1 1 ks true 12 65536 0),.agg [.ro 8 ra ea,.ro 1 ps pe]]=some (.int .i64 0))
 (h138:FnW C 138 [.agg (cCf 100 1 1 ks true 12 65536 0)]=some (.tup [.agg [.ro 8 [] true,.ro 1 [[.ro 8 [] true],[.ro 8 [] true],[.ro 8 [] true]] true],.int .i64 0]))
 (h295:FnW C 295 [.agg (cCf 100 1 1 ks true 12 65536 0)]=some (.int .i64 0))
 (h296:FnW C 296 [.agg (cCf 100 1 1 ks true 12 65536 0)]=some (.agg [.ro 8 [] true,.ro 1 [[.ro 8 [] true],[.ro 8 [] true],[.ro 8 [] true]] false]))
 (h277:FnW C 277 [.agg (cCf 100 1 1 ks true 12 65536 0)]=some (.int .i64 0))
 (h286:FnW C 286 [.agg [.ro 8 [] true,.ro 1 [[.ro 8 [] true],[.ro 8 [] true],[.ro 8 [] true]] true],.agg [.ro 8 [] true,.ro 1 [[.ro 8 [] true],[.ro 8 [] true],[.ro 8 [] true]] false]]=some (.int .i64 1))
 (h278:FnW C 278 [.agg (cCf 100 1 1 ks true 12 65536 0),.agg [.ro 8 ra ea,.ro 1 ps pe]]=some (.int .i64 0))
 (h289:FnW C 289 [.agg [.ro 8 ra ea,.ro 1 ps pe]]=some (.int .i64 lv)) (h297:FnW C 297 [.agg [.ro 8 ra ea,.ro 1 ps pe]]=some (.int .i64 lv))
 (h298:FnW C 298 [.agg [.ro 8 ra ea,.ro 1 ps pe],.agg [.ro 8 ra ea,.ro 1 ps pe]]=some (.bool true))
 (h290:FnW C 290 [.agg (cCf 100 1 1 ks true 12 65536 0),.agg [.ro 8 ra ea,.ro 1 ps pe],.int .i64 (-1)]=some (.tup [.agg [.ro 8 [] true,.ro 1 [] true],.int .i64 0,.int .i64 4]))
 (h299:FnW C 299 [.agg (cCf 100 1 1 ks true 12 65536 0)]=some (aR ks true 12)) (h235:FnW C 235 [aR ks true 12,.ro 6 R1 g1]=some (.int .i64 0))
 (h300:FnW C 300 [QT,.int .i64 R1.length]=some (.int .i64 n))
 (y1:List (List AV)) (y2:Bool) (y3:List (List AV)) (y4:Bool) (k1 k2 k3 k4 er:Int)
 (h139:FnW C 139 [.agg (cCf 100 1 1 ks true 12 65536 0),.agg [.ro 8 ra ea,.ro 1 ps pe],.agg [.ro 6 R1 g1],QT]=some (.tup [.agg [.ro 8 y1 y2,.ro 1 y3 y4],.agg [.int .i64 k1,.int .i64 k2,.int .i64 k3,.int .i64 k4],.int .i64 er]))
 (hc:(n=1/\er=0/\∃s c,FnW C 285 [.agg (cCf 100 1 1 ks true 12 65536 0),.agg [.ro 8 ra ea,.ro 1 ps pe],.ro 6 R1 g1,QT]=some (.tup [.agg s,.agg c,.int .i64 0]))\/(n=0/\er=1/\FnW C 286 [.agg [.ro 8 y1 y2,.ro 1 y3 y4],.agg [.ro 8 [] true,.ro 1 [] true]]=some (.int .i64 1))) :
 FnW C 144 [.agg [.ro 4 x1 b1,.ro 1 x4 x5,.int .u8 r,.ro 4 x6 x7,.ro 1 x8 x9,.int .u8 r2,.ro 2 x10 x11],zZ,QT]=some (.bool true):=by
 rw[aN H.f144 rfl];simp only[aR]at h299 h235;rcases hc with⟨rfl,rfl,s,c,h285⟩|⟨rfl,rfl,h286b⟩
 ·simp(disch:=omega) [abH,H.kk,h292,ha,h294,h138,h295,h296,h277,h286,h278,h289,h297,h298,h290,h139,h299,h235,h300,h285,hl,aK]
 ·simp(disch:=omega) [abH,H.kk,h292,ha,h294,h138,h295,h296,h277,h286,h278,h289,h297,h298,h290,h139,h299,h235,h300,h286b,hl,aK]
end
theorem amw(H:jg C)(hl:FnW C 145 []=some (.bool true))(h292:FnW C 292 [.agg [.int .u8 0,.str [],.str [],.ro 2 [] true,.str [],.ro 6 [] true],.int .i64 80]=some (.int .i64 1))(h445:FnW C 445 [QT]=some (.int .i64 1))
 (q1 q2:List Q4) (e1 e2:Bool) (z1 z2:List Int) (f1 f2:Bool) (r r2:Int) (hr:0<=r/\r<=255) (w:List (Int×Int)) (we:Bool)
 {ra:List Hd}{ea:Bool}{ps:List Pl}{pe:Bool}(S:Gi 96 ra ps) (K:CkS (ay r) 12 ra ps) (R1 R2:List En) (g1 g2:Bool) (L1:LG r R1) (G1:∀x∈R1,fM (ay r) x) (N1:(bQ R1).Nodup)
 (ha:FnW C 283 [.agg [.ro 4 (q1.map eQ) e1,.ro 1 (z1.map eU8) f1,.int .u8 r,.ro 4 (q2.map eQ) e2,.ro 1 (z2.map eU8) f2,.int .u8 r2,.ro 2 (w.map eW) we]]=some (.tup [.agg (cCf 100 1 1 (ay r) true 12 65536 0),aSt ra ea ps pe,.agg [.ro 6 (R1.map eEn) g1,.ro 6 (R2.map eEn) g2]])) :
 FnW C 144 [.agg [.ro 4 (q1.map eQ) e1,.ro 1 (z1.map eU8) f1,.int .u8 r,.ro 4 (q2.map eQ) e2,.ro 1 (z2.map eU8) f2,.int .u8 r2,.ro 2 (w.map eW) we],zZ,QT]=some (.bool true):=by
 have hF:=DZ H.qk 100 1 1 (ay r) true 12 65536 0 (pq r) (Nb r hr) (by rw[show(ay r).length=3 from rfl];omega) (vG r) qqq;have hF2:=acp 100 1 1 (ay r) true 12 65536 0 H (pq r) (Nb r hr) (by rw[show(ay r).length=3 from rfl];omega) (vG r) qqq;have hC:=o9 100 1 1 (ay r) true 12 65536 0 H.qk hF (by rw[show(ay r).length=3 from rfl];omega) (vG r) ra ea ps pe K;have hC2:=ahu 100 1 1 (ay r) true 12 65536 0 ra ea ps pe H hF2 (by rw[show(ay r).length=3 from rfl];omega) (vG r) K;have hE:=aaD 100 1 1 (ay r) true 12 65536 0 H (by rw[show(ay r).length=3 from rfl];omega) hF rfl;have hE2:FnW C 296 [.agg (cCf 100 1 1 (ay r) true 12 65536 0)]=some (aSt [] true [([],true),([],true),([],true)] false):=Nl H.qh 100 1 1 _ _ _ true 12 65536 0;have hS0:=iY H.qo [] [] true true [([],true),([],true),([],true)] [([],true),([],true),([],true)] true false ⟨by simp,by simp⟩ qqz (by intro p hp;simp only[qjj,qfz,q5x]at hp;rcases hp with rfl | rfl | rfl<;>exact⟨by simp,by simp⟩);rw[qzq (by rfl)]at hS0;obtain⟨i1,i2,i3,i4⟩:=rY K (λp hp=>by have:=S.pb p hp;omega);have hpl:=S.pl;have hrl:=S.rl;have hLp:=Jr (ra:=ra) (ea:=ea) (ps:=ps) (pe:=pe) H.qh.towV qqq (λp hp=>by have:=S.pb p hp;omega) qqq;have hLr:=Na H.qo ra ea ps pe qqq (λp hp=>by have:=S.pb p hp;omega) qqq;have hSS:=ad6 H ra ps ea ea pe pe i1 qqq i2;have hT:=NG H.qz.toMO.toajy.toYz 100 1 1 (ay r) true 12 65536 0 ra ea ps pe hC (-1) (.inl qqq);have hRu:=EO H.qh.toYu 100 1 1 (ay r) true 12 65536 0;have hlc:=yj H.qk.tozk (ay r) true 12 (pq r) R1 g1 (by have:=L1.hl;omega) L1.en;have hlr:=WA H.qk.tozk (ay r) true 12 (pq r) R1 g1 (by have:=L1.hl;omega) L1.en;rw[L1.ck]at hlc hlr;have hI:=abL H h445 R1.length (by have:=L1.hl;omega);by_cases c:2<=R1.length
 ·rw[qzq c]at hI;obtain⟨lv,v0,v1,h2⟩:=Jy H.qz L1 G1 N1 g1 (B:=96) qqq S K ea pe [0,1] true qqz (λa ha=>by simp at ha;omega) qqz (λi h=>by
   have:i=0:=by simp at h;omega
   subst this;simp)
  obtain⟨s1,s2,x1,x2,p1,p2,y1,y2,rb,mk,d,t1,t2,_⟩:=h2 65536 qqq qqq;rw[qwx qqq,qwx qqq]at t1 t2;refine Ui H hl _ [] true _ _ r _ _ _ _ r2 _ _ (ay r) _ _ _ _ _ _ _ _ _ (live (ra::ps.map (·.1))) 1 h292 ha hC2 hE hF2 hE2 hF hS0 hC hLp hLr hSS hT hRu hlr (by simpa using hI) _ _ _ _ _ _ _ _ _ t2 (.inl ⟨rfl,rfl,_,_,t1⟩)
 ·rw[qwx c]at hI;have t2:=aga 100 1 1 (ay r) true 12 65536 0 ra ea ps pe R1 g1 H hC hlc qqq;have t3:=iY H.qo [] [] true true [] [] true true ⟨by simp,by simp⟩ qqz qqz;rw[qzq (by rfl)]at t3;refine Ui H hl _ [] true _ _ r _ _ _ _ r2 _ _ (ay r) _ _ _ _ _ _ _ _ _ (live (ra::ps.map (·.1))) 0 h292 ha hC2 hE hF2 hE2 hF hS0 hC hLp hLr hSS hT hRu hlr (by simpa using hI) _ _ _ _ _ _ _ _ _ t2 (.inr ⟨rfl,rfl,t3⟩)
end Go.D
end
section
namespace Go.Pw
open Go Go.Pav
abbrev Orc:=Nat->List AV->Option AV
def Fj(orc:Orc)(run:tK):tK:=λf args h n =>
 match h,n with
 |[],0=>(match orc f args with
  |some v=>some (v,[],0)
  |none=>run f args [] 0)
 |h,n=>run f args h n
structure wS(C:aJ)(orc:Orc):Prop where
 inl:∀f vs v,orc f vs=some v->C.inl f=false
 ptr:∀f vs v,orc f vs=some v->bW vs=false
 val:∀f vs v,orc f vs=some v->FnW C f vs=some v
 frz:∀f vs v,orc f vs=some v->bD [] aC v=some v
section
variable (C:aJ)(orc:Orc)
def evO:Nat->WEv
 |0,_,_,_=>none
 |n+1,base,c,s=>
  match c with
  |.skip=>some (.norm,s)
  |.ops l a=>ob (gY C (Fj orc (dR C (evO n))) l s) λs=>om (pX base a s) λs=>(.norm,s)
  |.draw l un a=>ob (eU C (Fj orc (dR C (evO n))) l s.next ⟨s.env,s.heap,s.next+l.length⟩ []) (sZ base un a)
  |.seq a b=>ob (evO n base a s) (eP (evO n base b))
  |.cond c a b=>rH (evO n base a) (evO n base b) (c.ev s.env) s
  |.block id b a=>ob (evO n base b s) (jC base id a)
  |.loop a b=>ob (canon base a s) λs=>ob (evO n base b s) (eP (evO n base (.loop a b)))
  |.exit id=>some (.exit id,s)
  |.ret=>some (.ret,s)
  |.fail=>none
  |.zx k=>om (vJ k (dK (sK k) 0 s.env)) λv=>(.ret,⟨vP s.env 9 v,s.heap,s.next⟩)
  |.cln zz z b=>match (Pav.get s.env 0).bind jG with
   |some z'=>if z'=z/\zz.length=z/\8<=n then some (.ret,⟨[(2,.sl s.next z 0 0 0 true)],Pav.put s.heap s.next (.cells z [] true true),s.next+1⟩)else none
   |none=>evO n base (Tq zz z b) s
def akf(n:Nat)(f:Nat)(args:List AV):Option AV:=fB (dR C (evO C orc n)) f args
end
section
variable {C:aJ}{orc:Orc}{r r':tK}
def EU(C:aJ)(r r':tK):Prop:=∀f args h nid n c,iq C r f args h nid n=some c->iq C r' f args h nid n=some c
theorem aaJ(hr:EU C r r'){op:COp}{nid:Nat}{e:Env}{h:aI}{n:Nat}{d:jH}(hd:iQ C r op nid e h n=some d):iQ C r' op nid e h n=some d:=by
 unfold iQ at hd |-;split
 ·rename_i hc;rw[hc]at hd;cases hd
 ·rename_i hc;rw[hc]at hd;exact lg hd λc hc=>hr _ _ _ _ _ _ hc
 ·rename_i hc;rw[hc]at hd;exact hd
theorem SQ(hr:EU C r r'){o:bn}{nid:Nat}{e:Env}{h:aI}{n:Nat}{d:jH}(hd:fV C r o nid e h n=some d):fV C r' o nid e h n=some d:=by
 unfold fV at hd |-;split
 ·rename_i hc;rw[hc]at hd;cases hd
 ·rename_i hc;rw[hc]at hd;exact hd
 ·rename_i hc;rw[hc]at hd;exact aaJ hr hd
theorem ZB(hr:EU C r r'):∀(l:List bn) (s s':WSt),gY C r l s=some s'->gY C r' l s=some s':=by
 intro l;induction l with
 |nil=>intro s s' h;exact h
 |cons o l ih=>intro s s' h;exact bP h (λd hd=>SQ hr hd) λd hd=>ih _ _ hd
theorem WH(hr:EU C r r'):∀(l:List bn) (nid:Nat) (s:WSt) (ds:List jH) (x:WSt×List jH),eU C r l nid s ds=some x->eU C r' l nid s ds=some x:=by
 intro l;induction l with
 |nil=>intro nid s ds x h;exact h
 |cons o l ih=>intro nid s ds x h;exact bP h (λd hd=>SQ hr hd) λd hd=>ih _ _ _ _ hd
theorem nN{f:Nat}{args:List AV}{h:aI}{n:Nat}{x:AV×aI×Nat}(hx:Fj orc r f args h n=some x):r f args h n=some x\/(∃v,orc f args=some v/\h=[]/\n=0/\x=(v,[],0)):=by
 unfold Fj at hx;split at hx
 ·split at hx
  ·rename_i v hv;exact .inr ⟨v,hv,rfl,rfl,(qkq hx).symm⟩
  ·exact .inl hx
 ·exact .inl hx
theorem am5(ok:wS C orc)(hr:rQ r (RnW C)):EU C (Fj orc r) (RnW C):=by
 intro f args h nid n c hc;unfold iq at hc |-;split
 ·rename_i hi;rw[qzq hi]at hc;split
  ·rename_i hf;rw[qzq hf]at hc;obtain⟨az,h1,hc⟩:=aA hc;by_cases hdp:rZ f=true
   ·rw[qzq hdp]at hc;obtain⟨x,h3,hc⟩:=aA hc;rw[h1];rcases nN h3 with h3|⟨v,hv,_⟩
    ·simp only[ob,qzq hdp];rw[hr _ _ _ _ _ h3];exact hc
    ·rw[ok.inl _ _ _ hv]at hi;cases hi
   rw[qwx hdp]at hc;obtain⟨x,h2,hend⟩:=aA hc;obtain⟨y,h3,h4⟩:=aA h2;rw[h1];rcases nN h3 with h3|⟨v,hv,_⟩
   ·simp only[ob,qwx hdp];unfold dQ;rw[hr _ _ _ _ _ h3];simp only[ob];rw[h4];exact hend
   ·rw[ok.inl _ _ _ hv]at hi;cases hi
  ·rename_i hf;rw[qwx hf]at hc;obtain⟨x,h1,rfl⟩:=aH hc;rcases nN h1 with h1|⟨v,hv,_⟩
   ·rw[hr _ _ _ _ _ h1];rfl
   ·rw[ok.inl _ _ _ hv]at hi;cases hi
 ·rename_i hi;rw[qwx hi]at hc;split
  ·rename_i hp;rw[qzq hp]at hc;obtain⟨x,h1,rfl⟩:=aH hc;rcases nN h1 with h1|⟨v,hv,_⟩
   ·rw[hr _ _ _ _ _ h1];rfl
   ·rw[ok.ptr _ _ _ hv]at hp;simp at hp
  ·rename_i hp;rw[qwx hp]at hc;obtain⟨vs,h1,hc⟩:=aA hc;obtain⟨v,h2,rfl⟩:=aH hc;rw[h1];have h3:fB (RnW C) f vs=some v:=by
    obtain⟨x,h4,h5⟩:=aA h2;rcases nN h4 with h4|⟨w,hw,_,_,rfl⟩
    ·unfold fB;rw[hr _ _ _ _ _ h4];exact h5
    ·simp only at h5;rw[ok.frz _ _ _ hw]at h5;rw[<- h5];exact ok.val _ _ _ hw
   simp only[ob,h3];rfl
theorem JY(ok:wS C orc):∀(n:Nat) (base:Nat) (c:aB) (s:WSt) (x:Ex×WSt),evO C orc n base c s=some x->CdW C base c s=some x:=by
 intro n;induction n with
 |zero=>intro base c s x h;simp only[evO]at h;cases h
 |succ n ih=>
  intro base c s x h;have hr:EU C (Fj orc (dR C (evO C orc n))) (RnW C):=am5 ok (jW ih);cases c with
  |skip=>rw[Zf];exact h
  |exit id=>rw[Zc];exact h
  |ret=>rw[abM];exact h
  |fail=>simp only[evO]at h;cases h
  |zx k=>rw[Ya];exact h
  |cln zz z b=>
   rw[Xf];simp only[evO]at h;split
   ·rename_i z' hz;rw[hz]at h;simp only at h;split at h
    ·rename_i hc;rw[qzq ⟨hc.1,hc.2.1⟩];exact h
    ·cases h
   ·rename_i hz;rw[hz]at h;exact ih _ _ _ _ h
  |ops l a=>rw[afQ];simp only[evO]at h;exact bP h (λs' hs=>ZB hr l s s' hs) λx hx=>hx
  |draw l un a=>rw[Zh];simp only[evO]at h;exact bP h (λx hx=>WH hr l _ _ _ x hx) λx hx=>hx
  |seq a b=>rw[rP];simp only[evO]at h;exact bP h (λx hx=>ih _ _ _ _ hx) λx hx=>kT (λs x hx=>ih _ _ _ _ hx) hx
  |cond c a b=>
   rw[YC];simp only[evO]at h;unfold rH at h |-;split
   ·rename_i t hv;rw[hv]at h;cases t with
    |true=>exact ih _ _ _ _ h
    |false=>exact ih _ _ _ _ h
   ·split at h
    ·rename_i h1 _ t hv;exact absurd hv (h1 t)
    ·cases h
  |block id b a=>rw[Jj];simp only[evO]at h;exact bP h (λx hx=>ih _ _ _ _ hx) λx hx=>hx
  |loop a b=>rw[Ik];simp only[evO]at h;exact bP h (λx hx=>hx) λs hs=>bP hs (λx hx=>ih _ _ _ _ hx) λx hx=>kT (λs x hx=>ih _ _ _ _ hx) hx
theorem nT(ok:wS C orc){n f:Nat}{args:List AV}{v:AV}(h:akf C orc n f args=some v):FnW C f args=some v:=by unfold akf fB at h;obtain⟨x,h1,h2⟩:=aA h;unfold FnW fB;have h3:RnW C f args [] 0=some x:=jW (JY ok n) _ _ _ _ _ h1;rw[h3];exact h2
end
def sqA:aB->aB
 |.seq a _=>a
 |c=>c
def sqB:aB->aB
 |.seq _ b=>b
 |c=>c
def norm? (r:Ex×WSt):Option WSt:=match r.1 with
 |.norm=>some r.2
 |_=>none
theorem EH{r:Ex×WSt}{s:WSt}(h:norm? r=some s):r=(.norm,s):=by obtain⟨e,t⟩:=r;cases e<;>simp only[norm?]at h<;>cases h;rfl
def out? (r:Ex×WSt):Option (Ex×WSt):=match r.1 with
 |.norm=>none
 |_=>some r
theorem adr{r x:Ex×WSt}(h:out? r=some x):r=x/\r.1≠.norm:=by obtain⟨e,t⟩:=r;cases e<;>simp only[out?]at h<;>cases h<;>exact⟨rfl,by simp⟩
def II(p:Nat->List AV->Bool):Orc:=λf vs=>bif p f vs then some (.bool true)else none
theorem Xo{C:aJ}{p:Nat->List AV->Bool}(h:∀f vs,p f vs=true->C.inl f=false/\bW vs=false/\FnW C f vs=some (.bool true)):wS C (II p):=by
 have k:∀f vs v,II p f vs=some v->p f vs=true/\v=.bool true:=by
  intro f vs v hv;unfold II at hv;cases c:p f vs
  ·rw[c]at hv;cases hv
  ·rw[c]at hv;cases hv;exact⟨rfl,rfl⟩
 exact⟨λf vs v hv=>(h f vs (k f vs v hv).1).1,λf vs v hv=>(h f vs (k f vs v hv).1).2.1, λf vs v hv=>by rw[(k f vs v hv).2];exact(h f vs (k f vs v hv).1).2.2,λf vs v hv=>by rw[(k f vs v hv).2];rfl⟩
section
variable (C:aJ)(orc:Orc)(N base:Nat)
def y7:List aB->WSt->Option WSt
 |[],s=>some s
 |c::r,s=>ob (evO C orc N base c s) λx=>ob (norm? x) (y7 r)
def ajD(a:Ann)(b:aB)(s:WSt):Option WSt:=ob (evO C orc N base b s) λr=>ob (norm? r) λs=>canon base a s
def lM(a:Ann)(b:aB):Nat->WSt->Option WSt
 |0,s=>some s
 |n+1,s=>ob (ajD C orc N base a b s) (lM a b n)
def ao9(b:aB)(s:WSt):Option (Ex×WSt):=ob (evO C orc N base b s) out?
def EP(id:Nat)(al:Ann)(b:aB)(s:WSt):Option WSt:=ob (ao9 C orc N base b s) λr=>ob (jC base id al r) norm?
end
section
variable {C:aJ}{orc:Orc}{N base:Nat}
theorem Dt(ok:wS C orc):∀(cs:List aB) (s s':WSt) (c:aB),y7 C orc N base cs s=some s'->CdW C base (cs.foldr .seq c) s=CdW C base c s':=by
 intro cs;induction cs with
 |nil=>intro s s' c h;cases h;rfl
 |cons a r ih=>intro s s' c h;simp only[y7]at h;obtain⟨x,h1,h⟩:=aA h;obtain⟨t,h2,h⟩:=aA h;obtain rfl:=EH h2;rw[List.foldr_cons,rP,JY ok _ _ _ _ _ h1];exact ih t s' c h
theorem aao(a:Ann)(b:aB):∀(m n:Nat) (s t u:WSt),lM C orc N base a b m s=some t->lM C orc N base a b n t=some u->lM C orc N base a b (m+n) s=some u:=by
 intro m;induction m with
 |zero=>intro n s t u h1 h2;cases h1;rw[qXj];exact h2
 |succ m ih=>intro n s t u h1 h2;rw[Nat.succ_add];simp only[lM]at h1 |-;obtain⟨x,h3,h4⟩:=aA h1;rw[h3];exact ih n x t u h4 h2
theorem agy(ok:wS C orc)(a:Ann)(b:aB):∀(n:Nat) (s t:WSt) (r:Ex×WSt),lM C orc N base a b n s=some t->ao9 C orc N base b t=some r->∀s0,canon base a s0=some s->CdW C base (.loop a b) s0=some r:=by
 intro n;induction n with
 |zero=>
  intro s t r h1 h2 s0 hc;cases h1;obtain⟨x,h3,h4⟩:=aA h2;obtain⟨rfl,h5⟩:=adr h4;rw[Ik,hc];simp only[ob];rw[JY ok _ _ _ _ _ h3];obtain⟨e,w⟩:=x;cases e with
  |norm=>exact absurd rfl h5
  |exit id=>rfl
  |ret=>rfl
 |succ n ih=>intro s t r h1 h2 s0 hc;simp only[lM,ajD]at h1;obtain⟨y,h3,h6⟩:=aA h1;obtain⟨x,h4,h5⟩:=aA h3;obtain⟨w,h7,h8⟩:=aA h5;obtain rfl:=EH h7;rw[Ik,hc];simp only[ob];rw[JY ok _ _ _ _ _ h4];exact ih y t r h6 h2 w h8
theorem aeo(ok:wS C orc)(a:Ann)(b:aB)(id:Nat)(al:Ann){n:Nat}{s0 s t u:WSt}(hc:canon base a s0=some s)(h1:lM C orc N base a b n s=some t)(h2:EP C orc N base id al b t=some u)(c:aB) :
 CdW C base (.seq (.block id (.loop a b) al) c) s0=CdW C base c u:=by
 obtain⟨r,h3,h4⟩:=aA h2;obtain⟨x,h5,h6⟩:=aA h4;obtain rfl:=EH h6;rw[rP,Jj,agy ok a b n s t r h1 h3 s0 hc];simp only[ob];rw[h5];rfl
theorem afA(a b c:aB)(s:WSt):CdW C base (.seq (.seq a b) c) s=CdW C base (.seq a (.seq b c)) s:=by
 rw[rP,rP,rP];cases CdW C base a s with
 |none=>rfl
 |some x=>
  obtain⟨e,t⟩:=x;cases e with
  |norm=>simp only[ob,eP];rw[rP];rfl
  |exit id=>rfl
  |ret=>rfl
theorem ape{f:Nat}{w:WFn}(hf:C.fns.get f=some w)(hn:w.np=0){r:Ex×WSt}(hb:CdW C 0 w.body ⟨[],[],0⟩=some r){v:AV}(hv:(ob (gX w.res r) λr=>bD r.2.1 aC r.1)=some v):FnW C f []=some v:=by unfold FnW fB RnW dR;rw[hf];simp only[ob];rw[qzq (show([]:List AV).length=w.np from hn.symm)];have ha:(⟨Fh 0 [] [],[],0⟩:WSt)=⟨[],[],0⟩:=rfl;rw[ha,hb];exact hv
theorem amY(b d c:aB):∀(cs:List aB) (s:WSt),CdW C base (cs.foldr .seq (.seq (.seq b d) c)) s=CdW C base ((cs++[b]).foldr .seq (.seq d c)) s:=by
 intro cs;induction cs with
 |nil=>intro s;exact afA b d c s
 |cons a r ih=>intro s;rw[qmx,List.foldr_cons,List.foldr_cons,rP,rP,funext ih]
theorem YZ(ok:wS C orc)(cs:List aB)(b:aB)(a:Ann)(lb:aB)(id:Nat)(al:Ann){n:Nat}{s0 s t u:WSt}
 (h0:(ob (y7 C orc N base (cs++[b]) s0) (canon base a))=some s) (h1:lM C orc N base a lb n s=some t) (h2:EP C orc N base id al lb t=some u) (c:aB) :
 CdW C base (cs.foldr .seq (.seq (.seq b (.block id (.loop a lb) al)) c)) s0=CdW C base c u:=by
 obtain⟨s1,h3,h4⟩:=aA h0;rw[amY,Dt ok _ _ _ _ h3];exact aeo ok a lb id al h4 h1 h2 c
theorem TP(a:Ann)(b:aB)(k:Nat)(st:Nat->WSt):∀m,(∀i,i<m->lM C orc N base a b k (st (i*k))=some (st (i*k+k)))->lM C orc N base a b (m*k) (st 0)=some (st (m*k)):=by
 intro m;induction m with
 |zero=>intro _;rw[qrz];rfl
 |succ m ih=>intro h;rw[Nat.succ_mul];exact aao a b _ _ _ _ _ (ih λi hi=>h i qqq) (h m qqq)
end
end Go.Pw
end
section
namespace Go.D
open Go Go.Pav Go.Pw P
variable {C:aJ}
def q4H:List (List AV)->Bool
 |[]=>true
 |[.int .u8 a,.int .u8 b,.int .u8 c,.int .u8 d]::r=>(decide (0<=a)&&decide (a<=255))&&((decide (0<=b)&&decide (b<=255))&&((decide (0<=c)&&decide (c<=255))&&((decide (0<=d)&&decide (d<=255))&&q4H r)))
 |_=>false
theorem abK:∀l,q4H l=true->∃xs:List Q4,l=xs.map eQ/\∀x∈xs,QIn x:=by
 intro l;induction l with
 |nil=>intro _;exact⟨[],rfl,by simp⟩
 |cons a r ih=>
  intro h;unfold q4H at h;split at h
  ·rename_i heq;cases heq
  ·rename_i heq;cases heq;simp only[qwz,qkj]at h;obtain⟨h1,h2,h3,h4,h5⟩:=h;obtain⟨xs,rfl,hx⟩:=ih h5;refine⟨⟨_,_,_,_⟩::xs,rfl,?_⟩;intro x hxm;rcases qjj.1 hxm with rfl | hxm
   ·exact⟨h1,h2,h3,h4⟩
   ·exact hx x hxm
  ·cases h
def u8H:List (List AV)->Bool
 |[]=>true
 |[.int .u8 a]::r=>(decide (0<=a)&&decide (a<=255))&&u8H r
 |_=>false
theorem adT:∀l,u8H l=true->∃xs:List Int,l=xs.map eU8/\∀x∈xs,0<=x/\x<=255:=by
 intro l;induction l with
 |nil=>intro _;exact⟨[],rfl,by simp⟩
 |cons a r ih=>
  intro h;unfold u8H at h;split at h
  ·rename_i heq;cases heq
  ·rename_i heq;cases heq;simp only[qwz,qkj]at h;obtain⟨h1,h5⟩:=h;obtain⟨xs,rfl,hx⟩:=ih h5;refine⟨_::xs,rfl,?_⟩;intro x hxm;rcases qjj.1 hxm with rfl | hxm
   ·exact h1
   ·exact hx x hxm
  ·cases h
def w2H:List (List AV)->Bool
 |[]=>true
 |[.int .u16 a,.int .u16 b]::r=>(decide (0<=a)&&(decide (0<=b)&&decide (b<=65535)))&&w2H r
 |_=>false
theorem akO:∀l,w2H l=true->∃xs:List (Int×Int),l=xs.map eW/\∀p∈xs,0<=p.1/\∃x:Nat,p.2=x/\x<=65535:=by
 intro l;induction l with
 |nil=>intro _;exact⟨[],rfl,by simp⟩
 |cons a r ih=>
  intro h;unfold w2H at h;split at h
  ·rename_i heq;cases heq
  ·rename_i u v _ heq;cases heq;simp only[qwz,qkj]at h;obtain⟨⟨h1,h2,h3⟩,h5⟩:=h;obtain⟨xs,rfl,hx⟩:=ih h5;refine⟨(u,v)::xs,rfl,?_⟩;intro x hxm;rcases qjj.1 hxm with rfl | hxm
   ·exact⟨h1,v.toNat,by simp only;omega,by omega⟩
   ·exact hx x hxm
  ·cases h
def hB:AV->Bool
 |.agg [.ro 4 q1 _,.ro 1 z1 _,.int .u8 r,.ro 4 q2 _,.ro 1 z2 _,.int .u8 _,.ro 2 w _]=>q4H q1&&(q4H q2&&(u8H z1&&(u8H z2&&(w2H w&&((decide (z1.length<=100)&&decide (z2.length<=100))&&(decide (0<=r)&&decide (r<=255)))))))
 |_=>false
abbrev hV(q1:List Q4)(e1:Bool)(z1:List Int)(f1:Bool)(r:Int)(q2:List Q4)(e2:Bool)(z2:List Int)(f2:Bool)(r2:Int)(w:List (Int×Int))(we:Bool):AV:=.agg [.ro 4 (q1.map eQ) e1,.ro 1 (z1.map eU8) f1,.int .u8 r,.ro 4 (q2.map eQ) e2,.ro 1 (z2.map eU8) f2,.int .u8 r2,.ro 2 (w.map eW) we]
theorem YI{v:AV}(h:hB v=true):∃q1 e1 z1 f1 r q2 e2 z2 f2 r2 w we,v=hV q1 e1 z1 f1 r q2 e2 z2 f2 r2 w we/\(∀x∈q1,QIn x)/\(∀x∈q2,QIn x)/\(∀s∈z1,0<=s/\s<=255)/\(∀s∈z2,0<=s/\s<=255)/\z1.length<=100/\z2.length<=100/\(0<=r/\r<=255)/\∀p∈w,0<=p.1/\∃x:Nat,p.2=x/\x<=65535:=by
 unfold hB at h;split at h
 ·simp only[qwz,qkj]at h;obtain⟨h1,h2,h3,h4,h5,⟨h6,h7⟩,h8⟩:=h;obtain⟨q1,rfl,hq1⟩:=abK _ h1;obtain⟨q2,rfl,hq2⟩:=abK _ h2;obtain⟨z1,rfl,hz1⟩:=adT _ h3;obtain⟨z2,rfl,hz2⟩:=adT _ h4;obtain⟨w,rfl,hw⟩:=akO _ h5;rw[qQj]at h6 h7;exact⟨q1,_,z1,_,_,q2,_,z2,_,_,w,_,rfl,hq1,hq2,hz1,hz2,h6,h7,h8,hw⟩
 ·cases h
def uB:AV->Bool
 |.agg [.int .u16 a,.int .u16 b]=>decide (0<=a)&&(decide (0<=b)&&decide (b<=65535))
 |_=>false
theorem ajZ{v:AV}(h:uB v=true):∃a b:Nat,v=.agg [.int .u16 a,.int .u16 b]/\b<=65535:=by
 unfold uB at h;split at h
 ·rename_i a b;simp only[qwz,qkj]at h;exact⟨a.toNat,b.toNat,by rw[Int.toNat_of_nonneg h.1,Int.toNat_of_nonneg h.2.1],by omega⟩
 ·cases h
def iB:AV->Bool
 |.agg [.int .i64 _,.int .i64 _]=>true
 |_=>false
theorem aoi{v:AV}(h:iB v=true):∃a b:Int,v=.agg [.int .i64 a,.int .i64 b]:=by
 unfold iB at h;split at h
 ·exact⟨_,_,rfl⟩
 ·cases h
def yB:AV->Bool
 |.int .i8 y=>decide (-128<=y)&&decide (y<=127)
 |_=>false
theorem an8{v:AV}(h:yB v=true):∃y:Int,v=.int .i8 y/\-128<=y/\y<=127:=by
 unfold yB at h;split at h
 ·simp only[qwz,qkj]at h;exact⟨_,rfl,h⟩
 ·cases h
def z0B:AV->Bool
 |.agg [.int .u64 a,.int .u8 b,.int .u8 c,.str [],.str [],.ro 2 [] true,.str [],.ro 6 [] true,.int .u8 d,.int .u8 e,.int .i64 f,.int .i64 g,.int .i64 i]=>(decide (a=0)&&(decide (b=0)&&(decide (c=0)&&decide (d=0))))&&(decide (e=0)&&(decide (f=0)&&(decide (g=0)&&decide (i=0))))
 |_=>false
theorem alN{v:AV}(h:z0B v=true):v=zZ:=by
 unfold z0B at h;split at h
 ·simp only[qwz,qkj]at h;obtain⟨⟨rfl,rfl,rfl,rfl⟩,rfl,rfl,rfl,rfl⟩:=h;rfl
 ·cases h
def atB:AV->Bool
 |.ro 1 [[.int .i64 a],[.int .i64 b]] true=>decide (a=0)&&decide (b=1)
 |_=>false
theorem amR{v:AV}(h:atB v=true):v=QT:=by
 unfold atB at h;split at h
 ·simp only[qwz,qkj]at h;obtain⟨rfl,rfl⟩:=h;rfl
 ·cases h
def sB(f:Nat):AV->Bool
 |.str s=>bif decide (s=[114,111,119])then Nat.beq f 517||Nat.beq f 581 else decide (s=[120])&&(Nat.beq f 516||Nat.beq f 579)
 |.ro 3 [] true=>Nat.beq f 585
 |_=>false
def pH(f:Nat)(vs:List AV):Bool :=
 match vs with
 |[]=>Nat.beq f 145
 |[x]=>sB f x
 |[x,b]=>bif Nat.beq f 141 then hB x&&uB b else bif Nat.beq f 142 then hB x&&iB b else false
 |[x,b,c]=>bif Nat.beq f 143 then hB x&&(uB b&&yB c)else bif Nat.beq f 144 then hB x&&(z0B b&&atB c)else false
 |_=>false
abbrev zf:Orc:=II pH
theorem ao7(H:jg C)(hone:∀q:Q4,QIn q->∃i:It,FnW C 422 [.agg (eQ q)]=some (eIt i)/\Good i)(hl:FnW C 145 []=some (.bool true))
 (h292:FnW C 292 [.agg [.int .u8 0,.str [],.str [],.ro 2 [] true,.str [],.ro 6 [] true],.int .i64 80]=some (.int .i64 1)) (h445:FnW C 445 [QT]=some (.int .i64 1))
 (h517:FnW C 517 [.str [114,111,119]]=some (.bool true)) (h516:FnW C 516 [.str [120]]=some (.bool true)) (h581:FnW C 581 [.str [114,111,119]]=some (.bool true)) (h579:FnW C 579 [.str [120]]=some (.bool true)) (h585:FnW C 585 [.ro 3 [] true]=some (.bool true)):wS C zf:=by
 refine Xo λf vs h=>?_;unfold pH at h;split at h
 ·obtain rfl:=qcx h;exact⟨by rw[H.toJA.inl];decide,rfl,hl⟩
 ·unfold sB at h;split at h
  ·rename_i s;cases c1:decide (s=[114,111,119])
   ·rw[c1]at h;simp only[cond_false,qwz,qkj,qlq]at h;obtain⟨rfl,h⟩:=h;rcases h with h | h<;>obtain rfl:=qcx h
    ·exact⟨by rw[H.toJA.inl];decide,rfl,h516⟩
    ·exact⟨by rw[H.toJA.inl];decide,rfl,h579⟩
   ·rw[c1]at h;obtain rfl:=qoj c1;simp only[zvj,qlq]at h;rcases h with h | h<;>obtain rfl:=qcx h
    ·exact⟨by rw[H.toJA.inl];decide,rfl,h517⟩
    ·exact⟨by rw[H.toJA.inl];decide,rfl,h581⟩
  ·obtain rfl:=qcx h;exact⟨by rw[H.toJA.inl];decide,rfl,h585⟩
  ·cases h
 ·cases c1:Nat.beq f 141
  ·rw[c1]at h;cases c2:Nat.beq f 142
   ·rw[c2]at h;cases h
   ·rw[c2]at h;obtain rfl:=qcx c2;simp only[zvj,cond_false,qwz]at h;obtain⟨q1,e1,z1,f1,r,q2,e2,z2,f2,r2,w,we,rfl,a1,a2,a3,a4,a5,a6,a7,a8⟩:=YI h.1;obtain⟨a,b,rfl⟩:=aoi h.2;obtain⟨R1,R2,g1,g2,ra,ea,ps,pe,L1,L2,G1,G2,N1,N2,S,K,k⟩:=OV H.qh hone q1 q2 e1 e2 a1 a2 z1 z2 f1 f2 a3 a4 qqq qqq r r2 a7 w we a8;exact⟨by rw[H.toJA.inl];decide,rfl,aez ⟨H.qz.toMO,H.f142⟩ hl q1 q2 e1 e2 z1 z2 f1 f2 r r2 a7 w we a b S K R1 R2 g1 g2 k⟩
  ·rw[c1]at h;obtain rfl:=qcx c1;simp only[zvj,qwz]at h;obtain⟨q1,e1,z1,f1,r,q2,e2,z2,f2,r2,w,we,rfl,a1,a2,a3,a4,a5,a6,a7,a8⟩:=YI h.1;obtain⟨a,b,rfl,hb⟩:=ajZ h.2;obtain⟨R1,R2,g1,g2,ra,ea,ps,pe,L1,L2,G1,G2,N1,N2,S,K,k⟩:=OV H.qh hone q1 q2 e1 e2 a1 a2 z1 z2 f1 f2 a3 a4 qqq qqq r r2 a7 w we a8;exact⟨by rw[H.toJA.inl];decide,rfl,af2 H.toBL hl q1 q2 e1 e2 z1 z2 f1 f2 r r2 a7 w we a b hb S K R1 R2 g1 g2 L1 L2 G1 G2 N1 N2 k⟩
 ·cases c1:Nat.beq f 143
  ·rw[c1]at h;cases c2:Nat.beq f 144
   ·rw[c2]at h;cases h
   ·rw[c2]at h;obtain rfl:=qcx c2;simp only[zvj,cond_false,qwz]at h;obtain⟨q1,e1,z1,f1,r,q2,e2,z2,f2,r2,w,we,rfl,a1,a2,a3,a4,a5,a6,a7,a8⟩:=YI h.1;obtain rfl:=alN h.2.1;obtain rfl:=amR h.2.2;obtain⟨R1,R2,g1,g2,ra,ea,ps,pe,L1,L2,G1,G2,N1,N2,S,K,k⟩:=OV H.qh hone q1 q2 e1 e2 a1 a2 z1 z2 f1 f2 a3 a4 qqq qqq r r2 a7 w we a8;exact⟨by rw[H.toJA.inl];decide,rfl,amw H hl h292 h445 q1 q2 e1 e2 z1 z2 f1 f2 r r2 a7 w we S K R1 R2 g1 g2 L1 G1 N1 k⟩
  ·rw[c1]at h;obtain rfl:=qcx c1;simp only[zvj,qwz]at h;obtain⟨q1,e1,z1,f1,r,q2,e2,z2,f2,r2,w,we,rfl,a1,a2,a3,a4,a5,a6,a7,a8⟩:=YI h.1;obtain⟨a,b,rfl,hb⟩:=ajZ h.2.1;obtain⟨y,rfl,hy⟩:=an8 h.2.2;obtain⟨R1,R2,g1,g2,ra,ea,ps,pe,L1,L2,G1,G2,N1,N2,S,K,k⟩:=OV H.qh hone q1 q2 e1 e2 a1 a2 z1 z2 f1 f2 a3 a4 qqq qqq r r2 a7 w we a8;exact⟨by rw[H.toJA.inl];decide,rfl,aeY H.toBL.toMV.toMQ.toajL hl q1 q2 e1 e2 z1 z2 f1 f2 r r2 a7 w we a b hb y hy S K R1 R2 g1 g2 L1 L2 G1 G2 N1 N2 k⟩
 ·cases h
def rwT:List UInt8:=[114,111,119]
def kdB(b:Nat)(k:Int):List AV:=[.int .u8 1,.str rwT,.str [],.ro 3 [] true,.str [],.sl b 6 0 1 1 true,.int .i64 1,.bool false,.int .i64 k]
def rwB(k:Int)(b:Nat):List AV:=[.int .u64 k,.int .u8 0,.int .u8 1,.str rwT,.str [],.ro 2 [] true,.str [],.sl b 6 0 1 1 true]
def ame(b n:Nat):List (List AV):=(List.range n).map λi=>rwB ((i+1:Nat):Int) (b+i)
def txB(b:Nat):Nat×dD:=(b,.cells 6 [[.int .u8 2,.str [],.str [],.ro 2 [] true,.str [120],.ro 6 [] true]] true true)
def enB(k:Int):List AV:=[.int .u64 k,.int .u8 0,.str [120],.ro 1 [] true,.int .i64 1,.bool false]
def abB:List (List AV):=(List.range 20).map λi=>enB ((i+1:Nat):Int)
def sK0:WSt:=⟨[(5,.int .i64 0),(4,.sl 0 1 0 0 0 false),(3,.ptr 1 0 0),(2,.ptr 2 0 0)],[(0,.cells 1 [] true true),(1,.cells 1 [[.ro 6 [] true]] true true),(2,.cells 7 [[.int .i64 0,.int .i64 0,.int .i64 0,.sl 3 9 0 2 2 true,.int .i64 2,.int .i64 100,.int .u8 0]] true false),(3,.cells 9 [kdB 4 16,kdB 4 2] true false),(4,.cells 6 [[.int .u8 3,.str [],.str [],.ro 3 [] true,.str [],.ro 6 [] true]] true true)],5⟩
def agC:WSt:=⟨[(5,.int .i64 20),(4,.sl 0 1 0 20 20 false),(3,.ptr 1 0 0),(2,.ptr 3 0 0)],[(0,.cells 1 [[.int .i64 0],[.int .i64 1],[.int .i64 2],[.int .i64 3],[.int .i64 4],[.int .i64 5],[.int .i64 6],[.int .i64 7],[.int .i64 8],[.int .i64 9],[.int .i64 10],[.int .i64 11],[.int .i64 12],[.int .i64 13],[.int .i64 14],[.int .i64 15],[.int .i64 16],[.int .i64 17],[.int .i64 18],[.int .i64 19]] true true),(1,.cells 1 [[.sl 2 6 0 20 20 false]] true false),(2,.cells 6 abB true true),(3,.cells 7 [[.int .i64 0,.int .i64 0,.int .i64 0,.sl 4 9 0 2 2 true,.int .i64 2,.int .i64 100,.int .u8 0]] true false),(4,.cells 9 [kdB 5 16,kdB 5 2] true false),(5,.cells 6 [[.int .u8 3,.str [],.str [],.ro 3 [] true,.str [],.ro 6 [] true]] true true)],6⟩
def sK1:WSt:=⟨[(4,.sl 0 1 0 20 20 false),(3,.ptr 1 0 0),(2,.ptr 3 0 0)],[(0,.cells 1 [[.int .i64 0],[.int .i64 1],[.int .i64 2],[.int .i64 3],[.int .i64 4],[.int .i64 5],[.int .i64 6],[.int .i64 7],[.int .i64 8],[.int .i64 9],[.int .i64 10],[.int .i64 11],[.int .i64 12],[.int .i64 13],[.int .i64 14],[.int .i64 15],[.int .i64 16],[.int .i64 17],[.int .i64 18],[.int .i64 19]] true true),(1,.cells 1 [[.sl 2 6 0 20 20 false]] true false),(2,.cells 6 abB true true),(3,.cells 7 [[.int .i64 0,.int .i64 0,.int .i64 0,.sl 4 9 0 2 2 true,.int .i64 2,.int .i64 100,.int .u8 0]] true false),(4,.cells 9 [kdB 5 16,kdB 5 2] true false),(5,.cells 6 [[.int .u8 3,.str [],.str [],.ro 3 [] true,.str [],.ro 6 [] true]] true true)],6⟩
def ahK:WSt:=⟨[(49,.int .i64 0),(48,.agg [.ro 8 [] true,.ro 1 [[.ro 8 [] true],[.ro 8 [] true]] true]),(47,.tup [.agg [.ro 8 [] true,.ro 1 [[.ro 8 [] true],[.ro 8 [] true]] true],.int .i64 0]),(46,.agg [.int .i64 0,.int .i64 0,.int .i64 0,.sl 4 9 0 2 2 true,.int .i64 2,.int .i64 100,.int .u8 0]),(45,.tup [.agg [.ro 8 [] true,.ro 1 [[.ro 8 [] true],[.ro 8 [] true]] true],.int .i64 0]),(7,.int .i64 0),(6,.ptr 11 0 0),(4,.sl 0 1 0 20 20 false),(3,.ptr 1 0 0),(2,.ptr 3 0 0)],[(0,.cells 1 [[.int .i64 0],[.int .i64 1],[.int .i64 2],[.int .i64 3],[.int .i64 4],[.int .i64 5],[.int .i64 6],[.int .i64 7],[.int .i64 8],[.int .i64 9],[.int .i64 10],[.int .i64 11],[.int .i64 12],[.int .i64 13],[.int .i64 14],[.int .i64 15],[.int .i64 16],[.int .i64 17],[.int .i64 18],[.int .i64 19]] true true),(1,.cells 1 [[.sl 2 6 0 20 20 false]] true false),(2,.cells 6 abB true true),(3,.cells 7 [[.int .i64 0,.int .i64 0,.int .i64 0,.sl 4 9 0 2 2 true,.int .i64 2,.int .i64 100,.int .u8 0]] true false),(4,.cells 9 [kdB 5 16,kdB 5 2] false false),(5,.cells 6 [[.int .u8 3,.str [],.str [],.ro 3 [] true,.str [],.ro 6 [] true]] false true),(11,.cells 2 [[.ro 8 [] true,.ro 1 [[.ro 8 [] true],[.ro 8 [] true]] true]] true true)],14⟩
def sK2:WSt:=⟨[(10,.int .i64 0),(9,.ptr 0 0 0),(8,.ptr 1 0 0),(7,.int .i64 0),(3,.ptr 24 0 0),(2,.ptr 26 0 0)],[(0,.cells 4 [[.int .i64 0,.int .i64 20,.int .i64 0,.int .i64 41]] true true),(1,.cells 2 [[.sl 2 8 0 20 20 true,.sl 23 1 0 2 2 true]] true false),(2,.cells 8 (ame 3 20) true false),txB 3,txB 4,txB 5,txB 6,txB 7,txB 8,txB 9,txB 10,txB 11,txB 12,txB 13,txB 14,txB 15,txB 16,txB 17,txB 18,txB 19,txB 20,txB 21,txB 22,(23,.cells 1 [[.ro 8 [] true],[.ro 8 [] true]] true true),(24,.cells 1 [[.sl 25 6 0 20 20 false]] true false),(25,.cells 6 abB true true),(26,.cells 7 [[.int .i64 0,.int .i64 0,.int .i64 0,.sl 27 9 0 2 2 true,.int .i64 2,.int .i64 100,.int .u8 0]] true false),(27,.cells 9 [kdB 28 16,kdB 28 2] false false),(28,.cells 6 [[.int .u8 3,.str [],.str [],.ro 3 [] true,.str [],.ro 6 [] true]] false true)],29⟩
def sK3:WSt:=⟨[(120,.bool false),(11,.ptr 0 0 0),(9,.ptr 19 0 0),(3,.ptr 20 0 0),(2,.ptr 22 0 0)],[(0,.cells 2 [[.ro 8 [] true,.sl 1 1 0 2 2 true]] true false),(1,.cells 1 [[.sl 2 8 0 16 16 true],[.ro 8 [] true]] true false),(2,.cells 8 (ame 3 16) true false),txB 3,txB 4,txB 5,txB 6,txB 7,txB 8,txB 9,txB 10,txB 11,txB 12,txB 13,txB 14,txB 15,txB 16,txB 17,txB 18,(19,.cells 4 [[.int .i64 0,.int .i64 20,.int .i64 0,.int .i64 41]] true true),(20,.cells 1 [[.sl 21 6 0 20 20 false]] true false),(21,.cells 6 abB true true),(22,.cells 7 [[.int .i64 0,.int .i64 0,.int .i64 0,.sl 23 9 0 2 2 true,.int .i64 2,.int .i64 100,.int .u8 0]] true false),(23,.cells 9 [kdB 24 16,kdB 24 2] false false),(24,.cells 6 [[.int .u8 3,.str [],.str [],.ro 3 [] true,.str [],.ro 6 [] true]] false true)],25⟩
def sK4:WSt:=⟨[(163,.bool false),(14,.ptr 0 0 0),(9,.ptr 20 0 0),(3,.ptr 21 0 0),(2,.ptr 23 0 0)],[(0,.cells 2 [[.sl 1 8 0 2 2 true,.sl 4 1 0 2 2 true]] true false),(1,.cells 8 [rwB 4 2,rwB 18 3] true false),txB 2,txB 3,(4,.cells 1 [[.sl 5 8 0 14 14 true],[.ro 8 [] true]] true false),(5,.cells 8 (ame 6 14) true false),txB 6,txB 7,txB 8,txB 9,txB 10,txB 11,txB 12,txB 13,txB 14,txB 15,txB 16,txB 17,txB 18,txB 19,(20,.cells 4 [[.int .i64 2,.int .i64 0,.int .i64 0,.int .i64 33]] true true),(21,.cells 1 [[.sl 22 6 0 20 20 false]] true false),(22,.cells 6 abB true true),(23,.cells 7 [[.int .i64 0,.int .i64 0,.int .i64 0,.sl 24 9 0 2 2 true,.int .i64 2,.int .i64 100,.int .u8 0]] true false),(24,.cells 9 [kdB 25 16,kdB 25 2] false false),(25,.cells 6 [[.int .u8 3,.str [],.str [],.ro 3 [] true,.str [],.ro 6 [] true]] false true)],26⟩
def sKi(i:Nat):WSt:=⟨[(16,.int .i64 i)],[],0⟩
def sKz:WSt:=⟨[],[],0⟩
def aK1:Ann:=⟨true,[5,4,3,2],[]⟩
def ag6:Ann:=⟨true,[4,3,2],[]⟩
def aK0:Ann:=⟨true,[16],[]⟩
def ajd:Ann:=⟨true,[],[]⟩
def cK0:List aB:=[sqA w88.body,sqA (sqB w88.body),sqA (sqB (sqB w88.body)),sqA (sqB (sqB (sqB w88.body))),sqA (sqB (sqB (sqB (sqB w88.body))))]
def hK0:aB:=sqA (sqA (sqB (sqB (sqB (sqB (sqB w88.body))))))
def aiH:List aB:=[sqA lC]
def cK1:List aB:=[sqA (sqB lC)]
def cK2:List aB:=[sqA (sqB (sqB lC)),sqA (sqB (sqB (sqB lC)))]
def cK3:List aB:=[sqA (sqB (sqB (sqB (sqB lC)))),sqA (sqB (sqB (sqB (sqB (sqB lC)))))]
def cK4:List aB:=[sqA (sqB (sqB (sqB (sqB (sqB (sqB lC)))))),sqA (sqB (sqB (sqB (sqB (sqB (sqB (sqB lC))))))),sqA (sqB (sqB (sqB (sqB (sqB (sqB (sqB (sqB lC))))))))]
def hK4:aB:=sqA (sqA (sqB (sqB (sqB (sqB (sqB (sqB (sqB (sqB (sqB lC))))))))))
theorem auk:w88.body=cK0.foldr .seq (.seq (.seq hK0 (.block 0 (.loop aK1 vS) ag6)) lC):=rfl
theorem as2:lC=aiH.foldr .seq (cK1.foldr .seq (cK2.foldr .seq (cK3.foldr .seq (cK4.foldr .seq (.seq (.seq hK4 (.block 2 (.loop aK0 mD) ajd)) Jv))))):=rfl
structure anC(C:aJ)(orc:Orc)(N:Nat):Prop where
 a0:(ob (y7 C orc N 0 (cK0++[hK0]) sKz) (canon 0 aK1))=some sK0
 aL:lM C orc N 0 aK1 vS 20 sK0=some agC
 aE:EP C orc N 0 0 ag6 vS agC=some sK1
 b1a:y7 C orc N 0 aiH sK1=some ahK
 b1:y7 C orc N 0 cK1 ahK=some sK2
 b2:y7 C orc N 0 cK2 sK2=some sK3
 b3:y7 C orc N 0 cK3 sK3=some sK4
 b4:(ob (y7 C orc N 0 (cK4++[hK4]) sK4) (canon 0 aK0))=some (sKi 0)
 cL:∀i,i<4->lM C orc N 0 aK0 mD 20 (sKi (i*20))=some (sKi (i*20+20))
 cE:EP C orc N 0 2 ajd mD (sKi 80)=some sKz
 f:(ob (evO C orc N 0 Jv sKz) λr=>ob (gX w88.res r) λr=>bD r.2.1 aC r.1)=some (.bool true)
theorem FM(C:aJ):wS C (λ_ _=>none):=⟨λ_ _ _ h=>(by cases h),λ_ _ _ h=>(by cases h),λ_ _ _ h=>(by cases h),λ_ _ _ h=>(by cases h)⟩
theorem abr{orc:Orc}(ok:wS C orc)(hf:C.fns.get 88=some w88){N:Nat}(R:anC C orc N):FnW C 88 []=some (.bool true):=by
 obtain⟨r,h1,h2⟩:=aA R.f;have hb:CdW C 0 w88.body ⟨[],[],0⟩=some r:=by
  rw[auk,show(⟨[],[],0⟩:WSt)=sKz from rfl,YZ ok cK0 hK0 aK1 vS 0 ag6 R.a0 R.aL R.aE lC,as2,
   Dt ok aiH _ _ _ R.b1a,Dt ok cK1 _ _ _ R.b1,Dt ok cK2 _ _ _ R.b2,Dt ok cK3 _ _ _ R.b3,
   YZ ok cK4 hK4 aK0 mD 2 ajd R.b4 (TP aK0 mD 20 sKi 4 R.cL) R.cE Jv]
  exact JY ok _ _ _ _ _ h1
 exact ape hf rfl hb h2
end Go.D
end
