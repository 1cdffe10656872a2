/- Part of the theory that the claims of this work use: PavRun, PavLocal, PavDraw, PavDraw2, PavDraw3, PavAll, PwRel, PwOps, PwOps2, PwOps3, PwOps4, PwCall, PwFresh, PwBare. No conditions of its own. -/
import Derived.Test.YtlkfpgggbjlfgaaGreatT2
set_option linter.unusedVariables false
set_option linter.unusedSimpArgs false
section
namespace Go.Pav
open Go
section
variable {P:Program}{φ:FuncId->Option Nat}{ψ:Nat->FuncId}{N:Nat}{w0 w:World}{S:Nat->Prop}{m:Nat->Nat×Nat}{A:Nat->Prop}{h:Heap}{a:Act}{run:Run}{C:Prog}
theorem Fit.mono{nt nt':Nat}(hn:nt<=nt'){sp:Option Nat}{c:Code}{cc:bC}(h:Fit P φ nt sp c cc):Fit P φ nt' sp c cc:=by
 induction h with
 |fail c=>exact .fail c
 |skip=>exact .skip
 |ops id ops live hd=>exact .ops id ops live λo ho x hx=>qZx (hd o ho x hx) hn
 |draw id ops live hd he hu=>exact .draw id ops live (λo ho x hx=>qZx (hd o ho x hx) hn) he hu
 |seq _ _ iha ihb=>exact .seq iha ihb
 |cond hc _ _ iha ihb=>exact .cond hc iha ihb
 |block id hid _ ih=>exact .block id hid ih
 |loop live _ ih=>exact .loop live ih
 |scope hj _ ih=>exact .scope hj ih
 |label l=>exact .label l
 |exit id hid=>exact .exit id hid
 |goto l=>exact .goto l
 |again l _ ih=>exact .again l ih
 |here l live hj _ ih=>exact .here l live hj ih
 |on l hj hl _ _ iha ihb=>exact .on l hj hl iha ihb
 |ret=>exact .ret
def sJ(tmps:Array Value):ResultVar->Sem Value
 |.tmp t=>pure (tmps.getD t Go.undef)
 |.cell a t=>do loadVar t (<- asAddr (tmps.getD a Go.undef))
theorem Vw(fn:Func)(tmps:Array Value):Go.results fn tmps=(do
 let vs <- fn.results.toList.mapM (sJ tmps)
 pure (if h:vs.toArray.size=1 then vs.toArray[0]else .tuple vs.toArray)):=by
 have:Go.results fn tmps=(do
  let vs <- fn.results.mapM (sJ tmps)
  pure (if h:vs.size=1 then vs[0]else .tuple vs)):=rfl
 rw[this,Array.mapM_eq_mapM_toList];simp
theorem aad(i:Inv ψ N w0 w S m A h){e:Env}{tmps:Array Value}(env:jM ψ w S m A e tmps){r:ResultVar}{cr:vN}(hc:RJ P r=some cr){v:AV}(hv:FN e h cr=some v) :
 ∃cv,(sJ tmps r).run P w=.ok cv w/\VR ψ w S m A v cv:=by
 cases r with
 |tmp t=>simp only[RJ,qwq]at hc;subst hc;exact⟨_,by simp[sJ],env t v hv⟩
 |cell t ty=>
  simp only[RJ,qvz,qzz,qwq]at hc;obtain⟨n,hn,ag,hag,rfl⟩:=hc;simp only[FN]at hv;split at hv
  ·rename_i b i0 o hg;have hp:=env t _ hg;obtain⟨_,e1⟩:=hp.lH;simp only[loadAt]at hv;split at hv
   ·rename_i z es mu hb;obtain⟨cs,hk,hl⟩:=aA hv;obtain⟨cv,h1,h2⟩:=wM (P:=P) ((i.Yg hb hk).drop o) hn hag hl;exact⟨cv,by simp only[sJ,e1,asAddr,Sem.run_bind,Sem.run_pure,Result.andThen_ok,h1],h2⟩
   ·cases hv
  ·cases hv
theorem afo:∀(rs:List ResultVar) (cs:List vN) (vs:List AV) {e:Env}{tmps:Array Value},Inv ψ N w0 w S m A h->jM ψ w S m A e tmps->rs.mapM (RJ P)=some cs->aZ (FN e h) cs=some vs ->
 ∃us:List Value,(rs.mapM (sJ tmps)).run P w=.ok us w/\us.length=vs.length/\∀(j:Nat) (x:AV),vs[j]?=some x->VR ψ w S m A x (us.toArray.getD j Go.undef):=by
 intro rs;induction rs with
 |nil=>intro cs vs e tmps i env hc hv;simp only[List.mapM_nil,zjx,qwq]at hc;subst hc;simp only[aZ,qwq]at hv;subst hv;exact⟨[],by simp,rfl,λj x hj=>by simp at hj⟩
 |cons r rs ih=>
  intro cs vs e tmps i env hc hv;simp only[zkx,qvz,qzz,zjx,qwq]at hc;obtain⟨c,hc1,cs',hcs,rfl⟩:=hc;simp only[aZ]at hv;obtain⟨v,hv1,hv⟩:=aA hv;obtain⟨vs',hvs,rfl⟩:=aH hv;obtain⟨cv,r1,r2⟩:=aad (P:=P) i env hc1 hv1;obtain⟨us,q1,q2,q3⟩:=ih cs' vs' i env hcs hvs;refine⟨cv::us,?_,by simp[q2],λj x hj=>?_⟩
  ·simp only[zkx,Sem.run_bind,r1,Result.andThen_ok,q1,Sem.run_pure]
  ·cases j with
   |zero=>simp at hj;subst hj;simpa using r2
   |succ j=>simpa using q3 j x (by simpa using hj)
theorem Uj(i:Inv ψ N w0 w S m A h){e:Env}{tmps:Array Value}(env:jM ψ w S m A e tmps){fn:Func}{cs:List vN}(hc:fn.results.toList.mapM (RJ P)=some cs){v:AV}(hv:results e h cs=some v) :
 ∃cv,(Go.results fn tmps).run P w=.ok cv w/\VR ψ w S m A v cv:=by
 obtain⟨vs,hvs,rfl⟩:=aH hv;obtain⟨us,q1,q2,q3⟩:=afo (P:=P) _ _ _ i env hc hvs;rw[Vw];refine⟨(if h:us.toArray.size=1 then us.toArray[0]else Value.tuple us.toArray),by simp only[Sem.run_bind,q1,Result.andThen_ok,Sem.run_pure],?_⟩;match vs,us,q2,q3 with
 |[v],[u],_,q3=>simpa [Et]using q3 0 v rfl
 |[],[],_,q3=>exact .tup [] #[] rfl qqz
 |v1::v2::vs,u1::u2::us,q2,q3=>
  have:¬(u1::u2::us).toArray.size=1:=by simp
  rw[dif_neg this];exact .tup _ _ (by simpa using q2) q3
theorem Wp:∀(l:List AV) (k s:Nat) (v:AV),get (fF k l) s=some v->k<=s/\l[s-k]?=some v:=by
 intro l;induction l with
 |nil=>intro k s v h;simp[fF,get]at h
 |cons x l ih=>
  intro k s v h;simp only[fF,get]at h;by_cases e:k=s
  ·subst e;simp at h;subst h;simp
  ·rw[qwx e]at h;obtain⟨h1,h2⟩:=ih (k+1) s v h;refine⟨by omega,?_⟩;have:s-k=(s-(k+1))+1:=by omega
   rw[this];simpa using h2
inductive Ret:bC->bC->Prop
 |skip:Ret .skip .skip
 |ops (l:List bn) (m:Nat×List Nat):Ret (.ops l m) (.ops l m)
 |draw (l:List bn) (un:List (Nat×Nat)) (m:Nat×List Nat):Ret (.draw l un m) (.draw l un m)
 |seq {a b x y:bC}(h1:Ret a x) (h2:Ret b y):Ret (.seq a b) (.seq x y)
 |cond (c:Opd) {a b x y:bC}(h1:Ret a x) (h2:Ret b y):Ret (.cond c a b) (.cond c x y)
 |block (id:Nat) (hne:id≠iT) {b y:bC}(h:Ret b y):Ret (.block id b) (.block id y)
 |loop (m:Nat) {b y:bC}(h:Ret b y):Ret (.loop m b) (.loop m y)
 |exit (id:Nat):Ret (.exit id) (.exit id)
 |ret:Ret .ret (.exit iT)
 |fail:Ret .fail .fail
theorem ai8{nt:Nat}{sp:Option Nat}{c:Code}{cc:bC}(h:Fit P φ nt sp c cc):Ret cc (FH cc):=by
 induction h with
 |fail c=>exact .fail
 |skip=>exact .skip
 |ops id ops live hd=>exact .ops _ _
 |draw id ops live hd he hu=>exact .draw _ _ _
 |seq _ _ iha ihb=>exact .seq iha ihb
 |cond hc _ _ iha ihb=>exact .cond _ iha ihb
 |block id hid _ ih=>exact .block id qqq ih
 |loop live _ ih=>exact .loop live ih
 |scope hj _ ih=>exact .seq ih .skip
 |label l=>exact .skip
 |exit id hid=>exact .exit id
 |goto l=>exact .exit _
 |again l _ ih=>exact ih
 |here l live hj _ ih=>exact .block _ (by unfold lV iT;omega) (.loop _ (.block _ (by unfold gV iT;omega) (.seq ih (.exit _))))
 |on l hj hl _ _ iha ihb=>exact .seq iha ihb
 |ret=>exact .ret
theorem alL{a x:bC}(h:Ret a x):∀y,mz y=mz x->∃b,mz b=mz a/\Ret b y:=by
 induction h with
 |skip=>intro y hy;cases y<;>simp only[mz]at hy<;>first | (cases hy;done) | exact⟨_,rfl,.skip⟩
 |fail=>intro y hy;cases y<;>simp only[mz]at hy<;>first | (cases hy;done) | exact⟨_,rfl,.fail⟩
 |ret=>intro y hy;cases y<;>simp only[mz]at hy<;>first | (cases hy;done) | (cases hy;exact⟨_,rfl,.ret⟩)
 |exit id=>intro y hy;cases y<;>simp only[mz]at hy<;>first | (cases hy;done) | (cases hy;exact⟨_,rfl,.exit _⟩)
 |ops l m=>intro y hy;cases y<;>simp only[mz]at hy<;>first | (cases hy;done) | (cases hy;refine⟨_,?_,.ops _ _⟩;rfl)
 |draw l un m=>intro y hy;cases y<;>simp only[mz]at hy<;>first | (cases hy;done) | (cases hy;refine⟨_,?_,.draw _ _ _⟩;rfl)
 |seq _ _ iha ihb=>
  intro y hy;cases y<;>simp only[mz]at hy<;>try (cases hy;done)
  simp only[bC.seq.injEq]at hy;obtain⟨a1,q1,q2⟩:=iha _ hy.1;obtain⟨b1,q3,q4⟩:=ihb _ hy.2;exact⟨.seq a1 b1,by simp only[mz,q1,q3],.seq q2 q4⟩
 |cond c _ _ iha ihb=>
  intro y hy;cases y<;>simp only[mz]at hy<;>try (cases hy;done)
  simp only[bC.cond.injEq]at hy;obtain⟨a1,q1,q2⟩:=iha _ hy.2.1;obtain⟨b1,q3,q4⟩:=ihb _ hy.2.2;rw[hy.1];exact⟨.cond c a1 b1,by simp only[mz,q1,q3],.cond c q2 q4⟩
 |block id hne _ ih=>
  intro y hy;cases y<;>simp only[mz]at hy<;>try (cases hy;done)
  simp only[bC.block.injEq]at hy;obtain⟨a1,q1,q2⟩:=ih _ hy.2;rw[hy.1];exact⟨.block id a1,by simp only[mz,q1],.block id hne q2⟩
 |loop m _ ih=>
  intro y hy;cases y<;>simp only[mz]at hy<;>try (cases hy;done)
  rename_i m' y';simp only[bC.loop.injEq,quq]at hy;obtain⟨a1,q1,q2⟩:=ih _ hy;exact⟨.loop m' a1,by simp only[mz,q1],.loop m' q2⟩
def EJ:Ex->Ex
 |.ret=>.exit iT
 |e=>e
theorem amK:∀(n:Nat) {a x:bC},Ret a x->∀(s s':St) (ex:Ex),evC C n x s=some (ex,s')->∃e0,evC C n a s=some (e0,s')/\ex=EJ e0:=by
 intro n;induction n with
 |zero=>intro a x _ s s' ex he;simp only[evC]at he;cases he
 |succ n ih=>
  intro a x hr s s' ex he;cases hr with
  |skip=>rw[evC]at he |-;cases he;exact⟨_,rfl,rfl⟩
  |fail=>simp only[evC]at he;cases he
  |exit id=>simp only[evC]at he |-;cases he;exact⟨_,rfl,rfl⟩
  |ret=>simp only[evC]at he |-;cases he;exact⟨.ret,rfl,rfl⟩
  |ops l m=>refine⟨ex,he,?_⟩;rw[evC]at he;obtain⟨s1,_,he⟩:=aA he;obtain⟨s2,_,he⟩:=aH he;cases he;rfl
  |draw l un m=>
   refine⟨ex,he,?_⟩;rw[evC]at he;obtain⟨s1,_,he⟩:=aA he;unfold Dp at he;split at he
   ·obtain⟨s2,_,he⟩:=aH he;cases he;rfl
   ·cases he
  |seq h1 h2=>
   rw[evC]at he |-;obtain⟨⟨e1,s1⟩,q1,he⟩:=aA he;obtain⟨e0,z1,rfl⟩:=ih h1 _ _ _ q1;rw[z1];cases e0 with
   |norm=>simp only[EJ,cO]at he;obtain⟨e2,z2,rfl⟩:=ih h2 _ _ _ he;exact⟨e2,by simp only[ob,cO,z2],rfl⟩
   |exit id=>simp only[EJ,cO]at he;cases he;exact⟨_,rfl,rfl⟩
   |ret=>simp only[EJ,cO]at he;cases he;exact⟨_,rfl,rfl⟩
  |cond c h1 h2=>
   rw[evC]at he |-;unfold uj at he |-;split at he
   ·rename_i t hv;cases t with
    |true=>exact ih h1 _ _ _ he
    |false=>exact ih h2 _ _ _ he
   ·cases he
  |block id hne h1=>
   rw[evC]at he |-;obtain⟨⟨e1,s1⟩,q1,he⟩:=aH he;obtain⟨e0,z1,rfl⟩:=ih h1 _ _ _ q1;rw[z1];cases e0 with
   |norm=>simp only[EJ,dB]at he;cases he;exact⟨_,rfl,rfl⟩
   |ret=>simp only[EJ,dB,qwx (qYx hne)]at he;cases he;exact⟨_,rfl,rfl⟩
   |exit i=>
    simp only[EJ,dB]at he;by_cases hi:i=id
    ·rw[qzq hi]at he;cases he;exact⟨.norm,by simp only[om,dB,qzq hi],rfl⟩
    ·rw[qwx hi]at he;cases he;exact⟨.exit i,by simp only[om,dB,qwx hi],rfl⟩
  |loop m h1=>
   rw[evC]at he |-;obtain⟨⟨e1,s1⟩,q1,he⟩:=aA he;obtain⟨e0,z1,rfl⟩:=ih h1 _ _ _ q1;rw[z1];cases e0 with
   |norm=>simp only[EJ,cO]at he;obtain⟨e2,z2,rfl⟩:=ih (.loop m h1) _ _ _ he;exact⟨e2,by simp only[ob,cO,z2],rfl⟩
   |exit id=>simp only[EJ,cO]at he;cases he;exact⟨_,rfl,rfl⟩
   |ret=>simp only[EJ,cO]at he;cases he;exact⟨_,rfl,rfl⟩
theorem ai7(rm:Nat):∀(c:bC) (out:Nat) (ex:List (Nat×Nat)),mz (oz rm c out ex).1=mz c:=by
 intro c;induction c with
 |seq a b iha ihb=>intro out ex;simp only[oz,mz,iha,ihb]
 |cond c a b iha ihb=>intro out ex;simp only[oz,mz,iha,ihb]
 |block id b ih=>intro out ex;simp only[oz,mz,ih]
 |loop m b ih=>intro out ex;simp only[oz,mz,ih]
 |_=>intro out ex;rfl
inductive Am(P:Program)(φ:FuncId->Option Nat)(nt:Nat):Code->bC->Prop
 |fail (c:Code):Am P φ nt c .fail
 |on {a b:Code}{x y:bC}(ha:Fit P φ nt none a x) (hb:Am P φ nt b y):Am P φ nt (.seq a b) (.seq x y)
 |here (id:Nat) (ops:Array Oper) (l:List Oper) (t:Nat) (f:FuncId) (m m2:Nat×List Nat) {b:Code}{y y0:bC}(hdf:deferred ops.toList=some (l,t,f)) (hd:∀o∈ops.toList,∀x,o.dst=some x->x<nt)
  (ht:gK t b=false) (hp:((P.funcs[f]?).bind (·.body)).map gJ=some false) (hb:Fit P φ nt none b y0) (hy:Ret y0 y) :
  Am P φ nt (.seq (.region id ops false) b) (.seq (.ops (l.map (cZ P φ ops)) m) (.seq (.block iT y) (.ops [⟨none,none,.dY (.t t) []⟩] m2)))
theorem Am.mono{nt nt':Nat}(hn:nt<=nt'){c:Code}{cc:bC}(h:Am P φ nt c cc):Am P φ nt' c cc:=by
 induction h with
 |fail c=>exact .fail c
 |on ha _ ih=>exact .on (ha.mono hn) ih
 |here id ops l t f m m2 hdf hd ht hp hb hy=>exact .here id ops l t f m m2 hdf (λo ho x hx=>qZx (hd o ho x hx) hn) ht hp (hb.mono hn) hy
theorem Ws{nt:Nat}:∀(c:Code),dX nt c=true->Am P φ nt c (ES P φ c):=by
 intro c;induction c with
 |seq a b _ ihb=>
  intro h;simp only[dX,qwz]at h;have on:Am P φ nt (.seq a b) (.seq (lW P φ a) (ES P φ b)):=.on (EC a h.1) (ihb h.2);simp only[ES];split
  ·rename_i id ops _;split
   ·rename_i l t f hdf;split
    ·rename_i hc;have hf:=EC (P:=P) (φ:=φ) b h.2;refine .here id ops l t f _ _ hdf (λo ho x hx=>?_) hc.1 hc.2.1 hf (ai8 hf);have:=h.1;simp only[dX,qkz]at this;have:=this o ho;rw[hx]at this;exact zjq ▸ this
    ·exact .fail _
   ·exact on
  ·exact on
 |_=>intro _;exact .fail _
theorem Yo{nt:Nat}{c:Code}{x:bC}(h:Am P φ nt c x):∀y,mz y=mz x->Am P φ nt c y:=by
 induction h with
 |fail c=>intro y hy;cases y<;>simp only[mz]at hy<;>first | (cases hy;done) | exact .fail _
 |on ha _ ih=>
  intro y hy;cases y<;>simp only[mz]at hy<;>try (cases hy;done)
  simp only[bC.seq.injEq]at hy;exact .on (WG ha _ hy.1) (ih _ hy.2)
 |here id ops l t f m m2 hdf hd ht hp hb hr=>
  intro y hy;cases y<;>simp only[mz]at hy<;>try (cases hy;done)
  rename_i y1 y2;simp only[bC.seq.injEq]at hy;obtain⟨h1,h2⟩:=hy;cases y1<;>simp only[mz]at h1<;>try (cases h1;done)
  simp only[bC.ops.injEq,zyj]at h1;cases y2<;>simp only[mz]at h2<;>try (cases h2;done)
  rename_i y3 y4;simp only[bC.seq.injEq]at h2;obtain⟨h3,h4⟩:=h2;cases y3<;>simp only[mz]at h3<;>try (cases h3;done)
  simp only[bC.block.injEq]at h3;cases y4<;>simp only[mz]at h4<;>try (cases h4;done)
  simp only[bC.ops.injEq,zyj]at h4;obtain⟨z0,z1,z2⟩:=alL hr _ h3.2;rw[h1,h3.1,h4];exact .here id ops l t f _ _ hdf hd ht hp (WG hb _ z1) z2
theorem acQ {fn : Func} {cf : CFn} (hc : cFn P φ fn = some cf) : ∃ c, fn.body = some c /\ fn.name ≠ "runtime.NumGoroutine" /\ fn.results.toList.mapM (RJ P) = some cf.res /\
 ((gJ c=false/\Fit P φ fn.ntmps none c cf.body)\/(gJ c=true/\Am P φ fn.ntmps c cf.body)):=by
 unfold cFn at hc;simp only[qvz,qzz]at hc;obtain⟨c,hb,hc⟩:=hc;split at hc
 ·cases hc
 ·rename_i hfit;obtain⟨res,hres,hc⟩:=qzz.1 hc;split at hc
  ·cases hc
  ·rename_i hname;cases hc;refine⟨c,hb,hname,hres,?_⟩;simp only[aj2];split
   ·rename_i hdf;exact .inr ⟨hdf,Yo (Ws c (by simpa using hfit)) _ (ai7 ..)⟩
   ·rename_i hdf;exact .inl ⟨hdf,aac (EC c (by simpa using hfit)) _ _⟩
theorem LX{ops:List Oper}{l:List Oper}{t:Nat}{f:FuncId}(h:deferred ops=some (l,t,f)) :
 ∃pre mk d ts fs cs,l=pre++[mk]/\ops=l++[d]/\d.op=.defer ⟨.value (.tmp t),#[],ts⟩/\d.dst=none/\d.guard=none/\mk.op=.makeFunc (.func f) fs cs/\mk.dst=some t/\mk.guard=none:=by
 unfold deferred at h;split at h
 ·rename_i d mk r hr;split at h
  ·rename_i t0 args ts f0 fs cs t' h1 h2 h3 h4 h5 h6;split at h
   ·rename_i hc;cases h;have hops:ops=(mk::r).reverse++[d]:=by have:=congrArg List.reverse hr;simpa using this
    have ha:args=#[]:=Array.size_eq_zero_iff.1 hc.2;exact⟨r.reverse,mk,d,ts,fs,cs,by simp,hops,by rw[h1,ha],h2,h3,h4,by rw[h5,hc.1],h6⟩
   ·cases h
  ·cases h
 ·cases h
theorem BO:∀(l l2:List bn) (s s2:St),lX C run (l++l2) s=some s2->∃s1,lX C run l s=some s1/\lX C run l2 s1=some s2
 |[],l2,s,s2,h=>⟨s,rfl,h⟩
 |o::l,l2,s,s2,h=>by simp only[qmx,lX]at h |-;obtain⟨d,h1,h2⟩:=aA h;obtain⟨s1,q1,q2⟩:=BO l l2 _ _ h2;exact⟨s1,by rw[h1];exact q1,q2⟩
theorem ajn{ops:Array Oper}{mk:Oper}{t:Nat}{f:FuncId}{fs cs:Array Operand}(ids:∀f g,φ f=some g->ψ g=f)(h1:mk.op=.makeFunc (.func f) fs cs)(h2:mk.dst=some t)(h3:mk.guard=none){s s2:St}(h:lX C run [cZ P φ ops mk] s=some s2) :
 ∃g caps,ψ g=f/\get s2.env t=some (.fn g caps):=by
 simp only[lX]at h;obtain⟨d,hd,h⟩:=aA h;cases h;have hdst:(cZ P φ ops mk).dst=some t:=by unfold cZ;simp only;split<;>exact h2
 simp only[hdst,dO,get_put,qyx];unfold cZ at hd;simp only[h1,h2,h3,cOp]at hd;cases hg:φ f with
 |none=>simp[hg,jI,wants,jr,callOf,aP,DT,om]at hd
 |some g=>
  simp only[hg,qvz,zzj]at hd;split at hd
  ·rename_i g0 op0 e1 e2;split at e2
   ·cases hcs:MB φ cs.toList with
    |none=>rw[hcs]at e2;cases e2
    |some xs=>
     rw[hcs]at e2;cases e1;cases e2;simp only[jI,wants,jr,callOf,aP]at hd;obtain⟨x,hx,rfl⟩:=aH hd;unfold Ec at hx;split at hx
     ·cases hx;exact⟨g,_,ids f g hg,rfl⟩
     ·cases hx
   ·cases e2
  ·simp[jI,wants,jr,callOf,aP,DT,om]at hd
theorem ae9{n:Nat}{fn:Func}{cs:List vN}(hres:fn.results.toList.mapM (RJ P)=some cs){s':St}{v:AV}{h':Heap}{n':Nat}(hfin:om (results s'.env s'.heap cs) (λv=>(v,s'.heap,s'.next))=some (v,h',n'))
 {a':Act}{w':World}(hre:Reach ψ N w0 w S m A n a s' a' w'):∃cv,(Go.results fn a'.tmps).run P w'=.ok cv w'/\∃cv',(Ending.returned cv=.returned cv')/\Out ψ N w0 w S m A n w' v cv' h' n':=by
 obtain⟨S',m',A',r1,r2,r3,r4,r5,r6,r7,r8⟩:=hre;obtain⟨v1,hv1,hfin⟩:=aH hfin;cases hfin;obtain⟨cv,q1,q2⟩:=Uj (P:=P) r1 r2 hres hv1;exact⟨cv,q1,cv,rfl,S',m',A',q2,r1,r5,r6,r7,r8⟩
theorem rW.less{k fuel:Nat}(h:rW P φ ψ C fuel)(hk:k<=fuel):rW P φ ψ C k :=λnt c cc hf T hT s ex s' he=>h nt c cc hf T hT s ex s' (pU k fuel hk _ _ _ he)
theorem aeW(ids:∀f g,φ f=some g->ψ g=f){fuel nt:Nat}(hc:rW P φ ψ C fuel)(hr:∀k,k<fuel->nJ P ψ (runWith C (evC C k))){fn:Func}{R:Ending->World->Prop}{c:Code}{cc:bC}(hf:Am P φ nt c cc) :
 ∀(n:Nat),n<=fuel->∀(s:St) (ex:Ex) (s':St),evC C n cc s=some (ex,s')->(ex=.norm\/ex=.ret)->∀(w:World) (S:Nat->Prop) (m:Nat->Nat×Nat) (A:Nat->Prop) (a:Act),Inv ψ N w0 w S m A s.heap->jM ψ w S m A s.env a.tmps->(∀b,A b->b<s.next) ->
 a.tmps.size=nt->a.defers=[]->(∀a' w',Reach ψ N w0 w S m A s.next a s' a' w'->∃v,(Go.results fn a'.tmps).run P w'=.ok v w'/\R (.returned v) w')->c.wp P (bodyPostD P fn R) a w:=by
 induction hf with
 |fail c=>intro n hn s ex s' he;cases n<;>simp only[evC]at he<;>cases he
 |@on x y cx cy hx hy ih=>
  intro n hn s ex s' he hex w S m A a i env hA hsz hdf hQ;match n,he with
  |0,he=>simp only[evC]at he;cases he
  |n+1,he=>
   rw[evC]at he;obtain⟨⟨e1,s1⟩,h1,he⟩:=aA he;refine wp_seq ?_;refine(hc nt x cx hx (λ_=>False) (λ_ h=>h.elim) s e1 s1 (pU n fuel qqq _ _ _ h1) N w0 w S m A a _ i env hA hsz ?_).1;rintro a1 w1 ⟨_,hre⟩;cases e1 with
   |norm=>
    simp only[cO]at he;obtain⟨S1,m1,A1,r1,r2,r3,r4,r5,r6,r7,r8⟩:=hre;refine ih n qqq s1 ex s' he hex w1 S1 m1 A1 a1 r1 r2 (λb hb=>?_) (r3.trans hsz) (r4.trans hdf) λa' w' hre=>hQ a' w' (Reach.trans r3 r4 r5 r6 r7 r8 hre);rcases r8 b hb with q | q
    ·have:=hA b q;omega
    ·exact q.2
   |ret=>simp only[cO]at he;cases he;obtain⟨v,q1,q2⟩:=hQ a1 w1 hre;obtain⟨S1,m1,A1,r1,r2,r3,r4,r5⟩:=hre;have hd1:a1.defers=[]:=r4.trans hdf;simp only[Ex.out,Exit.then,bodyPostD,hd1];exact⟨v,q1,q2⟩
   |exit id=>simp only[cO]at he;cases he;rcases hex with q | q<;>cases q
 |@here id ops l t f mm m2 b y y0 hdfd hd ht hp hb hy=>
  intro n hn s ex s' he hex w S m A a i env hA hsz hdf hQ;obtain⟨pre,mk,d,ts,fs,cs,hl,hops,d1,d2,d3,k1,k2,k3⟩:=LX hdfd;match n,he with
  |0,he=>simp only[evC]at he;cases he
  |1,he=>simp only[evC,ob]at he;cases he
  |n1+2,he=>
  rw[evC]at he;obtain⟨⟨e1,s1⟩,h1,he⟩:=aA he;rw[evC]at h1;obtain⟨sA,hA1,h1⟩:=aA h1;obtain⟨s1',hA2,h1⟩:=aH h1;cases h1;simp only[cO]at he;rw[evC]at he;obtain⟨⟨e2,s2⟩,h2,he⟩:=aA he;match n1,h2,he,hA1,hn with
  |0,h2,_,_,_=>simp only[evC]at h2;cases h2
  |n3+1,h2,he,hA1,hn=>
  rw[evC]at h2;obtain⟨⟨e3,s3⟩,h3,h2⟩:=aH h2;obtain⟨e0,h0,rfl⟩:=amK n3 hy _ _ _ h3;have hleft:(e0=.norm\/e0=.ret)/\e2=.norm/\s2=s3:=by
   cases e0 with
   |norm=>simp only[EJ,dB]at h2;cases h2;exact⟨.inl rfl,rfl,rfl⟩
   |ret=>simp only[EJ,dB,qyx]at h2;cases h2;exact⟨.inr rfl,rfl,rfl⟩
   |exit j=>
    have hne:j≠iT:=by
     rcases Ie n3 hb _ _ _ h0 with z|⟨l',z1,_⟩
     ·omega
     ·rw[z1];unfold gV iT;omega
    simp only[EJ,dB,qwx hne]at h2;cases h2;simp only[cO]at he;cases he;rcases hex with q | q<;>cases q
  obtain⟨he0,rfl,rfl⟩:=hleft;simp only[cO]at he;rw[evC]at he;obtain⟨sB,hB1,he⟩:=aA he;obtain⟨s4,hB2,he⟩:=aH he;cases he;simp only[lX]at hB1;obtain⟨dd,hD,hB3⟩:=aA hB1;clear hB1;have hB1:=hD;clear hD;cases hB3;simp only[jI,wants,jr,callOf]at hB1;have hfn:∃g' caps',get s2.env t=some (.fn g' caps'):=by
   have key:∀x,(Opd.t t).ev s2.env=x->∃g' caps',x=.fn g' caps':=by intro x hx;rw[hx]at hB1;cases x<;>first | exact⟨_,_,rfl⟩ | cases hB1
   obtain⟨g',caps',e⟩:=key _ rfl;refine⟨g',caps',?_⟩;simp only[Opd.ev]at e;cases hg:get s2.env t with
   |none=>rw[hg]at e;cases e
   |some x=>rw[hg]at e;simp only[qKq]at e;rw[e]
  obtain⟨g',caps',hg'⟩:=hfn;simp only[Opd.ev,hg',qKq,qgz,qYz]at hB1;obtain⟨called,hcall,rfl⟩:=aH hB1;have hsize:ops.size=l.length+1:=by rw[<- q6j,hops];simp
  have hat:∀j o,l[j]?=some o->ops[0+j]?=some o:=by intro j o ho;have hj:j<l.length:=(qzj.1 ho).1;rw[qXj,<- qcq,hops,qJj hj];exact ho
  have hatd:ops[l.length]?=some d:=by rw[<- qcq,hops];simp
  have hrange:List.range ops.size=List.range' 0 l.length++[l.length]:=by rw[hsize,List.range_succ,List.range_eq_range']
  refine wp_seq (wp_region ?_);rw[hrange];have hin:∀o∈l,o∈ops.toList:=λo ho=>by rw[hops];exact qiq _ ho
  refine TI (T:=λ_=>False) ids (hr (n3+1) qqq) ops _ [l.length] l 0 hat s sA hA1 w S m A a i env hA (by intro o ho x hx;rw[hsz];exact hd o (hin o ho) x hx) (λ_ _ _ _ h=>h) λa1 w1 hre1=>?_;obtain⟨_,hre1⟩:=hre1;have hmk:∃g caps,ψ g=f/\get sA.env t=some (.fn g caps):=by rw[hl,qWx]at hA1;obtain⟨sp,_,q2⟩:=BO _ _ _ _ hA1;exact ajn ids k1 k2 k3 q2
  obtain⟨g,caps,hgf,hgt⟩:=hmk;have hre1':=hre1.kL hA2;obtain⟨S1,m1,A1,r1,r2,r3,r4,r5,r6,r7,r8⟩:=hre1';have hfn1:∃vs,a1.tmps.getD t Go.undef=.func (.func (ψ g)) #[] vs:=by obtain⟨_,_,_,_,q2,_⟩:=hre1;obtain⟨vs,e1,_,_⟩:=(q2 t _ hgt).Ep;exact⟨vs,e1⟩
  obtain⟨vs,hvs⟩:=hfn1;have hrun:(execOp a1.eval d).run P w1=.ok (.defer { target:=.fn (.func f) vs,args:=#[] }) w1:=by
   have he1:a1.eval (.tmp t)=.func (.func f) #[] vs:=by rw[<- hgf];exact hvs
   simp only[execOp,d1,resolve,he1,Deferred.ofValue,Sem.run_bind,Sem.run_pure,Result.andThen_ok,Array.map_empty,Array.append_empty]
  simp only[wpOps,hatd];have hwant:Region.wanted d (yielded ops a1.tmps)=true:=by simp[Region.wanted,d3]
  rw[qzq hwant];refine .inl ?_;simp only[Oper.wp,hrun,Oper.upon_defer,d2,Act.put,Exit.then];have hsz1:a1.tmps.size=nt:=r3.trans hsz;refine(hc nt b y0 hb (λx=>x=t) (λx hx=>hx ▸ ht) s1 e0 s2 (pU n3 fuel qqq _ _ _ h0) N w0 w1 S1 m1 A1 { a1 with defers:={ target:=.fn (.func f) vs,args:=#[] }::a1.defers } _ r1 r2 (λb hb=>?_) hsz1 ?_).1
  ·rcases r8 b hb with q | q
   ·have:=hA b q;omega
   ·exact q.2
  rintro a2 w2 ⟨hkeep,S2,m2',A2,q1,q2,q3,q4,q5,q6,q7,q8⟩;have hd2:a2.defers=[{ target:=.fn (.func f) vs,args:=#[] }]:=by rw[q4,r4,hdf]
  obtain⟨vs',e1,hn1,hv1⟩:=(q2 t _ hg').Ep;have hk:=hkeep t rfl;simp only[hvs]at hk;rw[e1]at hk;simp only[Value.func.injEq,Fn.func.injEq,quq]at hk;obtain⟨hgg,rfl⟩:=hk;have hA2':∀b,A2 b->b<s2.next:=by
   intro b hb;rcases q8 b hb with z | z
   ·rcases r8 b z with y | y
    ·have:=hA b y;omega
    ·omega
   ·exact z.2
  obtain⟨⟨fn',cb,z1,z2,z3⟩,_,hcd⟩:=NJ (hr n3 qqq) hcall q1 (λb hb=>qix (hA2' b hb)) (λhb=>qpz _ (hA2' _ hb)) hn1 hv1;have hplain:Yw P (ψ g'):=by intro fn0 c0 x1 x2;rw[hgg,hgf]at x1;rw[x1]at hp;simpa [x2]using hp
  have hleave:Leaves P fn a2.tmps R a2.defers .returning w2:=by
   rw[hd2];refine⟨by simp,.func f,vs',f,vs',rfl,?_,?_⟩
   ·simp only[invoke,q1q];exact qR (by rw[<- hgf,<- hgg];exact z1) z2 z3 _ _
   ·have:=hcd hplain .returning;rw[hgg,hgf]at this;refine this.mono ?_;rintro e u' w3 ⟨rfl,cv,rfl,S3,m3,A3,p1,p2,p3,p4,p5,p6⟩;simp only[settle,Leaves];have hreB:Reach ψ N w0 w2 S2 m2' A2 s2.next a2 ⟨dO s2.env none (bZ s2.heap (s2.next+1) caps' called).v,(bZ s2.heap (s2.next+1) caps' called).h,(bZ s2.heap (s2.next+1) caps' called).n⟩ a2 w3 :=
     ⟨S3,m3,A3,p2,q2.mono p3,rfl,rfl,p3,p4,by simp only at p5 |-;omega,λb hb=>by
      rcases p6 b hb with z | z | z
      ·exact .inl z
      ·exact .inr ⟨by omega,by simp only at p5 |-;omega⟩
      ·exact .inr ⟨by omega,z.2⟩⟩
    have hre3:=hreB.kL hB2;obtain⟨S4,m4,A4,x1,x2,x3,x4,x5,x6,x7,x8⟩:=hre3;refine hQ { a2 with defers:=a.defers } w3 ⟨S4,m4,A4,x1,x2,?_,rfl,r5.trans (q5.trans x5),λc hc hs=>r6 c hc (q6 c hc (x6 c hc hs)),by omega,λb hb=>?_⟩
    ·exact q3.trans r3
    ·rcases x8 b hb with z | z
     ·rcases q8 b z with y | y
      ·rcases r8 b y with u | u
       ·exact .inl u
       ·exact .inr ⟨u.1,by omega⟩
      ·exact .inr ⟨by omega,by omega⟩
     ·exact .inr ⟨by omega,z.2⟩
  rcases he0 with rfl | rfl
  ·exact hleave
  ·exact hleave
theorem Du:∀(n i:Nat) (k:Nat) (x:AV) (e:Env),k<i->dK n i ((k,x)::e)=dK n i e
 |0,_,_,_,_,_=>rfl
 |n+1,i,k,x,e,h=>by simp only[dK,get];rw[qwx qqq,Du n (i+1) k x e qqq]
theorem CV:∀(l:List AV) (k:Nat),dK l.length k (fF k l)=l
 |[],_=>rfl
 |x::l,k=>by simp only[qQx,dK,fF,get,qyx,qKq];rw[Du _ _ _ _ _ qqq,CV l (k+1)]
theorem KJ{Φ:Nat->FuncId->Option Nat}(hL:Linked P Φ ψ C):∀{fuel:Nat}(_:∀g,rW P (Φ g) ψ C fuel),nJ P ψ (runWith C (evC C fuel)):=by
 intro fuel;induction fuel using Nat.strongRecOn with
 |_ fuel IH=>
 intro hc g args h n v h' n' hrun;obtain⟨cf,hcf,hrun⟩:=aA hrun;split at hrun;case isFalse=>cases hrun
 rename_i hlen;obtain⟨⟨ex,s'⟩,hev,hend⟩:=aA hrun;rcases hL.fns g cf hcf with hq|⟨k,rfl,hk1,hk2⟩;case inr =>
  cases fuel with
  |zero=>simp only[evC]at hev;cases hev
  |succ fuel=>
   simp only[VJ,evC]at hev hlen;obtain⟨v0,hv0,hev⟩:=aH hev;cases hev;have hargs:dK (sK k) 0 (fF 0 args)=args:=by rw[<- hlen];exact CV args 0
   rw[hargs]at hv0;simp only[Td,results,VJ,aZ,FN,get_put,qyx,ob,om,Et,qwq,qjx]at hend;obtain⟨rfl,rfl,rfl⟩:=hend;exact⟨hk1,λN w0 w S m A cargs i hA hs hv=>hk2 args _ hv0 h n N w0 w S m A cargs i hA hs hv⟩
 obtain⟨fn,hfn,hcfn⟩:=hq;obtain⟨c0,hc0,hst⟩:=qyz.1 hcfn;obtain⟨c,hb,hname,hres0,hfit0⟩:=acQ hc0;simp only[J7,CFn.mk.injEq]at hst;have hres:fn.results.toList.mapM (RJ P)=some cf.res:=by rw[<- hst.2.1];exact hres0
 have hex:(ex=.norm\/ex=.ret)/\om (results s'.env s'.heap cf.res) (λv=>(v,s'.heap,s'.next))=some (v,h',n'):=by
  unfold Td at hend;cases ex with
  |norm=>exact⟨.inl rfl,hend⟩
  |ret=>exact⟨.inr rfl,hend⟩
  |exit id=>cases hend
 refine⟨⟨fn,c,hfn,hname,hb⟩,?_⟩;intro N w0 w S m A cargs i hA hsz hargs;have hts:(cargs++Array.replicate (fn.ntmps-cargs.size) Go.undef).size=max cargs.size fn.ntmps:=by simp;omega
 have henv:jM ψ w S m A (fF 0 args) (cargs++Array.replicate (fn.ntmps-cargs.size) Go.undef):=by
  intro s x hs;obtain⟨_,h2⟩:=Wp args 0 s x hs;have h3:=hargs s x (by simpa using h2);have hlt:s<cargs.size:=by rw[hsz];exact(qzj.1 (by simpa using h2)).1
  rw[qjq,zkz,qzq hlt,<- qjq];exact h3
 rcases hfit0 with⟨hdf,hfit0⟩|⟨hdf,hfit0⟩
 ·have hfit:Fit P (Φ g) fn.ntmps none c cf.body:=WG hfit0 _ hst.2.2.symm;have hwp:c.wp P (bodyPost P fn λe w'=>∃cv,e=.returned cv/\Out ψ N w0 w S m A n w' v cv h' n') { tmps:=cargs++Array.replicate (fn.ntmps-cargs.size) Go.undef,defers:=[] } w:=by
   refine(hc g _ c cf.body (hfit.mono (qmz cargs.size fn.ntmps)) (λ_=>False) (λ_ h=>h.elim) ⟨fF 0 args,h,n⟩ ex s' hev N w0 w S m A _ _ i henv hA hts ?_).1;rintro a' w' ⟨_,hre⟩;obtain⟨cv,q1,q2⟩:=ae9 (P:=P) hres hex.2 hre;obtain⟨_,_,_,_,_,_,r4,_⟩:=hre;rcases hex.1 with rfl | rfl
   ·exact⟨r4,cv,q1,q2⟩
   ·exact⟨r4,cv,q1,q2⟩
  exact⟨calls_of_wp hfn hb hwp,λ_ u=>callsD_of_wp hfn hb hwp⟩
 ·have hfit:Am P (Φ g) fn.ntmps c cf.body:=Yo hfit0 _ hst.2.2.symm;refine⟨calls_of_wp_defers hfn hb ?_,λhp=>?_⟩
  ·refine aeW (N:=N) (w0:=w0) (hL.ids g) (hc g) (λk hk=>IH k hk λg=>(hc g).less (Nat.le_of_lt hk)) (hfit.mono (qmz cargs.size fn.ntmps)) fuel (qxx _) ⟨fF 0 args,h,n⟩ ex s' hev hex.1 w S m A _ i henv hA hts rfl λa' w' hre=>?_;exact ae9 (P:=P) hres hex.2 hre
  ·have:=hp fn c hfn hb;rw[hdf]at this;cases this
theorem alj{Φ:Nat->FuncId->Option Nat}(hL:Linked P Φ ψ C)(hd:∀g run,nJ P ψ run->Vt P (Φ g) ψ C run):∀fuel g,rW P (Φ g) ψ C fuel:=by
 intro fuel;induction fuel with
 |zero=>intro g nt c cc _ T hT s ex s' he;simp only[evC]at he;cases he
 |succ fuel ih=>intro g;exact aa2 (hL.ids g) (ih g) (KJ hL ih) (hd g _ (KJ hL ih))
end
def fG(l:List Nat)(e e':Env):Prop:=∀s∈l,get e s=get e' s
def jT(l:List Nat)(h h':Heap):Prop:=∀b∈l,get h b=get h' b
theorem fG.left{l k:List Nat}{e e':Env}(h:fG (l++k) e e'):fG l e e':=λs hs=>h s (qiq _ hs)
theorem fG.right{l k:List Nat}{e e':Env}(h:fG (l++k) e e'):fG k e e':=λs hs=>h s (qsq _ hs)
theorem jT.left{l k:List Nat}{e e':Heap}(h:jT (l++k) e e'):jT l e e':=λs hs=>h s (qiq _ hs)
theorem jT.right{l k:List Nat}{e e':Heap}(h:jT (l++k) e e'):jT k e e':=λs hs=>h s (qsq _ hs)
theorem aT{x:Opd}{e e':Env}(h:fG x.slot e e'):x.ev e=x.ev e':=by
 cases x with
 |c v=>rfl
 |t s=>simp only[Opd.ev];rw[h s (by simp[Opd.slot])]
theorem wB{x:Option Opd}{e e':Env}(h:fG (yI x) e e'):oev e x=oev e' x:=by
 cases x with
 |none=>rfl
 |some x=>simp only[oev];rw[aT (h:fG x.slot e e')]
theorem Lr{xs:List Opd}{e e':Env}(h:fG (xs.flatMap Opd.slot) e e'):∀x∈xs,x.ev e=x.ev e':=by intro x hx;exact aT λs hs=>h s (qvq.2 ⟨x,hx,hs⟩)
theorem Ky{xs:List Opd}{e e':Env}(h:fG (xs.flatMap Opd.slot) e e'):(xs.map λx=>x.ev e)=xs.map λx=>x.ev e' :=qex λx hx=>Lr h x hx
theorem Xe{e e':Env}:∀(ps:List (Nat×Nat×Opd)) (cs:List AV),fG (ps.flatMap λp=>p.2.2.slot) e e'->qH e cs ps=qH e' cs ps:=by
 intro ps;induction ps with
 |nil=>intro cs _;rfl
 |cons p r ih=>intro cs h;obtain⟨off,n,x⟩:=p;have hx:x.ev e=x.ev e':=aT λs hs=>h s (by simp only[qgx,qWj];exact .inl hs);simp only[qH,hx];rw[ih _ λs hs=>h s (by simp only[qgx,qWj];exact .inr hs)]
theorem Xb{e e':Env}{z:Nat}:∀(ps:List (Nat×Opd)) (es:List (List AV)),fG (ps.flatMap λp=>p.2.slot) e e'->lG e z es ps=lG e' z es ps:=by
 intro ps;induction ps with
 |nil=>intro cs _;rfl
 |cons p r ih=>intro cs h;obtain⟨i,x⟩:=p;have hx:x.ev e=x.ev e':=aT λs hs=>h s (by simp only[qgx,qWj];exact .inl hs);simp only[lG,hx];rw[ih _ λs hs=>h s (by simp only[qgx,qWj];exact .inr hs)]
theorem Jt{h h':Heap}{z:Nat}{v:AV}(hh:jT (eH v) h h'):elems h z v=elems h' z v:=by
 cases v<;>try rfl
 case sl b z' i len cap ex=>simp only[elems];rw[hh b (by simp[eH])]
theorem Vz{h h':Heap}{nid zl bytes:Nat}{v:AV}{xs:List (List AV)}(hh:jT (eH v) h h'):kQ h nid zl bytes v xs=kQ h' nid zl bytes v xs:=by
 cases v<;>try rfl
 case sl b z' i len cap ex=>simp only[kQ];rw[hh b (by simp[eH])]
theorem FQ{op:COp}{e e':Env}{h h':Heap}{nid:Nat}(he:fG op.slots e e')(hh:jT (readsOf e op) h h'):aP op e h nid=aP op e' h' nid:=by
 cases op<;>simp only[COp.slots,readsOf]at he hh;case mv x=>simp only[aP,sMv];rw[aT he]
 case pick a b c=>simp only[aP,Fv];rw[aT he.left.left,aT he.left.right,aT he.right]
 case alloc z=>rfl
 case box x=>simp only[aP,agD];rw[aT he]
 case build z ps=>simp only[aP,ET];rw[Xe _ _ he]
 case aW z len ps=>simp only[aP,DY];rw[Xb _ _ he]
 case load n ag a =>
  have:=aT he;simp only[aP,aev];rw[this]at hh |-;cases hx:a.ev e'<;>try rfl
  case ptr b i o=>rw[hx]at hh;simp only[EL];rw[hh b (by simp[eH])]
 case store n a x =>
  have h1:=aT he.left;have h2:=aT he.right;simp only[aP,Qu];rw[h1]at hh |-;rw[h2];cases hx:a.ev e'<;>try rfl
  case ptr b i o=>rw[hx]at hh;simp only[BH];rw[hh b (by simp[eH])]
 case jS x=>simp only[aP,mZ];rw[aT he]
 case bin o x y=>simp only[aP,adv];rw[aT he.left,aT he.right]
 case eqv kd ks ne x y=>simp only[aP,Kq];rw[aT he.left,aT he.right]
 case un o x=>simp only[aP,sUn];rw[aT he]
 case cvt k x=>simp only[aP,Uz];rw[aT he]
 case cvs x=>simp only[aP,TD];rw[aT he]
 case cvb x=>simp only[aP,UM];rw[aT he]
 case lN f caps =>
  simp only[aP,Ec];rw[Ky he];have:(caps.all λx=>(x.ev e).cell)=caps.all λx=>(x.ev e').cell:=by rw[Bool.eq_iff_iff,qkz,qkz];exact⟨λq x hx=>by rw[<- Lr he x hx];exact q x hx,λq x hx=>by rw[Lr he x hx];exact q x hx⟩
  rw[this]
 case kP=>rfl
 case nK z b l c=>simp only[aP,Zr];rw[aT he.left,aT he.right]
 case slice z x lo hi mx=>simp only[aP,Es];rw[aT he.left.left.left,wB he.left.left.right,wB he.left.right,wB he.right]
 case gW n x lo hi =>
  have h1:=aT he.left.left;simp only[aP,BM];rw[h1]at hh |-;rw[wB he.left.right,wB he.right];cases hx:x.ev e'<;>try rfl
  case ptr b i o=>rw[hx]at hh;simp only[wo];rw[hh b (by simp[eH])]
 case fld off x=>simp only[aP,NS];rw[aT he]
 case zJ off n ag x=>simp only[aP,FW];rw[aT he]
 case idxs z x i=>simp only[aP,Gg];rw[aT he.left,aT he.right]
 case gG len z x i=>simp only[aP,FI];rw[aT he.left,aT he.right]
 case fE x i=>simp only[aP,qN];rw[aT he.left,aT he.right]
 case y8 len z ag x i=>simp only[aP,FB];rw[aT he.left,aT he.right]
 case look kd z ok m k =>
  have h1:=aT he.left;have h2:=aT he.right;simp only[aP,Nc];rw[h1]at hh |-;rw[h2];cases hx:m.ev e'<;>try rfl
  case map b=>rw[hx]at hh;simp only;rw[hh b (by simp[eH])]
 case upd kd m k v =>
  have h1:=aT he.left.left;have h2:=aT he.left.right;have h3:=aT he.right;simp only[aP,aiX];rw[h1]at hh |-;rw[h2,h3];cases hx:m.ev e'<;>try rfl
  case map b=>rw[hx]at hh;simp only;rw[hh b (by simp[eH])]
 case range x=>simp only[aP,QG];rw[aT he]
 case next x =>
  have h1:=aT he;simp only[aP,Tv];rw[h1]at hh |-;split
  ·rename_i b heq;rw[heq]at hh;rw[hh b (by simp[eH])]
  ·rfl
 case ext i x=>simp only[aP,TJ];rw[aT he]
 case call f args=>rfl
 case dY g args=>rfl
 case len kd x =>
  have h1:=aT he;simp only[aP,sLen];rw[h1]at hh |-;cases hx:x.ev e'<;>try rfl
  case map b=>rw[hx]at hh;simp only[nZ];rw[hh b (by simp[eH])]
 case cap x=>simp only[aP,sCap];rw[aT he]
 case app z b zs s x =>have h1:=aT he.left;have h2:=aT he.right;simp only[aP,VZ];rw[h1,h2]at hh |-;rw[Jt hh.right];have:∀xs,kQ h nid z.length b (s.ev e') xs=kQ h' nid z.length b (s.ev e') xs:=λxs=>Vz hh.left;simp only[this]
 case cpy z d s =>
  have h1:=aT he.left;have h2:=aT he.right;simp only[aP,ai0];rw[h1,h2]at hh |-;rw[Jt hh.right];have:∀xs,uU h z xs (d.ev e')=uU h' z xs (d.ev e'):=by
   intro xs;cases hx:d.ev e'<;>try rfl
   case sl b z' i len cap ex=>rw[hx]at hh;simp only[uU];rw[hh.left b (by simp[eH])]
   case ro z' es ex=>cases es<;>rfl
  simp only[this]
 case clr z d =>
  simp only[aP,agP];rw[aT he]at hh |-;cases hx:d.ev e'<;>try rfl
  case sl b z' i len cap ex=>rw[hx]at hh;simp only[JF];rw[hh b (by simp[eH])]
  case ro z' es ex=>cases es<;>rfl
 case mx x y=>simp only[aP,sMx];rw[aT he.left,aT he.right]
 case mn x y=>simp only[aP,sMn];rw[aT he.left,aT he.right]
 case fail=>rfl
theorem D7{op:COp}{e e':Env}(he:fG op.slots e e'):readsOf e op=readsOf e' op:=by
 cases op<;>simp only[COp.slots,readsOf]at he |-;case load n ag a=>rw[aT he]
 case gW n x lo hi=>rw[aT he.left.left]
 case store n a x=>rw[aT he.left]
 case look kd z ok m k=>rw[aT he.left]
 case upd kd m k v=>rw[aT he.left.left]
 case next x=>rw[aT he]
 case len kd x=>rw[aT he]
 case app z b zs s x=>rw[aT he.left,aT he.right]
 case cpy z d s=>rw[aT he.left,aT he.right]
 case clr z d=>rw[aT he]
theorem qW{op:COp}{e e':Env}(he:fG op.slots e e'):callOf e op=callOf e' op:=by
 cases op<;>try rfl
 case call f args=>simp only[COp.slots]at he;simp only[callOf];rw[Ky he]
 case dY g args =>simp only[COp.slots]at he;simp only[callOf];rw[Ky he.right,aT he.left]
theorem qA{o:bn}{e e':Env}(he:fG o.slots e e'):wants e o.guard=wants e' o.guard:=by
 cases hg:o.guard with
 |none=>rfl
 |some sw=>obtain⟨s,w⟩:=sw;simp only[wants];rw[he s (by simp[bn.slots,hg])]
theorem vF{α β:Type}{f g:α->Option β}:∀{l:List α},(∀x∈l,f x=g x)->aZ f l=aZ g l:=by
 intro l;induction l with
 |nil=>intro _;rfl
 |cons a l ih=>intro h;simp only[aZ];rw[h a qVx,ih λx hx=>h x (qyj _ hx)]
theorem lq{α β:Type}{f g:α->List β}{l:List α}(h:∀x∈l,f x=g x):l.flatMap f=l.flatMap g:=by
 induction l with
 |nil=>rfl
 |cons a l ih=>rw[qgx,qgx,h a qVx,ih λx hx=>h x (qyj _ hx)]
theorem CY{h h':Heap}:∀(n:Nat) (v:AV),jT (reach h n v) h h'->frz h n v=frz h' n v/\reach h n v=reach h' n v:=by
 intro n;induction n with
 |zero=>intro v _;exact⟨rfl,rfl⟩
 |succ n ih=>
  have many:∀(l:List AV),jT (l.flatMap (reach h n)) h h'->aZ (frz h n) l=aZ (frz h' n) l/\l.flatMap (reach h n)=l.flatMap (reach h' n):=by intro l hl;have each:∀x∈l,jT (reach h n x) h h':=λx hx b hb=>hl b (qvq.2 ⟨x,hx,hb⟩);exact⟨vF λx hx=>(ih x (each x hx)).1,lq λx hx=>(ih x (each x hx)).2⟩
  intro v hs;cases v<;>simp only[frz,reach]at hs |-<;>try exact⟨trivial,trivial⟩
  case ptr b i o =>
   have hb:get h b=get h' b:=hs b qqz;rw[<- hb];cases hg:get h b with
   |none=>exact⟨rfl,rfl⟩
   |some ob=>
    cases ob with
    |map es=>exact⟨rfl,rfl⟩
    |iter s p=>exact⟨rfl,rfl⟩
    |cells zb es mu=>
     rw[hg]at hs;simp only at hs |-;obtain⟨a1,a2⟩:=many ((es[i]?.getD []).drop o) λb hb=>hs b (qyj _ hb);refine⟨?_,by rw[a2]⟩;cases he:es[i]? with
     |none=>rfl
     |some cs=>rw[he]at a1;simp only[qKq]at a1;simp only[Pav.ob,a1]
  case sl b z i len cap ex =>
   have hb:get h b=get h' b:=hs b qqz;rw[<- hb];cases hg:get h b with
   |none=>exact⟨rfl,rfl⟩
   |some o=>
    cases o with
    |map es=>exact⟨rfl,rfl⟩
    |iter s p=>exact⟨rfl,rfl⟩
    |cells zb es mu=>rw[hg]at hs;simp only at hs |-;have each:∀e∈(es.drop i).take len,aZ (frz h n) e=aZ (frz h' n) e/\e.flatMap (reach h n)=e.flatMap (reach h' n):=λe he =>many e λb hb=>hs b (qyj _ (qvq.2 ⟨e,he,hb⟩));rw[vF λe he=>(each e he).1,lq λe he=>(each e he).2];exact⟨rfl,rfl⟩
  case fn f caps=>obtain⟨a,b⟩:=many caps hs;rw[a];exact⟨rfl,b⟩
  case agg cs=>obtain⟨a,b⟩:=many cs hs;rw[a];exact⟨rfl,b⟩
  case tup cs=>obtain⟨a,b⟩:=many cs hs;rw[a];exact⟨rfl,b⟩
theorem nY{h h':Heap}:∀(bs:List Nat),jT bs h h'->aY h bs=aY h' bs:=by
 intro bs;induction bs with
 |nil=>intro _;rfl
 |cons b r ih=>intro hs;simp only[aY];rw[hs b qVx,ih λx hx=>hs x (qyj _ hx)]
section
variable {C:Prog}{run:Run}
theorem zI{o:bn}{nid:Nat}{e:Env}{h:Heap}{n:Nat}{d:Did}(he:jI C run o nid e h n=some d)(hb:d.bar=false) :
 ∃u,d=⟨d.v,aS h u,d.n,false,d.rd,u.map (·.1)⟩/\(dH o.op=false->d.n=n) /\
  ∀(e':Env) (h':Heap) (n':Nat),fG o.slots e e'->jT d.rd h h'->(dH o.op=true->n'=n)->jI C run o nid e' h' n'=some ⟨d.v,aS h' u,if dH o.op=true then d.n else n',false,d.rd,u.map (·.1)⟩:=by
 unfold jI at he;split at he
 ·cases he
 ·rename_i hw;cases he;refine⟨[],rfl,λ_=>rfl,λe' h' n' hs _ hn=>?_⟩;unfold jI;rw[<- qA hs,hw];by_cases q:dH o.op=true
  ·rw[qzq q,hn q];rfl
  ·rw[qwx q];rfl
 ·rename_i hw;have hslots:∀{e':Env},fG o.slots e e'->fG o.op.slots e e':=λhs=>fG.left hs;unfold jr at he;split at he
  ·cases he
  ·rename_i f args hc;obtain⟨c,hcd,rfl⟩:=aH he;cases c with
   |whole v h1 n1=>simp[bZ]at hb
   |deep v u n1=>
    have hinl:(C.inl f&&rZ f)=true/\∃az x,aZ (frz h aC) args=some az/\sD run f az n=some x/\v=x.1/\u=Ti f (aY h (args.flatMap (reach h aC)))++x.2.1/\n1=x.2.2:=by
     unfold jy at hcd;split at hcd
     ·obtain⟨v',_,hcd⟩:=aH hcd;cases hcd
     ·split at hcd
      ·rename_i hf;obtain⟨az,hm,hcd⟩:=aA hcd;obtain⟨x,hx,hcd⟩:=aH hcd;cases hcd;exact⟨hf,az,x,hm,hx,rfl,rfl,rfl⟩
      ·split at hcd
       ·obtain⟨az,hm,hcd⟩:=aA hcd;obtain⟨x,hx,hcd⟩:=aA hcd;unfold DF at hcd;split at hcd<;>cases hcd
       ·obtain⟨r,_,hcd⟩:=aH hcd;cases hcd
    obtain⟨hf,az,x,hm,hx,rfl,rfl,rfl⟩:=hinl;have hdp:rZ f=true:=by simp only[qwz]at hf;exact hf.2
    have hin:C.inl f=true:=by simp only[qwz]at hf;exact hf.1
    have hcall:dH o.op=true:=by
     cases hop:o.op<;>rw[hop]at hc<;>simp[callOf]at hc
     ·simp only[dH];rw[hc.1];exact hdp
     ·rfl
    simp only[bZ];refine⟨_,rfl,(λq=>by rw[hcall]at q;cases q),λe' h' n' hs hr hn=>?_⟩;rw[hn hcall,qzq hcall];unfold jI;rw[<- qA hs,hw];unfold jr;rw[<- qW (hslots hs),hc];simp only;have hfr:∀x∈args,jT (reach h aC x) h h':=λx hx b hb=>hr b (qvq.2 ⟨x,hx,hb⟩);have e1:aZ (frz h aC) args=aZ (frz h' aC) args:=vF λx hx=>(CY _ x (hfr x hx)).1;have e2:args.flatMap (reach h aC)=args.flatMap (reach h' aC):=lq λx hx=>(CY _ x (hfr x hx)).2;unfold jy;rw[<- e1];simp only[hin,qox,qyx,hdp,qhj,hm,ob,hx,om,bZ];rw[<- e2,<- nY _ hr]
   |data v u=>
    have hnd:dH o.op=true->∀m:Nat,m=n->m=(bZ h n args (.data v u)).n:=λ_ m q=>q;simp only[bZ];refine⟨u,rfl,λ_=>by trivial,λe' h' n' hs hr hn=>?_⟩;have hn2:(if dH o.op=true then n else n')=n':=by
     split
     ·rename_i q;exact(hn q).symm
     ·rfl
    rw[hn2];unfold jI;rw[<- qA hs,hw];unfold jr;rw[<- qW (hslots hs),hc];simp only;have hfr:∀x∈args,jT (reach h aC x) h h':=λx hx b hb=>hr b (qvq.2 ⟨x,hx,hb⟩);have e1:aZ (frz h aC) args=aZ (frz h' aC) args:=vF λx hx=>(CY _ x (hfr x hx)).1;have e2:args.flatMap (reach h aC)=args.flatMap (reach h' aC):=lq λx hx=>(CY _ x (hfr x hx)).2;unfold jy at hcd |-;rw[<- e1];split at hcd
    ·rename_i az hfz;obtain⟨v',hv',hcd⟩:=aH hcd;cases hcd;have e3:marks h args v=marks h' args v:=by unfold marks;rw[<- e2,nY _ hr]
     simp only[hv',om,bZ];rw[e2,e3]
    ·split at hcd
     ·obtain⟨az,hm,hcd⟩:=aA hcd;obtain⟨x,hx,hcd⟩:=aH hcd;cases hcd
     rename_i hdp2;rw[qwx hdp2];split at hcd
     ·rename_i hfr2;obtain⟨az,hm,hcd⟩:=aA hcd;obtain⟨x,hx,hcd⟩:=aA hcd;rw[qzq hfr2,hm];simp only[ob,hx];rw[<- e2,<- nY _ hr,hcd];simp only[om,bZ];rw[e2]
     ·obtain⟨r,_,hcd⟩:=aH hcd;cases hcd
  ·rename_i hc;obtain⟨⟨v,u⟩,hst,rfl⟩:=aH he;have hnc:dH o.op=false:=by
    cases hop:o.op<;>rw[hop]at hc<;>simp[callOf]at hc<;>first | rfl | skip
    split at hc<;>cases hc
   refine⟨u,rfl,λ_=>rfl,λe' h' n' hs hr _=>?_⟩;rw[hnc];simp only[qxj,qWq];unfold jI;rw[<- qA hs,hw];unfold jr;rw[<- qW (hslots hs),hc];simp only;rw[<- FQ (hslots hs) hr,hst,<- D7 (hslots hs)];rfl
theorem L8{o:COp}(h:dH o=true):tZ o=true:=by cases o<;>first | rfl | (simp[dH]at h)
theorem aea{o:bn}{nid:Nat}{e:Env}{h:Heap}{n:Nat}{d:Did}(he:jI C run o nid e h n=some d)(hb:d.bar=true):tZ o.op=true:=by
 unfold jI at he;split at he
 ·cases he
 ·cases he;cases hb
 ·unfold jr at he;split at he
  ·cases he
  ·rename_i f args hc;cases hop:o.op<;>rw[hop]at hc<;>simp[callOf]at hc<;>rfl
  ·obtain⟨⟨v,u⟩,hst,rfl⟩:=aH he;cases hb
theorem acU{o:bn}{nid:Nat}{e e':Env}{h:Heap}{n:Nat}(hs:fG o.slots e e'):jI C run o nid e h n=jI C run o nid e' h n:=by unfold jI;rw[<- qA hs];unfold jr;have hs':fG o.op.slots e e':=fG.left hs;rw[<- qW hs',<- FQ hs' (λ_ _=>rfl),<- D7 hs']
end
section
variable {C:Prog}{run:Run}
theorem Tc:∀(l:List bn) (nid:Nat) (s:St) (ds0:List Did) (s':St) (ds:List Did),pO C run l nid s ds0=some (s',ds) ->
 ∃(st:Nat->St) (ds1:List Did),ds=ds0++ds1/\ds1.length=l.length/\st 0=s/\st l.length=s' /\
  ∀k o,l[k]?=some o->∃d,ds1[k]?=some d/\jI C run o (nid+k) (st k).env (st k).heap (st k).next=some d/\st (k+1)=⟨dO (st k).env o.dst d.v,d.h,d.n⟩:=by
 intro l;induction l with
 |nil=>intro nid s ds0 s' ds h;simp only[pO,qwq,qjx]at h;obtain⟨rfl,rfl⟩:=h;exact⟨λ_=>s,[],by simp,rfl,rfl,rfl,λk o hk=>by simp at hk⟩
 |cons o l ih=>
  intro nid s ds0 s' ds h;simp only[pO]at h;obtain⟨d,hd,h⟩:=aA h;obtain⟨st,ds1,h1,h2,h3,h4,h5⟩:=ih _ _ _ _ _ h;refine⟨λk=>match k with | 0=>s | k+1=>st k,d::ds1,by simp[h1],by simp[h2],rfl,by simpa using h4,?_⟩;intro k o' hk;cases k with
  |zero=>simp at hk;subst hk;exact⟨d,by simp,by simpa using hd,h3⟩
  |succ k=>
   obtain⟨d',q1,q2,q3⟩:=h5 k o' (by simpa using hk);refine⟨d',by simpa using q1,?_,q3⟩;have:nid+(k+1)=nid+1+k:=by omega
   rw[this];exact q2
theorem kY{b:Nat}:∀(u:Upd) (h:Heap),b∉u.map (·.1)->get (aS h u) b=get h b:=by
 intro u;induction u with
 |nil=>intro h _;rfl
 |cons x u ih=>
  intro h hb;obtain⟨c,o⟩:=x;simp only[qvj,qjj,not_or]at hb;simp only[aS];rw[ih _ hb.2];cases o with
  |none=>simp only[uZ,nC];rw[qwx (qYx hb.1)]
  |some o=>simp only[uZ,get_put];rw[qwx (qYx hb.1)]
theorem LQ{b:Nat}:∀(u:Upd) (h h':Heap),b∈u.map (·.1)->get (aS h u) b=get (aS h' u) b:=by
 intro u;induction u with
 |nil=>intro h h' hb;simp at hb
 |cons x u ih=>
  intro h h' hb;obtain⟨c,o⟩:=x;simp only[aS];by_cases hu:b∈u.map (·.1)
  ·exact ih _ _ hu
  ·rw[kY u _ hu,kY u _ hu];simp only[qvj,qjj]at hb;have hc:b=c:=hb.resolve_right hu;subst hc;cases o with
   |none=>simp only[uZ,nC,qyx]
   |some o=>simp only[uZ,get_put,qyx]
theorem Jw{op:COp}{e:Env}{h:Heap}{nid:Nat}{v:AV}{u:Upd}(hs:aP op e h nid=some (v,u))(hw:writes op=false)(hm:op.makes=false):u=[]:=by
 cases op<;>simp only[writes,COp.makes]at hw hm<;>try (cases hw;done)
 all_goals (first | (cases hm;done) | skip)
 all_goals simp only[aP]at hs
 case mv x=>simp only[sMv,qwq,qjx]at hs;exact hs.2.symm
 case pick c a b=>simp only[Fv]at hs;split at hs<;>cases hs;rfl
 case build z ps=>obtain⟨_,_,h⟩:=aH hs;cases h;rfl
 case load n ag a=>exact(dZ hs).2
 case jS x=>simp only[mZ]at hs;split at hs<;>cases hs<;>rfl
 case bin o x y=>exact(dZ hs).2
 case eqv kd ks ne x y=>obtain⟨_,_,h⟩:=aH hs;cases h;rfl
 case un o x=>exact(dZ hs).2
 case cvt k x=>simp only[Uz]at hs;split at hs<;>cases hs;rfl
 case cvs x=>simp only[TD]at hs;split at hs<;>cases hs;rfl
 case cvb x=>exact(dZ hs).2
 case lN f caps=>simp only[Ec]at hs;split at hs<;>cases hs;rfl
 case slice z x lo hi mx=>exact(dZ hs).2
 case fld off x=>simp only[NS]at hs;split at hs<;>cases hs<;>rfl
 case zJ off n ag x =>
  simp only[FW]at hs;split at hs
  ·exact(dZ hs).2
  ·cases hs
 case idxs z x i =>
  simp only[Gg]at hs;split at hs
  ·obtain⟨n,_,hs⟩:=aA hs;unfold uI at hs;split at hs
   ·split at hs
    ·obtain⟨_,_,hs⟩:=aA hs;cases hs;rfl
    ·cases hs
   ·split at hs<;>cases hs;rfl
   ·cases hs
  ·cases hs
 case gG len z x i =>
  simp only[FI]at hs;split at hs
  ·obtain⟨n,_,hs⟩:=aA hs;split at hs
   ·unfold uz at hs;split at hs<;>cases hs<;>rfl
   ·cases hs
  ·cases hs
 case fE x i =>
  simp only[qN]at hs;split at hs
  ·obtain⟨n,_,hs⟩:=aA hs;obtain⟨_,_,hs⟩:=aA hs;cases hs;rfl
  ·cases hs
 case y8 len z ag x i =>
  simp only[FB]at hs;split at hs
  ·obtain⟨n,_,hs⟩:=aA hs;split at hs
   ·exact(dZ hs).2
   ·cases hs
  ·cases hs
 case look kd z ok m k =>
  simp only[Nc]at hs;split at hs
  ·split at hs
   ·cases hs;rfl
   ·exact(dZ hs).2
   ·cases hs
  ·cases hs
 case ext i x =>
  simp only[TJ]at hs;split at hs
  ·exact(dZ hs).2
  ·cases hs
 case len kd x=>exact(dZ hs).2
 case cap x=>exact(dZ hs).2
 case mx x y =>
  simp only[sMx]at hs;split at hs
  ·split at hs<;>cases hs;rfl
  ·cases hs
 case mn x y =>
  simp only[sMn]at hs;split at hs
  ·split at hs<;>cases hs;rfl
  ·cases hs
 case fail=>simp only[DT]at hs;cases hs
theorem KQ{o:bn}{nid:Nat}{e:Env}{h:Heap}{n:Nat}{d:Did}(he:jI C run o nid e h n=some d) :
 (writes o.op=false->o.op.makes=false->d.bar=false/\d.wr=[])/\(touches o.op=false->d.bar=false/\d.wr=[]/\d.rd=[]):=by
 have wt:touches o.op=false->writes o.op=false/\o.op.makes=false/\(∀e:Env,readsOf e o.op=[]):=by intro ht;cases hop:o.op<;>rw[hop]at ht<;>simp only[touches]at ht<;>first | (cases ht;done) | exact⟨rfl,rfl,λ_=>rfl⟩
 unfold jI at he;split at he
 ·cases he
 ·cases he;exact⟨λ_ _=>⟨rfl,rfl⟩,λ_=>⟨rfl,rfl,rfl⟩⟩
 ·unfold jr at he;split at he
  ·cases he
  ·rename_i f args hc;have hw:writes o.op=true:=by cases hop:o.op<;>rw[hop]at hc<;>simp[callOf]at hc<;>rfl
   exact⟨λh _=>(by rw[hw]at h;cases h),λh=>(by rw[(wt h).1]at hw;cases hw)⟩
  ·obtain⟨⟨v,u⟩,hst,rfl⟩:=aH he;refine⟨λh1 h2=>⟨rfl,?_⟩,λht=>⟨rfl,?_,?_⟩⟩
   ·rw[Jw hst h1 h2];rfl
   ·obtain⟨h1,h2,_⟩:=wt ht;rw[Jw hst h1 h2];rfl
   ·exact(wt ht).2.2 e
end
def qw(e0:Env)(dst:Nat->Option Nat)(D:Nat->Did)(L:Nat->Bool)(s:Nat):Nat->Option AV
 |0=>get e0 s
 |k+1=>if L k=true/\dst k=some s then some (D k).v else qw e0 dst D L s k
def jK(h0:Heap)(D:Nat->Did)(L:Nat->Bool)(b:Nat):Nat->Option jq
 |0=>get h0 b
 |k+1=>if L k=true/\((D k).bar=true\/b∈(D k).wr)then get (D k).h b else jK h0 D L b k
def nAt(n0:Nat)(mv:Nat->Bool)(D:Nat->Did)(L:Nat->Bool):Nat->Nat
 |0=>n0
 |k+1=>if L k=true/\mv k=true then(D k).n else nAt n0 mv D L k
section
variable {e0:Env}{h0:Heap}{n0:Nat}{mv:Nat->Bool}{dst:Nat->Option Nat}{D:Nat->Did}{L M:Nat->Bool}
theorem qJ{s:Nat}:∀(n:Nat),(∀k,k<n->L k=M k\/dst k≠some s)->qw e0 dst D L s n=qw e0 dst D M s n:=by
 intro n;induction n with
 |zero=>intro _;rfl
 |succ n ih=>
  intro h;simp only[qw];rw[ih λk hk=>h k qqq];rcases h n qqq with q | q
  ·rw[q]
  ·rw[qwx (λx=>q x.2),qwx (λx=>q x.2)]
theorem oN{b:Nat}:∀(n:Nat),(∀k,k<n->L k=M k\/((D k).bar=false/\b∉(D k).wr))->jK h0 D L b n=jK h0 D M b n:=by
 intro n;induction n with
 |zero=>intro _;rfl
 |succ n ih=>
  intro h;simp only[jK];rw[ih λk hk=>h k qqq];rcases h n qqq with q|⟨q1,q2⟩
  ·rw[q]
  ·have:¬((D n).bar=true\/b∈(D n).wr):=λx=>x.elim (λx=>by rw[q1]at x;cases x) q2;rw[qwx (λx=>this x.2),qwx (λx=>this x.2)]
theorem xZ:∀(n:Nat),(∀k,k<n->L k=M k\/mv k=false)->nAt n0 mv D L n=nAt n0 mv D M n:=by
 intro n;induction n with
 |zero=>intro _;rfl
 |succ n ih=>
  intro h;simp only[nAt];rw[ih λk hk=>h k qqq];rcases h n qqq with q | q
  ·rw[q]
  ·rw[qwx (λx=>by rw[q]at x;cases x.2),qwx (λx=>by rw[q]at x;cases x.2)]
theorem abl{s i:Nat}:∀(n:Nat),i<=n->qw e0 dst D (λk=>decide (k<i)) s n=qw e0 dst D (λ_=>true) s i:=by
 intro n;induction n with
 |zero=>
  intro h;have:i=0:=by omega
  subst this;rfl
 |succ n ih=>
  intro h;by_cases hi:i=n+1
  ·subst hi;exact qJ _ λk hk=>.inl (by simp[hk])
  ·simp only[qw];rw[qwx qqx];exact ih qqq
theorem XL{b i:Nat}:∀(n:Nat),i<=n->jK h0 D (λk=>decide (k<i)) b n=jK h0 D (λ_=>true) b i:=by
 intro n;induction n with
 |zero=>
  intro h;have:i=0:=by omega
  subst this;rfl
 |succ n ih=>
  intro h;by_cases hi:i=n+1
  ·subst hi;exact oN _ λk hk=>.inl (by simp[hk])
  ·simp only[jK];rw[qwx qqx];exact ih qqq
theorem aiU{i:Nat}:∀(n:Nat),i<=n->nAt n0 mv D (λk=>decide (k<i)) n=nAt n0 mv D (λ_=>true) i:=by
 intro n;induction n with
 |zero=>
  intro h;have:i=0:=by omega
  subst this;rfl
 |succ n ih=>
  intro h;by_cases hi:i=n+1
  ·subst hi;exact xZ _ λk hk=>.inl (by simp[hk])
  ·simp only[nAt];rw[qwx qqx];exact ih qqq
theorem aa3{s i:Nat}(hL:L i=false)(hM:∀k,M k=(decide (k=i)||L k)):∀(n:Nat),i<n->(∀k,k<n->i<k->L k=true->dst i=some s->dst k≠some s) ->
 qw e0 dst D M s n=if dst i=some s then some (D i).v else qw e0 dst D L s n:=by
 intro n;induction n with
 |zero=>intro h;omega
 |succ n ih=>
  intro h hk;simp only[qw];by_cases hi:i=n
  ·subst hi;rw[hM i,hL];simp only[qlj,qox,quq,qxj,q7x,qWq];split
   ·rfl
   ·exact qJ _ λk hk'=>.inl (by
     rw[hM k];have:k≠i:=by omega
     simp[this])
  ·rw[ih qqq λk h1 h2=>hk k qqq h2,hM n];have:¬n=i:=λe=>hi e.symm;simp only[this,zQq,qrj];by_cases hc:L n=true/\dst n=some s
   ·rw[qzq hc,qzq hc];split
    ·rename_i hd;exact absurd hc.2 (hk n qqq qqq hc.1 hd)
    ·rfl
   ·rw[qwx hc,qwx hc]
theorem WT{b i:Nat}(hL:L i=false)(hM:∀k,M k=(decide (k=i)||L k)):∀(n:Nat),i<n ->
 (∀k,k<n->i<k->L k=true->((D i).bar=true\/b∈(D i).wr)->¬((D k).bar=true\/b∈(D k).wr)) ->
 jK h0 D M b n=if (D i).bar=true\/b∈(D i).wr then get (D i).h b else jK h0 D L b n:=by
 intro n;induction n with
 |zero=>intro h;omega
 |succ n ih=>
  intro h hk;simp only[jK];by_cases hi:i=n
  ·subst hi;rw[hM i,hL];simp only[qlj,qox,quq,qxj,q7x,qWq];split
   ·rfl
   ·exact oN _ λk hk'=>.inl (by
     rw[hM k];have:k≠i:=by omega
     simp[this])
  ·rw[ih qqq λk h1 h2=>hk k qqq h2,hM n];have:¬n=i:=λe=>hi e.symm;simp only[this,zQq,qrj];by_cases hc:L n=true/\((D n).bar=true\/b∈(D n).wr)
   ·rw[qzq hc,qzq hc];split
    ·rename_i hd;exact absurd hc.2 (hk n qqq qqq hc.1 hd)
    ·rfl
   ·rw[qwx hc,qwx hc]
theorem aiQ{i:Nat}(hL:L i=false)(hM:∀k,M k=(decide (k=i)||L k)):∀(n:Nat),i<n->(∀k,k<n->i<k->L k=true->mv i=true->mv k=false) ->
 nAt n0 mv D M n=if mv i=true then(D i).n else nAt n0 mv D L n:=by
 intro n;induction n with
 |zero=>intro h;omega
 |succ n ih=>
  intro h hk;simp only[nAt];by_cases hi:i=n
  ·subst hi;rw[hM i,hL];simp only[qlj,qox,quq,qxj,q7x,qWq];split
   ·rfl
   ·exact xZ _ λk hk'=>.inl (by
     rw[hM k];have:k≠i:=by omega
     simp[this])
  ·rw[ih qqq λk h1 h2=>hk k qqq h2,hM n];have:¬n=i:=λe=>hi e.symm;simp only[this,zQq,qrj];by_cases hc:L n=true/\mv n=true
   ·rw[qzq hc,qzq hc];split
    ·rename_i hd;rw[hk n qqq qqq hc.1 hd]at hc;cases hc.2
    ·rfl
   ·rw[qwx hc,qwx hc]
end
def MK(acc:Array Nat)(o:Oper):Nat:=o.after.toList.foldl (λs e=>if Region.binds .any e then s ||| 2 ^ e.on ||| acc.getD e.on 0 else s) 0
theorem aaL{acc:Array Nat}{j:Nat}:∀(l:List Edge) (s:Nat),(l.foldl (λs e=>if Region.binds .any e then s ||| 2 ^ e.on ||| acc.getD e.on 0 else s) s).testBit j=true ->
 s.testBit j=true\/∃e∈l,Region.binds .any e=true/\(e.on=j\/(acc.getD e.on 0).testBit j=true):=by
 intro l;induction l with
 |nil=>intro s h;exact .inl h
 |cons e l ih=>
  intro s h;simp only[q0q]at h;rcases ih _ h with q|⟨e',q1,q2,q3⟩
  ·by_cases hb:Region.binds .any e=true
   ·rw[qzq hb]at q;simp only[Nat.testBit_or,qlq,Nat.testBit_two_pow,qkj]at q;rcases q with(q | q) | q
    ·exact .inl q
    ·exact .inr ⟨e,qVx,hb,.inl q⟩
    ·exact .inr ⟨e,qVx,hb,.inr q⟩
   ·rw[qwx hb]at q;exact .inl q
  ·exact .inr ⟨e',qyj _ q1,q2,q3⟩
theorem qj(g:Array Nat->Oper->Nat):∀(l:List Oper) (acc:Array Nat) (k:Nat),
 (l.foldl (λacc o=>acc.push (g acc o)) acc).size=acc.size+l.length /\
 (k<acc.size->(l.foldl (λacc o=>acc.push (g acc o)) acc)[k]?=acc[k]?):=by
 intro l;induction l with
 |nil=>intro acc k;exact⟨rfl,λ_=>rfl⟩
 |cons o l ih=>intro acc k;simp only[q0q];obtain⟨h1,h2⟩:=ih (acc.push (g acc o)) k;refine⟨by rw[h1];simp;omega,λhk=>?_⟩;rw[h2 qqx,qpx,qwx qqq]
theorem LM(g:Array Nat->Oper->Nat):∀(l:List Oper) (acc:Array Nat) (k:Nat) (o:Oper),l[k]?=some o ->
 ∃acc':Array Nat,acc'.size=acc.size+k/\(l.foldl (λacc o=>acc.push (g acc o)) acc)[acc.size+k]?=some (g acc' o) /\
  ∀j,j<acc.size+k->(l.foldl (λacc o=>acc.push (g acc o)) acc)[j]?=acc'[j]?:=by
 intro l;induction l with
 |nil=>intro acc k o h;simp at h
 |cons x l ih=>
  intro acc k o h;simp only[q0q];cases k with
  |zero=>
   simp at h;subst h;refine⟨acc,by simp,?_,λj hj=>?_⟩
   ·rw[(qj g l _ _).2 qqz];simp
   ·rw[(qj g l _ _).2 qqx,qpx,qwx qqq]
  |succ k=>
   obtain⟨acc',h1,h2,h3⟩:=ih (acc.push (g acc x)) k o (by simpa using h);have e:(acc.push (g acc x)).size+k=acc.size+(k+1):=by simp;omega
   rw[e]at h1 h2 h3;exact⟨acc',h1,h2,h3⟩
theorem Ph{ops:List Oper}{k:Nat}{o:Oper}(hk:ops[k]?=some o):∃acc:Array Nat,acc.size=k/\(ancestors ops).getD k 0=MK acc o/\∀j,j<k->(ancestors ops).getD j 0=acc.getD j 0:=by
 obtain⟨acc,h1,h2,h3⟩:=LM MK ops #[] k o hk;simp only[List.size_toArray,qJx,qXj]at h1 h2 h3;have e:∀j,(ancestors ops).getD j 0=((ops.foldl (λacc o=>acc.push (MK acc o)) (#[]:Array Nat))[j]?).getD 0:=by intro j;rw[qnq];simp[ancestors,MK]
 refine⟨acc,h1,by rw[e,h2];rfl,λj hj=>?_⟩;rw[e,h3 j hj,qjq]
theorem JC:∀(ops:List Oper) (k0:Nat),qO k0 ops=true->∀(k:Nat) (o:Oper),ops[k]?=some o->∀e∈o.after.toList,Region.binds .any e=true->e.on<k0+k:=by
 intro ops;induction ops with
 |nil=>intro k0 _ k o h;simp at h
 |cons x ops ih=>
  intro k0 h k o hk e he hb;simp only[qO,qwz]at h;cases k with
  |zero=>simp at hk;subst hk;have:=qkz.1 h.1 e he;simp only[hb,zyq,qrj]at this;rw[zjq]at this;omega
  |succ k=>have:=ih (k0+1) h.2 k o (by simpa using hk) e he hb;omega
theorem zC{ops:List Oper}(hE:qO 0 ops=true){k j:Nat}{o:Oper}(hk:ops[k]?=some o)(hj:((ancestors ops).getD k 0).testBit j=true) :
 ∃e∈o.after.toList,Region.binds .any e=true/\e.on<k/\(e.on=j\/((ancestors ops).getD e.on 0).testBit j=true):=by
 obtain⟨acc,h1,h2,h3⟩:=Ph hk;rw[h2]at hj;rcases aaL _ _ hj with q|⟨e,q1,q2,q3⟩
 ·simp at q
 ·have hlt:=JC ops 0 hE k o hk e q1 q2;rw[qXj]at hlt;exact⟨e,q1,q2,hlt,by rw[h3 _ hlt];exact q3⟩
theorem EX(ops:List Oper):(ancestors ops).length=ops.length:=by have:=(qj MK ops #[] 0).1;simpa [ancestors,MK]using this
theorem LY{anc:List Nat}{i j:Nat}(hij:i<j)(hj:j<anc.length)(hb:(anc.getD j 0).testBit i=false):(i,j)∈unordered anc:=by simp only[unordered,qvq,List.mem_range,q9q];exact⟨j,hj,i,hij,by rw[hb];rfl⟩
theorem DN{a b:List Nat}(h:meets a b=false):∀x∈a,x∉b:=by
 intro x hx hy;have:meets a b=true:=by simp only[meets,qaq,qkj];exact⟨x,hx,x,hy,rfl⟩
 rw[h]at this;cases this
structure Apart(a b:bn)(x y:Did):Prop where
 s1:∀d,a.dst=some d->d∉b.slots
 s2:∀d,a.dst=some d->b.dst≠some d
 s3:∀d,b.dst=some d->d∉a.slots
 dp:dH a.op=true->tZ b.op=false
 dp':dH b.op=true->tZ a.op=false
 rd:y.bar=false->∀c∈y.rd,x.bar=false/\c∉x.wr
 bar:y.bar=true->x.bar=false/\x.wr=[]
 wr:y.bar=false->∀c∈y.wr,x.bar=false/\c∉x.wr
 rd':x.bar=false->∀c∈x.rd,y.bar=false/\c∉y.wr
 ar0:x.bar=true->y.bar=false/\y.wr=[]
 wr':x.bar=false->∀c∈x.wr,y.bar=false/\c∉y.wr
theorem Apart.symm{a b:bn}{x y:Did}(h:Apart a b x y):Apart b a y x :=⟨h.s3,λd h1 h2=>h.s2 d h2 h1,h.s1,h.dp',h.dp,h.rd',h.ar0,h.wr',h.rd,h.bar,h.wr⟩
theorem Apart.of{a b:bn}{x y:Did}(hs:lY a b=true)(hc:clash x y=false\/(x.bar=false/\x.wr=[]/\x.rd=[])\/(y.bar=false/\y.wr=[]/\y.rd=[])\/(x.bar=false/\x.wr=[]/\y.bar=false/\y.wr=[])) :
 Apart a b x y:=by
 have hdp:(dH a.op=true->tZ b.op=false)/\(dH b.op=true->tZ a.op=false):=by
  unfold lY at hs;rw[qwz]at hs;have:=hs.1;simp only[qbz,qXq]at this;refine⟨λq=>?_,λq=>?_⟩
  ·have h1:=this.1;rw[q]at h1;simpa using h1
  ·have h1:=this.2;rw[q]at h1;simpa using h1
 have h1:(∀d,a.dst=some d->d∉b.slots)/\(∀d,a.dst=some d->b.dst≠some d)/\∀d,b.dst=some d->d∉a.slots:=by
  unfold lY at hs;rw[qwz]at hs;replace hs:=hs.2;simp only[qwz]at hs;refine⟨λd hd=>?_,λd hd=>?_,λd hd=>?_⟩
  ·have:=hs.1;rw[hd]at this;simp only[qwz,qbz,q6q,qfj]at this;exact this.1
  ·have:=hs.1;rw[hd]at this;simp only[qwz,qbz,beq_eq_false_iff_ne]at this;exact this.2
  ·have:=hs.2;rw[hd]at this;simp only[qbz,q6q,qfj]at this;exact this
 obtain⟨s1,s2,s3⟩:=h1;have nil:∀{l:List Nat}{c:Nat},l=[]->c∉l:=λh hc=>by subst h;cases hc
 have hc:(x.bar||(y.bar||(meets x.wr y.wr||(meets x.wr y.rd||meets x.rd y.wr))))=false\/(x.bar=false/\x.wr=[]/\x.rd=[])\/(y.bar=false/\y.wr=[]/\y.rd=[])\/(x.bar=false/\x.wr=[]/\y.bar=false/\y.wr=[]):=by
  rcases hc with h | h
  ·have qt:∀d:Did,quiet d=true->d.bar=false/\d.wr=[]/\d.rd=[]:=by intro d hd;simp only[quiet,qwz,qbz,qfx]at hd;exact hd
   unfold clash at h;cases qx:quiet x with
   |true=>exact .inr (.inl (qt x qx))
   |false=>
    cases qy:quiet y with
    |true=>exact .inr (.inr (.inl (qt y qy)))
    |false=>rw[qx,qy]at h;exact .inl (by simpa using h)
  ·exact .inr h
 rcases hc with h|⟨h1,h2,h3⟩|⟨h1,h2,h3⟩|⟨h1,h2,h3,h4⟩
 ·simp only[qXq]at h;obtain⟨b1,b2,m1,m2,m3⟩:=h;exact⟨s1,s2,s3,hdp.1,hdp.2,λ_ c hc=>⟨b1,λhx=>DN m2 c hx hc⟩,λhb=>(by rw[b2]at hb;cases hb),λ_ c hc=>⟨b1,λhx=>DN m1 c hx hc⟩, λ_ c hc=>⟨b2,λhx=>DN m3 c hc hx⟩,λhb=>(by rw[b1]at hb;cases hb),λ_ c hc=>⟨b2,λhx=>DN m1 c hc hx⟩⟩
 ·exact⟨s1,s2,s3,hdp.1,hdp.2,λ_ c _=>⟨h1,nil h2⟩,λ_=>⟨h1,h2⟩,λ_ c _=>⟨h1,nil h2⟩,
   λ_ c hc=>absurd hc (nil h3),λhb=>(by rw[h1]at hb;cases hb),λ_ c hc=>absurd hc (nil h2)⟩
 ·exact⟨s1,s2,s3,hdp.1,hdp.2,λ_ c hc=>absurd hc (nil h3),λhb=>(by rw[h1]at hb;cases hb),λ_ c hc=>absurd hc (nil h2),
   λ_ c _=>⟨h1,nil h2⟩,λ_=>⟨h1,h2⟩,λ_ c _=>⟨h1,nil h2⟩⟩
 ·exact⟨s1,s2,s3,hdp.1,hdp.2,λ_ c _=>⟨h1,nil h2⟩,λ_=>⟨h1,h2⟩,λ_ c _=>⟨h1,nil h2⟩,
   λ_ c _=>⟨h3,nil h4⟩,λ_=>⟨h3,h4⟩,λ_ c _=>⟨h3,nil h4⟩⟩
section
variable {P:Program}{φ:FuncId->Option Nat}{ψ:Nat->FuncId}{C:Prog}{run:Run}{N:Nat}{w0 w:World}{S:Nat->Prop}{m:Nat->Nat×Nat}{A:Nat->Prop}{a:Act}
theorem Inv.ext{h h':Heap}(i:Inv ψ N w0 w S m A h)(hh:∀b,get h' b=get h b):Inv ψ N w0 w S m A h' :=i.sub λc o hc=>by rw[<- hh c];exact hc
theorem jM.ext{e e':Env}{tmps:Array Value}(i:jM ψ w S m A e tmps)(hh:∀b,get e' b=get e b):jM ψ w S m A e' tmps :=λs v hs=>i s v (by rw[<- hh s];exact hs)
theorem JQ(e:Env)(d:Option Nat)(v:AV)(s:Nat):get (dO e d v) s=if d=some s then some v else get e s:=by
 cases d with
 |none=>simp[dO]
 |some d=>simp[dO,get_put]
def AU(P:Program)(φ:FuncId->Option Nat)(ops:Array Oper)(D:Nat->Did)(k:Nat):Bool :=(D k).bar||(match ops[k]? with | some o=>dH (cZ P φ ops o).op | none=>false)
structure Uc(C:Prog)(run:Run)(P:Program)(φ:FuncId->Option Nat)(ops:Array Oper)(base:Nat)(e0:Env)(h0:Heap)(n0:Nat)(D:Nat->Did)(st:Nat->St):Prop where
 edges:qO 0 ops.toList=true
 ap:∀(i j:Nat) (a b:Oper),ops[i]?=some a->ops[j]?=some b->i<j->((ancestors ops.toList).getD j 0).testBit i=false->Apart (cZ P φ ops a) (cZ P φ ops b) (D i) (D j)
 did:∀(k:Nat) (o:Oper),ops[k]?=some o->jI C run (cZ P φ ops o) (base+k) (st k).env (st k).heap (st k).next=some (D k)
 env:∀k s,k<=ops.size->get (st k).env s=qw e0 (λk=>(ops[k]?).bind (·.dst)) D (λ_=>true) s k
 heap:∀k b,k<=ops.size->get (st k).heap b=jK h0 D (λ_=>true) b k
 next:∀k,k<=ops.size->(st k).next=nAt n0 (AU P φ ops D) D (λ_=>true) k
theorem yg(P:Program)(φ:FuncId->Option Nat)(ops:Array Oper)(o:Oper):(cZ P φ ops o).dst=o.dst:=by unfold cZ;simp only;split<;>rfl
theorem Uc.make{ops:Array Oper}{s:St}{r:St×List Did}
 (hE:qO 0 ops.toList=true)
 (hu:(unordered (ancestors ops.toList)).all (λp=>lY ((ops.toList.map (cZ P φ ops)).getD p.1 default) ((ops.toList.map (cZ P φ ops)).getD p.2 default))=true)
 (hr:pO C run (ops.toList.map (cZ P φ ops)) s.next ⟨s.env,s.heap,s.next+(ops.toList.map (cZ P φ ops)).length⟩ []=some r)
 (hap:((unordered (ancestors ops.toList)).filter λp=>wR ((ops.toList.map (cZ P φ ops)).getD p.1 default).op ((ops.toList.map (cZ P φ ops)).getD p.2 default).op).all (apart r.2)=true) :
 ∃D st,Uc C run P φ ops s.next s.env s.heap (s.next+ops.size) D st/\r.1=st ops.size:=by
 obtain⟨s',ds⟩:=r;obtain⟨st,ds1,h1,h2,h3,h4,h5⟩:=Tc _ _ _ _ _ _ hr;simp only[qYz]at h1;subst h1;simp only[qQj,q6j]at h2 h3 h4;have at_:∀(k:Nat) (o:Oper),ops[k]?=some o->(ops.toList.map (cZ P φ ops))[k]?=some (cZ P φ ops o):=by intro k o hk;rw[qQq,qcq,hk];rfl
 have gd:∀(k:Nat) (o:Oper),ops[k]?=some o->(ops.toList.map (cZ P φ ops)).getD k default=cZ P φ ops o:=by intro k o hk;rw[qnq,at_ k o hk];rfl
 have each:∀(k:Nat) (o:Oper),ops[k]?=some o->ds[k]?=some (ds.getD k ⟨.undef,[],0,false,[],[]⟩)/\jI C run (cZ P φ ops o) (s.next+k) (st k).env (st k).heap (st k).next=some (ds.getD k ⟨.undef,[],0,false,[],[]⟩) /\
  st (k+1)=⟨dO (st k).env o.dst (ds.getD k ⟨.undef,[],0,false,[],[]⟩).v,(ds.getD k ⟨.undef,[],0,false,[],[]⟩).h,(ds.getD k ⟨.undef,[],0,false,[],[]⟩).n⟩:=by
  intro k o hk;obtain⟨d,q1,q2,q3⟩:=h5 k _ (at_ k o hk);have e:ds.getD k ⟨.undef,[],0,false,[],[]⟩=d:=by rw[qnq,q1];rfl
  rw[e];rw[yg]at q3;exact⟨q1,q2,q3⟩
 have opAt:∀k,k<ops.size->ops[k]?=some ops[k]!:=by intro k hk;rw[getElem!_pos ops k hk];exact qhz hk
 refine⟨λk=>ds.getD k ⟨.undef,[],0,false,[],[]⟩,st,⟨hE,?_,λk o hk=>(each k o hk).2.1,?_,?_,?_⟩,?_⟩
 ·intro i j a b hi hj hij hb;have hjl:j<(ancestors ops.toList).length:=by rw[EX];simpa using(qWz.1 hj).1
  have hm:=LY hij hjl hb;have hsl:=qkz.1 hu _ hm;simp only[gd i a hi,gd j b hj]at hsl;refine Apart.of hsl ?_;obtain⟨sa1,sa2⟩:=KQ (each i a hi).2.1;obtain⟨sb1,sb2⟩:=KQ (each j b hj).2.1;cases hmc:wR (cZ P φ ops a).op (cZ P φ ops b).op with
  |true=>left;have:=qkz.1 hap (i,j) (qaz.2 ⟨hm,by simp only[gd i a hi,gd j b hj];exact hmc⟩);simp only[apart,(each i a hi).1,(each j b hj).1,qbz]at this;exact this
  |false=>
   right;unfold wR at hmc;cases ta:touches (cZ P φ ops a).op with
   |false=>exact .inl (sa2 ta)
   |true=>
    cases tb:touches (cZ P φ ops b).op with
    |false=>exact .inr (.inl (sb2 tb))
    |true=>simp only[ta,tb,qhj,qlx,qXq]at hmc;obtain⟨⟨⟨c1,c2⟩,c3⟩,c4⟩:=hmc;obtain⟨x1,x2⟩:=sa1 c1 c3;obtain⟨y1,y2⟩:=sb1 c2 c4;exact .inr (.inr ⟨x1,x2,y1,y2⟩)
 ·intro k sl;induction k with
  |zero=>intro _;rw[h3];rfl
  |succ k ih=>
   intro hk;have ho:=opAt k qqq;rw[(each k _ ho).2.2,JQ];simp only[qw,quq,ho,zzj];split
   ·rfl
   ·exact ih qqq
 ·intro k b;induction k with
  |zero=>intro _;rw[h3];rfl
  |succ k ih=>
   intro hk;have ho:=opAt k qqq;rw[(each k _ ho).2.2];simp only[jK,quq];split
   ·rfl
   ·rename_i hno;simp only[not_or,Bool.not_eq_true]at hno;obtain⟨u,q1,_,_⟩:=zI (each k _ ho).2.1 hno.1;rw[<- ih qqq,q1];rw[q1]at hno;exact kY u _ hno.2
 ·intro k;induction k with
  |zero=>intro _;rw[h3];simp[nAt]
  |succ k ih=>
   intro hk;have ho:=opAt k qqq;rw[(each k _ ho).2.2];simp only[nAt,quq];split
   ·rfl
   ·rename_i hno;simp only[AU,ho,Bool.not_eq_true,qXq]at hno;obtain⟨u,_,q1,_⟩:=zI (each k _ ho).2.1 hno.1;rw[q1 hno.2];exact ih qqq
 ·exact h4.symm
def AtL(P:Program)(φ:FuncId->Option Nat)(ψ:Nat->FuncId)(N:Nat)(w0 w1:World)(S:Nat->Prop)(m:Nat->Nat×Nat)(A:Nat->Prop)(ops:Array Oper)(base:Nat)(e0:Env)(h0:Heap)(n0:Nat)(D:Nat->Did)(a0:Act)(T:Nat->Prop)(L:Nat->Bool)(a:Act)(w:World):Prop :=
 kN T a0 a/\∃S' m' A' e h n,Inv ψ N w0 w S' m' A' h/\jM ψ w S' m' A' e a.tmps/\(∀s,get e s=qw e0 (λk=>(ops[k]?).bind (·.dst)) D L s ops.size)/\(∀b,get h b=jK h0 D L b ops.size) /\
  n=nAt n0 (AU P φ ops D) D L ops.size/\a.tmps.size=a0.tmps.size/\a.defers=a0.defers/\Le w1 S m A w S' m' A'/\(∀c,c<N->S' c->S c)/\base+ops.size<=n /\
  ∀b,A' b->A b\/(∃k,k<ops.size/\L k=true/\b=base+k)\/(base+ops.size<=b/\b<n)
theorem XZ{ops:Array Oper}{base:Nat}{e0:Env}{h0:Heap}{n0:Nat}{D:Nat->Did}{st:Nat->St}(dr:Uc C run P φ ops base e0 h0 n0 D st)(hr:nJ P ψ run)(ids:∀f g,φ f=some g->ψ g=f)
 {w1:World}{a0:Act}(hA0:∀b,A b->b<base) (hd:∀o∈ops.toList,∀x,o.dst=some x->x<a0.tmps.size) {T:Nat->Prop}(hT:∀o∈ops.toList,∀x,o.dst=some x->¬T x) {L M:Nat->Bool}{i:Nat}{o:Oper}(hi:ops[i]?=some o) (hL:L i=false) (hM:∀k,M k=(decide (k=i)||L k))
 (ready:∀e∈o.after.toList,Region.binds .any e=true->L e.on=true) (clos:∀k,k<ops.size->L k=true->∀j,((ancestors ops.toList).getD k 0).testBit j=true->L j=true)
 {Q:Exit->Act->World->Prop}{K:Act->World->Prop}{a:Act}{w:World}(hat:AtL P φ ψ N w0 w1 S m A ops base e0 h0 n0 D a0 T L a w)
 (hK:∀a' w',AtL P φ ψ N w0 w1 S m A ops base e0 h0 n0 D a0 T M a' w'->K a' w'):wpOp P ops Q i K a w:=by
 obtain⟨hkt,S1,m1,A1,e,h,n,r1,r2,r3,r4,r5,r6,r7,r8,r9,r10,r11⟩:=hat;have hil:i<ops.size:=(qWz.1 hi).1;have hil':ops.toList[i]?=some o:=by simpa using hi
 have anci:∀j,((ancestors ops.toList).getD i 0).testBit j=true->L j=true:=by
  intro j hj;obtain⟨ed,q1,q2,q3,q4⟩:=zC dr.edges hil' hj;have q5:=ready ed q1 q2;rcases q4 with q | q
  ·rw[<- q];exact q5
  ·exact clos ed.on qqq q5 j q
 have differ:∀k,k<ops.size->L k=decide (k<i)\/(k≠i/\∃o',ops[k]?=some o'/\Apart (cZ P φ ops o') (cZ P φ ops o) (D k) (D i)):=by
  intro k hk;have hok:ops[k]?=some ops[k]:=qhz hk;rcases Nat.lt_trichotomy k i with q | q | q
  ·cases hLk:L k with
   |true=>exact .inl (by simp[q])
   |false=>
    refine .inr ⟨by omega,_,hok,dr.ap k i _ _ hok hi q ?_⟩;cases hb:((ancestors ops.toList).getD i 0).testBit k with
    |false=>rfl
    |true=>rw[anci k hb]at hLk;cases hLk
  ·subst q;exact .inl (by rw[hL];simp)
  ·cases hLk:L k with
   |false=>exact .inl qqx
   |true=>
    refine .inr ⟨by omega,_,hok,(dr.ap i k _ _ hi hok q ?_).symm⟩;cases hb:((ancestors ops.toList).getD k 0).testBit i with
    |false=>rfl
    |true=>rw[clos k hk hLk i hb]at hL;cases hL
 have later:∀k,k<ops.size->i<k->L k=true->∃o',ops[k]?=some o'/\Apart (cZ P φ ops o') (cZ P φ ops o) (D k) (D i):=by
  intro k hk hik hLk;rcases differ k hk with q|⟨_,q⟩
  ·rw[hLk]at q;have:k<i:=qoj q.symm;omega
  ·exact q
 have hsame:fG (cZ P φ ops o).slots (st i).env e:=by
  intro s hs;rw[dr.env i s qqq,r3 s,<- abl ops.size qqq];refine(qJ ops.size λk hk=>?_).symm;rcases differ k hk with q|⟨_,o',q1,q2⟩
  ·exact .inl q
  ·refine .inr λhdk=>?_;rw[q1]at hdk;exact q2.s1 s (by rw[yg];exact hdk) hs
 have hheap:∀b,((D i).bar=false->b∈(D i).rd)->get (st i).heap b=get h b:=by
  intro b hb;rw[dr.heap i b qqq,r4 b,<- XL ops.size qqq];refine(oN ops.size λk hk=>?_).symm;rcases differ k hk with q|⟨_,o',q1,q2⟩
  ·exact .inl q
  ·refine .inr ?_;cases hbar:(D i).bar with
   |false=>exact q2.rd hbar b (hb hbar)
   |true=>obtain⟨x1,x2⟩:=q2.bar hbar;exact⟨x1,by rw[x2];intro hx;cases hx⟩
 have hnid:¬A1 (base+i):=by
  intro hb;rcases r11 _ hb with q|⟨k,q1,q2,q3⟩|⟨q1,q2⟩
  ·have:=hA0 _ q;omega
  ·have:k=i:=by omega
   rw[this,hL]at q2;cases q2
  ·omega
 have hA1:∀b,A1 b->b<n:=by
  intro b hb;rcases r11 b hb with q|⟨k,q1,q2,q3⟩|⟨q1,q2⟩
  ·have:=hA0 _ q;omega
  ·omega
  ·exact q2
 have barCall:∀k o',ops[k]?=some o'->(D k).bar=true->tZ (cZ P φ ops o').op=true:=λk o' hk hb=>aea (dr.did k o' hk) hb;have mvl:∀k,k<ops.size->(∃o',ops[k]?=some o'/\Apart (cZ P φ ops o') (cZ P φ ops o) (D k) (D i))->AU P φ ops D i=true->AU P φ ops D k=false:=by
  rintro k hk ⟨o',x1,x2⟩ hx;simp only[AU,hi,qlq]at hx;simp only[AU,x1,qXq];rcases hx with hx | hx
  ·refine⟨(x2.bar hx).1,?_⟩;cases q:dH (cZ P φ ops o').op with
   |false=>rfl
   |true=>have:=x2.dp q;rw[barCall i o hi hx]at this;cases this
  ·have hc:=x2.dp' hx;refine⟨?_,?_⟩
   ·cases q:(D k).bar with
    |false=>rfl
    |true=>rw[barCall k o' x1 q]at hc;cases hc
   ·cases q:dH (cZ P φ ops o').op with
    |false=>rfl
    |true=>rw[L8 q]at hc;cases hc
 have hn:AU P φ ops D i=true->n=(st i).next:=by
  intro hmv;rw[r5,dr.next i qqq,<- aiU ops.size qqq];refine xZ ops.size λk hk=>?_;rcases differ k hk with q|⟨_,q⟩
  ·exact .inl q
  ·exact .inr (mvl k hk q hmv)
 have fin:∀(d:Did),d.v=(D i).v->(∀b,get d.h b=if (D i).bar=true\/b∈(D i).wr then get (D i).h b else jK h0 D L b ops.size)->d.n=(if AU P φ ops D i=true then(D i).n else n) ->
  ∀cv w',YL ψ N w0 w S1 m1 A1 (base+i) n w' cv d->K (a.put o.dst cv) w':=by
  rintro d ev eh en cv w' ⟨S2,m2,A2,q1,q2,q3,q4,q5,q6⟩;refine hK _ _ ⟨hkt.trans (kN.put (hT o (qwj hil'))),S2,m2,A2,dO e o.dst d.v,d.h,d.n,q2,(r2.mono q3).dO (λx hx=>by rw[r6];exact hd o (qwj hil') x hx) q1,λs=>?_,λb=>?_,?_,(Act.JV ..).trans r6,(Act.FT ..).trans r7,r8.trans q3,λc hc hs=>r9 c hc (q4 c hc hs),by omega,λb hb=>?_⟩
  ·rw[JQ,aa3 (s:=s) hL hM ops.size hil,ev,r3 s,hi]
   ·rfl
   ·intro k hk hik hLk hdi hdk;obtain⟨o',x1,x2⟩:=later k hk hik hLk;rw[hi]at hdi;rw[x1]at hdk;exact x2.s2 s (by rw[yg];exact hdk) (by rw[yg];exact hdi)
  ·rw[eh b,WT (b:=b) hL hM ops.size hil];intro k hk hik hLk hx hy;obtain⟨o',x1,x2⟩:=later k hk hik hLk;cases hbar:(D i).bar with
   |true=>obtain⟨y1,y2⟩:=x2.bar hbar;rw[y1,y2]at hy;rcases hy with hy | hy<;>cases hy
   |false=>rw[hbar]at hx;have hx:=hx.resolve_left qqz;obtain⟨y1,y2⟩:=x2.wr hbar b hx;rw[y1]at hy;exact y2 (hy.resolve_left qqz)
  ·rw[en,aiQ hL hM ops.size hil,r5];intro k hk hik hLk hx;exact mvl k hk (later k hk hik hLk) hx
  ·rcases q6 b hb with z | z|⟨z1,z2⟩
   ·rcases r11 b z with y|⟨k,y1,y2,y3⟩|⟨y1,y2⟩
    ·exact .inl y
    ·exact .inr (.inl ⟨k,y1,by rw[hM,y2];simp,y3⟩)
    ·exact .inr (.inr ⟨y1,by omega⟩)
   ·exact .inr (.inl ⟨i,hil,by rw[hM];simp,z⟩)
   ·exact .inr (.inr ⟨by omega,z2⟩)
 cases hbar:(D i).bar with
 |false=>
  obtain⟨u,e1,e0,e2⟩:=zI (dr.did i o hi) hbar;have hmvi:AU P φ ops D i=dH (cZ P φ ops o).op:=by simp only[AU,hbar,hi,qrj]
  have hev:=e2 e h n hsame (λb hb=>hheap b λ_=>hb) (λq=>hn (by rw[hmvi];exact q));refine adt hr hi hev ⟨r1,r2,ids⟩ hA1 hnid λcv w' hout=>fin ⟨(D i).v,aS h u,if dH (cZ P φ ops o).op=true then(D i).n else n,false,(D i).rd,u.map (·.1)⟩ rfl (λb=>?_) ?_ cv w' hout
  ·have hwr:(D i).wr=u.map (·.1):=by rw[e1]
   have hh:(D i).h=aS (st i).heap u:=by rw[e1]
   simp only[hbar,qxj,zvz,hwr,hh];by_cases hb:b∈u.map (·.1)
   ·rw[qzq hb];exact LQ u _ _ hb
   ·rw[qwx hb,<- r4 b];exact kY u _ hb
  ·rw[hmvi]
 |true=>
  have hmvi:AU P φ ops D i=true:=by simp only[AU,hbar,qox]
  have hev:=dr.did i o hi;rw[acU hsame,<- hn hmvi]at hev;have hi1:Inv ψ N w0 w S1 m1 A1 (st i).heap:=r1.ext λb=>hheap b λhx=>by rw[hbar]at hx;cases hx
  refine adt hr hi hev ⟨hi1,r2,ids⟩ hA1 hnid λcv w' hout=>fin (D i) rfl (λb=>?_) ?_ cv w' hout
  ·rw[qzq (.inl hbar)]
  ·rw[qzq hmvi]
end
section
variable {P:Program}{φ:FuncId->Option Nat}{ψ:Nat->FuncId}{C:Prog}{run:Run}{N:Nat}{w0 w:World}{S:Nat->Prop}{m:Nat->Nat×Nat}{A:Nat->Prop}{a:Act}
theorem getD_in{l:Array Bool}{k:Nat}(hk:k<l.size)(d d':Bool):l.getD k d=l.getD k d':=by simp[Array.getD,hk]
theorem TT{ops:Array Oper}{base:Nat}{e0:Env}{h0:Heap}{n0:Nat}{D:Nat->Did}{st:Nat->St}(dr:Uc C run P φ ops base e0 h0 n0 D st)(hr:nJ P ψ run)(ids:∀f g,φ f=some g->ψ g=f)
 {w1:World}{a0:Act}(hA0:∀b,A b->b<base) (hd:∀o∈ops.toList,∀x,o.dst=some x->x<a0.tmps.size) {T:Nat->Prop}(hT:∀o∈ops.toList,∀x,o.dst=some x->¬T x) {Q:Exit->Act->World->Prop}
 (hQ:∀a' w',AtL P φ ψ N w0 w1 S m A ops base e0 h0 n0 D a0 T (λ_=>true) a' w'->Q .normal a' w') :
 ∀(fuel:Nat) (listed:Array Bool) (un:List Nat) (a:Act) (w:World),listed.size=ops.size->(∀k,k<ops.size->listed.getD k false=false->k∈un)->un.length<=fuel ->
  (∀k,k<ops.size->listed.getD k false=true->∀j,((ancestors ops.toList).getD k 0).testBit j=true->listed.getD j false=true) ->
  AtL P φ ψ N w0 w1 S m A ops base e0 h0 n0 D a0 T (λk=>listed.getD k false) a w->wpAny P .any ops Q fuel listed a w:=by
 have full:∀(listed:Array Bool) (a:Act) (w:World),listed.size=ops.size->Region.ready .any ops listed=[]->AtL P φ ψ N w0 w1 S m A ops base e0 h0 n0 D a0 T (λk=>listed.getD k false) a w->Q .normal a w:=by
  intro listed a w hsz hready hat;have all:∀k,k<ops.size->listed.getD k false=true:=by
   intro k;induction k using Nat.strongRecOn with
   |_ k ih=>
    intro hk;cases hl:listed.getD k false with
    |true=>rfl
    |false=>
     have hok:ops[k]?=some ops[k]:=qhz hk;have:k∈Region.ready .any ops listed:=by refine mem_ready.2 ⟨by rw[getD_in qqq true false];exact hl,ops[k],hok,λe he hb=>?_⟩;have:=JC ops.toList 0 dr.edges k ops[k] (by rw[qcq];exact hok) e (Array.mem_toList_iff.2 he) hb;exact ih e.on qqq qqq
     rw[hready]at this;cases this
  refine hQ a w ?_;obtain⟨hkt,S1,m1,A1,e,h,n,r1,r2,r3,r4,r5,r6,r7,r8,r9,r10,r11⟩:=hat;refine⟨hkt,S1,m1,A1,e,h,n,r1,r2,λs=>?_,λb=>?_,?_,r6,r7,r8,r9,r10,λb hb=>?_⟩
  ·rw[r3 s];exact qJ _ λk hk=>.inl (all k hk)
  ·rw[r4 b];exact oN _ λk hk=>.inl (all k hk)
  ·rw[r5];exact xZ _ λk hk=>.inl (all k hk)
  ·rcases r11 b hb with q|⟨k,q1,_,q3⟩ | q
   ·exact .inl q
   ·exact .inr (.inl ⟨k,q1,rfl,q3⟩)
   ·exact .inr (.inr q)
 intro fuel;induction fuel with
 |zero=>
  intro listed un a w hsz hun hlen _ hat;have hun0:un=[]:=qZq.1 qqq;have:Region.ready .any ops listed=[]:=by rw[List.eq_nil_iff_forall_not_mem];intro k hk;obtain⟨q1,o,q2,_⟩:=mem_ready.1 hk;have hkl:k<ops.size:=(qWz.1 q2).1;have:=hun k hkl (by rw[getD_in qqq false true];exact q1);rw[hun0]at this;cases this
  exact⟨this,full listed a w hsz this hat⟩
 |succ fuel ih=>
  intro listed un a w hsz hun hlen clos hat;refine⟨λhready=>full listed a w hsz hready hat,λi hi=>?_⟩;obtain⟨q1,o,q2,q3⟩:=mem_ready.1 hi;have hil:i<ops.size:=(qWz.1 q2).1;have hLi:listed.getD i false=false:=by rw[getD_in qqq false true];exact q1
  have hM:∀k,(listed.setIfInBounds i true).getD k false=(decide (k=i)||listed.getD k false):=by
   intro k;simp only[qjq];by_cases e:k=i
   ·subst e;have:k<listed.size:=by omega
    simp[this]
   ·rw[qbq (qYx e)];simp[e]
  have ready:∀e∈o.after.toList,Region.binds .any e=true->listed.getD e.on false=true:=λe he hb=>q3 e (by simpa using he) hb;refine XZ (L:=λk=>listed.getD k false) (M:=λk=>(listed.setIfInBounds i true).getD k false) dr hr ids hA0 hd hT q2 hLi hM ready clos hat λa' w' hat'=>?_;refine ih (listed.setIfInBounds i true) (un.erase i) a' w' (by simpa using hsz) (λk hk hl=>?_) ?_ (λk hk hl j hj=>?_) hat'
  ·rw[hM]at hl;simp only[qXq,qfj]at hl;exact(List.mem_erase_of_ne hl.1).2 (hun k hk hl.2)
  ·rw[List.length_erase_of_mem (hun i hil hLi)];omega
  ·rw[hM]at hl |-;simp only[qlq,qkj]at hl |-;right;rcases hl with rfl | hl
   ·obtain⟨ed,x1,x2,x3,x4⟩:=zC dr.edges (by simpa using q2) hj;have x5:=ready ed x1 x2;rcases x4 with x | x
    ·rw[<- x];exact x5
    ·exact clos ed.on qqq x5 j x
   ·exact clos k hk hl j hj
theorem ajo(ids:∀f g,φ f=some g->ψ g=f)(mixed:P.follows .mixedOrders=true)(hr:nJ P ψ run):Vt P φ ψ C run:=by
 intro nt id ops un live T hT hfit s r hev hap N w0 w S m A a Q i env hA hsz hQ;cases hfit with
 |draw _ _ _ hd hE hu=>
  obtain⟨D,st,dr,hend⟩:=Uc.make (C:=C) (run:=run) (P:=P) (φ:=φ) hE hu hev hap;refine wp_region_any mixed ?_;have hT':∀o∈ops.toList,∀x,o.dst=some x->¬T x:=by intro o ho x hx hTx;have:=hT x hTx;simp only[gK,zwq]at this;have:=this o ho;rw[hx]at this;simp at this
  have le:Le w S m A { w with drawn:=w.drawn+1 } S m A:=Le.wY rfl;have i':Inv ψ N w0 { w with drawn:=w.drawn+1 } S m A s.heap:=i.wY rfl rfl rfl;have none_:∀k,(Array.replicate ops.size false).getD k false=false:=by intro k;rw[qjq,Array.getElem?_replicate];split<;>rfl
  refine TT (N:=N) (w0:=w0) (S:=S) (m:=m) (A:=A) (w1:=w) (a0:=a) dr hr ids hA (λo ho x hx=>by rw[hsz];exact hd o ho x hx) hT' ?_ ops.size _ (List.range ops.size) a _ qqz (λk hk _=>List.mem_range.2 hk) qqz (λk _ hl=>by rw[none_]at hl;cases hl) ?_
  ·rintro a' w' ⟨hkt,S1,m1,A1,e,h,n,r1,r2,r3,r4,r5,r6,r7,r8,r9,r10,r11⟩;refine hQ a' w' ⟨hkt,S1,m1,A1,r1.ext λb=>?_,r2.ext λsl=>?_,r6,r7,r8,r9,?_,λb hb=>?_⟩
   ·rw[hend,dr.heap ops.size b (qxx _),r4 b]
   ·rw[hend,dr.env ops.size sl (qxx _),r3 sl]
   ·rw[hend,dr.next ops.size (qxx _),<- r5];omega
   ·rw[hend,dr.next ops.size (qxx _),<- r5];rcases r11 b hb with q|⟨k,q1,_,q3⟩|⟨q1,q2⟩
    ·exact .inl q
    ·exact .inr ⟨by omega,by omega⟩
    ·exact .inr ⟨by omega,q2⟩
  ·have e0:(λk=>(Array.replicate ops.size false).getD k false)=λ_=>false:=funext none_;rw[e0];refine⟨kN.refl _ _,S,m,A,s.env,s.heap,s.next+ops.size,i',env.mono le,λsl=>?_,λb=>?_,?_,rfl,rfl,le,λ_ _ h=>h,qxx _,λb hb=>.inl hb⟩
   ·have:∀n,qw s.env (λk=>(ops[k]?).bind (·.dst)) D (λ_=>false) sl n=get s.env sl:=by
     intro n;induction n with
     |zero=>rfl
     |succ n ih=>simp only[qw,qxj,q7x,qWq];exact ih
    exact(this _).symm
   ·have:∀n,jK s.heap D (λ_=>false) b n=get s.heap b:=by
     intro n;induction n with
     |zero=>rfl
     |succ n ih=>simp only[jK,qxj,q7x,qWq];exact ih
    exact(this _).symm
   ·have:∀n,nAt (s.next+ops.size) (AU P φ ops D) D (λ_=>false) n=s.next+ops.size:=by
     intro n;induction n with
     |zero=>rfl
     |succ n ih=>simp only[nAt,qxj,q7x,qWq];exact ih
    exact(this _).symm
theorem akP{Φ:Nat->FuncId->Option Nat}(hL:Linked P Φ ψ C)(fuel:Nat):nJ P ψ (Pav.run C fuel) :=KJ hL (alj hL (λg _ hr=>ajo (hL.ids g) hL.mixed hr) fuel)
theorem aep{Φ:Nat->FuncId->Option Nat}(hL:Linked P Φ ψ C){fuel g:Nat}{args:List AV}{v:AV}(hc:ajw C fuel g args=some v){w:World}{S:Nat->Prop}{m:Nat->Nat×Nat}{cargs:Array Value}
 (hS:∀c,S c->c<w.heap.size) (hs:cargs.size=args.length) (hv:∀(j:Nat) (x:AV),args[j]?=some x->VR ψ w S m (λ_=>False) x (cargs.getD j Go.undef)) :
 Calls P (ψ g) cargs w λe w'=>∃cv S' m',e=.returned cv/\VR ψ w' S' m' (λ_=>False) v cv/\(∀c,c<w.heap.size->w'.heap[c]?=w.heap[c]?)/\w.heap.size<=w'.heap.size/\w'.os=w.os/\w'.output=w.output:=by
 obtain⟨⟨v0,h0,n0⟩,hrun,hfv⟩:=aA hc;have hi0:Inv ψ w.heap.size w w S m (λ_=>False) ([]:Heap) :=
  ⟨λb o hb=>by simp[get]at hb,λb o hb=>by simp[get]at hb,λb o hb=>by simp[get]at hb,λb o hb=>by simp[get]at hb,λb o b' o' hb=>by simp[get]at hb,
   hS,qxx _,λ_ _=>rfl,rfl,rfl⟩
 refine Calls.mono ((akP hL fuel g args [] 0 v0 h0 n0 hrun).2 w.heap.size w w S m (λ_=>False) cargs hi0 (λb hb=>hb.elim) hs hv).1 ?_;rintro e w' ⟨cv,rfl,S',m',A',hvr,hinv,hle,hsub,_,_⟩;refine⟨cv,λc=>S' c\/∃b∈reach h0 aC v0,c=(m' b).1,m',rfl,?_,hinv.old,hinv.size,hinv.os,hinv.out⟩;exact vU hinv.obj (λb hb=>.inl hb) aC v0 v _ hfv hvr λb hb=>.inr ⟨b,hb,rfl⟩
end
end Go.Pav
end
section
namespace Go.Pw
open Go Go.Pav
def bF{α β:Type}(R:α->β->Prop)(l:List α)(l':List β):Prop:=l.length=l'.length/\∀(j:Nat) (x:α) (x':β),l[j]?=some x->l'[j]?=some x'->R x x'
namespace bF
variable {α β:Type}{R R':α->β->Prop}{l m:List α}{l' m':List β}
theorem nil:bF R [] []:=⟨rfl,λj x x' h=>by simp at h⟩
theorem cons{a:α}{b:β}(h:R a b)(t:bF R l l'):bF R (a::l) (b::l'):=by
 refine⟨by simp[t.1],λj x x' h1 h2=>?_⟩;cases j with
 |zero=>simp at h1 h2;subst h1;subst h2;exact h
 |succ j=>exact t.2 j x x' (by simpa using h1) (by simpa using h2)
theorem ade{a:α}{b:β}(t:bF R (a::l) (b::l')):R a b/\bF R l l':=by refine⟨t.2 0 a b qqz qqz,by simpa using t.1,λj x x' h1 h2=>t.2 (j+1) x x' (by simpa using h1) (by simpa using h2)⟩
theorem fD(t:bF R [] l'):l'=[]:=qZq.1 t.1.symm
theorem dI{a:α}(t:bF R (a::l) l'):∃b r,l'=b::r/\R a b/\bF R l r:=by
 cases l' with
 |nil=>simp[bF]at t
 |cons b r=>exact⟨b,r,rfl,t.ade.1,t.ade.2⟩
theorem mono(h:bF R l l')(hr:∀x x',x∈l->R x x'->R' x x'):bF R' l l':=⟨h.1,λj x x' h1 h2=>hr _ _ (qwj h1) (h.2 j x x' h1 h2)⟩
theorem get(h:bF R l l'){j:Nat}{x:α}(hj:l[j]?=some x):∃x',l'[j]?=some x'/\R x x':=by
 have hlt:j<l'.length:=by rw[<- h.1];exact(qzj.1 hj).1
 exact⟨l'[j],qqj hlt,h.2 j x _ hj (qqj hlt)⟩
theorem get'(h:bF R l l'){j:Nat}{x':β}(hj:l'[j]?=some x'):∃x,l[j]?=some x/\R x x':=by
 have hlt:j<l.length:=by rw[h.1];exact(qzj.1 hj).1
 exact⟨l[j],qqj hlt,h.2 j _ x' (qqj hlt) hj⟩
theorem take(h:bF R l l')(n:Nat):bF R (l.take n) (l'.take n):=by
 refine⟨by simp[h.1],λj x x' h1 h2=>?_⟩;rw[qJz]at h1 h2;split at h1
 ·rename_i hj;rw[qzq hj]at h2;exact h.2 j x x' h1 h2
 ·cases h1
theorem drop(h:bF R l l')(n:Nat):bF R (l.drop n) (l'.drop n):=by refine⟨by simp[h.1],λj x x' h1 h2=>?_⟩;rw[qVz]at h1 h2;exact h.2 _ x x' h1 h2
theorem append(h:bF R l l')(k:bF R m m'):bF R (l++m) (l'++m'):=by
 refine⟨by simp[h.1,k.1],λj x x' h1 h2=>?_⟩;rw[qdz]at h1 h2;split at h1
 ·rename_i hj;rw[qzq (by rw[<- h.1];exact hj)]at h2;exact h.2 j x x' h1 h2
 ·rename_i hj;rw[qwx (by rw[<- h.1];exact hj),<- h.1]at h2;exact k.2 _ x x' h1 h2
theorem set(h:bF R l l'){n:Nat}{a:α}{b:β}(hab:R a b):bF R (l.set n a) (l'.set n b):=by
 refine⟨by simp[h.1],λj x x' h1 h2=>?_⟩;rw[qgq]at h1 h2;split at h1
 ·rename_i hj;rw[qzq hj]at h2;split at h1
  ·cases h1;split at h2
   ·cases h2;exact hab
   ·cases h2
  ·cases h1
 ·rename_i hj;rw[qwx hj]at h2;exact h.2 j x x' h1 h2
theorem replicate{a:α}{b:β}(hab:R a b)(n:Nat):bF R (List.replicate n a) (List.replicate n b):=by
 refine⟨by simp,λj x x' h1 h2=>?_⟩;rw[q1j]at h1 h2;split at h1
 ·rename_i hj;rw[qzq hj]at h2;cases h1;cases h2;exact hab
 ·cases h1
theorem map{γ δ:Type}{T:γ->δ->Prop}{f:α->γ}{g:β->δ}(h:bF R l l')(hf:∀x x',R x x'->T (f x) (g x')):bF T (l.map f) (l'.map g):=by
 refine⟨by simp[h.1],λj x x' h1 h2=>?_⟩;rw[qQq]at h1 h2;cases h3:l[j]? with
 |none=>rw[h3]at h1;cases h1
 |some a=>
  cases h4:l'[j]? with
  |none=>rw[h4]at h2;cases h2
  |some b=>rw[h3]at h1;rw[h4]at h2;cases h1;cases h2;exact hf _ _ (h.2 j a b h3 h4)
end bF
inductive VW(ρ:Nat->Nat)(V:Nat->Prop):(Nat->Prop)->AV->AV->Prop
 |undef {A:Nat->Prop}(v:AV):VW ρ V A .undef v
 |bool {A:Nat->Prop}(b:Bool):VW ρ V A (.bool b) (.bool b)
 |int {A:Nat->Prop}(k:IntKind) (n:Int):VW ρ V A (.int k n) (.int k n)
 |str {A:Nat->Prop}(s:List UInt8):VW ρ V A (.str s) (.str s)
 |eG {A:Nat->Prop}:VW ρ V A .eG .eG
 |bG {A:Nat->Prop}:VW ρ V A .bG .bG
 |dU {A:Nat->Prop}:VW ρ V A .dU .dU
 |dW {A:Nat->Prop}:VW ρ V A .dW .dW
 |jh {A:Nat->Prop}(z:Nat) (ex:Bool):VW ρ V A (.ro z [] ex) .bG
 |ro {A:Nat->Prop}(z:Nat) (es es':List (List AV)) (ex ex':Bool) (hc:∀e∈es,∀x∈e,isC x=true) (hl:es.length=es'.length) (hx:ex=true->ex'=true)
  (he:∀(i:Nat) (e e':List AV),es[i]?=some e->es'[i]?=some e'->e.length=e'.length)
  (hr:∀(i:Nat) (e e':List AV) (j:Nat) (x x':AV),es[i]?=some e->es'[i]?=some e'->e[j]?=some x->e'[j]?=some x'->VW ρ V (λ_=>False) x x') :
  VW ρ V A (.ro z es ex) (.ro z es' ex')
 |rop {A:Nat->Prop}(cs cs':List AV) (hl:cs.length=cs'.length) (hr:∀(j:Nat) (x x':AV),cs[j]?=some x->cs'[j]?=some x'->VW ρ V (λ_=>False) x x') :
  VW ρ V A (.rop cs) (.rop cs')
 |ptr {A:Nat->Prop}(b i o:Nat) (hA:A b) (hV:¬V b):VW ρ V A (.ptr b i o) (.ptr (ρ b) i o)
 |sl {A:Nat->Prop}(b z i len cap:Nat) (ex ex':Bool) (hA:A b) (hV:¬V b) (hx:ex=true->ex'=true):VW ρ V A (.sl b z i len cap ex) (.sl (ρ b) z i len cap ex')
 |slv {A:Nat->Prop}(b z:Nat) (ex:Bool) (v:AV) (hA:A b) (hV:V b) (hv:v=.bG\/v=.ro z [] true):VW ρ V A (.sl b z 0 0 0 ex) v
 |map {A:Nat->Prop}(b:Nat) (hA:A b) (hV:¬V b):VW ρ V A (.map b) (.map (ρ b))
 |fn {A:Nat->Prop}(f:Nat) (cs cs':List AV) (hl:cs.length=cs'.length) (hr:∀(j:Nat) (x x':AV),cs[j]?=some x->cs'[j]?=some x'->VW ρ V A x x'):VW ρ V A (.fn f cs) (.fn f cs')
 |agg {A:Nat->Prop}(cs cs':List AV) (hl:cs.length=cs'.length) (hr:∀(j:Nat) (x x':AV),cs[j]?=some x->cs'[j]?=some x'->VW ρ V A x x'):VW ρ V A (.agg cs) (.agg cs')
 |tup {A:Nat->Prop}(cs cs':List AV) (hl:cs.length=cs'.length) (hr:∀(j:Nat) (x x':AV),cs[j]?=some x->cs'[j]?=some x'->VW ρ V A x x'):VW ρ V A (.tup cs) (.tup cs')
abbrev VD(ρ:Nat->Nat)(V:Nat->Prop):AV->AV->Prop:=VW ρ V (λ_=>False)
section
variable {ρ ρ':Nat->Nat}{V V' A A':Nat->Prop}
theorem VW.mono{v u:AV}(h:VW ρ V A v u):∀{A':Nat->Prop},(∀b,A b->A' b/\ρ' b=ρ b/\(V' b↔V b))->VW ρ' V' A' v u:=by
 induction h with
 |undef v=>intro A' _;exact .undef v
 |bool b=>intro A' _;exact .bool b
 |int k n=>intro A' _;exact .int k n
 |str s=>intro A' _;exact .str s
 |eG=>intro A' _;exact .eG
 |bG=>intro A' _;exact .bG
 |dU=>intro A' _;exact .dU
 |dW=>intro A' _;exact .dW
 |jh z ex=>intro A' _;exact .jh z ex
 |ro z es es' ex ex' hc hl hx he _ ih=>intro A' _;exact .ro z es es' ex ex' hc hl hx he λi e e' j x x' h1 h2 h3 h4=>ih i e e' j x x' h1 h2 h3 h4 λ_ h=>h.elim
 |rop cs cs' hl _ ih=>intro A' _;exact .rop cs cs' hl λj x x' h1 h2=>ih j x x' h1 h2 λ_ h=>h.elim
 |ptr b i o hA hV=>intro A' h;obtain⟨h1,h2,h3⟩:=h b hA;rw[<- h2];exact .ptr b i o h1 (λq=>hV (h3.1 q))
 |sl b z i len cap ex ex' hA hV hx=>intro A' h;obtain⟨h1,h2,h3⟩:=h b hA;rw[<- h2];exact .sl b z i len cap ex ex' h1 (λq=>hV (h3.1 q)) hx
 |slv b z ex v hA hV hv=>intro A' h;obtain⟨h1,h2,h3⟩:=h b hA;exact .slv b z ex v h1 (h3.2 hV) hv
 |map b hA hV=>intro A' h;obtain⟨h1,h2,h3⟩:=h b hA;rw[<- h2];exact .map b h1 (λq=>hV (h3.1 q))
 |fn f cs cs' hl _ ih=>intro A' h;exact .fn f cs cs' hl λj x x' h1 h2=>ih j x x' h1 h2 h
 |agg cs cs' hl _ ih=>intro A' h;exact .agg cs cs' hl λj x x' h1 h2=>ih j x x' h1 h2 h
 |tup cs cs' hl _ ih=>intro A' h;exact .tup cs cs' hl λj x x' h1 h2=>ih j x x' h1 h2 h
theorem VW.data{v u:AV}(h:VD ρ V v u):VW ρ' V' A' v u:=h.mono λ_ q=>q.elim
theorem VW.dS{k:IntKind}{n:Int}{u:AV}(h:VW ρ V A (.int k n) u):u=.int k n:=by cases h;rfl
theorem VW.fU{b:Bool}{u:AV}(h:VW ρ V A (.bool b) u):u=.bool b:=by cases h;rfl
theorem VW.iL{s:List UInt8}{u:AV}(h:VW ρ V A (.str s) u):u=.str s:=by cases h;rfl
theorem VW.ny{cs:List AV}{u:AV}(h:VW ρ V A (.agg cs) u):∃cs',u=.agg cs'/\bF (VW ρ V A) cs cs':=by cases h with | agg _ cs' hl hr=>exact⟨cs',rfl,hl,hr⟩
theorem VW.uH{cs:List AV}{u:AV}(h:VW ρ V A (.tup cs) u):∃cs',u=.tup cs'/\bF (VW ρ V A) cs cs':=by cases h with | tup _ cs' hl hr=>exact⟨cs',rfl,hl,hr⟩
theorem VW.zW{f:Nat}{cs:List AV}{u:AV}(h:VW ρ V A (.fn f cs) u):∃cs',u=.fn f cs'/\bF (VW ρ V A) cs cs':=by cases h with | fn _ _ cs' hl hr=>exact⟨cs',rfl,hl,hr⟩
theorem VW.vC{cs:List AV}{u:AV}(h:VW ρ V A (.rop cs) u):∃cs',u=.rop cs'/\bF (VD ρ V) cs cs':=by cases h with | rop _ cs' hl hr=>exact⟨cs',rfl,⟨hl,hr⟩⟩
theorem VW.jk{b i o:Nat}{u:AV}(h:VW ρ V A (.ptr b i o) u):u=.ptr (ρ b) i o/\A b/\¬V b:=by cases h with | ptr _ _ _ hA hV=>exact⟨rfl,hA,hV⟩
theorem VW.yH{b:Nat}{u:AV}(h:VW ρ V A (.map b) u):u=.map (ρ b)/\A b/\¬V b:=by cases h with | map _ hA hV=>exact⟨rfl,hA,hV⟩
theorem VW.mJ{z:Nat}{es:List (List AV)}{ex:Bool}{u:AV}(h:VW ρ V A (.ro z es ex) u) :
 (es=[]/\u=.bG)\/∃es' ex',u=.ro z es' ex'/\(ex=true->ex'=true)/\bF (bF (VD ρ V)) es es'/\∀e∈es,∀x∈e,isC x=true:=by
 cases h with
 |jh=>exact .inl ⟨rfl,rfl⟩
 |ro _ _ es' _ ex' hc hl hx he hr=>exact .inr ⟨es',ex',rfl,hx,⟨hl,λi e e' h1 h2=>⟨he i e e' h1 h2,λj x x' h3 h4=>hr i e e' j x x' h1 h2 h3 h4⟩⟩,hc⟩
theorem VW.jQ{b z i len cap:Nat}{ex:Bool}{u:AV}(h:VW ρ V A (.sl b z i len cap ex) u) :
 (A b/\¬V b/\∃ex',u=.sl (ρ b) z i len cap ex'/\(ex=true->ex'=true))\/(A b/\V b/\i=0/\len=0/\cap=0/\(u=.bG\/u=.ro z [] true)):=by
 cases h with
 |sl _ _ _ _ _ _ ex' hA hV hx=>exact .inl ⟨hA,hV,ex',rfl,hx⟩
 |slv _ _ _ _ hA hV hv=>exact .inr ⟨hA,hV,rfl,rfl,rfl,hv⟩
theorem VW.Zz{z:Nat}{es es':List (List AV)}{ex ex':Bool}(h:bF (bF (VD ρ V)) es es')(hc:∀e∈es,∀x∈e,Pw.isC x=true)(hx:ex=true->ex'=true):VW ρ V A (.ro z es ex) (.ro z es' ex') :=.ro z es es' ex ex' hc h.1 hx (λi e e' h1 h2=>(h.2 i e e' h1 h2).1) λi e e' j x x' h1 h2 h3 h4=>(h.2 i e e' h1 h2).2 j x x' h3 h4
theorem VW.TF{cs cs':List AV}(h:bF (VD ρ V) cs cs'):VW ρ V A (.rop cs) (.rop cs'):=.rop cs cs' h.1 h.2
theorem VW.NC{cs cs':List AV}(h:bF (VW ρ V A) cs cs'):VW ρ V A (.agg cs) (.agg cs'):=.agg cs cs' h.1 h.2
theorem VW.lU{cs cs':List AV}(h:bF (VW ρ V A) cs cs'):VW ρ V A (.tup cs) (.tup cs'):=.tup cs cs' h.1 h.2
theorem VW.lN{f:Nat}{cs cs':List AV}(h:bF (VW ρ V A) cs cs'):VW ρ V A (.fn f cs) (.fn f cs'):=.fn f cs cs' h.1 h.2
theorem VW.isC{v u:AV}(h:VW ρ V A v u)(hc:isC v=true):VW ρ' V' A' v u:=by
 cases h with
 |fn f cs cs' hl hr=>
  cases cs with
  |nil=>exact .fn f [] cs' hl λj x x' h1=>by simp at h1
  |cons a r=>simp[Pw.isC]at hc
 |undef=>simp[Pw.isC]at hc
 |ptr=>simp[Pw.isC]at hc
 |sl=>simp[Pw.isC]at hc
 |slv=>simp[Pw.isC]at hc
 |map=>simp[Pw.isC]at hc
 |agg=>simp[Pw.isC]at hc
 |tup=>simp[Pw.isC]at hc
 |bool b=>exact .bool b
 |int k n=>exact .int k n
 |str s=>exact .str s
 |eG=>exact .eG
 |bG=>exact .bG
 |dU=>exact .dU
 |dW=>exact .dW
 |jh z ex=>exact .jh z ex
 |ro z es es' ex ex' hc2 hl hx he hr=>exact .ro z es es' ex ex' hc2 hl hx he λi e e' j x x' h1 h2 h3 h4=>(hr i e e' j x x' h1 h2 h3 h4).data
 |rop cs cs' hl hr=>exact .rop cs cs' hl λj x x' h1 h2=>(hr j x x' h1 h2).data
theorem VW.isD{v u:AV}(h:VW ρ V A v u)(hc:isD v=true):VW ρ' V' A' v u:=by
 cases h with
 |agg cs cs' hl hr=>simp only[Pw.isD,qkz]at hc;exact .agg cs cs' hl λj x x' h1 h2=>(hr j x x' h1 h2).isC (hc x (qwj h1))
 |undef _=>exact .undef _
 |fn f cs cs' hl hr=>exact(VW.fn f cs cs' hl hr:VW ρ V A _ _).isC hc
 |ptr=>simp[Pw.isD,Pw.isC]at hc
 |sl=>simp[Pw.isD,Pw.isC]at hc
 |slv=>simp[Pw.isD,Pw.isC]at hc
 |map=>simp[Pw.isD,Pw.isC]at hc
 |tup=>simp[Pw.isD,Pw.isC]at hc
 |bool b=>exact .bool b
 |int k n=>exact .int k n
 |str s=>exact .str s
 |eG=>exact .eG
 |bG=>exact .bG
 |dU=>exact .dU
 |dW=>exact .dW
 |jh z ex=>exact .jh z ex
 |ro z es es' ex ex' hc2 hl hx he hr=>exact .ro z es es' ex ex' hc2 hl hx he λi e e' j x x' h1 h2 h3 h4=>(hr i e e' j x x' h1 h2 h3 h4).data
 |rop cs cs' hl hr=>exact .rop cs cs' hl λj x x' h1 h2=>(hr j x x' h1 h2).data
theorem VW.cell{v u:AV}(h:VW ρ V A v u)(hc:v.cell=true):u.cell=true:=by
 cases h with
 |slv b z ex w hA hV hv=>rcases hv with e | e<;>subst e<;>rfl
 |undef=>simp[AV.cell]at hc
 |agg=>simp[AV.cell]at hc
 |tup=>simp[AV.cell]at hc
 |_=>rfl
theorem Jo{v:AV}(hc:v.cell=true):v.cells=[v]:=by cases v<;>simp_all [AV.cell,AV.cells]
theorem VW.cells{v u:AV}(h:VW ρ V A v u)(hc:v.cells.all AV.cell=true):bF (VW ρ V A) v.cells u.cells/\u.cells.all AV.cell=true:=by
 have one:∀{v u:AV},VW ρ V A v u->v.cell=true->bF (VW ρ V A) v.cells u.cells/\u.cells.all AV.cell=true:=by intro v u h hc;rw[Jo hc,Jo (h.cell hc)];exact⟨.cons h .nil,by simp[h.cell hc]⟩
 cases hv:v with
 |agg cs=>subst hv;obtain⟨cs',rfl,hr⟩:=h.ny;refine⟨hr,?_⟩;simp only[AV.cells,qkz]at hc |-;intro x' hx';obtain⟨j,hj,e⟩:=qvx hx';obtain⟨x,h1,h2⟩:=hr.get' (qqj hj);rw[e]at h2;exact h2.cell (hc x (qwj h1))
 |undef=>subst hv;simp[AV.cells,AV.cell]at hc
 |tup cs=>subst hv;simp[AV.cells,AV.cell]at hc
 |_=>subst hv;exact one h rfl
end
def OW(ρ:Nat->Nat)(V A:Nat->Prop):dD->jq->Prop
 |.cells z es mu dt,o=>∃es' mu',o=.cells z es' mu'/\(mu=true->mu'=true)/\bF (bF (VW ρ V A)) es es'/\(dt=true->∀e∈es,∀x∈e,isC x=true)
 |.map es,o=>∃es',o=.map es'/\bF (λ(x y:AV×AV)=>x.1=y.1/\VD ρ V x.2 y.2) es es'
 |.iter s p,o=>o=.iter s p
def EW(ρ:Nat->Nat)(V A:Nat->Prop)(e:Env)(e':Env):Prop:=∀k v,get e k=some v->∃v',get e' k=some v'/\VW ρ V A v v'
structure HW(ρ:Nat->Nat)(V A:Nat->Prop)(h:aI)(h':Heap):Prop where
 dom:∀b o,get h b=some o->A b
 uG:∀b o,get h b=some o->V b->∃z mu dt,o=.cells z [] mu dt
 obj:∀b o,get h b=some o->¬V b->∃o',get h' (ρ b)=some o'/\OW ρ V A o o'
 sub:∀b,V b->A b
 inj:∀b c,A b->A c->¬V b->¬V c->ρ b=ρ c->b=c
section
variable {ρ ρ':Nat->Nat}{V V' A A':Nat->Prop}
theorem OW.mono{o:dD}{o':jq}(h:OW ρ V A o o')(hm:∀b,A b->A' b/\ρ' b=ρ b/\(V' b↔V b)):OW ρ' V' A' o o':=by
 cases o with
 |cells z es mu dt=>obtain⟨es',mu',h1,h2,h3,h4⟩:=h;exact⟨es',mu',h1,h2,h3.mono λe e' _ he=>he.mono λx x' _ hx=>hx.mono hm,h4⟩
 |map es=>obtain⟨es',h1,h2⟩:=h;exact⟨es',h1,h2.mono λx x' _ hx=>⟨hx.1,hx.2.data⟩⟩
 |iter s p=>exact h
theorem EW.mono{e e':Env}(h:EW ρ V A e e')(hm:∀b,A b->A' b/\ρ' b=ρ b/\(V' b↔V b)):EW ρ' V' A' e e':=by intro k v hk;obtain⟨v',h1,h2⟩:=h k v hk;exact⟨v',h1,h2.mono hm⟩
theorem UW(l:Env)(n:Nat)(x:AV)(k:Nat):get (vP l n x) k=if n=k then some x else get l k:=by
 induction l with
 |nil=>simp[vP,Pav.get]
 |cons a r ih=>
  obtain⟨j,v⟩:=a;simp only[vP];by_cases h1:j<n
  ·simp only[h1,qyx,Pav.get]
  ·rw[qwx h1];by_cases h2:j=n
   ·subst h2;simp only[qyx,Pav.get];by_cases h3:j=k<;>simp[h3]
   ·simp only[h2,qWq,Pav.get,ih];by_cases h3:j=k
    ·subst h3;simp[qYx h2]
    ·simp[h3]
theorem EW.put{e e':Env}(h:EW ρ V A e e'){d:Nat}{v v':AV}(hv:VW ρ V A v v'):EW ρ V A (vP e d v) (put e' d v'):=by
 intro k u hk;rw[UW]at hk;rw[get_put];split at hk
 ·rename_i hd;cases hk;exact⟨v',by rw[qzq hd],hv⟩
 ·rename_i hd;rw[qwx hd];exact h k u hk
theorem EW.dO{e e':Env}(h:EW ρ V A e e'){d:Option Nat}{v v':AV}(hv:VW ρ V A v v'):EW ρ V A (fC e d v) (dO e' d v'):=by
 cases d with
 |none=>exact h
 |some d=>exact h.put hv
theorem Vx(v:AV):okV v=true->VW ρ V A v (er v):=by
 refine AV.rec (motive_1:=λv=>okV v=true->VW ρ V A v (er v)) (motive_2:=λ_=>True) (motive_3:=λl=>okL l=true->bF (VW ρ V A) l (erL l)) ?_ ?_ ?_ ?_ ?_ ?_ ?_ ?_ ?_ ?_ ?_ ?_ ?_ ?_ ?_ ?_ ?_ ?_ ?_ ?_ v
 ·intro h;simp[okV]at h
 ·intro b _;exact .bool b
 ·intro k n _;exact .int k n
 ·intro s _;exact .str s
 ·intro _;exact .eG
 ·intro _;exact .bG
 ·intro _;exact .dU
 ·intro _;exact .dW
 ·intro z es ex _ h;simp only[okV,qfx]at h;subst h;cases ex with
  |true=>exact .jh z true
  |false=>exact VW.Zz .nil (λ_ h=>by cases h) id
 ·intro cs _ h;simp[okV]at h
 ·intro b i o h;simp[okV]at h
 ·intro b z i len cap ex h;simp[okV]at h
 ·intro b h;simp[okV]at h
 ·intro f cs ih h;exact VW.lN (ih h)
 ·intro cs ih h;exact VW.NC (ih h)
 ·intro cs ih h;exact VW.lU (ih h)
 ·trivial
 ·intros;trivial
 ·intro _;exact .nil
 ·intro v r ih1 ih2 h;simp only[okL,qwz]at h;exact .cons (ih1 h.1) (ih2 h.2)
theorem zK:∀l:List AV,okL l=true->bF (VW ρ V A) l (erL l):=by
 intro l;induction l with
 |nil=>intro _;exact .nil
 |cons v r ih=>intro h;simp only[okL,qwz]at h;exact .cons (Vx v h.1) (ih h.2)
theorem EW.opd{e e':Env}(h:EW ρ V A e e'){x:Opd}(hx:okO x=true):VW ρ V A (x.ev e) ((erO x).ev e'):=by
 cases x with
 |t s=>
  simp only[Opd.ev,erO];cases hg:get e s with
  |none=>exact .undef _
  |some v=>obtain⟨v',h1,h2⟩:=h s v hg;rw[h1];exact h2
 |c v=>exact Vx v hx
end
def up(ρ:Nat->Nat)(n m:Nat):Nat->Nat:=λb=>if b=n then m else ρ b
def addN(A:Nat->Prop)(n:Nat):Nat->Prop:=λb=>A b\/b=n
def Ok2(ρ:Nat->Nat)(V A:Nat->Prop)(n m:Nat)(h:aI)(h':Heap)(r:AV×dV)(r':AV×Upd):Prop :=VW (up ρ n m) V (addN A n) r.1 r'.1/\HW (up ρ n m) V (addN A n) (bT h r.2) (aS h' r'.2)/\∀b∈r'.2.map (·.1),∃c∈r.2.map (·.1),b=up ρ n m c/\¬V c/\addN A n c
section
variable {ρ:Nat->Nat}{V A:Nat->Prop}{n m:Nat}{h:aI}{h':Heap}{e e':Env}
theorem qZ(hn:¬A n):∀b,A b->addN A n b/\up ρ n m b=ρ b/\(V b↔V b):=by intro b hb;refine⟨.inl hb,?_,zWz⟩;unfold up;rw[qwx];rintro rfl;exact hn hb
theorem HW.up(H:HW ρ V A h h')(hn:¬A n)(hm:∀b,A b->¬V b->ρ b≠m):HW (up ρ n m) V (addN A n) h h':=by
 have hu:=qZ (ρ:=ρ) (V:=V) (m:=m) hn;refine⟨λb o hb=>.inl (H.dom b o hb),H.uG,λb o hb hv=>?_,λb hb=>.inl (H.sub b hb),?_⟩
 ·obtain⟨o',h1,h2⟩:=H.obj b o hb hv;rw[(hu b (H.dom b o hb)).2.1];exact⟨o',h1,h2.mono hu⟩
 ·rintro b c (hb | rfl) (hc | rfl) vb vc hbc
  ·rw[(hu b hb).2.1,(hu c hc).2.1]at hbc;exact H.inj b c hb hc vb vc hbc
  ·rw[(hu b hb).2.1]at hbc;simp only[Pw.up,qyx]at hbc;exact absurd hbc (hm b hb vb)
  ·rw[(hu c hc).2.1]at hbc;simp only[Pw.up,qyx]at hbc;exact absurd hbc.symm (hm c hc vc)
  ·rfl
theorem aX(H:HW ρ V A h h')(hn:¬A n)(hm:∀b,A b->¬V b->ρ b≠m){v v':AV}(hv:VW ρ V A v v'):Ok2 ρ V A n m h h' (v,[]) (v',[]) :=⟨hv.mono (qZ hn),H.up hn hm,λb hb=>by simp at hb⟩
theorem qm(H:HW ρ V A h h')(hn:¬A n)(hm:∀b,A b->¬V b->ρ b≠m){o:dD}{o':jq}(ho:OW (Pw.up ρ n m) V (addN A n) o o'):HW (Pw.up ρ n m) V (addN A n) (put h n o) (put h' m o'):=by
 have K:=H.up hn hm;have hVn:¬V n:=λq=>hn (H.sub n q);have un:Pw.up ρ n m n=m:=by simp[Pw.up]
 refine⟨λb x hb=>?_,λb x hb hv=>?_,λb x hb hv=>?_,K.sub,K.inj⟩
 ·rw[get_put]at hb;split at hb
  ·rename_i q;exact .inr q.symm
  ·exact K.dom b x hb
 ·rw[get_put]at hb;split at hb
  ·rename_i q;subst q;exact absurd hv hVn
  ·exact K.uG b x hb hv
 ·rw[get_put]at hb;split at hb
  ·rename_i q;cases hb;subst q;refine⟨o',?_,ho⟩;rw[get_put,un,qzq rfl]
  ·rename_i q;obtain⟨x',h1,h2⟩:=K.obj b x hb hv;refine⟨x',?_,h2⟩;rw[get_put,qwx];exact h1;exact λq2=>q (K.inj n b (.inr rfl) (K.dom b x hb) hVn hv (un.trans q2))
theorem qc{ρ:Nat->Nat}{V A:Nat->Prop}{h:aI}{h':Heap}(H:HW ρ V A h h'){b:Nat}(hA:A b)(hV:¬V b){o:dD}{o':jq}(ho:OW ρ V A o o'):HW ρ V A (put h b o) (put h' (ρ b) o'):=by
 refine⟨λc x hc=>?_,λc x hc hv=>?_,λc x hc hv=>?_,H.sub,H.inj⟩
 ·rw[get_put]at hc;split at hc
  ·rename_i q;subst q;exact hA
  ·exact H.dom c x hc
 ·rw[get_put]at hc;split at hc
  ·rename_i q;subst q;exact absurd hv hV
  ·exact H.uG c x hc hv
 ·rw[get_put]at hc;split at hc
  ·rename_i q;subst q;cases hc;exact⟨o',by rw[get_put,qzq rfl],ho⟩
  ·rename_i q;obtain⟨x',h1,h2⟩:=H.obj c x hc hv;refine⟨x',?_,h2⟩;rw[get_put,qwx];exact h1;exact λq2=>q (H.inj b c hA (H.dom c x hc) hV hv q2)
theorem amI{ρ:Nat->Nat}{V A:Nat->Prop}{h:aI}{h':Heap}(H:HW ρ V A h h'){b:Nat}(hA:A b)(hV:¬V b):HW ρ V A (del h b) (del h' (ρ b)):=by
 refine⟨λc x hc=>?_,λc x hc hv=>?_,λc x hc hv=>?_,H.sub,H.inj⟩
 ·rw[nC]at hc;split at hc
  ·cases hc
  ·exact H.dom c x hc
 ·rw[nC]at hc;split at hc
  ·cases hc
  ·exact H.uG c x hc hv
 ·rw[nC]at hc;split at hc
  ·cases hc
  ·rename_i q;obtain⟨x',h1,h2⟩:=H.obj c x hc hv;refine⟨x',?_,h2⟩;rw[nC,qwx];exact h1;exact λq2=>q (H.inj b c hA (H.dom c x hc) hV hv q2)
theorem Ym{ρ:Nat->Nat}{V A:Nat->Prop}{h:aI}{h':Heap}(H:HW ρ V A h h'){b:Nat}:HW ρ V A (del h b) h':=by
 refine⟨λc x hc=>?_,λc x hc hv=>?_,λc x hc hv=>?_,H.sub,H.inj⟩;all_goals
  rw[nC]at hc;split at hc
  ·cases hc
  first
   |exact H.dom c x hc
   |exact H.uG c x hc hv
   |exact H.obj c x hc hv
end
section
variable {ρ:Nat->Nat}{V A:Nat->Prop}
theorem wz{cs cs':List AV}(hr:bF (VW ρ V A) cs cs'){n:Nat}{ag:Bool}{v:AV}(hv:qQ n ag cs=some v):∃v',qQ n ag cs'=some v'/\VW ρ V A v v':=by
 unfold qQ at hv |-;split at hv
 ·rename_i hag;rw[qzq hag];split at hv
  ·rename_i hn;cases hv;rw[<- hr.1,qzq hn];exact⟨_,rfl,VW.NC (hr.take n)⟩
  ·cases hv
 ·rename_i hag;rw[qwx hag];cases cs with
  |nil=>simp at hv
  |cons a r=>obtain⟨b,r',rfl,h1,_⟩:=hr.dI;simp at hv;subst hv;exact⟨b,by simp,h1⟩
theorem Nr{cs cs' v v':List AV}(hr:bF (VW ρ V A) cs cs')(hv:bF (VW ρ V A) v v')(off:Nat):bF (VW ρ V A) (splice cs off v) (splice cs' off v'):=by unfold splice;rw[hv.1];exact(hr.take off).append (hv.append (hr.drop _))
theorem ac3{e e':Env}(he:EW ρ V A e e'):∀(ps:List (Nat×Nat×Opd)) (cs cs' r:List AV),(ps.all λp=>okO p.2.2)=true->bF (VW ρ V A) cs cs'->qH e cs ps=some r ->
 ∃r',qH e' cs' (ps.map λp=>(p.1,p.2.1,erO p.2.2))=some r'/\bF (VW ρ V A) r r':=by
 intro ps;induction ps with
 |nil=>intro cs cs' r _ hr h;simp only[qH,qwq]at h;subst h;exact⟨cs',rfl,hr⟩
 |cons p ps ih=>
  intro cs cs' r hok hr h;obtain⟨off,n,x⟩:=p;simp only[qYj,qwz]at hok;simp only[qH]at h;split at h
  ·rename_i hc;obtain⟨h1,h2⟩:=(he.opd hok.1).cells hc.2.2;obtain⟨r',h3,h4⟩:=ih _ _ r hok.2 (Nr hr h1 off) h;refine⟨r',?_,h4⟩;simp only[qvj,qH];rw[qzq ⟨by rw[<- h1.1];exact hc.1,by rw[<- hr.1];exact hc.2.1,h2⟩];exact h3
  ·cases h
theorem aeb{e e':Env}(he:EW ρ V A e e')(z:Nat):∀(ps:List (Nat×Opd)) (es es' r:List (List AV)),(ps.all λp=>okO p.2)=true->bF (bF (VW ρ V A)) es es'->lG e z es ps=some r ->
 ∃r',lG e' z es' (ps.map λp=>(p.1,erO p.2))=some r'/\bF (bF (VW ρ V A)) r r':=by
 intro ps;induction ps with
 |nil=>intro cs cs' r _ hr h;simp only[lG,qwq]at h;subst h;exact⟨cs',rfl,hr⟩
 |cons p ps ih=>
  intro cs cs' r hok hr h;obtain⟨i,x⟩:=p;simp only[qYj,qwz]at hok;simp only[lG]at h;split at h
  ·rename_i hc;obtain⟨h1,h2⟩:=(he.opd hok.1).cells hc.2.2;obtain⟨r',h3,h4⟩:=ih _ _ r hok.2 (hr.set h1) h;refine⟨r',?_,h4⟩;simp only[qvj,lG];rw[qzq ⟨by rw[<- h1.1];exact hc.1,by rw[<- hr.1];exact hc.2.1,h2⟩];exact h3
  ·cases h
theorem ad8{op:BinOp}{x y x' y' v:AV}(hx:VW ρ V A x x')(hy:VW ρ V A y y')(h:zB op x y=some v):zB op x' y'=some v/\VW ρ V A v v:=by
 have binInt_leaf:∀{op k a b v},Eh op k a b=some v->VW ρ V A v v:=by intro op k a b v h;unfold Eh at h;split at h<;>first | (cases h;done) | (cases h;constructor) | (split at h<;>first | (cases h;done) | (cases h;constructor))
 have shift_leaf:∀{op k a b v},sU op k a b=some v->VW ρ V A v v:=by intro op k a b v h;unfold sU at h;split at h<;>first | (cases h;done) | (cases h;constructor)
 have binStr_leaf:∀{op a b v},Ey op a b=some v->VW ρ V A v v:=by intro op a b v h;unfold Ey at h;split at h<;>first | (cases h;done) | (cases h;constructor) | (split at h<;>first | (cases h;done) | (cases h;constructor))
 cases x with
 |int k a=>
  cases y with
  |int k' b=>
   rw[hx.dS,hy.dS];refine⟨h,?_⟩;simp only[zB]at h;split at h
   ·obtain⟨q,_,h2⟩:=aA h;exact shift_leaf h2
   ·split at h
    ·exact binInt_leaf h
    ·cases h
  |_=>simp[zB]at h
 |str a=>
  cases y with
  |str b=>rw[hx.iL,hy.iL];exact⟨h,binStr_leaf h⟩
  |_=>simp[zB]at h
 |_=>simp[zB]at h
theorem abd{x y x' y':AV}{b:Bool}(hx:VW ρ V A x x')(hy:VW ρ V A y y')(h:iD x y=some b):iD x' y'=some b:=by
 cases x with
 |int k a=>
  cases y with
  |int k' b=>rw[hx.dS,hy.dS];exact h
  |_=>simp[iD]at h
 |str a=>
  cases y with
  |str b=>rw[hx.iL,hy.iL];exact h
  |_=>simp[iD]at h
 |bool a=>
  cases y with
  |bool b=>rw[hx.fU,hy.fU];exact h
  |_=>simp[iD]at h
 |_=>simp[iD]at h
theorem Ac{kd:Nat}{x x':AV}(hx:VW ρ V A x x')(h:kM kd x=true):x'=x:=by
 cases x with
 |int k a=>exact hx.dS
 |str a=>exact hx.iL
 |bool a=>exact hx.fU
 |_=>simp[kM]at h
theorem XF:∀(ks:List Nat) {x y x' y':List AV}{b:Bool},bF (VW ρ V A) x x'->bF (VW ρ V A) y y'->iI ks x y=some b->iI ks x' y'=some b:=by
 intro ks;induction ks with
 |nil=>
  intro x y x' y' b hx hy h;cases x with
  |nil=>cases y with
   |nil=>rw[hx.fD,hy.fD];exact h
   |cons=>simp[iI]at h
  |cons=>simp[iI]at h
 |cons k ks ih=>
  intro x y x' y' b hx hy h;cases x with
  |nil=>simp[iI]at h
  |cons a r=>
   cases y with
   |nil=>simp[iI]at h
   |cons c t=>
    obtain⟨a',r',rfl,h1,h2⟩:=hx.dI;obtain⟨c',t',rfl,h3,h4⟩:=hy.dI;simp only[iI]at h |-;split at h
    ·rename_i hk;obtain⟨p,h5,h6⟩:=aA h;obtain⟨q,h7,h8⟩:=aH h6;rw[Ac h1 hk,qzq hk];have:=abd h1 h3 h5;rw[Ac h1 hk]at this;rw[this];simp only[ob];rw[ih h2 h4 h7];simp only[om,h8]
    ·cases h
theorem aaS{kd:Nat}{ks:List Nat}{x y x' y':AV}{b:Bool}(hx:VW ρ V A x x')(hy:VW ρ V A y y')(hk:kd≠0)(h:iJ kd ks x y=some b):iJ kd ks x' y'=some b:=by
 unfold iJ at h |-;rw[qwx hk]at h |-;split at h
 ·rename_i hk;rw[qzq hk];cases hx<;>cases hy<;>simp_all [eqFn]
 ·rename_i hk;rw[qwx hk];split at h
  ·rename_i hk;rw[qzq hk];cases hx<;>cases hy<;>simp_all [MX]
  ·rename_i hk;rw[qwx hk];split at h
   ·rename_i hk;rw[qzq hk];cases hx<;>cases hy<;>simp_all [Nv]
   ·rename_i hk;rw[qwx hk];split at h
    ·rename_i hk;rw[qzq hk];unfold MG at h;split at h
     ·obtain⟨c,rfl,h1⟩:=hx.ny;obtain⟨d,rfl,h2⟩:=hy.ny;exact XF ks h1 h2 h
     ·cases h
    ·rename_i hk;rw[qwx hk];unfold Ed at h;split at h
     ·rw[hx.fU,hy.fU];exact h
     ·cases h
theorem abO{x y x' y':AV}{b:Bool}(hx:VW ρ V A x x')(hy:VW ρ V A y y')(h:Yb x y=some b):XQ x' y'=some b:=by
 unfold Yb at h;split at h
 ·cases hx;cases hy;exact h
 ·cases hx;rcases hy.mJ with⟨q,_⟩|⟨es',ex',rfl,_⟩
  ·cases q
  ·exact h
 ·cases hy;rcases hx.mJ with⟨q,_⟩|⟨es',ex',rfl,_⟩
  ·cases q
  ·exact h
 ·cases h
end
section
variable {ρ:Nat->Nat}{V A:Nat->Prop}{n m:Nat}{h:aI}{h':Heap}{e e':Env}
theorem ajr{op:UnOp}{x x' v:AV}(hx:VW ρ V A x x')(h:Tn op x=some v):Tn op x'=some v/\VW ρ V A v v:=by
 cases x with
 |int k a=>rw[hx.dS];refine⟨h,?_⟩;cases op<;>simp only[Tn]at h<;>first | (cases h;done) | (cases h;constructor)
 |bool b=>rw[hx.fU];refine⟨h,?_⟩;cases op<;>simp only[Tn]at h<;>first | (cases h;done) | (cases h;constructor)
 |_=>simp[Tn]at h
theorem adN{o:Option AV}{o':Option AV}{d k:Nat}(ho:∀v,o=some v->∃v',o'=some v'/\VW ρ V A v v')(hn:o=none->o'=none)(h:bound o d=some k):bound o' d=some k:=by
 cases o with
 |none=>rw[hn rfl];exact h
 |some v=>
  obtain⟨v',rfl,hv⟩:=ho v rfl;cases v with
  |int k n=>rw[hv.dS];exact h
  |_=>simp[bound]at h
def OVW(ρ:Nat->Nat)(V A:Nat->Prop):Option AV->Option AV->Prop
 |none,none=>True
 |some v,some v'=>VW ρ V A v v'
 |_,_=>False
theorem OVW.bound{o o':Option AV}(ho:OVW ρ V A o o'){d k:Nat}(h:Pav.bound o d=some k):Pav.bound o' d=some k:=by
 cases o with
 |none=>cases o' with
  |none=>exact h
  |some v'=>exact ho.elim
 |some v=>cases o' with
  |none=>exact ho.elim
  |some v'=>exact adN (ρ:=ρ) (V:=V) (A:=A) (o:=some v) (λu hu=>by cases hu;exact⟨v',rfl,ho⟩) (λq=>by cases q) h
theorem KI{z:Nat}{es es':List (List AV)}{ex ex':Bool}{lo hi mx lo' hi' mx':Option AV}{v:AV}(hr:bF (bF (VD ρ V)) es es')(hd:∀e∈es,∀x∈e,isC x=true)(hx:ex=true->ex'=true)
 (hlo:OVW ρ V A lo lo') (hhi:OVW ρ V A hi hi') (hmx:OVW ρ V A mx mx') (h:ig z es ex lo hi mx=some v):∃v',ig z es' ex' lo' hi' mx'=some v'/\VW ρ V A v v':=by
 cases mx with
 |none=>
  cases mx' with
  |some _=>exact hmx.elim
  |none=>
   simp only[ig]at h |-;obtain⟨hh,h1,h⟩:=aA h;obtain⟨ll,h2,h⟩:=aA h;rw[<- hr.1,hhi.bound h1];simp only[ob];rw[hlo.bound h2];simp only;split at h
   ·rename_i hc;rw[qzq hc];cases h;refine⟨_,rfl,VW.Zz ((hr.take hh).drop ll) (λe he=>hd e (qJq (qXz he))) ?_⟩;simp only[qwz,qkj];rintro⟨q1,q2⟩;exact⟨hx q1,q2⟩
   ·cases h
 |some mv=>
  cases mx' with
  |none=>exact hmx.elim
  |some mv'=>
   simp only[ig]at h |-;obtain⟨mm,h1,g1⟩:=aA h;clear h;obtain⟨hv,hhv,g2⟩:=aA g1;clear g1;subst hhv;obtain⟨hh,h2,g3⟩:=aA g2;clear g2;obtain⟨ll,h3,h⟩:=aA g3;clear g3;cases hi' with
   |none=>exact hhi.elim
   |some hv'=>
    rw[OVW.bound (ρ:=ρ) (V:=V) (A:=A) (o:=some mv) (o':=some mv') hmx h1];simp only[ob];rw[OVW.bound (ρ:=ρ) (V:=V) (A:=A) (o:=some hv) (o':=some hv') hhi h2];simp only;rw[hlo.bound h3];simp only[<- hr.1];split at h
    ·rename_i hc;rw[qzq hc];cases h;exact⟨_,rfl,VW.Zz ((hr.take hh).drop ll) (λe he=>hd e (qJq (qXz he))) id⟩
    ·cases h
theorem UF{z:Nat}{ex:Bool}{lo hi mx lo' hi' mx':Option AV}{v:AV}
 (hlo:OVW ρ V A lo lo') (hhi:OVW ρ V A hi hi') (hmx:OVW ρ V A mx mx') (h:ig z [] ex lo hi mx=some v):∃v',ku lo' hi' mx'=some v'/\VW ρ V A v v':=by
 cases mx with
 |none=>
  cases mx' with
  |some _=>exact hmx.elim
  |none=>
   simp only[ig,qJx]at h;obtain⟨hh,h1,h⟩:=aA h;obtain⟨ll,h2,h⟩:=aA h;split at h
   ·rename_i hc;cases h;obtain⟨c1,c2⟩:=hc;refine⟨.bG,?_,?_⟩
    ·simp only[ku];rw[show Pav.bound none 0=some 0 from rfl];simp only[ob];rw[hhi.bound h1];simp only;rw[hlo.bound h2];simp only;rw[qzq];exact⟨by omega,by omega,by trivial,by simp⟩
    ·simp only[zwx,zwj];exact .jh _ _
   ·cases h
 |some mv=>
  cases mx' with
  |none=>exact hmx.elim
  |some mv'=>
   simp only[ig,qJx]at h;obtain⟨mm,h1,g1⟩:=aA h;clear h;obtain⟨hv,hhv,g2⟩:=aA g1;clear g1;subst hhv;obtain⟨hh,h2,g3⟩:=aA g2;clear g2;obtain⟨ll,h3,h⟩:=aA g3;clear g3;cases hi' with
   |none=>exact hhi.elim
   |some hv'=>
    split at h
    ·rename_i hc;cases h;obtain⟨c1,c2,c3⟩:=hc;refine⟨.bG,?_,?_⟩
     ·simp only[ku];rw[OVW.bound (ρ:=ρ) (V:=V) (A:=A) (o:=some mv) (o':=some mv') hmx h1];simp only[ob];rw[OVW.bound (ρ:=ρ) (V:=V) (A:=A) (o:=some hv) (o':=some hv') hhi h2];simp only;rw[hlo.bound h3];simp only;rw[qzq];exact⟨by omega,by omega,by omega,by simp⟩
     ·simp only[zwx,zwj];exact .jh _ _
    ·cases h
theorem Xh{b z i len cap:Nat}{ex ex':Bool}{lo hi mx lo' hi' mx':Option AV}{v:AV}(hA:A b)(hV:¬V b)(hx:ex=true->ex'=true)
 (hlo:OVW ρ V A lo lo') (hhi:OVW ρ V A hi hi') (hmx:OVW ρ V A mx mx') (h:nD b z i len cap ex lo hi mx=some v):∃v',nD (ρ b) z i len cap ex' lo' hi' mx'=some v'/\VW ρ V A v v':=by
 cases mx with
 |none=>
  cases mx' with
  |some _=>exact hmx.elim
  |none=>
   simp only[nD]at h |-;obtain⟨hh,h1,h⟩:=aA h;obtain⟨ll,h2,h⟩:=aA h;rw[hhi.bound h1];simp only[ob];rw[hlo.bound h2];simp only;split at h
   ·rename_i hc;rw[qzq hc];split at h
    ·rename_i hc2;rw[qzq hc2];cases h;exact⟨_,rfl,.sl _ _ _ _ _ _ _ hA hV hx⟩
    ·rename_i hc2;rw[qwx hc2];split at h
     ·rename_i hl;cases h;rw[qzq hl];exact⟨_,rfl,.sl _ _ _ _ _ _ _ hA hV hx⟩
     ·rename_i hl;cases h;rw[qwx hl];exact⟨_,rfl,.ro _ _ _ _ _ qqz rfl hx qqz qqz⟩
   ·cases h
 |some mv=>
  cases mx' with
  |none=>exact hmx.elim
  |some mv'=>
   simp only[nD]at h |-;obtain⟨mm,h1,g1⟩:=aA h;clear h;obtain⟨hv,hhv,g2⟩:=aA g1;clear g1;subst hhv;obtain⟨hh,h2,g3⟩:=aA g2;clear g2;obtain⟨ll,h3,h⟩:=aA g3;clear g3;cases hi' with
   |none=>exact hhi.elim
   |some hv'=>
    rw[OVW.bound (ρ:=ρ) (V:=V) (A:=A) (o:=some mv) (o':=some mv') hmx h1];simp only[ob];rw[OVW.bound (ρ:=ρ) (V:=V) (A:=A) (o:=some hv) (o':=some hv') hhi h2];simp only;rw[hlo.bound h3];simp only;split at h
    ·rename_i hc;rw[qzq hc];split at h
     ·rename_i hc2;rw[qzq hc2];cases h;exact⟨_,rfl,.sl _ _ _ _ _ _ _ hA hV id⟩
     ·rename_i hc2;rw[qwx hc2];cases h;exact⟨_,rfl,.sl _ _ _ _ _ _ _ hA hV id⟩
    ·cases h
theorem NQ{b z:Nat}{ex:Bool}{lo hi mx lo' hi' mx':Option AV}{v:AV}(hA:A b)(hV:V b)
 (hlo:OVW ρ V A lo lo') (hhi:OVW ρ V A hi hi') (hmx:OVW ρ V A mx mx') (h:nD b z 0 0 0 ex lo hi mx=some v) :
 ((∃v',ku lo' hi' mx'=some v'/\VW ρ V A v v')/\∃v',ig z [] true lo' hi' mx'=some v'/\VW ρ V A v v'):=by
 cases mx with
 |none=>
  cases mx' with
  |some _=>exact hmx.elim
  |none=>
   simp only[nD]at h;obtain⟨hh,h1,h⟩:=aA h;obtain⟨ll,h2,h⟩:=aA h;split at h
   ·rename_i hc;obtain⟨c1,c2,_⟩:=hc;have hv:∃ex2,v=.sl b z 0 0 0 ex2:=by
     have e1:ll=0:=by omega
     have e2:hh=0:=by omega
     subst e1;subst e2;simp only[qpz,qWq,qyx]at h;cases h;exact⟨_,rfl⟩
    obtain⟨ex2,rfl⟩:=hv;refine⟨⟨.bG,?_,.slv _ _ _ _ hA hV (.inl rfl)⟩,⟨.ro z [] true,?_,.slv _ _ _ _ hA hV (.inr rfl)⟩⟩
    ·simp only[ku];rw[show Pav.bound none 0=some 0 from rfl];simp only[ob];rw[hhi.bound h1];simp only;rw[hlo.bound h2];simp only;rw[qzq];exact⟨by omega,by omega,by trivial,by simp⟩
    ·simp only[ig,qJx];rw[hhi.bound h1];simp only[ob];rw[hlo.bound h2];simp only;rw[qzq ⟨c1,by omega⟩];have e2:hh=0:=by omega
     subst e2;simp
   ·cases h
 |some mv=>
  cases mx' with
  |none=>exact hmx.elim
  |some mv'=>
   simp only[nD]at h;obtain⟨mm,h1,g1⟩:=aA h;clear h;obtain⟨hv,hhv,g2⟩:=aA g1;clear g1;subst hhv;obtain⟨hh,h2,g3⟩:=aA g2;clear g2;obtain⟨ll,h3,h⟩:=aA g3;clear g3;cases hi' with
   |none=>exact hhi.elim
   |some hv'=>
    split at h
    ·rename_i hc;obtain⟨c1,c2,c3⟩:=hc;have hv:v=.sl b z 0 0 0 true:=by rw[qwx qqq]at h;cases h;rfl
     subst hv;refine⟨⟨.bG,?_,.slv _ _ _ _ hA hV (.inl rfl)⟩,⟨.ro z [] true,?_,.slv _ _ _ _ hA hV (.inr rfl)⟩⟩
     ·simp only[ku];rw[OVW.bound (ρ:=ρ) (V:=V) (A:=A) (o:=some mv) (o':=some mv') hmx h1];simp only[ob];rw[OVW.bound (ρ:=ρ) (V:=V) (A:=A) (o:=some hv) (o':=some hv') hhi h2];simp only;rw[hlo.bound h3];simp only;rw[qzq];exact⟨by omega,by omega,by omega,by simp⟩
     ·simp only[ig,qJx];rw[OVW.bound (ρ:=ρ) (V:=V) (A:=A) (o:=some mv) (o':=some mv') hmx h1];simp only[ob];rw[OVW.bound (ρ:=ρ) (V:=V) (A:=A) (o:=some hv) (o':=some hv') hhi h2];simp only;rw[hlo.bound h3];simp only;rw[qzq ⟨c1,c2,by omega⟩];have e2:mm=hh:=by omega
      simp[e2]
    ·cases h
theorem aiK{x x':AV}(hl:rV x=true)(h:VW ρ V A x x'):x'=x:=by cases h<;>first | rfl | (simp[rV]at hl)
theorem FZ{k:Nat}{cs cs':List AV}{lo hi lo' hi':Option AV}{v:AV}(hr:bF (VW ρ V A) cs cs')
 (hlo:OVW ρ V A lo lo') (hhi:OVW ρ V A hi hi') (h:jZ k cs lo hi=some v):∃v',jZ k cs' lo' hi'=some v'/\VW ρ V A v v':=by
 unfold jZ at h |-;split at h;case isFalse=>cases h
 rename_i hc;obtain⟨c1,c2⟩:=hc;have e:cs'.take k=cs.take k:=by
  have hk:=hr.take k;refine zqj λj=>?_;cases hj:(cs.take k)[j]? with
  |none=>rw[qtx]at hj |-;rw[<- hk.1];exact hj
  |some x=>obtain⟨x',h1,h2⟩:=hk.get hj;rw[h1,aiK (qkz.1 c2 x (qwj hj)) h2]
 rw[e,qzq ⟨by rw[<- hr.1];exact c1,c2⟩];refine KI (es:=(cs.take k).map λx=>[x]) ⟨rfl,λj x x' h1 h2=>?_⟩ (λe he x hx=>?_) id hlo hhi (mx:=none) (mx':=none) trivial h
 ·rw[h1]at h2;cases h2;rw[qQq]at h1;cases hj:(cs.take k)[j]? with
  |none=>rw[hj]at h1;cases h1
  |some y=>rw[hj]at h1;cases h1;refine .cons ?_ .nil;have:=qkz.1 c2 y (qwj hj);cases y<;>simp[rV]at this<;>constructor
 ·simp only[qkx]at he;obtain⟨y,hy,rfl⟩:=he;simp only[qjj,qfz,q5x]at hx;subst hx;have:=qkz.1 c2 x hy;cases x<;>simp[rV]at this<;>rfl
theorem XU{k:Nat}{x x':AV}{lo hi mx lo' hi' mx':Option AV}{v:AV}(hx:VW ρ V A x x')
 (hlo:OVW ρ V A lo lo') (hhi:OVW ρ V A hi hi') (hmx:OVW ρ V A mx mx') (h:gZ k x lo hi mx=some v):∃v',gZ k x' lo' hi' mx'=some v'/\VW ρ V A v v':=by
 cases x with
 |str s=>
  rw[hx.iL];simp only[gZ]at h |-;split at h
  ·rename_i hk;rw[qzq hk];cases mx with
   |some _=>simp[vX]at h
   |none=>
    cases mx' with
    |some _=>exact hmx.elim
    |none=>
     simp only[vX]at h |-;obtain⟨hh,h1,h⟩:=aA h;obtain⟨ll,h2,h⟩:=aA h;rw[hhi.bound h1];simp only[ob];rw[hlo.bound h2];simp only;split at h
     ·rename_i hc;rw[qzq hc];cases h;exact⟨_,rfl,.str _⟩
     ·cases h
  ·cases h
 |bG=>
  cases hx;simp only[gZ]at h |-;split at h
  ·cases h
  ·rename_i hk;rw[qwx hk];simp only[ku]at h |-;obtain⟨mm,h1,h⟩:=aA h;obtain⟨hh,h2,h⟩:=aA h;obtain⟨ll,h3,h⟩:=aA h;rw[hmx.bound h1];simp only[ob];rw[hhi.bound h2];simp only;rw[hlo.bound h3];simp only;have e1:mx.isSome=mx'.isSome:=by cases mx<;>cases mx'<;>simp_all [OVW]
   have e2:hi.isNone=hi'.isNone:=by cases hi<;>cases hi'<;>simp_all [OVW]
   rw[e1,e2]at h;split at h
   ·rename_i hc;rw[qzq hc];cases h;exact⟨_,rfl,.bG⟩
   ·cases h
 |ro z es ex=>
  simp only[gZ]at h;split at h
  ·rename_i hk;rcases hx.mJ with⟨rfl,rfl⟩|⟨es',ex',rfl,h2,h3,h4⟩
   ·simp only[gZ,qwx hk.1];exact UF hlo hhi hmx h
   ·simp only[gZ,qzq hk];exact KI h3 h4 h2 hlo hhi hmx h
  ·cases h
 |sl b z i len cap ex=>
  simp only[gZ]at h;split at h
  ·rename_i hk;rcases hx.jQ with⟨hA,hV,ex',rfl,h2⟩|⟨hA,hV,rfl,rfl,rfl,h2⟩
   ·simp only[gZ,qzq hk];exact Xh hA hV h2 hlo hhi hmx h
   ·obtain⟨q1,q2⟩:=NQ hA hV hlo hhi hmx h;rcases h2 with rfl | rfl
    ·simp only[gZ,qwx hk.1];exact q1
    ·simp only[gZ,qzq hk];exact q2
  ·cases h
 |_=>simp[gZ]at h
end
section
variable {ρ:Nat->Nat}{V A:Nat->Prop}{n m:Nat}{h:aI}{h':Heap}{e e':Env}
theorem SY(H:HW ρ V A h h'){z:Nat}{x x':AV}(hx:VW ρ V A x x'){xs:List (List AV)}{d:Bool}(he:kF h z x=some (xs,d)) :
 ∃xs',elems h' z x'=some xs'/\bF (bF (VW ρ V A)) xs xs'/\(d=true->∀e∈xs,∀x∈e,isC x=true):=by
 cases x with
 |bG=>cases hx;simp only[kF,qwq,qjx]at he;obtain⟨rfl,rfl⟩:=he;exact⟨[],rfl,.nil,λ_ e he=>by cases he⟩
 |str s=>
  rw[hx.iL];simp only[kF]at he;split at he
  ·rename_i hz;simp only[qwq,qjx]at he;obtain⟨rfl,rfl⟩:=he;refine⟨s.map λc=>[.int .u8 c.toNat],by simp only[elems,qzq hz],?_,?_⟩
   ·exact(bF.map (R:=Eq) (T:=bF (VW ρ V A)) (l:=s) (l':=s) ⟨rfl,λj x x' h1 h2=>by rw[h1]at h2;cases h2;rfl⟩ λx x' hxx=>by subst hxx;exact .cons (.int _ _) .nil)
   ·intro _ e he x hx;simp only[qkx]at he;obtain⟨c,_,rfl⟩:=he;simp at hx;subst hx;rfl
  ·cases he
 |ro z' es ex=>
  simp only[kF]at he;split at he
  ·rename_i hz;simp only[qwq,qjx]at he;obtain⟨rfl,rfl⟩:=he;rcases hx.mJ with⟨rfl,rfl⟩|⟨es',ex',rfl,_,hr,hc⟩
   ·exact⟨[],rfl,.nil,λ_ e he=>by cases he⟩
   ·exact⟨es',by simp only[elems,qzq hz],hr.mono λe e' _ h=>h.mono λx x' _ h=>h.data,λ_=>hc⟩
  ·cases he
 |sl b z' i len cap ex=>
  simp only[kF]at he;split at he
  ·rename_i hz;split at he
   ·rename_i zb es mu dt hg;split at he
    ·rename_i hl;simp only[qwq,qjx]at he;obtain⟨rfl,rfl⟩:=he;rcases hx.jQ with⟨hA,hV,ex',rfl,_⟩|⟨hA,hV,rfl,rfl,rfl,hv⟩
     ·obtain⟨o',h1,es',mu',rfl,_,hr,hd⟩:=H.obj b _ hg hV;refine⟨(es'.drop i).take len,?_,(hr.drop i).take len,λq e he x hx=>hd q e (qXz (qJq he)) x hx⟩;simp only[elems,qzq hz,h1,<- hr.1,qzq hl]
     ·obtain⟨z2,mu2,dt2,q⟩:=H.uG b _ hg hV;cases q;refine⟨[],?_,by simp only[zwj,zwx];exact .nil,λ_ e he=>by simp at he⟩;rcases hv with rfl | rfl
      ·rfl
      ·simp only[elems,qzq hz]
    ·cases he
   ·cases he
  ·cases he
 |_=>simp[kF]at he
theorem oZ(H:HW ρ V A h h')(hn:¬A n)(hm:∀b,A b->¬V b->ρ b≠m){zl k bytes:Nat}{xs xs':List (List AV)}{d:Bool}{r:AV×dV}
 (hr:bF (bF (VW ρ V A)) xs xs') (hd:d=true->∀e∈xs,∀x∈e,isC x=true) (he:mX n zl k bytes xs d=some r) :
 ∃r',Pav.newRow m zl k bytes xs'=some r'/\Ok2 ρ V A n m h h' r r':=by
 unfold mX at he;split at he
 ·rename_i hb;cases he;have hVn:¬V n:=λq=>hn (H.sub n q);have un:up ρ n m n=m:=by simp[up]
  refine⟨_,by simp only[Pav.newRow,qzq hb];rfl,?_,?_,?_⟩
  ·have:=VW.sl (ρ:=up ρ n m) (V:=V) (A:=addN A n) n zl 0 k k false false (.inr rfl) hVn id;rw[un]at this;exact this
  ·exact qm H hn hm ⟨xs',true,rfl,λ_=>rfl,hr.mono λe e' _ h=>h.mono λx x' _ h=>h.mono (qZ hn),hd⟩
  ·intro b hb;simp at hb;subst hb;exact⟨n,by simp,un.symm,hVn,.inr rfl⟩
 ·cases he
theorem SG(H:HW ρ V A h h')(hn:¬A n)(hm:∀b,A b->¬V b->ρ b≠m){zl bytes:Nat}{s s':AV}{xs xs':List (List AV)}{d:Bool}{r:AV×dV}(hs:VW ρ V A s s')
 (hr:bF (bF (VW ρ V A)) xs xs') (hd:d=true->∀e∈xs,∀x∈e,isC x=true) (he:kK h n zl bytes s xs d=some r) :
 ∃r',kQ h' m zl bytes s' xs'=some r'/\Ok2 ρ V A n m h h' r r':=by
 cases s with
 |bG=>
  cases hs;simp only[kK]at he;cases xs with
  |nil=>simp only[qwq]at he;subst he;rw[hr.fD];exact⟨_,rfl,aX H hn hm .bG⟩
  |cons a t=>obtain⟨a',t',rfl,h1,h2⟩:=hr.dI;simp only at he;obtain⟨r',h3,h4⟩:=oZ H hn hm hr hd he;exact⟨r',by simp only[kQ,<- hr.1];exact h3,h4⟩
 |ro z es ex=>
  simp only[kK]at he;split at he
  ·rename_i hz;rcases hs.mJ with⟨rfl,rfl⟩|⟨es',ex',rfl,hx,hes,hc⟩
   ·cases xs with
    |nil=>simp only[qwq]at he;subst he;rw[hr.fD];exact⟨_,rfl,aX H hn hm hs⟩
    |cons a t=>
     obtain⟨a',t',rfl,h1,h2⟩:=hr.dI;simp only at he;split at he
     ·simp only[qJx,qXj,qYz]at he;obtain⟨r',h3,h4⟩:=oZ H hn hm hr hd he;exact⟨r',by simp only[kQ,<- hr.1];exact h3,h4⟩
     ·cases he
   ·cases xs with
    |nil=>simp only[qwq]at he;subst he;rw[hr.fD];exact⟨_,by simp only[kQ,qzq hz],aX H hn hm hs⟩
    |cons a t=>
     obtain⟨a',t',rfl,h1,h2⟩:=hr.dI;simp only at he;split at he
     ·rename_i hex;obtain⟨r',h3,h4⟩:=oZ H hn hm (xs':=es'++a'::t') ((hes.mono λe e' _ h=>h.mono λx x' _ h=>h.data).append hr) (λq e he x hx=>by
       rcases qWj.1 he with q1 | q1
       ·exact hc e q1 x hx
       ·exact hd q e q1 x hx) he
      refine⟨r',?_,h4⟩;simp only[kQ,qzq hz,hx hex,qyx];rw[<- hes.1,<- hr.1];exact h3
     ·cases he
  ·cases he
 |sl b z i len cap ex=>
  simp only[kK]at he;split at he
  ·rename_i hz;subst hz;cases xs with
   |nil=>
    simp only[qwq]at he;subst he;rw[hr.fD];rcases hs.jQ with⟨hA,hV,ex',rfl,_⟩|⟨hA,hV,rfl,rfl,rfl,hv⟩
    ·exact⟨_,by simp only[kQ,qyx],aX H hn hm hs⟩
    ·rcases hv with rfl | rfl
     ·exact⟨_,rfl,aX H hn hm hs⟩
     ·exact⟨_,by simp only[kQ,qyx],aX H hn hm hs⟩
   |cons a t=>
    obtain⟨a',t',rfl,h1,h2⟩:=hr.dI;simp only at he;unfold NV at he;split at he
    ·rename_i zb es mu dt hg;split at he
     ·rename_i hzb;rcases hs.jQ with⟨hA,hV,ex',rfl,hx⟩|⟨hA,hV,rfl,rfl,rfl,hv⟩
      ·obtain⟨o',g1,es',mu',rfl,gm,ge,gd⟩:=H.obj b _ hg hV;have hu:=qZ (ρ:=ρ) (V:=V) (m:=m) hn;have dd:(dt&&d)=true->(∀e∈es,∀x∈e,isC x=true)/\∀e∈a::t,∀x∈e,isC x=true:=by intro q;simp only[qwz]at q;exact⟨gd q.1,hd q.2⟩
       simp only[kQ,qyx,g1,ad2,qzq hzb];have hlen:(a'::t').length=(a::t).length:=hr.1.symm;rw[hlen];split at he
       ·rename_i hcap;rw[qzq hcap];split at he
        ·rename_i hc;cases he;have e1:mu'=true/\i+(len+(a::t).length)<=es'.length:=⟨gm hc.1,by rw[<- ge.1];exact hc.2⟩;rw[qzq e1];refine⟨_,rfl,?_,?_,?_⟩
         ·have:=VW.sl (ρ:=up ρ n m) (V:=V) (A:=addN A n) b z i (len+(a::t).length) cap ex ex' (.inl hA) hV hx;rw[(hu b hA).2.1]at this;exact this
         ·refine HW.up (qc H hA hV ?_) hn hm;refine⟨_,true,rfl,λ_=>rfl,(ge.take _).append (hr.append (ge.drop _)),λq e he x hx=>?_⟩;obtain⟨q1,q2⟩:=dd q;rcases qWj.1 he with q3 | q3
          ·exact q1 e (qJq q3) x hx
          ·rcases qWj.1 q3 with q3 | q3
           ·exact q2 e q3 x hx
           ·exact q1 e (qXz q3) x hx
         ·intro c hc;simp at hc;subst hc;exact⟨b,by simp,((hu b hA).2.1).symm,hV,.inl hA⟩
        ·cases he
       ·rename_i hcap;rw[qwx hcap];split at he
        ·rename_i hex;subst hex;rw[hx rfl];simp only[qyx];split at he
         ·rename_i hl;rw[qzq (by rw[<- ge.1];exact hl)];exact oZ H hn hm (((ge.drop _).take _).append hr) (λq e he x hx=>by
           obtain⟨q1,q2⟩:=dd q;rcases qWj.1 he with q3 | q3
           ·exact q1 e (qXz (qJq q3)) x hx
           ·exact q2 e q3 x hx) he
         ·cases he
        ·rename_i hex;have hex:ex=false:=by simpa using hex
         subst hex;split at he
         ·rename_i hc;cases he;obtain⟨c1,c2,c3,c4⟩:=hc;subst c2;have hVn:¬V n:=λq=>hn (H.sub n q);have un:up ρ n m n=m:=by simp[up]
          have vw:VW (up ρ n m) V (addN A n) (.sl n z 0 (len+(a::t).length) (len+(a::t).length) false) (.sl m z 0 (len+(a::t).length) (len+(a::t).length) false):=by have:=VW.sl (ρ:=up ρ n m) (V:=V) (A:=addN A n) n z 0 (len+(a::t).length) (len+(a::t).length) false false (.inr rfl) hVn id;rw[un]at this;exact this
          have ow:∀{mu2},OW (up ρ n m) V (addN A n) (.cells z (es++a::t) true (dt&&d)) (.cells z (es'++a'::t') mu2)↔mu2=true:=by
           intro mu2;constructor
           ·rintro⟨_,_,q,q2,_⟩;cases q;exact q2 rfl
           ·rintro rfl;refine⟨_,true,rfl,λ_=>rfl,(ge.append hr).mono λe e' _ h=>h.mono λx x' _ h=>h.mono hu,λq e he x hx=>?_⟩;obtain⟨q1,q2⟩:=dd q;rcases qWj.1 he with q3 | q3
            ·exact q1 e q3 x hx
            ·exact q2 e q3 x hx
          have wr:∀c,c=ρ b\/c=m->∃c2∈[(b,(none:Option dD)),(n,some (.cells z (es++a::t) true (dt&&d)))].map (·.1),c=up ρ n m c2/\¬V c2/\addN A n c2:=by
           rintro c (rfl | rfl)
           ·exact⟨b,by simp,((hu b hA).2.1).symm,hV,.inl hA⟩
           ·exact⟨n,by simp,un.symm,hVn,.inr rfl⟩
          cases ex' with
          |false=>simp only[qxj,qWq];rw[qzq ⟨gm c1,by trivial,by rw[<- ge.1];exact c3,c4⟩];refine⟨_,rfl,vw,?_,λc hc=>wr c (by simpa using hc)⟩;exact qm (amI H hA hV) hn hm (ow.2 rfl)
          |true=>
           simp only[qyx];rw[qzq (by rw[<- ge.1,c3];simp)];have e3:(es'.drop 0).take len=es':=by rw[qjz,qxz (by rw[<- ge.1];omega)]
           rw[e3];refine⟨_,by simp only[Pav.newRow,qzq c4];rfl,vw,?_,λc hc=>wr c (.inr (by simpa using hc))⟩;exact qm (Ym H) hn hm (ow.2 rfl)
         ·cases he
      ·obtain⟨z2,mu2,dt2,q⟩:=H.uG b _ hg hV;cases q;have hnr:∃d2,(d2=true->d=true)/\((mX n zb (a::t).length bytes (a::t) d2=some r)\/(∃(q4:(a::t).length*(bytes+1)<=dA),r=(.sl n zb 0 (a::t).length (a::t).length false,[(b,none),(n,some (.cells zb (a::t) true d2))]))):=by
        refine⟨dt&&d,λq=>by simp only[qwz]at q;exact q.2,?_⟩;subst hzb;rw[qwx qqz]at he;split at he
        ·split at he
         ·left;simpa using he
         ·cases he
        ·split at he
         ·rename_i hc;right;simp only[qXj]at hc he;exact⟨hc.2.2.2,by simpa using he.symm⟩
         ·cases he
       obtain⟨d2,hd2,hh⟩:=hnr;have hd3:d2=true->∀e∈a::t,∀x∈e,isC x=true:=λq=>hd (hd2 q);have goal:∃r',Pav.newRow m z (a'::t').length bytes (a'::t')=some r'/\Ok2 ρ V A n m h h' r r':=by
        subst hzb;rcases hh with hh|⟨q4,rfl⟩
        ·obtain⟨r',h3,h4⟩:=oZ H hn hm hr hd3 hh;exact⟨r',by rw[<- hr.1];exact h3,h4⟩
        ·obtain⟨r',h3,h4⟩:=oZ (h:=del h b) (zl:=zb) (k:=(a::t).length) (bytes:=bytes) (r:=(.sl n zb 0 (a::t).length (a::t).length false,[(n,some (dD.cells zb (a::t) true d2))])) (Ym H) hn hm hr hd3 (by simp only[mX,qzq q4]);refine⟨r',by rw[<- hr.1];exact h3,h4.1,h4.2.1,λc hc=>?_⟩;obtain⟨c2,q5,q6⟩:=h4.2.2 c hc;exact⟨c2,by simp at q5 |-;exact .inr q5,q6⟩
       obtain⟨r',g1,g2⟩:=goal;rcases hv with rfl | rfl
       ·exact⟨r',by simp only[kQ];exact g1,g2⟩
       ·exact⟨r',by simp only[kQ,qyx,qJx,qXj,qYz];exact g1,g2⟩
     ·cases he
    ·cases he
  ·cases he
 |_=>simp[kK]at he
end
section
variable {ρ:Nat->Nat}{V A:Nat->Prop}{n m:Nat}{h:aI}{h':Heap}{e e':Env}
theorem vH{x:Option AV}{a:AV}(hx:x=some a):ov x=some (a,[]):=by rw[hx];rfl
theorem bJ{x:Option (AV×Upd)}{r:AV×dV}(h:plainW x=some r):∃v u,x=some (v,u)/\r=(v,[]):=by obtain⟨⟨v,u⟩,h1,h2⟩:=aH h;exact⟨v,u,h1,h2.symm⟩
theorem Jk{x:Option AV}{r:AV×dV}(h:ovW x=some r):∃v,x=some v/\r=(v,[]):=by obtain⟨v,h1,h2⟩:=aH h;exact⟨v,h1,h2.symm⟩
theorem nU{x:Option AV}{v:AV}{u:Upd}(h:ov x=some (v,u)):x=some v:=by obtain⟨w,h1,h2⟩:=aH h;cases h2;exact h1
theorem zS(he:EW ρ V A e e'){o:Option Opd}(ho:(o.map okO).getD true=true):OVW ρ V A (oev e o) (oev e' (o.map erO)):=by
 cases o with
 |none=>trivial
 |some x=>exact he.opd (by simpa using ho)
theorem abu:∀{es es':List (AV×AV)}{k:AV}{r:Option AV},bF (λ(x y:AV×AV)=>x.1=y.1/\VD ρ V x.2 y.2) es es'->jP es k=some r->∃r',jP es' k=some r'/\OVW ρ V A r r':=by
 intro es;induction es with
 |nil=>intro es' k r hr h;rw[hr.fD];simp only[jP,qwq]at h;subst h;exact⟨none,rfl,trivial⟩
 |cons x es ih=>
  intro es' k r hr h;obtain⟨y,t,rfl,h1,h2⟩:=hr.dI;obtain⟨a,v⟩:=x;obtain⟨a',v'⟩:=y;obtain⟨rfl,hv⟩:=h1;simp only[jP]at h |-;obtain⟨c,h3,h⟩:=aA h;rw[h3];simp only[ob];split at h
  ·rename_i hc;rw[qzq hc];cases h;exact⟨some v',rfl,hv.data⟩
  ·rename_i hc;rw[qwx hc];exact ih h2 h
theorem ZY:∀{es es' r:List (AV×AV)}{k v v':AV},bF (λ(x y:AV×AV)=>x.1=y.1/\VD ρ V x.2 y.2) es es'->VD ρ V v v'->kJ es k v=some r ->
 ∃r',kJ es' k v'=some r'/\bF (λ(x y:AV×AV)=>x.1=y.1/\VD ρ V x.2 y.2) r r':=by
 intro es;induction es with
 |nil=>intro es' r k v v' hr hv h;rw[hr.fD];simp only[kJ,qwq]at h;subst h;exact⟨_,rfl,.cons ⟨rfl,hv⟩ .nil⟩
 |cons x es ih=>
  intro es' r k v v' hr hv h;obtain⟨y,t,rfl,h1,h2⟩:=hr.dI;obtain⟨a,w⟩:=x;obtain⟨a',w'⟩:=y;obtain⟨rfl,hw⟩:=h1;simp only[kJ]at h |-;obtain⟨c,h3,h⟩:=aA h;rw[h3];simp only[ob];split at h
  ·rename_i hc;rw[qzq hc];cases h;exact⟨_,rfl,.cons ⟨rfl,hv⟩ h2⟩
  ·rename_i hc;rw[qwx hc];obtain⟨r1,h4,rfl⟩:=aH h;obtain⟨r2,h5,h6⟩:=ih h2 hv h4;rw[h5];exact⟨_,rfl,.cons ⟨rfl,hw⟩ h6⟩
theorem TV{z z':AV}{r r':Option AV}(hz:VW ρ V A z z')(hr:OVW ρ V A r r')(ok:Bool):VW ρ V A (found z ok r) (found z' ok r'):=by
 have:VW ρ V A (r.getD z) (r'.getD z')/\r.isSome=r'.isSome:=by cases r<;>cases r'<;>simp_all [OVW]
 unfold found;split
 ·rw[this.2];exact VW.lU (.cons this.1 (.cons (.bool _) .nil))
 ·exact this.1
theorem ae2(he:EW ρ V A e e')(H:HW ρ V A h h')(hn:¬A n)(hm:∀b,A b->¬V b->ρ b≠m){op:COp}(ho:jd op=true){r:AV×dV}(hs:stepW op e h n=some r) :
 ∃r',aP (gu op) e' h' m=some r'/\Ok2 ρ V A n m h h' r r':=by
 have hVn:¬V n:=λq=>hn (H.sub n q);have un:up ρ n m n=m:=by simp[up]
 have hu:=qZ (ρ:=ρ) (V:=V) (m:=m) hn;have wrn:∀{o:dD}{o':jq}{v:AV}{v':AV},∀b∈((v',[(m,some o')]):AV×Upd).2.map (·.1),∃c∈((v,[(n,some o)]):AV×dV).2.map (·.1),b=up ρ n m c/\¬V c/\addN A n c:=by intro o o' v v' b hb;simp at hb;subst hb;exact⟨n,by simp,un.symm,hVn,.inr rfl⟩
 have wro:∀{b:Nat}{o:dD}{o':jq}{v:AV}{v':AV},A b->¬V b->∀c∈((v',[(ρ b,some o')]):AV×Upd).2.map (·.1),∃c2∈((v,[(b,some o)]):AV×dV).2.map (·.1),c=up ρ n m c2/\¬V c2/\addN A n c2:=by intro b o o' v v' hA hV c hc;simp at hc;subst hc;exact⟨b,by simp,((hu b hA).2.1).symm,hV,.inl hA⟩
 have zok:∀{z:List AV},okL z=true->bF (VW (up ρ n m) V (addN A n)) z (erL z):=λq=>zK _ q;have allC:∀{z:List AV},(z.all isC)=true->∀x∈z,isC x=true:=λq x hx=>qkz.1 q x hx;cases op with
 |mv x=>obtain⟨v,u,h1,rfl⟩:=bJ hs;simp only[sMv,qwq,qjx]at h1;obtain⟨rfl,rfl⟩:=h1;exact⟨_,rfl,aX H hn hm (he.opd ho)⟩
 |pick c a b=>
  simp only[jd,qwz]at ho;obtain⟨v,u,h1,rfl⟩:=bJ hs;simp only[Fv]at h1;split at h1
  ·rename_i t hc;simp only[qwq,qjx]at h1;obtain⟨rfl,rfl⟩:=h1;have hc':=he.opd ho.1;rw[hc]at hc';refine⟨_,by simp only[aP,gu,Fv,hc'.fU];rfl,aX H hn hm ?_⟩;cases t with
   |true=>exact he.opd ho.2.1
   |false=>exact he.opd ho.2.2
  ·cases h1
 |alloc z=>
  simp only[stepW,V7,qwq]at hs;subst hs;have hz:=zK (ρ:=up ρ n m) (V:=V) (A:=addN A n) z ho;refine⟨_,rfl,?_,?_,wrn⟩
  ·have:=VW.ptr (ρ:=up ρ n m) (V:=V) (A:=addN A n) n 0 0 (.inr rfl) hVn;rw[un]at this;exact this
  ·refine qm H hn hm ?_;simp only[<- hz.1];exact⟨_,true,rfl,λ_=>rfl,.cons hz .nil,λq e he x hx=>by simp at he;subst he;exact allC q x hx⟩
 |box x=>
  simp only[stepW,amN,X5]at hs;split at hs
  ·rename_i hc;cases hs;obtain⟨h1,h2⟩:=(he.opd ho).cells hc;refine⟨_,by simp only[aP,gu,agD,boxed,qzq h2];rfl,?_,?_,wrn⟩
   ·have:=VW.ptr (ρ:=up ρ n m) (V:=V) (A:=addN A n) n 0 0 (.inr rfl) hVn;rw[un]at this;exact this
   ·refine qm H hn hm ?_;simp only[<- h1.1];exact⟨_,true,rfl,λ_=>rfl,.cons (h1.mono λx x' _ h=>h.mono hu) .nil,λq e he x hx=>by simp at he;subst he;exact allC q x hx⟩
  ·cases hs
 |build z ps=>simp only[jd,qwz]at ho;obtain⟨v,u,h1,rfl⟩:=bJ hs;obtain⟨cs,h2,h3⟩:=aH h1;cases h3;obtain⟨r',h4,h5⟩:=ac3 he ps z _ cs ho.2 (zK z ho.1) h2;exact⟨_,by simp only[aP,gu,ET,h4];rfl,aX H hn hm (VW.NC h5)⟩
 |aW z len ps=>
  simp only[jd,qwz]at ho;simp only[stepW,Q7]at hs;obtain⟨es,h1,rfl⟩:=aH hs;have hz:=zK (ρ:=ρ) (V:=V) (A:=A) z ho.1;obtain⟨es',h4,h5⟩:=aeb he z.length ps (List.replicate len z) (List.replicate len (erL z)) es ho.2 (.replicate hz len) h1;refine⟨_,by simp only[aP,gu,DY,<- hz.1,h4];rfl,?_,?_,wrn⟩
  ·have:=VW.sl (ρ:=up ρ n m) (V:=V) (A:=addN A n) n z.length 0 len len true true (.inr rfl) hVn id;rw[un]at this;exact this
  ·refine qm H hn hm ?_;exact⟨_,true,rfl,λ_=>rfl,h5.mono λe e' _ h=>h.mono λx x' _ h=>h.mono hu,λq e he x hx=>by simp only[qkz]at q;exact q e he x hx⟩
 |load k ag a=>
  obtain⟨v,h1,rfl⟩:=Jk hs;have ha:=he.opd (x:=a) ho;have key:∃v',EL k ag h' ((erO a).ev e')=some v'/\VW ρ V A v v':=by
   cases hx:a.ev e with
   |rop cs=>rw[hx]at ha h1;obtain⟨cs',q,hr⟩:=ha.vC;rw[q];obtain⟨v',h2,h3⟩:=wz hr h1;exact⟨v',h2,h3.data⟩
   |ptr b i o=>
    rw[hx]at ha h1;obtain⟨q,hA,hV⟩:=ha.jk;rw[q];simp only[Aj]at h1;unfold yP at h1;split at h1
    ·rename_i z es mu dt hg;obtain⟨cs,h2,h3⟩:=aA h1;obtain⟨o',g1,es',mu',rfl,_,ge,_⟩:=H.obj b _ hg hV;obtain⟨cs',h4,h5⟩:=ge.get h2;obtain⟨v',h6,h7⟩:=wz (h5.drop o) h3;exact⟨v',by simp only[EL,g1,loadAt,h4,ob];exact h6,h7⟩
    ·cases h1
   |_=>rw[hx]at h1;simp[Aj]at h1
  obtain⟨v',h2,h3⟩:=key;exact⟨_,vH h2,aX H hn hm h3⟩
 |store k a x=>
  simp only[jd,qwz]at ho;simp only[stepW,Oh]at hs;split at hs
  ·rename_i hc;obtain⟨c1,c2⟩:=(he.opd ho.2).cells hc.2;have ha:=he.opd ho.1;cases hx:a.ev e with
   |ptr b i o=>
    rw[hx]at ha hs;obtain⟨q,hA,hV⟩:=ha.jk;simp only[wH]at hs;unfold Js at hs;split at hs
    ·rename_i z es mu dt hg;split at hs
     ·rename_i hmu;obtain⟨cs,h2,h3⟩:=aA hs;split at h3
      ·rename_i hl;cases h3;obtain⟨o',g1,es',mu',rfl,gm,ge,gd⟩:=H.obj b _ hg hV;obtain⟨cs',h4,h5⟩:=ge.get h2;refine⟨_,by simp only[aP,gu,Qu,<- c1.1];rw[qzq ⟨hc.1,c2⟩,q];simp only[BH,g1,storeAt,gm hmu,qyx,h4,ob,<- h5.1];rw[qzq hl],?_,?_,wro hA hV⟩
       ·exact VW.lU .nil
       ·refine HW.up (qc H hA hV ?_) hn hm;refine⟨_,true,rfl,λ_=>rfl,ge.set (Nr h5 c1 o),λq e he x hx=>?_⟩;simp only[qwz,qkz]at q;rcases qXx he with q2 | rfl
        ·exact gd q.1 e q2 x hx
        ·unfold splice at hx;simp only[qWj]at hx;rcases hx with q3 | q3 | q3
         ·exact gd q.1 cs (qwj h2) x (qJq q3)
         ·exact q.2 x q3
         ·exact gd q.1 cs (qwj h2) x (qXz q3)
      ·cases h3
     ·cases hs
    ·cases hs
   |_=>rw[hx]at hs;simp[wH]at hs
  ·cases hs
 |jS x=>
  obtain⟨v,u,h1,rfl⟩:=bJ hs;have hx:=he.opd (x:=x) ho;simp only[mZ]at h1;split at h1
  ·rename_i b i o hc;cases h1;rw[hc]at hx;exact⟨_,by simp only[aP,gu,mZ,hx.jk.1],aX H hn hm (hx.jk.1 ▸ hx)⟩
  ·rename_i cs hc;cases h1;rw[hc]at hx;obtain⟨cs',q,_⟩:=hx.vC;exact⟨_,by simp only[aP,gu,mZ,q],aX H hn hm (q ▸ hx)⟩
  ·rename_i f cs hc;cases h1;rw[hc]at hx;obtain⟨cs',q,_⟩:=hx.zW;exact⟨_,by simp only[aP,gu,mZ,q],aX H hn hm (q ▸ hx)⟩
  ·cases h1
 |bin op x y=>simp only[jd,qwz]at ho;obtain⟨v,u,h1,rfl⟩:=bJ hs;obtain⟨h2,h3⟩:=ad8 (he.opd ho.1) (he.opd ho.2) (nU h1);exact⟨_,vH h2,aX H hn hm h3⟩
 |eqv kd ks ne x y=>
  simp only[jd,qwz]at ho;simp only[stepW]at hs;split at hs
  ·rename_i hk;subst hk;obtain⟨b,h1,rfl⟩:=aH hs;refine⟨_,by simp only[aP,gu,Kq,iJ,qyx,abO (he.opd ho.1) (he.opd ho.2) h1];rfl,aX H hn hm (.bool _)⟩
  ·rename_i hk;obtain⟨v,u,h1,rfl⟩:=bJ hs;obtain⟨b,h2,h3⟩:=aH h1;cases h3;exact⟨_,by simp only[aP,gu,Kq,aaS (he.opd ho.1) (he.opd ho.2) hk h2];rfl,aX H hn hm (.bool _)⟩
 |un op x=>obtain⟨v,u,h1,rfl⟩:=bJ hs;obtain⟨h2,h3⟩:=ajr (he.opd (x:=x) ho) (nU h1);exact⟨_,vH h2,aX H hn hm h3⟩
 |cvt k x=>
  obtain⟨v,u,h1,rfl⟩:=bJ hs;have hx:=he.opd (x:=x) ho;simp only[Uz]at h1;split at h1
  ·rename_i k' q hc;cases h1;rw[hc]at hx;exact⟨_,by simp only[aP,gu,Uz,hx.dS],aX H hn hm (.int _ _)⟩
  ·cases h1
 |cvs x=>
  obtain⟨v,u,h1,rfl⟩:=bJ hs;have hx:=he.opd (x:=x) ho;simp only[TD]at h1;split at h1
  ·rename_i q hc;cases h1;rw[hc]at hx;exact⟨_,by simp only[aP,gu,TD,hx.iL],aX H hn hm (.str _)⟩
  ·cases h1
 |cvb x=>
  obtain⟨v,u,h1,rfl⟩:=bJ hs;have hx:=he.opd (x:=x) ho;simp only[UM]at h1;have h1:=nU h1;cases hxv:x.ev e<;>rw[hxv]at h1 hx<;>simp only[Vb]at h1<;>try (cases h1;done)
  ·cases h1;have q:(erO x).ev e'=.bG:=by generalize (erO x).ev e'=u at hx;cases hx;rfl
   exact⟨_,vH (by rw[q];rfl),aX H hn hm (.str _)⟩
  ·rename_i z es ex;split at h1
   ·rename_i hz;subst hz;obtain⟨s,hb,rfl⟩:=aH h1;rcases hx.mJ with⟨q2,q1⟩|⟨es',ex',q1,q3,q2,q4⟩
    ·subst q2;simp only[bytesOf,qwq]at hb;subst hb;exact⟨_,vH (by rw[q1];rfl),aX H hn hm (.str _)⟩
    ·have hb':bytesOf es'=some s:=by
      have key:∀(es es':List (List AV)) (s:List UInt8),bF (bF (VD ρ V)) es es'->bytesOf es=some s->bytesOf es'=some s:=by
       intro es;induction es with
       |nil=>intro es' s hr hb;rw[hr.fD];exact hb
       |cons c r ih=>
        intro es' s hr hb;obtain⟨c',t,rfl,h2,h3⟩:=hr.dI;simp only[bytesOf]at hb;split at hb
        ·obtain⟨s',h4,rfl⟩:=aH hb;obtain⟨a,b,rfl,h5,h6⟩:=h2.dI;rw[h6.fD,h5.dS];simp only[bytesOf,ih t s' h3 h4,om]
        ·cases hb
      exact key es es' s q2 hb
     exact⟨_,vH (by rw[q1];simp only[Vb,qyx,hb',om]),aX H hn hm (.str _)⟩
   ·cases h1
 |lN f caps=>
  obtain⟨v,u,h1,rfl⟩:=bJ hs;simp only[Ec]at h1;split at h1
  ·rename_i hc;cases h1;simp only[jd,qkz]at ho hc;have rel:bF (VW ρ V A) (caps.map λx=>x.ev e) ((caps.map erO).map λx=>x.ev e'):=by
    rw[qZz];refine⟨by simp,λj x x' h1 h2=>?_⟩;rw[qQq]at h1 h2;cases h3:caps[j]? with
    |none=>rw[h3]at h1;cases h1
    |some c=>rw[h3]at h1 h2;cases h1;cases h2;exact he.opd (ho c (qwj h3))
   have c2:((caps.map erO).all λx=>(x.ev e').cell)=true:=by simp only[List.all_map,qkz];intro c hcc;exact(he.opd (ho c hcc)).cell (hc c hcc)
   exact⟨_,by simp only[aP,gu,Ec,qzq c2],aX H hn hm (VW.lN rel)⟩
  ·cases h1
 |kP=>simp only[stepW,WO,qwq]at hs;subst hs;refine⟨_,rfl,?_,qm H hn hm ⟨[],rfl,.nil⟩,wrn⟩;have:=VW.map (ρ:=up ρ n m) (V:=V) (A:=addN A n) n (.inr rfl) hVn;rw[un]at this;exact this
 |nK z bytes l c=>
  simp only[jd,qwz]at ho;simp only[stepW,aeG]at hs;have hl:=he.opd ho.2.1;have hc:=he.opd ho.2.2;split at hs
  ·rename_i k1 l1 k2 c1 e1 e2;rw[e1]at hl;rw[e2]at hc;obtain⟨l2,h1,h⟩:=aA hs;obtain⟨c2,h2,h⟩:=aA h;split at h
   ·rename_i hb;cases h;have hz:=zK (ρ:=up ρ n m) (V:=V) (A:=addN A n) z ho.1;refine⟨_,by simp only[aP,gu,Zr,hl.dS,hc.dS,h1,h2,ob,qzq hb];rfl,?_,?_,wrn⟩
    ·have:=VW.sl (ρ:=up ρ n m) (V:=V) (A:=addN A n) n z.length 0 l2 c2 true true (.inr rfl) hVn id;rw[un]at this;simp only[<- hz.1];exact this
    ·refine qm H hn hm ?_;simp only[<- hz.1];exact⟨_,true,rfl,λ_=>rfl,.replicate hz _,λq e he x hx=>by rw[quz he]at hx;exact allC q x hx⟩
   ·cases h
  ·cases hs
 |gW n' x lo hi=>
  simp only[jd,qwz]at ho;have hx:=he.opd (x:=x) ho.1;simp only[stepW,Ih]at hs;cases hxv:x.ev e<;>rw[hxv]at hs hx<;>simp only[CG]at hs<;>try (cases hs;done)
  ·rename_i cs;obtain⟨r,hr,q⟩:=aH hs;cases q;obtain⟨cs',q,hc⟩:=hx.vC;obtain⟨v',h2,h3⟩:=FZ (hc.mono λ_ _ _ hx=>hx.mono λ_ q=>q.elim) (zS he ho.2.1) (zS he ho.2.2) hr;exact⟨_,by simp only[aP,gu,BM,q,wo,h2,om],aX H hn hm h3⟩
  ·rename_i b i o;unfold J6 at hs;split at hs;case h_2=>cases hs
   rename_i z es mu dt hg;obtain⟨cs,hcs,hs⟩:=aA hs;obtain⟨r,hr,q⟩:=aH hs;cases q;obtain⟨q,hA,hV⟩:=hx.jk;obtain⟨o',g1,es',mu',rfl,gm,ge,gd⟩:=H.obj b _ hg hV;obtain⟨cs',h4,h5⟩:=ge.get hcs;obtain⟨v',h2,h3⟩:=FZ (h5.drop o) (zS he ho.2.1) (zS he ho.2.2) hr;refine⟨_,by simp only[aP,gu,BM,q,wo,g1,sliceAt,h4,ob,h2,om];rfl,?_,?_,wro hA hV⟩
   ·exact h3.mono λc hc=>⟨(hu c hc).1,(hu c hc).2.1,(hu c hc).2.2⟩
   ·refine HW.up (qc H hA hV ?_) hn hm;exact⟨_,false,rfl,id,ge,gd⟩
 |slice z x lo hi mx=>simp only[jd,qwz]at ho;obtain⟨v,u,h1,rfl⟩:=bJ hs;obtain⟨v',h2,h3⟩:=XU (he.opd ho.1) (zS he ho.2.1) (zS he ho.2.2.1) (zS he ho.2.2.2) (nU h1);exact⟨_,vH h2,aX H hn hm h3⟩
 |fld off x=>
  obtain⟨v,u,h1,rfl⟩:=bJ hs;have hx:=he.opd (x:=x) ho;simp only[NS]at h1;split at h1
  ·rename_i cs hc;cases h1;rw[hc]at hx;obtain⟨cs',q,hr⟩:=hx.vC;exact⟨_,by simp only[aP,gu,NS,q],aX H hn hm (VW.TF (hr.drop off))⟩
  ·rename_i b i o hc;cases h1;rw[hc]at hx;obtain⟨q,hA,hV⟩:=hx.jk;exact⟨_,by simp only[aP,gu,NS,q],aX H hn hm (.ptr _ _ _ hA hV)⟩
  ·cases h1
 |zJ off k ag x=>
  obtain⟨v,u,h1,rfl⟩:=bJ hs;have hx:=he.opd (x:=x) ho;simp only[FW]at h1;split at h1
  ·rename_i cs hc;rw[hc]at hx;obtain⟨cs',q,hr⟩:=hx.ny;obtain⟨v',h2,h3⟩:=wz (hr.drop off) (nU h1);exact⟨_,by simp only[aP,gu,FW,q];exact vH h2,aX H hn hm h3⟩
  ·cases h1
 |idxs z x i=>
  simp only[jd,qwz]at ho;obtain⟨v,u,h1,rfl⟩:=bJ hs;have hx:=he.opd ho.1;have hi:=he.opd ho.2;simp only[Gg]at h1;split at h1
  ·rename_i k q hc;rw[hc]at hi;obtain⟨j,h2,h3⟩:=aA h1;simp only[aP,gu,Gg,hi.dS,h2,ob];cases hxe:x.ev e with
   |ro z' es ex=>
    rw[hxe]at hx h3;simp only[uI]at h3;split at h3
    ·rename_i hz;obtain⟨cs,h4,h5⟩:=aA h3;cases h5;rcases hx.mJ with⟨rfl,_⟩|⟨es',ex',q,_,hr,hd⟩
     ·simp at h4
     ·obtain⟨cs',h6,h7⟩:=hr.get h4;exact⟨_,by simp only[q,uI,qzq hz,h6,ob],aX H hn hm (VW.TF h7)⟩
    ·cases h3
   |sl b z' j2 len cap ex=>
    rw[hxe]at hx h3;simp only[uI]at h3;split at h3
    ·rename_i hz;cases h3;rcases hx.jQ with⟨hA,hV,ex',q,_⟩|⟨_,_,_,rfl,_,_⟩
     ·exact⟨_,by simp only[q,uI,qzq hz],aX H hn hm (.ptr _ _ _ hA hV)⟩
     ·omega
    ·cases h3
   |_=>rw[hxe]at h3;simp[uI]at h3
  ·cases h1
 |gG len z x i=>
  simp only[jd,qwz]at ho;obtain⟨v,u,h1,rfl⟩:=bJ hs;have hx:=he.opd ho.1;have hi:=he.opd ho.2;simp only[FI]at h1;split at h1
  ·rename_i k q hc;rw[hc]at hi;obtain⟨j,h2,h3⟩:=aA h1;split at h3
   ·rename_i hj;simp only[aP,gu,FI,hi.dS,h2,ob,qzq hj];cases hxe:x.ev e with
    |rop cs=>rw[hxe]at hx h3;simp only[uz,qwq,qjx]at h3;obtain⟨rfl,_⟩:=h3;obtain⟨cs',q,hr⟩:=hx.vC;exact⟨_,by simp only[q,uz],aX H hn hm (VW.TF (hr.drop _))⟩
    |ptr b j2 o=>rw[hxe]at hx h3;simp only[uz,qwq,qjx]at h3;obtain⟨rfl,_⟩:=h3;obtain⟨q,hA,hV⟩:=hx.jk;exact⟨_,by simp only[q,uz],aX H hn hm (.ptr _ _ _ hA hV)⟩
    |_=>rw[hxe]at h3;simp[uz]at h3
   ·cases h3
  ·cases h1
 |fE x i=>
  simp only[jd,qwz]at ho;obtain⟨v,u,h1,rfl⟩:=bJ hs;have hx:=he.opd ho.1;have hi:=he.opd ho.2;simp only[qN]at h1;split at h1
  ·rename_i s k q hc1 hc2;rw[hc1]at hx;rw[hc2]at hi;obtain⟨j,h2,h3⟩:=aA h1;obtain⟨c,h4,h5⟩:=aA h3;cases h5;exact⟨_,by simp only[aP,gu,qN,hx.iL,hi.dS,h2,ob,h4],aX H hn hm (.int _ _)⟩
  ·cases h1
 |y8 len z ag x i=>
  simp only[jd,qwz]at ho;obtain⟨v,u,h1,rfl⟩:=bJ hs;have hx:=he.opd ho.1;have hi:=he.opd ho.2;simp only[FB]at h1;split at h1
  ·rename_i cs k q hc1 hc2;rw[hc1]at hx;rw[hc2]at hi;obtain⟨j,h2,h3⟩:=aA h1;split at h3
   ·rename_i hj;obtain⟨cs',q,hr⟩:=hx.ny;obtain⟨v',h4,h5⟩:=wz (hr.drop _) (nU h3);exact⟨_,by simp only[aP,gu,FB,q,hi.dS,h2,ob,qzq hj];exact vH h4,aX H hn hm h5⟩
   ·cases h3
  ·cases h1
 |look kd z ok mp k=>
  simp only[jd,qwz]at ho;simp only[stepW,YS]at hs;split at hs
  ·rename_i hk;have hmp:=he.opd ho.2.1;have hkk:=Ac (he.opd ho.2.2) hk;have hz:=Vx (ρ:=ρ) (V:=V) (A:=A) z ho.1;split at hs
   ·rename_i hc;cases hs;rw[hc]at hmp;cases hnm:(erO mp).ev e'<;>rw[hnm]at hmp<;>cases hmp;exact⟨_,by simp only[aP,gu,Nc,hkk,qzq hk,hnm],aX H hn hm (TV hz (r:=none) (r':=none) trivial ok)⟩
   ·rename_i b hc;rw[hc]at hmp;obtain⟨q,hA,hV⟩:=hmp.yH;obtain⟨v,h1,rfl⟩:=Jk hs;unfold OE at h1;split at h1
    ·rename_i es hg;obtain⟨r,h2,rfl⟩:=aH h1;obtain⟨o',g1,es',rfl,hr⟩:=H.obj b _ hg hV;obtain⟨r',h3,h4⟩:=abu (A:=A) hr h2;refine⟨_,by simp only[aP,gu,Nc,hkk,qzq hk,q,g1,lookIn,h3,om,ov],aX H hn hm (TV hz h4 ok)⟩
    ·cases h1
   ·cases hs
  ·cases hs
 |upd kd mp k v=>
  simp only[jd,qwz]at ho;simp only[stepW,agl]at hs;split at hs
  ·rename_i hk;have hmp:=he.opd ho.1;have hkk:=Ac (he.opd ho.2.1) hk.1;have hv:=(he.opd ho.2.2).isD (ρ':=ρ) (V':=V) (A':=λ_=>False) hk.2;split at hs
   ·rename_i b hc;rw[hc]at hmp;obtain⟨q,hA,hV⟩:=hmp.yH;unfold VX at hs;split at hs
    ·rename_i es hg;obtain⟨r,h2,rfl⟩:=aH hs;obtain⟨o',g1,es',rfl,hr⟩:=H.obj b _ hg hV;obtain⟨r',h3,h4⟩:=ZY hr hv h2;refine⟨_,by simp only[aP,gu,aiX,hkk,qzq hk.1,q,g1,afz,h3,om];rfl,VW.lU .nil,?_,wro hA hV⟩;exact HW.up (qc H hA hV ⟨_,rfl,h4⟩) hn hm
    ·cases hs
   ·cases hs
  ·cases hs
 |range x=>
  simp only[stepW,VO]at hs;have hx:=he.opd (x:=x) ho;split at hs
  ·rename_i s hc;cases hs;rw[hc]at hx;refine⟨(.ptr m 0 0,[(m,some (.iter s 0))]),by simp only[aP,gu,QG,hx.iL],?_,qm H hn hm (show OW _ _ _ (.iter s 0) (.iter s 0)from rfl),wrn⟩;have:=VW.ptr (ρ:=up ρ n m) (V:=V) (A:=addN A n) n 0 0 (.inr rfl) hVn;rw[un]at this;exact this
  ·cases hs
 |next x=>
  simp only[stepW,YK]at hs;have hx:=he.opd (x:=x) ho;split at hs
  ·rename_i b hc;rw[hc]at hx;obtain⟨q,hA,hV⟩:=hx.jk;unfold Ef at hs;split at hs
   ·rename_i s pos hg;obtain⟨o',g1,rfl⟩:=H.obj b _ hg hV;split at hs
    ·rename_i hp;cases hs;refine⟨_,by simp only[aP,gu,Tv,q,g1,nextIter,qzq hp];rfl,VW.lU (.cons (.bool _) (.cons (.int _ _) (.cons (.int _ _) .nil))),?_,wro hA hV⟩;exact HW.up (qc H hA hV rfl) hn hm
    ·rename_i hp;cases hs;exact⟨_,by simp only[aP,gu,Tv,q,g1,nextIter,qwx hp],aX H hn hm (VW.lU (.cons (.bool _) .nil))⟩
   ·cases hs
  ·cases hs
 |ext i x=>
  obtain⟨v,u,h1,rfl⟩:=bJ hs;have hx:=he.opd (x:=x) ho;simp only[TJ]at h1;split at h1
  ·rename_i vs hc;rw[hc]at hx;obtain⟨vs',q,hr⟩:=hx.uH;obtain⟨v',h2,h3⟩:=hr.get (nU h1);exact⟨_,by simp only[aP,gu,TJ,q];exact vH h2,aX H hn hm h3⟩
  ·cases h1
 |len kd x=>
  obtain⟨v,h1,rfl⟩:=Jk hs;have hx:=he.opd (x:=x) ho;have key:nZ kd h' ((erO x).ev e')=some v/\VW ρ V A v v:=by
   cases hxe:x.ev e with
   |str s=>rw[hxe]at hx h1;rw[hx.iL];simp only[rU]at h1;split at h1<;>cases h1;exact⟨by simp only[nZ];rw[qzq];assumption,.int _ _⟩
   |bG=>rw[hxe]at hx h1;cases hnm:(erO x).ev e'<;>rw[hnm]at hx<;>cases hx;simp only[rU]at h1;split at h1<;>cases h1;exact⟨by simp only[nZ];rw[qzq];assumption,.int _ _⟩
   |dU=>rw[hxe]at hx h1;cases hnm:(erO x).ev e'<;>rw[hnm]at hx<;>cases hx;simp only[rU]at h1;split at h1<;>cases h1;exact⟨by simp only[nZ];rw[qzq];assumption,.int _ _⟩
   |ro z es ex=>
    rw[hxe]at hx h1;simp only[rU]at h1;split at h1<;>cases h1;rcases hx.mJ with⟨rfl,q⟩|⟨es',ex',q,_,hr,_⟩
    ·rw[q];exact⟨by simp only[nZ];rw[qzq];rfl;assumption,.int _ _⟩
    ·rw[q];exact⟨by simp only[nZ,<- hr.1];rw[qzq];assumption,.int _ _⟩
   |sl b z i len cap ex=>
    rw[hxe]at hx h1;simp only[rU]at h1;split at h1<;>cases h1;rcases hx.jQ with⟨_,_,ex',q,_⟩|⟨_,_,_,rfl,_,q⟩
    ·rw[q];exact⟨by simp only[nZ];rw[qzq];assumption,.int _ _⟩
    ·rcases q with q | q
     ·rw[q];exact⟨by simp only[nZ];rw[qzq];rfl;assumption,.int _ _⟩
     ·rw[q];exact⟨by simp only[nZ,qJx];rw[qzq];assumption,.int _ _⟩
   |map b=>
    rw[hxe]at hx h1;obtain⟨q,hA,hV⟩:=hx.yH;simp only[rU]at h1;split at h1
    ·rename_i hk;unfold Rq at h1;split at h1
     ·rename_i es hg;cases h1;obtain⟨o',g1,es',rfl,hr⟩:=H.obj b _ hg hV;exact⟨by simp only[q,nZ,qzq hk,g1,WB,hr.1],.int _ _⟩
     ·cases h1
    ·cases h1
   |_=>rw[hxe]at h1;simp[rU]at h1
  exact⟨_,vH key.1,aX H hn hm key.2⟩
 |cap x=>
  obtain⟨v,u,h1,rfl⟩:=bJ hs;have hx:=he.opd (x:=x) ho;have h1:=nU h1;have key:zG ((erO x).ev e')=some v/\VW ρ V A v v:=by
   cases hxe:x.ev e with
   |bG=>rw[hxe]at hx h1;cases hnm:(erO x).ev e'<;>rw[hnm]at hx<;>cases hx;simp only[zG]at h1;cases h1;exact⟨rfl,.int _ _⟩
   |ro z es ex=>
    rw[hxe]at hx h1;simp only[zG]at h1;split at h1<;>cases h1;rename_i hex;rcases hx.mJ with⟨rfl,q⟩|⟨es',ex',q,hxx,hr,_⟩
    ·rw[q];exact⟨rfl,.int _ _⟩
    ·rw[q];exact⟨by simp only[zG,hxx hex,qyx,<- hr.1],.int _ _⟩
   |sl b z i len cap ex=>
    rw[hxe]at hx h1;simp only[zG]at h1;split at h1<;>cases h1;rename_i hex;rcases hx.jQ with⟨_,_,ex',q,hxx⟩|⟨_,_,_,_,rfl,q⟩
    ·rw[q];exact⟨by simp only[zG,hxx hex,qyx],.int _ _⟩
    ·rcases q with q | q
     ·rw[q];exact⟨rfl,.int _ _⟩
     ·rw[q];exact⟨rfl,.int _ _⟩
   |_=>rw[hxe]at h1;simp[zG]at h1
  exact⟨_,vH key.1,aX H hn hm key.2⟩
 |app z bytes zeros s x=>
  simp only[jd,qwz]at ho;simp only[stepW,Uo]at hs;have hz:=zK (ρ:=ρ) (V:=V) (A:=A) z ho.1;have hss:=he.opd ho.2.1;have hx:=he.opd ho.2.2;split at hs
  ·rename_i hzz;split at hs
   ·rename_i k q hc;rw[hc]at hx;obtain⟨j,h1,h2⟩:=aA hs;split at h2
    ·rename_i hb;obtain⟨r',h3,h4⟩:=SG H hn hm hss (bF.replicate hz j) (λq e he x hx=>by rw[quz he]at hx;exact allC q x hx) h2;exact⟨r',by simp only[aP,gu,VZ,qzq hzz,hx.dS,h1,ob,qzq hb,<- hz.1];exact h3,h4⟩
    ·cases h2
   ·cases hs
  ·rename_i hzz;obtain⟨⟨xs,d⟩,h1,h2⟩:=aA hs;obtain⟨xs',h3,h4,h5⟩:=SY H hx h1;obtain⟨r',h6,h7⟩:=SG H hn hm hss h4 h5 h2;exact⟨r',by simp only[aP,gu,VZ,qwx hzz,<- hz.1,h3,ob];exact h6,h7⟩
 |cpy z d s=>
  simp only[jd,qwz]at ho;simp only[stepW,abt]at hs;have hd:=he.opd ho.1;have hss:=he.opd ho.2;obtain⟨⟨xs,dd⟩,h1,h2⟩:=aA hs;obtain⟨xs',h3,h4,h5⟩:=SY H hss h1;simp only[aP,gu,ai0,h3,ob];cases hde:d.ev e with
  |bG=>rw[hde]at hd h2;cases hnm:(erO d).ev e'<;>rw[hnm]at hd<;>cases hd;simp only[qU,qwq]at h2;subst h2;exact⟨_,rfl,aX H hn hm (.int _ _)⟩
  |sl b z' i len cap ex=>
   rw[hde]at hd h2;simp only[qU]at h2;split at h2
   ·rename_i hzz;subst hzz;split at h2
    ·rename_i hmin;cases h2;rcases hd.jQ with⟨_,_,ex',q,_⟩|⟨hA,hV,rfl,rfl,rfl,q⟩
     ·exact⟨_,by simp only[q,uU,qyx,<- h4.1,qzq hmin],aX H hn hm (.int _ _)⟩
     ·rcases q with q | q
      ·exact⟨_,by simp only[q,uU],aX H hn hm (.int _ _)⟩
      ·exact⟨_,by simp only[q,uU],aX H hn hm (.int _ _)⟩
    ·rename_i hmin;rcases hd.jQ with⟨hA,hV,ex',q,_⟩|⟨_,_,_,rfl,_,_⟩
     ·unfold Qs at h2;split at h2
      ·rename_i zb es mu dt hg;split at h2
       ·rename_i hc;cases h2;obtain⟨o',g1,es',mu',rfl,gm,ge,gd⟩:=H.obj b _ hg hV;refine⟨_,by simp only[q,uU,qyx,<- h4.1,qwx hmin,g1,XK];rw[qzq ⟨gm hc.1,hc.2.1,by rw[<- ge.1];exact hc.2.2⟩],?_,?_,wro hA hV⟩
        ·exact .int _ _
        ·refine HW.up (qc H hA hV ?_) hn hm;refine⟨_,true,rfl,λ_=>rfl,(ge.take _).append ((h4.take _).append (ge.drop _)),λq e he x hx=>?_⟩;simp only[qwz]at q;rcases qWj.1 he with q3 | q3
         ·exact gd q.1 e (qJq q3) x hx
         ·rcases qWj.1 q3 with q3 | q3
          ·exact h5 q.2 e (qJq q3) x hx
          ·exact gd q.1 e (qXz q3) x hx
       ·cases h2
      ·cases h2
     ·simp at hmin
   ·cases h2
  |_=>rw[hde]at h2;simp[qU]at h2
 |clr z d=>
  simp only[jd,qwz]at ho;simp only[stepW,ain]at hs;have hz:=zK (ρ:=ρ) (V:=V) (A:=A) z ho.1;have hd:=he.opd ho.2;simp only[aP,gu,agP];cases hde:d.ev e with
  |bG=>rw[hde]at hd hs;cases hnm:(erO d).ev e'<;>rw[hnm]at hd<;>cases hd;simp only[EN,qwq]at hs;subst hs;exact⟨_,rfl,aX H hn hm (.lU ⟨rfl,by simp⟩)⟩
  |sl b z' i len cap ex=>
   rw[hde]at hd hs;simp only[EN]at hs;split at hs
   ·rename_i hzz;split at hs
    ·rename_i h0;cases hs;rcases hd.jQ with⟨_,_,ex',q,_⟩|⟨hA,hV,rfl,rfl,rfl,q⟩
     ·exact⟨_,by simp only[q,JF,<- hz.1,qzq hzz,qzq h0],aX H hn hm (.lU ⟨rfl,by simp⟩)⟩
     ·rcases q with q | q
      ·exact⟨_,by simp only[q,JF],aX H hn hm (.lU ⟨rfl,by simp⟩)⟩
      ·exact⟨_,by simp only[q,JF],aX H hn hm (.lU ⟨rfl,by simp⟩)⟩
    ·rename_i h0;rcases hd.jQ with⟨hA,hV,ex',q,_⟩|⟨_,_,_,rfl,_,_⟩
     ·unfold XD at hs;split at hs
      ·rename_i zb es mu dt hg;split at hs
       ·rename_i hc;cases hs;obtain⟨o',g1,es',mu',rfl,gm,ge,gd⟩:=H.obj b _ hg hV;refine⟨_,by simp only[q,JF,<- hz.1,qzq hzz,qwx h0,g1,adg];rw[qzq ⟨gm hc.1,hc.2.1,by rw[<- ge.1];exact hc.2.2⟩],?_,?_,wro hA hV⟩
        ·exact .lU ⟨rfl,by simp⟩
        ·refine HW.up (qc H hA hV ?_) hn hm;refine⟨_,true,rfl,λ_=>rfl,(ge.take _).append ((bF.replicate hz len).append (ge.drop _)),λq e he x hx=>?_⟩;simp only[qwz]at q;rcases qWj.1 he with q3 | q3
         ·exact gd q.1 e (qJq q3) x hx
         ·rcases qWj.1 q3 with q3 | q3
          ·rw[quz q3]at hx;exact allC q.2 x hx
          ·exact gd q.1 e (qXz q3) x hx
       ·cases hs
      ·cases hs
     ·simp at h0
   ·cases hs
  |_=>rw[hde]at hs;simp[EN]at hs
 |mx x y=>
  simp only[jd,qwz]at ho;obtain⟨v,u,h1,rfl⟩:=bJ hs;have hx:=he.opd ho.1;have hy:=he.opd ho.2;simp only[sMx]at h1;split at h1
  ·rename_i k a k' b hc1 hc2;rw[hc1]at hx;rw[hc2]at hy;split at h1
   ·rename_i hk;cases h1;exact⟨_,by simp only[aP,gu,sMx,hx.dS,hy.dS,qzq hk],aX H hn hm (.int _ _)⟩
   ·cases h1
  ·cases h1
 |mn x y=>
  simp only[jd,qwz]at ho;obtain⟨v,u,h1,rfl⟩:=bJ hs;have hx:=he.opd ho.1;have hy:=he.opd ho.2;simp only[sMn]at h1;split at h1
  ·rename_i k a k' b hc1 hc2;rw[hc1]at hx;rw[hc2]at hy;split at h1
   ·rename_i hk;cases h1;exact⟨_,by simp only[aP,gu,sMn,hx.dS,hy.dS,qzq hk],aX H hn hm (.int _ _)⟩
   ·cases h1
  ·cases h1
 |call f args=>simp[stepW]at hs
 |dY g args=>simp[stepW]at hs
 |fail=>simp[stepW]at hs
end
section
variable {ρ:Nat->Nat}{V A:Nat->Prop}{h:aI}{h':Heap}
theorem gB{α β:Type}{R:α->β->Prop}{f:α->Option α}{g:β->Option β}{T:α->β->Prop}(hf:∀x y,R x y->∀x',f x=some x'->∃y',g y=some y'/\T x' y') :
 ∀{l:List α}{l':List β}{r:List α},bF R l l'->aZ f l=some r->∃r',aZ g l'=some r'/\bF T r r':=by
 intro l;induction l with
 |nil=>intro l' r hr h;rw[hr.fD];simp only[aZ,qwq]at h;subst h;exact⟨[],rfl,.nil⟩
 |cons a l ih=>intro l' r hr h;obtain⟨b,t,rfl,h1,h2⟩:=hr.dI;simp only[aZ]at h |-;obtain⟨x',h3,h⟩:=aA h;obtain⟨xs',h4,rfl⟩:=aH h;obtain⟨y',h5,h6⟩:=hf _ _ h1 _ h3;obtain⟨ys',h7,h8⟩:=ih h2 h4;exact⟨y'::ys',by rw[h5,h7];rfl,.cons h6 h8⟩
theorem YB{x u:AV}(hx:VW ρ V A x u)(hc:isC x=true)(n:Nat):frz h' (n+1) u=some u:=by
 cases hx with
 |fn f cs cs' hl hr=>
  cases cs with
  |nil=>have:cs'=[]:=qZq.1 (by simpa using hl.symm);subst this;rfl
  |cons a r=>simp[isC]at hc
 |undef=>simp[isC]at hc
 |ptr=>simp[isC]at hc
 |sl=>simp[isC]at hc
 |slv=>simp[isC]at hc
 |map=>simp[isC]at hc
 |agg=>simp[isC]at hc
 |tup=>simp[isC]at hc
 |_=>rfl
theorem RN{α:Type}{f:α->Option α}:∀{l:List α},(∀x∈l,f x=some x)->aZ f l=some l:=by
 intro l;induction l with
 |nil=>intro _;rfl
 |cons a l ih=>intro h;simp only[aZ,h a qVx,ob,ih (λx hx=>h x (qyj _ hx)),om]
theorem JR(H:HW ρ V A h h'):∀(n:Nat) (v u v':AV),VW ρ V A v u->bD h n v=some v'->∃u',frz h' n u=some u'/\VD ρ V v' u':=by
 intro n;induction n with
 |zero=>intro v u v' _ hf;simp[bD]at hf
 |succ n ih=>
  intro v u v' hv hf;cases v with
  |undef=>simp[bD]at hf
  |bool b=>simp only[bD]at hf;cases hf;rw[hv.fU];exact⟨_,rfl,.bool b⟩
  |int k x=>simp only[bD]at hf;cases hf;rw[hv.dS];exact⟨_,rfl,.int k x⟩
  |str s=>simp only[bD]at hf;cases hf;rw[hv.iL];exact⟨_,rfl,.str s⟩
  |eG=>simp only[bD]at hf;cases hf;cases hv;exact⟨_,rfl,.eG⟩
  |bG=>simp only[bD]at hf;cases hf;cases hv;exact⟨_,rfl,.bG⟩
  |dU=>simp only[bD]at hf;cases hf;cases hv;exact⟨_,rfl,.dU⟩
  |dW=>simp only[bD]at hf;cases hf;cases hv;exact⟨_,rfl,.dW⟩
  |ro z es ex=>
   simp only[bD]at hf;cases hf;have hd:VW ρ V (λ_=>False) (.ro z es ex) u:=hv.isC rfl;rcases hv.mJ with⟨rfl,rfl⟩|⟨es',ex',rfl,_,_,_⟩
   ·exact⟨_,rfl,hd⟩
   ·exact⟨_,rfl,hd⟩
  |rop cs=>simp only[bD]at hf;cases hf;have hd:VW ρ V (λ_=>False) (.rop cs) u:=hv.isC rfl;obtain⟨cs',rfl,_⟩:=hv.vC;exact⟨_,rfl,hd⟩
  |ptr b i o=>
   simp only[bD]at hf;split at hf
   ·rename_i zb es mu dt hg;obtain⟨rfl,hA,hV⟩:=hv.jk;obtain⟨o',g1,es',mu',rfl,_,ge,gd⟩:=H.obj b _ hg hV;obtain⟨cs,hcs,hf⟩:=aA hf;obtain⟨cs',hcs',hce⟩:=ge.get hcs;simp only[frz,g1,hcs',Pav.ob];split at hf
    ·rename_i hdt;split at hf
     ·cases hf
     ·rename_i hn0;cases hf;obtain⟨k,rfl⟩:∃k,n=k+1:=⟨n-1,by omega⟩;have hsub:∀x∈cs.drop o,isC x=true:=λx hx=>gd hdt cs (qwj hcs) x (qXz hx);have grel:=hce.drop o;have hid:aZ (frz h' (k+1)) (cs'.drop o)=some (cs'.drop o):=by refine RN λx' hx'=>?_;obtain⟨c,hc,q4⟩:=qvx hx';obtain⟨x,q5,q6⟩:=grel.get' (qqj hc);rw[q4]at q6;exact YB q6 (hsub x (qwj q5)) k
      refine⟨_,by rw[hid];rfl,?_⟩;exact VW.TF (grel.mono λx x' hx hxx=>hxx.isC (hsub x hx))
    ·obtain⟨cs2,h1,rfl⟩:=aH hf;obtain⟨r',h2,h3⟩:=gB (λa b hab a' ha'=>ih a b a' hab ha') (hce.drop o) h1;exact⟨_,by rw[h2];rfl,VW.TF h3⟩
   ·cases hf
  |map b=>simp[bD]at hf
  |sl b z i len cap ex=>
   simp only[bD]at hf;split at hf
   ·rename_i zb es mu dt hg;rcases hv.jQ with⟨hA,hV,ex',rfl,hx⟩|⟨hA,hV,rfl,rfl,rfl,hu⟩
    ·obtain⟨o',g1,es',mu',rfl,_,ge,gd⟩:=H.obj b _ hg hV;simp only[frz,g1];split at hf
     ·rename_i hdt;split at hf
      ·cases hf
      ·rename_i hn0;obtain⟨hlen,hf⟩:=wW hf;cases hf;simp only[qkj]at hlen;obtain⟨k,rfl⟩:∃k,n=k+1:=⟨n-1,by omega⟩;have hsub:∀e∈(es.drop i).take len,∀x∈e,isC x=true:=λe he x hx=>gd hdt e (qXz (qJq he)) x hx;have grel:=(ge.drop i).take len;have hid:aZ (aZ (frz h' (k+1))) ((es'.drop i).take len)=some ((es'.drop i).take len):=by refine RN λe' he'=>RN λx' hx'=>?_;obtain⟨a,ha,q1⟩:=qvx he';obtain⟨e,q2,q3⟩:=grel.get' (qqj ha);rw[q1]at q3;obtain⟨c,hc,q4⟩:=qvx hx';obtain⟨x,q5,q6⟩:=q3.get' (qqj hc);rw[q4]at q6;exact YB q6 (hsub e (qwj q2) x (qwj q5)) k
       refine⟨_,by rw[hid];simp only[ob,og,<- grel.1,hlen,qlj];rfl,?_⟩;refine VW.Zz (grel.mono λe e' he hee=>hee.mono λx x' hx hxx=>hxx.isC (hsub e he x hx)) hsub ?_;simp only[qwz];exact λq=>⟨hx q.1,q.2⟩
     ·obtain⟨es2,h1,hf⟩:=aA hf;obtain⟨hlen,hf⟩:=wW hf;cases hf;simp only[qwz,qkj,qkz]at hlen;obtain⟨r',h2,h3⟩:=gB (R:=bF (VW ρ V A)) (g:=aZ (frz h' n)) (T:=bF (VD ρ V)) (λx y hxy x' hx'=>gB (λa b hab a' ha'=>ih a b a' hab ha') hxy hx') ((ge.drop i).take len) h1;refine⟨_,by rw[h2];simp only[ob,og,<- h3.1,hlen.1,qlj];rfl,?_⟩;refine VW.Zz h3 hlen.2 ?_;simp only[qwz];exact λq=>⟨hx q.1,q.2⟩
    ·obtain⟨z2,mu2,dt2,q⟩:=H.uG b _ hg hV;cases q;have hv':∃ex2,v'=.ro z [] ex2:=by
      split at hf
      ·split at hf
       ·cases hf
       ·obtain⟨_,hf⟩:=wW hf;cases hf;exact⟨_,rfl⟩
      ·obtain⟨es2,h1,hf⟩:=aA hf;simp only[zwj,zwx,aZ,qwq]at h1;subst h1;obtain⟨_,hf⟩:=wW hf;cases hf;exact⟨_,rfl⟩
     obtain⟨ex2,rfl⟩:=hv';rcases hu with rfl | rfl
     ·exact⟨_,rfl,.jh _ _⟩
     ·exact⟨_,rfl,VW.Zz .nil (λ_ h=>by cases h) (λ_=>rfl)⟩
   ·cases hf
  |fn f caps=>obtain⟨cs',rfl,hr⟩:=hv.zW;simp only[bD]at hf;obtain⟨cs,h1,rfl⟩:=aH hf;obtain⟨r',h2,h3⟩:=gB (λa b hab a' ha'=>ih a b a' hab ha') hr h1;exact⟨_,by simp only[frz,h2];rfl,VW.lN h3⟩
  |agg caps=>obtain⟨cs',rfl,hr⟩:=hv.ny;simp only[bD]at hf;obtain⟨cs,h1,rfl⟩:=aH hf;obtain⟨r',h2,h3⟩:=gB (λa b hab a' ha'=>ih a b a' hab ha') hr h1;exact⟨_,by simp only[frz,h2];rfl,VW.NC h3⟩
  |tup caps=>obtain⟨cs',rfl,hr⟩:=hv.uH;simp only[bD]at hf;obtain⟨cs,h1,rfl⟩:=aH hf;obtain⟨r',h2,h3⟩:=gB (λa b hab a' ha'=>ih a b a' hab ha') hr h1;exact⟨_,by simp only[frz,h2];rfl,VW.lU h3⟩
theorem xA{x u:AV}(hx:VW ρ V A x u)(hc:isC x=true):∀n,reach h' n u=[]:=by
 intro n;cases n with
 |zero=>rfl
 |succ n=>
  cases hx with
  |fn f cs cs' hl hr=>
   cases cs with
   |nil=>have:cs'=[]:=qZq.1 (by simpa using hl.symm);subst this;rfl
   |cons a r=>simp[isC]at hc
  |undef=>simp[isC]at hc
  |ptr=>simp[isC]at hc
  |sl=>simp[isC]at hc
  |slv=>simp[isC]at hc
  |map=>simp[isC]at hc
  |agg=>simp[isC]at hc
  |tup=>simp[isC]at hc
  |_=>rfl
theorem La(H:HW ρ V A h h'):∀(n:Nat) (v u v':AV),VW ρ V A v u->bD h n v=some v'->∀b'∈reach h' n u,∃b∈aQ h n v,b'=ρ b/\¬V b/\A b/\∃z es mu dt,get h b=some (.cells z es mu dt):=by
 intro n;induction n with
 |zero=>intro v u v' _ _ b hb;simp[reach]at hb
 |succ n ih=>
  have lst:∀{l l' r:List AV},bF (VW ρ V A) l l'->aZ (bD h n) l=some r->∀b'∈l'.flatMap (reach h' n),∃b∈l.flatMap (aQ h n),b'=ρ b/\¬V b/\A b/\∃z es mu dt,get h b=some (.cells z es mu dt):=by intro l l' r hr hm b' hb';simp only[qvq]at hb' |-;obtain⟨u,hu,hb'⟩:=hb';obtain⟨j,hj,q1⟩:=qvx hu;obtain⟨v,q2,q3⟩:=hr.get' (qqj hj);rw[q1]at q3;obtain⟨v',_,q4⟩:=(dn hm).2 j v q2;obtain⟨b,q5,q6⟩:=ih v u v' q3 q4 b' hb';exact⟨b,⟨v,qwj q2,q5⟩,q6⟩
  intro v u v' hv hf b' hb';cases v with
  |undef=>simp[bD]at hf
  |bool b=>rw[hv.fU]at hb';simp[reach]at hb'
  |int k x=>rw[hv.dS]at hb';simp[reach]at hb'
  |str s=>rw[hv.iL]at hb';simp[reach]at hb'
  |eG=>cases hv;simp[reach]at hb'
  |bG=>cases hv;simp[reach]at hb'
  |dU=>cases hv;simp[reach]at hb'
  |dW=>cases hv;simp[reach]at hb'
  |ro z es ex=>rw[xA hv rfl]at hb';cases hb'
  |rop cs=>rw[xA hv rfl]at hb';cases hb'
  |ptr b i o=>
   simp only[bD]at hf;split at hf
   ·rename_i zb es mu dt hg;obtain⟨rfl,hA,hV⟩:=hv.jk;obtain⟨o',g1,es',mu',rfl,_,ge,gd⟩:=H.obj b _ hg hV;obtain⟨cs,hcs,hf⟩:=aA hf;obtain⟨cs',hcs',hce⟩:=ge.get hcs;simp only[reach,g1,hcs',qKq,qjj]at hb';rcases hb' with rfl | hb'
    ·exact⟨b,by simp[aQ],rfl,hV,hA,_,_,_,_,hg⟩
    ·split at hf
     ·rename_i hdt;exfalso;simp only[qvq]at hb';obtain⟨x',hx',hb'⟩:=hb';obtain⟨c,hc,q4⟩:=qvx hx';obtain⟨x,q5,q6⟩:=(hce.drop o).get' (qqj hc);rw[q4]at q6;have:=gd hdt cs (qwj hcs) x (qXz (qwj q5));rw[xA q6 this]at hb';cases hb'
     ·rename_i hdt;obtain⟨cs2,h1,rfl⟩:=aH hf;obtain⟨b2,q5,q6⟩:=lst (hce.drop o) h1 b' hb';refine⟨b2,?_,q6⟩;simp only[aQ,hg,hcs,qKq,qjj];right;rw[qwx hdt];exact q5
   ·cases hf
  |map b=>simp[bD]at hf
  |sl b z i len cap ex=>
   simp only[bD]at hf;split at hf
   ·rename_i zb es mu dt hg;rcases hv.jQ with⟨hA,hV,ex',rfl,hx⟩|⟨hA,hV,rfl,rfl,rfl,hu⟩
    ·obtain⟨o',g1,es',mu',rfl,_,ge,gd⟩:=H.obj b _ hg hV;simp only[reach,g1,qjj]at hb';rcases hb' with rfl | hb'
     ·exact⟨b,by simp[aQ],rfl,hV,hA,_,_,_,_,hg⟩
     ·split at hf
      ·rename_i hdt;exfalso;simp only[qvq]at hb';obtain⟨e',he',x',hx',hb'⟩:=hb';obtain⟨a,ha,q1⟩:=qvx he';obtain⟨e,q2,q3⟩:=((ge.drop i).take len).get' (qqj ha);rw[q1]at q3;obtain⟨c,hc,q4⟩:=qvx hx';obtain⟨x,q5,q6⟩:=q3.get' (qqj hc);rw[q4]at q6;have:=gd hdt e (qXz (qJq (qwj q2))) x (qwj q5);rw[xA q6 this]at hb';cases hb'
      ·rename_i hdt;obtain⟨es2,h1,hf⟩:=aA hf;simp only[qvq]at hb';obtain⟨e',he',x',hx',hb'⟩:=hb';obtain⟨a,ha,q1⟩:=qvx he';obtain⟨e,q2,q3⟩:=((ge.drop i).take len).get' (qqj ha);rw[q1]at q3;obtain⟨e2,_,q4⟩:=(dn h1).2 a e q2;obtain⟨b2,q5,q6⟩:=lst q3 q4 b' (by simp only[qvq];exact⟨x',hx',hb'⟩);refine⟨b2,?_,q6⟩;simp only[aQ,hg,qjj];right;rw[qwx hdt];simp only[qvq]at q5 |-;exact⟨e,qwj q2,q5⟩
    ·rcases hu with rfl | rfl<;>simp[reach]at hb'
   ·cases hf
  |fn f caps=>obtain⟨cs',rfl,hr⟩:=hv.zW;simp only[bD]at hf;obtain⟨cs,h1,rfl⟩:=aH hf;simp only[reach]at hb';obtain⟨b,q⟩:=lst hr h1 b' hb';exact⟨b,by simpa only[aQ]using q⟩
  |agg caps=>obtain⟨cs',rfl,hr⟩:=hv.ny;simp only[bD]at hf;obtain⟨cs,h1,rfl⟩:=aH hf;simp only[reach]at hb';obtain⟨b,q⟩:=lst hr h1 b' hb';exact⟨b,by simpa only[aQ]using q⟩
  |tup caps=>obtain⟨cs',rfl,hr⟩:=hv.uH;simp only[bD]at hf;obtain⟨cs,h1,rfl⟩:=aH hf;simp only[reach]at hb';obtain⟨b,q⟩:=lst hr h1 b' hb';exact⟨b,by simpa only[aQ]using q⟩
theorem aa1:∀(n:Nat) (v u:AV),VD ρ V v u->fP n u=true->dG n v=true:=by
 intro n;induction n with
 |zero=>intro v u _ _;rfl
 |succ n ih=>
  have lst:∀{l l':List AV},bF (VD ρ V) l l'->l'.any (fP n)=true->l.any (dG n)=true:=by intro l l' hr h;simp only[qaq]at h |-;obtain⟨u,hu,h⟩:=h;obtain⟨j,hj,q1⟩:=qvx hu;obtain⟨v,q2,q3⟩:=hr.get' (qqj hj);rw[q1]at q3;exact⟨v,qwj q2,ih v u q3 h⟩
  intro v u hv h;cases hv with
  |undef u=>rfl
  |fn f cs cs' hl hr=>simp only[fP]at h;simp only[dG];exact lst ⟨hl,hr⟩ h
  |agg cs cs' hl hr=>simp only[fP]at h;simp only[dG];exact lst ⟨hl,hr⟩ h
  |tup cs cs' hl hr=>simp only[fP]at h;simp only[dG];exact lst ⟨hl,hr⟩ h
  |ro=>rfl
  |rop=>rfl
  |jh=>rfl
  |ptr _ _ _ hA=>exact hA.elim
  |sl _ _ _ _ _ _ _ hA=>exact hA.elim
  |slv _ _ _ _ hA=>exact hA.elim
  |map _ hA=>exact hA.elim
  |_=>simp[fP]at h
theorem vZ(H:HW ρ V A h h'):∀(L:List Nat) (L':List Nat),(∀b'∈L',∃b∈L,b'=ρ b/\¬V b/\A b/\∃z es mu dt,get h b=some (.cells z es mu dt)) ->
 HW ρ V A (bT h (bf h L)) (aS h' (aY h' L'))/\∀b'∈(aY h' L').map (·.1),∃b∈(bf h L).map (·.1),b'=ρ b/\¬V b/\A b:=by
 have getW:∀(h0:aI) (L:List Nat) (g:aI),∀c,get (bT g (bf h0 L)) c=if c∈L then(match get h0 c with | some (.cells z es _ dt)=>some (.cells z es false dt) | _=>get g c)else get g c:=by
  intro h0 L;induction L with
  |nil=>intro g c;simp[bf,bT]
  |cons b L ih=>
   intro g c;simp only[bf];split
   ·rename_i z es mu dt hg;simp only[bT,BI,ih,get_put,qjj];by_cases e:c=b
    ·subst e;simp only[hg,qyx,true_or];split<;>rfl
    ·simp only[e,zvz,qwx (qYx e)]
   ·rename_i hg;rw[ih];simp only[qjj];by_cases e:c=b
    ·subst e;simp only[true_or,qyx];have:(match get h0 c with | some (.cells z es _ dt)=>some (dD.cells z es false dt) | _=>get g c)=get g c:=by
      split
      ·rename_i z es mu dt hg2;exact absurd hg2 (hg z es mu dt)
      ·rfl
     first
      |(rw[this];split<;>rfl)
      |(split<;>rfl)
    ·simp only[e,zvz]
 have getP:∀(h0:Heap) (L:List Nat) (g:Heap),∀c,get (aS g (aY h0 L)) c=if c∈L then(match get h0 c with | some (.cells z es _)=>some (.cells z es false) | _=>get g c)else get g c:=by
  intro h0 L;induction L with
  |nil=>intro g c;simp[aY,aS]
  |cons b L ih=>
   intro g c;simp only[aY];split
   ·rename_i z es mu hg;simp only[aS,uZ,ih,get_put,qjj];by_cases e:c=b
    ·subst e;simp only[hg,qyx,true_or];split<;>rfl
    ·simp only[e,zvz,qwx (qYx e)]
   ·rename_i hg;rw[ih];simp only[qjj];by_cases e:c=b
    ·subst e;simp only[true_or,qyx];have:(match get h0 c with | some (.cells z es _)=>some (jq.cells z es false) | _=>get g c)=get g c:=by
      split
      ·rename_i z es mu hg2;exact absurd hg2 (hg z es mu)
      ·rfl
     first
      |(rw[this];split<;>rfl)
      |(split<;>rfl)
    ·simp only[e,zvz]
 have memW:∀(h0:aI) (L:List Nat) (b:Nat),b∈L->(∃z es mu dt,get h0 b=some (.cells z es mu dt))->b∈(bf h0 L).map (·.1):=by
  intro h0 L b;induction L with
  |nil=>intro hb;cases hb
  |cons a L ih=>
   intro hb hg;simp only[bf];rcases qjj.1 hb with rfl | hb
   ·obtain⟨z,es,mu,dt,hg⟩:=hg;rw[hg];simp
   ·have:=ih hb hg;split
    ·simp only[qvj,qjj];exact .inr this
    ·exact this
 intro L L' hL;refine⟨⟨λc o hc=>?_,λc o hc hv=>?_,λc o hc hv=>?_,H.sub,H.inj⟩,λb' hb'=>?_⟩
 ·rw[getW]at hc;split at hc
  ·split at hc
   ·rename_i hg;exact H.dom c _ hg
   ·exact H.dom c o hc
  ·exact H.dom c o hc
 ·rw[getW]at hc;split at hc
  ·split at hc
   ·rename_i hg;obtain⟨z,mu,dt,q⟩:=H.uG c _ hg hv;cases q;cases hc;exact⟨_,_,_,rfl⟩
   ·exact H.uG c o hc hv
  ·exact H.uG c o hc hv
 ·have hA:A c:=by
   rw[getW]at hc;split at hc
   ·split at hc
    ·rename_i hg;exact H.dom c _ hg
    ·exact H.dom c o hc
   ·exact H.dom c o hc
  have inv:ρ c∈L'->c∈L:=by intro q;obtain⟨b,q1,q2,q3,q4,_⟩:=hL _ q;rw[H.inj c b hA q4 hv q3 q2];exact q1
  rw[getW]at hc;by_cases hcL:c∈L
  ·rw[qzq hcL]at hc;split at hc
   ·rename_i z es mu dt hg;cases hc;obtain⟨o',g1,es',mu',rfl,gm,ge,gd⟩:=H.obj c _ hg hv;rw[getP];split
    ·rw[g1];exact⟨_,rfl,es',false,rfl,id,ge,gd⟩
    ·exact⟨_,g1,es',mu',rfl,(λq=>by cases q),ge,gd⟩
   ·rename_i hng;obtain⟨o',g1,g2⟩:=H.obj c o hc hv;refine⟨o',?_,g2⟩;rw[getP];split
    ·rw[g1];cases o with
     |cells z es mu dt=>exact absurd hc (hng z es mu dt)
     |map es=>obtain⟨es',rfl,_⟩:=g2;rfl
     |iter s p=>cases g2;rfl
    ·exact g1
  ·rw[qwx hcL]at hc;obtain⟨o',g1,g2⟩:=H.obj c o hc hv;exact⟨o',by rw[getP,qwx (λq=>hcL (inv q))];exact g1,g2⟩
 ·have key:∀(h0:Heap) (L:List Nat) (b:Nat),b∈(aY h0 L).map (·.1)->b∈L/\∃z es mu,get h0 b=some (.cells z es mu):=by
   intro h0 L b;induction L with
   |nil=>intro hb;simp[aY]at hb
   |cons a L ih=>
    intro hb;simp only[aY]at hb;split at hb
    ·rename_i z es mu hg;simp only[qvj,qjj]at hb;rcases hb with rfl | hb
     ·exact⟨by simp,_,_,_,hg⟩
     ·exact⟨qyj _ (ih hb).1,(ih hb).2⟩
    ·exact⟨qyj _ (ih hb).1,(ih hb).2⟩
  obtain⟨q1,z,es,mu,q2⟩:=key h' L' b' hb';obtain⟨b,q3,rfl,q5,q6,q7⟩:=hL b' q1;exact⟨b,memW h L b q3 q7,rfl,q5,q6⟩
end
section
variable {ρ ρ2:Nat->Nat}{V A V2 A2:Nat->Prop}{b nid b' mid:Nat}
theorem KR{R:AV->AV->Prop}:∀(l l':List AV),l.length=l'.length->(∀(j:Nat) (x x':AV),l[j]?=some x->l'[j]?=some x'->∀y,hand b nid x=some y->∃y',hand b' mid x'=some y'/\R y y') ->
 ∀r,nO b nid l=some r->∃r',nO b' mid l'=some r'/\bF R r r':=by
 intro l;induction l with
 |nil=>intro l' hl _ r hr;simp only[nO,qwq]at hr;subst hr;have:l'=[]:=qZq.1 hl.symm;subst this;exact⟨[],rfl,.nil⟩
 |cons a l ih=>
  intro l' hl hh r hr;cases l' with
  |nil=>simp at hl
  |cons a' l'=>simp only[nO]at hr;obtain⟨y,h1,hr⟩:=aA hr;obtain⟨ys,h2,rfl⟩:=aH hr;obtain⟨y',h3,h4⟩:=hh 0 a a' qqz qqz y h1;obtain⟨ys',h5,h6⟩:=ih l' (by simpa using hl) (λj x x' p q=>hh (j+1) x x' (by simpa using p) (by simpa using q)) ys h2;exact⟨y'::ys',by simp only[nO,h3,h5,ob,om],.cons h4 h6⟩
theorem Oi(hb:A b->(¬V b/\b'=ρ b/\A2 nid/\¬V2 nid/\ρ2 nid=mid)\/(V b/\A2 nid/\V2 nid)){v u:AV}(hv:VW ρ V A v u):∀v',hand b nid v=some v'->∃u',hand b' mid u=some u'/\VW ρ2 V2 A2 v' u':=by
 have data:∀{A:Nat->Prop}{x y:AV},isC x=true->VW ρ V A x y->VW ρ2 V2 A2 x y:=λhx h=>h.isC hx;induction hv with
 |undef v=>intro v' h;simp[hand]at h
 |bool t=>intro v' h;simp only[hand]at h;cases h;exact⟨_,rfl,.bool t⟩
 |int k n=>intro v' h;simp only[hand]at h;cases h;exact⟨_,rfl,.int k n⟩
 |str s=>intro v' h;simp only[hand]at h;cases h;exact⟨_,rfl,.str s⟩
 |eG=>intro v' h;simp only[hand]at h;cases h;exact⟨_,rfl,.eG⟩
 |bG=>intro v' h;simp only[hand]at h;cases h;exact⟨_,rfl,.bG⟩
 |dU=>intro v' h;simp only[hand]at h;cases h;exact⟨_,rfl,.dU⟩
 |dW=>intro v' h;simp only[hand]at h;cases h;exact⟨_,rfl,.dW⟩
 |jh z ex=>intro v' h;simp only[hand]at h;cases h;exact⟨_,rfl,.jh z ex⟩
 |ro z es es' ex ex' hc hl hx he hr _=>intro v' h;simp only[hand]at h;cases h;exact⟨_,rfl,data rfl (VW.ro (A:=A) z es es' ex ex' hc hl hx he hr)⟩
 |rop cs cs' hl hr _=>intro v' h;simp only[hand]at h;cases h;exact⟨_,rfl,data rfl (VW.rop (A:=A) cs cs' hl hr)⟩
 |ptr c i o hA hV=>
  intro v' h;simp only[hand]at h;split at h
  ·rename_i e;cases h;subst e;rcases hb hA with⟨q1,q2,q3,q4,q5⟩|⟨q1,_⟩
   ·refine⟨.ptr mid i o,by simp only[hand,q2,qyx],?_⟩;rw[<- q5];exact .ptr nid i o q3 q4
   ·exact absurd q1 hV
  ·cases h
 |sl c z i len cap ex ex' hA hV hx=>
  intro v' h;simp only[hand]at h;split at h
  ·rename_i e;cases h;subst e;rcases hb hA with⟨q1,q2,q3,q4,q5⟩|⟨q1,_⟩
   ·refine⟨.sl mid z i len cap ex',by simp only[hand,q2,qyx],?_⟩;rw[<- q5];exact .sl nid z i len cap ex ex' q3 q4 hx
   ·exact absurd q1 hV
  ·cases h
 |slv c z ex v hA hV hv=>
  intro v' h;simp only[hand]at h;split at h
  ·rename_i e;cases h;subst e;rcases hb hA with⟨q1,_⟩|⟨_,q2,q3⟩
   ·exact absurd hV q1
   ·refine⟨v,?_,.slv nid z ex v q2 q3 hv⟩;rcases hv with rfl | rfl<;>rfl
  ·cases h
 |map c hA hV=>intro v' h;simp[hand]at h
 |fn f cs cs' hl hr ih=>intro v' h;simp only[hand]at h;obtain⟨r,h1,rfl⟩:=aH h;obtain⟨r',h2,h3⟩:=KR cs cs' hl (λj x x' p q y hy=>ih j x x' p q hb y hy) r h1;exact⟨.fn f r',by simp only[hand,h2,om],.lN h3⟩
 |agg cs cs' hl hr ih=>intro v' h;simp only[hand]at h;obtain⟨r,h1,rfl⟩:=aH h;obtain⟨r',h2,h3⟩:=KR cs cs' hl (λj x x' p q y hy=>ih j x x' p q hb y hy) r h1;exact⟨.agg r',by simp only[hand,h2,om],.NC h3⟩
 |tup cs cs' hl hr ih=>intro v' h;simp only[hand]at h;obtain⟨r,h1,rfl⟩:=aH h;obtain⟨r',h2,h3⟩:=KR cs cs' hl (λj x x' p q y hy=>ih j x x' p q hb y hy) r h1;exact⟨.tup r',by simp only[hand,h2,om],.lU h3⟩
theorem ak0(hA:A b)(hV:¬V b){v u:AV}(hv:VW ρ V A v u):∀v',hand b nid v=some v'->(nP v=none/\nP u=none)\/(nP v=some b/\nP u=some (ρ b)):=by
 have lst:∀(l l':List AV),l.length=l'.length->(∀(j:Nat) (x x':AV),l[j]?=some x->l'[j]?=some x'->∀y,hand b nid x=some y->(nP x=none/\nP x'=none)\/(nP x=some b/\nP x'=some (ρ b))) ->
  ∀r,nO b nid l=some r->(jv l=none/\jv l'=none)\/(jv l=some b/\jv l'=some (ρ b)):=by
  intro l;induction l with
  |nil=>intro l' hl _ r hr;have:l'=[]:=qZq.1 hl.symm;subst this;exact .inl ⟨rfl,rfl⟩
  |cons a l ih=>
   intro l' hl hh r hr;cases l' with
   |nil=>simp at hl
   |cons a' l'=>
    simp only[nO]at hr;obtain⟨y,h1,hr⟩:=aA hr;obtain⟨ys,h2,rfl⟩:=aH hr;rcases hh 0 a a' qqz qqz y h1 with⟨q1,q2⟩|⟨q1,q2⟩
    ·rcases ih l' (by simpa using hl) (λj x x' p q=>hh (j+1) x x' (by simpa using p) (by simpa using q)) ys h2 with⟨q3,q4⟩|⟨q3,q4⟩
     ·exact .inl ⟨by simp only[jv,q1,q3],by simp only[jv,q2,q4]⟩
     ·exact .inr ⟨by simp only[jv,q1,q3],by simp only[jv,q2,q4]⟩
    ·exact .inr ⟨by simp only[jv,q1],by simp only[jv,q2]⟩
 induction hv with
 |undef v=>intro v' h;simp[hand]at h
 |bool t=>intro v' h;exact .inl ⟨rfl,rfl⟩
 |int k n=>intro v' h;exact .inl ⟨rfl,rfl⟩
 |str s=>intro v' h;exact .inl ⟨rfl,rfl⟩
 |eG=>intro v' h;exact .inl ⟨rfl,rfl⟩
 |bG=>intro v' h;exact .inl ⟨rfl,rfl⟩
 |dU=>intro v' h;exact .inl ⟨rfl,rfl⟩
 |dW=>intro v' h;exact .inl ⟨rfl,rfl⟩
 |jh z ex=>intro v' h;exact .inl ⟨rfl,rfl⟩
 |ro z es es' ex ex' hc hl hx he hr _=>intro v' h;exact .inl ⟨rfl,rfl⟩
 |rop cs cs' hl hr _=>intro v' h;exact .inl ⟨rfl,rfl⟩
 |ptr c i o hA' hV'=>
  intro v' h;simp only[hand]at h;split at h
  ·rename_i e;subst e;exact .inr ⟨rfl,rfl⟩
  ·cases h
 |sl c z i len cap ex ex' hA' hV' hx=>
  intro v' h;simp only[hand]at h;split at h
  ·rename_i e;subst e;exact .inr ⟨rfl,rfl⟩
  ·cases h
 |slv c z ex v hA' hV' hv=>
  intro v' h;simp only[hand]at h;split at h
  ·rename_i e;subst e;exact absurd hV' hV
  ·cases h
 |map c hA' hV'=>intro v' h;simp[hand]at h
 |fn f cs cs' hl hr ih=>intro v' h;simp only[hand]at h;obtain⟨r,h1,rfl⟩:=aH h;exact lst cs cs' hl (λj x x' p q y hy=>ih j x x' p q hA y hy) r h1
 |agg cs cs' hl hr ih=>intro v' h;simp only[hand]at h;obtain⟨r,h1,rfl⟩:=aH h;exact lst cs cs' hl (λj x x' p q y hy=>ih j x x' p q hA y hy) r h1
 |tup cs cs' hl hr ih=>intro v' h;simp only[hand]at h;obtain⟨r,h1,rfl⟩:=aH h;exact lst cs cs' hl (λj x x' p q y hy=>ih j x x' p q hA y hy) r h1
theorem Zv(hb:A b->V b){v u:AV}(hv:VW ρ V A v u):∀v',hand b nid v=some v'->nP u=none:=by
 have lst:∀(l l':List AV),l.length=l'.length->(∀(j:Nat) (x x':AV),l[j]?=some x->l'[j]?=some x'->∀y,hand b nid x=some y->nP x'=none) ->
  ∀r,nO b nid l=some r->jv l'=none:=by
  intro l;induction l with
  |nil=>intro l' hl _ r hr;have:l'=[]:=qZq.1 hl.symm;subst this;rfl
  |cons a l ih=>
   intro l' hl hh r hr;cases l' with
   |nil=>simp at hl
   |cons a' l'=>simp only[nO]at hr;obtain⟨y,h1,hr⟩:=aA hr;obtain⟨ys,h2,rfl⟩:=aH hr;have q1:=hh 0 a a' qqz qqz y h1;have q2:=ih l' (by simpa using hl) (λj x x' p q=>hh (j+1) x x' (by simpa using p) (by simpa using q)) ys h2;simp only[jv,q1,q2]
 induction hv with
 |undef v=>intro v' h;simp[hand]at h
 |bool t=>intro v' h;rfl
 |int k n=>intro v' h;rfl
 |str s=>intro v' h;rfl
 |eG=>intro v' h;rfl
 |bG=>intro v' h;rfl
 |dU=>intro v' h;rfl
 |dW=>intro v' h;rfl
 |jh z ex=>intro v' h;rfl
 |ro z es es' ex ex' hc hl hx he hr _=>intro v' h;rfl
 |rop cs cs' hl hr _=>intro v' h;rfl
 |ptr c i o hA' hV'=>
  intro v' h;simp only[hand]at h;split at h
  ·rename_i e;subst e;exact absurd (hb hA') hV'
  ·cases h
 |sl c z i len cap ex ex' hA' hV' hx=>
  intro v' h;simp only[hand]at h;split at h
  ·rename_i e;subst e;exact absurd (hb hA') hV'
  ·cases h
 |slv c z ex v hA' hV' hv=>intro v' h;rcases hv with rfl | rfl<;>rfl
 |map c hA' hV'=>intro v' h;simp[hand]at h
 |fn f cs cs' hl hr ih=>intro v' h;simp only[hand]at h;obtain⟨r,h1,rfl⟩:=aH h;exact lst cs cs' hl (λj x x' p q y hy=>ih j x x' p q hb y hy) r h1
 |agg cs cs' hl hr ih=>intro v' h;simp only[hand]at h;obtain⟨r,h1,rfl⟩:=aH h;exact lst cs cs' hl (λj x x' p q y hy=>ih j x x' p q hb y hy) r h1
 |tup cs cs' hl hr ih=>intro v' h;simp only[hand]at h;obtain⟨r,h1,rfl⟩:=aH h;exact lst cs cs' hl (λj x x' p q y hy=>ih j x x' p q hb y hy) r h1
theorem UK{R:AV->AV->Prop}:∀{l l':List AV},bF R l l'->(∀x x',R x x'->iy x=true->iy x'=true)->ou l=true->ou l'=true:=by
 intro l;induction l with
 |nil=>intro l' h _ _;have:=h.fD;subst this;rfl
 |cons a l ih=>intro l' h hf hb;obtain⟨b,r,rfl,h1,h2⟩:=h.dI;simp only[ou,qwz]at hb |-;exact⟨hf _ _ h1 hb.1,ih h2 hf hb.2⟩
theorem Gt{v u:AV}(hv:VW ρ V A v u):iy v=true->iy u=true:=by
 have lst:∀(l l':List AV),l.length=l'.length->(∀(j:Nat) (x x':AV),l[j]?=some x->l'[j]?=some x'->iy x=true->iy x'=true)->ou l=true->ou l'=true:=λl l' h1 h2 h3 =>UK (R:=λx x'=>iy x=true->iy x'=true) ⟨h1,h2⟩ (λx x' h=>h) h3;induction hv with
 |undef v=>intro h;simp[iy]at h
 |jh z ex=>intro h;rfl
 |ro z es es' ex ex' hc hl hx he hr _=>intro h;simp only[iy,qwz,qfx]at h |-;obtain⟨rfl,rfl⟩:=h;exact⟨qZq.1 hl.symm,hx rfl⟩
 |rop=>intro h;simp[iy]at h
 |slv c z ex v hA hV hv=>intro h;rcases hv with rfl | rfl<;>rfl
 |fn f cs cs' hl hr ih=>intro h;simp only[iy]at h |-;exact lst cs cs' hl (λj x x' p q=>ih j x x' p q) h
 |agg cs cs' hl hr ih=>intro h;simp only[iy]at h |-;exact lst cs cs' hl (λj x x' p q=>ih j x x' p q) h
 |tup cs cs' hl hr ih=>intro h;simp only[iy]at h |-;exact lst cs cs' hl (λj x x' p q=>ih j x x' p q) h
 |_=>intro h;rfl
theorem aen{l l':List AV}(h:bF (VW ρ V A) l l'):ou l=true->ou l'=true:=UK h λ_ _ h=>Gt h
theorem abC{x u:AV}(h:VW ρ V A x u)(hc:isC x=true):mg u=true:=by
 cases h with
 |undef=>simp[Pw.isC]at hc
 |ptr=>simp[Pw.isC]at hc
 |sl=>simp[Pw.isC]at hc
 |slv=>simp[Pw.isC]at hc
 |map=>simp[Pw.isC]at hc
 |agg=>simp[Pw.isC]at hc
 |tup=>simp[Pw.isC]at hc
 |fn f cs cs' hl hr=>
  cases cs with
  |nil=>have:cs'=[]:=qZq.1 hl.symm;subst this;rfl
  |cons a r=>simp[Pw.isC]at hc
 |_=>rfl
end
section
variable {ρ:Nat->Nat}{V A:Nat->Prop}{h:aI}{h':Heap}
theorem YE{L L':List Nat}(hLL:∀b∈L,¬V b->ρ b∈L'){v u:AV}(hv:VW ρ V A v u)(hk:dw L v=true):dw L' u=true:=by
 have lst:∀{l l':List AV},l.length=l'.length->ru L l=true->(∀(j:Nat) (x x':AV),l[j]?=some x->l'[j]?=some x'->dw L x=true->dw L' x'=true)->ru L' l'=true:=by
  intro l;induction l with
  |nil=>intro l' hl _ _;cases l' with
   |nil=>rfl
   |cons _ _=>simp at hl
  |cons a r ih=>
   intro l' hl hk hr;cases l' with
   |nil=>simp at hl
   |cons a' r'=>simp only[ru,qwz]at hk |-;exact⟨hr 0 a a' rfl rfl hk.1,ih (by simpa using hl) hk.2 λj x x' h1 h2=>hr (j+1) x x' (by simpa using h1) (by simpa using h2)⟩
 induction hv with
 |undef v=>simp[dw]at hk
 |jh z ex=>rfl
 |ro z es es' ex ex' hc hl hx he hr _=>simp only[dw,qwz,qfx]at hk |-;obtain⟨rfl,rfl⟩:=hk;exact⟨qZq.1 (by simpa using hl.symm),hx rfl⟩
 |rop=>simp[dw]at hk
 |ptr b i o hA hV=>simp only[dw,qVq]at hk |-;exact hLL b hk hV
 |sl b z i len cap ex ex' hA hV hx=>simp only[dw,qVq]at hk |-;exact hLL b hk hV
 |slv b z ex v hA hV hv=>rcases hv with rfl | rfl<;>rfl
 |map=>simp[dw]at hk
 |fn f cs cs' hl hr ih=>simp only[dw]at hk |-;exact lst hl hk λj x x' h1 h2 h3=>ih j x x' h1 h2 h3
 |agg cs cs' hl hr ih=>simp only[dw]at hk |-;exact lst hl hk λj x x' h1 h2 h3=>ih j x x' h1 h2 h3
 |tup cs cs' hl hr ih=>simp only[dw]at hk |-;exact lst hl hk λj x x' h1 h2 h3=>ih j x x' h1 h2 h3
 |_=>rfl
theorem Y7{L:List Nat}{v u:AV}(hv:VW ρ V A v u)(hk:dw L v=true):VW ρ (λb=>V b/\b∈L) (λb=>A b/\b∈L) v u:=by
 induction hv with
 |undef v=>simp[dw]at hk
 |bool b=>exact .bool b
 |int k n=>exact .int k n
 |str s=>exact .str s
 |eG=>exact .eG
 |bG=>exact .bG
 |dU=>exact .dU
 |dW=>exact .dW
 |jh z ex=>exact .jh z ex
 |ro z es es' ex ex' hc hl hx he hr _=>simp only[dw,qwz,qfx]at hk;obtain⟨rfl,rfl⟩:=hk;refine .ro z [] es' true ex' qqz hl hx qqz qqz
 |rop=>simp[dw]at hk
 |ptr b i o hA hV=>simp only[dw,qVq]at hk;exact .ptr b i o ⟨hA,hk⟩ λq=>hV q.1
 |sl b z i len cap ex ex' hA hV hx=>simp only[dw,qVq]at hk;exact .sl b z i len cap ex ex' ⟨hA,hk⟩ (λq=>hV q.1) hx
 |slv b z ex v hA hV hv=>simp only[dw,qVq]at hk;exact .slv b z ex v ⟨hA,hk⟩ ⟨hV,hk⟩ hv
 |map=>simp[dw]at hk
 |fn f cs cs' hl hr ih=>exact .fn f cs cs' hl λj x x' h1 h2=>ih j x x' h1 h2 (gy (by simpa only[dw]using hk) x (qwj h1))
 |agg cs cs' hl hr ih=>exact .agg cs cs' hl λj x x' h1 h2=>ih j x x' h1 h2 (gy (by simpa only[dw]using hk) x (qwj h1))
 |tup cs cs' hl hr ih=>exact .tup cs cs' hl λj x x' h1 h2=>ih j x x' h1 h2 (gy (by simpa only[dw]using hk) x (qwj h1))
theorem NT{l l':List AV}{u:AV}(hl:l.length=l'.length)(hu:u∈l'):∃(j:Nat) (v:AV),l[j]?=some v/\l'[j]?=some u:=by obtain⟨j,hj,e⟩:=qvx hu;exact⟨j,l[j]'qqq,qqj qqq,by rw[qqj hj,e]⟩
theorem KN{l l':List AV}{v:AV}(hl:l.length=l'.length)(hu:v∈l):∃(j:Nat) (u:AV),l[j]?=some v/\l'[j]?=some u:=by obtain⟨j,hj,e⟩:=qvx hu;exact⟨j,l'[j]'qqq,by rw[qqj hj,e],qqj qqq⟩
theorem Wq(H:HW ρ V A h h'){L:List Nat}(hL:∀b∈L,jR L (Pav.get h b)=true):∀(n:Nat) (v u:AV),VW ρ V A v u->dw L v=true->∀b'∈reach h' n u,∃b∈L,b'=ρ b/\¬V b/\A b:=by
 intro n;induction n with
 |zero=>intro v u _ _ b hb;simp[reach]at hb
 |succ n ih=>
  intro v u hv hk b' hb';have obj:∀b,b∈L->¬V b->∃z es es' mu',Pav.get h' (ρ b)=some (.cells z es' mu')/\bF (bF (VW ρ V A)) es es'/\∀e∈es,ru L e=true:=by
   intro b hb hV;have h1:=hL b hb;cases hg:Pav.get h b with
   |none=>rw[hg]at h1;simp[jR]at h1
   |some o=>
    rw[hg]at h1;obtain⟨o',g1,g2⟩:=H.obj b o hg hV;cases o with
    |cells z es mu dt=>obtain⟨es',mu',rfl,_,g3,_⟩:=g2;simp only[jR,qwz,qkz]at h1;exact⟨z,es,es',mu',g1,g3,h1.2⟩
    |map es=>simp[jR]at h1
    |iter s p=>simp[jR]at h1
  have cell:∀{e e':List AV},bF (VW ρ V A) e e'->ru L e=true->∀x'∈e',b'∈reach h' n x'->∃b∈L,b'=ρ b/\¬V b/\A b:=by intro e e' hr hk x' hx' hb;obtain⟨j,hj,q⟩:=qvx hx';obtain⟨x,q2,q3⟩:=hr.get' (qqj hj);rw[q]at q3;exact ih x x' q3 (gy hk x (qwj q2)) b' hb
  cases hv with
  |ptr b i o hA hV=>
   simp only[dw,qVq]at hk;obtain⟨z,es,es',mu',g1,g2,g3⟩:=obj b hk hV;simp only[reach,g1,qjj]at hb';rcases hb' with rfl | hb'
   ·exact⟨b,hk,rfl,hV,hA⟩
   ·simp only[qvq]at hb';obtain⟨x',hx',hb'⟩:=hb';have hx2:=qXz hx';cases he:es'[i]? with
    |none=>rw[he]at hx2;simp at hx2
    |some e'=>rw[he]at hx2;obtain⟨e,q1,q2⟩:=g2.get' he;exact cell q2 (g3 e (qwj q1)) x' hx2 hb'
  |sl b z i len cap ex ex' hA hV hx=>
   simp only[dw,qVq]at hk;obtain⟨z,es,es',mu',g1,g2,g3⟩:=obj b hk hV;simp only[reach,g1,qjj]at hb';rcases hb' with rfl | hb'
   ·exact⟨b,hk,rfl,hV,hA⟩
   ·simp only[qvq]at hb';obtain⟨e',he',x',hx',hb'⟩:=hb';have he2:=qXz (qJq he');obtain⟨j,hj,q⟩:=qvx he2;obtain⟨e,q1,q2⟩:=g2.get' (qqj hj);rw[q]at q2;exact cell q2 (g3 e (qwj q1)) x' hx' hb'
  |slv b z ex v hA hV hv=>rcases hv with rfl | rfl<;>simp[reach]at hb'
  |map=>simp[dw]at hk
  |rop=>simp[dw]at hk
  |undef=>simp[dw]at hk
  |fn f cs cs' hl hr=>simp only[dw]at hk;simp only[reach,qvq]at hb';obtain⟨x',hx',hb'⟩:=hb';obtain⟨j,x,q1,q2⟩:=NT hl hx';exact ih x x' (hr j x x' q1 q2) (gy hk x (qwj q1)) b' hb'
  |agg cs cs' hl hr=>simp only[dw]at hk;simp only[reach,qvq]at hb';obtain⟨x',hx',hb'⟩:=hb';obtain⟨j,x,q1,q2⟩:=NT hl hx';exact ih x x' (hr j x x' q1 q2) (gy hk x (qwj q1)) b' hb'
  |tup cs cs' hl hr=>simp only[dw]at hk;simp only[reach,qvq]at hb';obtain⟨x',hx',hb'⟩:=hb';obtain⟨j,x,q1,q2⟩:=NT hl hx';exact ih x x' (hr j x x' q1 q2) (gy hk x (qwj q1)) b' hb'
  |_=>simp[reach]at hb'
theorem Nu(H:HW ρ V A h h'):∀(n:Nat) (v u:AV),VW ρ V A v u->∀b∈aQ h n v,¬V b->ρ b∈reach h' n u:=by
 intro n;induction n with
 |zero=>intro v u _ b hb;simp[aQ]at hb
 |succ n ih=>
  intro v u hv b hb hVb;cases hv with
  |ptr c i o hA hV=>
   simp only[aQ,qjj]at hb;simp only[reach,qjj];rcases hb with rfl | hb
   ·exact .inl rfl
   ·refine .inr ?_;split at hb
    ·rename_i zb es mu dt hg;obtain⟨o',g1,es',mu',rfl,_,ge,gd⟩:=H.obj c _ hg hV;split at hb
     ·cases hb
     ·simp only[g1];simp only[qvq]at hb |-;obtain⟨x,hx,hb⟩:=hb;cases he:es[i]? with
      |none=>rw[he]at hx;simp at hx
      |some e=>rw[he]at hx;obtain⟨e',q1,q2⟩:=ge.get he;rw[q1];simp only[qKq]at hx |-;obtain⟨j,hj,q⟩:=qvx hx;obtain⟨x',q3,q4⟩:=(q2.drop o).get (qqj hj);rw[q]at q4;exact⟨x',qwj q3,ih x x' q4 b hb hVb⟩
    ·cases hb
  |sl c z i len cap ex ex' hA hV hx=>
   simp only[aQ,qjj]at hb;simp only[reach,qjj];rcases hb with rfl | hb
   ·exact .inl rfl
   ·refine .inr ?_;split at hb
    ·rename_i zb es mu dt hg;obtain⟨o',g1,es',mu',rfl,_,ge,gd⟩:=H.obj c _ hg hV;split at hb
     ·cases hb
     ·simp only[g1];simp only[qvq]at hb |-;obtain⟨e,he,x,hx,hb⟩:=hb;obtain⟨k,hk,qk⟩:=qvx he;obtain⟨e',q1,q2⟩:=((ge.drop i).take len).get (qqj hk);rw[qk]at q2;obtain⟨j,hj,q⟩:=qvx hx;obtain⟨x',q3,q4⟩:=q2.get (qqj hj);rw[q]at q4;exact⟨e',qwj q1,x',qwj q3,ih x x' q4 b hb hVb⟩
    ·cases hb
  |slv c z ex v hA hV hv=>
   simp only[aQ,qjj]at hb;rcases hb with rfl | hb
   ·exact absurd hV hVb
   ·split at hb
    ·split at hb
     ·cases hb
     ·simp at hb
    ·cases hb
  |fn f cs cs' hl hr=>simp only[aQ,reach,qvq]at hb |-;obtain⟨x,hx,hb⟩:=hb;obtain⟨j,x',q1,q2⟩:=KN hl hx;exact⟨x',qwj q2,ih x x' (hr j x x' q1 q2) b hb hVb⟩
  |agg cs cs' hl hr=>simp only[aQ,reach,qvq]at hb |-;obtain⟨x,hx,hb⟩:=hb;obtain⟨j,x',q1,q2⟩:=KN hl hx;exact⟨x',qwj q2,ih x x' (hr j x x' q1 q2) b hb hVb⟩
  |tup cs cs' hl hr=>simp only[aQ,reach,qvq]at hb |-;obtain⟨x,hx,hb⟩:=hb;obtain⟨j,x',q1,q2⟩:=KN hl hx;exact⟨x',qwj q2,ih x x' (hr j x x' q1 q2) b hb hVb⟩
  |undef=>simp[aQ]at hb
  |_=>simp[aQ]at hb
theorem afc(H:HW ρ V A h h'){L L':List Nat}(hLL:∀b∈L,¬V b->ρ b∈L'){b:Nat}(hV:¬V b)(hk:jR L (Pav.get h b)=true):F9 L' (Pav.get h' (ρ b))=true:=by
 cases hg:Pav.get h b with
 |none=>rw[hg]at hk;simp[jR]at hk
 |some o=>
  rw[hg]at hk;obtain⟨o',g1,g2⟩:=H.obj b o hg hV;rw[g1];cases o with
  |cells z es mu dt=>obtain⟨es',mu',rfl,hmu,g3,_⟩:=g2;simp only[jR,F9,qwz,qkz]at hk |-;refine⟨hmu hk.1,λe' he'=>?_⟩;obtain⟨j,hj,q⟩:=qvx he';obtain⟨e,q1,q2⟩:=g3.get' (qqj hj);rw[q]at q2;have hke:=hk.2 e (qwj q1);have h1:=YE (v:=.tup e) (u:=.tup e') hLL (VW.lU q2) (by simpa only[dw]using hke);simpa only[dw]using h1
  |map es=>simp[jR]at hk
  |iter s p=>simp[jR]at hk
theorem ab4(H:HW ρ V A h h')(n:Nat){v u:AV}(hv:VW ρ V A v u)(hk:pG h v (aQ h n v)=true):Yq h' u (reach h' n u)=true:=by simp only[pG,Yq,qwz,qkz]at hk |-;obtain⟨k1,k2⟩:=hk;have hLL:=λb hb hV=>Nu H n v u hv b hb hV;refine⟨YE hLL hv k1,λb' hb'=>?_⟩;obtain⟨b,q1,rfl,q3,_⟩:=Wq H k2 n v u hv k1 b' hb';exact afc H hLL q3 (k2 b q1)
theorem HW.keep(H:HW ρ V A h h'){L L':List Nat}(hL:∀b∈L,jR L (Pav.get h b)=true)(hLL:∀b∈L,¬V b->ρ b∈L') :
 HW ρ (λb=>V b/\b∈L) (λb=>A b/\b∈L) (h.filter λx=>L.contains x.1) (h'.filter λx=>L'.contains x.1):=by
 have key:∀b o,Pav.get (h.filter λx=>L.contains x.1) b=some o->Pav.get h b=some o/\b∈L:=by
  intro b o hb;rw[get_filter]at hb;by_cases q:b∈L
  ·rw[qzq (by simpa using q)]at hb;exact⟨hb,q⟩
  ·rw[qwx (by simpa using q)]at hb;cases hb
 refine⟨λb o hb=>?_,λb o hb hv=>?_,λb o hb hv=>?_,λb hb=>⟨H.sub b hb.1,hb.2⟩,λb c hb hc hb' hc' he=>?_⟩
 ·exact⟨H.dom b o (key b o hb).1,(key b o hb).2⟩
 ·exact H.uG b o (key b o hb).1 hv.1
 ·obtain⟨q1,q2⟩:=key b o hb;have hV:¬V b:=λq=>hv ⟨q,q2⟩;obtain⟨o',g1,g2⟩:=H.obj b o q1 hV;have hk:=hL b q2;rw[q1]at hk;refine⟨o',by rw[get_filter,qzq (by simpa using hLL b q2 hV)];exact g1,?_⟩;cases o with
  |cells z es mu dt=>obtain⟨es',mu',rfl,hmu,g3,g4⟩:=g2;simp only[jR,qwz,qkz]at hk;exact⟨es',mu',rfl,hmu,⟨g3.1,λj e e' h1 h2=>⟨(g3.2 j e e' h1 h2).1,λk x x' h3 h4=>Y7 ((g3.2 j e e' h1 h2).2 k x x' h3 h4) (gy (hk.2 e (qwj h1)) x (qwj h3))⟩⟩,g4⟩
  |map es=>simp[jR]at hk
  |iter s p=>simp[jR]at hk
 ·exact H.inj b c hb.1 hc.1 (λq=>hb' ⟨q,hb.2⟩) (λq=>hc' ⟨q,hc.2⟩) he
end
end Go.Pw
end
