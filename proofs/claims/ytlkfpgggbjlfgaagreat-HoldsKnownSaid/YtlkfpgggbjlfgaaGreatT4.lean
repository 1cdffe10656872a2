/- Part of the theory that the claims of this work use: PwSim, PwCanon, PwPrim, PwCode, PwDen, PwCk, PwSimp, PwZip. No conditions of its own. -/
import Derived.Test.YtlkfpgggbjlfgaaGreatT3
set_option linter.unusedVariables false
set_option linter.unusedSimpArgs false
section
namespace Go.Pw
open Go Go.Pav
def Keeps(ρ:Nat->Nat)(V A:Nat->Prop)(ρ':Nat->Nat)(V' A':Nat->Prop):Prop:=∀b,A b->A' b/\ρ' b=ρ b/\(V' b↔V b)
theorem Keeps.refl(ρ:Nat->Nat)(V A:Nat->Prop):Keeps ρ V A ρ V A:=λ_ h=>⟨h,rfl,zWz⟩
theorem Keeps.trans{ρ ρ1 ρ2:Nat->Nat}{V A V1 A1 V2 A2:Nat->Prop}(h:Keeps ρ V A ρ1 V1 A1)(k:Keeps ρ1 V1 A1 ρ2 V2 A2):Keeps ρ V A ρ2 V2 A2:=λb hb=>by obtain⟨h1,h2,h3⟩:=h b hb;obtain⟨k1,k2,k3⟩:=k b h1;exact⟨k1,k2.trans h2,k3.trans h3⟩
structure Lts(ρ:Nat->Nat)(V A:Nat->Prop)(n m:Nat):Prop where
 w:∀b,A b->b<n
 p:∀b,A b->¬V b->ρ b<m
def zO(run:tK)(run':Run):Prop :=
 ∀(f:Nat) (args:List AV) (h:aI) (n:Nat) (v:AV) (h1:aI) (n1:Nat),run f args h n=some (v,h1,n1) ->
  ∀(ρ:Nat->Nat) (V A:Nat->Prop) (args':List AV) (h':Heap) (m:Nat),bF (VW ρ V A) args args'->HW ρ V A h h'->Lts ρ V A n m ->
   ∃v' h1' m1 ρ' V' A',run' f args' h' m=some (v',h1',m1)/\VW ρ' V' A' v v'/\HW ρ' V' A' h1 h1'/\Lts ρ' V' A' n1 m1/\Keeps ρ V A ρ' V' A' /\
    (∀b,A' b->A b\/n<=b)/\(∀b,A' b->¬V' b->(A b/\ρ' b=ρ b)\/m<=ρ' b)/\n<=n1/\m<=m1
def XY(d:jH):List Nat:=match d.bar with | true=>d.wr.tail | false=>d.wr
structure Uf(ρ:Nat->Nat)(V A:Nat->Prop)(nid n mid m:Nat)(d:jH)(d':Did)(ρ':Nat->Nat)(V' A':Nat->Prop):Prop where
 v:VW ρ' V' A' d.v d'.v
 h:HW ρ' V' A' d.h d'.h
 keeps:Keeps ρ V A ρ' V' A'
 new:∀b,A' b->A b\/b=nid\/n<=b
 aiT:∀b,A' b->¬V' b->(A b/\ρ' b=ρ b)\/ρ' b=mid\/m<=ρ' b
 lt:Lts ρ' V' A' d.n d'.n
 next:n<=d.n
 YQ:m<=d'.n
 bar:d'.bar=true->d.bar=true/\d.wr=[]
 rd:∀b∈d'.rd,∃c∈d.rd,b=ρ' c/\¬V' c/\A' c
 wr:∀b∈d'.wr,(∃c∈XY d,b=ρ' c/\¬V' c/\A' c)\/∃k w,d.bar=true/\d.wr=k::w/\m<=b/\b<d'.n/\∀c,A' c->¬V' c->ρ' c=b->k<=c
section
variable {ρ:Nat->Nat}{V A:Nat->Prop}{n m:Nat}{h:aI}{h':Heap}{e e':Env}{C:aJ}{run:tK}{run':Run}
theorem ZR:∀(v:AV),cu v=true->∀(u:AV),VW ρ V A v u->cu u=true:=by
 intro v;refine AV.rec (motive_1:=λv=>cu v=true->∀(u:AV),VW ρ V A v u->cu u=true) (motive_2:=λ_=>True) (motive_3:=λl=>bW l=true->∀l',bF (VW ρ V A) l l'->bW l'=true) ?_ ?_ ?_ ?_ ?_ ?_ ?_ ?_ ?_ ?_ ?_ ?_ ?_ ?_ ?_ ?_ ?_ ?_ ?_ ?_ v
 ·intro hp;simp[cu]at hp
 ·intro b hp;simp[cu]at hp
 ·intro b c hp;simp[cu]at hp
 ·intro b hp;simp[cu]at hp
 ·intro hp;simp[cu]at hp
 ·intro hp;simp[cu]at hp
 ·intro hp;simp[cu]at hp
 ·intro hp;simp[cu]at hp
 ·intro z es ex _ hp;simp[cu]at hp
 ·intro z _ hp;simp[cu]at hp
 ·intro b i o _ u hu;rw[hu.jk.1];rfl
 ·intro b z i len cap ex hp;simp[cu]at hp
 ·intro b _ u hu;rw[hu.yH.1];rfl
 ·intro f cs ih hp u hu;obtain⟨cs',rfl,hr⟩:=hu.zW;simp only[cu];exact ih (by simpa only[cu]using hp) cs' hr
 ·intro cs ih hp u hu;obtain⟨cs',rfl,hr⟩:=hu.ny;simp only[cu];exact ih (by simpa only[cu]using hp) cs' hr
 ·intro cs ih hp u hu;obtain⟨cs',rfl,hr⟩:=hu.uH;simp only[cu];exact ih (by simpa only[cu]using hp) cs' hr
 ·trivial
 ·intros;trivial
 ·intro hp;simp[bW]at hp
 ·intro v l ih1 ih2 hp l' hr;obtain⟨u,t,rfl,h1,h2⟩:=hr.dI;simp only[bW,qlq]at hp |-;rcases hp with hp | hp
  ·exact .inl (ih1 hp u h1)
  ·exact .inr (ih2 hp t h2)
theorem Xk:∀(l:List AV),bW l=true->∀l',bF (VW ρ V A) l l'->bW l'=true:=by
 intro l;induction l with
 |nil=>intro hp;simp[bW]at hp
 |cons v l ih=>
  intro hp l' hr;obtain⟨u,t,rfl,h1,h2⟩:=hr.dI;simp only[bW,qlq]at hp |-;rcases hp with hp | hp
  ·exact .inl (ZR v hp u h1)
  ·exact .inr (ih hp t h2)
theorem ad9:∀(n:Nat) (v u v':AV),VW ρ V A v u->bD h n v=some v'->cu v=false->cu u=false:=by
 intro n;induction n with
 |zero=>intro v u v' _ hf;simp[bD]at hf
 |succ n ih=>
  have lst:∀(l l' r:List AV),bF (VW ρ V A) l l'->aZ (bD h n) l=some r->bW l=false->bW l'=false:=by
   intro l;induction l with
   |nil=>intro l' r hr _ _;rw[hr.fD];rfl
   |cons a l ihl=>intro l' r hr hm hp;obtain⟨b,t,rfl,h1,h2⟩:=hr.dI;simp only[aZ]at hm;obtain⟨x,h3,hm⟩:=aA hm;obtain⟨xs,h4,rfl⟩:=aH hm;simp only[bW,qXq]at hp |-;exact⟨ih a b x h1 h3 hp.1,ihl t xs h2 h4 hp.2⟩
  intro v u v' hv hf hp;cases v with
  |undef=>simp[bD]at hf
  |bool b=>rw[hv.fU];simp[cu]
  |int k x=>rw[hv.dS];simp[cu]
  |str s=>rw[hv.iL];simp[cu]
  |eG=>cases hv;simp[cu]
  |bG=>cases hv;simp[cu]
  |dU=>cases hv;simp[cu]
  |dW=>cases hv;simp[cu]
  |ro z es ex=>rcases hv.mJ with⟨rfl,rfl⟩|⟨es',ex',rfl,_,_,_⟩<;>simp[cu]
  |rop cs=>obtain⟨cs',rfl,_⟩:=hv.vC;simp[cu]
  |ptr b i o=>simp[cu]at hp
  |map b=>simp[cu]at hp
  |sl b z i len cap ex=>
   rcases hv.jQ with⟨_,_,ex',rfl,_⟩|⟨_,_,rfl,rfl,rfl,hu⟩
   ·simp[cu]
   ·rcases hu with rfl | rfl<;>simp[cu]
  |fn f cs=>obtain⟨cs',rfl,hr⟩:=hv.zW;simp only[bD]at hf;obtain⟨r,h1,rfl⟩:=aH hf;simp only[cu]at hp |-;exact lst cs cs' r hr h1 hp
  |agg cs=>obtain⟨cs',rfl,hr⟩:=hv.ny;simp only[bD]at hf;obtain⟨r,h1,rfl⟩:=aH hf;simp only[cu]at hp |-;exact lst cs cs' r hr h1 hp
  |tup cs=>obtain⟨cs',rfl,hr⟩:=hv.uH;simp only[bD]at hf;obtain⟨r,h1,rfl⟩:=aH hf;simp only[cu]at hp |-;exact lst cs cs' r hr h1 hp
theorem aa0{n:Nat}:∀(l l' r:List AV),bF (VW ρ V A) l l'->aZ (bD h n) l=some r->bW l=false->bW l'=false:=by
 intro l;induction l with
 |nil=>intro l' r hr _ _;rw[hr.fD];rfl
 |cons a l ihl=>intro l' r hr hm hp;obtain⟨b,t,rfl,h1,h2⟩:=hr.dI;simp only[aZ]at hm;obtain⟨x,h3,hm⟩:=aA hm;obtain⟨xs,h4,rfl⟩:=aH hm;simp only[bW,qXq]at hp |-;exact⟨ad9 n a b x h1 h3 hp.1,ihl t xs h2 h4 hp.2⟩
theorem Us(hr:zO run run'){f:Nat}{az az':List AV}{v:AV}(ha:bF (VD ρ V) az az')(hp:fB run f az=some v):∃v',sW run' f az'=some v'/\VD ρ V v v':=by obtain⟨⟨v0,h0,n0⟩,h1,h2⟩:=aA hp;obtain⟨v',h1',m1,ρ',V',A',r1,r2,r3,_⟩:=hr f az [] 0 v0 h0 n0 h1 ρ (λ_=>False) (λ_=>False) az' [] 0 (ha.mono λx x' _ hx=>hx.data) ⟨λb o hb=>by simp[Pav.get]at hb,λb o hb=>by simp[Pav.get]at hb,λb o hb=>by simp[Pav.get]at hb,λb hb=>hb.elim,λb c hb=>hb.elim⟩ ⟨λb hb=>hb.elim,λb hb=>hb.elim⟩;obtain⟨u',r4,r5⟩:=JR r3 _ _ _ _ r2 h2;exact⟨u',by unfold sW;rw[r1];exact r4,r5.data⟩
theorem rX:∀(u v:dV) (h:aI),bT h (u++v)=bT (bT h u) v:=by
 intro u;induction u with
 |nil=>intro v h;rfl
 |cons x u ih=>intro v h;obtain⟨b,o⟩:=x;simp only[qmx,bT];exact ih v _
theorem agT(H:HW ρ V A h h'){nid:Nat}(hn:¬A nid)(mid z:Nat)(mu dt:Bool):HW (up ρ nid mid) (addN V nid) (addN A nid) (put h nid (.cells z [] mu dt)) h':=by
 have hold:∀b,A b->addN A nid b/\up ρ nid mid b=ρ b/\(addN V nid b↔V b):=by
  intro b hb;have hne:b≠nid:=λe=>hn (e ▸ hb);refine⟨.inl hb,by simp[up,hne],⟨λq=>?_,λq=>.inl q⟩⟩;rcases q with q | q
  ·exact q
  ·exact absurd q hne
 constructor
 ·intro b o hb;rw[get_put]at hb;split at hb
  ·rename_i e;exact .inr e.symm
  ·exact .inl (H.dom b o hb)
 ·intro b o hb hv;rw[get_put]at hb;split at hb
  ·cases hb;exact⟨z,mu,dt,rfl⟩
  ·rename_i e;rcases hv with q | q
   ·exact H.uG b o hb q
   ·exact absurd q.symm e
 ·intro b o hb hv;rw[get_put]at hb;split at hb
  ·rename_i e;exact absurd (.inr e.symm) hv
  ·have hA:=H.dom b o hb;obtain⟨_,q2,q3⟩:=hold b hA;obtain⟨o',r1,r2⟩:=H.obj b o hb λq=>hv (.inl q);refine⟨o',by rw[q2];exact r1,r2.mono hold⟩
 ·rintro b (q | q)
  ·exact .inl (H.sub b q)
  ·exact .inr q
 ·rintro b c (hb | hb) (hc | hc) h1 h2 he
  ·obtain⟨_,p2,_⟩:=hold b hb;obtain⟨_,q2,_⟩:=hold c hc;rw[p2,q2]at he;exact H.inj b c hb hc (λq=>h1 (.inl q)) (λq=>h2 (.inl q)) he
  ·exact absurd (.inr hc) h2
  ·exact absurd (.inr hb) h1
  ·exact hb.trans hc.symm
theorem KP(n b:Nat):∀(h1 h:aI),get (bT h (Gl n h1)) b=if n<=b then(match get h1 b with | some o=>some o | none=>get h b)else get h b:=by
 intro h1;induction h1 with
 |nil=>intro h;simp[Gl,bT,Pav.get]
 |cons x r ih=>
  intro h;obtain⟨c,o⟩:=x;by_cases hc:n<=c
  ·have e:Gl n ((c,o)::r)=Gl n r++[(c,some o)]:=by simp[Gl,hc]
   rw[e,rX];simp only[bT,BI,get_put,Pav.get];by_cases q:c=b
   ·subst q;simp[hc]
   ·simp only[qwx q];exact ih h
  ·have e:Gl n ((c,o)::r)=Gl n r:=by simp[Gl,hc]
   rw[e,ih h];simp only[Pav.get];by_cases q:c=b
   ·subst q;simp[hc]
   ·simp only[qwx q]
theorem HW.union{ρ1:Nat->Nat}{V1 A1:Nat->Prop}{h1:aI}{h1':Heap}(H:HW ρ V A h h')(H1:HW ρ1 V1 A1 h1 h1')(hA:∀b,A b->b<n)(hA1:∀b,A1 b->n<=b)(hp:∀b,A b->¬V b->ρ b<m){m1:Nat}(hp1:∀b,A1 b->¬V1 b->m<=ρ1 b/\ρ1 b<m1) :
 Keeps ρ V A (λb=>if n<=b then ρ1 b else ρ b) (λb=>V b\/V1 b) (λb=>A b\/A1 b)/\Keeps ρ1 V1 A1 (λb=>if n<=b then ρ1 b else ρ b) (λb=>V b\/V1 b) (λb=>A b\/A1 b) /\
 HW (λb=>if n<=b then ρ1 b else ρ b) (λb=>V b\/V1 b) (λb=>A b\/A1 b) (bT h (Gl n h1)) (aS h' (ups m m1 h1')):=by
 have k:Keeps ρ V A (λb=>if n<=b then ρ1 b else ρ b) (λb=>V b\/V1 b) (λb=>A b\/A1 b):=λb hb=>by have:=hA b hb;exact⟨.inl hb,qwx qqq,⟨λq=>q.elim id λq=>by have:=hA1 b (H1.sub b q);omega,.inl⟩⟩
 have k1:Keeps ρ1 V1 A1 (λb=>if n<=b then ρ1 b else ρ b) (λb=>V b\/V1 b) (λb=>A b\/A1 b):=λb hb=>by have:=hA1 b hb;exact⟨.inr hb,qzq this,⟨λq=>q.elim (λq=>by have:=hA b (H.sub b q);omega) id,.inr⟩⟩
 have key:∀b o,get (bT h (Gl n h1)) b=some o->(get h1 b=some o/\n<=b)\/(get h b=some o/\¬n<=b):=by
  intro b o hb;rw[KP]at hb;by_cases q:n<=b
  ·rw[qzq q]at hb;cases hq:get h1 b with
   |some o1=>rw[hq]at hb;cases hb;exact .inl ⟨rfl,q⟩
   |none=>rw[hq]at hb;exact .inr ⟨hb,by have:=hA b (H.dom b _ hb);omega⟩
  ·rw[qwx q]at hb;exact .inr ⟨hb,q⟩
 refine⟨k,k1,?_,?_,?_,?_,?_⟩
 ·intro b o hb;rcases key b o hb with⟨q,_⟩|⟨q,_⟩
  ·exact .inr (H1.dom b o q)
  ·exact .inl (H.dom b o q)
 ·intro b o hb hv;rcases key b o hb with⟨q,q2⟩|⟨q,q2⟩
  ·exact H1.uG b o q ((k1 b (H1.dom b o q)).2.2.1 hv)
  ·exact H.uG b o q ((k b (H.dom b o q)).2.2.1 hv)
 ·intro b o hb hv;rcases key b o hb with⟨q,q2⟩|⟨q,q2⟩
  ·have hA':=H1.dom b o q;have hv':¬V1 b:=λp=>hv (.inr p);obtain⟨o',e1,e2⟩:=H1.obj b o q hv';refine⟨o',?_,e2.mono k1⟩;rw[QH];simp only[qzq q2];rw[qzq (hp1 b hA' hv'),e1]
  ·have hA':=H.dom b o q;have hv':¬V b:=λp=>hv (.inl p);obtain⟨o',e1,e2⟩:=H.obj b o q hv';refine⟨o',?_,e2.mono k⟩;rw[QH];simp only[qwx q2];rw[qwx (by have:=hp b hA' hv';omega)];exact e1
 ·rintro b (q | q)
  ·exact .inl (H.sub b q)
  ·exact .inr (H1.sub b q)
 ·have f0:∀b,A b->(if n<=b then ρ1 b else ρ b)=ρ b:=λb hb=>(k b hb).2.1;have f1:∀b,A1 b->(if n<=b then ρ1 b else ρ b)=ρ1 b:=λb hb=>(k1 b hb).2.1;rintro b c (hb | hb) (hc | hc) g1 g2 he
  ·rw[f0 b hb,f0 c hc]at he;exact H.inj b c hb hc (λq=>g1 (.inl q)) (λq=>g2 (.inl q)) he
  ·rw[f0 b hb,f1 c hc]at he;have h1:=hp b hb (λq=>g1 (.inl q));have h2:=(hp1 c hc (λq=>g2 (.inr q))).1;omega
  ·rw[f1 b hb,f0 c hc]at he;have h1:=(hp1 b hb (λq=>g1 (.inr q))).1;have h2:=hp c hc (λq=>g2 (.inl q));omega
  ·rw[f1 b hb,f1 c hc]at he;exact H1.inj b c hb hc (λq=>g1 (.inr q)) (λq=>g2 (.inr q)) he
theorem aef(hr:zO run run')(H:HW ρ V A h h')(lt:Lts ρ V A n m){nid mid:Nat}(hn:¬A nid)(hnl:nid<n)(hm:∀b,A b->¬V b->ρ b≠mid)(hml:mid<m){f:Nat}{args args':List AV}(ha:bF (VW ρ V A) args args'){c:wX}(hc:iq C run f args h nid n=some c) :
 ∃c' ρ' V' A',jy (fK C) run' f args' h' mid m=some c'/\Uf ρ V A nid n mid m (iZ h n args c) (bZ h' m args' c') ρ' V' A':=by
 have whole:∀{r:AV×aI×Nat},run f args h n=some r->∃r' ρ' V' A',run' f args' h' m=some r'/\Uf ρ V A nid n mid m (iZ h n args (.whole r.1 r.2.1 r.2.2)) (bZ h' m args' (.whole r'.1 r'.2.1 r'.2.2)) ρ' V' A':=by
  rintro⟨v,h1,n1⟩ hrun;obtain⟨v',h1',m1,ρ',V',A',r1,r2,r3,r4,r5,r6,r7,r8,r9⟩:=hr f args h n v h1 n1 hrun ρ V A args' h' m ha H lt;refine⟨(v',h1',m1),ρ',V',A',r1,r2,r3,r5,λb hb=>?_,λb hb hv=>?_,r4,r8,r9,λ_=>⟨rfl,rfl⟩,λb hb=>by simp[bZ]at hb,λb hb=>by simp[bZ]at hb⟩
  ·rcases r6 b hb with q | q
   ·exact .inl q
   ·exact .inr (.inr q)
  ·rcases r7 b hb hv with q | q
   ·exact .inl q
   ·exact .inr (.inr q)
 unfold iq at hc;split at hc
 ·rename_i hi;split at hc
  ·rename_i hfr;obtain⟨az,h1,h2⟩:=aA hc;have hreach:∀b'∈args'.flatMap (reach h' aC),∃b∈args.flatMap (aQ h aC),b'=ρ b/\¬V b/\A b/\∃z es mu dt,get h b=some (.cells z es mu dt):=by intro b' hb';simp only[qvq]at hb' |-;obtain⟨u,hu,hb'⟩:=hb';obtain⟨j,hj,q1⟩:=qvx hu;obtain⟨x,q2,q3⟩:=ha.get' (qqj hj);rw[q1]at q3;obtain⟨x',_,q4⟩:=(dn h1).2 j x q2;obtain⟨b,q5,q6⟩:=La H aC x u x' q3 q4 b' hb';exact⟨b,⟨x,qwj q2,q5⟩,q6⟩
   by_cases hdp:rZ f=true
   ·rw[qzq hdp]at h2;obtain⟨⟨v0,h0,n0⟩,hrun,h2⟩:=aA h2;obtain⟨hk,h2k,rfl⟩:=aH h2;clear h2;obtain⟨az',h4,h5⟩:=gB (λx y hxy x' hx'=>JR H aC x y x' hxy hx') ha h1;obtain⟨v0',h0',m0,ρ1,V1,A1,r1,r2,r3,r4,r5,r6,r7,r8,r9⟩:=hr f az [] n v0 h0 n0 hrun ρ (λ_=>False) (λ_=>False) az' [] m (h5.mono λx x' _ hx=>hx.data) ⟨λb o hb=>by simp[Pav.get]at hb,λb o hb=>by simp[Pav.get]at hb,λb o hb=>by simp[Pav.get]at hb,λb hb=>hb.elim,λb c hb=>hb.elim⟩ ⟨λb hb=>hb.elim,λb hb=>hb.elim⟩;unfold yu at h2k;unfold PI;by_cases hdb:zU f=true
    ·rw[qzq hdb]at h2k |-;split at h2k;case isFalse=>cases h2k
     rename_i hkW;obtain rfl:=qkq h2k;simp only at hkW |-;have hLL:=λb hb hV=>Nu r3 aC v0 v0' r2 b hb hV;have hkx:=ab4 r3 aC r2 hkW;simp only[pG,qwz,qkz]at hkW;have r3k:=r3.keep (L':=reach h0' aC v0') hkW.2 hLL;have r2k:=Y7 r2 hkW.1;have hA1:∀b,A1 b/\b∈aQ h0 aC v0->n<=b:=λb hb=>(r6 b hb.1).elim (λq=>q.elim) id;have hp1:∀b,A1 b/\b∈aQ h0 aC v0->¬(V1 b/\b∈aQ h0 aC v0)->m<=ρ1 b/\ρ1 b<m0:=λb hb hv=>⟨(r7 b hb.1 λq=>hv ⟨q,hb.2⟩).elim (λq=>q.1.elim) id,r4.p b hb.1 λq=>hv ⟨q,hb.2⟩⟩;obtain⟨u1,u2,u3⟩:=H.union r3k lt.w hA1 lt.p hp1;refine⟨.deep v0' (ups m m0 (h0'.filter λx=>(reach h0' aC v0').contains x.1)) m0,(λb=>if n<=b then ρ1 b else ρ b),(λb=>V b\/(V1 b/\b∈aQ h0 aC v0)),(λb=>A b\/(A1 b/\b∈aQ h0 aC v0)),?_,?_⟩
     ·simp only[jy,fK,hi,qox,qyx,hdp,qhj,h4,ob,sD,r1,om,wI,Ti,qzq hdb,hkx,qYz]
     ·have f0:∀b,A b->(if n<=b then ρ1 b else ρ b)=ρ b:=λb hb=>(u1 b hb).2.1;have f1:∀b,A1 b/\b∈aQ h0 aC v0->(if n<=b then ρ1 b else ρ b)=ρ1 b:=λb hb=>(u2 b hb).2.1;simp only[iZ,bZ];refine⟨r2k.mono u2,u3,u1,?_,?_,⟨?_,?_⟩,r8,r9,λq=>(by cases q),?_,?_⟩
      ·rintro b (hb | hb)
       ·exact .inl hb
       ·exact .inr (.inr (hA1 b hb))
      ·rintro b (hb | hb) hv
       ·exact .inl ⟨hb,(u1 b hb).2.1⟩
       ·refine .inr (.inr ?_);simp only[f1 b hb];exact(hp1 b hb λq=>hv (.inr q)).1
      ·rintro b (hb | hb)
       ·exact qZx (lt.w b hb) r8
       ·exact r4.w b hb.1
      ·rintro b (hb | hb) hv
       ·simp only[f0 b hb];exact qZx (lt.p b hb λq=>hv (.inl q)) r9
       ·simp only[f1 b hb];exact(hp1 b hb λq=>hv (.inr q)).2
      ·intro b' hb';obtain⟨b,q1,q2,q3,q4,_⟩:=hreach b' hb';exact⟨b,q1,by simp only[f0 b q4];exact q2,λq=>q3 ((u1 b q4).2.2.1 q),.inl q4⟩
      ·intro b' hb';refine .inr ⟨n,_,rfl,rfl,?_,?_,?_⟩
       ·simp only[ups,qpj,qmj,qkx,qaz,qkj]at hb';obtain⟨_,⟨x,⟨_,q⟩,rfl⟩,rfl⟩:=hb';exact q.1
       ·simp only[ups,qpj,qmj,qkx,qaz,qkj]at hb';obtain⟨_,⟨x,⟨_,q⟩,rfl⟩,rfl⟩:=hb';exact q.2
       ·rintro c (hc | hc) hv he
        ·simp only[f0 c hc]at he;have h1:=lt.p c hc λq=>hv (.inl q);have h2:m<=b':=by simp only[ups,qpj,qmj,qkx,qaz,qkj]at hb';obtain⟨_,⟨x,⟨_,q⟩,rfl⟩,rfl⟩:=hb';exact q.1
         omega
        ·exact hA1 c hc
    ·rw[qwx hdb]at h2k |-;obtain rfl:=qkq h2k;simp only at *;obtain⟨k1,k2⟩:=vZ H _ _ hreach;have hA1:∀b,A1 b->n<=b:=λb hb=>(r6 b hb).elim (λq=>q.elim) id;have hp1:∀b,A1 b->¬V1 b->m<=ρ1 b/\ρ1 b<m0:=λb hb hv=>⟨(r7 b hb hv).elim (λq=>q.1.elim) id,r4.p b hb hv⟩;obtain⟨u1,u2,u3⟩:=k1.union r3 lt.w hA1 lt.p hp1;refine⟨.deep v0' (aY h' (args'.flatMap (reach h' aC))++ups m m0 h0') m0,(λb=>if n<=b then ρ1 b else ρ b),(λb=>V b\/V1 b),(λb=>A b\/A1 b),?_,?_⟩
     ·simp only[jy,fK,hi,qox,qyx,hdp,qhj,h4,ob,sD,r1,om,wI,Ti,qwx hdb]
     ·have f0:∀b,A b->(if n<=b then ρ1 b else ρ b)=ρ b:=λb hb=>(u1 b hb).2.1;have f1:∀b,A1 b->(if n<=b then ρ1 b else ρ b)=ρ1 b:=λb hb=>(u2 b hb).2.1;simp only[iZ,bZ];refine⟨r2.mono u2,by rw[iR];exact u3,u1,?_,?_,⟨?_,?_⟩,r8,r9,λq=>(by cases q),?_,?_⟩
      ·rintro b (hb | hb)
       ·exact .inl hb
       ·exact .inr (.inr (hA1 b hb))
      ·rintro b (hb | hb) hv
       ·exact .inl ⟨hb,(u1 b hb).2.1⟩
       ·refine .inr (.inr ?_);simp only[f1 b hb];exact(hp1 b hb λq=>hv (.inr q)).1
      ·rintro b (hb | hb)
       ·exact qZx (lt.w b hb) r8
       ·exact r4.w b hb
      ·rintro b (hb | hb) hv
       ·simp only[f0 b hb];exact qZx (lt.p b hb λq=>hv (.inl q)) r9
       ·simp only[f1 b hb];exact r4.p b hb λq=>hv (.inr q)
      ·intro b' hb';obtain⟨b,q1,q2,q3,q4,_⟩:=hreach b' hb';exact⟨b,q1,by simp only[f0 b q4];exact q2,λq=>q3 ((u1 b q4).2.2.1 q),.inl q4⟩
      ·intro b' hb';rw[qWx]at hb';rcases qWj.1 hb' with hb' | hb'
       ·obtain⟨c,s1,s2,s3,s4⟩:=k2 b' hb';exact .inl ⟨c,s1,by simp only[f0 c s4];exact s2,λq=>s3 ((u1 c s4).2.2.1 q),.inl s4⟩
       ·refine .inr ⟨n,_,rfl,rfl,?_,?_,?_⟩
        ·simp only[ups,qpj,qmj,qkx,qaz,qkj]at hb';obtain⟨_,⟨x,⟨_,q⟩,rfl⟩,rfl⟩:=hb';exact q.1
        ·simp only[ups,qpj,qmj,qkx,qaz,qkj]at hb';obtain⟨_,⟨x,⟨_,q⟩,rfl⟩,rfl⟩:=hb';exact q.2
        ·rintro c (hc | hc) hv he
         ·simp only[f0 c hc]at he;have h1:=lt.p c hc λq=>hv (.inl q);have h2:m<=b':=by simp only[ups,qpj,qmj,qkx,qaz,qkj]at hb';obtain⟨_,⟨x,⟨_,q⟩,rfl⟩,rfl⟩:=hb';exact q.1
          omega
         ·exact hA1 c hc
   rw[qwx hdp]at h2;obtain⟨x,h3,hend⟩:=aA h2;unfold yX at hend;split at hend
   ·cases hend
   rename_i hbr0;cases hend;have hbr:uh f=true->nX x=true:=by intro hb;simpa [hb]using hbr0
   obtain⟨az',h4,h5⟩:=gB (λx y hxy x' hx'=>JR H aC x y x' hxy hx') ha h1;obtain⟨⟨v0,h0,n0⟩,hrun,hx⟩:=aA h3;obtain⟨v0',h0',m0,ρ1,V1,A1,r1,r2,r3,r4,_⟩:=hr f az [] 0 v0 h0 n0 hrun ρ (λ_=>False) (λ_=>False) az' [] 0 (h5.mono λx x' _ hx=>hx.data) ⟨λb o hb=>by simp[Pav.get]at hb,λb o hb=>by simp[Pav.get]at hb,λb o hb=>by simp[Pav.get]at hb,λb hb=>hb.elim,λb c hb=>hb.elim⟩ ⟨λb hb=>hb.elim,λb hb=>hb.elim⟩;have hmk:HW ρ V A (bT h (xM f (bf h (args.flatMap (aQ h aC))))) (aS h' (EI f (aY h' (args'.flatMap (reach h' aC))))) /\
    ∀b'∈(EI f (aY h' (args'.flatMap (reach h' aC)))).map (·.1),∃b∈(xM f (bf h (args.flatMap (aQ h aC)))).map (·.1),b'=ρ b/\¬V b/\A b:=by
    unfold EI xM;split
    ·exact⟨H,λb hb=>by simp at hb⟩
    ·exact vZ H _ _ hreach
   obtain⟨k1,k2⟩:=hmk;have hgo:∀{x':AV×Upd},jc run' f az' mid=some x'->(uh f=true->vK x'=true)->jy (fK C) run' f args' h' mid m=some (.data x'.1 (EI f (aY h' (args'.flatMap (reach h' aC)))++x'.2)):=by
    intro x' hx' hb';have hb2:(uh f&&!vK x')=false:=by
     cases hq:uh f with
     |false=>rfl
     |true=>simp[hb' hq]
    have hdp':rZ f=false:=by simpa using hdp
    simp only[jy,fK,hi,qox,qyx,hfr,hdp',qhj,q9z,h4,hx',ob,DF,hb2,qxj,qWq]
   have rdOk:∀{ρ':Nat->Nat}{V' A':Nat->Prop},(∀b,A b->A' b/\ρ' b=ρ b/\(V' b↔V b))->∀b'∈args'.flatMap (reach h' aC),∃c∈args.flatMap (aQ h aC),b'=ρ' c/\¬V' c/\A' c:=by intro ρ' V' A' hk b' hb';obtain⟨b,q1,q2,q3,q4,_⟩:=hreach b' hb';obtain⟨s1,s2,s3⟩:=hk b q4;exact⟨b,q1,by rw[s2];exact q2,λq=>q3 (s3.1 q),s1⟩
   have hold2:∀b,A b->addN A nid b/\up ρ nid mid b=ρ b/\(addN V nid b↔V b):=by
    intro b hb;have hne:b≠nid:=λe=>hn (e ▸ hb);refine⟨.inl hb,by simp[up,hne],⟨λq=>?_,λq=>.inl q⟩⟩;rcases q with q | q
    ·exact q
    ·exact absurd q hne
   have hold1:∀b,A b->addN A nid b/\up ρ nid mid b=ρ b/\(V b↔V b):=qZ hn;have hVn:¬V nid:=λq=>hn (H.sub nid q);simp only at hx;split at hx
   ·rename_i hown;obtain⟨v,h6,rfl⟩:=aH hx;have hnA:¬A1 n0:=λq=>qpz _ (r4.w n0 q);obtain⟨u',q1,q2⟩:=Oi (ρ2:=ρ) (V2:=V) (A2:=A) (b':=m0) (mid:=0) (λq=>absurd q hnA) r2 v h6;have q3:=Zv (λq=>absurd q hnA) r2 v h6;have hfc:jc run' f az' mid=some (u',[]):=by unfold jc;rw[r1];simp only[ob,q3,q1,om]
    have hbx:uh f=true->vK (u',([]:Upd))=true:=by intro hb;have:=hbr hb;simp only[nX,vK,q7z,q4q]at this |-;exact Gt q2 this
    refine⟨_,ρ,V,A,hgo hfc hbx,?_⟩;simp only[iZ,bZ,qKz];exact⟨q2,k1,Keeps.refl ρ V A,λb hb=>.inl hb,λb hb _=>.inl ⟨hb,rfl⟩,lt,qxx _,qxx _,λq=>(by cases q),rdOk λb hb=>⟨hb,rfl,zWz⟩,λb hb=>.inl (k2 b hb)⟩
   ·rename_i b hown;unfold wU at hx;split at hx
    ·rename_i z es mu dt hg;split at hx
     ·rename_i hmd;obtain⟨v,h6,rfl⟩:=aH hx;simp only[qwz]at hmd;obtain⟨rfl,rfl⟩:=hmd;have hA1:A1 b:=r3.dom b _ hg;by_cases hV1:V1 b
      ·obtain⟨z',mu',dt',e⟩:=r3.uG b _ hg hV1;cases e;obtain⟨u',q1,q2⟩:=Oi (ρ2:=up ρ nid mid) (V2:=addN V nid) (A2:=addN A nid) (b':=m0) (mid:=0) (λ_=>.inr ⟨hV1,.inr rfl,.inr rfl⟩) r2 v h6;have q3:=Zv (λ_=>hV1) r2 v h6;have hfc:jc run' f az' mid=some (u',[]):=by unfold jc;rw[r1];simp only[ob,q3,q1,om]
       have hbx:uh f=true->vK (u',([]:Upd))=true:=by intro hb;have:=hbr hb;simp only[nX,vK,q7z,q4q,qwz]at this |-;exact Gt q2 this.1
       refine⟨_,up ρ nid mid,addN V nid,addN A nid,hgo hfc hbx,?_⟩;simp only[iZ,bZ,qKz];refine⟨q2,?_,hold2,?_,?_,⟨?_,?_⟩,qxx _,qxx _,λq=>(by cases q),rdOk hold2,?_⟩
       ·rw[rX];exact agT k1 hn mid z true true
       ·rintro c (hc | hc)
        ·exact .inl hc
        ·exact .inr (.inl hc)
       ·rintro c (hc | hc) hv
        ·exact .inl ⟨hc,(hold2 c hc).2.1⟩
        ·exact absurd (.inr hc) hv
       ·rintro c (hc | hc)
        ·exact lt.w c hc
        ·subst hc;exact hnl
       ·rintro c (hc | hc) hv
        ·rw[(hold2 c hc).2.1];exact lt.p c hc λq=>hv (.inl q)
        ·exact absurd (.inr hc) hv
       ·intro b' hb';obtain⟨c,s1,s2,s3,s4⟩:=k2 b' hb';obtain⟨t1,t2,t3⟩:=hold2 c s4;exact .inl ⟨c,by simp only[XY];rw[qWx];exact qiq _ s1,by rw[t2];exact s2,λq=>s3 (t3.1 q),t1⟩
      ·obtain⟨o',g1,g2⟩:=r3.obj b _ hg hV1;obtain⟨es',mu',rfl,e1,e2,e3⟩:=g2;have hmu:=e1 rfl;subst hmu;obtain⟨u',q1,q2⟩:=Oi (ρ2:=up ρ nid mid) (V2:=V) (A2:=addN A nid) (b':=ρ1 b) (mid:=mid) (λ_=>.inl ⟨hV1,rfl,.inr rfl,hVn,by simp[up]⟩) r2 v h6;have q3:nP v0'=some (ρ1 b):=by
        rcases ak0 hA1 hV1 r2 v h6 with⟨s1,_⟩|⟨_,s2⟩
        ·rw[hown]at s1;cases s1
        ·exact s2
       have hcells:bF (bF (VW (up ρ nid mid) V (addN A nid))) es es':=e2.mono λe e' he hee=>hee.mono λx x' hx hxx=>hxx.isC (e3 rfl e he x hx);have hpl:(es'.all λe=>e.all mg)=true:=by rw[qkz];intro e' he';rw[qkz];intro x' hx';obtain⟨j,hj,p1⟩:=qvx he';obtain⟨e,p2,p3⟩:=e2.get' (qqj hj);rw[p1]at p3;obtain⟨k,hk,p4⟩:=qvx hx';obtain⟨x,p5,p6⟩:=p3.get' (qqj hk);rw[p4]at p6;exact abC p6 (e3 rfl e (qwj p2) x (qwj p5))
       have hfc:jc run' f az' mid=some (u',[(mid,some (.cells z es' true))]):=by unfold jc;rw[r1];simp only[ob,q3,g1,Hr,hpl,qhj,qyx,q1,om]
       have hbx:uh f=true->vK (u',[(mid,some (.cells z es' true))])=true:=by intro hb;have:=hbr hb;simp only[nX,vK,q7z,qYj,Xm,acz,q4q,qwz]at this |-;refine⟨Gt q2 this.1,?_⟩;rw[qkz];intro e' he';obtain⟨j,hj,p1⟩:=qvx he';obtain⟨e,p2,p3⟩:=e2.get' (qqj hj);rw[p1]at p3;exact aen p3 (qkz.1 this.2 e (qwj p2))
       refine⟨_,up ρ nid mid,V,addN A nid,hgo hfc hbx,?_⟩;simp only[iZ,bZ];refine⟨q2,?_,hold1,?_,?_,⟨?_,?_⟩,qxx _,qxx _,λq=>(by cases q),rdOk hold1,?_⟩
       ·rw[rX,iR];exact qm k1 hn hm ⟨es',true,rfl,λ_=>rfl,hcells,e3⟩
       ·rintro c (hc | hc)
        ·exact .inl hc
        ·exact .inr (.inl hc)
       ·rintro c (hc | hc) hv
        ·exact .inl ⟨hc,(hold1 c hc).2.1⟩
        ·subst hc;exact .inr (.inl (by simp[up]))
       ·rintro c (hc | hc)
        ·exact lt.w c hc
        ·subst hc;exact hnl
       ·rintro c (hc | hc) hv
        ·rw[(hold1 c hc).2.1];exact lt.p c hc hv
        ·subst hc;simp only[up,qyx];exact hml
       ·intro b' hb';rw[qWx]at hb';rcases qWj.1 hb' with hb' | hb'
        ·obtain⟨c,s1,s2,s3,s4⟩:=k2 b' hb';obtain⟨t1,t2,t3⟩:=hold1 c s4;exact .inl ⟨c,by simp only[XY];rw[qWx];exact qiq _ s1,by rw[t2];exact s2,s3,t1⟩
        ·simp only[qvj,qgz,qhx]at hb';subst hb';exact .inl ⟨nid,by simp only[XY];rw[qWx];exact qsq _ qqz,by simp[up],hVn,.inr rfl⟩
     ·cases hx
    ·cases hx
  ·rename_i hfr;obtain⟨r,h1,rfl⟩:=aH hc;obtain⟨r',ρ',V',A',r1,r2⟩:=whole h1;refine⟨_,ρ',V',A',?_,r2⟩;have hfr:Pv f=false:=by simpa using hfr
   have hdp':rZ f=false:=by unfold Pv at hfr;unfold rZ;have:=of_decide_eq_false hfr;exact qKj qqq
   simp only[jy,fK,hi,qox,qyx,hfr,hdp',q9z,qxj,qWq,uw,r1,om,tidy]
 ·rename_i hi;have hi:C.inl f=false:=by simpa using hi
  split at hc
  ·rename_i hp;obtain⟨r,h1,rfl⟩:=aH hc;obtain⟨r',ρ',V',A',r1,r2⟩:=whole h1;refine⟨_,ρ',V',A',?_,r2⟩;simp only[qwz,qbz]at hp;simp only[jy,fK,hi,hp.1,Xk args hp.2 args' ha,qrj,q8x,qhj,qyx,qiz,qxj,qWq,uw,r1,om,tidy]
  ·rename_i hp;obtain⟨az,h1,h2⟩:=aA hc;obtain⟨v,h3,rfl⟩:=aH h2;have hp':(!C.pp f&&bW args')=false:=by
    cases hpp:C.pp f with
    |true=>rfl
    |false=>
     rw[hpp]at hp;have h0:bW args=false:=by simpa using hp
     rw[aa0 args args' az ha h1 h0];rfl
   obtain⟨az',h4,h5⟩:=gB (λx y hxy x' hx'=>JR H aC x y x' hxy hx') ha h1;obtain⟨v',h6,h7⟩:=Us hr h5 h3;have hreach:∀b'∈args'.flatMap (reach h' aC),∃b∈args.flatMap (aQ h aC),b'=ρ b/\¬V b/\A b/\∃z es mu dt,get h b=some (.cells z es mu dt):=by intro b' hb';simp only[qvq]at hb' |-;obtain⟨u,hu,hb'⟩:=hb';obtain⟨j,hj,q1⟩:=qvx hu;obtain⟨x,q2,q3⟩:=ha.get' (qqj hj);rw[q1]at q3;obtain⟨x',_,q4⟩:=(dn h1).2 j x q2;obtain⟨b,q5,q6⟩:=La H aC x u x' q3 q4 b' hb';exact⟨b,⟨x,qwj q2,q5⟩,q6⟩
   refine⟨.data v' (marks h' args' v'),ρ,V,A,by simp only[jy,fK,hi,hp',qrj,qxj,qWq,h4,h6,om],?_⟩;have hmarks:HW ρ V A (bT h (pI h args v)) (aS h' (marks h' args' v'))/\∀b'∈(marks h' args' v').map (·.1),∃b∈(pI h args v).map (·.1),b'=ρ b/\¬V b/\A b:=by
    unfold marks pI;by_cases hr2:dG aC v=true
    ·rw[qzq hr2];split
     ·exact vZ H _ _ hreach
     ·have:=vZ H (args.flatMap (aQ h aC)) [] (λb hb=>by cases hb);exact⟨this.1,λb hb=>by simp at hb⟩
    ·rw[qwx hr2,qwx (λq=>hr2 (aa1 _ _ _ h7 q))];exact⟨H,λb hb=>by simp at hb⟩
   refine⟨h7.mono λ_ q=>q.elim,hmarks.1,Keeps.refl ρ V A,λb hb=>.inl hb,λb hb _=>.inl ⟨hb,rfl⟩,lt,qxx _,qxx _,λq=>(by cases q),λb' hb'=>?_,λb hb=>.inl (hmarks.2 b hb)⟩;obtain⟨b,q1,q2,q3,q4,_⟩:=hreach b' hb';exact⟨b,q1,q2,q3,q4⟩
theorem af4(he:EW ρ V A e e'){xs:List Opd}(hx:xs.all okO=true):bF (VW ρ V A) (xs.map λx=>x.ev e) ((xs.map erO).map λx=>x.ev e'):=by
 rw[qZz];simp only[qkz]at hx;refine⟨by simp,λj x x' h1 h2=>?_⟩;rw[qQq]at h1 h2;cases h3:xs[j]? with
 |none=>rw[h3]at h1;cases h1
 |some c=>rw[h3]at h1 h2;cases h1;cases h2;exact he.opd (hx c (qwj h3))
theorem ao2(he:EW ρ V A e e'){op:COp}(ho:jd op=true){r:AV×dV}(hs:stepW op e h n=some r):∀b'∈readsOf e' (gu op),∃b∈readsOf e op,b'=ρ b/\¬V b/\A b:=by
 have one:∀{x:Opd},okO x=true->x.ev e≠.undef->∀b'∈eH ((erO x).ev e'),∃b∈eH (x.ev e),b'=ρ b/\¬V b/\A b:=by
  intro x hx hun b' hb';have hv:=he.opd hx;cases hxe:x.ev e with
  |ptr b i o=>rw[hxe]at hv;obtain⟨q,h1,h2⟩:=hv.jk;rw[q]at hb';simp[eH]at hb' |-;exact⟨hb',h2,h1⟩
  |map b=>rw[hxe]at hv;obtain⟨q,h1,h2⟩:=hv.yH;rw[q]at hb';simp[eH]at hb' |-;exact⟨hb',h2,h1⟩
  |sl b z i len cap ex=>
   rw[hxe]at hv;rcases hv.jQ with⟨h1,h2,ex',q,_⟩|⟨_,_,_,_,_,q⟩
   ·rw[q]at hb';simp[eH]at hb' |-;exact⟨hb',h2,h1⟩
   ·rcases q with q | q<;>rw[q]at hb'<;>simp[eH]at hb'
  |undef=>exact absurd hxe hun
  |ro z es ex=>rw[hxe]at hv;rcases hv.mJ with⟨_,q⟩|⟨_,_,q,_⟩<;>rw[q]at hb'<;>simp[eH]at hb'
  |_=>rw[hxe]at hv;cases hnm:(erO x).ev e'<;>rw[hnm]at hv hb'<;>first | (cases hv;done) | (simp[eH]at hb';done)
 have two:∀{x y:Opd},okO x=true->okO y=true->x.ev e≠.undef->y.ev e≠.undef->∀b'∈eH ((erO x).ev e')++eH ((erO y).ev e'),∃b∈eH (x.ev e)++eH (y.ev e),b'=ρ b/\¬V b/\A b:=by
  intro x y hx hy hux huy b' hb';rcases qWj.1 hb' with q | q
  ·obtain⟨b,q1,q2⟩:=one hx hux b' q;exact⟨b,qWj.2 (.inl q1),q2⟩
  ·obtain⟨b,q1,q2⟩:=one hy huy b' q;exact⟨b,qWj.2 (.inr q1),q2⟩
 have nil:∀b'∈([]:List Nat),∃b∈readsOf e op,b'=ρ b/\¬V b/\A b:=λb' hb'=>by cases hb'
 cases op with
 |load k ag a=>exact one ho (λq=>by simp[stepW,af5,ovW,om,Aj,q]at hs)
 |gW k x lo hi=>simp only[jd,qwz]at ho;exact one ho.1 (λq=>by simp[stepW,Ih,CG,q]at hs)
 |store k a x=>simp only[jd,qwz]at ho;exact one ho.1 (λq=>by simp[stepW,Oh,wH,q]at hs)
 |next x=>exact one ho (λq=>by simp[stepW,YK,q]at hs)
 |len kd x=>exact one ho (λq=>by simp[stepW,ak3,rU,ovW,om,q]at hs)
 |look kd z ok m k=>simp only[jd,qwz]at ho;exact one ho.2.1 (λq=>by simp[stepW,YS,q]at hs)
 |upd kd m k v=>simp only[jd,qwz]at ho;exact one ho.1 (λq=>by simp[stepW,agl,q]at hs)
 |app z bytes zeros s x=>
  simp only[jd,qwz]at ho;have hux:x.ev e≠.undef:=λq=>by simp[stepW,Uo,q,kF,ob]at hs
  refine two ho.2.1 ho.2.2 (λq=>?_) hux;simp only[stepW,Uo,q]at hs;split at hs
  ·split at hs
   ·obtain⟨_,_,hs⟩:=aA hs;split at hs
    ·simp[kK]at hs
    ·cases hs
   ·cases hs
  ·obtain⟨_,_,hs⟩:=aA hs;simp[kK]at hs
 |cpy z d s=>simp only[jd,qwz]at ho;refine two ho.1 ho.2 (λq=>?_) (λq=>by simp[stepW,abt,q,kF,ob]at hs);simp only[stepW,abt,q]at hs;obtain⟨_,_,hs⟩:=aA hs;simp[qU]at hs
 |clr z d=>simp only[jd,qwz]at ho;exact one ho.2 (λq=>by simp[stepW,ain,EN,q]at hs)
 |_=>exact nil
theorem Z8(he:EW ρ V A e e'){g:Option (Nat×Bool)}{b:Bool}(hw:wants e g=some b):wants e' g=some b:=by
 cases g with
 |none=>exact hw
 |some p=>
  obtain⟨s,w⟩:=p;simp only[wants]at hw |-;cases hg:get e s with
  |none=>rw[hg]at hw;cases hw
  |some v=>
   obtain⟨v',h1,h2⟩:=he s v hg;rw[hg]at hw;rw[h1];cases v with
   |bool b=>rw[h2.fU];exact hw
   |tup vs=>
    cases vs with
    |nil=>obtain⟨vs',rfl,hr⟩:=h2.uH;rw[hr.fD];exact hw
    |cons a r=>cases hw
   |_=>cases hw
theorem aeM(hr:zO run run')(he:EW ρ V A e e')(H:HW ρ V A h h')(lt:Lts ρ V A n m){nid mid:Nat}(hn:¬A nid)(hnl:nid<n)(hm:∀b,A b->¬V b->ρ b≠mid)(hml:mid<m)
 {o:bn}(ho:jd o.op=true) {d:jH}(hd:fV C run o nid e h n=some d):∃d' ρ' V' A',jI (fK C) run' (tX o) mid e' h' m=some d'/\Uf ρ V A nid n mid m d d' ρ' V' A':=by
 unfold fV at hd;cases hw:wants e o.guard with
 |none=>rw[hw]at hd;cases hd
 |some b=>
  rw[hw]at hd;have hw':=Z8 he hw;cases b with
  |false=>simp only[qwq]at hd;subst hd;refine⟨⟨.tup [],h',m,false,[],[]⟩,ρ,V,A,by simp only[jI,tX,hw'],VW.lU .nil,H,Keeps.refl ρ V A,λb hb=>.inl hb,λb hb _=>.inl ⟨hb,rfl⟩,lt,qxx _,qxx _,λq=>(by cases q),λb hb=>(by cases hb),λb hb=>(by cases hb)⟩
  |true=>
   simp only at hd;have goal:∃d' ρ' V' A',jr (fK C) run' (gu o.op) mid e' h' m=some d'/\Uf ρ V A nid n mid m d d' ρ' V' A':=by
    have callCase:∀(f:Nat) (args args':List AV),bF (VW ρ V A) args args'->callOf e' (gu o.op)=some (some (f,args'))->callOf e o.op=some (some (f,args)) ->
     ∃d' ρ' V' A',jr (fK C) run' (gu o.op) mid e' h' m=some d'/\Uf ρ V A nid n mid m d d' ρ' V' A':=by
     intro f args args' ha hc' hc;simp only[iQ,hc]at hd;obtain⟨c,h1,rfl⟩:=aH hd;obtain⟨c',ρ',V',A',h2,h3⟩:=aef hr H lt hn hnl hm hml ha h1;exact⟨_,ρ',V',A',by simp only[jr,hc',h2,om],h3⟩
    by_cases hcall:callOf e o.op=some none
    ·have hcall':callOf e' (gu o.op)=some none:=by
      cases hop:o.op<;>rw[hop]at hcall<;>simp only[callOf,gu]at hcall |-
      ·cases hcall
      ·split at hcall<;>cases hcall
     simp only[iQ,hcall]at hd;obtain⟨r,h1,rfl⟩:=aH hd;obtain⟨r',h2,h3⟩:=ae2 he H hn hm ho h1;have hu:=qZ (ρ:=ρ) (V:=V) (m:=mid) hn;have hVn:¬V nid:=λq=>hn (H.sub nid q);refine⟨_,up ρ nid mid,V,addN A nid,by simp only[jr,hcall',h2,om];rfl,h3.1,h3.2.1,hu,?_,?_,⟨?_,?_⟩,qxx _,qxx _,λq=>(by cases q),?_,?_⟩
     ·rintro b (hb | rfl)
      ·exact .inl hb
      ·exact .inr (.inl rfl)
     ·rintro b (hb | rfl) hv
      ·exact .inl ⟨hb,(hu b hb).2.1⟩
      ·exact .inr (.inl (by simp[up]))
     ·rintro b (hb | rfl)
      ·exact lt.w b hb
      ·exact hnl
     ·rintro b (hb | rfl) hv
      ·rw[(hu b hb).2.1];exact lt.p b hb hv
      ·simp only[up,qyx];exact hml
     ·intro b' hb';obtain⟨b,q1,q2,q3,q4⟩:=ao2 he ho h1 b' hb';exact⟨b,q1,by rw[(hu b q4).2.1];exact q2,q3,.inl q4⟩
     ·intro b' hb';exact .inl (h3.2.2 b' hb')
    ·cases hop:o.op with
     |call f args=>rw[hop]at ho;have:=callCase f _ _ (af4 he ho) (by rw[hop];rfl) (by rw[hop];rfl);rwa [hop]at this
     |dY g args=>
      rw[hop]at ho;simp only[jd,qwz]at ho;have hg:=he.opd ho.1;cases hge:g.ev e with
      |fn f caps=>rw[hge]at hg;obtain⟨caps',q,hrel⟩:=hg.zW;have:=callCase f _ _ ((af4 he ho.2).append hrel) (by rw[hop];simp only[gu,callOf,q]) (by rw[hop];simp only[callOf,hge]);rwa [hop]at this
      |_=>exfalso;rw[hop]at hd;simp only[iQ,callOf,hge]at hd;cases hd
     |_=>exact absurd (by rw[hop];rfl) hcall
   obtain⟨d',ρ',V',A',h1,h2⟩:=goal;exact⟨d',ρ',V',A',by simp only[jI,tX,hw'];exact h1,h2⟩
end
def Srt(e:Env):Prop:=e.Pairwise λa b=>b.1<a.1
theorem Srt.put{e:Env}(h:Srt e)(k:Nat)(v:AV):Srt (vP e k v):=by
 have mem:∀(e:Env) x,x∈vP e k v->x=(k,v)\/x∈e:=by
  intro e;induction e with
  |nil=>intro x hx;simp[vP]at hx;exact .inl hx
  |cons y e ih=>
   intro x hx;obtain⟨j,u⟩:=y;simp only[vP]at hx;split at hx
   ·rcases qjj.1 hx with q | q
    ·exact .inl q
    ·exact .inr q
   ·split at hx
    ·rcases qjj.1 hx with q | q
     ·exact .inl q
     ·exact .inr (qyj _ q)
    ·rcases qjj.1 hx with q | q
     ·exact .inr (q ▸ qVx)
     ·rcases ih x q with q | q
      ·exact .inl q
      ·exact .inr (qyj _ q)
 induction e with
 |nil=>exact List.pairwise_singleton _ _
 |cons y e ih=>
  obtain⟨j,u⟩:=y;have h1:∀x∈e,x.1<j:=λx hx=>(qfq.1 h).1 x hx;have h2:Srt e:=(qfq.1 h).2;simp only[vP];split
  ·rename_i hk;refine qfq.2 ⟨λx hx=>?_,h⟩;rcases qjj.1 hx with rfl | q
   ·exact hk
   ·have:=h1 x q;simp only;omega
  ·rename_i hk;split
   ·rename_i hj;subst hj;exact qfq.2 ⟨h1,h2⟩
   ·rename_i hj;refine qfq.2 ⟨λx hx=>?_,ih h2⟩;rcases mem e x hx with rfl | q
    ·simp only;omega
    ·exact h1 x q
theorem Srt.dO{e:Env}(h:Srt e)(d:Option Nat)(v:AV):Srt (fC e d v):=by
 cases d with
 |none=>exact h
 |some d=>exact h.put d v
theorem YJ:∀(l:List AV) (k:Nat) (acc:Env),Fh k l acc=(fF k l).reverse++acc:=by
 intro l;induction l with
 |nil=>intro k acc;rfl
 |cons v l ih=>intro k acc;simp[Fh,fF,ih]
theorem Un:∀(l:List AV) (k:Nat),(fF k l).Pairwise (λa b=>a.1<b.1)/\∀x∈fF k l,k<=x.1:=by
 intro l;induction l with
 |nil=>intro k;exact⟨List.Pairwise.nil,λx hx=>by simp[fF]at hx⟩
 |cons v l ih=>
  intro k;obtain⟨h1,h2⟩:=ih (k+1);refine⟨qfq.2 ⟨λx hx=>by have:=h2 x hx;simp only;omega,h1⟩,λx hx=>?_⟩;rcases qjj.1 hx with rfl | q
  ·exact qxx _
  ·have:=h2 x q;omega
theorem ahS(l:List AV)(k:Nat):Srt (Fh k l []):=by rw[YJ,qKz];exact List.pairwise_reverse.2 (Un l k).1
theorem Srt.get{e:Env}(h:Srt e){k:Nat}{v:AV}(hm:(k,v)∈e):Pav.get e k=some v:=by
 induction e with
 |nil=>cases hm
 |cons y e ih=>
  obtain⟨j,u⟩:=y;have h1:∀x∈e,x.1<j:=λx hx=>(qfq.1 h).1 x hx;simp only[Pav.get];rcases qjj.1 hm with q | q
  ·cases q;simp
  ·have:=h1 _ q;simp only at this;rw[qwx qqq];exact ih (qfq.1 h).2 q
theorem Xx{k a:Nat}:∀{l:List Nat},a∈tV k l->a∈l:=by
 intro l;induction l with
 |nil=>intro h;exact h
 |cons b l ih=>
  intro h;simp only[tV]at h;split at h
  ·exact qyj _ (ih h)
  ·exact h
theorem ML:∀(e:Env) (live:List Nat),(pV live e).Sublist e/\∀x∈pV live e,x.1∈live:=by
 intro e;induction e with
 |nil=>intro live;simp[MW]
 |cons y e ih=>
  obtain⟨j,u⟩:=y;intro live;simp only[JB];have hsub:∀a∈tV j live,a∈live:=λa ha=>Xx ha;cases hd:tV j live with
  |nil=>simp[Yl]
  |cons a l=>
   rw[hd]at hsub;simp only[Yl];split
   ·rename_i ha;obtain⟨h1,h2⟩:=ih l;refine⟨h1.cons_cons _,λx hx=>?_⟩;rcases qjj.1 hx with rfl | q
    ·simp only;subst ha;exact hsub _ qqz
    ·exact hsub _ (qyj _ (h2 x q))
   ·obtain⟨h1,h2⟩:=ih (a::l);exact⟨h1.cons _,λx hx=>hsub _ (h2 x hx)⟩
structure Sim(ρ:Nat->Nat)(V A:Nat->Prop)(s:WSt)(s':St):Prop where
 srt:Srt s.env
 env:EW ρ V A s.env s'.env
 heap:HW ρ V A s.heap s'.heap
 lt:Lts ρ V A s.next s'.next
def Old(base:Nat)(ρ:Nat->Nat)(V A:Nat->Prop)(ρ':Nat->Nat)(V' A':Nat->Prop):Prop:=∀b,b<base->(A b->A' b/\ρ' b=ρ b/\(V' b↔V b))/\(A' b->A b)
theorem Old.refl(base:Nat)(ρ:Nat->Nat)(V A:Nat->Prop):Old base ρ V A ρ V A:=λ_ _=>⟨λh=>⟨h,rfl,zWz⟩,id⟩
theorem Old.trans{base:Nat}{ρ ρ1 ρ2:Nat->Nat}{V A V1 A1 V2 A2:Nat->Prop}(h:Old base ρ V A ρ1 V1 A1)(k:Old base ρ1 V1 A1 ρ2 V2 A2):Old base ρ V A ρ2 V2 A2:=λb hb =>⟨λha=>by obtain⟨h1,h2,h3⟩:=(h b hb).1 ha;obtain⟨k1,k2,k3⟩:=(k b hb).1 h1;exact⟨k1,k2.trans h2,k3.trans h3⟩,λha=>(h b hb).2 ((k b hb).2 ha)⟩
section
variable {ρ:Nat->Nat}{V A:Nat->Prop}{n m:Nat}{h:aI}{h':Heap}{e e':Env}
theorem afu{base:Nat}{h:aI}:∀(n:Nat) (w acc:List Nat),acc.Nodup->(∀x∈acc,base<=x)->(close base h n w acc).Nodup/\∀x∈close base h n w acc,base<=x:=by
 intro n;induction n with
 |zero=>intro w acc h1 h2;exact⟨h1,h2⟩
 |succ n ih=>
  intro w acc h1 h2;cases w with
  |nil=>exact⟨h1,h2⟩
  |cons b w=>
   simp only[close];split
   ·exact ih w acc h1 h2
   ·rename_i hb;split
    ·exact ih w acc h1 h2
    ·rename_i hc;refine ih _ _ ?_ ?_
     ·have hc:b∉acc:=by simpa using hc
      rw[qpq];exact⟨h1,by simp,λx hx y hy=>by simp at hy;subst hy;rintro rfl;exact hc hx⟩
     ·intro x hx;rcases qWj.1 hx with q | q
      ·exact h2 x q
      ·simp at q;subst q;omega
def pre(base:Nat)(L:List Nat)(b:Nat):Nat:=if b<base then b else L.getD (b-base) 0
theorem Xg:∀{L:List Nat}{n b c:Nat},place n L b=some c->n<=c/\L[c-n]?=some b:=by
 intro L;induction L with
 |nil=>intro n b c h;simp[place]at h
 |cons a L ih=>
  intro n b c h;simp only[place]at h;split at h
  ·rename_i hb;cases h;subst hb;simp
  ·obtain⟨h1,h2⟩:=ih h;refine⟨by omega,?_⟩;have:c-n=(c-(n+1))+1:=by omega
   rw[this];simpa using h2
theorem aec:∀{L:List Nat}{n i b:Nat},L.Nodup->L[i]?=some b->place n L b=some (n+i):=by
 intro L;induction L with
 |nil=>intro n i b _ h;simp at h
 |cons a L ih=>
  intro n i b hd h;cases i with
  |zero=>simp at h;subst h;simp[place]
  |succ i=>
   simp only[qdq]at h;simp only[qoq]at hd;simp only[place];rw[qwx]
   ·rw[ih hd.2 h];congr 1;omega
   ·rintro rfl;exact hd.1 (qwj h)
theorem uP{base:Nat}{L:List Nat}{b c:Nat}(h:iF base L b=some c):pre base L c=b/\(c<base↔b<base)/\(c<base->c=b)/\(c<base\/c<base+L.length):=by
 unfold iF at h;split at h
 ·rename_i hb;cases h;exact⟨by simp[pre,hb],zWz,λ_=>rfl,.inl hb⟩
 ·rename_i hb;obtain⟨h1,h2⟩:=Xg h;have hlt:=(qzj.1 h2).1;refine⟨?_,⟨λq=>by omega,λq=>absurd q hb⟩,λq=>by omega,.inr qqq⟩;unfold pre;rw[qwx qqq,qnq,h2];rfl
theorem acY{ρ':Nat->Nat}{V' A':Nat->Prop}{π:Nat->Option Nat}(hπ:∀b c,A b->π b=some c->A' c/\ρ' c=ρ b/\(V' c↔V b))(v:AV) :
 ∀(u v':AV),VW ρ V A v u->ren π v=some v'->VW ρ' V' A' v' u:=by
 refine AV.rec (motive_1:=λv=>∀(u v':AV),VW ρ V A v u->ren π v=some v'->VW ρ' V' A' v' u) (motive_2:=λ_=>True) (motive_3:=λl=>∀(l' r:List AV),bF (VW ρ V A) l l'->mQ π l=some r->bF (VW ρ' V' A') r l') ?_ ?_ ?_ ?_ ?_ ?_ ?_ ?_ ?_ ?_ ?_ ?_ ?_ ?_ ?_ ?_ ?_ ?_ ?_ ?_ v
 ·intro u v' _ h;simp only[ren,qwq]at h;subst h;exact .undef _
 ·intro b u v' hu h;simp only[ren,qwq]at h;subst h;rw[hu.fU];exact .bool _
 ·intro b c u v' hu h;simp only[ren,qwq]at h;subst h;rw[hu.dS];exact .int _ _
 ·intro b u v' hu h;simp only[ren,qwq]at h;subst h;rw[hu.iL];exact .str _
 ·intro u v' hu h;simp only[ren,qwq]at h;subst h;exact hu.isC rfl
 ·intro u v' hu h;simp only[ren,qwq]at h;subst h;exact hu.isC rfl
 ·intro u v' hu h;simp only[ren,qwq]at h;subst h;exact hu.isC rfl
 ·intro u v' hu h;simp only[ren,qwq]at h;subst h;exact hu.isC rfl
 ·intro z es ex _ u v' hu h;simp only[ren,qwq]at h;subst h;exact hu.isC rfl
 ·intro z _ u v' hu h;simp only[ren,qwq]at h;subst h;exact hu.isC rfl
 ·intro b i o u v' hu h;obtain⟨rfl,hA,hV⟩:=hu.jk;simp only[ren]at h;obtain⟨c,h1,rfl⟩:=aH h;obtain⟨q1,q2,q3⟩:=hπ b c hA h1;rw[<- q2];exact .ptr c i o q1 (λq=>hV (q3.1 q))
 ·intro b z i len cap ex u v' hu h;simp only[ren]at h;obtain⟨c,h1,rfl⟩:=aH h;rcases hu.jQ with⟨hA,hV,ex',rfl,hx⟩|⟨hA,hV,rfl,rfl,rfl,hv⟩
  ·obtain⟨q1,q2,q3⟩:=hπ b c hA h1;rw[<- q2];exact .sl c z i len cap ex ex' q1 (λq=>hV (q3.1 q)) hx
  ·obtain⟨q1,q2,q3⟩:=hπ b c hA h1;exact .slv c z ex u q1 (q3.2 hV) hv
 ·intro b u v' hu h;obtain⟨rfl,hA,hV⟩:=hu.yH;simp only[ren]at h;obtain⟨c,h1,rfl⟩:=aH h;obtain⟨q1,q2,q3⟩:=hπ b c hA h1;rw[<- q2];exact .map c q1 (λq=>hV (q3.1 q))
 ·intro f cs ih u v' hu h;obtain⟨cs',rfl,hr⟩:=hu.zW;simp only[ren]at h;obtain⟨r,h1,rfl⟩:=aH h;exact VW.lN (ih cs' r hr h1)
 ·intro cs ih u v' hu h;obtain⟨cs',rfl,hr⟩:=hu.ny;simp only[ren]at h;obtain⟨r,h1,rfl⟩:=aH h;exact VW.NC (ih cs' r hr h1)
 ·intro cs ih u v' hu h;obtain⟨cs',rfl,hr⟩:=hu.uH;simp only[ren]at h;obtain⟨r,h1,rfl⟩:=aH h;exact VW.lU (ih cs' r hr h1)
 ·trivial
 ·intros;trivial
 ·intro l' r hr h;simp only[mQ,qwq]at h;subst h;rw[hr.fD];exact .nil
 ·intro v l ih1 ih2 l' r hr h;obtain⟨u,t,rfl,h1,h2⟩:=hr.dI;simp only[mQ]at h;obtain⟨v',h3,h⟩:=aA h;obtain⟨r',h4,rfl⟩:=aH h;exact .cons (ih1 u v' h1 h3) (ih2 t r' h2 h4)
theorem ajh{ρ':Nat->Nat}{V' A':Nat->Prop}{π:Nat->Option Nat}(hπ:∀b c,A b->π b=some c->A' c/\ρ' c=ρ b/\(V' c↔V b)):∀(l l' r:List AV),bF (VW ρ V A) l l'->mQ π l=some r->bF (VW ρ' V' A') r l':=by
 intro l;induction l with
 |nil=>intro l' r hr h;simp only[mQ,qwq]at h;subst h;rw[hr.fD];exact .nil
 |cons v l ih=>intro l' r hr h;obtain⟨u,t,rfl,h1,h2⟩:=hr.dI;simp only[mQ]at h;obtain⟨v',h3,h⟩:=aA h;obtain⟨r',h4,rfl⟩:=aH h;exact .cons (acY hπ v u v' h1 h3) (ih t r' h2 h4)
theorem aar{ρ':Nat->Nat}{V' A':Nat->Prop}{π:Nat->Option Nat}(_hπ:∀b c,A b->π b=some c->A' c/\ρ' c=ρ b/\(V' c↔V b)):∀(e:Env) (r:Env),kH π e=some r->∀k v',get r k=some v'->∃v,get e k=some v/\ren π v=some v':=by
 intro e;induction e with
 |nil=>intro r h k v' hk;simp only[kH,qwq]at h;subst h;simp[Pav.get]at hk
 |cons x e ih=>
  obtain⟨j,v⟩:=x;intro r h k v' hk;simp only[kH]at h;obtain⟨w,h1,h⟩:=aA h;obtain⟨r',h2,rfl⟩:=aH h;simp only[Pav.get]at hk |-;split at hk
  ·rename_i hj;rw[qzq hj];cases hk;exact⟨v,rfl,h1⟩
  ·rename_i hj;rw[qwx hj];exact ih r' h2 k v' hk
theorem SV{π:Nat->Option Nat}:∀(e r:Env),kH π e=some r->r.map (·.1)=e.map (·.1):=by
 intro e;induction e with
 |nil=>intro r h;simp only[kH,qwq]at h;subst h;rfl
 |cons x e ih=>obtain⟨j,v⟩:=x;intro r h;simp only[kH]at h;obtain⟨w,h1,h⟩:=aA h;obtain⟨r',h2,rfl⟩:=aH h;simp only[qvj,ih r' h2]
theorem Srt.keys{e r:Env}(h:Srt e)(hk:r.map (·.1)=e.map (·.1)):Srt r:=by have h1:(e.map (·.1)).Pairwise (λa b=>b<a):=List.pairwise_map.2 h;rw[<- hk]at h1;exact List.pairwise_map.1 h1
theorem Vy{base:Nat}{π:Nat->Option Nat}:∀(h r:aI),jU base π h=some r->∀k o',get r k=some o'->k<base/\∃o,get h k=some o/\iH π o=some o':=by
 intro h;induction h with
 |nil=>intro r h k v' hk;simp only[jU,qwq]at h;subst h;simp[Pav.get]at hk
 |cons x h ih=>
  obtain⟨j,v⟩:=x;intro r h k o' hk;simp only[jU]at h;split at h
  ·rename_i hj;obtain⟨w,h1,h⟩:=aA h;obtain⟨r',h2,rfl⟩:=aH h;simp only[Pav.get]at hk |-;split at hk
   ·rename_i hjk;rw[qzq hjk];cases hk;exact⟨hjk ▸ hj,v,rfl,h1⟩
   ·rename_i hjk;rw[qwx hjk];exact ih r' h2 k o' hk
  ·rename_i hj;obtain⟨q1,o,q2,q3⟩:=ih r h k o' hk;refine⟨q1,o,?_,q3⟩;simp only[Pav.get];rw[qwx qqq];exact q2
theorem XJ{π:Nat->Option Nat}{h:aI}:∀(L:List Nat) (n:Nat) (r:aI),mP π h n L=some r->∀k o',get r k=some o'->∃i b o,k=n+i/\L[i]?=some b/\get h b=some o/\iH π o=some o':=by
 intro L;induction L with
 |nil=>intro n r h k v' hk;simp only[mP,qwq]at h;subst h;simp[Pav.get]at hk
 |cons b L ih=>
  intro n r h k o' hk;simp only[mP]at h;split at h
  ·rename_i o ho;obtain⟨w,h1,h⟩:=aA h;obtain⟨r',h2,rfl⟩:=aH h;simp only[Pav.get]at hk;split at hk
   ·rename_i hjk;cases hk;exact⟨0,b,o,by omega,by simp,ho,h1⟩
   ·obtain⟨i,b',o2,q1,q2,q3,q4⟩:=ih (n+1) r' h2 k o' hk;exact⟨i+1,b',o2,by omega,by simpa using q2,q3,q4⟩
  ·obtain⟨i,b',o2,q1,q2,q3,q4⟩:=ih (n+1) r h k o' hk;exact⟨i+1,b',o2,by omega,by simpa using q2,q3,q4⟩
theorem get_append{α:Type}:∀(l r:List (Nat×α)) (k:Nat),get (l++r) k=match get l k with | some x=>some x | none=>get r k:=by
 intro l;induction l with
 |nil=>intro r k;rfl
 |cons x l ih=>
  intro r k;obtain⟨j,v⟩:=x;simp only[qmx,Pav.get];split
  ·rfl
  ·exact ih r k
theorem acR{ρ':Nat->Nat}{V' A':Nat->Prop}{π:Nat->Option Nat}(hπ:∀b c,A b->π b=some c->A' c/\ρ' c=ρ b/\(V' c↔V b)):∀(es es' r:List (List AV)),bF (bF (VW ρ V A)) es es'->aZ (mQ π) es=some r->bF (bF (VW ρ' V' A')) r es':=by
 intro es;induction es with
 |nil=>intro l' r hr h;simp only[aZ,qwq]at h;subst h;rw[hr.fD];exact .nil
 |cons v l ih=>intro l' r hr h;obtain⟨u,t,rfl,h1,h2⟩:=hr.dI;simp only[aZ]at h;obtain⟨v',h3,h⟩:=aA h;obtain⟨r',h4,rfl⟩:=aH h;exact .cons (ajh hπ v u v' h1 h3) (ih t r' h2 h4)
theorem abA{ρ':Nat->Nat}{V' A':Nat->Prop}{π:Nat->Option Nat}(hπ:∀b c,A b->π b=some c->A' c/\ρ' c=ρ b/\(V' c↔V b)){o o2:dD}{o':jq}(ho:OW ρ V A o o')(hr:iH π o=some o2):OW ρ' V' A' o2 o':=by
 cases o with
 |cells z es mu dt=>
  obtain⟨es',mu',rfl,h2,h3,h4⟩:=ho;simp only[iH]at hr;split at hr
  ·rename_i hd;cases hr;exact⟨es',mu',rfl,h2,h3.mono λe e' he hee=>hee.mono λx x' hx hxx=>hxx.isC (h4 hd e he x hx),h4⟩
  ·rename_i hd;obtain⟨es2,h5,rfl⟩:=aH hr;exact⟨es',mu',rfl,h2,acR hπ es es' es2 h3 h5,λq=>absurd q hd⟩
 |map es=>simp only[iH,qwq]at hr;subst hr;obtain⟨es',rfl,h2⟩:=ho;exact⟨es',rfl,h2.mono λx y _ hxy=>⟨hxy.1,hxy.2.data⟩⟩
 |iter s p=>simp only[iH,qwq]at hr;subst hr;exact ho
theorem Ri{base:Nat}{s s2:WSt}{s':St}(S:Sim ρ V A s s'){L:List Nat}(hL:L.Nodup)(hLb:∀x∈L,base<=x)(hr:renumber base s L=some s2) :
 ∃ρ' V' A',Sim ρ' V' A' s2 s'/\base<=s2.next/\Old base ρ V A ρ' V' A'/\(∀b,A' b->¬V' b->∃c,A c/\¬V c/\ρ' b=ρ c/\(base<=b->base<=c)):=by
 unfold renumber at hr;obtain⟨e,h1,hr⟩:=aA hr;obtain⟨h1',h2,hr⟩:=aA hr;obtain⟨h2',h3,rfl⟩:=aH hr;let ρ':=λc=>ρ (pre base L c);let A':=λc=>∃b,A b/\iF base L b=some c;let V':=λc=>V (pre base L c)/\A' c;have hπ:∀b c,A b->iF base L b=some c->A' c/\ρ' c=ρ b/\(V' c↔V b):=by intro b c hb hc;have:=(uP hc).1;exact⟨⟨b,hb,hc⟩,by show ρ (pre base L c)=ρ b;rw[this],by show V (pre base L c)/\A' c↔V b;rw[this];exact⟨λq=>q.1,λq=>⟨q,b,hb,hc⟩⟩⟩
 have hgetH:∀c o2,get (h1'++h2') c=some o2->∃b o,iF base L b=some c/\get s.heap b=some o/\iH (iF base L) o=some o2:=by
  intro c o2 hc;rw[get_append]at hc;split at hc
  ·rename_i x hx;cases hc;obtain⟨q1,o,q2,q3⟩:=Vy _ _ h2 c o2 hx;exact⟨c,o,by simp[iF,q1],q2,q3⟩
  ·obtain⟨i,b,o,rfl,q2,q3,q4⟩:=XJ _ _ _ h3 c o2 hc;refine⟨b,o,?_,q3,q4⟩;unfold iF;rw[qwx (by have:=hLb b (qwj q2);omega)];exact aec hL q2
 refine⟨ρ',V',A',⟨S.srt.keys (SV _ _ h1),?_,?_,?_⟩,qrq _ _,?_,?_⟩
 ·intro k v' hk;obtain⟨v,q1,q2⟩:=aar (ρ':=ρ') (V':=V') (A':=A') hπ _ _ h1 k v' hk;obtain⟨u,q3,q4⟩:=S.env k v q1;exact⟨u,q3,acY hπ v u v' q4 q2⟩
 ·refine⟨λc o hc=>?_,λc o hc hv=>?_,λc o hc hv=>?_,?_,?_⟩
  ·obtain⟨b,o1,q1,q2,q3⟩:=hgetH c o hc;exact⟨b,S.heap.dom b o1 q2,q1⟩
  ·obtain⟨b,o1,q1,q2,q3⟩:=hgetH c o hc;have hvb:V b:=((hπ b c (S.heap.dom b o1 q2) q1).2.2).1 hv;obtain⟨z,mu,dt,rfl⟩:=S.heap.uG b o1 q2 hvb;simp only[iH,aZ,om]at q3;split at q3<;>cases q3<;>exact⟨_,_,_,rfl⟩
  ·obtain⟨b,o1,q1,q2,q3⟩:=hgetH c o hc;obtain⟨p1,p2,p3⟩:=hπ b c (S.heap.dom b o1 q2) q1;obtain⟨o',q4,q5⟩:=S.heap.obj b o1 q2 (λq=>hv (p3.2 q));exact⟨o',by rw[p2];exact q4,abA hπ q5 q3⟩
  ·exact λc hc=>hc.2
  ·rintro c d ⟨b,hb,hbc⟩ ⟨a,ha,had⟩ vc vd hcd;obtain⟨_,p2,p3⟩:=hπ b c hb hbc;obtain⟨_,r2,r3⟩:=hπ a d ha had;rw[p2,r2]at hcd;have:=S.heap.inj b a hb ha (λq=>vc (p3.2 q)) (λq=>vd (r3.2 q)) hcd;subst this;rw[hbc]at had;cases had;rfl
 ·refine⟨?_,?_⟩
  ·rintro c ⟨b,hb,hbc⟩;rcases(uP hbc).2.2.2 with q | q
   ·exact qZx q (qrq _ _)
   ·exact q
  ·rintro c ⟨b,hb,hbc⟩ hv;obtain⟨_,p2,p3⟩:=hπ b c hb hbc;rw[p2];exact S.lt.p b hb (λq=>hv (p3.2 q))
 ·intro b hb;have hnb:iF base L b=some b:=by simp[iF,hb]
  refine⟨λha=>hπ b b ha hnb,?_⟩;rintro⟨c,hc,hcb⟩;have:=(uP hcb).2.2.1 hb;rw[this];exact hc
 ·rintro c ⟨b,hb,hbc⟩ hv;obtain⟨_,p2,p3⟩:=hπ b c hb hbc;exact⟨b,hb,λq=>hv (p3.2 q),p2,λq=>by have:=(uP hbc).2.1;omega⟩
theorem afP{base:Nat}:∀(g:List (Nat×Nat)) (s:WSt) (s':St) (ρ:Nat->Nat) (V A:Nat->Prop),Sim ρ V A s s'->base<=s.next ->
 ∃V' A',Sim ρ V' A' (lu g s) s'/\base<=(lu g s).next/\Old base ρ V A ρ V' A'/\∀b,A' b->¬V' b->A b/\¬V b:=by
 intro g;induction g with
 |nil=>intro s s' ρ V A S hb;exact⟨V,A,S,hb,Old.refl base ρ V A,λb h1 h2=>⟨h1,h2⟩⟩
 |cons x g ih=>
  intro s s' ρ V A S hb;obtain⟨k,z⟩:=x;simp only[lu];split
  ·rename_i v hk;have key:∃V' A',Sim ρ V' A' (Dc s k z v) s'/\base<=(Dc s k z v).next/\Old base ρ V A ρ V' A'/\∀b,A' b->¬V' b->A b/\¬V b:=by
    unfold Dc;split
    ·rename_i z';split
     ·rename_i hz;subst hz;obtain⟨v',h1,h2⟩:=S.env k _ hk;have hn:¬A s.next:=λq=>qpz _ (S.lt.w _ q)
      have hu:∀b,A b->addN A s.next b/\ρ b=ρ b/\((V b\/b=s.next)↔V b):=λb hb=>⟨.inl hb,rfl,⟨λq=>q.elim id λe=>absurd (e ▸ hb) hn,.inl⟩⟩
      have hv':v'=.bG\/v'=.ro z' [] true:=by
       rcases h2.mJ with⟨_,rfl⟩|⟨es',ex',rfl,hx,hr,_⟩
       ·exact .inl rfl
       ·rw[hr.fD,hx rfl];exact .inr rfl
      refine⟨λb=>V b\/b=s.next,addN A s.next,⟨S.srt.put _ _,?_,?_,?_⟩,by simp only;omega,?_,?_⟩
      ·intro j u hj;simp only at hj;rw[UW]at hj;split at hj
       ·rename_i hkj;cases hj;subst hkj;exact⟨v',h1,.slv _ _ _ _ (.inr rfl) (.inr rfl) hv'⟩
       ·exact(S.env.mono hu) j u hj
      ·have H:=S.heap;refine⟨λb o hb=>?_,λb o hb hv=>?_,λb o hb hv=>?_,?_,?_⟩
       ·rw[get_put]at hb;split at hb
        ·rename_i q;exact .inr q.symm
        ·exact .inl (H.dom b o hb)
       ·rw[get_put]at hb;split at hb
        ·cases hb;exact⟨_,_,_,rfl⟩
        ·rename_i q;rcases hv with hv | hv
         ·exact H.uG b o hb hv
         ·exact absurd hv.symm q
       ·rw[get_put]at hb;split at hb
        ·rename_i q;exact absurd (.inr q.symm) hv
        ·obtain⟨o',q1,q2⟩:=H.obj b o hb (λq=>hv (.inl q));exact⟨o',q1,q2.mono hu⟩
       ·rintro b (hb | hb)
        ·exact .inl (H.sub b hb)
        ·exact .inr hb
       ·rintro b c (hb | hb) (hc | hc) vb vc hbc
        ·exact H.inj b c hb hc (λq=>vb (.inl q)) (λq=>vc (.inl q)) hbc
        ·exact absurd (.inr hc) vc
        ·exact absurd (.inr hb) vb
        ·exact absurd (.inr hb) vb
      ·refine⟨?_,?_⟩
       ·rintro b (hb | rfl)
        ·exact qix (S.lt.w b hb)
        ·exact qtz _
       ·rintro b (hb | rfl) hv
        ·exact S.lt.p b hb (λq=>hv (.inl q))
        ·exact absurd (.inr rfl) hv
      ·intro b hbb;exact⟨hu b,λq=>q.elim id λe=>by omega⟩
      ·rintro b (hb | rfl) hv
       ·exact⟨hb,λq=>hv (.inl q)⟩
       ·exact absurd (.inr rfl) hv
     ·exact⟨V,A,S,hb,Old.refl base ρ V A,λb h1 h2=>⟨h1,h2⟩⟩
    ·exact⟨V,A,S,hb,Old.refl base ρ V A,λb h1 h2=>⟨h1,h2⟩⟩
   obtain⟨V1,A1,S1,b1,o1,n1⟩:=key;obtain⟨V2,A2,S2,b2,o2,n2⟩:=ih _ s' ρ V1 A1 S1 b1;exact⟨V2,A2,S2,b2,o1.trans o2,λb q1 q2=>by obtain⟨q3,q4⟩:=n2 b q1 q2;exact n1 b q3 q4⟩
  ·exact ih s s' ρ V A S hb
theorem KT(k:Nat):∀l:List Nat,(bitsOf l).testBit k=l.contains k:=by
 intro l;induction l with
 |nil=>simp[bitsOf]
 |cons a l ih=>
  simp only[bitsOf,Nat.testBit_or,ih,Nat.testBit_two_pow,List.contains_cons];congr 1;by_cases h:a=k
  ·subst h;simp
  ·have:(k == a)=false:=by simpa using qYx h
   rw[this];simpa using h
theorem aaF{base:Nat}{a:Ann}{s s2:WSt}{s':St}(S:Sim ρ V A s s')(hb:base<=s.next)(hc:canon base a s=some s2){s1:St}(hs1:s1=s'\/s1=iK (uo a) s') :
 ∃ρ' V' A',Sim ρ' V' A' s2 s1/\base<=s2.next/\Old base ρ V A ρ' V' A'/\∀b,A' b->¬V' b->∃c,A c/\¬V c/\ρ' b=ρ c/\(base<=b->base<=c):=by
 cases hcn:a.cn with
 |false=>
  have e1:uo a=0:=by simp only[uo,hcn]
  simp only[canon,hcn,qwq]at hc;subst hc;have e2:s1=s':=by
   rcases hs1 with h | h
   ·exact h
   ·rw[h,e1];rfl
  subst e2;exact⟨ρ,V,A,S,hb,Old.refl base ρ V A,λb h1 h2=>⟨b,h1,h2,rfl,id⟩⟩
 |true=>
 have S0:Sim ρ V A ⟨pV a.live s.env,s.heap,s.next⟩ s1:=by
  have ek:∀k v,get (pV a.live s.env) k=some v->get s.env k=some v/\a.live.contains k=true:=by intro k v hk;obtain⟨q1,q2⟩:=ML s.env a.live;have hm:=get_mem hk;exact⟨S.srt.get (q1.subset hm),by simpa using q2 _ hm⟩
  have ks:Srt (pV a.live s.env):=S.srt.sublist (ML s.env a.live).1;rcases hs1 with rfl | rfl
  ·exact⟨ks,λk v hk=>S.env k v (ek k v hk).1,S.heap,S.lt⟩
  ·refine⟨ks,λk v hk=>?_,S.heap,S.lt⟩;obtain⟨h1,h2⟩:=ek k v hk;obtain⟨v',h3,h4⟩:=S.env k v h1;refine⟨v',?_,h4⟩;simp only[iK,uo,hcn];split
   ·exact h3
   ·rw[Vd,KT,h2,qzq rfl];exact h3
 obtain⟨V1,A1,S1,b1,o1,n1⟩:=afP (base:=base) a.grow _ s1 ρ V A S0 hb;simp only[canon,hcn]at hc;cases hnr:Zi a.grow with
 |true=>rw[hnr]at hc;simp only[qwq]at hc;subst hc;exact⟨ρ,V1,A1,S1,b1,o1,λb h1 h2=>by obtain⟨c4,c5⟩:=n1 b h1 h2;exact⟨b,c4,c5,rfl,id⟩⟩
 |false=>
 rw[hnr]at hc;simp only[WQ]at hc;obtain⟨q1,q2⟩:=afu (base:=base) (h:=(lu a.grow ⟨pV a.live s.env,s.heap,s.next⟩).heap) 1000 (Gv (lu a.grow ⟨pV a.live s.env,s.heap,s.next⟩).env++uV base (lu a.grow ⟨pV a.live s.env,s.heap,s.next⟩).heap) [] qqz (λx hx=>by cases hx);obtain⟨ρ',V',A',S2,b2,o2,n2⟩:=Ri S1 q1 q2 hc;exact⟨ρ',V',A',S2,b2,o1.trans o2,λb h1 h2=>by obtain⟨c,c1,c2,c3⟩:=n2 b h1 h2;obtain⟨c4,c5⟩:=n1 c c1 c2;exact⟨c,c4,c5,c3⟩⟩
end
end Go.Pw
end
section
namespace Go.Pw
open Go Go.Pav
variable {ρ:Nat->Nat}{V A:Nat->Prop}
theorem X3{a b:List AV}(hl:a.length=b.length)(hr:∀(j:Nat) (x x':AV),a[j]?=some x->b[j]?=some x'->VW ρ V A x x')(h:markRow a=true):markRow b=true:=by
 unfold markRow at h;split at h
 ·match b,hl with
  |[y],_=>have:=hr 0 _ y rfl rfl;cases this;rfl
 ·cases h
theorem adq{x u:AV}(h:VW ρ V A x u)(hx:AP x=true):AP u=true:=by
 cases h with
 |bG=>rfl
 |jh=>rfl
 |ro z es es' ex ex' hc hl hxx he hr=>
  simp only[AP,qwz,qkj,qkz]at hx |-;refine⟨hx.1,λe' he'=>?_⟩;obtain⟨i,hi,rfl⟩:=qaj.1 he';have hi2:i<es.length:=by omega
  exact X3 (he i _ _ (qqj hi2) (qqj hi)) (λj x x' h1 h2=>hr i _ _ j x x' (qqj hi2) (qqj hi) h1 h2) (hx.2 _ (qxq hi2))
 |_=>simp[AP]at hx
theorem ZA{a b:List AV}{k:Int}(hl:a.length=b.length)(hr:∀(j:Nat) (x x':AV),a[j]?=some x->b[j]?=some x'->VW ρ V A x x')(h:zV a=some k):zV b=some k:=by
 unfold zV at h;split at h
 ·match b,hl with
  |[y0,y1,y2,y3,y4,y5],_=>
   have h0:=hr 0 _ y0 rfl rfl;have h1:=hr 1 _ y1 rfl rfl;have h2:=hr 2 _ y2 rfl rfl;have h3:=hr 3 _ y3 rfl rfl;have h4:=hr 4 _ y4 rfl rfl;have h5:=hr 5 _ y5 rfl rfl;cases h0;cases h1;cases h2;cases h4;cases h5;split at h
   ·rename_i hm;simp only[zV,adq h3 hm,qyx];exact h
   ·cases h
 ·cases h
theorem Zo:∀{es es':List (List AV)}{l:List Int},es.length=es'.length->(∀(i:Nat) (e e':List AV),es[i]?=some e->es'[i]?=some e'->e.length=e'.length) ->
 (∀(i:Nat) (e e':List AV) (j:Nat) (x x':AV),es[i]?=some e->es'[i]?=some e'->e[j]?=some x->e'[j]?=some x'->VW ρ V A x x')->aZ zV es=some l->aZ zV es'=some l
 |[],[],_,_,_,_,h=>h
 |a::es,b::es',l,hl,he,hr,h=>by simp only[aZ]at h |-;obtain⟨k,h1,h⟩:=aA h;obtain⟨r,h2,h⟩:=aH h;rw[ZA (he 0 a b rfl rfl) (λj x x'=>hr 0 a b j x x' rfl rfl) h1,ob,Zo (by simpa using hl) (λi e e' h1 h2=>he (i+1) e e' (by simpa using h1) (by simpa using h2)) (λi e e' j x x' h1 h2=>hr (i+1) e e' j x x' (by simpa using h1) (by simpa using h2)) h2,om,h]
 |[],_::_,_,hl,_,_,_=>by simp at hl
 |_::_,[],_,hl,_,_,_=>by simp at hl
theorem Ld{x u:AV}{l:List Int}(h:VW ρ V A x u)(hx:qM x=some l):qM u=some l:=by
 cases h with
 |agg cs cs' hl hr=>
  unfold qM at hx;split at hx
  ·rename_i e;cases e;match cs',hl with
   |[y],_=>have:=hr 0 _ y rfl rfl;cases this;exact hx
  ·rename_i z es ex e;cases e;match cs',hl with
   |[y],_=>
    have:=hr 0 _ y rfl rfl;split at hx
    ·rename_i hz;cases this with
     |jh=>simpa [qM,aZ]using hx
     |ro z es es' ex ex' hc hl2 hxx he2 hr2=>simp only[qM];rw[qzq ⟨hz.1,by omega⟩];exact Zo hl2 he2 hr2 hx
    ·cases hx
  ·cases hx
 |_=>simp[qM]at hx
theorem PW{a b:List AV}(hl:a.length=b.length)(hr:∀(j:Nat) (x x':AV),a[j]?=some x->b[j]?=some x'->VW ρ V A x x'){v:AV}(h:oW a=some v):oW b=some v/\VW ρ V A v v:=by
 unfold oW at h;split at h
 ·match b,hl with
  |[y0,y1,y2],_=>
   have h0:=hr 0 _ y0 rfl rfl;have h1:=hr 1 _ y1 rfl rfl;have h2:=hr 2 _ y2 rfl rfl;obtain⟨kb,q1,h⟩:=aA h;obtain⟨kn,q2,h⟩:=aH h;subst h;cases h2 with
   |agg cs cs' hl2 hr2=>
    match cs',hl2 with
    |[z0,z1],_=>
     have g0:=hr2 0 _ z0 rfl rfl;have g1:=hr2 1 _ z1 rfl rfl;cases g0;cases g1;refine⟨by simp only[oW,Ld h0 q1,Ld h1 q2,ob,om],.agg _ _ rfl λj x x' e1 e2=>?_⟩;match j with
     |0=>cases e1;cases e2;exact .int _ _
     |1=>cases e1;cases e2;exact .int _ _
     |j+2=>simp at e1
 ·cases h
theorem oL:∀(n i:Nat) (e:Env),(dK n i e).length=n
 |0,_,_=>rfl
 |n+1,i,e=>by simp only[dK,qQx,oL n]
theorem BR:∀(n i j:Nat) (e:Env),j<n->(dK n i e)[j]?=some ((get e (i+j)).getD .undef)
 |0,_,_,_,h=>by omega
 |n+1,i,0,e,_=>rfl
 |n+1,i,j+1,e,h=>by simp only[dK,qdq];rw[BR n (i+1) j e qqq];congr 3;omega
theorem agu{e e':Env}(he:EW ρ V A e e'){k:Nat}{v:AV}(h:vJ k (dK (sK k) 0 e)=some v):vJ k (dK (sK k) 0 e')=some v/\VW ρ V A v v:=by
 unfold vJ at h |-;split at h
 ·rename_i hk;rw[qzq hk];refine PW (by rw[oL,oL]) (λj x x' h1 h2=>?_) h;have hj:j<sK k:=by have:=(qzj.1 h1).1;rwa [oL]at this
  rw[BR _ _ _ _ hj]at h1 h2;cases h1;cases h2;cases hg:get e (0+j)with
  |none=>exact .undef _
  |some y=>obtain⟨u,q1,q2⟩:=he _ _ hg;rw[q1];exact q2
 ·cases h
end Go.Pw
end
section
namespace Go.Pw
open Go Go.Pav
def Hi(base m0:Nat)(ρ:Nat->Nat)(V A:Nat->Prop):Prop:=∀b,A b->¬V b->base<=b->m0<=ρ b
structure Res(base m0:Nat)(ρ:Nat->Nat)(V A:Nat->Prop)(s1:WSt)(s1':St)(ρ':Nat->Nat)(V' A':Nat->Prop):Prop where
 sim:Sim ρ' V' A' s1 s1'
 kX:base<=s1.next
 old:Old base ρ V A ρ' V' A'
 hi:Hi base m0 ρ' V' A'
section
variable {C:aJ}{run:tK}{run':Run}{base m0:Nat}
theorem Res.canon{ρ:Nat->Nat}{V A:Nat->Prop}{s1 s2:WSt}{s1' s2':St}{ρ':Nat->Nat}{V' A':Nat->Prop}(R:Res base m0 ρ V A s1 s1' ρ' V' A'){a:Ann}(hc:canon base a s1=some s2)
 (hs:s2'=s1'\/s2'=iK (uo a) s1'):∃ρ' V' A',Res base m0 ρ V A s2 s2' ρ' V' A':=by
 obtain⟨ρ2,V2,A2,S2,b2,o2,n2⟩:=aaF R.sim R.kX hc hs;refine⟨ρ2,V2,A2,S2,b2,R.old.trans o2,λb h1 h2 h3=>?_⟩;obtain⟨c,c1,c2,c3,c4⟩:=n2 b h1 h2;rw[c3];exact R.hi c c1 c2 (c4 h3)
theorem Res.frz{ρ:Nat->Nat}{V A:Nat->Prop}{k:Nat}{s1 s2:WSt}{s1':St}{ρ':Nat->Nat}{V' A':Nat->Prop}(R:Res base m0 ρ V A s1 s1' ρ' V' A')(hc:sS k s1=some s2) :
 ∃s2',Hz k s1'=some s2'/\s2'.next=s1'.next/\Res base m0 ρ V A s2 s2' ρ' V' A':=by
 obtain⟨v,hv,hc⟩:=aA hc;obtain⟨x,hx,rfl⟩:=aH hc;obtain⟨u,hu,hr⟩:=R.sim.env k v hv;obtain⟨y,hy,hd⟩:=JR R.sim.heap _ _ _ _ hr hx;have hm:=vZ R.sim.heap (aQ s1.heap aC v) (reach s1'.heap aC u) (λb' hb'=>La R.sim.heap _ _ _ _ hr hx b' hb');refine⟨⟨dO s1'.env (some k) y,aS s1'.heap (aY s1'.heap (reach s1'.heap aC u)),s1'.next⟩,by simp only[Hz,hu,ob,hy,om],rfl,⟨?_,R.kX,R.old,R.hi⟩⟩;exact⟨R.sim.srt.dO (some k) x,R.sim.env.dO (d:=some k) (hd.mono λ_ q=>q.elim),hm.1,R.sim.lt⟩
theorem Res.ZJ{ρ:Nat->Nat}{V A:Nat->Prop}{ρ':Nat->Nat}{V' A':Nat->Prop}:∀(l:List Nat) {s1 s2:WSt}{s1':St},Res base m0 ρ V A s1 s1' ρ' V' A'->mM l s1=some s2 ->
 ∃s2',lI l s1'=some s2'/\s2'.next=s1'.next/\Res base m0 ρ V A s2 s2' ρ' V' A'
 |[],s1,s2,s1',R,h=>by simp only[mM,qwq]at h;subst h;exact⟨s1',rfl,rfl,R⟩
 |k::l,s1,s2,s1',R,h=>by simp only[mM]at h;obtain⟨s3,h1,h2⟩:=aA h;obtain⟨s3',h3,e3,R3⟩:=R.frz h1;obtain⟨s2',h4,e4,R4⟩:=Res.ZJ l R3 h2;exact⟨s2',by simp only[lI,h3,ob];exact h4,e4.trans e3,R4⟩
theorem Keeps.old{ρ:Nat->Nat}{V A:Nat->Prop}{ρ':Nat->Nat}{V' A':Nat->Prop}(k:Keeps ρ V A ρ' V' A')(hn:∀b,b<base->A' b->A b):Old base ρ V A ρ' V' A':=λb hb=>⟨k b,hn b hb⟩
theorem ai9(hr:zO run run'):∀(l:List bn) (s s1:WSt),(l.all λo=>jd o.op)=true->gY C run l s=some s1->∀(s':St) (ρ:Nat->Nat) (V A:Nat->Prop),Sim ρ V A s s'->base<=s.next->Hi base m0 ρ V A->m0<=s'.next ->
 ∃s1' ρ' V' A',lX (fK C) run' (l.map tX) s'=some s1'/\Res base m0 ρ V A s1 s1' ρ' V' A'/\m0<=s1'.next:=by
 intro l;induction l with
 |nil=>intro s s1 _ he s' ρ V A S hb hi hm;simp only[gY,qwq]at he;subst he;exact⟨s',ρ,V,A,rfl,⟨S,hb,Old.refl base ρ V A,hi⟩,hm⟩
 |cons o l ih=>
  intro s s1 hok he s' ρ V A S hb hi hm;simp only[qYj,qwz]at hok;simp only[gY]at he;obtain⟨d,h1,he⟩:=aA he;have lt':Lts ρ V A (s.next+1) (s'.next+1):=⟨λb hb=>qix (S.lt.w b hb),λb hb hv=>qix (S.lt.p b hb hv)⟩;obtain⟨d',ρ1,V1,A1,h2,O⟩:=aeM hr S.env S.heap lt' (nid:=s.next) (mid:=s'.next) (λq=>qpz _ (S.lt.w _ q)) (qtz _) (λb hb hv=>q7q (S.lt.p b hb hv)) (qtz _) hok.1 h1;have S1:Sim ρ1 V1 A1 ⟨fC s.env o.dst d.v,d.h,d.n⟩ ⟨dO s'.env o.dst d'.v,d'.h,d'.n⟩:=⟨S.srt.dO _ _,(S.env.mono O.keeps).dO O.v,O.h,O.lt⟩;have hi1:Hi base m0 ρ1 V1 A1:=by
   intro b q1 q2 q3;rcases O.aiT b q1 q2 with⟨q4,q5⟩ | q4 | q4
   ·rw[q5];exact hi b q4 (λq=>q2 ((O.keeps b q4).2.2.2 q)) q3
   ·omega
   ·omega
  have hb1:base<=d.n:=by have:=O.next;omega
  have hm1:m0<=d'.n:=by have:=O.YQ;omega
  obtain⟨s1',ρ2,V2,A2,h3,R,h4⟩:=ih ⟨fC s.env o.dst d.v,d.h,d.n⟩ s1 hok.2 he _ ρ1 V1 A1 S1 hb1 hi1 hm1;have o1:Old base ρ V A ρ1 V1 A1:=Keeps.old O.keeps λb hbb hA=>by
   rcases O.new b hA with q | q | q
   ·exact q
   ·omega
   ·omega
  refine⟨s1',ρ2,V2,A2,?_,⟨R.sim,R.kX,o1.trans R.old,R.hi⟩,h4⟩;simp only[qvj,lX];have:(tX o).dst=o.dst:=rfl;rw[h2];simp only[ob,this];exact h3
def mF(ρ:Nat->Nat)(V A:Nat->Prop)(m1 m2:Nat)(d:jH)(d':Did):Prop :=(d'.bar=true->d.bar=true/\d.wr=[])/\(∀b∈d'.rd,∃c∈d.rd,b=ρ c/\¬V c/\A c)/\(∀b∈d'.wr,(∃c∈XY d,b=ρ c/\¬V c/\A c)\/∃k w,d.bar=true/\d.wr=k::w/\m1<=b/\b<m2/\∀c,A c->¬V c->ρ c=b->k<=c)
theorem mF.mono{ρ ρ':Nat->Nat}{V A V' A':Nat->Prop}{m1 m2 m2' mid:Nat}{d:jH}{d':Did}(h:mF ρ V A m1 m2 d d')(k:Keeps ρ V A ρ' V' A')(hm:m2<=m2')(hmid:mid<m1)
 (hnew:∀b,A' b->¬V' b->(A b/\ρ' b=ρ b)\/ρ' b=mid\/m2<=ρ' b):mF ρ' V' A' m1 m2' d d':=by
 refine⟨h.1,λb hb=>?_,λb hb=>?_⟩
 ·obtain⟨c,h1,h2,h3,h4⟩:=h.2.1 b hb;obtain⟨k1,k2,k3⟩:=k c h4;exact⟨c,h1,by rw[k2];exact h2,λq=>h3 (k3.1 q),k1⟩
 ·rcases h.2.2 b hb with⟨c,h1,h2,h3,h4⟩|⟨j,w,h1,h2,h3,h4,h5⟩
  ·obtain⟨k1,k2,k3⟩:=k c h4;exact .inl ⟨c,h1,by rw[k2];exact h2,λq=>h3 (k3.1 q),k1⟩
  ·refine .inr ⟨j,w,h1,h2,h3,by omega,λc hA hV hc=>?_⟩;rcases hnew c hA hV with⟨q1,q2⟩ | q | q
   ·exact h5 c q1 (λq=>hV ((k c q1).2.2.2 q)) (by rw[<- q2];exact hc)
   ·omega
   ·omega
theorem Dn{ρ:Nat->Nat}{V A:Nat->Prop}(inj:∀b c,A b->A c->¬V b->¬V c->ρ b=ρ c->b=c){a b:List Nat}{a' b':List Nat}
 (ha:∀x∈a',∃c∈a,x=ρ c/\¬V c/\A c) (hb:∀x∈b',∃c∈b,x=ρ c/\¬V c/\A c) (h:meets a' b'=true):meets a b=true:=by
 simp only[meets,qaq,qkj]at h |-;obtain⟨x,hx,y,hy,rfl⟩:=h;obtain⟨c,h1,h2,h3,h4⟩:=ha x hx;obtain⟨d,h5,h6,h7,h8⟩:=hb x hy;have:=inj c d h4 h8 h3 h7 (h2.symm.trans h6);subst this;exact⟨c,h1,c,h5,rfl⟩
theorem aex{ρ:Nat->Nat}{V A:Nat->Prop}(inj:∀b c,A b->A c->¬V b->¬V c->ρ b=ρ c->b=c){m1 m2:Nat}{a b:jH}{a' b':Did}(ha:mF ρ V A m1 m2 a a')(hb:mF ρ V A m1 m2 b b')(h:WX a b=false):clash a' b'=false:=by
 have nt:∀{x y:Bool},(x=true->y=true)->y=false->x=false:=by intro x y q1 q2;cases x<;>simp_all
 have plain:∀{d:jH}{d':Did},mF ρ V A m1 m2 d d'->d.bar=false->d'.bar=false/\∀b∈d'.wr,∃c∈d.wr,b=ρ c/\¬V c/\A c:=by
  intro d d' hd hq;refine⟨?_,λb hb=>?_⟩
  ·cases q:d'.bar with
   |false=>rfl
   |true=>rw[(hd.1 q).1]at hq;cases hq
  ·rcases hd.2.2 b hb with⟨c,q1,q2⟩|⟨_,_,q,_⟩
   ·unfold XY at q1;rw[hq]at q1;exact⟨c,q1,q2⟩
   ·rw[hq]at q;cases q
 have deep:∀{d e:jH}{d' e':Did},mF ρ V A m1 m2 d d'->mF ρ V A m1 m2 e e'->d.bar=true->e.bar=false->WE d.rd d.wr e.rd e.wr=false ->
  d'.bar=false/\e'.bar=false/\meets d'.wr e'.wr=false/\meets d'.wr e'.rd=false/\meets d'.rd e'.wr=false:=by
  intro d e d' e' hd he hdb heb hh;unfold WE at hh;cases hw:d.wr with
  |nil=>rw[hw]at hh;cases hh
  |cons k w=>
   rw[hw]at hh;simp only[qXq]at hh;obtain⟨g1,g2,g3,g4⟩:=hh;obtain⟨p1,p2⟩:=plain he heb;have g1':∀c∈e.rd++e.wr,¬k<=c:=by intro c hc q;have:=zwq.1 g1 c hc;simp[q]at this
   have key:∀(l l':List Nat),(∀x∈l',∃c∈l,x=ρ c/\¬V c/\A c)->(∀c∈l,¬k<=c)->meets w l=false->meets d'.wr l'=false:=by
    intro l l' h1 h2 h3;cases q:meets d'.wr l' with
    |false=>rfl
    |true=>
     exfalso;simp only[meets,qaq,qkj]at q;obtain⟨x,hx,y,hy,rfl⟩:=q;obtain⟨c,c1,c2,c3,c4⟩:=h1 x hy;rcases hd.2.2 x hx with⟨c',q1,q2,q3,q4⟩|⟨k',w',q1,q2,q3,q4,q5⟩
     ·unfold XY at q1;rw[hdb,hw]at q1;simp only[List.tail_cons]at q1;have:=inj c c' c4 q4 c3 q3 (c2.symm.trans q2);subst this;have:meets w l=true:=by simp only[meets,qaq,qkj];exact⟨c,q1,c,c1,rfl⟩
      rw[h3]at this;cases this
     ·rw[hw]at q2;cases q2;exact h2 c c1 (q5 c c4 c3 c2.symm)
   refine⟨?_,p1,key _ _ p2 (λc hc=>g1' c (by simp[hc])) g2,key _ _ he.2.1 (λc hc=>g1' c (by simp[hc])) g3,?_⟩
   ·cases q:d'.bar with
    |false=>rfl
    |true=>rw[(hd.1 q).2]at hw;cases hw
   ·cases q:meets d'.rd e'.wr with
    |false=>rfl
    |true=>rw[Dn inj hd.2.1 p2 q]at g4;cases g4
 have msym:∀a b:List Nat,meets a b=meets b a:=by
  intro a b;cases q:meets a b with
  |true=>symm;simp only[meets,qaq,qkj]at q |-;obtain⟨x,h1,y,h2,h3⟩:=q;exact⟨y,h2,x,h1,h3.symm⟩
  |false=>
   symm;cases p:meets b a with
   |false=>rfl
   |true=>
    exfalso;simp only[meets,qaq,qkj]at p;obtain⟨x,h1,y,h2,h3⟩:=p;have:meets a b=true:=by simp only[meets,qaq,qkj];exact⟨y,h2,x,h1,h3.symm⟩
    rw[q]at this;cases this
 have qt:∀{d:jH}{d':Did},mF ρ V A m1 m2 d d'->Ei d=true->quiet d'=true:=by
  intro d d' hd hq;simp only[Ei,qwz,qbz,qfx]at hq;simp only[quiet,qwz,qbz,qfx];refine⟨(plain hd hq.1).1,?_,?_⟩
  ·cases hw:d'.wr with
   |nil=>rfl
   |cons b r=>obtain⟨c,h1,_⟩:=(plain hd hq.1).2 b (by rw[hw];exact qVx);rw[hq.2.1]at h1;cases h1
  ·cases hw:d'.rd with
   |nil=>rfl
   |cons b r=>obtain⟨c,h1,_⟩:=hd.2.1 b (by rw[hw];exact qVx);rw[hq.2.2]at h1;cases h1
 unfold WX at h;unfold clash;cases qa:Ei a with
 |true=>rw[qt ha qa];simp
 |false=>
  cases qb:Ei b with
  |true=>rw[qt hb qb];simp
  |false=>
   rw[qa,qb]at h;simp only[Bool.or_self,q8x,qlx]at h;cases ab:a.bar with
   |true=>rw[ab,qzq rfl,qXq]at h;obtain⟨d1,d2,d3,d4,d5⟩:=deep ha hb ab h.1 h.2;rw[d1,d2,d3,d4,d5];simp
   |false=>
   cases bb:b.bar with
   |true=>rw[ab,bb,qwx qqz,qzq rfl]at h;obtain⟨d1,d2,d3,d4,d5⟩:=deep hb ha bb ab h;rw[d1,d2,msym,d3,msym a'.wr,d5,msym a'.rd,d4];simp
   |false=>
   rw[ab,bb,qwx qqz,qwx qqz]at h;simp only[qXq]at h;obtain⟨h3,h4,h5⟩:=h;obtain⟨h1,ha2⟩:=plain ha ab;obtain⟨h2,hb2⟩:=plain hb bb;have e:(a'.bar||(b'.bar||(meets a'.wr b'.wr||(meets a'.wr b'.rd||meets a'.rd b'.wr))))=false:=by simp only[qXq];exact⟨h1,h2,nt (Dn inj ha2 hb2) h3,nt (Dn inj ha2 hb.2.1) h4,nt (Dn inj ha.2.1 hb2) h5⟩
   rw[e,q9z]
theorem aeB(hr:zO run run'):∀(l:List bn) (nid:Nat) (s s1:WSt) (ds ds1:List jH),(l.all λo=>jd o.op)=true->eU C run l nid s ds=some (s1,ds1) ->
 ∀(mid:Nat) (s':St) (ds':List Did) (ρ:Nat->Nat) (V A:Nat->Prop),Sim ρ V A s s'->base<=nid->nid+l.length<=s.next->(∀b,A b->b<nid\/nid+l.length<=b)->Hi base m0 ρ V A->m0<=mid->mid+l.length<=s'.next ->
  (∀b,A b->¬V b->ρ b<mid\/mid+l.length<=ρ b)->∀R:Nat,mid+l.length<=R->R<=s'.next->bF (mF ρ V A R s'.next) ds ds' ->
 ∃s1' ds1' ρ' V' A',pO (fK C) run' (l.map tX) mid s' ds'=some (s1',ds1')/\Res base m0 ρ V A s1 s1' ρ' V' A'/\m0<=s1'.next/\bF (mF ρ' V' A' R s1'.next) ds1 ds1':=by
 intro l;induction l with
 |nil=>intro nid s s1 ds ds1 _ he mid s' ds' ρ V A S hb hnl _ hi hm hml _ R hR1 hR2 hds;simp only[eU,qwq,qjx]at he;obtain⟨rfl,rfl⟩:=he;simp only[qJx]at hnl hml;exact⟨s',ds',ρ,V,A,rfl,⟨S,by omega,Old.refl base ρ V A,hi⟩,by omega,hds⟩
 |cons o l ih=>
  intro nid s s1 ds ds1 hok he mid s' ds' ρ V A S hb hnl hgap hi hm hml hgap' R hR1 hR2 hds;simp only[qYj,qwz]at hok;simp only[qQx]at hnl hml hgap hgap' hR1;simp only[eU]at he;obtain⟨d,h1,he⟩:=aA he;have hn:¬A nid:=λq=>by rcases hgap nid q with q | q<;>omega
  obtain⟨d',ρ1,V1,A1,h2,O⟩:=aeM hr S.env S.heap S.lt (nid:=nid) (mid:=mid) hn qqq (λb hbb hv=>by rcases hgap' b hbb hv with q | q<;>omega) qqq hok.1 h1;have S1:Sim ρ1 V1 A1 ⟨fC s.env o.dst d.v,d.h,d.n⟩ ⟨dO s'.env o.dst d'.v,d'.h,d'.n⟩:=⟨S.srt.dO _ _,(S.env.mono O.keeps).dO O.v,O.h,O.lt⟩;have hi1:Hi base m0 ρ1 V1 A1:=by
   intro b q1 q2 q3;rcases O.aiT b q1 q2 with⟨q4,q5⟩ | q4 | q4
   ·rw[q5];exact hi b q4 (λq=>q2 ((O.keeps b q4).2.2.2 q)) q3
   ·omega
   ·omega
  have hds1:bF (mF ρ1 V1 A1 R d'.n) (ds++[d]) (ds'++[d']):=(hds.mono λx y _ hxy=>hxy.mono O.keeps O.YQ qqq O.aiT).append (.cons ⟨O.bar,O.rd,λb hb=>by
   rcases O.wr b hb with q|⟨k,w,q1,q2,q3,q4,q5⟩
   ·exact .inl q
   ·exact .inr ⟨k,w,q1,q2,by omega,q4,q5⟩⟩ .nil)
  obtain⟨s1',ds1',ρ2,V2,A2,h3,R,h4,h5⟩:=ih (nid+1) ⟨fC s.env o.dst d.v,d.h,d.n⟩ s1 (ds++[d]) ds1 hok.2 he (mid+1) _ (ds'++[d']) ρ1 V1 A1 S1 qqq (by have:=O.next;simp only;omega)
   (λb hbb=>by
    rcases O.new b hbb with q | q | q
    ·rcases hgap b q with q | q<;>omega
    ·omega
    ·omega) hi1 qqq (by have:=O.YQ;simp only;omega)
   (λb hbb hv=>by
    rcases O.aiT b hbb hv with⟨q,q5⟩ | q | q
    ·rw[q5];rcases hgap' b q (λq6=>hv ((O.keeps b q).2.2.2 q6))with q | q<;>omega
    ·omega
    ·omega) R qqq (by have:=O.YQ;simp only;omega) hds1
  have o1:Old base ρ V A ρ1 V1 A1:=Keeps.old O.keeps λb hbb hA=>by
   rcases O.new b hA with q | q | q
   ·exact q
   ·omega
   ·omega
  refine⟨s1',ds1',ρ2,V2,A2,?_,⟨R.sim,R.kX,o1.trans R.old,R.hi⟩,h4,h5⟩;simp only[qvj,pO];have:(tX o).dst=o.dst:=rfl;rw[h2];simp only[ob,this];exact h3
theorem ae7{ρ:Nat->Nat}{V A:Nat->Prop}(inj:∀b c,A b->A c->¬V b->¬V c->ρ b=ρ c->b=c){m1 m2:Nat}{ds:List jH}{ds':List Did}(h:bF (mF ρ V A m1 m2) ds ds'){p:Nat×Nat}(ha:KD ds p=true):apart ds' p=true:=by
 unfold KD at ha;split at ha
 ·rename_i a b h1 h2;obtain⟨a',h3,h4⟩:=h.get h1;obtain⟨b',h5,h6⟩:=h.get h2;unfold apart;rw[h3,h5];simp only[qbz]at ha |-;exact aex inj h4 h6 ha
 ·cases ha
def G7(C:aJ)(k:Nat):Prop :=
 ∀(base:Nat) (c:aB) (s:WSt) (ex:Ex) (s1:WSt),okC c=true->evW C k base c s=some (ex,s1)->∀(m0:Nat) (s':St) (ρ:Nat->Nat) (V A:Nat->Prop),Sim ρ V A s s'->base<=s.next->Hi base m0 ρ V A->m0<=s'.next ->
  ∃s1' ρ' V' A',evC (fK C) k (erC c) s'=some (ex,s1')/\Res base m0 ρ V A s1 s1' ρ' V' A'/\m0<=s1'.next
theorem Yi:∀l:List AV,(erL l).length=l.length
 |[]=>rfl
 |_::r=>by simp only[erL,qQx,Yi r]
theorem ah0{j:Nat}{s:WSt}{s':St}{ρ:Nat->Nat}{V A:Nat->Prop}(S:Sim ρ V A s s')(hb:base<=s.next)(hi:Hi base m0 ρ V A)(hm:m0<=s'.next){z b:Nat}{xe:Bool}{zz:List AV}{u:AV}(hu:get s'.env 0=some u)(hr:VW ρ V A (.ro z [] xe) u)(hl:zz.length=z) :
 ∃s1' ρ' V' A',evC (fK C) (j+8+1) (ajg zz b) s'=some (.ret,s1') /\
  Res base m0 ρ V A ⟨[(2,.sl s.next z 0 0 0 true)],put s.heap s.next (.cells z [] true true),s.next+1⟩ s1' ρ' V' A'/\m0<=s1'.next:=by
 have hn:¬A s.next:=λq=>qpz _ (S.lt.w _ q)
 obtain⟨e0,h0,m⟩:=s';simp only at hu hm;have hmo:∀b,A b->addN A s.next b/\ρ b=ρ b/\((V b\/b=s.next)↔V b):=λb q=>⟨.inl q,rfl,⟨λh=>h.elim id λe=>absurd (e ▸ q) hn,.inl⟩⟩
 cases hr with
 |jh=>
  refine⟨⟨put (put (put (put e0 2 .bG) 3 .bG) 4 (.bool true)) 2 .bG,h0,m+4⟩,ρ,λb=>V b\/b=s.next,addN A s.next,?_,⟨⟨by simp[Srt],?_,⟨?_,?_,?_,?_,?_⟩,⟨?_,?_⟩⟩,Nat.le_succ_of_le hb,?_,?_⟩,qeq hm (qrq _ _)⟩
  ·simp[ajg,evC,lX,jI,wants,jr,callOf,aP,sMv,Kq,iJ,XQ,Opd.ev,ob,om,get_put,dO,hu,kL,lI,iK,cO,uj,aS]
  ·intro k v hk;simp only[Pav.get]at hk;split at hk
   ·rename_i e;subst e;cases hk;exact⟨.bG,by simp[get_put],.slv _ _ _ _ (.inr rfl) (.inr rfl) (.inl rfl)⟩
   ·cases hk
  ·intro b o hbo;rw[get_put]at hbo;split at hbo
   ·rename_i e;exact .inr e.symm
   ·exact .inl (S.heap.dom b o hbo)
  ·intro b o hbo hv;rw[get_put]at hbo;split at hbo
   ·cases hbo;exact⟨z,true,true,rfl⟩
   ·rename_i e;exact S.heap.uG b o hbo (hv.resolve_right λq=>e q.symm)
  ·intro b o hbo hv;rw[get_put]at hbo;split at hbo
   ·rename_i e;exact absurd (.inr e.symm) hv
   ·obtain⟨o',h1,h2⟩:=S.heap.obj b o hbo (λq=>hv (.inl q));exact⟨o',h1,h2.mono hmo⟩
  ·rintro b (q | q)
   ·exact .inl (S.heap.sub b q)
   ·exact .inr q
  ·rintro b c hb hc vb vc;exact S.heap.inj b c (hb.resolve_right λq=>vb (.inr q)) (hc.resolve_right λq=>vc (.inr q)) (λq=>vb (.inl q)) (λq=>vc (.inl q))
  ·rintro b (q | q)
   ·exact qix (S.lt.w b q)
   ·subst q;exact qtz _
  ·intro b q v;have:=S.lt.p b (q.resolve_right λe=>v (.inr e)) (λe=>v (.inl e));simp only at this |-;omega
  ·intro b hbb;have hne:b≠s.next:=by omega
   exact⟨λq=>hmo b q,λq=>q.resolve_right hne⟩
  ·intro b q v hbb;exact hi b (q.resolve_right λe=>v (.inr e)) (λe=>v (.inl e)) hbb
 |ro _ _ es' _ ex' hc hl2 hx he hr=>
  have:es'=[]:=qZq.1 hl2.symm;subst this;have hne:∀b,A b->¬V b->ρ b≠m+3:=λb q v e=>by have:=S.lt.p b q v;simp only at this;omega
  refine⟨⟨put (put (put (put (put (put (put e0 2 .bG) 3 (.ro z [] ex')) 4 (.bool false)) 5 (.sl (m+3) z 0 0 0 true)) 6 (.ro z [] ex')) 7 (.sl (m+3) z 0 0 0 true)) 2 (.sl (m+3) z 0 0 0 true),put h0 (m+3) (.cells z [] true),m+7⟩,up ρ s.next (m+3),V,addN A s.next,?_, ⟨⟨by simp[Srt],?_,qm S.heap hn hne ⟨[],true,rfl,λh=>h,.nil,λ_ e he=>by cases he⟩,⟨?_,?_⟩⟩,Nat.le_succ_of_le hb,?_,?_⟩,qeq hm (qrq _ _)⟩
  ·simp[ajg,evC,lX,jI,wants,jr,callOf,aP,sMv,Kq,iJ,XQ,DY,lG,VZ,elems,kQ,uZ,Opd.ev,ob,om,get_put,dO,hu,hl,kL,lI,iK,cO,uj,aS]
  ·intro k v hk;simp only[Pav.get]at hk;split at hk
   ·rename_i e;subst e;cases hk;refine⟨.sl (m+3) z 0 0 0 true,by simp[get_put],?_⟩;have:up ρ s.next (m+3) s.next=m+3:=by simp[up]
    have key:=VW.sl (ρ:=up ρ s.next (m+3)) (V:=V) (A:=addN A s.next) s.next z 0 0 0 true true (.inr rfl) (λq=>hn (S.heap.sub _ q)) (λh=>h)
    rw[this]at key;exact key
   ·cases hk
  ·rintro b (q | q)
   ·exact qix (S.lt.w b q)
   ·subst q;exact qtz _
  ·intro b q v;unfold up;split
   ·simp
   ·rename_i e;have:=S.lt.p b (q.resolve_right e) v;simp only at this |-;omega
  ·intro b hbb;have hne2:b≠s.next:=by omega
   exact⟨λq=>qZ hn b q,λq=>q.resolve_right hne2⟩
  ·intro b q v hbb;unfold up;split
   ·omega
   ·rename_i e;exact hi b (q.resolve_right e) v hbb
theorem acZ{k:Nat}(ih:G7 C k)(hr:zO (dR C (evW C k)) (runWith (fK C) (evC (fK C) k))):G7 C (k+1):=by
 intro base c s ex s1 hok he m0 s' ρ V A S hb hi hm;cases c with
 |skip=>simp only[evW,qwq,qjx]at he;obtain⟨rfl,rfl⟩:=he;exact⟨s',ρ,V,A,rfl,⟨S,hb,Old.refl base ρ V A,hi⟩,hm⟩
 |exit id=>simp only[evW,qwq,qjx]at he;obtain⟨rfl,rfl⟩:=he;exact⟨s',ρ,V,A,rfl,⟨S,hb,Old.refl base ρ V A,hi⟩,hm⟩
 |ret=>simp only[evW,qwq,qjx]at he;obtain⟨rfl,rfl⟩:=he;exact⟨s',ρ,V,A,rfl,⟨S,hb,Old.refl base ρ V A,hi⟩,hm⟩
 |fail=>simp[evW]at he
 |zx k0=>simp only[evW]at he;obtain⟨v,h1,he⟩:=aH he;simp only[qjx]at he;obtain⟨rfl,rfl⟩:=he;obtain⟨h2,hv⟩:=agu S.env h1;exact⟨⟨put s'.env 9 v,s'.heap,s'.next⟩,ρ,V,A,by simp only[erC,evC,h2,om],⟨⟨S.srt.put _ _,S.env.put hv,S.heap,S.lt⟩,hb,Old.refl base ρ V A,hi⟩,hm⟩
 |cln zz z b=>
  simp only[evW]at he;split at he
  ·rename_i z' hz;split at he
   ·rename_i hc;obtain⟨rfl,hzz,hk⟩:=hc;simp only[qwq,qjx]at he;obtain⟨rfl,rfl⟩:=he;obtain⟨x,hx,hx2⟩:=qzz.1 hz;obtain⟨j,rfl⟩:∃j,k=j+8:=⟨k-8,by omega⟩;obtain⟨u,hu,hr⟩:=S.env 0 x hx;obtain⟨xe,hxe⟩:∃e,x=.ro z' [] e:=by
     unfold jG at hx2;split at hx2
     ·cases hx2;exact⟨_,rfl⟩
     ·cases hx2
    subst hxe;have hl:(erL zz).length=z':=by rw[Yi];exact hzz
    exact ah0 S hb hi hm hu hr hl
   ·cases he
  ·obtain⟨s1',ρ1,V1,A1,h3,R,h4⟩:=ih base (Tq zz z b) s ex s1 (by simpa [okC,Tq,jd,okO,okV,okL]using hok) he m0 s' ρ V A S hb hi hm;exact⟨s1',ρ1,V1,A1,pU k (k+1) (zvq k) _ _ _ h3,R,h4⟩
 |ops l a=>simp only[evW]at he;obtain⟨s2,h1,he⟩:=aA he;obtain⟨s3,h2,he⟩:=aH he;cases he;obtain⟨s1',ρ1,V1,A1,h3,R,h4⟩:=ai9 hr l s s2 hok h1 s' ρ V A S hb hi hm;obtain⟨s2b,h2b,h2⟩:=aA h2;obtain⟨s2b',h5,e5,R5⟩:=R.ZJ _ h2b;obtain⟨ρ2,V2,A2,R2⟩:=R5.canon h2 (.inr rfl);exact⟨_,ρ2,V2,A2,by simp only[erC,evC,h3,ob,kL,h5,om],R2,by rw[<- e5]at h4;exact h4⟩
 |draw l un a=>
  simp only[evW]at he;obtain⟨⟨s2,ds⟩,h1,he⟩:=aA he;unfold sZ at he;split at he
  ·rename_i hap;obtain⟨s3,h2,he⟩:=aH he;cases he;have S0:Sim ρ V A ⟨s.env,s.heap,s.next+l.length⟩ ⟨s'.env,s'.heap,s'.next+l.length⟩:=⟨S.srt,S.env,S.heap,λb q=>qZx (S.lt.w b q) (qrq _ _),λb q v=>qZx (S.lt.p b q v) (qrq _ _)⟩;obtain⟨s1',ds1',ρ1,V1,A1,h3,R,h4,h5⟩:=aeB hr l s.next _ s2 [] ds hok h1 s'.next _ [] ρ V A S0 hb (qxx _) (λb q=>.inl (S.lt.w b q)) hi hm (qxx _) (λb q v=>.inl (S.lt.p b q v)) (s'.next+l.length) (qxx _) (qxx _) .nil
   obtain⟨s2b,h2b,h2⟩:=aA h2;obtain⟨s2b',h6,e6,R6⟩:=R.ZJ _ h2b;obtain⟨ρ2,V2,A2,R2⟩:=R6.canon h2 (.inr rfl);refine⟨_,ρ2,V2,A2,?_,R2,by rw[<- e6]at h4;exact h4⟩;simp only[erC,evC,qQj];rw[h3];simp only[ob,Dp,kL,h6,om];rw[qzq];simp only[qkz]at hap |-;exact λp hp=>ae7 R.sim.heap.inj h5 (hap p hp)
  ·cases he
 |seq a b=>
  simp only[okC,qwz]at hok;simp only[evW]at he;obtain⟨⟨e1,s2⟩,h1,he⟩:=aA he;obtain⟨s1',ρ1,V1,A1,h3,R,h4⟩:=ih base a s e1 s2 hok.1 h1 m0 s' ρ V A S hb hi hm;cases e1 with
  |norm=>simp only[eP]at he;obtain⟨s2',ρ2,V2,A2,h5,R2,h6⟩:=ih base b s2 ex s1 hok.2 he m0 s1' ρ1 V1 A1 R.sim R.kX R.hi h4;exact⟨s2',ρ2,V2,A2,by simp only[erC,evC,h3,ob,cO,h5],⟨R2.sim,R2.kX,R.old.trans R2.old,R2.hi⟩,h6⟩
  |exit id=>simp only[eP,qwq,qjx]at he;obtain⟨rfl,rfl⟩:=he;exact⟨s1',ρ1,V1,A1,by simp only[erC,evC,h3,ob,cO],R,h4⟩
  |ret=>simp only[eP,qwq,qjx]at he;obtain⟨rfl,rfl⟩:=he;exact⟨s1',ρ1,V1,A1,by simp only[erC,evC,h3,ob,cO],R,h4⟩
 |cond c a b=>
  simp only[okC,qwz]at hok;simp only[evW]at he;have hc:=S.env.opd hok.1;unfold rH at he;split at he
  ·rename_i t ht;rw[ht]at hc;cases t with
   |true=>simp only[qyx]at he;obtain⟨s1',ρ1,V1,A1,h3,R,h4⟩:=ih base a s ex s1 hok.2.1 he m0 s' ρ V A S hb hi hm;exact⟨s1',ρ1,V1,A1,by simp only[erC,evC,hc.fU,uj,qyx];exact h3,R,h4⟩
   |false=>simp only[qxj,qWq]at he;obtain⟨s1',ρ1,V1,A1,h3,R,h4⟩:=ih base b s ex s1 hok.2.2 he m0 s' ρ V A S hb hi hm;exact⟨s1',ρ1,V1,A1,by simp only[erC,evC,hc.fU,uj,qxj,qWq];exact h3,R,h4⟩
  ·cases he
 |block id b a=>
  simp only[okC]at hok;simp only[evW]at he;obtain⟨⟨e1,s2⟩,h1,he⟩:=aA he;obtain⟨s1',ρ1,V1,A1,h3,R,h4⟩:=ih base b s e1 s2 hok h1 m0 s' ρ V A S hb hi hm;cases e1 with
  |norm=>simp only[jC]at he;obtain⟨s3,h5,he⟩:=aH he;cases he;obtain⟨ρ2,V2,A2,R2⟩:=R.canon h5 (.inl rfl);exact⟨s1',ρ2,V2,A2,by simp only[erC,evC,h3,om,dB],R2,h4⟩
  |exit i=>
   simp only[jC]at he;split at he
   ·rename_i hid;obtain⟨s3,h5,he⟩:=aH he;cases he;obtain⟨ρ2,V2,A2,R2⟩:=R.canon h5 (.inl rfl);exact⟨s1',ρ2,V2,A2,by simp only[erC,evC,h3,om,dB,qzq hid],R2,h4⟩
   ·rename_i hid;simp only[qwq,qjx]at he;obtain⟨rfl,rfl⟩:=he;exact⟨s1',ρ1,V1,A1,by simp only[erC,evC,h3,om,dB,qwx hid],R,h4⟩
  |ret=>simp only[jC,qwq,qjx]at he;obtain⟨rfl,rfl⟩:=he;exact⟨s1',ρ1,V1,A1,by simp only[erC,evC,h3,om,dB],R,h4⟩
 |loop a b=>
  have hok':okC b=true:=hok;simp only[evW]at he;obtain⟨s0,h0,he⟩:=aA he;obtain⟨⟨e1,s2⟩,h1,he⟩:=aA he;obtain⟨ρ0,V0,A0,R0⟩:=(⟨S,hb,Old.refl base ρ V A,hi⟩:Res base m0 ρ V A s s' ρ V A).canon h0 (s2':=iK (uo a) s') (.inr rfl);obtain⟨s1',ρ1,V1,A1,h3,R,h4⟩:=ih base b s0 e1 s2 hok' h1 m0 _ ρ0 V0 A0 R0.sim R0.kX R0.hi hm;have R':Res base m0 ρ V A s2 s1' ρ1 V1 A1:=⟨R.sim,R.kX,R0.old.trans R.old,R.hi⟩;cases e1 with
  |norm=>simp only[eP]at he;obtain⟨s2',ρ2,V2,A2,h5,R2,h6⟩:=ih base (.loop a b) s2 ex s1 hok he m0 s1' ρ1 V1 A1 R.sim R.kX R.hi h4;exact⟨s2',ρ2,V2,A2,by simp only[erC,evC,h3,ob,cO];exact h5,⟨R2.sim,R2.kX,R'.old.trans R2.old,R2.hi⟩,h6⟩
  |exit id=>simp only[eP,qwq,qjx]at he;obtain⟨rfl,rfl⟩:=he;exact⟨s1',ρ1,V1,A1,by simp only[erC,evC,h3,ob,cO],R',h4⟩
  |ret=>simp only[eP,qwq,qjx]at he;obtain⟨rfl,rfl⟩:=he;exact⟨s1',ρ1,V1,A1,by simp only[erC,evC,h3,ob,cO],R',h4⟩
theorem J3{ρ:Nat->Nat}{V A:Nat->Prop}{e:Env}{e':Env}{h:aI}{h':Heap}(he:EW ρ V A e e')(H:HW ρ V A h h'){rs:List vN}{v:AV}(hv:KF e h rs=some v):∃v',Pav.results e' h' rs=some v'/\VW ρ V A v v':=by
 obtain⟨vs,h1,rfl⟩:=aH hv;have one:∀r x,Ej e h r=some x->∃x',FN e' h' r=some x'/\VW ρ V A x x':=by
  intro r x hx;cases r with
  |tmp t=>exact he t x hx
  |cell t k ag=>
   simp only[Ej]at hx;split at hx
   ·rename_i b i o hg;obtain⟨p,h2,h3⟩:=he t _ hg;obtain⟨rfl,hA,hV⟩:=h3.jk;unfold yP at hx;split at hx
    ·rename_i z es mu dt hgb;obtain⟨cs,h4,h5⟩:=aA hx;obtain⟨o',g1,es',mu',rfl,_,ge,_⟩:=H.obj b _ hgb hV;obtain⟨cs',h6,h7⟩:=ge.get h4;obtain⟨v',h8,h9⟩:=wz (h7.drop o) h5;exact⟨v',by simp only[FN,h2,g1,loadAt,h6,ob];exact h8,h9⟩
    ·cases hx
   ·cases hx
 have lst:∀(rs:List vN) (vs:List AV),aZ (Ej e h) rs=some vs->∃vs',aZ (FN e' h') rs=some vs'/\bF (VW ρ V A) vs vs':=by
  intro rs;induction rs with
  |nil=>intro vs hq;simp only[aZ,qwq]at hq;subst hq;exact⟨[],rfl,.nil⟩
  |cons r rs ih=>intro vs hq;simp only[aZ]at hq |-;obtain⟨x,h2,hq⟩:=aA hq;obtain⟨xs,h3,rfl⟩:=aH hq;obtain⟨x',h4,h5⟩:=one r x h2;obtain⟨xs',h6,h7⟩:=ih xs h3;exact⟨x'::xs',by rw[h4,h6];rfl,.cons h5 h7⟩
 obtain⟨vs',h2,h3⟩:=lst rs vs h1;refine⟨Et vs',by simp only[Pav.results,h2,om],?_⟩;cases vs with
 |nil=>rw[h3.fD];exact VW.lU .nil
 |cons a r=>
  obtain⟨b,t,rfl,h4,h5⟩:=h3.dI;cases r with
  |nil=>rw[h5.fD];exact h4
  |cons a2 r2=>obtain⟨b2,t2,rfl,h6,h7⟩:=h5.dI;exact VW.lU (.cons h4 (.cons h6 h7))
theorem WJ:∀(l:List AV) (k j:Nat),get (fF k l) j=if j<k then none else l[j-k]?:=by
 intro l;induction l with
 |nil=>intro k j;simp[fF,Pav.get]
 |cons a l ih=>
  intro k j;simp only[fF,Pav.get];by_cases h1:k=j
  ·subst h1;simp
  ·rw[qwx h1,ih];by_cases h2:j<k
   ·rw[qzq qqq,qzq h2]
   ·rw[qwx qqq,qwx h2];have:j-k=(j-(k+1))+1:=by omega
    rw[this];simp
theorem XO:∀(t:sO) (g:Nat),(EG t).get g=(t.get g).map aU:=by
 intro t;induction t with
 |leaf=>intro g;rfl
 |node l k f r ihl ihr=>
  intro g;simp only[EG,Tree.get,sO.get];split
  ·rfl
  ·split
   ·exact ihl g
   ·exact ihr g
theorem WC:∀(t:sO) (g:Nat) (f:WFn),uy t=true->t.get g=some f->okC f.body=true:=by
 intro t;induction t with
 |leaf=>intro g f _ h;simp[sO.get]at h
 |node l k f r ihl ihr=>
  intro g f' hok h;simp only[uy,qwz]at hok;simp only[sO.get]at h;split at h
  ·cases h;exact hok.2.1
  ·split at h
   ·exact ihl g f' hok.1 h
   ·exact ihr g f' hok.2.2 h
theorem Zx(hok:uy C.fns=true){k:Nat}(hc:G7 C k):zO (dR C (evW C k)) (runWith (fK C) (evC (fK C) k)):=by
 intro f args h n v h1 n1 hrun ρ V A args' h' m ha H lt;unfold dR at hrun;obtain⟨fn,hf,hrun⟩:=aA hrun;split at hrun
 ·rename_i hl;obtain⟨⟨ex,s1⟩,h2,h3⟩:=aA hrun;have S:Sim ρ V A ⟨Fh 0 args [],h,n⟩ ⟨fF 0 args',h',m⟩:=by
   refine⟨ahS args 0,λj x hj=>?_,H,lt⟩;have hj2:get (fF 0 args) j=some x:=by
    have hm:=get_mem hj;rw[YJ,qKz]at hm;have hm2:=qmj.1 hm;have key:∀(l:List AV) (k:Nat),(j,x)∈fF k l->get (fF k l) j=some x:=by
     intro l;induction l with
     |nil=>intro k hq;simp[fF]at hq
     |cons v l ih=>
      intro k hq;simp only[fF,Pav.get];rcases qjj.1 hq with q | q
      ·cases q;simp
      ·have:=(Un l (k+1)).2 _ q;simp only at this;rw[qwx qqq];exact ih (k+1) q
    exact key args 0 hm2
   simp only[WJ,Nat.not_lt_zero,qWq,zyx]at hj2 |-;exact ha.get hj2
  obtain⟨s1',ρ1,V1,A1,h4,R,h5⟩:=hc n fn.body _ ex s1 (WC _ _ _ hok hf) h2 m ⟨fF 0 args',h',m⟩ ρ V A S (qxx _) (λb hb _ hn=>absurd (lt.w b hb) qqq) (qxx _);have fin:∃v',Pav.results s1'.env s1'.heap fn.res=some v'/\VW ρ1 V1 A1 v v'/\s1.heap=h1/\s1.next=n1/\∀i,ex≠.exit i:=by
   unfold gX at h3;cases ex with
   |exit i=>cases h3
   |norm=>obtain⟨w,q1,q2⟩:=aH h3;cases q2;obtain⟨v',q3,q4⟩:=J3 R.sim.env R.sim.heap q1;exact⟨v',q3,q4,rfl,rfl,λi e=>by cases e⟩
   |ret=>obtain⟨w,q1,q2⟩:=aH h3;cases q2;obtain⟨v',q3,q4⟩:=J3 R.sim.env R.sim.heap q1;exact⟨v',q3,q4,rfl,rfl,λi e=>by cases e⟩
  obtain⟨v',h6,h7,rfl,rfl,h8⟩:=fin;refine⟨v',s1'.heap,s1'.next,ρ1,V1,A1,?_,h7,R.sim.heap,R.sim.lt,λb hb=>(R.old b (lt.w b hb)).1 hb,λb hb=>?_,λb hb hv=>?_,R.kX,h5⟩
  ·unfold runWith;have:(fK C).fns.get f=some (aU fn):=by show(EG C.fns).get f=_;rw[XO,hf];rfl
   rw[this];have hnp:args'.length=(aU fn).np:=by rw[<- ha.1];exact hl
   simp only[ob];rw[qzq hnp,show(aU fn).body=erC fn.body from rfl,h4];cases ex with
   |exit i=>exact absurd rfl (h8 i)
   |norm=>simp only[Td,show(aU fn).res=fn.res from rfl,h6,om]
   |ret=>simp only[Td,show(aU fn).res=fn.res from rfl,h6,om]
  ·rcases qrx b n with q | q
   ·exact .inl ((R.old b q).2 hb)
   ·exact .inr q
  ·rcases qrx b n with q | q
   ·have:=(R.old b q).2 hb;exact .inl ⟨this,((R.old b q).1 this).2.1⟩
   ·exact .inr (R.hi b hb hv q)
 ·cases hrun
theorem aic(hok:uy C.fns=true):∀k,G7 C k:=by
 intro k;induction k with
 |zero=>intro base c s ex s1 _ he;simp[evW]at he
 |succ k ih=>exact acZ ih (Zx hok ih)
theorem adF(hok:uy C.fns=true){k f:Nat}{args args':List AV}{v:AV}(ha:bF (VD id λ_=>False) args args')(hc:ael C k f args=some v):∃v',ajw (fK C) k f args'=some v'/\VD id (λ_=>False) v v' :=Us (Zx hok (aic hok k)) ha hc
end
def rQ(r r':tK):Prop:=∀f args h n x,r f args h n=some x->r' f args h n=some x
section
variable {C:aJ}{r r':tK}
theorem PY(hr:rQ r r'){f:Nat}{args:List AV}{h:aI}{nid n:Nat}{c:wX}(hc:iq C r f args h nid n=some c):iq C r' f args h nid n=some c:=by
 unfold iq at hc |-;split
 ·rename_i hi;rw[qzq hi]at hc;split
  ·rename_i hf;rw[qzq hf]at hc;refine bP hc (λx hx=>hx) λaz has=>?_;by_cases hdp:rZ f=true
   ·rw[qzq hdp]at has |-;exact bP has (λx hx=>hr _ _ _ _ _ hx) λx hx=>hx
   ·rw[qwx hdp]at has |-;exact bP has (λv hv=>bP hv (λx hx=>hr _ _ _ _ _ hx) λx hx=>hx) λx hx=>hx
  ·rename_i hf;rw[qwx hf]at hc;exact lg hc λx hx=>hr _ _ _ _ _ hx
 ·rename_i hi;rw[qwx hi]at hc;split
  ·rename_i hp;rw[qzq hp]at hc;exact lg hc λx hx=>hr _ _ _ _ _ hx
  ·rename_i hp;rw[qwx hp]at hc;exact bP hc (λx hx=>hx) λaz has=>lg has λv hv=>bP hv (λx hx=>hr _ _ _ _ _ hx) λx hx=>hx
theorem Um(hr:rQ r r'){op:COp}{nid:Nat}{e:Env}{h:aI}{n:Nat}{d:jH}(hd:iQ C r op nid e h n=some d):iQ C r' op nid e h n=some d:=by
 unfold iQ at hd |-;split
 ·rename_i hc;rw[hc]at hd;cases hd
 ·rename_i hc;rw[hc]at hd;exact lg hd λc hc=>PY hr hc
 ·rename_i hc;rw[hc]at hd;exact hd
theorem vg(hr:rQ r r'){o:bn}{nid:Nat}{e:Env}{h:aI}{n:Nat}{d:jH}(hd:fV C r o nid e h n=some d):fV C r' o nid e h n=some d:=by
 unfold fV at hd |-;split
 ·rename_i hc;rw[hc]at hd;cases hd
 ·rename_i hc;rw[hc]at hd;exact hd
 ·rename_i hc;rw[hc]at hd;exact Um hr hd
theorem wO(hr:rQ r r'):∀(l:List bn) (s s':WSt),gY C r l s=some s'->gY C r' l s=some s':=by
 intro l;induction l with
 |nil=>intro s s' h;exact h
 |cons o l ih=>intro s s' h;exact bP h (λd hd=>vg hr hd) λd hd=>ih _ _ hd
theorem uM(hr:rQ r r'):∀(l:List bn) (nid:Nat) (s:WSt) (ds:List jH) (x:WSt×List jH),eU C r l nid s ds=some x->eU C r' l nid s ds=some x:=by
 intro l;induction l with
 |nil=>intro nid s ds x h;exact h
 |cons o l ih=>intro nid s ds x h;exact bP h (λd hd=>vg hr hd) λd hd=>ih _ _ _ _ hd
theorem jW{ev ev':WEv}(he:∀b c s x,ev b c s=some x->ev' b c s=some x):rQ (dR C ev) (dR C ev'):=by
 intro f args h n x hx;refine bP hx (λa ha=>ha) λfn hfn=>?_;split
 ·rename_i hl;rw[qzq hl]at hfn;exact bP hfn (λa ha=>he _ _ _ _ ha) λa ha=>ha
 ·rename_i hl;rw[qwx hl]at hfn;cases hfn
theorem kT{b b':WSt->Option (Ex×WSt)}(h:∀s x,b s=some x->b' s=some x){r:Ex×WSt}{x:Ex×WSt}(hx:eP b r=some x):eP b' r=some x:=by
 unfold eP at hx |-;split
 ·rename_i hr;rw[hr]at hx;exact h _ _ hx
 ·split at hx
  ·rename_i h1 _ h2;exact absurd h2 h1
  ·exact hx
theorem qg:∀(n m:Nat),n<=m->∀(base:Nat) (c:aB) (s:WSt) (x:Ex×WSt),evW C n base c s=some x->evW C m base c s=some x:=by
 intro n;induction n with
 |zero=>intro m _ base c s x h;simp only[evW]at h;cases h
 |succ n ih=>
  intro m hm base c s x h;obtain⟨m,rfl⟩:∃k,m=k+1:=⟨m-1,by omega⟩;have ih':=ih m qqq;have hr:rQ (dR C (evW C n)) (dR C (evW C m)):=jW ih';cases c with
  |skip=>exact h
  |exit id=>exact h
  |ret=>exact h
  |fail=>exact h
  |zx k=>exact h
  |cln zz z b=>
   simp only[evW]at h |-;split
   ·rename_i z' hz;rw[hz]at h;simp only at h;split at h
    ·rename_i hc;rw[qzq ⟨hc.1,hc.2.1,by omega⟩];exact h
    ·cases h
   ·rename_i hz;rw[hz]at h;exact ih' _ _ _ _ h
  |ops l a=>simp only[evW]at h |-;exact bP h (λs' hs=>wO hr l s s' hs) λx hx=>hx
  |draw l un a=>simp only[evW]at h |-;exact bP h (λx hx=>uM hr l _ _ _ x hx) λx hx=>hx
  |seq a b=>simp only[evW]at h |-;exact bP h (λx hx=>ih' _ _ _ _ hx) λx hx=>kT (λs x hx=>ih' _ _ _ _ hx) hx
  |cond c a b=>
   simp only[evW]at h |-;unfold rH at h |-;split
   ·rename_i t hv;rw[hv]at h;cases t with
    |true=>exact ih' _ _ _ _ h
    |false=>exact ih' _ _ _ _ h
   ·split at h
    ·rename_i h1 _ t hv;exact absurd hv (h1 t)
    ·cases h
  |block id b a=>simp only[evW]at h |-;exact bP h (λx hx=>ih' _ _ _ _ hx) λx hx=>hx
  |loop a b=>simp only[evW]at h |-;exact bP h (λx hx=>hx) λs hs=>bP hs (λx hx=>ih' _ _ _ _ hx) λx hx=>kT (λs x hx=>ih' _ _ _ _ hx) hx
theorem yJ{n m:Nat}(h:n<=m):rQ (Lu C n) (Lu C m):=jW (qg n m h)
end
section
variable (C:aJ)
noncomputable def CdW:WEv:=λbase c s=>lim λn=>evW C n base c s
noncomputable def RnW:tK:=dR C (CdW C)
noncomputable def FnW(f:Nat)(args:List AV):Option AV:=fB (RnW C) f args
end
section
variable {C:aJ}{base:Nat}
theorem alF(base:Nat)(c:aB)(s:WSt):aia λn=>evW C n base c s:=λn m h a ha=>qg n m h base c s a ha
theorem kU{c:aB}{s:WSt}{x:Ex×WSt}:CdW C base c s=some x↔∃n,evW C n base c s=some x:=aij (alF base c s)
theorem wu{n:Nat}{c:aB}{s:WSt}{x:Ex×WSt}(h:evW C n base c s=some x):CdW C base c s=some x:=kU.2 ⟨n,h⟩
theorem Fb(n:Nat):rQ (Lu C n) (RnW C):=jW λ_ _ _ _ h=>wu h
theorem yF{f:Nat}{args:List AV}{h:aI}{n:Nat}{x:AV×aI×Nat}(hx:RnW C f args h n=some x):∃k,Lu C k f args h n=some x:=by
 unfold RnW dR at hx;obtain⟨fn,hf,hx⟩:=aA hx;split at hx
 ·rename_i hl;obtain⟨y,hc,hx⟩:=aA hx;obtain⟨k,hk⟩:=kU.1 hc;refine⟨k,?_⟩;unfold Lu dR;rw[hf];simp only[ob,qzq hl,hk];exact hx
 ·cases hx
theorem P9{f:Nat}{args:List AV}{h:aI}{nid n:Nat}{c:wX}(hc:iq C (RnW C) f args h nid n=some c):∃k,iq C (Lu C k) f args h nid n=some c:=by
 unfold iq at hc |-;split
 ·rename_i hi;rw[qzq hi]at hc;split
  ·rename_i hf;rw[qzq hf]at hc;obtain⟨az,h1,hc⟩:=aA hc;by_cases hdp:rZ f=true
   ·rw[qzq hdp]at hc;obtain⟨r,h3,hc⟩:=aA hc;obtain⟨k,hk⟩:=yF h3;refine⟨k,?_⟩;rw[h1];simp only[ob,qzq hdp,hk];exact hc
   rw[qwx hdp]at hc;obtain⟨x,h2,hend⟩:=aA hc;obtain⟨r,h3,h4⟩:=aA h2;obtain⟨k,hk⟩:=yF h3;refine⟨k,?_⟩;rw[h1];simp only[ob,qwx hdp];unfold dQ;simp only[ob,hk];rw[h4];exact hend
  ·rename_i hf;rw[qwx hf]at hc;obtain⟨r,h1,rfl⟩:=aH hc;obtain⟨k,hk⟩:=yF h1;exact⟨k,by rw[hk];rfl⟩
 ·rename_i hi;rw[qwx hi]at hc;split
  ·rename_i hp;rw[qzq hp]at hc;obtain⟨r,h1,rfl⟩:=aH hc;obtain⟨k,hk⟩:=yF h1;exact⟨k,by rw[hk];rfl⟩
  ·rename_i hp;rw[qwx hp]at hc;obtain⟨az,h1,hc⟩:=aA hc;obtain⟨v,h2,rfl⟩:=aH hc;obtain⟨r,h3,h4⟩:=aA h2;obtain⟨k,hk⟩:=yF h3;exact⟨k,by rw[h1];simp only[ob,fB,hk,h4];rfl⟩
theorem JI{o:bn}{nid:Nat}{e:Env}{h:aI}{n:Nat}{d:jH}(hd:fV C (RnW C) o nid e h n=some d):∃k,fV C (Lu C k) o nid e h n=some d:=by
 unfold fV at hd |-;split
 ·rename_i hc;rw[hc]at hd;cases hd
 ·rename_i hc;rw[hc]at hd;exact⟨0,hd⟩
 ·rename_i hc;rw[hc]at hd;simp only at hd;unfold iQ at hd |-;split
  ·rename_i hc;rw[hc]at hd;cases hd
  ·rename_i hc;rw[hc]at hd;simp only at hd;obtain⟨r,h1,rfl⟩:=aH hd;obtain⟨k,hk⟩:=P9 h1;exact⟨k,by rw[hk];rfl⟩
  ·rename_i hc;rw[hc]at hd;exact⟨0,hd⟩
theorem UZ:∀(l:List bn) (s s':WSt),gY C (RnW C) l s=some s'->∃k,gY C (Lu C k) l s=some s':=by
 intro l;induction l with
 |nil=>intro s s' h;exact⟨0,h⟩
 |cons o l ih=>intro s s' h;simp only[gY]at h |-;obtain⟨d,hd,h⟩:=aA h;obtain⟨k1,h1⟩:=JI hd;obtain⟨k2,h2⟩:=ih _ _ h;refine⟨max k1 k2,?_⟩;rw[vg (yJ (quj k1 k2)) h1];exact wO (yJ (qmz k1 k2)) _ _ _ h2
theorem Sr:∀(l:List bn) (nid:Nat) (s:WSt) (ds:List jH) (x:WSt×List jH),eU C (RnW C) l nid s ds=some x->∃k,eU C (Lu C k) l nid s ds=some x:=by
 intro l;induction l with
 |nil=>intro nid s ds x h;exact⟨0,h⟩
 |cons o l ih=>intro nid s ds x h;simp only[eU]at h |-;obtain⟨d,hd,h⟩:=aA h;obtain⟨k1,h1⟩:=JI hd;obtain⟨k2,h2⟩:=ih _ _ _ _ h;refine⟨max k1 k2,?_⟩;rw[vg (yJ (quj k1 k2)) h1];exact uM (yJ (qmz k1 k2)) _ _ _ _ _ h2
theorem Zf(s:WSt):CdW C base .skip s=some (.norm,s):=wu (n:=1) rfl
theorem Zc(id:Nat)(s:WSt):CdW C base (.exit id) s=some (.exit id,s):=wu (n:=1) rfl
theorem Ya(k:Nat)(s:WSt):CdW C base (.zx k) s=om (vJ k (dK (sK k) 0 s.env)) λv=>(.ret,⟨vP s.env 9 v,s.heap,s.next⟩):=by
 cases h:om (vJ k (dK (sK k) 0 s.env)) λv=>((.ret,⟨vP s.env 9 v,s.heap,s.next⟩):Ex×WSt)with
 |some x=>exact wu (n:=1) h
 |none=>
  cases h2:CdW C base (.zx k) s with
  |none=>rfl
  |some x=>
   obtain⟨n,hn⟩:=kU.1 h2;cases n with
   |zero=>simp only[evW]at hn;cases hn
   |succ n=>simp only[evW]at hn;rw[h]at hn;cases hn
theorem abM(s:WSt):CdW C base .ret s=some (.ret,s):=wu (n:=1) rfl
theorem uY{c:aB}{s:WSt}{x:Ex×WSt}:CdW C base c s=some x↔∃n,evW C (n+1) base c s=some x:=by
 rw[kU];constructor
 ·rintro⟨n,h⟩;exact⟨n,qg n (n+1) (zvq n) base c s x h⟩
 ·rintro⟨n,h⟩;exact⟨_,h⟩
theorem uO{b:aB}{r x:Ex×WSt}:eP (CdW C base b) r=some x↔∃n,eP (evW C n base b) r=some x:=by
 obtain⟨ex,s⟩:=r;cases ex with
 |norm=>simp only[eP];exact kU
 |exit id=>simp[eP]
 |ret=>simp[eP]
theorem rP(a b:aB)(s:WSt):CdW C base (.seq a b) s=ob (CdW C base a s) (eP (CdW C base b)):=by
 refine uF λx=>?_;rw[uY,pz];simp only[evW,pz];constructor
 ·rintro⟨n,r,h1,h2⟩;exact⟨r,wu h1,uO.2 ⟨n,h2⟩⟩
 ·rintro⟨r,h1,h2⟩;obtain⟨n,h1⟩:=kU.1 h1;obtain⟨m,h2⟩:=uO.1 h2;exact⟨max n m,r,qg _ _ (quj n m) _ _ _ _ h1,kT (λs x hx=>qg _ _ (qmz n m) _ _ _ _ hx) h2⟩
theorem Ik(a:Ann)(b:aB)(s:WSt):CdW C base (.loop a b) s=ob (canon base a s) λs=>ob (CdW C base b s) (eP (CdW C base (.loop a b))):=by
 refine uF λx=>?_;rw[uY,pz];simp only[evW,pz];constructor
 ·rintro⟨n,s0,h0,r,h1,h2⟩;exact⟨s0,h0,r,wu h1,uO.2 ⟨n,h2⟩⟩
 ·rintro⟨s0,h0,r,h1,h2⟩;obtain⟨n,h1⟩:=kU.1 h1;obtain⟨m,h2⟩:=uO.1 h2;exact⟨max n m,s0,h0,r,qg _ _ (quj n m) _ _ _ _ h1,kT (λs x hx=>qg _ _ (qmz n m) _ _ _ _ hx) h2⟩
theorem Jj(id:Nat)(b:aB)(a:Ann)(s:WSt):CdW C base (.block id b a) s=ob (CdW C base b s) (jC base id a):=by
 refine uF λx=>?_;rw[uY,pz];simp only[evW,pz];constructor
 ·rintro⟨n,r,h1,h2⟩;exact⟨r,wu h1,h2⟩
 ·rintro⟨r,h1,h2⟩;obtain⟨n,h1⟩:=kU.1 h1;exact⟨n,r,h1,h2⟩
theorem YC(c:Opd)(a b:aB)(s:WSt):CdW C base (.cond c a b) s=rH (CdW C base a) (CdW C base b) (c.ev s.env) s:=by
 refine uF λx=>?_;rw[uY];simp only[evW];unfold rH;split
 ·rename_i t _;cases t with
  |true=>exact kU.symm
  |false=>exact kU.symm
 ·simp
theorem afQ(l:List bn)(a:Ann)(s:WSt):CdW C base (.ops l a) s=ob (gY C (RnW C) l s) λs=>om (pX base a s) λs=>(.norm,s):=by
 refine uF λx=>?_;rw[uY,pz];simp only[evW,pz];constructor
 ·rintro⟨n,r,h1,h2⟩;exact⟨r,wO (Fb n) _ _ _ h1,h2⟩
 ·rintro⟨r,h1,h2⟩;obtain⟨n,h1⟩:=UZ _ _ _ h1;exact⟨n,r,h1,h2⟩
theorem Zh(l:List bn)(un:List (Nat×Nat))(a:Ann)(s:WSt):CdW C base (.draw l un a) s=ob (eU C (RnW C) l s.next ⟨s.env,s.heap,s.next+l.length⟩ []) (sZ base un a):=by
 refine uF λx=>?_;rw[uY,pz];simp only[evW,pz];constructor
 ·rintro⟨n,r,h1,h2⟩;exact⟨r,uM (Fb n) _ _ _ _ _ h1,h2⟩
 ·rintro⟨r,h1,h2⟩;obtain⟨n,h1⟩:=Sr _ _ _ _ _ h1;exact⟨n,r,h1,h2⟩
theorem Xf(zz:List AV)(z b:Nat)(s:WSt):CdW C base (.cln zz z b) s=match (Pav.get s.env 0).bind jG with
 |some z'=>if z'=z/\zz.length=z then some (.ret,⟨[(2,.sl s.next z 0 0 0 true)],Pav.put s.heap s.next (.cells z [] true true),s.next+1⟩)else none
 |none=>CdW C base (Tq zz z b) s:=by
 refine uF λx=>?_;rw[uY];simp only[evW];cases hq:(Pav.get s.env 0).bind jG with
 |some z'=>
  simp only;by_cases hc:z'=z/\zz.length=z
  ·rw[qzq hc];constructor
   ·rintro⟨n,h⟩;split at h
    ·exact h
    ·cases h
   ·intro h;exact⟨8,by rw[qzq ⟨hc.1,hc.2,by omega⟩];exact h⟩
  ·rw[qwx hc];constructor
   ·rintro⟨n,h⟩;rw[qwx (λw=>hc ⟨w.1,w.2.1⟩)]at h;exact h
   ·intro h;cases h
 |none=>exact kU.symm
theorem aeT{f:Nat}{args:List AV}{v:AV}:FnW C f args=some v↔∃n,ael C n f args=some v:=by
 unfold FnW ael fB;simp only[pz];constructor
 ·rintro⟨r,h1,h2⟩;obtain⟨k,h1⟩:=yF h1;exact⟨k,r,h1,h2⟩
 ·rintro⟨k,r,h1,h2⟩;exact⟨r,Fb k _ _ _ _ _ h1,h2⟩
end
inductive Frame where
 |sq (b:aB)
 |bk (id:Nat) (a:Ann)
 |lp (a:Ann) (b:aB)
def tH:Env->Nat->AV->Env
 |[],_,_=>[]
 |(k,v)::r,g,x=>if k=g then(k,x)::r else(k,v)::tH r g x
section
variable {β:Type}
noncomputable def RK(C:aJ)(base:Nat):List Frame->Ex×WSt->Option (Ex×WSt)
 |[],r=>some r
 |.sq b::k,r=>ob (eP (CdW C base b) r) (RK C base k)
 |.bk id a::k,r=>ob (jC base id a r) (RK C base k)
 |.lp a b::k,r=>ob (eP (CdW C base (.loop a b)) r) (RK C base k)
noncomputable def CK(C:aJ)(base:Nat)(fin:Ex×WSt->Option β)(k:List Frame)(c:aB)(s:WSt):Option β:=ob (CdW C base c s) λr=>ob (RK C base k r) fin
noncomputable def NK(C:aJ)(base:Nat)(fin:Ex×WSt->Option β)(k:List Frame)(ex:Ex)(s:WSt):Option β:=ob (RK C base k (ex,s)) fin
noncomputable def AK(C:aJ)(base:Nat)(fin:Ex×WSt->Option β)(k:List Frame)(s:Option WSt):Option β:=ob s λs=>NK C base fin k .norm s
noncomputable def LK(C:aJ)(base:Nat)(fin:Ex×WSt->Option β)(k:List Frame)(b:aB)(s:Option WSt):Option β:=ob s λs=>CK C base fin k b s
noncomputable def OK(C:aJ)(base:Nat)(fin:Ex×WSt->Option β)(k:List Frame)(a:Ann)(l:List bn)(s:WSt):Option β :=ob (gY C (RnW C) l s) λs=>AK C base fin k (pX base a s)
noncomputable def SK(C:aJ)(base:Nat)(fin:Ex×WSt->Option β)(k:List Frame)(a:Ann)(l:List bn)(d:Option Nat)(e:Env)(h:aI)(n:Nat)(x:Option (AV×dV)):Option β :=ob x λx=>OK C base fin k a l ⟨fC e d x.1,bT h x.2,n⟩
noncomputable def TA(C:aJ)(base:Nat)(fin:Ex×WSt->Option β)(k:List Frame)(a b:aB)(s:WSt)(v:AV):Option β :=
 match v with
 |.bool t=>if t=true then CK C base fin k a s else CK C base fin k b s
 |_=>none
noncomputable def GK(C:aJ)(base:Nat)(fin:Ex×WSt->Option β)(k:List Frame)(a:Ann)(l:List bn)(d:Option Nat)(op:COp)(g:Nat)(w:Bool)(e:Env)(h:aI)(n:Nat)(v:Option AV):Option β :=
 match v with
 |some (.bool b)=>if b=w then OK C base fin k a (⟨d,none,op⟩::l) ⟨tH e g (.bool w),h,n⟩else OK C base fin k a l ⟨fC (tH e g (.bool (!w))) d (.tup []),h,n+1⟩
 |some (.tup [])=>OK C base fin k a l ⟨fC e d (.tup []),h,n+1⟩
 |_=>none
noncomputable def VK(C:aJ)(base:Nat)(fin:Ex×WSt->Option β)(k:List Frame)(a:Ann)(l:List bn)(d:Option Nat)(e:Env)(h:aI)(n:Nat)(args:List AV)(v:Option AV):Option β :=ob v λv=>OK C base fin k a l ⟨fC e d v,bT h (pI h args v),n⟩
noncomputable def WK(C:aJ)(base:Nat)(fin:Ex×WSt->Option β)(k:List Frame)(a:Ann)(l:List bn)(d:Option Nat)(e:Env)(r:Option (AV×aI×Nat)):Option β :=ob r λr=>OK C base fin k a l ⟨fC e d r.1,r.2.1,r.2.2⟩
noncomputable def PK(C:aJ)(base:Nat)(fin:Ex×WSt->Option β)(k:List Frame)(a:Ann)(l:List bn)(d:Option Nat)(e:Env)(h:aI)(n:Nat)(f:Nat)(args:List AV)(az:Option (List AV)):Option β :=ob az λaz=>VK C base fin k a l d e h n args (FnW C f az)
noncomputable def BSK(C:aJ)(base:Nat)(fin:Ex×WSt->Option β)(k:List Frame)(a:Ann)(l:List bn)(d:Option Nat)(e:Env)(h:aI)(n:Nat)(v:AV)(u:dV)(ok:Bool):Option β :=if ok=true then OK C base fin k a l ⟨fC e d v,bT h u,n⟩else none
noncomputable def FSK(C:aJ)(base:Nat)(fin:Ex×WSt->Option β)(k:List Frame)(a:Ann)(l:List bn)(d:Option Nat)(e:Env)(h:aI)(n:Nat)(br:Bool)(args:List AV)(x:Option (AV×dV)):Option β :=ob x λx=>if br=true then BSK C base fin k a l d e h n x.1 x.2 (nX x)else OK C base fin k a l ⟨fC e d x.1,bT h (bf h (args.flatMap (aQ h aC))++x.2),n⟩
def over(n:Nat)(h1 h:aI):aI:=bT h (Gl n h1)
noncomputable def HBK(C:aJ)(base:Nat)(fin:Ex×WSt->Option β)(k:List Frame)(a:Ann)(l:List bn)(d:Option Nat)(e:Env)(h:aI)(n:Nat)(v:AV)(h1:aI)(n1:Nat)(ok:Bool):Option β :=if ok=true then OK C base fin k a l ⟨fC e d v,over n (h1.filter λx=>(aQ h1 aC v).contains x.1) h,n1⟩else none
noncomputable def HK(C:aJ)(base:Nat)(fin:Ex×WSt->Option β)(k:List Frame)(a:Ann)(l:List bn)(d:Option Nat)(e:Env)(h:aI)(n:Nat)(db:Bool)(args:List AV)(r:Option (AV×aI×Nat)):Option β :=ob r λr=>if db=true then HBK C base fin k a l d e h n r.1 r.2.1 r.2.2 (pG r.2.1 r.1 (aQ r.2.1 aC r.1))else OK C base fin k a l ⟨fC e d r.1,over n r.2.1 (bT h (bf h (args.flatMap (aQ h aC)))),r.2.2⟩
noncomputable def TK(C:aJ)(base:Nat)(fin:Ex×WSt->Option β)(k:List Frame)(a:Ann)(l:List bn)(d:Option Nat)(e:Env)(h:aI)(n:Nat)(f:Nat)(args az:List AV)(dp:Bool):Option β :=if dp=true then HK C base fin k a l d e h n (zU f) args (RnW C f az [] n)else FSK C base fin k a l d e h n (uh f) args (dQ (RnW C) f az (n-1))
noncomputable def FPK(C:aJ)(base:Nat)(fin:Ex×WSt->Option β)(k:List Frame)(a:Ann)(l:List bn)(d:Option Nat)(e:Env)(h:aI)(n:Nat)(f:Nat)(args:List AV)(az:Option (List AV)):Option β :=ob az λaz=>TK C base fin k a l d e h n f args az (rZ f)
noncomputable def IK(C:aJ)(base:Nat)(fin:Ex×WSt->Option β)(k:List Frame)(a:Ann)(l:List bn)(d:Option Nat)(e:Env)(h:aI)(n:Nat)(f:Nat)(args:List AV)(fr:Bool):Option β :=if fr=true then FPK C base fin k a l d e h n f args (aZ (bD h aC) args)else WK C base fin k a l d e (RnW C f args h n)
noncomputable def FK(C:aJ)(base:Nat)(fin:Ex×WSt->Option β)(k:List Frame)(a:Ann)(l:List bn)(d:Option Nat)(e:Env)(h:aI)(n:Nat)(f:Nat)(args:List AV)(inl ptr:Bool):Option β :=if inl=true then IK C base fin k a l d e h n f args (Pv f)else if ptr=true then WK C base fin k a l d e (RnW C f args h n)else PK C base fin k a l d e h n f args (aZ (bD h aC) args)
noncomputable def QK(C:aJ)(base:Nat)(fin:Ex×WSt->Option β)(k:List Frame)(a:Ann)(l:List bn)(d:Option Nat)(e:Env)(h:aI)(n:Nat)(args:List AV)(g:AV):Option β :=
 match g with
 |.fn f caps=>FK C base fin k a l d e h n f (args++caps) (C.inl f) (!C.pp f&&bW (args++caps))
 |_=>none
abbrev RW:=Bool×List Nat×List Nat
def aaT(d:jH):RW:=(d.bar,d.rd,d.wr)
def WL(d:RW):Bool:=!d.1&&(d.2.2.isEmpty&&d.2.1.isEmpty)
def adQ(a b:RW):Bool:=!(WL a||WL b)&&(if a.1=true then b.1||WE a.2.1 a.2.2 b.2.1 b.2.2 else if b.1=true then WE b.2.1 b.2.2 a.2.1 a.2.2 else(meets a.2.2 b.2.2||(meets a.2.2 b.2.1||meets a.2.1 b.2.2)))
def Fq(ds:List RW)(p:Nat×Nat):Bool :=
 match ds[p.1]?,ds[p.2]? with
 |some a,some b=>!adQ a b
 |_,_=>false
noncomputable def EK(C:aJ)(base:Nat)(fin:Ex×WSt->Option β)(k:List Frame)(a:Ann)(s:WSt)(ok:Bool):Option β :=if ok=true then AK C base fin k (pX base a s)else none
noncomputable def DK(C:aJ)(base:Nat)(fin:Ex×WSt->Option β)(k:List Frame)(a:Ann)(un:List (Nat×Nat))(l:List bn)(nid:Nat)(s:WSt)(ds:List RW):Option β :=ob (eU C (RnW C) l nid s []) λr=>EK C base fin k a r.1 (un.all (Fq (ds++r.2.map aaT)))
noncomputable def DSK(C:aJ)(base:Nat)(fin:Ex×WSt->Option β)(k:List Frame)(a:Ann)(un:List (Nat×Nat))(l:List bn)(nid:Nat)(d:Option Nat)(e:Env)(h:aI)(n:Nat)(ds:List RW)(rd:List Nat)(x:Option (AV×dV)):Option β :=ob x λx=>DK C base fin k a un l nid ⟨fC e d x.1,bT h x.2,n⟩ (ds++[(false,rd,x.2.map (·.1))])
noncomputable def DGK(C:aJ)(base:Nat)(fin:Ex×WSt->Option β)(k:List Frame)(a:Ann)(un:List (Nat×Nat))(l:List bn)(nid:Nat)(d:Option Nat)(op:COp)(g:Nat)(w:Bool)(e:Env)(h:aI)(n:Nat)(ds:List RW)(v:Option AV):Option β :=
 match v with
 |some (.bool b)=>if b=w then DK C base fin k a un (⟨d,none,op⟩::l) nid ⟨tH e g (.bool w),h,n⟩ ds else DK C base fin k a un l (nid+1) ⟨fC (tH e g (.bool (!w))) d (.tup []),h,n⟩ (ds++[(false,[],[])])
 |some (.tup [])=>DK C base fin k a un l (nid+1) ⟨fC e d (.tup []),h,n⟩ (ds++[(false,[],[])])
 |_=>none
noncomputable def DVK(C:aJ)(base:Nat)(fin:Ex×WSt->Option β)(k:List Frame)(a:Ann)(un:List (Nat×Nat))(l:List bn)(nid:Nat)(d:Option Nat)(e:Env)(h:aI)(n:Nat)(ds:List RW)(args:List AV)(v:Option AV):Option β :=ob v λv=>DK C base fin k a un l nid ⟨fC e d v,bT h (pI h args v),n⟩ (ds++[(false,args.flatMap (aQ h aC),(pI h args v).map (·.1))])
noncomputable def DWK(C:aJ)(base:Nat)(fin:Ex×WSt->Option β)(k:List Frame)(a:Ann)(un:List (Nat×Nat))(l:List bn)(nid:Nat)(d:Option Nat)(e:Env)(ds:List RW)(r:Option (AV×aI×Nat)):Option β :=ob r λr=>DK C base fin k a un l nid ⟨fC e d r.1,r.2.1,r.2.2⟩ (ds++[(true,[],[])])
noncomputable def DPK(C:aJ)(base:Nat)(fin:Ex×WSt->Option β)(k:List Frame)(a:Ann)(un:List (Nat×Nat))(l:List bn)(nid:Nat)(d:Option Nat)(e:Env)(h:aI)(n:Nat)(ds:List RW)(f:Nat)(args:List AV)(az:Option (List AV)):Option β :=ob az λaz=>DVK C base fin k a un l nid d e h n ds args (FnW C f az)
noncomputable def ahq(C:aJ)(base:Nat)(fin:Ex×WSt->Option β)(k:List Frame)(a:Ann)(un:List (Nat×Nat))(l:List bn)(nid:Nat)(d:Option Nat)(e:Env)(h:aI)(n:Nat)(ds:List RW)(args:List AV)(v:AV)(u:dV)(ok:Bool):Option β :=if ok=true then DK C base fin k a un l nid ⟨fC e d v,bT h u,n⟩ (ds++[(false,args.flatMap (aQ h aC),u.map (·.1))])else none
noncomputable def abG(C:aJ)(base:Nat)(fin:Ex×WSt->Option β)(k:List Frame)(a:Ann)(un:List (Nat×Nat))(l:List bn)(nid:Nat)(d:Option Nat)(e:Env)(h:aI)(n:Nat)(ds:List RW)(br:Bool)(args:List AV)(x:Option (AV×dV)):Option β :=ob x λx=>if br=true then ahq C base fin k a un l nid d e h n ds args x.1 x.2 (nX x)else DK C base fin k a un l nid ⟨fC e d x.1,bT h (bf h (args.flatMap (aQ h aC))++x.2),n⟩ (ds++[(false,args.flatMap (aQ h aC),(bf h (args.flatMap (aQ h aC))++x.2).map (·.1))])
noncomputable def ah3(C:aJ)(base:Nat)(fin:Ex×WSt->Option β)(k:List Frame)(a:Ann)(un:List (Nat×Nat))(l:List bn)(nid:Nat)(d:Option Nat)(e:Env)(h:aI)(n:Nat)(ds:List RW)(args:List AV)(v:AV)(h1:aI)(n1:Nat)(ok:Bool):Option β :=if ok=true then DK C base fin k a un l nid ⟨fC e d v,over n (h1.filter λx=>(aQ h1 aC v).contains x.1) h,n1⟩ (ds++[(true,args.flatMap (aQ h aC),[n])])else none
noncomputable def DHK(C:aJ)(base:Nat)(fin:Ex×WSt->Option β)(k:List Frame)(a:Ann)(un:List (Nat×Nat))(l:List bn)(nid:Nat)(d:Option Nat)(e:Env)(h:aI)(n:Nat)(ds:List RW)(db:Bool)(args:List AV)(r:Option (AV×aI×Nat)):Option β :=ob r λr=>if db=true then ah3 C base fin k a un l nid d e h n ds args r.1 r.2.1 r.2.2 (pG r.2.1 r.1 (aQ r.2.1 aC r.1))else DK C base fin k a un l nid ⟨fC e d r.1,over n r.2.1 (bT h (bf h (args.flatMap (aQ h aC)))),r.2.2⟩ (ds++[(true,args.flatMap (aQ h aC),n::(bf h (args.flatMap (aQ h aC))).map (·.1))])
noncomputable def DTK(C:aJ)(base:Nat)(fin:Ex×WSt->Option β)(k:List Frame)(a:Ann)(un:List (Nat×Nat))(l:List bn)(nid:Nat)(d:Option Nat)(e:Env)(h:aI)(n:Nat)(ds:List RW)(f:Nat)(args az:List AV)(dp:Bool):Option β :=if dp=true then DHK C base fin k a un l nid d e h n ds (zU f) args (RnW C f az [] n)else abG C base fin k a un l nid d e h n ds (uh f) args (dQ (RnW C) f az (nid-1))
noncomputable def aik(C:aJ)(base:Nat)(fin:Ex×WSt->Option β)(k:List Frame)(a:Ann)(un:List (Nat×Nat))(l:List bn)(nid:Nat)(d:Option Nat)(e:Env)(h:aI)(n:Nat)(ds:List RW)(f:Nat)(args:List AV)(az:Option (List AV)):Option β :=ob az λaz=>DTK C base fin k a un l nid d e h n ds f args az (rZ f)
noncomputable def DIK(C:aJ)(base:Nat)(fin:Ex×WSt->Option β)(k:List Frame)(a:Ann)(un:List (Nat×Nat))(l:List bn)(nid:Nat)(d:Option Nat)(e:Env)(h:aI)(n:Nat)(ds:List RW)(f:Nat)(args:List AV)(fr:Bool):Option β :=if fr=true then aik C base fin k a un l nid d e h n ds f args (aZ (bD h aC) args)else DWK C base fin k a un l nid d e ds (RnW C f args h n)
noncomputable def DFK(C:aJ)(base:Nat)(fin:Ex×WSt->Option β)(k:List Frame)(a:Ann)(un:List (Nat×Nat))(l:List bn)(nid:Nat)(d:Option Nat)(e:Env)(h:aI)(n:Nat)(ds:List RW)(f:Nat)(args:List AV)(inl ptr:Bool):Option β :=if inl=true then DIK C base fin k a un l nid d e h n ds f args (Pv f)else if ptr=true then DWK C base fin k a un l nid d e ds (RnW C f args h n)else DPK C base fin k a un l nid d e h n ds f args (aZ (bD h aC) args)
noncomputable def DQK(C:aJ)(base:Nat)(fin:Ex×WSt->Option β)(k:List Frame)(a:Ann)(un:List (Nat×Nat))(l:List bn)(nid:Nat)(d:Option Nat)(e:Env)(h:aI)(n:Nat)(ds:List RW)(args:List AV)(g:AV):Option β :=
 match g with
 |.fn f caps=>DFK C base fin k a un l nid d e h n ds f (args++caps) (C.inl f) (!C.pp f&&bW (args++caps))
 |_=>none
def aO(res:List vN)(r:Ex×WSt):Option AV:=ob (gX res r) λr=>bD r.2.1 aC r.1
end
section
variable {β:Type}{C:aJ}{base:Nat}{fin:Ex×WSt->Option β}{k:List Frame}
theorem jB{α γ δ:Type}(x:Option α)(f:α->Option γ)(g:γ->Option δ):ob (ob x f) g=ob x λa=>ob (f a) g:=by cases x<;>rfl
theorem Ns{α γ δ:Type}(x:Option α)(f:α->γ)(g:γ->Option δ):ob (om x f) g=ob x λa=>g (f a):=by cases x<;>rfl
theorem amC(a b:aB)(s:WSt):CK C base fin k (.seq a b) s=CK C base fin (.sq b::k) a s:=by unfold CK;rw[rP];simp only[RK,jB]
theorem af8(s:WSt):CK C base fin k .skip s=NK C base fin k .norm s:=by unfold CK NK;rw[Zf];rfl
theorem agv(i:Nat)(s:WSt):CK C base fin k (.exit i) s=NK C base fin k (.exit i) s:=by unfold CK NK;rw[Zc];rfl
theorem ag3(n:Nat)(s:WSt):CK C base fin k (.zx n) s=ob (vJ n (dK (sK n) 0 s.env)) λv=>NK C base fin k .ret ⟨vP s.env 9 v,s.heap,s.next⟩:=by unfold CK NK;rw[Ya];cases vJ n (dK (sK n) 0 s.env)<;>rfl
theorem amn(s:WSt):CK C base fin k .ret s=NK C base fin k .ret s:=by unfold CK NK;rw[abM];rfl
theorem ahy(c:Opd)(a b:aB)(s:WSt):CK C base fin k (.cond c a b) s=TA C base fin k a b s (c.ev s.env):=by
 unfold CK TA;rw[YC];unfold rH;cases c.ev s.env<;>try rfl
 rename_i t;cases t<;>rfl
theorem adp(id:Nat)(b:aB)(a:Ann)(s:WSt):CK C base fin k (.block id b a) s=CK C base fin (.bk id a::k) b s:=by unfold CK;rw[Jj];simp only[RK,jB]
theorem bg{L:aB}{a:Ann}{b:aB}{s:WSt}(hL:L=.loop a b):CK C base fin k L s=LK C base fin (.sq L::k) b (canon base a s):=by subst hL;unfold CK LK CK;rw[Ik];simp only[RK,jB]
theorem au{c c':aB}{s:WSt}(hc:c=c'):CK C base fin k c s=CK C base fin k c' s:=by rw[hc]
theorem amT(l:List bn)(a:Ann)(s:WSt):CK C base fin k (.ops l a) s=OK C base fin k a l s:=by unfold CK OK AK NK;rw[afQ];simp only[jB,Ns]
theorem aiy(l:List bn)(un:List (Nat×Nat))(a:Ann)(e:Env)(h:aI)(n:Nat):CK C base fin k (.draw l un a) ⟨e,h,n⟩=DK C base fin k a un l n ⟨e,h,n+l.length⟩ []:=by
 unfold CK DK EK AK NK;rw[Zh];simp only[jB];have:∀r:WSt×List jH,(ob (sZ base un a r) λr=>ob (RK C base k r) fin)=(if (un.all (Fq ([]++r.2.map aaT)))=true then ob (pX base a r.1) λs=>ob (RK C base k (.norm,s)) fin else none):=by
  rintro⟨s,ds⟩;have e1:un.all (KD ds)=un.all (Fq ([]++ds.map aaT)):=by congr 1;funext p;simp only[KD,Fq,qYz,qQq];cases ds[p.1]?<;>cases ds[p.2]?<;>rfl
  simp only[sZ,e1];split
  ·simp only[Ns]
  ·rfl
 simp only[this]
theorem abN{zz:List AV}{z b:Nat}{s:WSt}{xe:Bool}(h:Pav.get s.env 0=some (.ro z [] xe))(hz:zz.length=z) :
 CK C base fin k (.cln zz z b) s=NK C base fin k .ret ⟨[(2,.sl s.next z 0 0 0 true)],Pav.put s.heap s.next (.cells z [] true true),s.next+1⟩:=by
 unfold CK NK;rw[Xf,h];simp only[Option.bind,jG,hz,and_self,qyx,ob]
theorem YT{zz:List AV}{z b:Nat}{s:WSt}(h:(Pav.get s.env 0).bind jG=none):CK C base fin k (.cln zz z b) s=CK C base fin k (Tq zz z b) s:=by unfold CK;rw[Xf,h]
theorem amM(ex:Ex)(s:WSt):NK C base fin [] ex s=fin (ex,s):=rfl
theorem anS(b:aB)(s:WSt):NK C base fin (.sq b::k) .norm s=CK C base fin k b s:=by unfold NK CK;simp only[RK,eP,jB]
theorem Xq(b:aB)(i:Nat)(s:WSt):NK C base fin (.sq b::k) (.exit i) s=NK C base fin k (.exit i) s:=by unfold NK;simp only[RK,eP,ob]
theorem aav(b:aB)(s:WSt):NK C base fin (.sq b::k) .ret s=NK C base fin k .ret s:=by unfold NK;simp only[RK,eP,ob]
theorem Xc(a:Ann)(b:aB)(i:Nat)(s:WSt):NK C base fin (.lp a b::k) (.exit i) s=NK C base fin k (.exit i) s:=by unfold NK;simp only[RK,eP,ob]
theorem aaZ(a:Ann)(b:aB)(s:WSt):NK C base fin (.lp a b::k) .ret s=NK C base fin k .ret s:=by unfold NK;simp only[RK,eP,ob]
theorem aos(id:Nat)(a:Ann)(s:WSt):NK C base fin (.bk id a::k) .norm s=AK C base fin k (canon base a s):=by unfold NK AK NK;simp only[RK,jC,jB,Ns]
theorem XR(id:Nat)(a:Ann)(i:Nat)(s:WSt):NK C base fin (.bk id a::k) (.exit i) s=if i=id then AK C base fin k (canon base a s)else NK C base fin k (.exit i) s:=by
 unfold NK AK NK;simp only[RK,jC];split
 ·simp only[jB,Ns]
 ·rfl
theorem aaz(id:Nat)(a:Ann)(s:WSt):NK C base fin (.bk id a::k) .ret s=NK C base fin k .ret s:=by unfold NK;simp only[RK,jC,ob]
theorem agV(s:WSt):AK C base fin k (some s)=NK C base fin k .norm s:=rfl
theorem agQ(b:aB)(s:WSt):LK C base fin k b (some s)=CK C base fin k b s:=rfl
theorem VP(a b:aB)(s:WSt):TA C base fin k a b s (.bool true)=CK C base fin k a s:=rfl
theorem Tm(a b:aB)(s:WSt):TA C base fin k a b s (.bool false)=CK C base fin k b s:=rfl
theorem Xu(a b:aB)(s:WSt)(t:Bool):TA C base fin k a b s (.bool t)=if t=true then CK C base fin k a s else CK C base fin k b s:=rfl
variable {a:Ann}{l:List bn}{d:Option Nat}{e:Env}{h:aI}{n:Nat}
theorem akI(s:WSt):OK C base fin k a [] s=AK C base fin k (pX base a s):=rfl
theorem bM{op:COp}(hc:callOf e op=some none):OK C base fin k a (⟨d,none,op⟩::l) ⟨e,h,n⟩=SK C base fin k a l d e h (n+1) (stepW op e h n):=by unfold OK SK OK;simp only[gY,fV,wants,iQ,hc];cases stepW op e h n<;>rfl
theorem aii(v:AV)(u:dV):SK C base fin k a l d e h n (some (v,u))=OK C base fin k a l ⟨fC e d v,bT h u,n⟩:=rfl
theorem yG:∀{e:Env}{g:Nat}{v:AV},get e g=some v->tH e g v=e:=by
 intro e;induction e with
 |nil=>intro g v h;rfl
 |cons x e ih=>
  intro g v hg;obtain⟨j,u⟩:=x;simp only[Pav.get]at hg;simp only[tH];split at hg
  ·rename_i hj;cases hg;rw[qzq hj]
  ·rename_i hj;rw[qwx hj,ih hg]
theorem aiL{op:COp}{g:Nat}{w b:Bool}:GK C base fin k a l d op g w e h n (some (.bool b))=if b=w then OK C base fin k a (⟨d,none,op⟩::l) ⟨tH e g (.bool w),h,n⟩else OK C base fin k a l ⟨fC (tH e g (.bool (!w))) d (.tup []),h,n+1⟩:=rfl
theorem Px{op:COp}{g:Nat}:GK C base fin k a l d op g true e h n (some (.bool true))=OK C base fin k a (⟨d,none,op⟩::l) ⟨tH e g (.bool true),h,n⟩:=rfl
theorem Ll{op:COp}{g:Nat}:GK C base fin k a l d op g false e h n (some (.bool false))=OK C base fin k a (⟨d,none,op⟩::l) ⟨tH e g (.bool false),h,n⟩:=rfl
theorem LH{op:COp}{g:Nat}:GK C base fin k a l d op g true e h n (some (.bool false))=OK C base fin k a l ⟨fC (tH e g (.bool false)) d (.tup []),h,n+1⟩:=rfl
theorem L6{op:COp}{g:Nat}:GK C base fin k a l d op g false e h n (some (.bool true))=OK C base fin k a l ⟨fC (tH e g (.bool true)) d (.tup []),h,n+1⟩:=rfl
theorem am0{op:COp}{g:Nat}{w:Bool}:GK C base fin k a l d op g w e h n (some (.tup []))=OK C base fin k a l ⟨fC e d (.tup []),h,n+1⟩:=rfl
theorem abI{op:COp}{g:Nat}{w:Bool}:OK C base fin k a (⟨d,some (g,w),op⟩::l) ⟨e,h,n⟩=GK C base fin k a l d op g w e h n (get e g):=by
 unfold OK GK;simp only[gY,fV,wants];cases hg:get e g with
 |none=>rfl
 |some v=>
  cases v with
  |bool b=>
   simp only;by_cases hw:b=w
   ·subst hw;rw[yG hg,qzq rfl];simp only[OK,gY,fV,wants,beq_self_eq_true]
   ·have e1:(b == w)=false:=by simpa using hw
    have e2:(!w)=b:=by cases b<;>cases w<;>simp_all
    rw[qwx hw,e2,yG hg];simp only[e1,ob,OK]
  |tup vs=>
   cases vs with
   |nil=>rfl
   |cons _ _=>rfl
  |_=>rfl
theorem ahA{args:List AV}(v:AV):VK C base fin k a l d e h n args (some v)=OK C base fin k a l ⟨fC e d v,bT h (pI h args v),n⟩:=rfl
theorem aja(r:AV×aI×Nat):WK C base fin k a l d e (some r)=OK C base fin k a l ⟨fC e d r.1,r.2.1,r.2.2⟩:=rfl
theorem aho{f:Nat}{args:List AV}(az:List AV):PK C base fin k a l d e h n f args (some az)=VK C base fin k a l d e h n args (FnW C f az):=rfl
theorem agL{f:Nat}{args:List AV}:FK C base fin k a l d e h n f args false false=PK C base fin k a l d e h n f args (aZ (bD h aC) args):=rfl
theorem aly{f:Nat}{args:List AV}{p:Bool}:FK C base fin k a l d e h n f args true p=IK C base fin k a l d e h n f args (Pv f):=rfl
theorem ab6{f:Nat}{args:List AV}:IK C base fin k a l d e h n f args false=WK C base fin k a l d e (RnW C f args h n):=rfl
theorem ajq{f:Nat}{args:List AV}:IK C base fin k a l d e h n f args true=FPK C base fin k a l d e h n f args (aZ (bD h aC) args):=rfl
theorem aey{f:Nat}{args:List AV}(az:List AV):FPK C base fin k a l d e h (n+1) f args (some az)=TK C base fin k a l d e h (n+1) f args az (rZ f):=rfl
theorem adG{f:Nat}{args az:List AV}:TK C base fin k a l d e h (n+1) f args az false=FSK C base fin k a l d e h (n+1) (uh f) args (dQ (RnW C) f az n):=rfl
theorem aiR{f:Nat}{args az:List AV}:TK C base fin k a l d e h n f args az true=HK C base fin k a l d e h n (zU f) args (RnW C f az [] n):=rfl
theorem adx(v:AV)(h1:aI)(n1:Nat):HBK C base fin k a l d e h n v h1 n1 true=OK C base fin k a l ⟨fC e d v,over n (h1.filter λx=>(aQ h1 aC v).contains x.1) h,n1⟩:=rfl
theorem ahx{args:List AV}(r:AV×aI×Nat):HK C base fin k a l d e h n true args (some r)=HBK C base fin k a l d e h n r.1 r.2.1 r.2.2 (pG r.2.1 r.1 (aQ r.2.1 aC r.1)):=rfl
theorem ai4{args:List AV}(r:AV×aI×Nat):HK C base fin k a l d e h n false args (some r)=OK C base fin k a l ⟨fC e d r.1,over n r.2.1 (bT h (bf h (args.flatMap (aQ h aC)))),r.2.2⟩:=rfl
theorem acN(v:AV)(u:dV):BSK C base fin k a l d e h n v u true=OK C base fin k a l ⟨fC e d v,bT h u,n⟩:=rfl
theorem ad4{args:List AV}(v:AV)(u:dV):FSK C base fin k a l d e h n true args (some (v,u))=BSK C base fin k a l d e h n v u (nX (v,u)):=rfl
theorem afd{args:List AV}(v:AV)(u:dV):FSK C base fin k a l d e h n false args (some (v,u))=OK C base fin k a l ⟨fC e d v,bT h (bf h (args.flatMap (aQ h aC))++u),n⟩:=rfl
theorem alB{f:Nat}{args:List AV}:FK C base fin k a l d e h n f args false true=WK C base fin k a l d e (RnW C f args h n):=rfl
theorem aoC{f:Nat}{args caps:List AV}:QK C base fin k a l d e h n args (.fn f caps)=FK C base fin k a l d e h n f (args++caps) (C.inl f) (!C.pp f&&bW (args++caps)):=rfl
theorem akh{f:Nat}{args:List AV}:(ob (om (iq C (RnW C) f args h (n-1) n) (iZ h n args)) λr=>OK C base fin k a l ⟨fC e d r.v,r.h,r.n⟩)=FK C base fin k a l d e h n f args (C.inl f) (!C.pp f&&bW args):=by
 unfold FK iq IK FPK TK HK FSK WK PK VK FnW;split
 ·split
  ·cases aZ (bD h aC) args with
   |none=>rfl
   |some az=>
    simp only[ob];by_cases hdp:rZ f=true
    ·simp only[qzq hdp];cases RnW C f az [] n with
     |none=>rfl
     |some r=>
      simp only[yu,PI];by_cases hdb:zU f=true
      ·simp only[qzq hdb];unfold HBK;by_cases hk:pG r.2.1 r.1 (aQ r.2.1 aC r.1)=true
       ·simp only[qzq hk];rfl
       ·simp only[qwx hk];rfl
      ·simp only[qwx hdb];rfl
    simp only[qwx hdp];cases dQ (RnW C) f az (n-1)with
    |none=>rfl
    |some x=>
     dsimp only[ob];unfold yX xM BSK;cases uh f
     ·rfl
     ·cases nX x<;>rfl
  ·cases RnW C f args h n<;>rfl
 ·split
  ·cases RnW C f args h n<;>rfl
  ·cases aZ (bD h aC) args with
   |none=>rfl
   |some az=>simp only[ob];cases fB (RnW C) f az<;>rfl
theorem ais{f:Nat}{xs:List Opd}:OK C base fin k a (⟨d,none,.call f xs⟩::l) ⟨e,h,n⟩=FK C base fin k a l d e h (n+1) f (xs.map λx=>x.ev e) (C.inl f) (!C.pp f&&bW (xs.map λx=>x.ev e)):=by rw[<- akh];unfold OK;simp only[gY,fV,wants,iQ,callOf,jB,q1x]
theorem ad1{g:Opd}{xs:List Opd}:OK C base fin k a (⟨d,none,.dY g xs⟩::l) ⟨e,h,n⟩=QK C base fin k a l d e h (n+1) (xs.map λx=>x.ev e) (g.ev e):=by
 unfold QK;cases hg:g.ev e with
 |fn f caps=>simp only;rw[<- akh];unfold OK;simp only[gY,fV,wants,iQ,callOf,hg,jB,q1x]
 |_=>unfold OK;simp only[gY,fV,wants,iQ,callOf,hg];rfl
variable {un:List (Nat×Nat)}{nid:Nat}{ds:List RW}
theorem UC{r:tK}:∀(l:List bn) (nid:Nat) (s:WSt) (ds:List jH),eU C r l nid s ds=om (eU C r l nid s []) λx=>(x.1,ds++x.2):=by
 intro l;induction l with
 |nil=>intro nid s ds;simp[eU,om]
 |cons o l ih=>
  intro nid s ds;simp only[eU];cases fV C r o nid s.env s.heap s.next with
  |none=>rfl
  |some d=>simp only[ob];rw[ih,ih _ _ ([]++[d])];cases eU C r l (nid+1) _ []<;>simp[om]
theorem al0(s:WSt):DK C base fin k a un [] nid s ds=EK C base fin k a s (un.all (Fq ds)):=by unfold DK;simp only[eU,ob,qgz,qKz]
theorem ajb(s:WSt):EK C base fin k a s true=AK C base fin k (pX base a s):=rfl
theorem mY{o:bn}{s:WSt}:DK C base fin k a un (o::l) nid s ds=ob (fV C (RnW C) o nid s.env s.heap s.next) λx=>DK C base fin k a un l (nid+1) ⟨fC s.env o.dst x.v,x.h,x.n⟩ (ds++[aaT x]):=by unfold DK;simp only[eU,jB];congr 1;funext x;rw[UC];simp only[Ns,qYz,qWx,qvj,qgz,q2j]
theorem bK{op:COp}(hc:callOf e op=some none):DK C base fin k a un (⟨d,none,op⟩::l) nid ⟨e,h,n⟩ ds=DSK C base fin k a un l (nid+1) d e h n ds (readsOf e op) (stepW op e h nid):=by rw[mY];unfold DSK;simp only[fV,wants,iQ,hc,Ns];rfl
theorem adl{rd:List Nat}(v:AV)(u:dV):DSK C base fin k a un l nid d e h n ds rd (some (v,u))=DK C base fin k a un l nid ⟨fC e d v,bT h u,n⟩ (ds++[(false,rd,u.map (·.1))]):=rfl
theorem abR{op:COp}{g:Nat}{w b:Bool}:DGK C base fin k a un l nid d op g w e h n ds (some (.bool b))=if b=w then DK C base fin k a un (⟨d,none,op⟩::l) nid ⟨tH e g (.bool w),h,n⟩ ds else DK C base fin k a un l (nid+1) ⟨fC (tH e g (.bool (!w))) d (.tup []),h,n⟩ (ds++[(false,[],[])]):=rfl
theorem LZ{op:COp}{g:Nat}:DGK C base fin k a un l nid d op g true e h n ds (some (.bool true))=DK C base fin k a un (⟨d,none,op⟩::l) nid ⟨tH e g (.bool true),h,n⟩ ds:=rfl
theorem Gh{op:COp}{g:Nat}:DGK C base fin k a un l nid d op g false e h n ds (some (.bool false))=DK C base fin k a un (⟨d,none,op⟩::l) nid ⟨tH e g (.bool false),h,n⟩ ds:=rfl
theorem Ju{op:COp}{g:Nat}:DGK C base fin k a un l nid d op g true e h n ds (some (.bool false))=DK C base fin k a un l (nid+1) ⟨fC (tH e g (.bool false)) d (.tup []),h,n⟩ (ds++[(false,[],[])]):=rfl
theorem Jf{op:COp}{g:Nat}:DGK C base fin k a un l nid d op g false e h n ds (some (.bool true))=DK C base fin k a un l (nid+1) ⟨fC (tH e g (.bool true)) d (.tup []),h,n⟩ (ds++[(false,[],[])]):=rfl
theorem aiF{op:COp}{g:Nat}{w:Bool}:DGK C base fin k a un l nid d op g w e h n ds (some (.tup []))=DK C base fin k a un l (nid+1) ⟨fC e d (.tup []),h,n⟩ (ds++[(false,[],[])]):=rfl
theorem afq{op:COp}{g:Nat}{w:Bool}:DK C base fin k a un (⟨d,some (g,w),op⟩::l) nid ⟨e,h,n⟩ ds=DGK C base fin k a un l nid d op g w e h n ds (get e g):=by
 unfold DGK;cases hg:get e g with
 |none=>rw[mY];simp only[fV,wants,hg];rfl
 |some v=>
  cases v with
  |bool b=>
   simp only;by_cases hw:b=w
   ·subst hw;rw[yG hg,qzq rfl,mY,mY];simp only[fV,wants,hg,beq_self_eq_true]
   ·have e1:(b == w)=false:=by simpa using hw
    have e2:(!w)=b:=by cases b<;>cases w<;>simp_all
    rw[qwx hw,e2,yG hg,mY];simp only[fV,wants,hg,e1,ob,aaT]
  |tup vs=>
   cases vs with
   |nil=>rw[mY];simp only[fV,wants,hg];rfl
   |cons _ _=>rw[mY];simp only[fV,wants,hg];rfl
  |_=>rw[mY];simp only[fV,wants,hg];rfl
theorem abW{args:List AV}(v:AV):DVK C base fin k a un l nid d e h n ds args (some v)=DK C base fin k a un l nid ⟨fC e d v,bT h (pI h args v),n⟩ (ds++[(false,args.flatMap (aQ h aC),(pI h args v).map (·.1))]):=rfl
theorem afC(r:AV×aI×Nat):DWK C base fin k a un l nid d e ds (some r)=DK C base fin k a un l nid ⟨fC e d r.1,r.2.1,r.2.2⟩ (ds++[(true,[],[])]):=rfl
theorem aco{f:Nat}{args:List AV}(az:List AV):DPK C base fin k a un l nid d e h n ds f args (some az)=DVK C base fin k a un l nid d e h n ds args (FnW C f az):=rfl
theorem acy{f:Nat}{args:List AV}:DFK C base fin k a un l nid d e h n ds f args false false=DPK C base fin k a un l nid d e h n ds f args (aZ (bD h aC) args):=rfl
theorem aix{f:Nat}{args:List AV}{p:Bool}:DFK C base fin k a un l nid d e h n ds f args true p=DIK C base fin k a un l nid d e h n ds f args (Pv f):=rfl
theorem aaw{f:Nat}{args:List AV}:DIK C base fin k a un l nid d e h n ds f args false=DWK C base fin k a un l nid d e ds (RnW C f args h n):=rfl
theorem aeX{f:Nat}{args:List AV}:DIK C base fin k a un l nid d e h n ds f args true=aik C base fin k a un l nid d e h n ds f args (aZ (bD h aC) args):=rfl
theorem aaC{f:Nat}{args:List AV}(az:List AV):aik C base fin k a un l nid d e h n ds f args (some az)=DTK C base fin k a un l nid d e h n ds f args az (rZ f):=rfl
theorem Z7{f:Nat}{args az:List AV}:DTK C base fin k a un l nid d e h n ds f args az false=abG C base fin k a un l nid d e h n ds (uh f) args (dQ (RnW C) f az (nid-1)):=rfl
theorem acn{f:Nat}{args az:List AV}:DTK C base fin k a un l nid d e h n ds f args az true=DHK C base fin k a un l nid d e h n ds (zU f) args (RnW C f az [] n):=rfl
theorem aan{args:List AV}(v:AV)(h1:aI)(n1:Nat):ah3 C base fin k a un l nid d e h n ds args v h1 n1 true=DK C base fin k a un l nid ⟨fC e d v,over n (h1.filter λx=>(aQ h1 aC v).contains x.1) h,n1⟩ (ds++[(true,args.flatMap (aQ h aC),[n])]):=rfl
theorem acu{args:List AV}(r:AV×aI×Nat):DHK C base fin k a un l nid d e h n ds true args (some r)=ah3 C base fin k a un l nid d e h n ds args r.1 r.2.1 r.2.2 (pG r.2.1 r.1 (aQ r.2.1 aC r.1)):=rfl
theorem afZ{args:List AV}(r:AV×aI×Nat):DHK C base fin k a un l nid d e h n ds false args (some r)=DK C base fin k a un l nid ⟨fC e d r.1,over n r.2.1 (bT h (bf h (args.flatMap (aQ h aC)))),r.2.2⟩ (ds++[(true,args.flatMap (aQ h aC),n::(bf h (args.flatMap (aQ h aC))).map (·.1))]):=rfl
theorem abz{args:List AV}(v:AV)(u:dV):ahq C base fin k a un l nid d e h n ds args v u true=DK C base fin k a un l nid ⟨fC e d v,bT h u,n⟩ (ds++[(false,args.flatMap (aQ h aC),u.map (·.1))]):=rfl
theorem abf{args:List AV}(v:AV)(u:dV):abG C base fin k a un l nid d e h n ds true args (some (v,u))=ahq C base fin k a un l nid d e h n ds args v u (nX (v,u)):=rfl
theorem abn{args:List AV}(v:AV)(u:dV):abG C base fin k a un l nid d e h n ds false args (some (v,u))=DK C base fin k a un l nid ⟨fC e d v,bT h (bf h (args.flatMap (aQ h aC))++u),n⟩ (ds++[(false,args.flatMap (aQ h aC),(bf h (args.flatMap (aQ h aC))++u).map (·.1))]):=rfl
theorem ail{f:Nat}{args:List AV}:DFK C base fin k a un l nid d e h n ds f args false true=DWK C base fin k a un l nid d e ds (RnW C f args h n):=rfl
theorem als{f:Nat}{args caps:List AV}:DQK C base fin k a un l nid d e h n ds args (.fn f caps)=DFK C base fin k a un l nid d e h n ds f (args++caps) (C.inl f) (!C.pp f&&bW (args++caps)):=rfl
theorem afD{f:Nat}{args:List AV}:(ob (om (iq C (RnW C) f args h (nid-1) n) (iZ h n args)) λr=>DK C base fin k a un l nid ⟨fC e d r.v,r.h,r.n⟩ (ds++[aaT r]))=DFK C base fin k a un l nid d e h n ds f args (C.inl f) (!C.pp f&&bW args):=by
 unfold DFK iq DIK aik DTK DHK abG DWK DPK DVK FnW;split
 ·split
  ·cases aZ (bD h aC) args with
   |none=>rfl
   |some az=>
    simp only[ob];by_cases hdp:rZ f=true
    ·simp only[qzq hdp];cases RnW C f az [] n with
     |none=>rfl
     |some r=>
      simp only[yu,PI];by_cases hdb:zU f=true
      ·simp only[qzq hdb];unfold ah3;by_cases hk:pG r.2.1 r.1 (aQ r.2.1 aC r.1)=true
       ·simp only[qzq hk];rfl
       ·simp only[qwx hk];rfl
      ·simp only[qwx hdb];rfl
    simp only[qwx hdp];cases dQ (RnW C) f az (nid-1)with
    |none=>rfl
    |some x=>
     dsimp only[ob];unfold yX xM ahq;cases uh f
     ·rfl
     ·cases nX x<;>rfl
  ·cases RnW C f args h n<;>rfl
 ·split
  ·cases RnW C f args h n<;>rfl
  ·cases aZ (bD h aC) args with
   |none=>rfl
   |some az=>simp only[ob];cases fB (RnW C) f az<;>rfl
theorem ai1{f:Nat}{xs:List Opd}:DK C base fin k a un (⟨d,none,.call f xs⟩::l) nid ⟨e,h,n⟩ ds=DFK C base fin k a un l (nid+1) d e h n ds f (xs.map λx=>x.ev e) (C.inl f) (!C.pp f&&bW (xs.map λx=>x.ev e)):=by rw[<- afD,mY];simp only[fV,wants,iQ,callOf,q1x]
theorem abZ{g:Opd}{xs:List Opd}:DK C base fin k a un (⟨d,none,.dY g xs⟩::l) nid ⟨e,h,n⟩ ds=DQK C base fin k a un l (nid+1) d e h n ds (xs.map λx=>x.ev e) (g.ev e):=by
 unfold DQK;rw[mY];cases hg:g.ev e with
 |fn f caps=>simp only;rw[<- afD];simp only[fV,wants,iQ,callOf,hg,q1x]
 |_=>simp only[fV,wants,iQ,callOf,hg];rfl
theorem aN{f:Nat}{fn:WFn}(hf:C.fns.get f=some fn){args:List AV}(hl:args.length=fn.np):FnW C f args=CK C 0 (aO fn.res) [] fn.body ⟨Fh 0 args [],[],0⟩:=by
 unfold FnW fB RnW dR CK aO;rw[hf];simp only[ob,qzq hl,RK];cases CdW C 0 fn.body ⟨Fh 0 args [],[],0⟩with
 |none=>rfl
 |some r=>rfl
theorem jL{f:Nat}{fn:WFn}(hf:C.fns.get f=some fn){args:List AV}(hl:args.length=fn.np)(h:aI)(n:Nat):RnW C f args h n=CK C n (gX fn.res) [] fn.body ⟨Fh 0 args [],h,n⟩:=by unfold RnW dR CK;rw[hf];simp only[ob,qzq hl,RK]
end
end Go.Pw
end
section
namespace Go.Pw
open Go Go.Pav
attribute [simp] ag3 vJ oW sK dK amC af8 agv amn ahy adp amT aiy amM anS Xq aav Xc aaZ aos XR aaz agV agQ
 akI aii am0 abI ahA aja aho agL aly alB aoC ais ad1 al0 ajb adl aiF afq abW afC aco acy aix ail als ai1 abZ ab6 ajq aey afd ad4 acN abf abz uh nX Xm iy ou aaw aeX aaC abn Pv rZ adG aiR ai4 ahx adx Z7 acn afZ acu aan zU pG jR dw ru
attribute [simp high] VP Tm Px Ll LH L6 LZ Gh Ju Jf
attribute [simp low] Xu aiL abR
section
variable {β:Type}{C:aJ}{base:Nat}{fin:Ex×WSt->Option β}{k:List Frame}{a:Ann}{l:List bn}{d:Option Nat}{e:Env}{h:aI}{n:Nat}{un:List (Nat×Nat)}{nid:Nat}{ds:List RW}
@[simp] theorem avq{x:Opd}:OK C base fin k a (⟨d,none,.mv x⟩::l) ⟨e,h,n⟩=OK C base fin k a l ⟨fC e d (x.ev e),h,n+1⟩:=by rw[bM rfl];rfl
@[simp] theorem arb{c x y:Opd}:OK C base fin k a (⟨d,none,.pick c x y⟩::l) ⟨e,h,n⟩=SK C base fin k a l d e h (n+1) (stepW (.pick c x y) e h n):=bM rfl
@[simp] theorem aoE{z:List AV}:OK C base fin k a (⟨d,none,.alloc z⟩::l) ⟨e,h,n⟩=SK C base fin k a l d e h (n+1) (stepW (.alloc z) e h n):=bM rfl
@[simp] theorem atD{x:Opd}:OK C base fin k a (⟨d,none,.box x⟩::l) ⟨e,h,n⟩=SK C base fin k a l d e h (n+1) (stepW (.box x) e h n):=bM rfl
@[simp] theorem aoG{z:List AV}{ps:List (Nat×Nat×Opd)}:OK C base fin k a (⟨d,none,.build z ps⟩::l) ⟨e,h,n⟩=SK C base fin k a l d e h (n+1) (stepW (.build z ps) e h n):=bM rfl
@[simp] theorem anq{z:List AV}{m:Nat}{ps:List (Nat×Opd)}:OK C base fin k a (⟨d,none,.aW z m ps⟩::l) ⟨e,h,n⟩=SK C base fin k a l d e h (n+1) (stepW (.aW z m ps) e h n):=bM rfl
@[simp] theorem aqG{m:Nat}{ag:Bool}{x:Opd}:OK C base fin k a (⟨d,none,.load m ag x⟩::l) ⟨e,h,n⟩=SK C base fin k a l d e h (n+1) (stepW (.load m ag x) e h n):=bM rfl
@[simp] theorem aoQ{m:Nat}{x y:Opd}:OK C base fin k a (⟨d,none,.store m x y⟩::l) ⟨e,h,n⟩=SK C base fin k a l d e h (n+1) (stepW (.store m x y) e h n):=bM rfl
@[simp] theorem anh{x:Opd}:OK C base fin k a (⟨d,none,.jS x⟩::l) ⟨e,h,n⟩=SK C base fin k a l d e h (n+1) (stepW (.jS x) e h n):=bM rfl
@[simp] theorem au6{op:BinOp}{x y:Opd}:OK C base fin k a (⟨d,none,.bin op x y⟩::l) ⟨e,h,n⟩=SK C base fin k a l d e h (n+1) (stepW (.bin op x y) e h n):=bM rfl
@[simp] theorem aso{kd:Nat}{ks:List Nat}{ne:Bool}{x y:Opd}:OK C base fin k a (⟨d,none,.eqv kd ks ne x y⟩::l) ⟨e,h,n⟩=SK C base fin k a l d e h (n+1) (stepW (.eqv kd ks ne x y) e h n):=bM rfl
@[simp] theorem avk{op:UnOp}{x:Opd}:OK C base fin k a (⟨d,none,.un op x⟩::l) ⟨e,h,n⟩=SK C base fin k a l d e h (n+1) (stepW (.un op x) e h n):=bM rfl
@[simp] theorem auF{kk:IntKind}{x:Opd}:OK C base fin k a (⟨d,none,.cvt kk x⟩::l) ⟨e,h,n⟩=SK C base fin k a l d e h (n+1) (stepW (.cvt kk x) e h n):=bM rfl
@[simp] theorem arZ{x:Opd}:OK C base fin k a (⟨d,none,.cvs x⟩::l) ⟨e,h,n⟩=SK C base fin k a l d e h (n+1) (stepW (.cvs x) e h n):=bM rfl
@[simp] theorem asE{x:Opd}:OK C base fin k a (⟨d,none,.cvb x⟩::l) ⟨e,h,n⟩=SK C base fin k a l d e h (n+1) (stepW (.cvb x) e h n):=bM rfl
@[simp] theorem aqn{f:Nat}{xs:List Opd}:OK C base fin k a (⟨d,none,.lN f xs⟩::l) ⟨e,h,n⟩=SK C base fin k a l d e h (n+1) (stepW (.lN f xs) e h n):=bM rfl
@[simp] theorem anG:OK C base fin k a (⟨d,none,.kP⟩::l) ⟨e,h,n⟩=SK C base fin k a l d e h (n+1) (stepW .kP e h n):=bM rfl
@[simp] theorem aqb{z:List AV}{b:Nat}{x y:Opd}:OK C base fin k a (⟨d,none,.nK z b x y⟩::l) ⟨e,h,n⟩=SK C base fin k a l d e h (n+1) (stepW (.nK z b x y) e h n):=bM rfl
@[simp] theorem ok_slice{z:Nat}{x:Opd}{lo hi mx:Option Opd}:OK C base fin k a (⟨d,none,.slice z x lo hi mx⟩::l) ⟨e,h,n⟩=SK C base fin k a l d e h (n+1) (stepW (.slice z x lo hi mx) e h n):=bM rfl
@[simp] theorem anv{z:Nat}{x:Opd}{lo hi:Option Opd}:OK C base fin k a (⟨d,none,.gW z x lo hi⟩::l) ⟨e,h,n⟩=SK C base fin k a l d e h (n+1) (stepW (.gW z x lo hi) e h n):=bM rfl
@[simp] theorem aut{o:Nat}{x:Opd}:OK C base fin k a (⟨d,none,.fld o x⟩::l) ⟨e,h,n⟩=SK C base fin k a l d e h (n+1) (stepW (.fld o x) e h n):=bM rfl
@[simp] theorem aq2{o m:Nat}{ag:Bool}{x:Opd}:OK C base fin k a (⟨d,none,.zJ o m ag x⟩::l) ⟨e,h,n⟩=SK C base fin k a l d e h (n+1) (stepW (.zJ o m ag x) e h n):=bM rfl
@[simp] theorem aqj{z:Nat}{x y:Opd}:OK C base fin k a (⟨d,none,.idxs z x y⟩::l) ⟨e,h,n⟩=SK C base fin k a l d e h (n+1) (stepW (.idxs z x y) e h n):=bM rfl
@[simp] theorem aro{m z:Nat}{x y:Opd}:OK C base fin k a (⟨d,none,.gG m z x y⟩::l) ⟨e,h,n⟩=SK C base fin k a l d e h (n+1) (stepW (.gG m z x y) e h n):=bM rfl
@[simp] theorem anj{x y:Opd}:OK C base fin k a (⟨d,none,.fE x y⟩::l) ⟨e,h,n⟩=SK C base fin k a l d e h (n+1) (stepW (.fE x y) e h n):=bM rfl
@[simp] theorem aqM{m z:Nat}{ag:Bool}{x y:Opd}:OK C base fin k a (⟨d,none,.y8 m z ag x y⟩::l) ⟨e,h,n⟩=SK C base fin k a l d e h (n+1) (stepW (.y8 m z ag x y) e h n):=bM rfl
@[simp] theorem aqO{kd:Nat}{z:AV}{ok:Bool}{x y:Opd}:OK C base fin k a (⟨d,none,.look kd z ok x y⟩::l) ⟨e,h,n⟩=SK C base fin k a l d e h (n+1) (stepW (.look kd z ok x y) e h n):=bM rfl
@[simp] theorem arK{kd:Nat}{x y z:Opd}:OK C base fin k a (⟨d,none,.upd kd x y z⟩::l) ⟨e,h,n⟩=SK C base fin k a l d e h (n+1) (stepW (.upd kd x y z) e h n):=bM rfl
@[simp] theorem aon{x:Opd}:OK C base fin k a (⟨d,none,.range x⟩::l) ⟨e,h,n⟩=SK C base fin k a l d e h (n+1) (stepW (.range x) e h n):=bM rfl
@[simp] theorem aq4{x:Opd}:OK C base fin k a (⟨d,none,.next x⟩::l) ⟨e,h,n⟩=SK C base fin k a l d e h (n+1) (stepW (.next x) e h n):=bM rfl
@[simp] theorem asn{i:Nat}{x:Opd}:OK C base fin k a (⟨d,none,.ext i x⟩::l) ⟨e,h,n⟩=SK C base fin k a l d e h (n+1) (stepW (.ext i x) e h n):=bM rfl
@[simp] theorem asK{kd:Nat}{x:Opd}:OK C base fin k a (⟨d,none,.len kd x⟩::l) ⟨e,h,n⟩=SK C base fin k a l d e h (n+1) (stepW (.len kd x) e h n):=bM rfl
@[simp] theorem asx{x:Opd}:OK C base fin k a (⟨d,none,.cap x⟩::l) ⟨e,h,n⟩=SK C base fin k a l d e h (n+1) (stepW (.cap x) e h n):=bM rfl
@[simp] theorem asR{z:List AV}{b:Nat}{zs:Bool}{x y:Opd}:OK C base fin k a (⟨d,none,.app z b zs x y⟩::l) ⟨e,h,n⟩=SK C base fin k a l d e h (n+1) (stepW (.app z b zs x y) e h n):=bM rfl
@[simp] theorem atV{z:Nat}{x y:Opd}:OK C base fin k a (⟨d,none,.cpy z x y⟩::l) ⟨e,h,n⟩=SK C base fin k a l d e h (n+1) (stepW (.cpy z x y) e h n):=bM rfl
@[simp] theorem asa{z:List AV}{x:Opd}:OK C base fin k a (⟨d,none,.clr z x⟩::l) ⟨e,h,n⟩=SK C base fin k a l d e h (n+1) (stepW (.clr z x) e h n):=bM rfl
@[simp] theorem avo{x y:Opd}:OK C base fin k a (⟨d,none,.mx x y⟩::l) ⟨e,h,n⟩=SK C base fin k a l d e h (n+1) (stepW (.mx x y) e h n):=bM rfl
@[simp] theorem avn{x y:Opd}:OK C base fin k a (⟨d,none,.mn x y⟩::l) ⟨e,h,n⟩=SK C base fin k a l d e h (n+1) (stepW (.mn x y) e h n):=bM rfl
@[simp] theorem avt{x:Opd}:DK C base fin k a un (⟨d,none,.mv x⟩::l) nid ⟨e,h,n⟩ ds=DSK C base fin k a un l (nid+1) d e h n ds (readsOf e (.mv x)) (stepW (.mv x) e h nid):=bK rfl
@[simp] theorem apQ{c x y:Opd}:DK C base fin k a un (⟨d,none,.pick c x y⟩::l) nid ⟨e,h,n⟩ ds=DSK C base fin k a un l (nid+1) d e h n ds (readsOf e (.pick c x y)) (stepW (.pick c x y) e h nid):=bK rfl
@[simp] theorem aow{z:List AV}:DK C base fin k a un (⟨d,none,.alloc z⟩::l) nid ⟨e,h,n⟩ ds=DSK C base fin k a un l (nid+1) d e h n ds (readsOf e (.alloc z)) (stepW (.alloc z) e h nid):=bK rfl
@[simp] theorem at1{x:Opd}:DK C base fin k a un (⟨d,none,.box x⟩::l) nid ⟨e,h,n⟩ ds=DSK C base fin k a un l (nid+1) d e h n ds (readsOf e (.box x)) (stepW (.box x) e h nid):=bK rfl
@[simp] theorem aog{z:List AV}{ps:List (Nat×Nat×Opd)}:DK C base fin k a un (⟨d,none,.build z ps⟩::l) nid ⟨e,h,n⟩ ds=DSK C base fin k a un l (nid+1) d e h n ds (readsOf e (.build z ps)) (stepW (.build z ps) e h nid):=bK rfl
@[simp] theorem anm{z:List AV}{m:Nat}{ps:List (Nat×Opd)}:DK C base fin k a un (⟨d,none,.aW z m ps⟩::l) nid ⟨e,h,n⟩ ds=DSK C base fin k a un l (nid+1) d e h n ds (readsOf e (.aW z m ps)) (stepW (.aW z m ps) e h nid):=bK rfl
@[simp] theorem aql{m:Nat}{ag:Bool}{x:Opd}:DK C base fin k a un (⟨d,none,.load m ag x⟩::l) nid ⟨e,h,n⟩ ds=DSK C base fin k a un l (nid+1) d e h n ds (readsOf e (.load m ag x)) (stepW (.load m ag x) e h nid):=bK rfl
@[simp] theorem anL{m:Nat}{x y:Opd}:DK C base fin k a un (⟨d,none,.store m x y⟩::l) nid ⟨e,h,n⟩ ds=DSK C base fin k a un l (nid+1) d e h n ds (readsOf e (.store m x y)) (stepW (.store m x y) e h nid):=bK rfl
@[simp] theorem anr{x:Opd}:DK C base fin k a un (⟨d,none,.jS x⟩::l) nid ⟨e,h,n⟩ ds=DSK C base fin k a un l (nid+1) d e h n ds (readsOf e (.jS x)) (stepW (.jS x) e h nid):=bK rfl
@[simp] theorem atE{op:BinOp}{x y:Opd}:DK C base fin k a un (⟨d,none,.bin op x y⟩::l) nid ⟨e,h,n⟩ ds=DSK C base fin k a un l (nid+1) d e h n ds (readsOf e (.bin op x y)) (stepW (.bin op x y) e h nid):=bK rfl
@[simp] theorem auA{kd:Nat}{ks:List Nat}{ne:Bool}{x y:Opd}:DK C base fin k a un (⟨d,none,.eqv kd ks ne x y⟩::l) nid ⟨e,h,n⟩ ds=DSK C base fin k a un l (nid+1) d e h n ds (readsOf e (.eqv kd ks ne x y)) (stepW (.eqv kd ks ne x y) e h nid):=bK rfl
@[simp] theorem avp{op:UnOp}{x:Opd}:DK C base fin k a un (⟨d,none,.un op x⟩::l) nid ⟨e,h,n⟩ ds=DSK C base fin k a un l (nid+1) d e h n ds (readsOf e (.un op x)) (stepW (.un op x) e h nid):=bK rfl
@[simp] theorem avc{kk:IntKind}{x:Opd}:DK C base fin k a un (⟨d,none,.cvt kk x⟩::l) nid ⟨e,h,n⟩ ds=DSK C base fin k a un l (nid+1) d e h n ds (readsOf e (.cvt kk x)) (stepW (.cvt kk x) e h nid):=bK rfl
@[simp] theorem atw{x:Opd}:DK C base fin k a un (⟨d,none,.cvs x⟩::l) nid ⟨e,h,n⟩ ds=DSK C base fin k a un l (nid+1) d e h n ds (readsOf e (.cvs x)) (stepW (.cvs x) e h nid):=bK rfl
@[simp] theorem au7{x:Opd}:DK C base fin k a un (⟨d,none,.cvb x⟩::l) nid ⟨e,h,n⟩ ds=DSK C base fin k a un l (nid+1) d e h n ds (readsOf e (.cvb x)) (stepW (.cvb x) e h nid):=bK rfl
@[simp] theorem apP{f:Nat}{xs:List Opd}:DK C base fin k a un (⟨d,none,.lN f xs⟩::l) nid ⟨e,h,n⟩ ds=DSK C base fin k a un l (nid+1) d e h n ds (readsOf e (.lN f xs)) (stepW (.lN f xs) e h nid):=bK rfl
@[simp] theorem aom:DK C base fin k a un (⟨d,none,.kP⟩::l) nid ⟨e,h,n⟩ ds=DSK C base fin k a un l (nid+1) d e h n ds (readsOf e (.kP)) (stepW (.kP) e h nid):=bK rfl
@[simp] theorem aqr{z:List AV}{b:Nat}{x y:Opd}:DK C base fin k a un (⟨d,none,.nK z b x y⟩::l) nid ⟨e,h,n⟩ ds=DSK C base fin k a un l (nid+1) d e h n ds (readsOf e (.nK z b x y)) (stepW (.nK z b x y) e h nid):=bK rfl
@[simp] theorem aoO{z:Nat}{x:Opd}{lo hi mx:Option Opd}:DK C base fin k a un (⟨d,none,.slice z x lo hi mx⟩::l) nid ⟨e,h,n⟩ ds=DSK C base fin k a un l (nid+1) d e h n ds (readsOf e (.slice z x lo hi mx)) (stepW (.slice z x lo hi mx) e h nid):=bK rfl
@[simp] theorem anx{z:Nat}{x:Opd}{lo hi:Option Opd}:DK C base fin k a un (⟨d,none,.gW z x lo hi⟩::l) nid ⟨e,h,n⟩ ds=DSK C base fin k a un l (nid+1) d e h n ds (readsOf e (.gW z x lo hi)) (stepW (.gW z x lo hi) e h nid):=bK rfl
@[simp] theorem auf{o:Nat}{x:Opd}:DK C base fin k a un (⟨d,none,.fld o x⟩::l) nid ⟨e,h,n⟩ ds=DSK C base fin k a un l (nid+1) d e h n ds (readsOf e (.fld o x)) (stepW (.fld o x) e h nid):=bK rfl
@[simp] theorem aru{o m:Nat}{ag:Bool}{x:Opd}:DK C base fin k a un (⟨d,none,.zJ o m ag x⟩::l) nid ⟨e,h,n⟩ ds=DSK C base fin k a un l (nid+1) d e h n ds (readsOf e (.zJ o m ag x)) (stepW (.zJ o m ag x) e h nid):=bK rfl
@[simp] theorem ars{z:Nat}{x y:Opd}:DK C base fin k a un (⟨d,none,.idxs z x y⟩::l) nid ⟨e,h,n⟩ ds=DSK C base fin k a un l (nid+1) d e h n ds (readsOf e (.idxs z x y)) (stepW (.idxs z x y) e h nid):=bK rfl
@[simp] theorem aqI{m z:Nat}{x y:Opd}:DK C base fin k a un (⟨d,none,.gG m z x y⟩::l) nid ⟨e,h,n⟩ ds=DSK C base fin k a un l (nid+1) d e h n ds (readsOf e (.gG m z x y)) (stepW (.gG m z x y) e h nid):=bK rfl
@[simp] theorem anu{x y:Opd}:DK C base fin k a un (⟨d,none,.fE x y⟩::l) nid ⟨e,h,n⟩ ds=DSK C base fin k a un l (nid+1) d e h n ds (readsOf e (.fE x y)) (stepW (.fE x y) e h nid):=bK rfl
@[simp] theorem aqw{m z:Nat}{ag:Bool}{x y:Opd}:DK C base fin k a un (⟨d,none,.y8 m z ag x y⟩::l) nid ⟨e,h,n⟩ ds=DSK C base fin k a un l (nid+1) d e h n ds (readsOf e (.y8 m z ag x y)) (stepW (.y8 m z ag x y) e h nid):=bK rfl
@[simp] theorem arx{kd:Nat}{z:AV}{ok:Bool}{x y:Opd}:DK C base fin k a un (⟨d,none,.look kd z ok x y⟩::l) nid ⟨e,h,n⟩ ds=DSK C base fin k a un l (nid+1) d e h n ds (readsOf e (.look kd z ok x y)) (stepW (.look kd z ok x y) e h nid):=bK rfl
@[simp] theorem arX{kd:Nat}{x y z:Opd}:DK C base fin k a un (⟨d,none,.upd kd x y z⟩::l) nid ⟨e,h,n⟩ ds=DSK C base fin k a un l (nid+1) d e h n ds (readsOf e (.upd kd x y z)) (stepW (.upd kd x y z) e h nid):=bK rfl
@[simp] theorem aof{x:Opd}:DK C base fin k a un (⟨d,none,.range x⟩::l) nid ⟨e,h,n⟩ ds=DSK C base fin k a un l (nid+1) d e h n ds (readsOf e (.range x)) (stepW (.range x) e h nid):=bK rfl
@[simp] theorem apR{x:Opd}:DK C base fin k a un (⟨d,none,.next x⟩::l) nid ⟨e,h,n⟩ ds=DSK C base fin k a un l (nid+1) d e h n ds (readsOf e (.next x)) (stepW (.next x) e h nid):=bK rfl
@[simp] theorem auX{i:Nat}{x:Opd}:DK C base fin k a un (⟨d,none,.ext i x⟩::l) nid ⟨e,h,n⟩ ds=DSK C base fin k a un l (nid+1) d e h n ds (readsOf e (.ext i x)) (stepW (.ext i x) e h nid):=bK rfl
@[simp] theorem atU{kd:Nat}{x:Opd}:DK C base fin k a un (⟨d,none,.len kd x⟩::l) nid ⟨e,h,n⟩ ds=DSK C base fin k a un l (nid+1) d e h n ds (readsOf e (.len kd x)) (stepW (.len kd x) e h nid):=bK rfl
@[simp] theorem atp{x:Opd}:DK C base fin k a un (⟨d,none,.cap x⟩::l) nid ⟨e,h,n⟩ ds=DSK C base fin k a un l (nid+1) d e h n ds (readsOf e (.cap x)) (stepW (.cap x) e h nid):=bK rfl
@[simp] theorem auU{z:List AV}{b:Nat}{zs:Bool}{x y:Opd}:DK C base fin k a un (⟨d,none,.app z b zs x y⟩::l) nid ⟨e,h,n⟩ ds=DSK C base fin k a un l (nid+1) d e h n ds (readsOf e (.app z b zs x y)) (stepW (.app z b zs x y) e h nid):=bK rfl
@[simp] theorem as7{z:Nat}{x y:Opd}:DK C base fin k a un (⟨d,none,.cpy z x y⟩::l) nid ⟨e,h,n⟩ ds=DSK C base fin k a un l (nid+1) d e h n ds (readsOf e (.cpy z x y)) (stepW (.cpy z x y) e h nid):=bK rfl
@[simp] theorem ati{z:List AV}{x:Opd}:DK C base fin k a un (⟨d,none,.clr z x⟩::l) nid ⟨e,h,n⟩ ds=DSK C base fin k a un l (nid+1) d e h n ds (readsOf e (.clr z x)) (stepW (.clr z x) e h nid):=bK rfl
@[simp] theorem avj{x y:Opd}:DK C base fin k a un (⟨d,none,.mx x y⟩::l) nid ⟨e,h,n⟩ ds=DSK C base fin k a un l (nid+1) d e h n ds (readsOf e (.mx x y)) (stepW (.mx x y) e h nid):=bK rfl
@[simp] theorem avm{x y:Opd}:DK C base fin k a un (⟨d,none,.mn x y⟩::l) nid ⟨e,h,n⟩ ds=DSK C base fin k a un l (nid+1) d e h n ds (readsOf e (.mn x y)) (stepW (.mn x y) e h nid):=bK rfl
end
@[simp] theorem nat?_cast(n:Nat):nat? (n:Int)=some n:=rfl
@[simp] theorem nat?_zero:nat? 0=some 0:=rfl
@[simp] theorem nat?_one:nat? 1=some 1:=rfl
@[simp] theorem nat?_lit(n:Nat):nat? (no_index (OfNat.ofNat n):Int)=some n:=rfl
@[simp] theorem nat?_add(n m:Nat):nat? ((n:Int)+(m:Int))=some (n+m):=rfl
@[simp] theorem nat?_add_lit(n m:Nat):nat? ((n:Int)+(no_index (OfNat.ofNat m):Int))=some (n+m):=rfl
theorem aK{x:Int}(h1:-9223372036854775808<=x)(h2:x<9223372036854775808):IntKind.i64.wrap x=x:=by show(if (true&&decide (x % 18446744073709551616 ≥ 9223372036854775808))=true then x % 18446744073709551616-18446744073709551616 else x % 18446744073709551616)=x;simp only[qlx,qkj];split<;>omega
theorem vM{x:Int}(h1:0<=x)(h2:x<18446744073709551616):IntKind.u64.wrap x=x:=by show(if (false&&decide (x % 18446744073709551616 ≥ 9223372036854775808))=true then x % 18446744073709551616-18446744073709551616 else x % 18446744073709551616)=x;simp only[qiz,qxj,qWq];omega
theorem wU8{x:Int}(h1:0<=x)(h2:x<256):IntKind.u8.wrap x=x:=by show(if (false&&decide (x % 256 ≥ 128))=true then x % 256-256 else x % 256)=x;simp only[qiz,qxj,qWq];omega
theorem fits{n c:Nat}(h:n*c<=35184372088832):(n*c<=35184372088832)=True:=qQz h
@[simp ↓] theorem avF{α β:Type}(a:α)(f:α->Option β):ob (some a) f=f a:=rfl
@[simp] theorem anw(e:Env)(h:aI)(t:Nat):Ej e h (.tmp t)=Pav.get e t:=rfl
def cellOf(h:aI)(n:Nat)(ag:Bool):Option AV->Option AV
 |some (.ptr b i o)=>yP n ag o i (Pav.get h b)
 |_=>none
@[simp] theorem al6(e:Env)(h:aI)(t n:Nat)(ag:Bool):Ej e h (.cell t n ag)=cellOf h n ag (Pav.get e t):=rfl
attribute [simp] cellOf
@[simp] theorem avu(s:Nat)(e:Env):(Opd.t s).ev e=(Pav.get e s).getD .undef:=rfl
@[simp] theorem avE(v:AV)(e:Env):(Opd.c v).ev e=v:=rfl
@[simp ↓] theorem avv{α β:Type}(f:α->Option β):ob none f=none:=rfl
@[simp ↓] theorem avD{α β:Type}(a:α)(f:α->β):om (some a) f=some (f a):=rfl
@[simp ↓] theorem avA{α β:Type}(f:α->β):om none f=none:=rfl
@[simp] theorem avz{β:Type}(x:Option β):og true x=x:=rfl
@[simp] theorem avy{β:Type}(x:Option β):og false x=none:=rfl
@[simp] theorem avC(v:AV):ov (some v)=some (v,[]):=rfl
@[simp] theorem avs(v:AV):ovW (some v)=some (v,[]):=rfl
@[simp] theorem aph(x:AV×Upd):plainW (some x)=some (x.1,[]):=rfl
def afS{α:Type}:Option α->Option (List α)->Option (List α)
 |some a,some l=>some (a::l)
 |_,_=>none
@[simp] theorem apE{α:Type}(a:α)(l:List α):afS (some a) (some l)=some (a::l):=rfl
@[simp] theorem anQ{α β:Type}(f:α->Option β):aZ f []=some []:=rfl
@[simp] theorem am7{α β:Type}(f:α->Option β)(a:α)(r:List α):aZ f (a::r)=afS (f a) (aZ f r):=by simp only[aZ];cases f a<;>cases aZ f r<;>rfl
def ajR(k:Nat):Option AV->Option Env->Option Env
 |some v,some r=>some ((k,v)::r)
 |_,_=>none
@[simp] theorem apJ(k:Nat)(v:AV)(r:Env):ajR k (some v) (some r)=some ((k,v)::r):=rfl
@[simp] theorem amh(π:Nat->Option Nat):kH π []=some []:=rfl
@[simp] theorem ajJ(π:Nat->Option Nat)(k:Nat)(v:AV)(r:Env):kH π ((k,v)::r)=ajR k (ren π v) (kH π r):=by simp only[kH];cases ren π v<;>cases kH π r<;>rfl
def aou(i o:Nat):Option Nat->Option AV
 |some b=>some (.ptr b i o)
 |none=>none
def slO(z i l c:Nat)(ex:Bool):Option Nat->Option AV
 |some b=>some (.sl b z i l c ex)
 |none=>none
def aoJ:Option Nat->Option AV
 |some b=>some (.map b)
 |none=>none
def fnO(f:Nat):Option (List AV)->Option AV
 |some cs=>some (.fn f cs)
 |none=>none
def ED:Option (List AV)->Option AV
 |some cs=>some (.agg cs)
 |none=>none
def alg:Option (List AV)->Option AV
 |some cs=>some (.tup cs)
 |none=>none
@[simp] theorem asC(i o b:Nat):aou i o (some b)=some (.ptr b i o):=rfl
@[simp] theorem avl(z i l c:Nat)(ex:Bool)(b:Nat):slO z i l c ex (some b)=some (.sl b z i l c ex):=rfl
@[simp] theorem aug(b:Nat):aoJ (some b)=some (.map b):=rfl
@[simp] theorem avr(f:Nat)(cs:List AV):fnO f (some cs)=some (.fn f cs):=rfl
@[simp] theorem au3(cs:List AV):ED (some cs)=some (.agg cs):=rfl
@[simp] theorem auL(cs:List AV):alg (some cs)=some (.tup cs):=rfl
section
variable (π:Nat->Option Nat)
@[simp] theorem arB(b i o:Nat):ren π (.ptr b i o)=aou i o (π b):=by simp only[ren];cases π b<;>rfl
@[simp] theorem asF(b z i l c:Nat)(ex:Bool):ren π (.sl b z i l c ex)=slO z i l c ex (π b):=by simp only[ren];cases π b<;>rfl
@[simp] theorem aqW(b:Nat):ren π (.map b)=aoJ (π b):=by simp only[ren];cases π b<;>rfl
@[simp] theorem aud(f:Nat)(cs:List AV):ren π (.fn f cs)=fnO f (mQ π cs):=by simp only[ren];cases mQ π cs<;>rfl
@[simp] theorem apC(cs:List AV):ren π (.agg cs)=ED (mQ π cs):=by simp only[ren];cases mQ π cs<;>rfl
@[simp] theorem aqg(cs:List AV):ren π (.tup cs)=alg (mQ π cs):=by simp only[ren];cases mQ π cs<;>rfl
@[simp] theorem ane:ren π .undef=some .undef:=rfl
@[simp] theorem apu(b:Bool):ren π (.bool b)=some (.bool b):=rfl
@[simp] theorem aqS(k:IntKind)(n:Int):ren π (.int k n)=some (.int k n):=rfl
@[simp] theorem aqh(s:List UInt8):ren π (.str s)=some (.str s):=rfl
@[simp] theorem aoZ:ren π .eG=some .eG:=rfl
@[simp] theorem aoU:ren π .bG=some .bG:=rfl
@[simp] theorem aoD:ren π .dU=some .dU:=rfl
@[simp] theorem ao3:ren π .dW=some .dW:=rfl
@[simp] theorem aur(z:Nat)(es:List (List AV))(ex:Bool):ren π (.ro z es ex)=some (.ro z es ex):=rfl
@[simp] theorem apK(cs:List AV):ren π (.rop cs)=some (.rop cs):=rfl
@[simp] theorem aoy:mQ π []=some []:=rfl
@[simp] theorem anz(v:AV)(r:List AV):mQ π (v::r)=afS (ren π v) (mQ π r):=by simp only[mQ];cases ren π v<;>cases mQ π r<;>rfl
def acA(z:Nat)(mu dt:Bool):Option (List (List AV))->Option dD
 |some es=>some (.cells z es mu dt)
 |none=>none
@[simp] theorem aoN(z:Nat)(mu dt:Bool)(es:List (List AV)):acA z mu dt (some es)=some (.cells z es mu dt):=rfl
@[simp] theorem ang(z:Nat)(es:List (List AV))(mu:Bool):iH π (.cells z es mu true)=some (.cells z es mu true):=rfl
@[simp] theorem ana(z:Nat)(es:List (List AV))(mu:Bool):iH π (.cells z es mu false)=acA z mu false (aZ (mQ π) es):=by simp only[iH];cases aZ (mQ π) es<;>rfl
@[simp] theorem al4(es:List (AV×AV)):iH π (.map es)=some (.map es):=rfl
@[simp] theorem aj7(s:List UInt8)(p:Nat):iH π (.iter s p)=some (.iter s p):=rfl
def Yp(k:Nat):Option dD->Option aI->Option aI
 |some v,some r=>some ((k,v)::r)
 |_,_=>none
@[simp] theorem aq5(k:Nat)(v:dD)(r:aI):Yp k (some v) (some r)=some ((k,v)::r):=rfl
@[simp] theorem akA(base:Nat):jU base π []=some []:=rfl
@[simp] theorem ajx(base b:Nat)(o:dD)(r:aI):jU base π ((b,o)::r)=if b<base then Yp b (iH π o) (jU base π r)else jU base π r:=by
 simp only[jU];split
 ·cases iH π o<;>cases jU base π r<;>rfl
 ·rfl
def newH(n:Nat)(π:Nat->Option Nat)(r:Option aI):Option dD->Option aI
 |some o=>Yp n (iH π o) r
 |none=>r
@[simp] theorem as8(n:Nat)(r:Option aI)(o:dD):newH n π r (some o)=Yp n (iH π o) r:=rfl
@[simp] theorem atd(n:Nat)(r:Option aI):newH n π r none=r:=rfl
@[simp] theorem akV(h:aI)(n:Nat):mP π h n []=some []:=rfl
@[simp] theorem ajS(h:aI)(n b:Nat)(r:List Nat):mP π h n (b::r)=newH n π (mP π h (n+1) r) (Pav.get h b):=by
 simp only[mP,newH];cases Pav.get h b with
 |none=>rfl
 |some o=>simp only;cases iH π o<;>cases mP π h (n+1) r<;>rfl
end
def aoT(n:Nat):Option Env->Option aI->Option aI->Option WSt
 |some e,some h1,some h2=>some ⟨e,h1++h2,n⟩
 |_,_,_=>none
@[simp] theorem asD(n:Nat)(e:Env)(h1 h2:aI):aoT n (some e) (some h1) (some h2)=some ⟨e,h1++h2,n⟩:=rfl
@[simp] theorem ajH(base:Nat)(s:WSt)(L:List Nat):renumber base s L=aoT (base+L.length) (kH (iF base L) s.env) (jU base (iF base L) s.heap) (mP (iF base L) s.heap base L):=by simp only[renumber];cases kH (iF base L) s.env<;>cases jU base (iF base L) s.heap<;>cases mP (iF base L) s.heap base L<;>rfl
def apj(h:aI)(nid zl bytes:Nat)(s:AV):Option (List (List AV)×Bool)->Option (AV×dV)
 |some (xs,d)=>kK h nid zl bytes s xs d
 |none=>none
@[simp] theorem auz(h:aI)(nid zl bytes:Nat)(s:AV)(xs:List (List AV))(d:Bool):apj h nid zl bytes s (some (xs,d))=kK h nid zl bytes s xs d:=rfl
@[simp] theorem asO(z:List AV)(bytes:Nat)(s x:Opd)(e:Env)(h:aI)(n:Nat):Uo z bytes false s x e h n=apj h n z.length bytes (s.ev e) (kF h z.length (x.ev e)):=by simp only[Uo,qxj,qWq];cases kF h z.length (x.ev e)<;>rfl
def adP(h:aI)(nid:Nat)(z:List AV)(bytes:Nat)(s:AV):AV->Option (AV×dV)
 |.int _ n=>ob (nat? n) λn=>if n*(bytes+1)<=dA then kK h nid z.length bytes s (List.replicate n z) (z.all isC)else none
 |_=>none
@[simp] theorem auP(z:List AV)(bytes:Nat)(s x:Opd)(e:Env)(h:aI)(n:Nat):Uo z bytes true s x e h n=adP h n z bytes (s.ev e) (x.ev e):=by simp only[Uo,qyx];cases x.ev e<;>rfl
def anB(h:aI)(z:Nat)(d:AV):Option (List (List AV)×Bool)->Option (AV×dV)
 |some (xs,b)=>qU h z xs b d
 |none=>none
@[simp] theorem auo(h:aI)(z:Nat)(d:AV)(xs:List (List AV))(b:Bool):anB h z d (some (xs,b))=qU h z xs b d:=rfl
@[simp] theorem apF(z:Nat)(d s:Opd)(e:Env)(h:aI)(n:Nat):abt z d s e h n=anB h z (d.ev e) (kF h z (s.ev e)):=by simp only[abt];cases kF h z (s.ev e)<;>rfl
attribute [simp] adP
@[simp] theorem auJ{α β γ:Type}(x:Option α)(g:α->β)(f:β->Option γ):ob (Option.map g x) f=ob x λa=>f (g a):=by cases x<;>rfl
section
variable (h:aI)(nid zl bytes:Nat)(xs:List (List AV))(d:Bool)
@[simp] theorem aku:kK h nid zl bytes .bG xs d=if xs.isEmpty=true then some (.bG,[])else mX nid zl xs.length bytes xs d:=by cases xs<;>rfl
@[simp] theorem anf(z:Nat)(es:List (List AV))(ex:Bool):kK h nid zl bytes (.ro z es ex) xs d =
 if z=zl then(if xs.isEmpty=true then some (.ro z es ex,[])else if ex=true then mX nid zl (es.length+xs.length) bytes (es++xs) d else none)else none:=by cases xs<;>rfl
@[simp] theorem ant(b z i len cap:Nat)(ex:Bool):kK h nid zl bytes (.sl b z i len cap ex) xs d =
 if z=zl then(if xs.isEmpty=true then some (.sl b z i len cap ex,[])else NV (Pav.get h b) nid zl bytes b i len cap ex xs d (len+xs.length))else none:=by cases xs<;>rfl
end
def pK(h:aI)(n z i len cap:Nat)(ex:Bool):Option dD->Option AV
 |some (.cells _ es _ true)=>og (decide (((es.drop i).take len).length=len)) (some (.ro z ((es.drop i).take len) (ex&&decide (cap=len))))
 |some (.cells _ es _ false)=>ob (aZ (aZ (bD h n)) ((es.drop i).take len)) λes'=>og (decide (es'.length=len)&&es'.all λe=>e.all isC) (some (.ro z es' (ex&&decide (cap=len))))
 |_=>none
def ah8(h:aI)(n i o:Nat):Option dD->Option AV
 |some (.cells _ es _ true)=>ob es[i]? λcs=>some (.rop (cs.drop o))
 |some (.cells _ es _ false)=>ob es[i]? λcs=>ob (aZ (bD h n) (cs.drop o)) λcs'=>some (.rop cs')
 |_=>none
def Xz(h:aI)(n i o:Nat):Option dD->List Nat
 |some (.cells _ es _ false)=>((es[i]?.getD []).drop o).flatMap (aQ h n)
 |_=>[]
def Vu(h:aI)(n i len:Nat):Option dD->List Nat
 |some (.cells _ es _ false)=>((es.drop i).take len).flatMap λe=>e.flatMap (aQ h n)
 |_=>[]
section
variable (h:aI)(n:Nat)
@[simp] theorem am8(b:Bool):bD h (n+1) (.bool b)=some (.bool b):=rfl
@[simp] theorem an6(k:IntKind)(x:Int):bD h (n+1) (.int k x)=some (.int k x):=rfl
@[simp] theorem aoe(s:List UInt8):bD h (n+1) (.str s)=some (.str s):=rfl
@[simp] theorem anp:bD h (n+1) .eG=some .eG:=rfl
@[simp] theorem am6:bD h (n+1) .bG=some .bG:=rfl
@[simp] theorem ano:bD h (n+1) .dU=some .dU:=rfl
@[simp] theorem anl:bD h (n+1) .dW=some .dW:=rfl
@[simp] theorem Hf(z:Nat)(es:List (List AV))(ex:Bool):bD h (n+1) (.ro z es ex)=some (.ro z es ex):=rfl
@[simp] theorem aok(cs:List AV):bD h (n+1) (.rop cs)=some (.rop cs):=rfl
@[simp] theorem ark(f:Nat)(cs:List AV):bD h (n+1) (.fn f cs)=fnO f (aZ (bD h n) cs):=by simp only[bD];cases aZ (bD h n) cs<;>rfl
@[simp] theorem fO(cs:List AV):bD h (n+1) (.agg cs)=ED (aZ (bD h n) cs):=by simp only[bD];cases aZ (bD h n) cs<;>rfl
@[simp] theorem anW(cs:List AV):bD h (n+1) (.tup cs)=alg (aZ (bD h n) cs):=by simp only[bD];cases aZ (bD h n) cs<;>rfl
@[simp] theorem ji(b z i len cap:Nat)(ex:Bool):bD h (n+2) (.sl b z i len cap ex)=pK h (n+1) z i len cap ex (Pav.get h b):=by
 simp only[bD,pK];split
 ·rename_i hg;rw[hg];rename_i dt;cases dt<;>rfl
 ·rename_i hg;split
  ·rename_i h1;exact absurd h1 (hg _ _ _ _)
  ·rename_i h1;exact absurd h1 (hg _ _ _ _)
  ·rfl
@[simp] theorem aej(b i o:Nat):bD h (n+2) (.ptr b i o)=ah8 h (n+1) i o (Pav.get h b):=by
 simp only[bD,ah8];split
 ·rename_i hg;rw[hg];rename_i es _ dt;cases dt
  ·simp only[qxj,qWq];cases es[i]? with
   |none=>rfl
   |some cs=>simp only[ob];cases aZ (bD h (n+1)) (cs.drop o)<;>rfl
  ·rfl
 ·rename_i hg;split
  ·rename_i h1;exact absurd h1 (hg _ _ _ _)
  ·rename_i h1;exact absurd h1 (hg _ _ _ _)
  ·rfl
@[simp] theorem amJ(b i o:Nat):aQ h (n+1) (.ptr b i o)=b::Xz h n i o (Pav.get h b):=by
 simp only[aQ,Xz];congr 1;split
 ·rename_i hg;rw[hg];rename_i dt;cases dt<;>rfl
 ·rename_i hg;split
  ·rename_i h1;exact absurd h1 (hg _ _ _ _)
  ·rfl
@[simp] theorem akc(b:Bool):aQ h (n+1) (.bool b)=[]:=rfl
@[simp] theorem amo(k:IntKind)(x:Int):aQ h (n+1) (.int k x)=[]:=rfl
@[simp] theorem amQ(s:List UInt8):aQ h (n+1) (.str s)=[]:=rfl
@[simp] theorem ajQ:aQ h (n+1) .eG=[]:=rfl
@[simp] theorem ajM:aQ h (n+1) .bG=[]:=rfl
@[simp] theorem akk:aQ h (n+1) .dU=[]:=rfl
@[simp] theorem aj1:aQ h (n+1) .dW=[]:=rfl
@[simp] theorem am9(z:Nat)(es:List (List AV))(ex:Bool):aQ h (n+1) (.ro z es ex)=[]:=rfl
@[simp] theorem akZ(cs:List AV):aQ h (n+1) (.rop cs)=[]:=rfl
@[simp] theorem anb(f:Nat)(cs:List AV):aQ h (n+1) (.fn f cs)=cs.flatMap (aQ h n):=rfl
@[simp] theorem alE(cs:List AV):aQ h (n+1) (.agg cs)=cs.flatMap (aQ h n):=rfl
@[simp] theorem amD(cs:List AV):aQ h (n+1) (.tup cs)=cs.flatMap (aQ h n):=rfl
@[simp] theorem ank(b z i len cap:Nat)(ex:Bool):aQ h (n+1) (.sl b z i len cap ex)=b::Vu h n i len (Pav.get h b):=by
 simp only[aQ,Vu];congr 1;split
 ·rename_i hg;rw[hg];rename_i dt;cases dt<;>rfl
 ·rename_i hg;split
  ·rename_i h1;exact absurd h1 (hg _ _ _ _)
  ·rfl
@[simp] theorem aiq(b:Bool):dG (n+1) (.bool b)=false:=rfl
@[simp] theorem ajG(k:IntKind)(x:Int):dG (n+1) (.int k x)=false:=rfl
@[simp] theorem akp(s:List UInt8):dG (n+1) (.str s)=false:=rfl
@[simp] theorem aiN:dG (n+1) .eG=false:=rfl
@[simp] theorem ag4:dG (n+1) .bG=false:=rfl
@[simp] theorem agf:dG (n+1) .dU=false:=rfl
@[simp] theorem ah7:dG (n+1) .dW=false:=rfl
@[simp] theorem amV(z:Nat)(es:List (List AV))(ex:Bool):dG (n+1) (.ro z es ex)=true:=rfl
@[simp] theorem ajO(cs:List AV):dG (n+1) (.rop cs)=true:=rfl
@[simp] theorem alr(f:Nat)(cs:List AV):dG (n+1) (.fn f cs)=cs.any (dG n):=rfl
@[simp] theorem akr(cs:List AV):dG (n+1) (.agg cs)=cs.any (dG n):=rfl
@[simp] theorem ajY(cs:List AV):dG (n+1) (.tup cs)=cs.any (dG n):=rfl
end
def imax(a b:Int):Int:=if b > a then b else a
def wC(a b:Int):Int:=if b<a then b else a
theorem JO{a b:Int}(h:b<=a):imax a b=a:=by unfold imax;rw[qwx qqq]
theorem WY{a b:Int}(h:a<=b):imax a b=b:=by unfold imax;split<;>omega
theorem amm{a b:Int}(h:a<=b):wC a b=a:=by unfold wC;rw[qwx qqq]
theorem amG{a b:Int}(h:b<=a):wC a b=b:=by unfold wC;split<;>omega
def mxV:AV->AV->Option (AV×Upd)
 |.int k a,.int k' b=>if k=k' then some (.int k (imax a b),[])else none
 |_,_=>none
def mnV:AV->AV->Option (AV×Upd)
 |.int k a,.int k' b=>if k=k' then some (.int k (wC a b),[])else none
 |_,_=>none
@[simp] theorem asJ(x y:Opd)(e:Env)(h:Heap)(n:Nat):sMx x y e h n=mxV (x.ev e) (y.ev e):=rfl
@[simp] theorem as9(x y:Opd)(e:Env)(h:Heap)(n:Nat):sMn x y e h n=mnV (x.ev e) (y.ev e):=rfl
attribute [simp] mxV mnV
@[simp] theorem alx(base:Nat)(cn:Bool)(lv:List Nat)(s:WSt):pX base ⟨cn,lv,[]⟩ s=canon base ⟨cn,lv,[]⟩ s:=rfl
@[simp] theorem akq(base:Nat)(cn:Bool)(lv:List Nat)(p:Nat×Nat)(r:List (Nat×Nat))(s:WSt):pX base ⟨cn,lv,p::r⟩ s=ob (mM (KA (p::r)) s) (canon base ⟨cn,lv,p::r⟩):=rfl
attribute [simp] KA mM sS
attribute [simp] List.getElem?_cons_zero pK Vu ah8 Xz
attribute [simp] stepW V7 amN X5 Q7 lG af5 Aj yP qQ Oh wH Js splice WO aeG YS OE found agl VX VO YK Ef ak3 rU Rq kF mX NV
 Qs qU ain EN XD sMv Fv ET qH mZ adv zB Eh Ey Ag sU Kq iJ eqFn MX Nv MG iI Ed Yb kM iD sUn Tn Uz TD UM Vb Ec Es gZ Ih CG J6 jZ ig nD ku vX bound oev
 NS FW Gg uI FI uz qN FB TJ sCap zG AV.cells AV.cell isC isD Pav.get Pav.put fC tH bT BI del readsOf eH canon Zi WQ lu Dc MW JB Yl tV iF place close
 Gv uV refs FD Rk bf pI cu bW KF Et gX aO Fh aC vP dA jP kJ Fq adQ WL meets WE
def rep{α:Type}(n:Nat)(a:α):List α:=List.replicate n a
section
variable {α β:Type}(n:Nat)(a:α)
@[simp] theorem al3:(rep n a).length=n:=List.length_replicate
@[simp] theorem apN(f:α->β):List.map f (rep n a)=rep n (f a):=List.map_replicate
@[simp] theorem ap7(p:α->Bool):(rep (n+1) a).all p=p a:=by unfold rep;rw[List.all_replicate];simp
@[simp] theorem ajC{i:Nat}(h:i<(rep n a).length):(rep n a)[i]=a:=by unfold rep;exact List.getElem_replicate _
@[simp] theorem af7:List.take n (rep n a)=rep n a:=qxz qqz
@[simp] theorem anR(n:Nat):(rep (n+1) a).isEmpty=false:=rfl
end
end Go.Pw
end
section
namespace Go.Pw
open Go Go.Pav
inductive ZO where
 |p (d:Option (Option Nat)) (g:Option (Nat×Bool)) (x:COp)
def zt:List Nat->List Opd
 |[]=>[]
 |a::r=>.t a::zt r
namespace Z
def y(s:Nat):ZO->ZO
 |.p d _ x=>.p d (some (s,true)) x
def z(s:Nat):ZO->ZO
 |.p d _ x=>.p d (some (s,false)) x
def d(k:Nat):ZO->ZO
 |.p _ g x=>.p (some (some k)) g x
def n:ZO->ZO
 |.p _ g x=>.p (some none) g x
def m(a:Nat):ZO:=.p none none (.mv (.t a))
def i(k:Int):ZO:=.p none none (.mv (.c (.int .i64 k)))
def l(k a:Nat):ZO:=.p none none (.load k false (.t a))
def h(k a:Nat):ZO:=.p none none (.load k true (.t a))
def f(o a:Nat):ZO:=.p none none (.fld o (.t a))
def po(a b:Nat):ZO:=.p none none (.pick (.t a) (.c (.bool true)) (.t b))
def pa(a b:Nat):ZO:=.p none none (.pick (.t a) (.t b) (.c (.bool false)))
def ln(k a:Nat):ZO:=.p none none (.len k (.t a))
def ix(k a b:Nat):ZO:=.p none none (.idxs k (.t a) (.t b))
def ex(k a:Nat):ZO:=.p none none (.ext k (.t a))
def nk(a:Nat):ZO:=.p none none (.jS (.t a))
def bx(a:Nat):ZO:=.p none none (.box (.t a))
def nt(a:Nat):ZO:=.p none none (.un .not (.t a))
def st(k a b:Nat):ZO:=.p none none (.store k (.t a) (.t b))
def E(x:COp):ZO:=.p none none x
def tt:ZO:=.p none none (.mv (.c (.bool true)))
def ff:ZO:=.p none none (.mv (.c (.bool false)))
def ca(g:Nat)(q:List Nat):ZO:=.p none none (.call g (zt q))
def eq(a b:Nat):ZO:=.p none none (.bin .eql (.t a) (.t b))
def eqi(a:Nat)(k:Int):ZO:=.p none none (.bin .eql (.t a) (.c (.int .i64 k)))
def ne(a b:Nat):ZO:=.p none none (.bin .neq (.t a) (.t b))
def nei(a:Nat)(k:Int):ZO:=.p none none (.bin .neq (.t a) (.c (.int .i64 k)))
def lt(a b:Nat):ZO:=.p none none (.bin .lss (.t a) (.t b))
def lti(a:Nat)(k:Int):ZO:=.p none none (.bin .lss (.t a) (.c (.int .i64 k)))
def le(a b:Nat):ZO:=.p none none (.bin .leq (.t a) (.t b))
def lei(a:Nat)(k:Int):ZO:=.p none none (.bin .leq (.t a) (.c (.int .i64 k)))
def gt(a b:Nat):ZO:=.p none none (.bin .gtr (.t a) (.t b))
def gti(a:Nat)(k:Int):ZO:=.p none none (.bin .gtr (.t a) (.c (.int .i64 k)))
def ge(a b:Nat):ZO:=.p none none (.bin .geq (.t a) (.t b))
def gei(a:Nat)(k:Int):ZO:=.p none none (.bin .geq (.t a) (.c (.int .i64 k)))
def ad(a b:Nat):ZO:=.p none none (.bin .add (.t a) (.t b))
def adi(a:Nat)(k:Int):ZO:=.p none none (.bin .add (.t a) (.c (.int .i64 k)))
def sb(a b:Nat):ZO:=.p none none (.bin .sub (.t a) (.t b))
def sbi(a:Nat)(k:Int):ZO:=.p none none (.bin .sub (.t a) (.c (.int .i64 k)))
end Z
def zo:Nat->List ZO->List bn
 |_,[]=>[]
 |k,.p none g x::r=>⟨some k,g,x⟩::zo (k+1) r
 |k,.p (some j) g x::r=>⟨j,g,x⟩::zo k r
inductive ZC where
 |O (k:Nat) (l:List ZO)
 |Q (k:Nat) (l:List ZO) (s:List Nat)
 |R (k:Nat) (l:List ZO) (a:Ann)
 |U (k:Nat) (l:List ZO) (u:List (Nat×Nat)) (s:List Nat)
 |V (k:Nat) (l:List ZO) (u:List (Nat×Nat)) (a:Ann)
 |s (a b:ZC)
 |r (a:ZC)
 |c (t:Nat) (a:ZC)
 |cc (t:Nat) (a b:ZC)
 |cd (x:Opd) (a b:ZC)
 |B (j:Nat) (a:ZC)
 |bk (j:Nat) (a:ZC) (x:Ann)
 |lp (x:Ann) (a:ZC)
 |ee (j:Nat)
 |w (x:aB)
instance:Coe aB ZC:=⟨.w⟩
def zc:ZC->aB
 |.O k l=>.ops (zo k l) ⟨false,[],[]⟩
 |.Q k l s=>.ops (zo k l) ⟨true,s,[]⟩
 |.R k l a=>.ops (zo k l) a
 |.U k l u s=>.draw (zo k l) u ⟨true,s,[]⟩
 |.V k l u a=>.draw (zo k l) u a
 |.s a b=>.seq (zc a) (zc b)
 |.r a=>.seq (zc a) .ret
 |.c t a=>.cond (.t t) (zc a) .skip
 |.cc t a b=>.cond (.t t) (zc a) (zc b)
 |.cd x a b=>.cond x (zc a) (zc b)
 |.B j a=>.block j (zc a) ⟨false,[],[]⟩
 |.bk j a x=>.block j (zc a) x
 |.lp x a=>.loop x (zc a)
 |.ee j=>.exit j
 |.w x=>x
abbrev T(a:Nat):Opd:=.t a
abbrev N(n:Int):Opd:=.c (.int .i64 n)
abbrev zd(x:ZC){y:aB}(_h:zc x=y:=by dsimp only[zc,zo,zt,T,N,Z.y,Z.z,Z.d,Z.n,Z.m,Z.i,Z.l,Z.h,Z.f,Z.po,Z.pa,Z.ln,Z.ix,Z.ex,Z.nk,Z.bx,Z.nt,Z.st,Z.E,Z.tt,Z.ff,Z.ca,Z.eq,Z.eqi,Z.ne,Z.nei,Z.lt,Z.lti,Z.le,Z.lei,Z.gt,Z.gti,Z.ge,Z.gei,Z.ad,Z.adi,Z.sb,Z.sbi]):aB:=y
abbrev ZL(L B:aB)(a:Ann):Prop:=∀{β:Type}{C:aJ}{b:Nat}{f:Ex×WSt->Option β}{k:List Pw.Frame}{s:WSt},CK C b f k L s=LK C b f (.sq L::k) B (canon b a s)
end Go.Pw
end
