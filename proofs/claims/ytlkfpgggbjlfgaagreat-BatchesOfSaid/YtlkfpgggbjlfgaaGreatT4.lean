/- Part of the theory that the claims of this work use: PwSim, PwCanon, PwCode, PwDen, PwCk, PwSimp, PwZip. No conditions of its own. -/
import Derived.Test.YtlkfpgggbjlfgaaGreatT3
section
set_option linter.unusedSimpArgs false
set_option linter.unusedVariables false
namespace Go.Pw
open Go Go.Pav
def Keeps (ρ:Nat->Nat) (V A:Nat->Prop) (ρ':Nat->Nat) (V' A':Nat->Prop):Prop:=∀ b,A b->A' b/\ρ' b=ρ b/\(V' b↔V b)
theorem Keeps.refl (ρ:Nat->Nat) (V A:Nat->Prop):Keeps ρ V A ρ V A:=λ_ h=>⟨h,rfl,zQq⟩
theorem Keeps.trans {ρ ρ1 ρ2:Nat->Nat} {V A V1 A1 V2 A2:Nat->Prop} (h:Keeps ρ V A ρ1 V1 A1) (k:Keeps ρ1 V1 A1 ρ2 V2 A2):Keeps ρ V A ρ2 V2 A2:=λb hb=>by obtain ⟨h1,h2,h3⟩:=h b hb;obtain ⟨k1,k2,k3⟩:=k b h1;exact ⟨k1,k2.trans h2,k3.trans h3⟩
structure Lts (ρ:Nat->Nat) (V A:Nat->Prop) (n m:Nat):Prop where
 w:∀ b,A b->b < n
 p:∀ b,A b->¬ V b->ρ b < m
def zB (run:yQ) (run':Run):Prop :=
 ∀ (f:Nat) (args:List AV) (h:aG) (n:Nat) (v:AV) (h1:aG) (n1:Nat),run f args h n=some (v,h1,n1) ->
  ∀ (ρ:Nat->Nat) (V A:Nat->Prop) (args':List AV) (h':Heap) (m:Nat),bC (VW ρ V A) args args'->HW ρ V A h h'->Lts ρ V A n m ->
   ∃ v' h1' m1 ρ' V' A',run' f args' h' m=some (v',h1',m1)/\VW ρ' V' A' v v'/\HW ρ' V' A' h1 h1'/\Lts ρ' V' A' n1 m1/\Keeps ρ V A ρ' V' A' /\
    (∀ b,A' b->A b\/n<=b)/\(∀ b,A' b->¬ V' b->(A b/\ρ' b=ρ b)\/m<=ρ' b)/\n<=n1/\m<=m1
def V9 (d:kY):List Nat:=match d.bar with | true=>d.wr.tail | false=>d.wr
structure Si (ρ:Nat->Nat) (V A:Nat->Prop) (nid n mid m:Nat) (d:kY) (d':Did) (ρ':Nat->Nat) (V' A':Nat->Prop):Prop where
 v:VW ρ' V' A' d.v d'.v
 h:HW ρ' V' A' d.h d'.h
 keeps:Keeps ρ V A ρ' V' A'
 new:∀ b,A' b->A b\/b=nid\/n<=b
 ah1:∀ b,A' b->¬ V' b->(A b/\ρ' b=ρ b)\/ρ' b=mid\/m<=ρ' b
 lt:Lts ρ' V' A' d.n d'.n
 next:n<=d.n
 XP:m<=d'.n
 bar:d'.bar=true->d.bar=true/\d.wr=[]
 rd:∀ b ∈ d'.rd,∃ c ∈ d.rd,b=ρ' c/\¬ V' c/\A' c
 wr:∀ b ∈ d'.wr,(∃ c ∈ V9 d,b=ρ' c/\¬ V' c/\A' c)\/∃ k w,d.bar=true/\d.wr=k::w/\m<=b/\b < d'.n/\∀ c,A' c->¬ V' c->ρ' c=b->k<=c
section
variable {ρ:Nat->Nat} {V A:Nat->Prop} {n m:Nat} {h:aG} {h':Heap} {e e':Env} {C:aH} {run:yQ} {run':Run}
theorem Z8:∀ (v:AV),bY v=true->∀ (u:AV),VW ρ V A v u->bY u=true:=by
 intro v;refine AV.rec (motive_1:=λv=>bY v=true->∀ (u:AV),VW ρ V A v u->bY u=true) (motive_2:=λ_=>True) (motive_3:=λl=>bV l=true->∀ l',bC (VW ρ V A) l l'->bV l'=true) ?_ ?_ ?_ ?_ ?_ ?_ ?_ ?_ ?_ ?_ ?_ ?_ ?_ ?_ ?_ ?_ ?_ ?_ ?_ ?_ v
 ·intro hp;simp [bY] at hp
 ·intro b hp;simp [bY] at hp
 ·intro b c hp;simp [bY] at hp
 ·intro b hp;simp [bY] at hp
 ·intro hp;simp [bY] at hp
 ·intro hp;simp [bY] at hp
 ·intro hp;simp [bY] at hp
 ·intro hp;simp [bY] at hp
 ·intro z es ex _ hp;simp [bY] at hp
 ·intro z _ hp;simp [bY] at hp
 ·intro b i o _ u hu;rw [hu.jl.1];rfl
 ·intro b z i len cap ex hp;simp [bY] at hp
 ·intro b _ u hu;rw [hu.yJ.1];rfl
 ·intro f cs ih hp u hu;obtain ⟨cs',rfl,hr⟩:=hu.zI;simp only [bY];exact ih (by simpa only [bY] using hp) cs' hr
 ·intro cs ih hp u hu;obtain ⟨cs',rfl,hr⟩:=hu.nH;simp only [bY];exact ih (by simpa only [bY] using hp) cs' hr
 ·intro cs ih hp u hu;obtain ⟨cs',rfl,hr⟩:=hu.uJ;simp only [bY];exact ih (by simpa only [bY] using hp) cs' hr
 ·trivial
 ·intros;trivial
 ·intro hp;simp [bV] at hp
 ·intro v l ih1 ih2 hp l' hr;obtain ⟨u,t,rfl,h1,h2⟩:=hr.dK;simp only [bV,qtz] at hp |-;rcases hp with hp | hp
  ·exact .inl (ih1 hp u h1)
  ·exact .inr (ih2 hp t h2)
theorem Xk:∀ (l:List AV),bV l=true->∀ l',bC (VW ρ V A) l l'->bV l'=true:=by
 intro l;induction l with
 | nil=>intro hp;simp [bV] at hp
 | cons v l ih =>
  intro hp l' hr;obtain ⟨u,t,rfl,h1,h2⟩:=hr.dK;simp only [bV,qtz] at hp |-;rcases hp with hp | hp
  ·exact .inl (Z8 v hp u h1)
  ·exact .inr (ih hp t h2)
theorem adQ:∀ (n:Nat) (v u v':AV),VW ρ V A v u->bK h n v=some v'->bY v=false->bY u=false:=by
 intro n;induction n with
 | zero=>intro v u v' _ hf;simp [bK] at hf
 | succ n ih =>
  have lst:∀ (l l' r:List AV),bC (VW ρ V A) l l'->aZ (bK h n) l=some r->bV l=false->bV l'=false:=by
   intro l;induction l with
   | nil=>intro l' r hr _ _;rw [hr.eU];rfl
   | cons a l ihl =>intro l' r hr hm hp;obtain ⟨b,t,rfl,h1,h2⟩:=hr.dK;simp only [aZ] at hm;obtain ⟨x,h3,hm⟩:=au hm;obtain ⟨xs,h4,rfl⟩:=aB hm;simp only [bV,qZq] at hp |-;exact ⟨ih a b x h1 h3 hp.1,ihl t xs h2 h4 hp.2⟩
  intro v u v' hv hf hp;cases v with
  | undef=>simp [bK] at hf
  | bool b=>rw [hv.fU];simp [bY]
  | int k x=>rw [hv.dV];simp [bY]
  | str s=>rw [hv.iL];simp [bY]
  | eH=>cases hv;simp [bY]
  | bF=>cases hv;simp [bY]
  | dU=>cases hv;simp [bY]
  | bQ=>cases hv;simp [bY]
  | ro z es ex=>rcases hv.mO with ⟨rfl,rfl⟩ | ⟨es',ex',rfl,_,_,_⟩ <;> simp [bY]
  | rop cs=>obtain ⟨cs',rfl,_⟩:=hv.uT;simp [bY]
  | ptr b i o=>simp [bY] at hp
  | map b=>simp [bY] at hp
  | sl b z i len cap ex =>
   rcases hv.jY with ⟨_,_,ex',rfl,_⟩ | ⟨_,_,rfl,rfl,rfl,hu⟩
   ·simp [bY]
   ·rcases hu with rfl | rfl <;> simp [bY]
  | fn f cs =>obtain ⟨cs',rfl,hr⟩:=hv.zI;simp only [bK] at hf;obtain ⟨r,h1,rfl⟩:=aB hf;simp only [bY] at hp |-;exact lst cs cs' r hr h1 hp
  | agg cs =>obtain ⟨cs',rfl,hr⟩:=hv.nH;simp only [bK] at hf;obtain ⟨r,h1,rfl⟩:=aB hf;simp only [bY] at hp |-;exact lst cs cs' r hr h1 hp
  | tup cs =>obtain ⟨cs',rfl,hr⟩:=hv.uJ;simp only [bK] at hf;obtain ⟨r,h1,rfl⟩:=aB hf;simp only [bY] at hp |-;exact lst cs cs' r hr h1 hp
theorem ZX {n:Nat}:∀ (l l' r:List AV),bC (VW ρ V A) l l'->aZ (bK h n) l=some r->bV l=false->bV l'=false:=by
 intro l;induction l with
 | nil=>intro l' r hr _ _;rw [hr.eU];rfl
 | cons a l ihl =>intro l' r hr hm hp;obtain ⟨b,t,rfl,h1,h2⟩:=hr.dK;simp only [aZ] at hm;obtain ⟨x,h3,hm⟩:=au hm;obtain ⟨xs,h4,rfl⟩:=aB hm;simp only [bV,qZq] at hp |-;exact ⟨adQ n a b x h1 h3 hp.1,ihl t xs h2 h4 hp.2⟩
theorem SA (hr:zB run run') {f:Nat} {az az':List AV} {v:AV} (ha:bC (VD ρ V) az az') (hp:jK run f az=some v):∃ v',rW run' f az'=some v'/\VD ρ V v v':=by obtain ⟨⟨v0,h0,n0⟩,h1,h2⟩:=au hp;obtain ⟨v',h1',m1,ρ',V',A',r1,r2,r3,_⟩:=hr f az [] 0 v0 h0 n0 h1 ρ (λ_=>False) (λ_=>False) az' [] 0 (ha.mono λx x' _ hx=>hx.data) ⟨λb o hb=>by simp [Pav.get] at hb,λb o hb=>by simp [Pav.get] at hb,λb o hb=>by simp [Pav.get] at hb,λb hb=>hb.elim,λb c hb=>hb.elim⟩ ⟨λb hb=>hb.elim,λb hb=>hb.elim⟩;obtain ⟨u',r4,r5⟩:=H8 r3 _ _ _ _ r2 h2;exact ⟨u',by unfold rW;rw [r1];exact r4,r5.data⟩
theorem rH:∀ (u v:dW) (h:aG),bU h (u++v)=bU (bU h u) v:=by
 intro u;induction u with
 | nil=>intro v h;rfl
 | cons x u ih=>intro v h;obtain ⟨b,o⟩:=x;simp only [qfz,bU];exact ih v _
theorem agZ (H:HW ρ V A h h') {nid:Nat} (hn:¬ A nid) (mid z:Nat) (mu dt:Bool):HW (up ρ nid mid) (addN V nid) (addN A nid) (put h nid (.cells z [] mu dt)) h':=by
 have hold:∀ b,A b->addN A nid b/\up ρ nid mid b=ρ b/\(addN V nid b↔V b):=by
  intro b hb;have hne:b≠nid:=λe=>hn (e ▸ hb);refine ⟨.inl hb,by simp [up,hne],⟨λq=>?_,λq=>.inl q⟩⟩;rcases q with q | q
  ·exact q
  ·exact absurd q hne
 constructor
 ·intro b o hb;rw [get_put] at hb;split at hb
  ·rename_i e;exact .inr e.symm
  ·exact .inl (H.dom b o hb)
 ·intro b o hb hv;rw [get_put] at hb;split at hb
  ·cases hb;exact ⟨z,mu,dt,rfl⟩
  ·rename_i e;rcases hv with q | q
   ·exact H.uZ b o hb q
   ·exact absurd q.symm e
 ·intro b o hb hv;rw [get_put] at hb;split at hb
  ·rename_i e;exact absurd (.inr e.symm) hv
  ·have hA:=H.dom b o hb;obtain ⟨_,q2,q3⟩:=hold b hA;obtain ⟨o',r1,r2⟩:=H.obj b o hb λq=>hv (.inl q);refine ⟨o',by rw [q2];exact r1,r2.mono hold⟩
 ·rintro b (q | q)
  ·exact .inl (H.sub b q)
  ·exact .inr q
 ·rintro b c (hb | hb) (hc | hc) h1 h2 he
  ·obtain ⟨_,p2,_⟩:=hold b hb;obtain ⟨_,q2,_⟩:=hold c hc;rw [p2,q2] at he;exact H.inj b c hb hc (λq=>h1 (.inl q)) (λq=>h2 (.inl q)) he
  ·exact absurd (.inr hc) h2
  ·exact absurd (.inr hb) h1
  ·exact hb.trans hc.symm
theorem IQ (n b:Nat):∀ (h1 h:aG),get (bU h (Fe n h1)) b=if n<=b then (match get h1 b with | some o=>some o | none=>get h b) else get h b:=by
 intro h1;induction h1 with
 | nil=>intro h;simp [Fe,bU,Pav.get]
 | cons x r ih =>
  intro h;obtain ⟨c,o⟩:=x;by_cases hc:n<=c
  ·have e:Fe n ((c,o)::r)=Fe n r++[(c,some o)]:=by simp [Fe,hc]
   rw [e,rH];simp only [bU,FU,get_put,Pav.get];by_cases q:c=b
   ·subst q;simp [hc]
   ·simp only [qwq q];exact ih h
  ·have e:Fe n ((c,o)::r)=Fe n r:=by simp [Fe,hc]
   rw [e,ih h];simp only [Pav.get];by_cases q:c=b
   ·subst q;simp [hc]
   ·simp only [qwq q]
theorem HW.union {ρ1:Nat->Nat} {V1 A1:Nat->Prop} {h1:aG} {h1':Heap} (H:HW ρ V A h h') (H1:HW ρ1 V1 A1 h1 h1') (hA:∀ b,A b->b < n) (hA1:∀ b,A1 b->n<=b) (hp:∀ b,A b->¬ V b->ρ b < m) {m1:Nat} (hp1:∀ b,A1 b->¬ V1 b->m<=ρ1 b/\ρ1 b < m1) :
 Keeps ρ V A (λb=>if n<=b then ρ1 b else ρ b) (λb=>V b\/V1 b) (λb=>A b\/A1 b)/\Keeps ρ1 V1 A1 (λb=>if n<=b then ρ1 b else ρ b) (λb=>V b\/V1 b) (λb=>A b\/A1 b) /\
 HW (λb=>if n<=b then ρ1 b else ρ b) (λb=>V b\/V1 b) (λb=>A b\/A1 b) (bU h (Fe n h1)) (aQ h' (ups m m1 h1')):=by
 have k:Keeps ρ V A (λb=>if n<=b then ρ1 b else ρ b) (λb=>V b\/V1 b) (λb=>A b\/A1 b):=λb hb=>by have:=hA b hb;exact ⟨.inl hb,qwq qqq,⟨λq=>q.elim id λq=>by have:=hA1 b (H1.sub b q);omega,.inl⟩⟩
 have k1:Keeps ρ1 V1 A1 (λb=>if n<=b then ρ1 b else ρ b) (λb=>V b\/V1 b) (λb=>A b\/A1 b):=λb hb=>by have:=hA1 b hb;exact ⟨.inr hb,qwz this,⟨λq=>q.elim (λq=>by have:=hA b (H.sub b q);omega) id,.inr⟩⟩
 have key:∀ b o,get (bU h (Fe n h1)) b=some o->(get h1 b=some o/\n<=b)\/(get h b=some o/\¬ n<=b):=by
  intro b o hb;rw [IQ] at hb;by_cases q:n<=b
  ·rw [qwz q] at hb;cases hq:get h1 b with
   | some o1=>rw [hq] at hb;cases hb;exact .inl ⟨rfl,q⟩
   | none=>rw [hq] at hb;exact .inr ⟨hb,by have:=hA b (H.dom b _ hb);omega⟩
  ·rw [qwq q] at hb;exact .inr ⟨hb,q⟩
 refine ⟨k,k1,?_,?_,?_,?_,?_⟩
 ·intro b o hb;rcases key b o hb with ⟨q,_⟩ | ⟨q,_⟩
  ·exact .inr (H1.dom b o q)
  ·exact .inl (H.dom b o q)
 ·intro b o hb hv;rcases key b o hb with ⟨q,q2⟩ | ⟨q,q2⟩
  ·exact H1.uZ b o q ((k1 b (H1.dom b o q)).2.2.1 hv)
  ·exact H.uZ b o q ((k b (H.dom b o q)).2.2.1 hv)
 ·intro b o hb hv;rcases key b o hb with ⟨q,q2⟩ | ⟨q,q2⟩
  ·have hA':=H1.dom b o q;have hv':¬ V1 b:=λp=>hv (.inr p);obtain ⟨o',e1,e2⟩:=H1.obj b o q hv';refine ⟨o',?_,e2.mono k1⟩;rw [PY];simp only [qwz q2];rw [qwz (hp1 b hA' hv'),e1]
  ·have hA':=H.dom b o q;have hv':¬ V b:=λp=>hv (.inl p);obtain ⟨o',e1,e2⟩:=H.obj b o q hv';refine ⟨o',?_,e2.mono k⟩;rw [PY];simp only [qwq q2];rw [qwq (by have:=hp b hA' hv';omega)];exact e1
 ·rintro b (q | q)
  ·exact .inl (H.sub b q)
  ·exact .inr (H1.sub b q)
 ·have f0:∀ b,A b->(if n<=b then ρ1 b else ρ b)=ρ b:=λb hb=>(k b hb).2.1;have f1:∀ b,A1 b->(if n<=b then ρ1 b else ρ b)=ρ1 b:=λb hb=>(k1 b hb).2.1;rintro b c (hb | hb) (hc | hc) g1 g2 he
  ·rw [f0 b hb,f0 c hc] at he;exact H.inj b c hb hc (λq=>g1 (.inl q)) (λq=>g2 (.inl q)) he
  ·rw [f0 b hb,f1 c hc] at he;have h1:=hp b hb (λq=>g1 (.inl q));have h2:=(hp1 c hc (λq=>g2 (.inr q))).1;omega
  ·rw [f1 b hb,f0 c hc] at he;have h1:=(hp1 b hb (λq=>g1 (.inr q))).1;have h2:=hp c hc (λq=>g2 (.inl q));omega
  ·rw [f1 b hb,f1 c hc] at he;exact H1.inj b c hb hc (λq=>g1 (.inr q)) (λq=>g2 (.inr q)) he
theorem adt (hr:zB run run') (H:HW ρ V A h h') (lt:Lts ρ V A n m) {nid mid:Nat} (hn:¬ A nid) (hnl:nid < n) (hm:∀ b,A b->¬ V b->ρ b≠mid) (hml:mid < m) {f:Nat} {args args':List AV} (ha:bC (VW ρ V A) args args') {c:wP} (hc:jM C run f args h nid n=some c) :
 ∃ c' ρ' V' A',jD (fK C) run' f args' h' mid m=some c'/\Si ρ V A nid n mid m (iZ h n args c) (bZ h' m args' c') ρ' V' A':=by
 have whole:∀ {r:AV × aG × Nat},run f args h n=some r->∃ r' ρ' V' A',run' f args' h' m=some r'/\Si ρ V A nid n mid m (iZ h n args (.whole r.1 r.2.1 r.2.2)) (bZ h' m args' (.whole r'.1 r'.2.1 r'.2.2)) ρ' V' A':=by
  rintro ⟨v,h1,n1⟩ hrun;obtain ⟨v',h1',m1,ρ',V',A',r1,r2,r3,r4,r5,r6,r7,r8,r9⟩:=hr f args h n v h1 n1 hrun ρ V A args' h' m ha H lt;refine ⟨(v',h1',m1),ρ',V',A',r1,r2,r3,r5,λb hb=>?_,λb hb hv=>?_,r4,r8,r9,λ_=>⟨rfl,rfl⟩,λb hb=>by simp [bZ] at hb,λb hb=>by simp [bZ] at hb⟩
  ·rcases r6 b hb with q | q
   ·exact .inl q
   ·exact .inr (.inr q)
  ·rcases r7 b hb hv with q | q
   ·exact .inl q
   ·exact .inr (.inr q)
 unfold jM at hc;split at hc
 ·rename_i hi;split at hc
  ·rename_i hfr;obtain ⟨az,h1,h2⟩:=au hc;have hreach:∀ b' ∈ args'.flatMap (reach h' ay),∃ b ∈ args.flatMap (aK h ay),b'=ρ b/\¬ V b/\A b/\∃ z es mu dt,get h b=some (.cells z es mu dt):=by intro b' hb';simp only [qkx] at hb' |-;obtain ⟨u,hu,hb'⟩:=hb';obtain ⟨j,hj,q1⟩:=qvx hu;obtain ⟨x,q2,q3⟩:=ha.get' (qqj hj);rw [q1] at q3;obtain ⟨x',_,q4⟩:=(dB h1).2 j x q2;obtain ⟨b,q5,q6⟩:=Ht H ay x u x' q3 q4 b' hb';exact ⟨b,⟨x,qzx q2,q5⟩,q6⟩
   by_cases hdp:tV f=true
   ·rw [qwz hdp] at h2;obtain ⟨⟨v0,h0,n0⟩,hrun,h2⟩:=au h2;obtain ⟨hk,h2k,rfl⟩:=aB h2;clear h2;obtain ⟨az',h4,h5⟩:=gI (λx y hxy x' hx'=>H8 H ay x y x' hxy hx') ha h1;obtain ⟨v0',h0',m0,ρ1,V1,A1,r1,r2,r3,r4,r5,r6,r7,r8,r9⟩:=hr f az [] n v0 h0 n0 hrun ρ (λ_=>False) (λ_=>False) az' [] m (h5.mono λx x' _ hx=>hx.data) ⟨λb o hb=>by simp [Pav.get] at hb,λb o hb=>by simp [Pav.get] at hb,λb o hb=>by simp [Pav.get] at hb,λb hb=>hb.elim,λb c hb=>hb.elim⟩ ⟨λb hb=>hb.elim,λb hb=>hb.elim⟩;unfold xE at h2k;unfold Nw;by_cases hdb:zJ f=true
    ·rw [qwz hdb] at h2k |-;split at h2k;case isFalse=>cases h2k
     rename_i hkW;obtain rfl:=qyj h2k;simp only at hkW |-;have hLL:=λb hb hV=>KX r3 ay v0 v0' r2 b hb hV;have hkx:=aeH r3 ay r2 hkW;simp only [kQ,qzq,qjx] at hkW;have r3k:=r3.keep (L':=reach h0' ay v0') hkW.2 hLL;have r2k:=YX r2 hkW.1;have hA1:∀ b,A1 b/\b ∈ aK h0 ay v0->n<=b:=λb hb=>(r6 b hb.1).elim (λq=>q.elim) id;have hp1:∀ b,A1 b/\b ∈ aK h0 ay v0->¬ (V1 b/\b ∈ aK h0 ay v0)->m<=ρ1 b/\ρ1 b < m0:=λb hb hv=>⟨(r7 b hb.1 λq=>hv ⟨q,hb.2⟩).elim (λq=>q.1.elim) id,r4.p b hb.1 λq=>hv ⟨q,hb.2⟩⟩;obtain ⟨u1,u2,u3⟩:=H.union r3k lt.w hA1 lt.p hp1;refine ⟨.deep v0' (ups m m0 (h0'.filter λx=>(reach h0' ay v0').contains x.1)) m0,(λb=>if n<=b then ρ1 b else ρ b),(λb=>V b\/(V1 b/\b ∈ aK h0 ay v0)),(λb=>A b\/(A1 b/\b ∈ aK h0 ay v0)),?_,?_⟩
     ·simp only [jD,fK,hi,qfx,qQx,hdp,qlz,h4,ob,sH,r1,om,vV,Ue,qwz hdb,hkx,qJj]
     ·have f0:∀ b,A b->(if n<=b then ρ1 b else ρ b)=ρ b:=λb hb=>(u1 b hb).2.1;have f1:∀ b,A1 b/\b ∈ aK h0 ay v0->(if n<=b then ρ1 b else ρ b)=ρ1 b:=λb hb=>(u2 b hb).2.1;simp only [iZ,bZ];refine ⟨r2k.mono u2,u3,u1,?_,?_,⟨?_,?_⟩,r8,r9,λq=>(by cases q),?_,?_⟩
      ·rintro b (hb | hb)
       ·exact .inl hb
       ·exact .inr (.inr (hA1 b hb))
      ·rintro b (hb | hb) hv
       ·exact .inl ⟨hb,(u1 b hb).2.1⟩
       ·refine .inr (.inr ?_);simp only [f1 b hb];exact (hp1 b hb λq=>hv (.inr q)).1
      ·rintro b (hb | hb)
       ·exact qXx (lt.w b hb) r8
       ·exact r4.w b hb.1
      ·rintro b (hb | hb) hv
       ·simp only [f0 b hb];exact qXx (lt.p b hb λq=>hv (.inl q)) r9
       ·simp only [f1 b hb];exact (hp1 b hb λq=>hv (.inr q)).2
      ·intro b' hb';obtain ⟨b,q1,q2,q3,q4,_⟩:=hreach b' hb';exact ⟨b,q1,by simp only [f0 b q4];exact q2,λq=>q3 ((u1 b q4).2.2.1 q),.inl q4⟩
      ·intro b' hb';refine .inr ⟨n,_,rfl,rfl,?_,?_,?_⟩
       ·simp only [ups,qsq,qnj,qyq,qgx,qvj] at hb';obtain ⟨_,⟨x,⟨_,q⟩,rfl⟩,rfl⟩:=hb';exact q.1
       ·simp only [ups,qsq,qnj,qyq,qgx,qvj] at hb';obtain ⟨_,⟨x,⟨_,q⟩,rfl⟩,rfl⟩:=hb';exact q.2
       ·rintro c (hc | hc) hv he
        ·simp only [f0 c hc] at he;have h1:=lt.p c hc λq=>hv (.inl q);have h2:m<=b':=by simp only [ups,qsq,qnj,qyq,qgx,qvj] at hb';obtain ⟨_,⟨x,⟨_,q⟩,rfl⟩,rfl⟩:=hb';exact q.1
         omega
        ·exact hA1 c hc
    ·rw [qwq hdb] at h2k |-;obtain rfl:=qyj h2k;simp only at *;obtain ⟨k1,k2⟩:=wJ H _ _ hreach;have hA1:∀ b,A1 b->n<=b:=λb hb=>(r6 b hb).elim (λq=>q.elim) id;have hp1:∀ b,A1 b->¬ V1 b->m<=ρ1 b/\ρ1 b < m0:=λb hb hv=>⟨(r7 b hb hv).elim (λq=>q.1.elim) id,r4.p b hb hv⟩;obtain ⟨u1,u2,u3⟩:=k1.union r3 lt.w hA1 lt.p hp1;refine ⟨.deep v0' (aW h' (args'.flatMap (reach h' ay))++ups m m0 h0') m0,(λb=>if n<=b then ρ1 b else ρ b),(λb=>V b\/V1 b),(λb=>A b\/A1 b),?_,?_⟩
     ·simp only [jD,fK,hi,qfx,qQx,hdp,qlz,h4,ob,sH,r1,om,vV,Ue,qwq hdb]
     ·have f0:∀ b,A b->(if n<=b then ρ1 b else ρ b)=ρ b:=λb hb=>(u1 b hb).2.1;have f1:∀ b,A1 b->(if n<=b then ρ1 b else ρ b)=ρ1 b:=λb hb=>(u2 b hb).2.1;simp only [iZ,bZ];refine ⟨r2.mono u2,by rw [iV];exact u3,u1,?_,?_,⟨?_,?_⟩,r8,r9,λq=>(by cases q),?_,?_⟩
      ·rintro b (hb | hb)
       ·exact .inl hb
       ·exact .inr (.inr (hA1 b hb))
      ·rintro b (hb | hb) hv
       ·exact .inl ⟨hb,(u1 b hb).2.1⟩
       ·refine .inr (.inr ?_);simp only [f1 b hb];exact (hp1 b hb λq=>hv (.inr q)).1
      ·rintro b (hb | hb)
       ·exact qXx (lt.w b hb) r8
       ·exact r4.w b hb
      ·rintro b (hb | hb) hv
       ·simp only [f0 b hb];exact qXx (lt.p b hb λq=>hv (.inl q)) r9
       ·simp only [f1 b hb];exact r4.p b hb λq=>hv (.inr q)
      ·intro b' hb';obtain ⟨b,q1,q2,q3,q4,_⟩:=hreach b' hb';exact ⟨b,q1,by simp only [f0 b q4];exact q2,λq=>q3 ((u1 b q4).2.2.1 q),.inl q4⟩
      ·intro b' hb';rw [qcz] at hb';rcases qjj.1 hb' with hb' | hb'
       ·obtain ⟨c,s1,s2,s3,s4⟩:=k2 b' hb';exact .inl ⟨c,s1,by simp only [f0 c s4];exact s2,λq=>s3 ((u1 c s4).2.2.1 q),.inl s4⟩
       ·refine .inr ⟨n,_,rfl,rfl,?_,?_,?_⟩
        ·simp only [ups,qsq,qnj,qyq,qgx,qvj] at hb';obtain ⟨_,⟨x,⟨_,q⟩,rfl⟩,rfl⟩:=hb';exact q.1
        ·simp only [ups,qsq,qnj,qyq,qgx,qvj] at hb';obtain ⟨_,⟨x,⟨_,q⟩,rfl⟩,rfl⟩:=hb';exact q.2
        ·rintro c (hc | hc) hv he
         ·simp only [f0 c hc] at he;have h1:=lt.p c hc λq=>hv (.inl q);have h2:m<=b':=by simp only [ups,qsq,qnj,qyq,qgx,qvj] at hb';obtain ⟨_,⟨x,⟨_,q⟩,rfl⟩,rfl⟩:=hb';exact q.1
          omega
         ·exact hA1 c hc
   rw [qwq hdp] at h2;obtain ⟨x,h3,hend⟩:=au h2;unfold wV at hend;split at hend
   ·cases hend
   rename_i hbr0;cases hend;have hbr:sZ f=true->nX x=true:=by intro hb;simpa [hb] using hbr0
   obtain ⟨az',h4,h5⟩:=gI (λx y hxy x' hx'=>H8 H ay x y x' hxy hx') ha h1;obtain ⟨⟨v0,h0,n0⟩,hrun,hx⟩:=au h3;obtain ⟨v0',h0',m0,ρ1,V1,A1,r1,r2,r3,r4,_⟩:=hr f az [] 0 v0 h0 n0 hrun ρ (λ_=>False) (λ_=>False) az' [] 0 (h5.mono λx x' _ hx=>hx.data) ⟨λb o hb=>by simp [Pav.get] at hb,λb o hb=>by simp [Pav.get] at hb,λb o hb=>by simp [Pav.get] at hb,λb hb=>hb.elim,λb c hb=>hb.elim⟩ ⟨λb hb=>hb.elim,λb hb=>hb.elim⟩;have hmk:HW ρ V A (bU h (xA f (aY h (args.flatMap (aK h ay))))) (aQ h' (Dx f (aW h' (args'.flatMap (reach h' ay))))) /\
    ∀ b' ∈ (Dx f (aW h' (args'.flatMap (reach h' ay)))).map (·.1),∃ b ∈ (xA f (aY h (args.flatMap (aK h ay)))).map (·.1),b'=ρ b/\¬ V b/\A b:=by
    unfold Dx xA;split
    ·exact ⟨H,λb hb=>by simp at hb⟩
    ·exact wJ H _ _ hreach
   obtain ⟨k1,k2⟩:=hmk;have hgo:∀ {x':AV × Upd},jc run' f az' mid=some x'->(sZ f=true->vF x'=true)->jD (fK C) run' f args' h' mid m=some (.data x'.1 (Dx f (aW h' (args'.flatMap (reach h' ay)))++x'.2)):=by
    intro x' hx' hb';have hb2:(sZ f&&!vF x')=false:=by
     cases hq:sZ f with
     | false=>rfl
     | true=>simp [hb' hq]
    have hdp':tV f=false:=by simpa using hdp
    simp only [jD,fK,hi,qfx,qQx,hfr,hdp',qlz,zqz,h4,hx',ob,Cc,hb2,qjz,qWz]
   have rdOk:∀ {ρ':Nat->Nat} {V' A':Nat->Prop},(∀ b,A b->A' b/\ρ' b=ρ b/\(V' b↔V b))->∀ b' ∈ args'.flatMap (reach h' ay),∃ c ∈ args.flatMap (aK h ay),b'=ρ' c/\¬ V' c/\A' c:=by intro ρ' V' A' hk b' hb';obtain ⟨b,q1,q2,q3,q4,_⟩:=hreach b' hb';obtain ⟨s1,s2,s3⟩:=hk b q4;exact ⟨b,q1,by rw [s2];exact q2,λq=>q3 (s3.1 q),s1⟩
   have hold2:∀ b,A b->addN A nid b/\up ρ nid mid b=ρ b/\(addN V nid b↔V b):=by
    intro b hb;have hne:b≠nid:=λe=>hn (e ▸ hb);refine ⟨.inl hb,by simp [up,hne],⟨λq=>?_,λq=>.inl q⟩⟩;rcases q with q | q
    ·exact q
    ·exact absurd q hne
   have hold1:∀ b,A b->addN A nid b/\up ρ nid mid b=ρ b/\(V b↔V b):=qK hn;have hVn:¬ V nid:=λq=>hn (H.sub nid q);simp only at hx;split at hx
   ·rename_i hown;obtain ⟨v,h6,rfl⟩:=aB hx;have hnA:¬ A1 n0:=λq=>qrq _ (r4.w n0 q);obtain ⟨u',q1,q2⟩:=NI (ρ2:=ρ) (V2:=V) (A2:=A) (b':=m0) (mid:=0) (λq=>absurd q hnA) r2 v h6;have q3:=Xp (λq=>absurd q hnA) r2 v h6;have hfc:jc run' f az' mid=some (u',[]):=by unfold jc;rw [r1];simp only [ob,q3,q1,om]
    have hbx:sZ f=true->vF (u',([]:Upd))=true:=by intro hb;have:=hbr hb;simp only [nX,vF,q8z,qtj] at this |-;exact Gy q2 this
    refine ⟨_,ρ,V,A,hgo hfc hbx,?_⟩;simp only [iZ,bZ,qXz];exact ⟨q2,k1,Keeps.refl ρ V A,λb hb=>.inl hb,λb hb _=>.inl ⟨hb,rfl⟩,lt,qxq _,qxq _,λq=>(by cases q),rdOk λb hb=>⟨hb,rfl,zQq⟩,λb hb=>.inl (k2 b hb)⟩
   ·rename_i b hown;unfold Uu at hx;split at hx
    ·rename_i z es mu dt hg;split at hx
     ·rename_i hmd;obtain ⟨v,h6,rfl⟩:=aB hx;simp only [qzq] at hmd;obtain ⟨rfl,rfl⟩:=hmd;have hA1:A1 b:=r3.dom b _ hg;by_cases hV1:V1 b
      ·obtain ⟨z',mu',dt',e⟩:=r3.uZ b _ hg hV1;cases e;obtain ⟨u',q1,q2⟩:=NI (ρ2:=up ρ nid mid) (V2:=addN V nid) (A2:=addN A nid) (b':=m0) (mid:=0) (λ_=>.inr ⟨hV1,.inr rfl,.inr rfl⟩) r2 v h6;have q3:=Xp (λ_=>hV1) r2 v h6;have hfc:jc run' f az' mid=some (u',[]):=by unfold jc;rw [r1];simp only [ob,q3,q1,om]
       have hbx:sZ f=true->vF (u',([]:Upd))=true:=by intro hb;have:=hbr hb;simp only [nX,vF,q8z,qtj,qzq] at this |-;exact Gy q2 this.1
       refine ⟨_,up ρ nid mid,addN V nid,addN A nid,hgo hfc hbx,?_⟩;simp only [iZ,bZ,qXz];refine ⟨q2,?_,hold2,?_,?_,⟨?_,?_⟩,qxq _,qxq _,λq=>(by cases q),rdOk hold2,?_⟩
       ·rw [rH];exact agZ k1 hn mid z true true
       ·rintro c (hc | hc)
        ·exact .inl hc
        ·exact .inr (.inl hc)
       ·rintro c (hc | hc) hv
        ·exact .inl ⟨hc,(hold2 c hc).2.1⟩
        ·exact absurd (.inr hc) hv
       ·rintro c (hc | hc)
        ·exact lt.w c hc
        ·subst hc;exact hnl
       ·rintro c (hc | hc) hv
        ·rw [(hold2 c hc).2.1];exact lt.p c hc λq=>hv (.inl q)
        ·exact absurd (.inr hc) hv
       ·intro b' hb';obtain ⟨c,s1,s2,s3,s4⟩:=k2 b' hb';obtain ⟨t1,t2,t3⟩:=hold2 c s4;exact .inl ⟨c,by simp only [V9];rw [qcz];exact qlx _ s1,by rw [t2];exact s2,λq=>s3 (t3.1 q),t1⟩
      ·obtain ⟨o',g1,g2⟩:=r3.obj b _ hg hV1;obtain ⟨es',mu',rfl,e1,e2,e3⟩:=g2;have hmu:=e1 rfl;subst hmu;obtain ⟨u',q1,q2⟩:=NI (ρ2:=up ρ nid mid) (V2:=V) (A2:=addN A nid) (b':=ρ1 b) (mid:=mid) (λ_=>.inl ⟨hV1,rfl,.inr rfl,hVn,by simp [up]⟩) r2 v h6;have q3:qG v0'=some (ρ1 b):=by
        rcases alp hA1 hV1 r2 v h6 with ⟨s1,_⟩ | ⟨_,s2⟩
        ·rw [hown] at s1;cases s1
        ·exact s2
       have hcells:bC (bC (VW (up ρ nid mid) V (addN A nid))) es es':=e2.mono λe e' he hee=>hee.mono λx x' hx hxx=>hxx.isC (e3 rfl e he x hx);have hpl:(es'.all λe=>e.all mD)=true:=by rw [qjx];intro e' he';rw [qjx];intro x' hx';obtain ⟨j,hj,p1⟩:=qvx he';obtain ⟨e,p2,p3⟩:=e2.get' (qqj hj);rw [p1] at p3;obtain ⟨k,hk,p4⟩:=qvx hx';obtain ⟨x,p5,p6⟩:=p3.get' (qqj hk);rw [p4] at p6;exact Zu p6 (e3 rfl e (qzx p2) x (qzx p5))
       have hfc:jc run' f az' mid=some (u',[(mid,some (.cells z es' true))]):=by unfold jc;rw [r1];simp only [ob,q3,g1,Gg,hpl,qlz,qQx,q1,om]
       have hbx:sZ f=true->vF (u',[(mid,some (.cells z es' true))])=true:=by intro hb;have:=hbr hb;simp only [nX,vF,q8z,qdz,UU,adp,qtj,qzq] at this |-;refine ⟨Gy q2 this.1,?_⟩;rw [qjx];intro e' he';obtain ⟨j,hj,p1⟩:=qvx he';obtain ⟨e,p2,p3⟩:=e2.get' (qqj hj);rw [p1] at p3;exact abx p3 (qjx.1 this.2 e (qzx p2))
       refine ⟨_,up ρ nid mid,V,addN A nid,hgo hfc hbx,?_⟩;simp only [iZ,bZ];refine ⟨q2,?_,hold1,?_,?_,⟨?_,?_⟩,qxq _,qxq _,λq=>(by cases q),rdOk hold1,?_⟩
       ·rw [rH,iV];exact pz k1 hn hm ⟨es',true,rfl,λ_=>rfl,hcells,e3⟩
       ·rintro c (hc | hc)
        ·exact .inl hc
        ·exact .inr (.inl hc)
       ·rintro c (hc | hc) hv
        ·exact .inl ⟨hc,(hold1 c hc).2.1⟩
        ·subst hc;exact .inr (.inl (by simp [up]))
       ·rintro c (hc | hc)
        ·exact lt.w c hc
        ·subst hc;exact hnl
       ·rintro c (hc | hc) hv
        ·rw [(hold1 c hc).2.1];exact lt.p c hc hv
        ·subst hc;simp only [up,qQx];exact hml
       ·intro b' hb';rw [qcz] at hb';rcases qjj.1 hb' with hb' | hb'
        ·obtain ⟨c,s1,s2,s3,s4⟩:=k2 b' hb';obtain ⟨t1,t2,t3⟩:=hold1 c s4;exact .inl ⟨c,by simp only [V9];rw [qcz];exact qlx _ s1,by rw [t2];exact s2,s3,t1⟩
        ·simp only [qvz,qax,qVx] at hb';subst hb';exact .inl ⟨nid,by simp only [V9];rw [qcz];exact quq _ qqz,by simp [up],hVn,.inr rfl⟩
     ·cases hx
    ·cases hx
  ·rename_i hfr;obtain ⟨r,h1,rfl⟩:=aB hc;obtain ⟨r',ρ',V',A',r1,r2⟩:=whole h1;refine ⟨_,ρ',V',A',?_,r2⟩;have hfr:Ob f=false:=by simpa using hfr
   have hdp':tV f=false:=by unfold Ob at hfr;unfold tV;have:=of_decide_eq_false hfr;exact qJz qqq
   simp only [jD,fK,hi,qfx,qQx,hfr,hdp',zqz,qjz,qWz,uO,r1,om,tidy]
 ·rename_i hi;have hi:C.inl f=false:=by simpa using hi
  split at hc
  ·rename_i hp;obtain ⟨r,h1,rfl⟩:=aB hc;obtain ⟨r',ρ',V',A',r1,r2⟩:=whole h1;refine ⟨_,ρ',V',A',?_,r2⟩;simp only [qzq,qcx] at hp;simp only [jD,fK,hi,hp.1,Xk args hp.2 args' ha,qdx,q9j,qlz,qQx,qsz,qjz,qWz,uO,r1,om,tidy]
  ·rename_i hp;obtain ⟨az,h1,h2⟩:=au hc;obtain ⟨v,h3,rfl⟩:=aB h2;have hp':(!C.pp f&&bV args')=false:=by
    cases hpp:C.pp f with
    | true=>rfl
    | false =>
     rw [hpp] at hp;have h0:bV args=false:=by simpa using hp
     rw [ZX args args' az ha h1 h0];rfl
   obtain ⟨az',h4,h5⟩:=gI (λx y hxy x' hx'=>H8 H ay x y x' hxy hx') ha h1;obtain ⟨v',h6,h7⟩:=SA hr h5 h3;have hreach:∀ b' ∈ args'.flatMap (reach h' ay),∃ b ∈ args.flatMap (aK h ay),b'=ρ b/\¬ V b/\A b/\∃ z es mu dt,get h b=some (.cells z es mu dt):=by intro b' hb';simp only [qkx] at hb' |-;obtain ⟨u,hu,hb'⟩:=hb';obtain ⟨j,hj,q1⟩:=qvx hu;obtain ⟨x,q2,q3⟩:=ha.get' (qqj hj);rw [q1] at q3;obtain ⟨x',_,q4⟩:=(dB h1).2 j x q2;obtain ⟨b,q5,q6⟩:=Ht H ay x u x' q3 q4 b' hb';exact ⟨b,⟨x,qzx q2,q5⟩,q6⟩
   refine ⟨.data v' (marks h' args' v'),ρ,V,A,by simp only [jD,fK,hi,hp',qdx,qjz,qWz,h4,h6,om],?_⟩;have hmarks:HW ρ V A (bU h (pF h args v)) (aQ h' (marks h' args' v'))/\∀ b' ∈ (marks h' args' v').map (·.1),∃ b ∈ (pF h args v).map (·.1),b'=ρ b/\¬ V b/\A b:=by
    unfold marks pF;by_cases hr2:dG ay v=true
    ·rw [qwz hr2];split
     ·exact wJ H _ _ hreach
     ·have:=wJ H (args.flatMap (aK h ay)) [] (λb hb=>by cases hb);exact ⟨this.1,λb hb=>by simp at hb⟩
    ·rw [qwq hr2,qwq (λq=>hr2 (ZE _ _ _ h7 q))];exact ⟨H,λb hb=>by simp at hb⟩
   refine ⟨h7.mono λ_ q=>q.elim,hmarks.1,Keeps.refl ρ V A,λb hb=>.inl hb,λb hb _=>.inl ⟨hb,rfl⟩,lt,qxq _,qxq _,λq=>(by cases q),λb' hb'=>?_,λb hb=>.inl (hmarks.2 b hb)⟩;obtain ⟨b,q1,q2,q3,q4,_⟩:=hreach b' hb';exact ⟨b,q1,q2,q3,q4⟩
theorem acR (he:EW ρ V A e e') {xs:List Opd} (hx:xs.all okO=true):bC (VW ρ V A) (xs.map λx=>x.ev e) ((xs.map erO).map λx=>x.ev e'):=by
 rw [qVz];simp only [qjx] at hx;refine ⟨by simp,λj x x' h1 h2=>?_⟩;rw [qWx] at h1 h2;cases h3:xs[j]? with
 | none=>rw [h3] at h1;cases h1
 | some c=>rw [h3] at h1 h2;cases h1;cases h2;exact he.opd (hx c (qzx h3))
theorem anB (he:EW ρ V A e e') {op:COp} (ho:jh op=true) {r:AV × dW} (hs:stepW op e h n=some r):∀ b' ∈ readsOf e' (gu op),∃ b ∈ readsOf e op,b'=ρ b/\¬ V b/\A b:=by
 have one:∀ {x:Opd},okO x=true->x.ev e≠.undef->∀ b' ∈ eP ((erO x).ev e'),∃ b ∈ eP (x.ev e),b'=ρ b/\¬ V b/\A b:=by
  intro x hx hun b' hb';have hv:=he.opd hx;cases hxe:x.ev e with
  | ptr b i o=>rw [hxe] at hv;obtain ⟨q,h1,h2⟩:=hv.jl;rw [q] at hb';simp [eP] at hb' |-;exact ⟨hb',h2,h1⟩
  | map b=>rw [hxe] at hv;obtain ⟨q,h1,h2⟩:=hv.yJ;rw [q] at hb';simp [eP] at hb' |-;exact ⟨hb',h2,h1⟩
  | sl b z i len cap ex =>
   rw [hxe] at hv;rcases hv.jY with ⟨h1,h2,ex',q,_⟩ | ⟨_,_,_,_,_,q⟩
   ·rw [q] at hb';simp [eP] at hb' |-;exact ⟨hb',h2,h1⟩
   ·rcases q with q | q <;> rw [q] at hb' <;> simp [eP] at hb'
  | undef=>exact absurd hxe hun
  | ro z es ex =>rw [hxe] at hv;rcases hv.mO with ⟨_,q⟩ | ⟨_,_,q,_⟩ <;> rw [q] at hb' <;> simp [eP] at hb'
  | _=>rw [hxe] at hv;cases hnm:(erO x).ev e' <;> rw [hnm] at hv hb' <;> first | (cases hv;done) | (simp [eP] at hb';done)
 have two:∀ {x y:Opd},okO x=true->okO y=true->x.ev e≠.undef->y.ev e≠.undef->∀ b' ∈ eP ((erO x).ev e')++eP ((erO y).ev e'),∃ b ∈ eP (x.ev e)++eP (y.ev e),b'=ρ b/\¬ V b/\A b:=by
  intro x y hx hy hux huy b' hb';rcases qjj.1 hb' with q | q
  ·obtain ⟨b,q1,q2⟩:=one hx hux b' q;exact ⟨b,qjj.2 (.inl q1),q2⟩
  ·obtain ⟨b,q1,q2⟩:=one hy huy b' q;exact ⟨b,qjj.2 (.inr q1),q2⟩
 have nil:∀ b' ∈ ([]:List Nat),∃ b ∈ readsOf e op,b'=ρ b/\¬ V b/\A b:=λb' hb'=>by cases hb'
 cases op with
 | load k ag a=>exact one ho (λq=>by simp [stepW,adT,ovW,om,BJ,q] at hs)
 | gX k x lo hi =>simp only [jh,qzq] at ho;exact one ho.1 (λq=>by simp [stepW,Gl,Ak,q] at hs)
 | store k a x =>simp only [jh,qzq] at ho;exact one ho.1 (λq=>by simp [stepW,Qk,vU,q] at hs)
 | next x=>exact one ho (λq=>by simp [stepW,X3,q] at hs)
 | len kd x=>exact one ho (λq=>by simp [stepW,alq,rC,ovW,om,q] at hs)
 | look kd z ok m k =>simp only [jh,qzq] at ho;exact one ho.2.1 (λq=>by simp [stepW,Xw,q] at hs)
 | upd kd m k v =>simp only [jh,qzq] at ho;exact one ho.1 (λq=>by simp [stepW,ahy,q] at hs)
 | app z bytes zeros s x =>
  simp only [jh,qzq] at ho;have hux:x.ev e≠.undef:=λq=>by simp [stepW,Ur,q,kL,ob] at hs
  refine two ho.2.1 ho.2.2 (λq=>?_) hux;simp only [stepW,Ur,q] at hs;split at hs
  ·split at hs
   ·obtain ⟨_,_,hs⟩:=au hs;split at hs
    ·simp [jg] at hs
    ·cases hs
   ·cases hs
  ·obtain ⟨_,_,hs⟩:=au hs;simp [jg] at hs
 | cpy z d s =>simp only [jh,qzq] at ho;refine two ho.1 ho.2 (λq=>?_) (λq=>by simp [stepW,aaX,q,kL,ob] at hs);simp only [stepW,aaX,q] at hs;obtain ⟨_,_,hs⟩:=au hs;simp [qR] at hs
 | clr z d =>simp only [jh,qzq] at ho;exact one ho.2 (λq=>by simp [stepW,agQ,DR,q] at hs)
 | _=>exact nil
theorem aav (he:EW ρ V A e e') {g:Option (Nat × Bool)} {b:Bool} (hw:wants e g=some b):wants e' g=some b:=by
 cases g with
 | none=>exact hw
 | some p =>
  obtain ⟨s,w⟩:=p;simp only [wants] at hw |-;cases hg:get e s with
  | none=>rw [hg] at hw;cases hw
  | some v =>
   obtain ⟨v',h1,h2⟩:=he s v hg;rw [hg] at hw;rw [h1];cases v with
   | bool b=>rw [h2.fU];exact hw
   | tup vs =>
    cases vs with
    | nil =>obtain ⟨vs',rfl,hr⟩:=h2.uJ;rw [hr.eU];exact hw
    | cons a r=>cases hw
   | _=>cases hw
theorem acS (hr:zB run run') (he:EW ρ V A e e') (H:HW ρ V A h h') (lt:Lts ρ V A n m) {nid mid:Nat} (hn:¬ A nid) (hnl:nid < n) (hm:∀ b,A b->¬ V b->ρ b≠mid) (hml:mid < m)
 {o:bg} (ho:jh o.op=true) {d:kY} (hd:gY C run o nid e h n=some d):∃ d' ρ' V' A',jO (fK C) run' (vg o) mid e' h' m=some d'/\Si ρ V A nid n mid m d d' ρ' V' A':=by
 unfold gY at hd;cases hw:wants e o.guard with
 | none=>rw [hw] at hd;cases hd
 | some b =>
  rw [hw] at hd;have hw':=aav he hw;cases b with
  | false =>simp only [qwx] at hd;subst hd;refine ⟨⟨.tup [],h',m,false,[],[]⟩,ρ,V,A,by simp only [jO,vg,hw'],VW.l7 .nil,H,Keeps.refl ρ V A,λb hb=>.inl hb,λb hb _=>.inl ⟨hb,rfl⟩,lt,qxq _,qxq _,λq=>(by cases q),λb hb=>(by cases hb),λb hb=>(by cases hb)⟩
  | true =>
   simp only at hd;have goal:∃ d' ρ' V' A',jG (fK C) run' (gu o.op) mid e' h' m=some d'/\Si ρ V A nid n mid m d d' ρ' V' A':=by
    have callCase:∀ (f:Nat) (args args':List AV),bC (VW ρ V A) args args'->callOf e' (gu o.op)=some (some (f,args'))->callOf e o.op=some (some (f,args)) ->
     ∃ d' ρ' V' A',jG (fK C) run' (gu o.op) mid e' h' m=some d'/\Si ρ V A nid n mid m d d' ρ' V' A':=by
     intro f args args' ha hc' hc;simp only [jV,hc] at hd;obtain ⟨c,h1,rfl⟩:=aB hd;obtain ⟨c',ρ',V',A',h2,h3⟩:=adt hr H lt hn hnl hm hml ha h1;exact ⟨_,ρ',V',A',by simp only [jG,hc',h2,om],h3⟩
    by_cases hcall:callOf e o.op=some none
    ·have hcall':callOf e' (gu o.op)=some none:=by
      cases hop:o.op <;> rw [hop] at hcall <;> simp only [callOf,gu] at hcall |-
      ·cases hcall
      ·split at hcall <;> cases hcall
     simp only [jV,hcall] at hd;obtain ⟨r,h1,rfl⟩:=aB hd;obtain ⟨r',h2,h3⟩:=ad3 he H hn hm ho h1;have hu:=qK (ρ:=ρ) (V:=V) (m:=mid) hn;have hVn:¬ V nid:=λq=>hn (H.sub nid q);refine ⟨_,up ρ nid mid,V,addN A nid,by simp only [jG,hcall',h2,om];rfl,h3.1,h3.2.1,hu,?_,?_,⟨?_,?_⟩,qxq _,qxq _,λq=>(by cases q),?_,?_⟩
     ·rintro b (hb | rfl)
      ·exact .inl hb
      ·exact .inr (.inl rfl)
     ·rintro b (hb | rfl) hv
      ·exact .inl ⟨hb,(hu b hb).2.1⟩
      ·exact .inr (.inl (by simp [up]))
     ·rintro b (hb | rfl)
      ·exact lt.w b hb
      ·exact hnl
     ·rintro b (hb | rfl) hv
      ·rw [(hu b hb).2.1];exact lt.p b hb hv
      ·simp only [up,qQx];exact hml
     ·intro b' hb';obtain ⟨b,q1,q2,q3,q4⟩:=anB he ho h1 b' hb';exact ⟨b,q1,by rw [(hu b q4).2.1];exact q2,q3,.inl q4⟩
     ·intro b' hb';exact .inl (h3.2.2 b' hb')
    ·cases hop:o.op with
     | call f args =>rw [hop] at ho;have:=callCase f _ _ (acR he ho) (by rw [hop];rfl) (by rw [hop];rfl);rwa [hop] at this
     | dN g args =>
      rw [hop] at ho;simp only [jh,qzq] at ho;have hg:=he.opd ho.1;cases hge:g.ev e with
      | fn f caps =>rw [hge] at hg;obtain ⟨caps',q,hrel⟩:=hg.zI;have:=callCase f _ _ ((acR he ho.2).append hrel) (by rw [hop];simp only [gu,callOf,q]) (by rw [hop];simp only [callOf,hge]);rwa [hop] at this
      | _ =>exfalso;rw [hop] at hd;simp only [jV,callOf,hge] at hd;cases hd
     | _=>exact absurd (by rw [hop];rfl) hcall
   obtain ⟨d',ρ',V',A',h1,h2⟩:=goal;exact ⟨d',ρ',V',A',by simp only [jO,vg,hw'];exact h1,h2⟩
end
end Go.Pw
end
section
set_option linter.unusedSimpArgs false
set_option linter.unusedVariables false
namespace Go.Pw
open Go Go.Pav
def Srt (e:Env):Prop:=e.Pairwise λa b=>b.1 < a.1
theorem Srt.put {e:Env} (h:Srt e) (k:Nat) (v:AV):Srt (Ed e k v):=by
 have mem:∀ (e:Env) x,x ∈ Ed e k v->x=(k,v)\/x ∈ e:=by
  intro e;induction e with
  | nil=>intro x hx;simp [Ed] at hx;exact .inl hx
  | cons y e ih =>
   intro x hx;obtain ⟨j,u⟩:=y;simp only [Ed] at hx;split at hx
   ·rcases qkq.1 hx with q | q
    ·exact .inl q
    ·exact .inr q
   ·split at hx
    ·rcases qkq.1 hx with q | q
     ·exact .inl q
     ·exact .inr (qyz _ q)
    ·rcases qkq.1 hx with q | q
     ·exact .inr (q ▸ qXq)
     ·rcases ih x q with q | q
      ·exact .inl q
      ·exact .inr (qyz _ q)
 induction e with
 | nil=>exact List.pairwise_singleton _ _
 | cons y e ih =>
  obtain ⟨j,u⟩:=y;have h1:∀ x ∈ e,x.1 < j:=λx hx=>(qgj.1 h).1 x hx;have h2:Srt e:=(qgj.1 h).2;simp only [Ed];split
  ·rename_i hk;refine qgj.2 ⟨λx hx=>?_,h⟩;rcases qkq.1 hx with rfl | q
   ·exact hk
   ·have:=h1 x q;simp only;omega
  ·rename_i hk;split
   ·rename_i hj;subst hj;exact qgj.2 ⟨h1,h2⟩
   ·rename_i hj;refine qgj.2 ⟨λx hx=>?_,ih h2⟩;rcases mem e x hx with rfl | q
    ·simp only;omega
    ·exact h1 x q
theorem Srt.dR {e:Env} (h:Srt e) (d:Option Nat) (v:AV):Srt (eG e d v):=by
 cases d with
 | none=>exact h
 | some d=>exact h.put d v
theorem Y4:∀ (l:List AV) (k:Nat) (acc:Env),Ia k l acc=(fO k l).reverse++acc:=by
 intro l;induction l with
 | nil=>intro k acc;rfl
 | cons v l ih=>intro k acc;simp [Ia,fO,ih]
theorem Uo:∀ (l:List AV) (k:Nat),(fO k l).Pairwise (λa b=>a.1 < b.1)/\∀ x ∈ fO k l,k<=x.1:=by
 intro l;induction l with
 | nil=>intro k;exact ⟨List.Pairwise.nil,λx hx=>by simp [fO] at hx⟩
 | cons v l ih =>
  intro k;obtain ⟨h1,h2⟩:=ih (k+1);refine ⟨qgj.2 ⟨λx hx=>by have:=h2 x hx;simp only;omega,h1⟩,λx hx=>?_⟩;rcases qkq.1 hx with rfl | q
  ·exact qxq _
  ·have:=h2 x q;omega
theorem afT (l:List AV) (k:Nat):Srt (Ia k l []):=by rw [Y4,qXz];exact List.pairwise_reverse.2 (Uo l k).1
theorem Srt.get {e:Env} (h:Srt e) {k:Nat} {v:AV} (hm:(k,v) ∈ e):Pav.get e k=some v:=by
 induction e with
 | nil=>cases hm
 | cons y e ih =>
  obtain ⟨j,u⟩:=y;have h1:∀ x ∈ e,x.1 < j:=λx hx=>(qgj.1 h).1 x hx;simp only [Pav.get];rcases qkq.1 hm with q | q
  ·cases q;simp
  ·have:=h1 _ q;simp only at this;rw [qwq qqq];exact ih (qgj.1 h).2 q
theorem Wq {k a:Nat}:∀ {l:List Nat},a ∈ sU k l->a ∈ l:=by
 intro l;induction l with
 | nil=>intro h;exact h
 | cons b l ih =>
  intro h;simp only [sU] at h;split at h
  ·exact qyz _ (ih h)
  ·exact h
theorem KQ:∀ (e:Env) (live:List Nat),(pI live e).Sublist e/\∀ x ∈ pI live e,x.1 ∈ live:=by
 intro e;induction e with
 | nil=>intro live;simp [KJ]
 | cons y e ih =>
  obtain ⟨j,u⟩:=y;intro live;simp only [Jf];have hsub:∀ a ∈ sU j live,a ∈ live:=λa ha=>Wq ha;cases hd:sU j live with
  | nil=>simp [Yi]
  | cons a l =>
   rw [hd] at hsub;simp only [Yi];split
   ·rename_i ha;obtain ⟨h1,h2⟩:=ih l;refine ⟨h1.cons_cons _,λx hx=>?_⟩;rcases qkq.1 hx with rfl | q
    ·simp only;subst ha;exact hsub _ qqz
    ·exact hsub _ (qyz _ (h2 x q))
   ·obtain ⟨h1,h2⟩:=ih (a::l);exact ⟨h1.cons _,λx hx=>hsub _ (h2 x hx)⟩
structure Sim (ρ:Nat->Nat) (V A:Nat->Prop) (s:WSt) (s':St):Prop where
 srt:Srt s.env
 env:EW ρ V A s.env s'.env
 heap:HW ρ V A s.heap s'.heap
 lt:Lts ρ V A s.next s'.next
def Old (base:Nat) (ρ:Nat->Nat) (V A:Nat->Prop) (ρ':Nat->Nat) (V' A':Nat->Prop):Prop:=∀ b,b < base->(A b->A' b/\ρ' b=ρ b/\(V' b↔V b))/\(A' b->A b)
theorem Old.refl (base:Nat) (ρ:Nat->Nat) (V A:Nat->Prop):Old base ρ V A ρ V A:=λ_ _=>⟨λh=>⟨h,rfl,zQq⟩,id⟩
theorem Old.trans {base:Nat} {ρ ρ1 ρ2:Nat->Nat} {V A V1 A1 V2 A2:Nat->Prop} (h:Old base ρ V A ρ1 V1 A1) (k:Old base ρ1 V1 A1 ρ2 V2 A2):Old base ρ V A ρ2 V2 A2:=λb hb =>⟨λha=>by obtain ⟨h1,h2,h3⟩:=(h b hb).1 ha;obtain ⟨k1,k2,k3⟩:=(k b hb).1 h1;exact ⟨k1,k2.trans h2,k3.trans h3⟩,λha=>(h b hb).2 ((k b hb).2 ha)⟩
section
variable {ρ:Nat->Nat} {V A:Nat->Prop} {n m:Nat} {h:aG} {h':Heap} {e e':Env}
theorem aeX {base:Nat} {h:aG}:∀ (n:Nat) (w acc:List Nat),acc.Nodup->(∀ x ∈ acc,base<=x)->(close base h n w acc).Nodup/\∀ x ∈ close base h n w acc,base<=x:=by
 intro n;induction n with
 | zero=>intro w acc h1 h2;exact ⟨h1,h2⟩
 | succ n ih =>
  intro w acc h1 h2;cases w with
  | nil=>exact ⟨h1,h2⟩
  | cons b w =>
   simp only [close];split
   ·exact ih w acc h1 h2
   ·rename_i hb;split
    ·exact ih w acc h1 h2
    ·rename_i hc;refine ih _ _ ?_ ?_
     ·have hc:b ∉ acc:=by simpa using hc
      rw [quj];exact ⟨h1,by simp,λx hx y hy=>by simp at hy;subst hy;rintro rfl;exact hc hx⟩
     ·intro x hx;rcases qjj.1 hx with q | q
      ·exact h2 x q
      ·simp at q;subst q;omega
def pre (base:Nat) (L:List Nat) (b:Nat):Nat:=if b < base then b else L.getD (b - base) 0
theorem WI:∀ {L:List Nat} {n b c:Nat},place n L b=some c->n<=c/\L[c - n]?=some b:=by
 intro L;induction L with
 | nil=>intro n b c h;simp [place] at h
 | cons a L ih =>
  intro n b c h;simp only [place] at h;split at h
  ·rename_i hb;cases h;subst hb;simp
  ·obtain ⟨h1,h2⟩:=ih h;refine ⟨by omega,?_⟩;have:c - n=(c - (n+1))+1:=by omega
   rw [this];simpa using h2
theorem adC:∀ {L:List Nat} {n i b:Nat},L.Nodup->L[i]?=some b->place n L b=some (n+i):=by
 intro L;induction L with
 | nil=>intro n i b _ h;simp at h
 | cons a L ih =>
  intro n i b hd h;cases i with
  | zero=>simp at h;subst h;simp [place]
  | succ i =>
   simp only [qhz] at h;simp only [qtx] at hd;simp only [place];rw [qwq]
   ·rw [ih hd.2 h];congr 1;omega
   ·rintro rfl;exact hd.1 (qzx h)
theorem uj {base:Nat} {L:List Nat} {b c:Nat} (h:iy base L b=some c):pre base L c=b/\(c < base↔b < base)/\(c < base->c=b)/\(c < base\/c < base+L.length):=by
 unfold iy at h;split at h
 ·rename_i hb;cases h;exact ⟨by simp [pre,hb],zQq,λ_=>rfl,.inl hb⟩
 ·rename_i hb;obtain ⟨h1,h2⟩:=WI h;have hlt:=(qxz.1 h2).1;refine ⟨?_,⟨λq=>by omega,λq=>absurd q hb⟩,λq=>by omega,.inr qqq⟩;unfold pre;rw [qwq qqq,qoq,h2];rfl
theorem aco {ρ':Nat->Nat} {V' A':Nat->Prop} {π:Nat->Option Nat} (hπ:∀ b c,A b->π b=some c->A' c/\ρ' c=ρ b/\(V' c↔V b)) (v:AV) :
 ∀ (u v':AV),VW ρ V A v u->ren π v=some v'->VW ρ' V' A' v' u:=by
 refine AV.rec (motive_1:=λv=>∀ (u v':AV),VW ρ V A v u->ren π v=some v'->VW ρ' V' A' v' u) (motive_2:=λ_=>True) (motive_3:=λl=>∀ (l' r:List AV),bC (VW ρ V A) l l'->lV π l=some r->bC (VW ρ' V' A') r l') ?_ ?_ ?_ ?_ ?_ ?_ ?_ ?_ ?_ ?_ ?_ ?_ ?_ ?_ ?_ ?_ ?_ ?_ ?_ ?_ v
 ·intro u v' _ h;simp only [ren,qwx] at h;subst h;exact .undef _
 ·intro b u v' hu h;simp only [ren,qwx] at h;subst h;rw [hu.fU];exact .bool _
 ·intro b c u v' hu h;simp only [ren,qwx] at h;subst h;rw [hu.dV];exact .int _ _
 ·intro b u v' hu h;simp only [ren,qwx] at h;subst h;rw [hu.iL];exact .str _
 ·intro u v' hu h;simp only [ren,qwx] at h;subst h;exact hu.isC rfl
 ·intro u v' hu h;simp only [ren,qwx] at h;subst h;exact hu.isC rfl
 ·intro u v' hu h;simp only [ren,qwx] at h;subst h;exact hu.isC rfl
 ·intro u v' hu h;simp only [ren,qwx] at h;subst h;exact hu.isC rfl
 ·intro z es ex _ u v' hu h;simp only [ren,qwx] at h;subst h;exact hu.isC rfl
 ·intro z _ u v' hu h;simp only [ren,qwx] at h;subst h;exact hu.isC rfl
 ·intro b i o u v' hu h;obtain ⟨rfl,hA,hV⟩:=hu.jl;simp only [ren] at h;obtain ⟨c,h1,rfl⟩:=aB h;obtain ⟨q1,q2,q3⟩:=hπ b c hA h1;rw [<- q2];exact .ptr c i o q1 (λq=>hV (q3.1 q))
 ·intro b z i len cap ex u v' hu h;simp only [ren] at h;obtain ⟨c,h1,rfl⟩:=aB h;rcases hu.jY with ⟨hA,hV,ex',rfl,hx⟩ | ⟨hA,hV,rfl,rfl,rfl,hv⟩
  ·obtain ⟨q1,q2,q3⟩:=hπ b c hA h1;rw [<- q2];exact .sl c z i len cap ex ex' q1 (λq=>hV (q3.1 q)) hx
  ·obtain ⟨q1,q2,q3⟩:=hπ b c hA h1;exact .slv c z ex u q1 (q3.2 hV) hv
 ·intro b u v' hu h;obtain ⟨rfl,hA,hV⟩:=hu.yJ;simp only [ren] at h;obtain ⟨c,h1,rfl⟩:=aB h;obtain ⟨q1,q2,q3⟩:=hπ b c hA h1;rw [<- q2];exact .map c q1 (λq=>hV (q3.1 q))
 ·intro f cs ih u v' hu h;obtain ⟨cs',rfl,hr⟩:=hu.zI;simp only [ren] at h;obtain ⟨r,h1,rfl⟩:=aB h;exact VW.iW (ih cs' r hr h1)
 ·intro cs ih u v' hu h;obtain ⟨cs',rfl,hr⟩:=hu.nH;simp only [ren] at h;obtain ⟨r,h1,rfl⟩:=aB h;exact VW.L6 (ih cs' r hr h1)
 ·intro cs ih u v' hu h;obtain ⟨cs',rfl,hr⟩:=hu.uJ;simp only [ren] at h;obtain ⟨r,h1,rfl⟩:=aB h;exact VW.l7 (ih cs' r hr h1)
 ·trivial
 ·intros;trivial
 ·intro l' r hr h;simp only [lV,qwx] at h;subst h;rw [hr.eU];exact .nil
 ·intro v l ih1 ih2 l' r hr h;obtain ⟨u,t,rfl,h1,h2⟩:=hr.dK;simp only [lV] at h;obtain ⟨v',h3,h⟩:=au h;obtain ⟨r',h4,rfl⟩:=aB h;exact .cons (ih1 u v' h1 h3) (ih2 t r' h2 h4)
theorem af7 {ρ':Nat->Nat} {V' A':Nat->Prop} {π:Nat->Option Nat} (hπ:∀ b c,A b->π b=some c->A' c/\ρ' c=ρ b/\(V' c↔V b)):∀ (l l' r:List AV),bC (VW ρ V A) l l'->lV π l=some r->bC (VW ρ' V' A') r l':=by
 intro l;induction l with
 | nil=>intro l' r hr h;simp only [lV,qwx] at h;subst h;rw [hr.eU];exact .nil
 | cons v l ih =>intro l' r hr h;obtain ⟨u,t,rfl,h1,h2⟩:=hr.dK;simp only [lV] at h;obtain ⟨v',h3,h⟩:=au h;obtain ⟨r',h4,rfl⟩:=aB h;exact .cons (aco hπ v u v' h1 h3) (ih t r' h2 h4)
theorem Zq {ρ':Nat->Nat} {V' A':Nat->Prop} {π:Nat->Option Nat} (_hπ:∀ b c,A b->π b=some c->A' c/\ρ' c=ρ b/\(V' c↔V b)):∀ (e:Env) (r:Env),kP π e=some r->∀ k v',get r k=some v'->∃ v,get e k=some v/\ren π v=some v':=by
 intro e;induction e with
 | nil=>intro r h k v' hk;simp only [kP,qwx] at h;subst h;simp [Pav.get] at hk
 | cons x e ih =>
  obtain ⟨j,v⟩:=x;intro r h k v' hk;simp only [kP] at h;obtain ⟨w,h1,h⟩:=au h;obtain ⟨r',h2,rfl⟩:=aB h;simp only [Pav.get] at hk |-;split at hk
  ·rename_i hj;rw [qwz hj];cases hk;exact ⟨v,rfl,h1⟩
  ·rename_i hj;rw [qwq hj];exact ih r' h2 k v' hk
theorem SB {π:Nat->Option Nat}:∀ (e r:Env),kP π e=some r->r.map (·.1)=e.map (·.1):=by
 intro e;induction e with
 | nil=>intro r h;simp only [kP,qwx] at h;subst h;rfl
 | cons x e ih =>obtain ⟨j,v⟩:=x;intro r h;simp only [kP] at h;obtain ⟨w,h1,h⟩:=au h;obtain ⟨r',h2,rfl⟩:=aB h;simp only [qvz,ih r' h2]
theorem Srt.keys {e r:Env} (h:Srt e) (hk:r.map (·.1)=e.map (·.1)):Srt r:=by have h1:(e.map (·.1)).Pairwise (λa b=>b < a):=List.pairwise_map.2 h;rw [<- hk] at h1;exact List.pairwise_map.1 h1
theorem UD {base:Nat} {π:Nat->Option Nat}:∀ (h r:aG),jS base π h=some r->∀ k o',get r k=some o'->k < base/\∃ o,get h k=some o/\iF π o=some o':=by
 intro h;induction h with
 | nil=>intro r h k v' hk;simp only [jS,qwx] at h;subst h;simp [Pav.get] at hk
 | cons x h ih =>
  obtain ⟨j,v⟩:=x;intro r h k o' hk;simp only [jS] at h;split at h
  ·rename_i hj;obtain ⟨w,h1,h⟩:=au h;obtain ⟨r',h2,rfl⟩:=aB h;simp only [Pav.get] at hk |-;split at hk
   ·rename_i hjk;rw [qwz hjk];cases hk;exact ⟨hjk ▸ hj,v,rfl,h1⟩
   ·rename_i hjk;rw [qwq hjk];exact ih r' h2 k o' hk
  ·rename_i hj;obtain ⟨q1,o,q2,q3⟩:=ih r h k o' hk;refine ⟨q1,o,?_,q3⟩;simp only [Pav.get];rw [qwq qqq];exact q2
theorem V8 {π:Nat->Option Nat} {h:aG}:∀ (L:List Nat) (n:Nat) (r:aG),mg π h n L=some r->∀ k o',get r k=some o'->∃ i b o,k=n+i/\L[i]?=some b/\get h b=some o/\iF π o=some o':=by
 intro L;induction L with
 | nil=>intro n r h k v' hk;simp only [mg,qwx] at h;subst h;simp [Pav.get] at hk
 | cons b L ih =>
  intro n r h k o' hk;simp only [mg] at h;split at h
  ·rename_i o ho;obtain ⟨w,h1,h⟩:=au h;obtain ⟨r',h2,rfl⟩:=aB h;simp only [Pav.get] at hk;split at hk
   ·rename_i hjk;cases hk;exact ⟨0,b,o,by omega,by simp,ho,h1⟩
   ·obtain ⟨i,b',o2,q1,q2,q3,q4⟩:=ih (n+1) r' h2 k o' hk;exact ⟨i+1,b',o2,by omega,by simpa using q2,q3,q4⟩
  ·obtain ⟨i,b',o2,q1,q2,q3,q4⟩:=ih (n+1) r h k o' hk;exact ⟨i+1,b',o2,by omega,by simpa using q2,q3,q4⟩
theorem get_append {α:Type}:∀ (l r:List (Nat × α)) (k:Nat),get (l++r) k=match get l k with | some x=>some x | none=>get r k:=by
 intro l;induction l with
 | nil=>intro r k;rfl
 | cons x l ih =>
  intro r k;obtain ⟨j,v⟩:=x;simp only [qfz,Pav.get];split
  ·rfl
  ·exact ih r k
theorem aea {ρ':Nat->Nat} {V' A':Nat->Prop} {π:Nat->Option Nat} (hπ:∀ b c,A b->π b=some c->A' c/\ρ' c=ρ b/\(V' c↔V b)):∀ (es es' r:List (List AV)),bC (bC (VW ρ V A)) es es'->aZ (lV π) es=some r->bC (bC (VW ρ' V' A')) r es':=by
 intro es;induction es with
 | nil=>intro l' r hr h;simp only [aZ,qwx] at h;subst h;rw [hr.eU];exact .nil
 | cons v l ih =>intro l' r hr h;obtain ⟨u,t,rfl,h1,h2⟩:=hr.dK;simp only [aZ] at h;obtain ⟨v',h3,h⟩:=au h;obtain ⟨r',h4,rfl⟩:=aB h;exact .cons (af7 hπ v u v' h1 h3) (ih t r' h2 h4)
theorem aag {ρ':Nat->Nat} {V' A':Nat->Prop} {π:Nat->Option Nat} (hπ:∀ b c,A b->π b=some c->A' c/\ρ' c=ρ b/\(V' c↔V b)) {o o2:fC} {o':jr} (ho:OW ρ V A o o') (hr:iF π o=some o2):OW ρ' V' A' o2 o':=by
 cases o with
 | cells z es mu dt =>
  obtain ⟨es',mu',rfl,h2,h3,h4⟩:=ho;simp only [iF] at hr;split at hr
  ·rename_i hd;cases hr;exact ⟨es',mu',rfl,h2,h3.mono λe e' he hee=>hee.mono λx x' hx hxx=>hxx.isC (h4 hd e he x hx),h4⟩
  ·rename_i hd;obtain ⟨es2,h5,rfl⟩:=aB hr;exact ⟨es',mu',rfl,h2,aea hπ es es' es2 h3 h5,λq=>absurd q hd⟩
 | map es =>simp only [iF,qwx] at hr;subst hr;obtain ⟨es',rfl,h2⟩:=ho;exact ⟨es',rfl,h2.mono λx y _ hxy=>⟨hxy.1,hxy.2.data⟩⟩
 | iter s p =>simp only [iF,qwx] at hr;subst hr;exact ho
theorem QC {base:Nat} {s s2:WSt} {s':St} (S:Sim ρ V A s s') {L:List Nat} (hL:L.Nodup) (hLb:∀ x ∈ L,base<=x) (hr:renumber base s L=some s2) :
 ∃ ρ' V' A',Sim ρ' V' A' s2 s'/\base<=s2.next/\Old base ρ V A ρ' V' A'/\(∀ b,A' b->¬ V' b->∃ c,A c/\¬ V c/\ρ' b=ρ c/\(base<=b->base<=c)):=by
 unfold renumber at hr;obtain ⟨e,h1,hr⟩:=au hr;obtain ⟨h1',h2,hr⟩:=au hr;obtain ⟨h2',h3,rfl⟩:=aB hr;let ρ':=λc=>ρ (pre base L c);let A':=λc=>∃ b,A b/\iy base L b=some c;let V':=λc=>V (pre base L c)/\A' c;have hπ:∀ b c,A b->iy base L b=some c->A' c/\ρ' c=ρ b/\(V' c↔V b):=by intro b c hb hc;have:=(uj hc).1;exact ⟨⟨b,hb,hc⟩,by show ρ (pre base L c)=ρ b;rw [this],by show V (pre base L c)/\A' c↔V b;rw [this];exact ⟨λq=>q.1,λq=>⟨q,b,hb,hc⟩⟩⟩
 have hgetH:∀ c o2,get (h1'++h2') c=some o2->∃ b o,iy base L b=some c/\get s.heap b=some o/\iF (iy base L) o=some o2:=by
  intro c o2 hc;rw [get_append] at hc;split at hc
  ·rename_i x hx;cases hc;obtain ⟨q1,o,q2,q3⟩:=UD _ _ h2 c o2 hx;exact ⟨c,o,by simp [iy,q1],q2,q3⟩
  ·obtain ⟨i,b,o,rfl,q2,q3,q4⟩:=V8 _ _ _ h3 c o2 hc;refine ⟨b,o,?_,q3,q4⟩;unfold iy;rw [qwq (by have:=hLb b (qzx q2);omega)];exact adC hL q2
 refine ⟨ρ',V',A',⟨S.srt.keys (SB _ _ h1),?_,?_,?_⟩,qsx _ _,?_,?_⟩
 ·intro k v' hk;obtain ⟨v,q1,q2⟩:=Zq (ρ':=ρ') (V':=V') (A':=A') hπ _ _ h1 k v' hk;obtain ⟨u,q3,q4⟩:=S.env k v q1;exact ⟨u,q3,aco hπ v u v' q4 q2⟩
 ·refine ⟨λc o hc=>?_,λc o hc hv=>?_,λc o hc hv=>?_,?_,?_⟩
  ·obtain ⟨b,o1,q1,q2,q3⟩:=hgetH c o hc;exact ⟨b,S.heap.dom b o1 q2,q1⟩
  ·obtain ⟨b,o1,q1,q2,q3⟩:=hgetH c o hc;have hvb:V b:=((hπ b c (S.heap.dom b o1 q2) q1).2.2).1 hv;obtain ⟨z,mu,dt,rfl⟩:=S.heap.uZ b o1 q2 hvb;simp only [iF,aZ,om] at q3;split at q3 <;> cases q3 <;> exact ⟨_,_,_,rfl⟩
  ·obtain ⟨b,o1,q1,q2,q3⟩:=hgetH c o hc;obtain ⟨p1,p2,p3⟩:=hπ b c (S.heap.dom b o1 q2) q1;obtain ⟨o',q4,q5⟩:=S.heap.obj b o1 q2 (λq=>hv (p3.2 q));exact ⟨o',by rw [p2];exact q4,aag hπ q5 q3⟩
  ·exact λc hc=>hc.2
  ·rintro c d ⟨b,hb,hbc⟩ ⟨a,ha,had⟩ vc vd hcd;obtain ⟨_,p2,p3⟩:=hπ b c hb hbc;obtain ⟨_,r2,r3⟩:=hπ a d ha had;rw [p2,r2] at hcd;have:=S.heap.inj b a hb ha (λq=>vc (p3.2 q)) (λq=>vd (r3.2 q)) hcd;subst this;rw [hbc] at had;cases had;rfl
 ·refine ⟨?_,?_⟩
  ·rintro c ⟨b,hb,hbc⟩;rcases (uj hbc).2.2.2 with q | q
   ·exact qXx q (qsx _ _)
   ·exact q
  ·rintro c ⟨b,hb,hbc⟩ hv;obtain ⟨_,p2,p3⟩:=hπ b c hb hbc;rw [p2];exact S.lt.p b hb (λq=>hv (p3.2 q))
 ·intro b hb;have hnb:iy base L b=some b:=by simp [iy,hb]
  refine ⟨λha=>hπ b b ha hnb,?_⟩;rintro ⟨c,hc,hcb⟩;have:=(uj hcb).2.2.1 hb;rw [this];exact hc
 ·rintro c ⟨b,hb,hbc⟩ hv;obtain ⟨_,p2,p3⟩:=hπ b c hb hbc;exact ⟨b,hb,λq=>hv (p3.2 q),p2,λq=>by have:=(uj hbc).2.1;omega⟩
theorem abD {base:Nat}:∀ (g:List (Nat × Nat)) (s:WSt) (s':St) (ρ:Nat->Nat) (V A:Nat->Prop),Sim ρ V A s s'->base<=s.next ->
 ∃ V' A',Sim ρ V' A' (lN g s) s'/\base<=(lN g s).next/\Old base ρ V A ρ V' A'/\∀ b,A' b->¬ V' b->A b/\¬ V b:=by
 intro g;induction g with
 | nil=>intro s s' ρ V A S hb;exact ⟨V,A,S,hb,Old.refl base ρ V A,λb h1 h2=>⟨h1,h2⟩⟩
 | cons x g ih =>
  intro s s' ρ V A S hb;obtain ⟨k,z⟩:=x;simp only [lN];split
  ·rename_i v hk;have key:∃ V' A',Sim ρ V' A' (BP s k z v) s'/\base<=(BP s k z v).next/\Old base ρ V A ρ V' A'/\∀ b,A' b->¬ V' b->A b/\¬ V b:=by
    unfold BP;split
    ·rename_i z';split
     ·rename_i hz;subst hz;obtain ⟨v',h1,h2⟩:=S.env k _ hk;have hn:¬ A s.next:=λq=>qrq _ (S.lt.w _ q)
      have hu:∀ b,A b->addN A s.next b/\ρ b=ρ b/\((V b\/b=s.next)↔V b):=λb hb=>⟨.inl hb,rfl,⟨λq=>q.elim id λe=>absurd (e ▸ hb) hn,.inl⟩⟩
      have hv':v'=.bF\/v'=.ro z' [] true:=by
       rcases h2.mO with ⟨_,rfl⟩ | ⟨es',ex',rfl,hx,hr,_⟩
       ·exact .inl rfl
       ·rw [hr.eU,hx rfl];exact .inr rfl
      refine ⟨λb=>V b\/b=s.next,addN A s.next,⟨S.srt.put _ _,?_,?_,?_⟩,by simp only;omega,?_,?_⟩
      ·intro j u hj;simp only at hj;rw [Rl] at hj;split at hj
       ·rename_i hkj;cases hj;subst hkj;exact ⟨v',h1,.slv _ _ _ _ (.inr rfl) (.inr rfl) hv'⟩
       ·exact (S.env.mono hu) j u hj
      ·have H:=S.heap;refine ⟨λb o hb=>?_,λb o hb hv=>?_,λb o hb hv=>?_,?_,?_⟩
       ·rw [get_put] at hb;split at hb
        ·rename_i q;exact .inr q.symm
        ·exact .inl (H.dom b o hb)
       ·rw [get_put] at hb;split at hb
        ·cases hb;exact ⟨_,_,_,rfl⟩
        ·rename_i q;rcases hv with hv | hv
         ·exact H.uZ b o hb hv
         ·exact absurd hv.symm q
       ·rw [get_put] at hb;split at hb
        ·rename_i q;exact absurd (.inr q.symm) hv
        ·obtain ⟨o',q1,q2⟩:=H.obj b o hb (λq=>hv (.inl q));exact ⟨o',q1,q2.mono hu⟩
       ·rintro b (hb | hb)
        ·exact .inl (H.sub b hb)
        ·exact .inr hb
       ·rintro b c (hb | hb) (hc | hc) vb vc hbc
        ·exact H.inj b c hb hc (λq=>vb (.inl q)) (λq=>vc (.inl q)) hbc
        ·exact absurd (.inr hc) vc
        ·exact absurd (.inr hb) vb
        ·exact absurd (.inr hb) vb
      ·refine ⟨?_,?_⟩
       ·rintro b (hb | rfl)
        ·exact qmz (S.lt.w b hb)
        ·exact q1j _
       ·rintro b (hb | rfl) hv
        ·exact S.lt.p b hb (λq=>hv (.inl q))
        ·exact absurd (.inr rfl) hv
      ·intro b hbb;exact ⟨hu b,λq=>q.elim id λe=>by omega⟩
      ·rintro b (hb | rfl) hv
       ·exact ⟨hb,λq=>hv (.inl q)⟩
       ·exact absurd (.inr rfl) hv
     ·exact ⟨V,A,S,hb,Old.refl base ρ V A,λb h1 h2=>⟨h1,h2⟩⟩
    ·exact ⟨V,A,S,hb,Old.refl base ρ V A,λb h1 h2=>⟨h1,h2⟩⟩
   obtain ⟨V1,A1,S1,b1,o1,n1⟩:=key;obtain ⟨V2,A2,S2,b2,o2,n2⟩:=ih _ s' ρ V1 A1 S1 b1;exact ⟨V2,A2,S2,b2,o1.trans o2,λb q1 q2=>by obtain ⟨q3,q4⟩:=n2 b q1 q2;exact n1 b q3 q4⟩
  ·exact ih s s' ρ V A S hb
theorem IV (k:Nat):∀ l:List Nat,(bitsOf l).testBit k=l.contains k:=by
 intro l;induction l with
 | nil=>simp [bitsOf]
 | cons a l ih =>
  simp only [bitsOf,Nat.testBit_or,ih,Nat.testBit_two_pow,List.contains_cons];congr 1;by_cases h:a=k
  ·subst h;simp
  ·have:(k == a)=false:=by simpa using qcj h
   rw [this];simpa using h
theorem Zz {base:Nat} {a:Ann} {s s2:WSt} {s':St} (S:Sim ρ V A s s') (hb:base<=s.next) (hc:canon base a s=some s2) {s1:St} (hs1:s1=s'\/s1=iJ (uQ a) s') :
 ∃ ρ' V' A',Sim ρ' V' A' s2 s1/\base<=s2.next/\Old base ρ V A ρ' V' A'/\∀ b,A' b->¬ V' b->∃ c,A c/\¬ V c/\ρ' b=ρ c/\(base<=b->base<=c):=by
 cases hcn:a.cn with
 | false =>
  have e1:uQ a=0:=by simp only [uQ,hcn]
  simp only [canon,hcn,qwx] at hc;subst hc;have e2:s1=s':=by
   rcases hs1 with h | h
   ·exact h
   ·rw [h,e1];rfl
  subst e2;exact ⟨ρ,V,A,S,hb,Old.refl base ρ V A,λb h1 h2=>⟨b,h1,h2,rfl,id⟩⟩
 | true =>
 have S0:Sim ρ V A ⟨pI a.live s.env,s.heap,s.next⟩ s1:=by
  have ek:∀ k v,get (pI a.live s.env) k=some v->get s.env k=some v/\a.live.contains k=true:=by intro k v hk;obtain ⟨q1,q2⟩:=KQ s.env a.live;have hm:=get_mem hk;exact ⟨S.srt.get (q1.subset hm),by simpa using q2 _ hm⟩
  have ks:Srt (pI a.live s.env):=S.srt.sublist (KQ s.env a.live).1;rcases hs1 with rfl | rfl
  ·exact ⟨ks,λk v hk=>S.env k v (ek k v hk).1,S.heap,S.lt⟩
  ·refine ⟨ks,λk v hk=>?_,S.heap,S.lt⟩;obtain ⟨h1,h2⟩:=ek k v hk;obtain ⟨v',h3,h4⟩:=S.env k v h1;refine ⟨v',?_,h4⟩;simp only [iJ,uQ,hcn];split
   ·exact h3
   ·rw [RP,IV,h2,qwz rfl];exact h3
 obtain ⟨V1,A1,S1,b1,o1,n1⟩:=abD (base:=base) a.grow _ s1 ρ V A S0 hb;simp only [canon,hcn] at hc;cases hnr:XL a.grow with
 | true =>rw [hnr] at hc;simp only [qwx] at hc;subst hc;exact ⟨ρ,V1,A1,S1,b1,o1,λb h1 h2=>by obtain ⟨c4,c5⟩:=n1 b h1 h2;exact ⟨b,c4,c5,rfl,id⟩⟩
 | false =>
 rw [hnr] at hc;simp only [UY] at hc;obtain ⟨q1,q2⟩:=aeX (base:=base) (h:=(lN a.grow ⟨pI a.live s.env,s.heap,s.next⟩).heap) 1000 (GH (lN a.grow ⟨pI a.live s.env,s.heap,s.next⟩).env++sO base (lN a.grow ⟨pI a.live s.env,s.heap,s.next⟩).heap) [] qqz (λx hx=>by cases hx);obtain ⟨ρ',V',A',S2,b2,o2,n2⟩:=QC S1 q1 q2 hc;exact ⟨ρ',V',A',S2,b2,o1.trans o2,λb h1 h2=>by obtain ⟨c,c1,c2,c3⟩:=n2 b h1 h2;obtain ⟨c4,c5⟩:=n1 c c1 c2;exact ⟨c,c4,c5,c3⟩⟩
end
end Go.Pw
end
section
set_option linter.unusedSimpArgs false
set_option linter.unusedVariables false
namespace Go.Pw
open Go Go.Pav
def Hi (base m0:Nat) (ρ:Nat->Nat) (V A:Nat->Prop):Prop:=∀ b,A b->¬ V b->base<=b->m0<=ρ b
structure Res (base m0:Nat) (ρ:Nat->Nat) (V A:Nat->Prop) (s1:WSt) (s1':St) (ρ':Nat->Nat) (V' A':Nat->Prop):Prop where
 sim:Sim ρ' V' A' s1 s1'
 lU:base<=s1.next
 old:Old base ρ V A ρ' V' A'
 hi:Hi base m0 ρ' V' A'
section
variable {C:aH} {run:yQ} {run':Run} {base m0:Nat}
theorem Res.canon {ρ:Nat->Nat} {V A:Nat->Prop} {s1 s2:WSt} {s1' s2':St} {ρ':Nat->Nat} {V' A':Nat->Prop} (R:Res base m0 ρ V A s1 s1' ρ' V' A') {a:Ann} (hc:canon base a s1=some s2)
 (hs:s2'=s1'\/s2'=iJ (uQ a) s1'):∃ ρ' V' A',Res base m0 ρ V A s2 s2' ρ' V' A':=by
 obtain ⟨ρ2,V2,A2,S2,b2,o2,n2⟩:=Zz R.sim R.lU hc hs;refine ⟨ρ2,V2,A2,S2,b2,R.old.trans o2,λb h1 h2 h3=>?_⟩;obtain ⟨c,c1,c2,c3,c4⟩:=n2 b h1 h2;rw [c3];exact R.hi c c1 c2 (c4 h3)
theorem Res.frz {ρ:Nat->Nat} {V A:Nat->Prop} {k:Nat} {s1 s2:WSt} {s1':St} {ρ':Nat->Nat} {V' A':Nat->Prop} (R:Res base m0 ρ V A s1 s1' ρ' V' A') (hc:IE k s1=some s2) :
 ∃ s2',Gj k s1'=some s2'/\s2'.next=s1'.next/\Res base m0 ρ V A s2 s2' ρ' V' A':=by
 obtain ⟨v,hv,hc⟩:=au hc;obtain ⟨x,hx,rfl⟩:=aB hc;obtain ⟨u,hu,hr⟩:=R.sim.env k v hv;obtain ⟨y,hy,hd⟩:=H8 R.sim.heap _ _ _ _ hr hx;have hm:=wJ R.sim.heap (aK s1.heap ay v) (reach s1'.heap ay u) (λb' hb'=>Ht R.sim.heap _ _ _ _ hr hx b' hb');refine ⟨⟨dR s1'.env (some k) y,aQ s1'.heap (aW s1'.heap (reach s1'.heap ay u)),s1'.next⟩,by simp only [Gj,hu,ob,hy,om],rfl,⟨?_,R.lU,R.old,R.hi⟩⟩;exact ⟨R.sim.srt.dR (some k) x,R.sim.env.dR (d:=some k) (hd.mono λ_ q=>q.elim),hm.1,R.sim.lt⟩
theorem Res.Zi {ρ:Nat->Nat} {V A:Nat->Prop} {ρ':Nat->Nat} {V' A':Nat->Prop}:∀ (l:List Nat) {s1 s2:WSt} {s1':St},Res base m0 ρ V A s1 s1' ρ' V' A'->mP l s1=some s2 ->
 ∃ s2',lD l s1'=some s2'/\s2'.next=s1'.next/\Res base m0 ρ V A s2 s2' ρ' V' A'
 | [],s1,s2,s1',R,h=>by simp only [mP,qwx] at h;subst h;exact ⟨s1',rfl,rfl,R⟩
 | k::l,s1,s2,s1',R,h=>by simp only [mP] at h;obtain ⟨s3,h1,h2⟩:=au h;obtain ⟨s3',h3,e3,R3⟩:=R.frz h1;obtain ⟨s2',h4,e4,R4⟩:=Res.Zi l R3 h2;exact ⟨s2',by simp only [lD,h3,ob];exact h4,e4.trans e3,R4⟩
theorem Keeps.old {ρ:Nat->Nat} {V A:Nat->Prop} {ρ':Nat->Nat} {V' A':Nat->Prop} (k:Keeps ρ V A ρ' V' A') (hn:∀ b,b < base->A' b->A b):Old base ρ V A ρ' V' A':=λb hb=>⟨k b,hn b hb⟩
theorem agz (hr:zB run run'):∀ (l:List bg) (s s1:WSt),(l.all λo=>jh o.op)=true->jf C run l s=some s1->∀ (s':St) (ρ:Nat->Nat) (V A:Nat->Prop),Sim ρ V A s s'->base<=s.next->Hi base m0 ρ V A->m0<=s'.next ->
 ∃ s1' ρ' V' A',lX (fK C) run' (l.map vg) s'=some s1'/\Res base m0 ρ V A s1 s1' ρ' V' A'/\m0<=s1'.next:=by
 intro l;induction l with
 | nil =>intro s s1 _ he s' ρ V A S hb hi hm;simp only [jf,qwx] at he;subst he;exact ⟨s',ρ,V,A,rfl,⟨S,hb,Old.refl base ρ V A,hi⟩,hm⟩
 | cons o l ih =>
  intro s s1 hok he s' ρ V A S hb hi hm;simp only [qdz,qzq] at hok;simp only [jf] at he;obtain ⟨d,h1,he⟩:=au he;have lt':Lts ρ V A (s.next+1) (s'.next+1):=⟨λb hb=>qmz (S.lt.w b hb),λb hb hv=>qmz (S.lt.p b hb hv)⟩;obtain ⟨d',ρ1,V1,A1,h2,O⟩:=acS hr S.env S.heap lt' (nid:=s.next) (mid:=s'.next) (λq=>qrq _ (S.lt.w _ q)) (q1j _) (λb hb hv=>q8q (S.lt.p b hb hv)) (q1j _) hok.1 h1;have S1:Sim ρ1 V1 A1 ⟨eG s.env o.dst d.v,d.h,d.n⟩ ⟨dR s'.env o.dst d'.v,d'.h,d'.n⟩:=⟨S.srt.dR _ _,(S.env.mono O.keeps).dR O.v,O.h,O.lt⟩;have hi1:Hi base m0 ρ1 V1 A1:=by
   intro b q1 q2 q3;rcases O.ah1 b q1 q2 with ⟨q4,q5⟩ | q4 | q4
   ·rw [q5];exact hi b q4 (λq=>q2 ((O.keeps b q4).2.2.2 q)) q3
   ·omega
   ·omega
  have hb1:base<=d.n:=by have:=O.next;omega
  have hm1:m0<=d'.n:=by have:=O.XP;omega
  obtain ⟨s1',ρ2,V2,A2,h3,R,h4⟩:=ih ⟨eG s.env o.dst d.v,d.h,d.n⟩ s1 hok.2 he _ ρ1 V1 A1 S1 hb1 hi1 hm1;have o1:Old base ρ V A ρ1 V1 A1:=Keeps.old O.keeps λb hbb hA=>by
   rcases O.new b hA with q | q | q
   ·exact q
   ·omega
   ·omega
  refine ⟨s1',ρ2,V2,A2,?_,⟨R.sim,R.lU,o1.trans R.old,R.hi⟩,h4⟩;simp only [qvz,lX];have:(vg o).dst=o.dst:=rfl;rw [h2];simp only [ob,this];exact h3
def mV (ρ:Nat->Nat) (V A:Nat->Prop) (m1 m2:Nat) (d:kY) (d':Did):Prop :=(d'.bar=true->d.bar=true/\d.wr=[])/\(∀ b ∈ d'.rd,∃ c ∈ d.rd,b=ρ c/\¬ V c/\A c)/\(∀ b ∈ d'.wr,(∃ c ∈ V9 d,b=ρ c/\¬ V c/\A c)\/∃ k w,d.bar=true/\d.wr=k::w/\m1<=b/\b < m2/\∀ c,A c->¬ V c->ρ c=b->k<=c)
theorem mV.mono {ρ ρ':Nat->Nat} {V A V' A':Nat->Prop} {m1 m2 m2' mid:Nat} {d:kY} {d':Did} (h:mV ρ V A m1 m2 d d') (k:Keeps ρ V A ρ' V' A') (hm:m2<=m2') (hmid:mid < m1)
 (hnew:∀ b,A' b->¬ V' b->(A b/\ρ' b=ρ b)\/ρ' b=mid\/m2<=ρ' b):mV ρ' V' A' m1 m2' d d':=by
 refine ⟨h.1,λb hb=>?_,λb hb=>?_⟩
 ·obtain ⟨c,h1,h2,h3,h4⟩:=h.2.1 b hb;obtain ⟨k1,k2,k3⟩:=k c h4;exact ⟨c,h1,by rw [k2];exact h2,λq=>h3 (k3.1 q),k1⟩
 ·rcases h.2.2 b hb with ⟨c,h1,h2,h3,h4⟩ | ⟨j,w,h1,h2,h3,h4,h5⟩
  ·obtain ⟨k1,k2,k3⟩:=k c h4;exact .inl ⟨c,h1,by rw [k2];exact h2,λq=>h3 (k3.1 q),k1⟩
  ·refine .inr ⟨j,w,h1,h2,h3,by omega,λc hA hV hc=>?_⟩;rcases hnew c hA hV with ⟨q1,q2⟩ | q | q
   ·exact h5 c q1 (λq=>hV ((k c q1).2.2.2 q)) (by rw [<- q2];exact hc)
   ·omega
   ·omega
theorem Az {ρ:Nat->Nat} {V A:Nat->Prop} (inj:∀ b c,A b->A c->¬ V b->¬ V c->ρ b=ρ c->b=c) {a b:List Nat} {a' b':List Nat}
 (ha:∀ x ∈ a',∃ c ∈ a,x=ρ c/\¬ V c/\A c) (hb:∀ x ∈ b',∃ c ∈ b,x=ρ c/\¬ V c/\A c) (h:meets a' b'=true):meets a b=true:=by
 simp only [meets,qhx,qvj] at h |-;obtain ⟨x,hx,y,hy,rfl⟩:=h;obtain ⟨c,h1,h2,h3,h4⟩:=ha x hx;obtain ⟨d,h5,h6,h7,h8⟩:=hb x hy;have:=inj c d h4 h8 h3 h7 (h2.symm.trans h6);subst this;exact ⟨c,h1,c,h5,rfl⟩
theorem acw {ρ:Nat->Nat} {V A:Nat->Prop} (inj:∀ b c,A b->A c->¬ V b->¬ V c->ρ b=ρ c->b=c) {m1 m2:Nat} {a b:kY} {a' b':Did} (ha:mV ρ V A m1 m2 a a') (hb:mV ρ V A m1 m2 b b') (h:Wp a b=false):clash a' b'=false:=by
 have nt:∀ {x y:Bool},(x=true->y=true)->y=false->x=false:=by intro x y q1 q2;cases x <;> simp_all
 have plain:∀ {d:kY} {d':Did},mV ρ V A m1 m2 d d'->d.bar=false->d'.bar=false/\∀ b ∈ d'.wr,∃ c ∈ d.wr,b=ρ c/\¬ V c/\A c:=by
  intro d d' hd hq;refine ⟨?_,λb hb=>?_⟩
  ·cases q:d'.bar with
   | false=>rfl
   | true=>rw [(hd.1 q).1] at hq;cases hq
  ·rcases hd.2.2 b hb with ⟨c,q1,q2⟩ | ⟨_,_,q,_⟩
   ·unfold V9 at q1;rw [hq] at q1;exact ⟨c,q1,q2⟩
   ·rw [hq] at q;cases q
 have deep:∀ {d e:kY} {d' e':Did},mV ρ V A m1 m2 d d'->mV ρ V A m1 m2 e e'->d.bar=true->e.bar=false->Vy d.rd d.wr e.rd e.wr=false ->
  d'.bar=false/\e'.bar=false/\meets d'.wr e'.wr=false/\meets d'.wr e'.rd=false/\meets d'.rd e'.wr=false:=by
  intro d e d' e' hd he hdb heb hh;unfold Vy at hh;cases hw:d.wr with
  | nil=>rw [hw] at hh;cases hh
  | cons k w =>
   rw [hw] at hh;simp only [qZq] at hh;obtain ⟨g1,g2,g3,g4⟩:=hh;obtain ⟨p1,p2⟩:=plain he heb;have g1':∀ c ∈ e.rd++e.wr,¬ k<=c:=by intro c hc q;have:=q5x.1 g1 c hc;simp [q] at this
   have key:∀ (l l':List Nat),(∀ x ∈ l',∃ c ∈ l,x=ρ c/\¬ V c/\A c)->(∀ c ∈ l,¬ k<=c)->meets w l=false->meets d'.wr l'=false:=by
    intro l l' h1 h2 h3;cases q:meets d'.wr l' with
    | false=>rfl
    | true =>
     exfalso;simp only [meets,qhx,qvj] at q;obtain ⟨x,hx,y,hy,rfl⟩:=q;obtain ⟨c,c1,c2,c3,c4⟩:=h1 x hy;rcases hd.2.2 x hx with ⟨c',q1,q2,q3,q4⟩ | ⟨k',w',q1,q2,q3,q4,q5⟩
     ·unfold V9 at q1;rw [hdb,hw] at q1;simp only [List.tail_cons] at q1;have:=inj c c' c4 q4 c3 q3 (c2.symm.trans q2);subst this;have:meets w l=true:=by simp only [meets,qhx,qvj];exact ⟨c,q1,c,c1,rfl⟩
      rw [h3] at this;cases this
     ·rw [hw] at q2;cases q2;exact h2 c c1 (q5 c c4 c3 c2.symm)
   refine ⟨?_,p1,key _ _ p2 (λc hc=>g1' c (by simp [hc])) g2,key _ _ he.2.1 (λc hc=>g1' c (by simp [hc])) g3,?_⟩
   ·cases q:d'.bar with
    | false=>rfl
    | true=>rw [(hd.1 q).2] at hw;cases hw
   ·cases q:meets d'.rd e'.wr with
    | false=>rfl
    | true=>rw [Az inj hd.2.1 p2 q] at g4;cases g4
 have msym:∀ a b:List Nat,meets a b=meets b a:=by
  intro a b;cases q:meets a b with
  | true =>symm;simp only [meets,qhx,qvj] at q |-;obtain ⟨x,h1,y,h2,h3⟩:=q;exact ⟨y,h2,x,h1,h3.symm⟩
  | false =>
   symm;cases p:meets b a with
   | false=>rfl
   | true =>
    exfalso;simp only [meets,qhx,qvj] at p;obtain ⟨x,h1,y,h2,h3⟩:=p;have:meets a b=true:=by simp only [meets,qhx,qvj];exact ⟨y,h2,x,h1,h3.symm⟩
    rw [q] at this;cases this
 have qt:∀ {d:kY} {d':Did},mV ρ V A m1 m2 d d'->DL d=true->quiet d'=true:=by
  intro d d' hd hq;simp only [DL,qzq,qcx,qhj] at hq;simp only [quiet,qzq,qcx,qhj];refine ⟨(plain hd hq.1).1,?_,?_⟩
  ·cases hw:d'.wr with
   | nil=>rfl
   | cons b r =>obtain ⟨c,h1,_⟩:=(plain hd hq.1).2 b (by rw [hw];exact qXq);rw [hq.2.1] at h1;cases h1
  ·cases hw:d'.rd with
   | nil=>rfl
   | cons b r =>obtain ⟨c,h1,_⟩:=hd.2.1 b (by rw [hw];exact qXq);rw [hq.2.2] at h1;cases h1
 unfold Wp at h;unfold clash;cases qa:DL a with
 | true=>rw [qt ha qa];simp
 | false =>
  cases qb:DL b with
  | true=>rw [qt hb qb];simp
  | false =>
   rw [qa,qb] at h;simp only [Bool.or_self,q9j,qYj] at h;cases ab:a.bar with
   | true =>rw [ab,qwz rfl,qZq] at h;obtain ⟨d1,d2,d3,d4,d5⟩:=deep ha hb ab h.1 h.2;rw [d1,d2,d3,d4,d5];simp
   | false =>
   cases bb:b.bar with
   | true =>rw [ab,bb,qwq qqz,qwz rfl] at h;obtain ⟨d1,d2,d3,d4,d5⟩:=deep hb ha bb ab h;rw [d1,d2,msym,d3,msym a'.wr,d5,msym a'.rd,d4];simp
   | false =>
   rw [ab,bb,qwq qqz,qwq qqz] at h;simp only [qZq] at h;obtain ⟨h3,h4,h5⟩:=h;obtain ⟨h1,ha2⟩:=plain ha ab;obtain ⟨h2,hb2⟩:=plain hb bb;have e:(a'.bar||(b'.bar||(meets a'.wr b'.wr||(meets a'.wr b'.rd||meets a'.rd b'.wr))))=false:=by simp only [qZq];exact ⟨h1,h2,nt (Az inj ha2 hb2) h3,nt (Az inj ha2 hb.2.1) h4,nt (Az inj ha.2.1 hb2) h5⟩
   rw [e,zqz]
theorem aeO (hr:zB run run'):∀ (l:List bg) (nid:Nat) (s s1:WSt) (ds ds1:List kY),(l.all λo=>jh o.op)=true->fJ C run l nid s ds=some (s1,ds1) ->
 ∀ (mid:Nat) (s':St) (ds':List Did) (ρ:Nat->Nat) (V A:Nat->Prop),Sim ρ V A s s'->base<=nid->nid+l.length<=s.next->(∀ b,A b->b < nid\/nid+l.length<=b)->Hi base m0 ρ V A->m0<=mid->mid+l.length<=s'.next ->
  (∀ b,A b->¬ V b->ρ b < mid\/mid+l.length<=ρ b)->∀ R:Nat,mid+l.length<=R->R<=s'.next->bC (mV ρ V A R s'.next) ds ds' ->
 ∃ s1' ds1' ρ' V' A',o9 (fK C) run' (l.map vg) mid s' ds'=some (s1',ds1')/\Res base m0 ρ V A s1 s1' ρ' V' A'/\m0<=s1'.next/\bC (mV ρ' V' A' R s1'.next) ds1 ds1':=by
 intro l;induction l with
 | nil =>intro nid s s1 ds ds1 _ he mid s' ds' ρ V A S hb hnl _ hi hm hml _ R hR1 hR2 hds;simp only [fJ,qwx,qkj] at he;obtain ⟨rfl,rfl⟩:=he;simp only [qaj] at hnl hml;exact ⟨s',ds',ρ,V,A,rfl,⟨S,by omega,Old.refl base ρ V A,hi⟩,by omega,hds⟩
 | cons o l ih =>
  intro nid s s1 ds ds1 hok he mid s' ds' ρ V A S hb hnl hgap hi hm hml hgap' R hR1 hR2 hds;simp only [qdz,qzq] at hok;simp only [qaz] at hnl hml hgap hgap' hR1;simp only [fJ] at he;obtain ⟨d,h1,he⟩:=au he;have hn:¬ A nid:=λq=>by rcases hgap nid q with q | q <;> omega
  obtain ⟨d',ρ1,V1,A1,h2,O⟩:=acS hr S.env S.heap S.lt (nid:=nid) (mid:=mid) hn qqq (λb hbb hv=>by rcases hgap' b hbb hv with q | q <;> omega) qqq hok.1 h1;have S1:Sim ρ1 V1 A1 ⟨eG s.env o.dst d.v,d.h,d.n⟩ ⟨dR s'.env o.dst d'.v,d'.h,d'.n⟩:=⟨S.srt.dR _ _,(S.env.mono O.keeps).dR O.v,O.h,O.lt⟩;have hi1:Hi base m0 ρ1 V1 A1:=by
   intro b q1 q2 q3;rcases O.ah1 b q1 q2 with ⟨q4,q5⟩ | q4 | q4
   ·rw [q5];exact hi b q4 (λq=>q2 ((O.keeps b q4).2.2.2 q)) q3
   ·omega
   ·omega
  have hds1:bC (mV ρ1 V1 A1 R d'.n) (ds++[d]) (ds'++[d']):=(hds.mono λx y _ hxy=>hxy.mono O.keeps O.XP qqq O.ah1).append (.cons ⟨O.bar,O.rd,λb hb=>by
   rcases O.wr b hb with q | ⟨k,w,q1,q2,q3,q4,q5⟩
   ·exact .inl q
   ·exact .inr ⟨k,w,q1,q2,by omega,q4,q5⟩⟩ .nil)
  obtain ⟨s1',ds1',ρ2,V2,A2,h3,R,h4,h5⟩:=ih (nid+1) ⟨eG s.env o.dst d.v,d.h,d.n⟩ s1 (ds++[d]) ds1 hok.2 he (mid+1) _ (ds'++[d']) ρ1 V1 A1 S1 qqq (by have:=O.next;simp only;omega)
   (λb hbb=>by
    rcases O.new b hbb with q | q | q
    ·rcases hgap b q with q | q <;> omega
    ·omega
    ·omega) hi1 qqq (by have:=O.XP;simp only;omega)
   (λb hbb hv=>by
    rcases O.ah1 b hbb hv with ⟨q,q5⟩ | q | q
    ·rw [q5];rcases hgap' b q (λq6=>hv ((O.keeps b q).2.2.2 q6)) with q | q <;> omega
    ·omega
    ·omega) R qqq (by have:=O.XP;simp only;omega) hds1
  have o1:Old base ρ V A ρ1 V1 A1:=Keeps.old O.keeps λb hbb hA=>by
   rcases O.new b hA with q | q | q
   ·exact q
   ·omega
   ·omega
  refine ⟨s1',ds1',ρ2,V2,A2,?_,⟨R.sim,R.lU,o1.trans R.old,R.hi⟩,h4,h5⟩;simp only [qvz,o9];have:(vg o).dst=o.dst:=rfl;rw [h2];simp only [ob,this];exact h3
theorem aev {ρ:Nat->Nat} {V A:Nat->Prop} (inj:∀ b c,A b->A c->¬ V b->¬ V c->ρ b=ρ c->b=c) {m1 m2:Nat} {ds:List kY} {ds':List Did} (h:bC (mV ρ V A m1 m2) ds ds') {p:Nat × Nat} (ha:IZ ds p=true):apart ds' p=true:=by
 unfold IZ at ha;split at ha
 ·rename_i a b h1 h2;obtain ⟨a',h3,h4⟩:=h.get h1;obtain ⟨b',h5,h6⟩:=h.get h2;unfold apart;rw [h3,h5];simp only [qcx] at ha |-;exact acw inj h4 h6 ha
 ·cases ha
def FB (C:aH) (k:Nat):Prop :=
 ∀ (base:Nat) (c:aA) (s:WSt) (ex:Ex) (s1:WSt),okC c=true->evW C k base c s=some (ex,s1)->∀ (m0:Nat) (s':St) (ρ:Nat->Nat) (V A:Nat->Prop),Sim ρ V A s s'->base<=s.next->Hi base m0 ρ V A->m0<=s'.next ->
  ∃ s1' ρ' V' A',evC (fK C) k (erC c) s'=some (ex,s1')/\Res base m0 ρ V A s1 s1' ρ' V' A'/\m0<=s1'.next
theorem XB:∀ l:List AV,(erL l).length=l.length
 | []=>rfl
 | _::r=>by simp only [erL,qaz,XB r]
theorem aiz {j:Nat} {s:WSt} {s':St} {ρ:Nat->Nat} {V A:Nat->Prop} (S:Sim ρ V A s s') (hb:base<=s.next) (hi:Hi base m0 ρ V A) (hm:m0<=s'.next) {z b:Nat} {xe:Bool} {zz:List AV} {u:AV} (hu:get s'.env 0=some u) (hr:VW ρ V A (.ro z [] xe) u) (hl:zz.length=z) :
 ∃ s1' ρ' V' A',evC (fK C) (j+8+1) (afI zz b) s'=some (.ret,s1') /\
  Res base m0 ρ V A ⟨[(2,.sl s.next z 0 0 0 true)],put s.heap s.next (.cells z [] true true),s.next+1⟩ s1' ρ' V' A'/\m0<=s1'.next:=by
 have hn:¬ A s.next:=λq=>qrq _ (S.lt.w _ q)
 obtain ⟨e0,h0,m⟩:=s';simp only at hu hm;have hmo:∀ b,A b->addN A s.next b/\ρ b=ρ b/\((V b\/b=s.next)↔V b):=λb q=>⟨.inl q,rfl,⟨λh=>h.elim id λe=>absurd (e ▸ q) hn,.inl⟩⟩
 cases hr with
 | jP =>
  refine ⟨⟨put (put (put (put e0 2 .bF) 3 .bF) 4 (.bool true)) 2 .bF,h0,m+4⟩,ρ,λb=>V b\/b=s.next,addN A s.next,?_,⟨⟨by simp [Srt],?_,⟨?_,?_,?_,?_,?_⟩,⟨?_,?_⟩⟩,Nat.le_succ_of_le hb,?_,?_⟩,qej hm (qsx _ _)⟩
  ·simp [afI,evC,lX,jO,wants,jG,callOf,aJ,sMv,JD,iK,Vr,Opd.ev,ob,om,get_put,dR,hu,kM,lD,iJ,cZ,tq,aQ]
  ·intro k v hk;simp only [Pav.get] at hk;split at hk
   ·rename_i e;subst e;cases hk;exact ⟨.bF,by simp [get_put],.slv _ _ _ _ (.inr rfl) (.inr rfl) (.inl rfl)⟩
   ·cases hk
  ·intro b o hbo;rw [get_put] at hbo;split at hbo
   ·rename_i e;exact .inr e.symm
   ·exact .inl (S.heap.dom b o hbo)
  ·intro b o hbo hv;rw [get_put] at hbo;split at hbo
   ·cases hbo;exact ⟨z,true,true,rfl⟩
   ·rename_i e;exact S.heap.uZ b o hbo (hv.resolve_right λq=>e q.symm)
  ·intro b o hbo hv;rw [get_put] at hbo;split at hbo
   ·rename_i e;exact absurd (.inr e.symm) hv
   ·obtain ⟨o',h1,h2⟩:=S.heap.obj b o hbo (λq=>hv (.inl q));exact ⟨o',h1,h2.mono hmo⟩
  ·rintro b (q | q)
   ·exact .inl (S.heap.sub b q)
   ·exact .inr q
  ·rintro b c hb hc vb vc;exact S.heap.inj b c (hb.resolve_right λq=>vb (.inr q)) (hc.resolve_right λq=>vc (.inr q)) (λq=>vb (.inl q)) (λq=>vc (.inl q))
  ·rintro b (q | q)
   ·exact qmz (S.lt.w b q)
   ·subst q;exact q1j _
  ·intro b q v;have:=S.lt.p b (q.resolve_right λe=>v (.inr e)) (λe=>v (.inl e));simp only at this |-;omega
  ·intro b hbb;have hne:b≠s.next:=by omega
   exact ⟨λq=>hmo b q,λq=>q.resolve_right hne⟩
  ·intro b q v hbb;exact hi b (q.resolve_right λe=>v (.inr e)) (λe=>v (.inl e)) hbb
 | ro _ _ es' _ ex' hc hl2 hx he hr =>
  have:es'=[]:=qXj.1 hl2.symm;subst this;have hne:∀ b,A b->¬ V b->ρ b≠m+3:=λb q v e=>by have:=S.lt.p b q v;simp only at this;omega
  refine ⟨⟨put (put (put (put (put (put (put e0 2 .bF) 3 (.ro z [] ex')) 4 (.bool false)) 5 (.sl (m+3) z 0 0 0 true)) 6 (.ro z [] ex')) 7 (.sl (m+3) z 0 0 0 true)) 2 (.sl (m+3) z 0 0 0 true),put h0 (m+3) (.cells z [] true),m+7⟩,up ρ s.next (m+3),V,addN A s.next,?_, ⟨⟨by simp [Srt],?_,pz S.heap hn hne ⟨[],true,rfl,λh=>h,.nil,λ_ e he=>by cases he⟩,⟨?_,?_⟩⟩,Nat.le_succ_of_le hb,?_,?_⟩,qej hm (qsx _ _)⟩
  ·simp [afI,evC,lX,jO,wants,jG,callOf,aJ,sMv,JD,iK,Vr,Ci,kZ,U7,elems,kW,uX,Opd.ev,ob,om,get_put,dR,hu,hl,kM,lD,iJ,cZ,tq,aQ]
  ·intro k v hk;simp only [Pav.get] at hk;split at hk
   ·rename_i e;subst e;cases hk;refine ⟨.sl (m+3) z 0 0 0 true,by simp [get_put],?_⟩;have:up ρ s.next (m+3) s.next=m+3:=by simp [up]
    have key:=VW.sl (ρ:=up ρ s.next (m+3)) (V:=V) (A:=addN A s.next) s.next z 0 0 0 true true (.inr rfl) (λq=>hn (S.heap.sub _ q)) (λh=>h)
    rw [this] at key;exact key
   ·cases hk
  ·rintro b (q | q)
   ·exact qmz (S.lt.w b q)
   ·subst q;exact q1j _
  ·intro b q v;unfold up;split
   ·simp
   ·rename_i e;have:=S.lt.p b (q.resolve_right e) v;simp only at this |-;omega
  ·intro b hbb;have hne2:b≠s.next:=by omega
   exact ⟨λq=>qK hn b q,λq=>q.resolve_right hne2⟩
  ·intro b q v hbb;unfold up;split
   ·omega
   ·rename_i e;exact hi b (q.resolve_right e) v hbb
theorem ad1 {k:Nat} (ih:FB C k) (hr:zB (fV C (evW C k)) (runWith (fK C) (evC (fK C) k))):FB C (k+1):=by
 intro base c s ex s1 hok he m0 s' ρ V A S hb hi hm;cases c with
 | skip=>simp only [evW,qwx,qkj] at he;obtain ⟨rfl,rfl⟩:=he;exact ⟨s',ρ,V,A,rfl,⟨S,hb,Old.refl base ρ V A,hi⟩,hm⟩
 | exit id=>simp only [evW,qwx,qkj] at he;obtain ⟨rfl,rfl⟩:=he;exact ⟨s',ρ,V,A,rfl,⟨S,hb,Old.refl base ρ V A,hi⟩,hm⟩
 | ret=>simp only [evW,qwx,qkj] at he;obtain ⟨rfl,rfl⟩:=he;exact ⟨s',ρ,V,A,rfl,⟨S,hb,Old.refl base ρ V A,hi⟩,hm⟩
 | fail=>simp [evW] at he
 | cln zz z b =>
  simp only [evW] at he;split at he
  ·rename_i z' hz;split at he
   ·rename_i hc;obtain ⟨rfl,hzz,hk⟩:=hc;simp only [qwx,qkj] at he;obtain ⟨rfl,rfl⟩:=he;obtain ⟨x,hx,hx2⟩:=qzj.1 hz;obtain ⟨j,rfl⟩:∃ j,k=j+8:=⟨k - 8,by omega⟩;obtain ⟨u,hu,hr⟩:=S.env 0 x hx;obtain ⟨xe,hxe⟩:∃ e,x=.ro z' [] e:=by
     unfold KO at hx2;split at hx2
     ·cases hx2;exact ⟨_,rfl⟩
     ·cases hx2
    subst hxe;have hl:(erL zz).length=z':=by rw [XB];exact hzz
    exact aiz S hb hi hm hu hr hl
   ·cases he
  ·obtain ⟨s1',ρ1,V1,A1,h3,R,h4⟩:=ih base (amg zz z b) s ex s1 (by simpa [okC,amg,jh,okO,okV,okL] using hok) he m0 s' ρ V A S hb hi hm;exact ⟨s1',ρ1,V1,A1,pW k (k+1) (zkx k) _ _ _ h3,R,h4⟩
 | ops l a =>simp only [evW] at he;obtain ⟨s2,h1,he⟩:=au he;obtain ⟨s3,h2,he⟩:=aB he;cases he;obtain ⟨s1',ρ1,V1,A1,h3,R,h4⟩:=agz hr l s s2 hok h1 s' ρ V A S hb hi hm;obtain ⟨s2b,h2b,h2⟩:=au h2;obtain ⟨s2b',h5,e5,R5⟩:=R.Zi _ h2b;obtain ⟨ρ2,V2,A2,R2⟩:=R5.canon h2 (.inr rfl);exact ⟨_,ρ2,V2,A2,by simp only [erC,evC,h3,ob,kM,h5,om],R2,by rw [<- e5] at h4;exact h4⟩
 | draw l un a =>
  simp only [evW] at he;obtain ⟨⟨s2,ds⟩,h1,he⟩:=au he;unfold vM at he;split at he
  ·rename_i hap;obtain ⟨s3,h2,he⟩:=aB he;cases he;have S0:Sim ρ V A ⟨s.env,s.heap,s.next+l.length⟩ ⟨s'.env,s'.heap,s'.next+l.length⟩:=⟨S.srt,S.env,S.heap,λb q=>qXx (S.lt.w b q) (qsx _ _),λb q v=>qXx (S.lt.p b q v) (qsx _ _)⟩;obtain ⟨s1',ds1',ρ1,V1,A1,h3,R,h4,h5⟩:=aeO hr l s.next _ s2 [] ds hok h1 s'.next _ [] ρ V A S0 hb (qxq _) (λb q=>.inl (S.lt.w b q)) hi hm (qxq _) (λb q v=>.inl (S.lt.p b q v)) (s'.next+l.length) (qxq _) (qxq _) .nil
   obtain ⟨s2b,h2b,h2⟩:=au h2;obtain ⟨s2b',h6,e6,R6⟩:=R.Zi _ h2b;obtain ⟨ρ2,V2,A2,R2⟩:=R6.canon h2 (.inr rfl);refine ⟨_,ρ2,V2,A2,?_,R2,by rw [<- e6] at h4;exact h4⟩;simp only [erC,evC,qQq];rw [h3];simp only [ob,Bf,kM,h6,om];rw [qwz];simp only [qjx] at hap |-;exact λp hp=>aev R.sim.heap.inj h5 (hap p hp)
  ·cases he
 | seq a b =>
  simp only [okC,qzq] at hok;simp only [evW] at he;obtain ⟨⟨e1,s2⟩,h1,he⟩:=au he;obtain ⟨s1',ρ1,V1,A1,h3,R,h4⟩:=ih base a s e1 s2 hok.1 h1 m0 s' ρ V A S hb hi hm;cases e1 with
  | norm =>simp only [fF] at he;obtain ⟨s2',ρ2,V2,A2,h5,R2,h6⟩:=ih base b s2 ex s1 hok.2 he m0 s1' ρ1 V1 A1 R.sim R.lU R.hi h4;exact ⟨s2',ρ2,V2,A2,by simp only [erC,evC,h3,ob,cZ,h5],⟨R2.sim,R2.lU,R.old.trans R2.old,R2.hi⟩,h6⟩
  | exit id=>simp only [fF,qwx,qkj] at he;obtain ⟨rfl,rfl⟩:=he;exact ⟨s1',ρ1,V1,A1,by simp only [erC,evC,h3,ob,cZ],R,h4⟩
  | ret=>simp only [fF,qwx,qkj] at he;obtain ⟨rfl,rfl⟩:=he;exact ⟨s1',ρ1,V1,A1,by simp only [erC,evC,h3,ob,cZ],R,h4⟩
 | cond c a b =>
  simp only [okC,qzq] at hok;simp only [evW] at he;have hc:=S.env.opd hok.1;unfold yN at he;split at he
  ·rename_i t ht;rw [ht] at hc;cases t with
   | true =>simp only [qQx] at he;obtain ⟨s1',ρ1,V1,A1,h3,R,h4⟩:=ih base a s ex s1 hok.2.1 he m0 s' ρ V A S hb hi hm;exact ⟨s1',ρ1,V1,A1,by simp only [erC,evC,hc.fU,tq,qQx];exact h3,R,h4⟩
   | false =>simp only [qjz,qWz] at he;obtain ⟨s1',ρ1,V1,A1,h3,R,h4⟩:=ih base b s ex s1 hok.2.2 he m0 s' ρ V A S hb hi hm;exact ⟨s1',ρ1,V1,A1,by simp only [erC,evC,hc.fU,tq,qjz,qWz];exact h3,R,h4⟩
  ·cases he
 | block id b a =>
  simp only [okC] at hok;simp only [evW] at he;obtain ⟨⟨e1,s2⟩,h1,he⟩:=au he;obtain ⟨s1',ρ1,V1,A1,h3,R,h4⟩:=ih base b s e1 s2 hok h1 m0 s' ρ V A S hb hi hm;cases e1 with
  | norm =>simp only [lJ] at he;obtain ⟨s3,h5,he⟩:=aB he;cases he;obtain ⟨ρ2,V2,A2,R2⟩:=R.canon h5 (.inl rfl);exact ⟨s1',ρ2,V2,A2,by simp only [erC,evC,h3,om,dF],R2,h4⟩
  | exit i =>
   simp only [lJ] at he;split at he
   ·rename_i hid;obtain ⟨s3,h5,he⟩:=aB he;cases he;obtain ⟨ρ2,V2,A2,R2⟩:=R.canon h5 (.inl rfl);exact ⟨s1',ρ2,V2,A2,by simp only [erC,evC,h3,om,dF,qwz hid],R2,h4⟩
   ·rename_i hid;simp only [qwx,qkj] at he;obtain ⟨rfl,rfl⟩:=he;exact ⟨s1',ρ1,V1,A1,by simp only [erC,evC,h3,om,dF,qwq hid],R,h4⟩
  | ret =>simp only [lJ,qwx,qkj] at he;obtain ⟨rfl,rfl⟩:=he;exact ⟨s1',ρ1,V1,A1,by simp only [erC,evC,h3,om,dF],R,h4⟩
 | loop a b =>
  have hok':okC b=true:=hok;simp only [evW] at he;obtain ⟨s0,h0,he⟩:=au he;obtain ⟨⟨e1,s2⟩,h1,he⟩:=au he;obtain ⟨ρ0,V0,A0,R0⟩:=(⟨S,hb,Old.refl base ρ V A,hi⟩:Res base m0 ρ V A s s' ρ V A).canon h0 (s2':=iJ (uQ a) s') (.inr rfl);obtain ⟨s1',ρ1,V1,A1,h3,R,h4⟩:=ih base b s0 e1 s2 hok' h1 m0 _ ρ0 V0 A0 R0.sim R0.lU R0.hi hm;have R':Res base m0 ρ V A s2 s1' ρ1 V1 A1:=⟨R.sim,R.lU,R0.old.trans R.old,R.hi⟩;cases e1 with
  | norm =>simp only [fF] at he;obtain ⟨s2',ρ2,V2,A2,h5,R2,h6⟩:=ih base (.loop a b) s2 ex s1 hok he m0 s1' ρ1 V1 A1 R.sim R.lU R.hi h4;exact ⟨s2',ρ2,V2,A2,by simp only [erC,evC,h3,ob,cZ];exact h5,⟨R2.sim,R2.lU,R'.old.trans R2.old,R2.hi⟩,h6⟩
  | exit id=>simp only [fF,qwx,qkj] at he;obtain ⟨rfl,rfl⟩:=he;exact ⟨s1',ρ1,V1,A1,by simp only [erC,evC,h3,ob,cZ],R',h4⟩
  | ret=>simp only [fF,qwx,qkj] at he;obtain ⟨rfl,rfl⟩:=he;exact ⟨s1',ρ1,V1,A1,by simp only [erC,evC,h3,ob,cZ],R',h4⟩
theorem Iu {ρ:Nat->Nat} {V A:Nat->Prop} {e:Env} {e':Env} {h:aG} {h':Heap} (he:EW ρ V A e e') (H:HW ρ V A h h') {rs:List vK} {v:AV} (hv:IW e h rs=some v):∃ v',Pav.results e' h' rs=some v'/\VW ρ V A v v':=by
 obtain ⟨vs,h1,rfl⟩:=aB hv;have one:∀ r x,Dw e h r=some x->∃ x',H6 e' h' r=some x'/\VW ρ V A x x':=by
  intro r x hx;cases r with
  | tmp t=>exact he t x hx
  | cell t k ag =>
   simp only [Dw] at hx;split at hx
   ·rename_i b i o hg;obtain ⟨p,h2,h3⟩:=he t _ hg;obtain ⟨rfl,hA,hV⟩:=h3.jl;unfold yL at hx;split at hx
    ·rename_i z es mu dt hgb;obtain ⟨cs,h4,h5⟩:=au hx;obtain ⟨o',g1,es',mu',rfl,_,ge,_⟩:=H.obj b _ hgb hV;obtain ⟨cs',h6,h7⟩:=ge.get h4;obtain ⟨v',h8,h9⟩:=vO (h7.drop o) h5;exact ⟨v',by simp only [H6,h2,g1,loadAt,h6,ob];exact h8,h9⟩
    ·cases hx
   ·cases hx
 have lst:∀ (rs:List vK) (vs:List AV),aZ (Dw e h) rs=some vs->∃ vs',aZ (H6 e' h') rs=some vs'/\bC (VW ρ V A) vs vs':=by
  intro rs;induction rs with
  | nil=>intro vs hq;simp only [aZ,qwx] at hq;subst hq;exact ⟨[],rfl,.nil⟩
  | cons r rs ih =>intro vs hq;simp only [aZ] at hq |-;obtain ⟨x,h2,hq⟩:=au hq;obtain ⟨xs,h3,rfl⟩:=aB hq;obtain ⟨x',h4,h5⟩:=one r x h2;obtain ⟨xs',h6,h7⟩:=ih xs h3;exact ⟨x'::xs',by rw [h4,h6];rfl,.cons h5 h7⟩
 obtain ⟨vs',h2,h3⟩:=lst rs vs h1;refine ⟨IG vs',by simp only [Pav.results,h2,om],?_⟩;cases vs with
 | nil=>rw [h3.eU];exact VW.l7 .nil
 | cons a r =>
  obtain ⟨b,t,rfl,h4,h5⟩:=h3.dK;cases r with
  | nil=>rw [h5.eU];exact h4
  | cons a2 r2 =>obtain ⟨b2,t2,rfl,h6,h7⟩:=h5.dK;exact VW.l7 (.cons h4 (.cons h6 h7))
theorem VG:∀ (l:List AV) (k j:Nat),get (fO k l) j=if j < k then none else l[j - k]?:=by
 intro l;induction l with
 | nil=>intro k j;simp [fO,Pav.get]
 | cons a l ih =>
  intro k j;simp only [fO,Pav.get];by_cases h1:k=j
  ·subst h1;simp
  ·rw [qwq h1,ih];by_cases h2:j < k
   ·rw [qwz qqq,qwz h2]
   ·rw [qwq qqq,qwq h2];have:j - k=(j - (k+1))+1:=by omega
    rw [this];simp
theorem Wj:∀ (t:rX) (g:Nat),(Ei t).get g=(t.get g).map aS:=by
 intro t;induction t with
 | leaf=>intro g;rfl
 | node l k f r ihl ihr =>
  intro g;simp only [Ei,Tree.get,rX.get];split
  ·rfl
  ·split
   ·exact ihl g
   ·exact ihr g
theorem V6:∀ (t:rX) (g:Nat) (f:WFn),uK t=true->t.get g=some f->okC f.body=true:=by
 intro t;induction t with
 | leaf=>intro g f _ h;simp [rX.get] at h
 | node l k f r ihl ihr =>
  intro g f' hok h;simp only [uK,qzq] at hok;simp only [rX.get] at h;split at h
  ·cases h;exact hok.2.1
  ·split at h
   ·exact ihl g f' hok.1 h
   ·exact ihr g f' hok.2.2 h
theorem Xu (hok:uK C.fns=true) {k:Nat} (hc:FB C k):zB (fV C (evW C k)) (runWith (fK C) (evC (fK C) k)):=by
 intro f args h n v h1 n1 hrun ρ V A args' h' m ha H lt;unfold fV at hrun;obtain ⟨fn,hf,hrun⟩:=au hrun;split at hrun
 ·rename_i hl;obtain ⟨⟨ex,s1⟩,h2,h3⟩:=au hrun;have S:Sim ρ V A ⟨Ia 0 args [],h,n⟩ ⟨fO 0 args',h',m⟩:=by
   refine ⟨afT args 0,λj x hj=>?_,H,lt⟩;have hj2:get (fO 0 args) j=some x:=by
    have hm:=get_mem hj;rw [Y4,qXz] at hm;have hm2:=qnj.1 hm;have key:∀ (l:List AV) (k:Nat),(j,x) ∈ fO k l->get (fO k l) j=some x:=by
     intro l;induction l with
     | nil=>intro k hq;simp [fO] at hq
     | cons v l ih =>
      intro k hq;simp only [fO,Pav.get];rcases qkq.1 hq with q | q
      ·cases q;simp
      ·have:=(Uo l (k+1)).2 _ q;simp only at this;rw [qwq qqq];exact ih (k+1) q
    exact key args 0 hm2
   simp only [VG,Nat.not_lt_zero,qWz,Nat.sub_zero] at hj2 |-;exact ha.get hj2
  obtain ⟨s1',ρ1,V1,A1,h4,R,h5⟩:=hc n fn.body _ ex s1 (V6 _ _ _ hok hf) h2 m ⟨fO 0 args',h',m⟩ ρ V A S (qxq _) (λb hb _ hn=>absurd (lt.w b hb) qqq) (qxq _);have fin:∃ v',Pav.results s1'.env s1'.heap fn.res=some v'/\VW ρ1 V1 A1 v v'/\s1.heap=h1/\s1.next=n1/\∀ i,ex≠.exit i:=by
   unfold fQ at h3;cases ex with
   | exit i=>cases h3
   | norm =>obtain ⟨w,q1,q2⟩:=aB h3;cases q2;obtain ⟨v',q3,q4⟩:=Iu R.sim.env R.sim.heap q1;exact ⟨v',q3,q4,rfl,rfl,λi e=>by cases e⟩
   | ret =>obtain ⟨w,q1,q2⟩:=aB h3;cases q2;obtain ⟨v',q3,q4⟩:=Iu R.sim.env R.sim.heap q1;exact ⟨v',q3,q4,rfl,rfl,λi e=>by cases e⟩
  obtain ⟨v',h6,h7,rfl,rfl,h8⟩:=fin;refine ⟨v',s1'.heap,s1'.next,ρ1,V1,A1,?_,h7,R.sim.heap,R.sim.lt,λb hb=>(R.old b (lt.w b hb)).1 hb,λb hb=>?_,λb hb hv=>?_,R.lU,h5⟩
  ·unfold runWith;have:(fK C).fns.get f=some (aS fn):=by show (Ei C.fns).get f=_;rw [Wj,hf];rfl
   rw [this];have hnp:args'.length=(aS fn).np:=by rw [<- ha.1];exact hl
   simp only [ob];rw [qwz hnp,show (aS fn).body=erC fn.body from rfl,h4];cases ex with
   | exit i=>exact absurd rfl (h8 i)
   | norm=>simp only [XF,show (aS fn).res=fn.res from rfl,h6,om]
   | ret=>simp only [XF,show (aS fn).res=fn.res from rfl,h6,om]
  ·rcases qsj b n with q | q
   ·exact .inl ((R.old b q).2 hb)
   ·exact .inr q
  ·rcases qsj b n with q | q
   ·have:=(R.old b q).2 hb;exact .inl ⟨this,((R.old b q).1 this).2.1⟩
   ·exact .inr (R.hi b hb hv q)
 ·cases hrun
theorem ahq (hok:uK C.fns=true):∀ k,FB C k:=by
 intro k;induction k with
 | zero=>intro base c s ex s1 _ he;simp [evW] at he
 | succ k ih=>exact ad1 ih (Xu hok ih)
theorem acA (hok:uK C.fns=true) {k f:Nat} {args args':List AV} {v:AV} (ha:bC (VD id λ_=>False) args args') (hc:aew C k f args=some v):∃ v',ajm (fK C) k f args'=some v'/\VD id (λ_=>False) v v' :=SA (Xu hok (ahq hok k)) ha hc
end
end Go.Pw
end
section
set_option linter.unusedSimpArgs false
set_option linter.unusedVariables false
namespace Go.Pw
open Go Go.Pav
def uw (r r':yQ):Prop:=∀ f args h n x,r f args h n=some x->r' f args h n=some x
section
variable {C:aH} {r r':yQ}
theorem O4 (hr:uw r r') {f:Nat} {args:List AV} {h:aG} {nid n:Nat} {c:wP} (hc:jM C r f args h nid n=some c):jM C r' f args h nid n=some c:=by
 unfold jM at hc |-;split
 ·rename_i hi;rw [qwz hi] at hc;split
  ·rename_i hf;rw [qwz hf] at hc;refine dA hc (λx hx=>hx) λaz has=>?_;by_cases hdp:tV f=true
   ·rw [qwz hdp] at has |-;exact dA has (λx hx=>hr _ _ _ _ _ hx) λx hx=>hx
   ·rw [qwq hdp] at has |-;exact dA has (λv hv=>dA hv (λx hx=>hr _ _ _ _ _ hx) λx hx=>hx) λx hx=>hx
  ·rename_i hf;rw [qwq hf] at hc;exact mX hc λx hx=>hr _ _ _ _ _ hx
 ·rename_i hi;rw [qwq hi] at hc;split
  ·rename_i hp;rw [qwz hp] at hc;exact mX hc λx hx=>hr _ _ _ _ _ hx
  ·rename_i hp;rw [qwq hp] at hc;exact dA hc (λx hx=>hx) λaz has=>mX has λv hv=>dA hv (λx hx=>hr _ _ _ _ _ hx) λx hx=>hx
theorem Q8 (hr:uw r r') {op:COp} {nid:Nat} {e:Env} {h:aG} {n:Nat} {d:kY} (hd:jV C r op nid e h n=some d):jV C r' op nid e h n=some d:=by
 unfold jV at hd |-;split
 ·rename_i hc;rw [hc] at hd;cases hd
 ·rename_i hc;rw [hc] at hd;exact mX hd λc hc=>O4 hr hc
 ·rename_i hc;rw [hc] at hd;exact hd
theorem uV (hr:uw r r') {o:bg} {nid:Nat} {e:Env} {h:aG} {n:Nat} {d:kY} (hd:gY C r o nid e h n=some d):gY C r' o nid e h n=some d:=by
 unfold gY at hd |-;split
 ·rename_i hc;rw [hc] at hd;cases hd
 ·rename_i hc;rw [hc] at hd;exact hd
 ·rename_i hc;rw [hc] at hd;exact Q8 hr hd
theorem wG (hr:uw r r'):∀ (l:List bg) (s s':WSt),jf C r l s=some s'->jf C r' l s=some s':=by
 intro l;induction l with
 | nil=>intro s s' h;exact h
 | cons o l ih=>intro s s' h;exact dA h (λd hd=>uV hr hd) λd hd=>ih _ _ hd
theorem sQ (hr:uw r r'):∀ (l:List bg) (nid:Nat) (s:WSt) (ds:List kY) (x:WSt × List kY),fJ C r l nid s ds=some x->fJ C r' l nid s ds=some x:=by
 intro l;induction l with
 | nil=>intro nid s ds x h;exact h
 | cons o l ih=>intro nid s ds x h;exact dA h (λd hd=>uV hr hd) λd hd=>ih _ _ _ _ hd
theorem rP {ev ev':WEv} (he:∀ b c s x,ev b c s=some x->ev' b c s=some x):uw (fV C ev) (fV C ev'):=by
 intro f args h n x hx;refine dA hx (λa ha=>ha) λfn hfn=>?_;split
 ·rename_i hl;rw [qwz hl] at hfn;exact dA hfn (λa ha=>he _ _ _ _ ha) λa ha=>ha
 ·rename_i hl;rw [qwq hl] at hfn;cases hfn
theorem qU {b b':WSt->Option (Ex × WSt)} (h:∀ s x,b s=some x->b' s=some x) {r:Ex × WSt} {x:Ex × WSt} (hx:fF b r=some x):fF b' r=some x:=by
 unfold fF at hx |-;split
 ·rename_i hr;rw [hr] at hx;exact h _ _ hx
 ·split at hx
  ·rename_i h1 _ h2;exact absurd h2 h1
  ·exact hx
theorem pV:∀ (n m:Nat),n<=m->∀ (base:Nat) (c:aA) (s:WSt) (x:Ex × WSt),evW C n base c s=some x->evW C m base c s=some x:=by
 intro n;induction n with
 | zero=>intro m _ base c s x h;simp only [evW] at h;cases h
 | succ n ih =>
  intro m hm base c s x h;obtain ⟨m,rfl⟩:∃ k,m=k+1:=⟨m - 1,by omega⟩;have ih':=ih m qqq;have hr:uw (fV C (evW C n)) (fV C (evW C m)):=rP ih';cases c with
  | skip=>exact h
  | exit id=>exact h
  | ret=>exact h
  | fail=>exact h
  | cln zz z b =>
   simp only [evW] at h |-;split
   ·rename_i z' hz;rw [hz] at h;simp only at h;split at h
    ·rename_i hc;rw [qwz ⟨hc.1,hc.2.1,by omega⟩];exact h
    ·cases h
   ·rename_i hz;rw [hz] at h;exact ih' _ _ _ _ h
  | ops l a=>simp only [evW] at h |-;exact dA h (λs' hs=>wG hr l s s' hs) λx hx=>hx
  | draw l un a=>simp only [evW] at h |-;exact dA h (λx hx=>sQ hr l _ _ _ x hx) λx hx=>hx
  | seq a b=>simp only [evW] at h |-;exact dA h (λx hx=>ih' _ _ _ _ hx) λx hx=>qU (λs x hx=>ih' _ _ _ _ hx) hx
  | cond c a b =>
   simp only [evW] at h |-;unfold yN at h |-;split
   ·rename_i t hv;rw [hv] at h;cases t with
    | true=>exact ih' _ _ _ _ h
    | false=>exact ih' _ _ _ _ h
   ·split at h
    ·rename_i h1 _ t hv;exact absurd hv (h1 t)
    ·cases h
  | block id b a=>simp only [evW] at h |-;exact dA h (λx hx=>ih' _ _ _ _ hx) λx hx=>hx
  | loop a b=>simp only [evW] at h |-;exact dA h (λx hx=>hx) λs hs=>dA hs (λx hx=>ih' _ _ _ _ hx) λx hx=>qU (λs x hx=>ih' _ _ _ _ hx) hx
theorem xw {n m:Nat} (h:n<=m):uw (J3 C n) (J3 C m):=rP (pV n m h)
end
section
variable (C:aH)
noncomputable def CdW:WEv:=λbase c s=>lim λn=>evW C n base c s
noncomputable def RnW:yQ:=fV C (CdW C)
noncomputable def FnW (f:Nat) (args:List AV):Option AV:=jK (RnW C) f args
end
section
variable {C:aH} {base:Nat}
theorem ami (base:Nat) (c:aA) (s:WSt):ag9 λn=>evW C n base c s:=λn m h a ha=>pV n m h base c s a ha
theorem oK {c:aA} {s:WSt} {x:Ex × WSt}:CdW C base c s=some x↔∃ n,evW C n base c s=some x:=afS (ami base c s)
theorem zF {n:Nat} {c:aA} {s:WSt} {x:Ex × WSt} (h:evW C n base c s=some x):CdW C base c s=some x:=oK.2 ⟨n,h⟩
theorem DC (n:Nat):uw (J3 C n) (RnW C):=rP λ_ _ _ _ h=>zF h
theorem yH {f:Nat} {args:List AV} {h:aG} {n:Nat} {x:AV × aG × Nat} (hx:RnW C f args h n=some x):∃ k,J3 C k f args h n=some x:=by
 unfold RnW fV at hx;obtain ⟨fn,hf,hx⟩:=au hx;split at hx
 ·rename_i hl;obtain ⟨y,hc,hx⟩:=au hx;obtain ⟨k,hk⟩:=oK.1 hc;refine ⟨k,?_⟩;unfold J3 fV;rw [hf];simp only [ob,qwz hl,hk];exact hx
 ·cases hx
theorem P6 {f:Nat} {args:List AV} {h:aG} {nid n:Nat} {c:wP} (hc:jM C (RnW C) f args h nid n=some c):∃ k,jM C (J3 C k) f args h nid n=some c:=by
 unfold jM at hc |-;split
 ·rename_i hi;rw [qwz hi] at hc;split
  ·rename_i hf;rw [qwz hf] at hc;obtain ⟨az,h1,hc⟩:=au hc;by_cases hdp:tV f=true
   ·rw [qwz hdp] at hc;obtain ⟨r,h3,hc⟩:=au hc;obtain ⟨k,hk⟩:=yH h3;refine ⟨k,?_⟩;rw [h1];simp only [ob,qwz hdp,hk];exact hc
   rw [qwq hdp] at hc;obtain ⟨x,h2,hend⟩:=au hc;obtain ⟨r,h3,h4⟩:=au h2;obtain ⟨k,hk⟩:=yH h3;refine ⟨k,?_⟩;rw [h1];simp only [ob,qwq hdp];unfold jA;simp only [ob,hk];rw [h4];exact hend
  ·rename_i hf;rw [qwq hf] at hc;obtain ⟨r,h1,rfl⟩:=aB hc;obtain ⟨k,hk⟩:=yH h1;exact ⟨k,by rw [hk];rfl⟩
 ·rename_i hi;rw [qwq hi] at hc;split
  ·rename_i hp;rw [qwz hp] at hc;obtain ⟨r,h1,rfl⟩:=aB hc;obtain ⟨k,hk⟩:=yH h1;exact ⟨k,by rw [hk];rfl⟩
  ·rename_i hp;rw [qwq hp] at hc;obtain ⟨az,h1,hc⟩:=au hc;obtain ⟨v,h2,rfl⟩:=aB hc;obtain ⟨r,h3,h4⟩:=au h2;obtain ⟨k,hk⟩:=yH h3;exact ⟨k,by rw [h1];simp only [ob,jK,hk,h4];rfl⟩
theorem IX {o:bg} {nid:Nat} {e:Env} {h:aG} {n:Nat} {d:kY} (hd:gY C (RnW C) o nid e h n=some d):∃ k,gY C (J3 C k) o nid e h n=some d:=by
 unfold gY at hd |-;split
 ·rename_i hc;rw [hc] at hd;cases hd
 ·rename_i hc;rw [hc] at hd;exact ⟨0,hd⟩
 ·rename_i hc;rw [hc] at hd;simp only at hd;unfold jV at hd |-;split
  ·rename_i hc;rw [hc] at hd;cases hd
  ·rename_i hc;rw [hc] at hd;simp only at hd;obtain ⟨r,h1,rfl⟩:=aB hd;obtain ⟨k,hk⟩:=P6 h1;exact ⟨k,by rw [hk];rfl⟩
  ·rename_i hc;rw [hc] at hd;exact ⟨0,hd⟩
theorem TU:∀ (l:List bg) (s s':WSt),jf C (RnW C) l s=some s'->∃ k,jf C (J3 C k) l s=some s':=by
 intro l;induction l with
 | nil=>intro s s' h;exact ⟨0,h⟩
 | cons o l ih =>intro s s' h;simp only [jf] at h |-;obtain ⟨d,hd,h⟩:=au h;obtain ⟨k1,h1⟩:=IX hd;obtain ⟨k2,h2⟩:=ih _ _ h;refine ⟨max k1 k2,?_⟩;rw [uV (xw (q2j k1 k2)) h1];exact wG (xw (qnx k1 k2)) _ _ _ h2
theorem Oa:∀ (l:List bg) (nid:Nat) (s:WSt) (ds:List kY) (x:WSt × List kY),fJ C (RnW C) l nid s ds=some x->∃ k,fJ C (J3 C k) l nid s ds=some x:=by
 intro l;induction l with
 | nil=>intro nid s ds x h;exact ⟨0,h⟩
 | cons o l ih =>intro nid s ds x h;simp only [fJ] at h |-;obtain ⟨d,hd,h⟩:=au h;obtain ⟨k1,h1⟩:=IX hd;obtain ⟨k2,h2⟩:=ih _ _ _ _ h;refine ⟨max k1 k2,?_⟩;rw [uV (xw (q2j k1 k2)) h1];exact sQ (xw (qnx k1 k2)) _ _ _ _ _ h2
theorem aiR (s:WSt):CdW C base .skip s=some (.norm,s):=zF (n:=1) rfl
theorem ahZ (id:Nat) (s:WSt):CdW C base (.exit id) s=some (.exit id,s):=zF (n:=1) rfl
theorem amL (s:WSt):CdW C base .ret s=some (.ret,s):=zF (n:=1) rfl
theorem xX {c:aA} {s:WSt} {x:Ex × WSt}:CdW C base c s=some x↔∃ n,evW C (n+1) base c s=some x:=by
 rw [oK];constructor
 ·rintro ⟨n,h⟩;exact ⟨n,pV n (n+1) (zkx n) base c s x h⟩
 ·rintro ⟨n,h⟩;exact ⟨_,h⟩
theorem sW {b:aA} {r x:Ex × WSt}:fF (CdW C base b) r=some x↔∃ n,fF (evW C n base b) r=some x:=by
 obtain ⟨ex,s⟩:=r;cases ex with
 | norm=>simp only [fF];exact oK
 | exit id=>simp [fF]
 | ret=>simp [fF]
theorem aks (a b:aA) (s:WSt):CdW C base (.seq a b) s=ob (CdW C base a s) (fF (CdW C base b)):=by
 refine wR λx=>?_;rw [xX,pK];simp only [evW,pK];constructor
 ·rintro ⟨n,r,h1,h2⟩;exact ⟨r,zF h1,sW.2 ⟨n,h2⟩⟩
 ·rintro ⟨r,h1,h2⟩;obtain ⟨n,h1⟩:=oK.1 h1;obtain ⟨m,h2⟩:=sW.1 h2;exact ⟨max n m,r,pV _ _ (q2j n m) _ _ _ _ h1,qU (λs x hx=>pV _ _ (qnx n m) _ _ _ _ hx) h2⟩
theorem ai6 (a:Ann) (b:aA) (s:WSt):CdW C base (.loop a b) s=ob (canon base a s) λs=>ob (CdW C base b s) (fF (CdW C base (.loop a b))):=by
 refine wR λx=>?_;rw [xX,pK];simp only [evW,pK];constructor
 ·rintro ⟨n,s0,h0,r,h1,h2⟩;exact ⟨s0,h0,r,zF h1,sW.2 ⟨n,h2⟩⟩
 ·rintro ⟨s0,h0,r,h1,h2⟩;obtain ⟨n,h1⟩:=oK.1 h1;obtain ⟨m,h2⟩:=sW.1 h2;exact ⟨max n m,s0,h0,r,pV _ _ (q2j n m) _ _ _ _ h1,qU (λs x hx=>pV _ _ (qnx n m) _ _ _ _ hx) h2⟩
theorem ael (id:Nat) (b:aA) (a:Ann) (s:WSt):CdW C base (.block id b a) s=ob (CdW C base b s) (lJ base id a):=by
 refine wR λx=>?_;rw [xX,pK];simp only [evW,pK];constructor
 ·rintro ⟨n,r,h1,h2⟩;exact ⟨r,zF h1,h2⟩
 ·rintro ⟨r,h1,h2⟩;obtain ⟨n,h1⟩:=oK.1 h1;exact ⟨n,r,h1,h2⟩
theorem agM (c:Opd) (a b:aA) (s:WSt):CdW C base (.cond c a b) s=yN (CdW C base a) (CdW C base b) (c.ev s.env) s:=by
 refine wR λx=>?_;rw [xX];simp only [evW];unfold yN;split
 ·rename_i t _;cases t with
  | true=>exact oK.symm
  | false=>exact oK.symm
 ·simp
theorem alj (l:List bg) (a:Ann) (s:WSt):CdW C base (.ops l a) s=ob (jf C (RnW C) l s) λs=>om (rE base a s) λs=>(.norm,s):=by
 refine wR λx=>?_;rw [xX,pK];simp only [evW,pK];constructor
 ·rintro ⟨n,r,h1,h2⟩;exact ⟨r,wG (DC n) _ _ _ h1,h2⟩
 ·rintro ⟨r,h1,h2⟩;obtain ⟨n,h1⟩:=TU _ _ _ h1;exact ⟨n,r,h1,h2⟩
theorem ah7 (l:List bg) (un:List (Nat × Nat)) (a:Ann) (s:WSt):CdW C base (.draw l un a) s=ob (fJ C (RnW C) l s.next ⟨s.env,s.heap,s.next+l.length⟩ []) (vM base un a):=by
 refine wR λx=>?_;rw [xX,pK];simp only [evW,pK];constructor
 ·rintro ⟨n,r,h1,h2⟩;exact ⟨r,sQ (DC n) _ _ _ _ _ h1,h2⟩
 ·rintro ⟨r,h1,h2⟩;obtain ⟨n,h1⟩:=Oa _ _ _ _ _ h1;exact ⟨n,r,h1,h2⟩
theorem Ud {f:Nat} {args:List AV} {v:AV}:FnW C f args=some v↔∃ n,aew C n f args=some v:=by
 unfold FnW aew jK;simp only [pK];constructor
 ·rintro ⟨r,h1,h2⟩;obtain ⟨k,h1⟩:=yH h1;exact ⟨k,r,h1,h2⟩
 ·rintro ⟨k,r,h1,h2⟩;exact ⟨r,DC k _ _ _ _ _ h1,h2⟩
end
end Go.Pw
end
section
set_option linter.unusedSimpArgs false
set_option linter.unusedVariables false
namespace Go.Pw
open Go Go.Pav
inductive Frame where
 | sq (b:aA)
 | bk (id:Nat) (a:Ann)
 | lp (a:Ann) (b:aA)
def ql:Env->Nat->AV->Env
 | [],_,_=>[]
 | (k,v)::r,g,x=>if k=g then (k,x)::r else (k,v)::ql r g x
section
variable {β:Type}
noncomputable def RK (C:aH) (base:Nat):List Frame->Ex × WSt->Option (Ex × WSt)
 | [],r=>some r
 | .sq b::k,r=>ob (fF (CdW C base b) r) (RK C base k)
 | .bk id a::k,r=>ob (lJ base id a r) (RK C base k)
 | .lp a b::k,r=>ob (fF (CdW C base (.loop a b)) r) (RK C base k)
noncomputable def CK (C:aH) (base:Nat) (fin:Ex × WSt->Option β) (k:List Frame) (c:aA) (s:WSt):Option β:=ob (CdW C base c s) λr=>ob (RK C base k r) fin
noncomputable def NK (C:aH) (base:Nat) (fin:Ex × WSt->Option β) (k:List Frame) (ex:Ex) (s:WSt):Option β:=ob (RK C base k (ex,s)) fin
noncomputable def AK (C:aH) (base:Nat) (fin:Ex × WSt->Option β) (k:List Frame) (s:Option WSt):Option β:=ob s λs=>NK C base fin k .norm s
noncomputable def LK (C:aH) (base:Nat) (fin:Ex × WSt->Option β) (k:List Frame) (b:aA) (s:Option WSt):Option β:=ob s λs=>CK C base fin k b s
noncomputable def OK (C:aH) (base:Nat) (fin:Ex × WSt->Option β) (k:List Frame) (a:Ann) (l:List bg) (s:WSt):Option β :=ob (jf C (RnW C) l s) λs=>AK C base fin k (rE base a s)
noncomputable def SK (C:aH) (base:Nat) (fin:Ex × WSt->Option β) (k:List Frame) (a:Ann) (l:List bg) (d:Option Nat) (e:Env) (h:aG) (n:Nat) (x:Option (AV × dW)):Option β :=ob x λx=>OK C base fin k a l ⟨eG e d x.1,bU h x.2,n⟩
noncomputable def SX (C:aH) (base:Nat) (fin:Ex × WSt->Option β) (k:List Frame) (a b:aA) (s:WSt) (v:AV):Option β :=
 match v with
 | .bool t=>if t=true then CK C base fin k a s else CK C base fin k b s
 | _=>none
noncomputable def GK (C:aH) (base:Nat) (fin:Ex × WSt->Option β) (k:List Frame) (a:Ann) (l:List bg) (d:Option Nat) (op:COp) (g:Nat) (w:Bool) (e:Env) (h:aG) (n:Nat) (v:Option AV):Option β :=
 match v with
 | some (.bool b)=>if b=w then OK C base fin k a (⟨d,none,op⟩::l) ⟨ql e g (.bool w),h,n⟩ else OK C base fin k a l ⟨eG (ql e g (.bool (!w))) d (.tup []),h,n+1⟩
 | some (.tup [])=>OK C base fin k a l ⟨eG e d (.tup []),h,n+1⟩
 | _=>none
noncomputable def VK (C:aH) (base:Nat) (fin:Ex × WSt->Option β) (k:List Frame) (a:Ann) (l:List bg) (d:Option Nat) (e:Env) (h:aG) (n:Nat) (args:List AV) (v:Option AV):Option β :=ob v λv=>OK C base fin k a l ⟨eG e d v,bU h (pF h args v),n⟩
noncomputable def WK (C:aH) (base:Nat) (fin:Ex × WSt->Option β) (k:List Frame) (a:Ann) (l:List bg) (d:Option Nat) (e:Env) (r:Option (AV × aG × Nat)):Option β :=ob r λr=>OK C base fin k a l ⟨eG e d r.1,r.2.1,r.2.2⟩
noncomputable def PK (C:aH) (base:Nat) (fin:Ex × WSt->Option β) (k:List Frame) (a:Ann) (l:List bg) (d:Option Nat) (e:Env) (h:aG) (n:Nat) (f:Nat) (args:List AV) (az:Option (List AV)):Option β :=ob az λaz=>VK C base fin k a l d e h n args (FnW C f az)
noncomputable def BSK (C:aH) (base:Nat) (fin:Ex × WSt->Option β) (k:List Frame) (a:Ann) (l:List bg) (d:Option Nat) (e:Env) (h:aG) (n:Nat) (v:AV) (u:dW) (ok:Bool):Option β :=if ok=true then OK C base fin k a l ⟨eG e d v,bU h u,n⟩ else none
noncomputable def FSK (C:aH) (base:Nat) (fin:Ex × WSt->Option β) (k:List Frame) (a:Ann) (l:List bg) (d:Option Nat) (e:Env) (h:aG) (n:Nat) (br:Bool) (args:List AV) (x:Option (AV × dW)):Option β :=ob x λx=>if br=true then BSK C base fin k a l d e h n x.1 x.2 (nX x) else OK C base fin k a l ⟨eG e d x.1,bU h (aY h (args.flatMap (aK h ay))++x.2),n⟩
def over (n:Nat) (h1 h:aG):aG:=bU h (Fe n h1)
noncomputable def HBK (C:aH) (base:Nat) (fin:Ex × WSt->Option β) (k:List Frame) (a:Ann) (l:List bg) (d:Option Nat) (e:Env) (h:aG) (n:Nat) (v:AV) (h1:aG) (n1:Nat) (ok:Bool):Option β :=if ok=true then OK C base fin k a l ⟨eG e d v,over n (h1.filter λx=>(aK h1 ay v).contains x.1) h,n1⟩ else none
noncomputable def HK (C:aH) (base:Nat) (fin:Ex × WSt->Option β) (k:List Frame) (a:Ann) (l:List bg) (d:Option Nat) (e:Env) (h:aG) (n:Nat) (db:Bool) (args:List AV) (r:Option (AV × aG × Nat)):Option β :=ob r λr=>if db=true then HBK C base fin k a l d e h n r.1 r.2.1 r.2.2 (kQ r.2.1 r.1 (aK r.2.1 ay r.1)) else OK C base fin k a l ⟨eG e d r.1,over n r.2.1 (bU h (aY h (args.flatMap (aK h ay)))),r.2.2⟩
noncomputable def TK (C:aH) (base:Nat) (fin:Ex × WSt->Option β) (k:List Frame) (a:Ann) (l:List bg) (d:Option Nat) (e:Env) (h:aG) (n:Nat) (f:Nat) (args az:List AV) (dp:Bool):Option β :=if dp=true then HK C base fin k a l d e h n (zJ f) args (RnW C f az [] n) else FSK C base fin k a l d e h n (sZ f) args (jA (RnW C) f az (n - 1))
noncomputable def FPK (C:aH) (base:Nat) (fin:Ex × WSt->Option β) (k:List Frame) (a:Ann) (l:List bg) (d:Option Nat) (e:Env) (h:aG) (n:Nat) (f:Nat) (args:List AV) (az:Option (List AV)):Option β :=ob az λaz=>TK C base fin k a l d e h n f args az (tV f)
noncomputable def IK (C:aH) (base:Nat) (fin:Ex × WSt->Option β) (k:List Frame) (a:Ann) (l:List bg) (d:Option Nat) (e:Env) (h:aG) (n:Nat) (f:Nat) (args:List AV) (fr:Bool):Option β :=if fr=true then FPK C base fin k a l d e h n f args (aZ (bK h ay) args) else WK C base fin k a l d e (RnW C f args h n)
noncomputable def FK (C:aH) (base:Nat) (fin:Ex × WSt->Option β) (k:List Frame) (a:Ann) (l:List bg) (d:Option Nat) (e:Env) (h:aG) (n:Nat) (f:Nat) (args:List AV) (inl ptr:Bool):Option β :=if inl=true then IK C base fin k a l d e h n f args (Ob f) else if ptr=true then WK C base fin k a l d e (RnW C f args h n) else PK C base fin k a l d e h n f args (aZ (bK h ay) args)
noncomputable def QK (C:aH) (base:Nat) (fin:Ex × WSt->Option β) (k:List Frame) (a:Ann) (l:List bg) (d:Option Nat) (e:Env) (h:aG) (n:Nat) (args:List AV) (g:AV):Option β :=
 match g with
 | .fn f caps=>FK C base fin k a l d e h n f (args++caps) (C.inl f) (!C.pp f&&bV (args++caps))
 | _=>none
abbrev RW:=Bool × List Nat × List Nat
def Zt (d:kY):RW:=(d.bar,d.rd,d.wr)
def WU (d:RW):Bool:=!d.1&&(d.2.2.isEmpty&&d.2.1.isEmpty)
def aem (a b:RW):Bool:=!(WU a||WU b)&&(if a.1=true then b.1||Vy a.2.1 a.2.2 b.2.1 b.2.2 else if b.1=true then Vy b.2.1 b.2.2 a.2.1 a.2.2 else (meets a.2.2 b.2.2||(meets a.2.2 b.2.1||meets a.2.1 b.2.2)))
def DT (ds:List RW) (p:Nat × Nat):Bool :=
 match ds[p.1]?,ds[p.2]? with
 | some a,some b=>!aem a b
 | _,_=>false
noncomputable def EK (C:aH) (base:Nat) (fin:Ex × WSt->Option β) (k:List Frame) (a:Ann) (s:WSt) (ok:Bool):Option β :=if ok=true then AK C base fin k (rE base a s) else none
noncomputable def DK (C:aH) (base:Nat) (fin:Ex × WSt->Option β) (k:List Frame) (a:Ann) (un:List (Nat × Nat)) (l:List bg) (nid:Nat) (s:WSt) (ds:List RW):Option β :=ob (fJ C (RnW C) l nid s []) λr=>EK C base fin k a r.1 (un.all (DT (ds++r.2.map Zt)))
noncomputable def DSK (C:aH) (base:Nat) (fin:Ex × WSt->Option β) (k:List Frame) (a:Ann) (un:List (Nat × Nat)) (l:List bg) (nid:Nat) (d:Option Nat) (e:Env) (h:aG) (n:Nat) (ds:List RW) (rd:List Nat) (x:Option (AV × dW)):Option β :=ob x λx=>DK C base fin k a un l nid ⟨eG e d x.1,bU h x.2,n⟩ (ds++[(false,rd,x.2.map (·.1))])
noncomputable def DGK (C:aH) (base:Nat) (fin:Ex × WSt->Option β) (k:List Frame) (a:Ann) (un:List (Nat × Nat)) (l:List bg) (nid:Nat) (d:Option Nat) (op:COp) (g:Nat) (w:Bool) (e:Env) (h:aG) (n:Nat) (ds:List RW) (v:Option AV):Option β :=
 match v with
 | some (.bool b)=>if b=w then DK C base fin k a un (⟨d,none,op⟩::l) nid ⟨ql e g (.bool w),h,n⟩ ds else DK C base fin k a un l (nid+1) ⟨eG (ql e g (.bool (!w))) d (.tup []),h,n⟩ (ds++[(false,[],[])])
 | some (.tup [])=>DK C base fin k a un l (nid+1) ⟨eG e d (.tup []),h,n⟩ (ds++[(false,[],[])])
 | _=>none
noncomputable def DVK (C:aH) (base:Nat) (fin:Ex × WSt->Option β) (k:List Frame) (a:Ann) (un:List (Nat × Nat)) (l:List bg) (nid:Nat) (d:Option Nat) (e:Env) (h:aG) (n:Nat) (ds:List RW) (args:List AV) (v:Option AV):Option β :=ob v λv=>DK C base fin k a un l nid ⟨eG e d v,bU h (pF h args v),n⟩ (ds++[(false,args.flatMap (aK h ay),(pF h args v).map (·.1))])
noncomputable def DWK (C:aH) (base:Nat) (fin:Ex × WSt->Option β) (k:List Frame) (a:Ann) (un:List (Nat × Nat)) (l:List bg) (nid:Nat) (d:Option Nat) (e:Env) (ds:List RW) (r:Option (AV × aG × Nat)):Option β :=ob r λr=>DK C base fin k a un l nid ⟨eG e d r.1,r.2.1,r.2.2⟩ (ds++[(true,[],[])])
noncomputable def DPK (C:aH) (base:Nat) (fin:Ex × WSt->Option β) (k:List Frame) (a:Ann) (un:List (Nat × Nat)) (l:List bg) (nid:Nat) (d:Option Nat) (e:Env) (h:aG) (n:Nat) (ds:List RW) (f:Nat) (args:List AV) (az:Option (List AV)):Option β :=ob az λaz=>DVK C base fin k a un l nid d e h n ds args (FnW C f az)
noncomputable def afX (C:aH) (base:Nat) (fin:Ex × WSt->Option β) (k:List Frame) (a:Ann) (un:List (Nat × Nat)) (l:List bg) (nid:Nat) (d:Option Nat) (e:Env) (h:aG) (n:Nat) (ds:List RW) (args:List AV) (v:AV) (u:dW) (ok:Bool):Option β :=if ok=true then DK C base fin k a un l nid ⟨eG e d v,bU h u,n⟩ (ds++[(false,args.flatMap (aK h ay),u.map (·.1))]) else none
noncomputable def aeF (C:aH) (base:Nat) (fin:Ex × WSt->Option β) (k:List Frame) (a:Ann) (un:List (Nat × Nat)) (l:List bg) (nid:Nat) (d:Option Nat) (e:Env) (h:aG) (n:Nat) (ds:List RW) (br:Bool) (args:List AV) (x:Option (AV × dW)):Option β :=ob x λx=>if br=true then afX C base fin k a un l nid d e h n ds args x.1 x.2 (nX x) else DK C base fin k a un l nid ⟨eG e d x.1,bU h (aY h (args.flatMap (aK h ay))++x.2),n⟩ (ds++[(false,args.flatMap (aK h ay),(aY h (args.flatMap (aK h ay))++x.2).map (·.1))])
noncomputable def afk (C:aH) (base:Nat) (fin:Ex × WSt->Option β) (k:List Frame) (a:Ann) (un:List (Nat × Nat)) (l:List bg) (nid:Nat) (d:Option Nat) (e:Env) (h:aG) (n:Nat) (ds:List RW) (args:List AV) (v:AV) (h1:aG) (n1:Nat) (ok:Bool):Option β :=if ok=true then DK C base fin k a un l nid ⟨eG e d v,over n (h1.filter λx=>(aK h1 ay v).contains x.1) h,n1⟩ (ds++[(true,args.flatMap (aK h ay),[n])]) else none
noncomputable def DHK (C:aH) (base:Nat) (fin:Ex × WSt->Option β) (k:List Frame) (a:Ann) (un:List (Nat × Nat)) (l:List bg) (nid:Nat) (d:Option Nat) (e:Env) (h:aG) (n:Nat) (ds:List RW) (db:Bool) (args:List AV) (r:Option (AV × aG × Nat)):Option β :=ob r λr=>if db=true then afk C base fin k a un l nid d e h n ds args r.1 r.2.1 r.2.2 (kQ r.2.1 r.1 (aK r.2.1 ay r.1)) else DK C base fin k a un l nid ⟨eG e d r.1,over n r.2.1 (bU h (aY h (args.flatMap (aK h ay)))),r.2.2⟩ (ds++[(true,args.flatMap (aK h ay),n::(aY h (args.flatMap (aK h ay))).map (·.1))])
noncomputable def DTK (C:aH) (base:Nat) (fin:Ex × WSt->Option β) (k:List Frame) (a:Ann) (un:List (Nat × Nat)) (l:List bg) (nid:Nat) (d:Option Nat) (e:Env) (h:aG) (n:Nat) (ds:List RW) (f:Nat) (args az:List AV) (dp:Bool):Option β :=if dp=true then DHK C base fin k a un l nid d e h n ds (zJ f) args (RnW C f az [] n) else aeF C base fin k a un l nid d e h n ds (sZ f) args (jA (RnW C) f az (nid - 1))
noncomputable def ahT (C:aH) (base:Nat) (fin:Ex × WSt->Option β) (k:List Frame) (a:Ann) (un:List (Nat × Nat)) (l:List bg) (nid:Nat) (d:Option Nat) (e:Env) (h:aG) (n:Nat) (ds:List RW) (f:Nat) (args:List AV) (az:Option (List AV)):Option β :=ob az λaz=>DTK C base fin k a un l nid d e h n ds f args az (tV f)
noncomputable def DIK (C:aH) (base:Nat) (fin:Ex × WSt->Option β) (k:List Frame) (a:Ann) (un:List (Nat × Nat)) (l:List bg) (nid:Nat) (d:Option Nat) (e:Env) (h:aG) (n:Nat) (ds:List RW) (f:Nat) (args:List AV) (fr:Bool):Option β :=if fr=true then ahT C base fin k a un l nid d e h n ds f args (aZ (bK h ay) args) else DWK C base fin k a un l nid d e ds (RnW C f args h n)
noncomputable def DFK (C:aH) (base:Nat) (fin:Ex × WSt->Option β) (k:List Frame) (a:Ann) (un:List (Nat × Nat)) (l:List bg) (nid:Nat) (d:Option Nat) (e:Env) (h:aG) (n:Nat) (ds:List RW) (f:Nat) (args:List AV) (inl ptr:Bool):Option β :=if inl=true then DIK C base fin k a un l nid d e h n ds f args (Ob f) else if ptr=true then DWK C base fin k a un l nid d e ds (RnW C f args h n) else DPK C base fin k a un l nid d e h n ds f args (aZ (bK h ay) args)
noncomputable def DQK (C:aH) (base:Nat) (fin:Ex × WSt->Option β) (k:List Frame) (a:Ann) (un:List (Nat × Nat)) (l:List bg) (nid:Nat) (d:Option Nat) (e:Env) (h:aG) (n:Nat) (ds:List RW) (args:List AV) (g:AV):Option β :=
 match g with
 | .fn f caps=>DFK C base fin k a un l nid d e h n ds f (args++caps) (C.inl f) (!C.pp f&&bV (args++caps))
 | _=>none
def aO (res:List vK) (r:Ex × WSt):Option AV:=ob (fQ res r) λr=>bK r.2.1 ay r.1
end
section
variable {β:Type} {C:aH} {base:Nat} {fin:Ex × WSt->Option β} {k:List Frame}
theorem jC {α γ δ:Type} (x:Option α) (f:α->Option γ) (g:γ->Option δ):ob (ob x f) g=ob x λa=>ob (f a) g:=by cases x <;> rfl
theorem KL {α γ δ:Type} (x:Option α) (f:α->γ) (g:γ->Option δ):ob (om x f) g=ob x λa=>g (f a):=by cases x <;> rfl
theorem akH (a b:aA) (s:WSt):CK C base fin k (.seq a b) s=CK C base fin (.sq b::k) a s:=by unfold CK;rw [aks];simp only [RK,jC]
theorem af8 (s:WSt):CK C base fin k .skip s=NK C base fin k .norm s:=by unfold CK NK;rw [aiR];rfl
theorem afq (i:Nat) (s:WSt):CK C base fin k (.exit i) s=NK C base fin k (.exit i) s:=by unfold CK NK;rw [ahZ];rfl
theorem akB (s:WSt):CK C base fin k .ret s=NK C base fin k .ret s:=by unfold CK NK;rw [amL];rfl
theorem aik (c:Opd) (a b:aA) (s:WSt):CK C base fin k (.cond c a b) s=SX C base fin k a b s (c.ev s.env):=by
 unfold CK SX;rw [agM];unfold yN;cases c.ev s.env <;> try rfl
 rename_i t;cases t <;> rfl
theorem aeT (id:Nat) (b:aA) (a:Ann) (s:WSt):CK C base fin k (.block id b a) s=CK C base fin (.bk id a::k) b s:=by unfold CK;rw [ael];simp only [RK,jC]
theorem aX {L:aA} {a:Ann} {b:aA} {s:WSt} (hL:L=.loop a b):CK C base fin k L s=LK C base fin (.sq L::k) b (canon base a s):=by subst hL;unfold CK LK CK;rw [ai6];simp only [RK,jC]
theorem aj {c c':aA} {s:WSt} (hc:c=c'):CK C base fin k c s=CK C base fin k c' s:=by rw [hc]
theorem al6 (l:List bg) (a:Ann) (s:WSt):CK C base fin k (.ops l a) s=OK C base fin k a l s:=by unfold CK OK AK NK;rw [alj];simp only [jC,KL]
theorem aiL (l:List bg) (un:List (Nat × Nat)) (a:Ann) (e:Env) (h:aG) (n:Nat):CK C base fin k (.draw l un a) ⟨e,h,n⟩=DK C base fin k a un l n ⟨e,h,n+l.length⟩ []:=by
 unfold CK DK EK AK NK;rw [ah7];simp only [jC];have:∀ r:WSt × List kY,(ob (vM base un a r) λr=>ob (RK C base k r) fin)=(if (un.all (DT ([]++r.2.map Zt)))=true then ob (rE base a r.1) λs=>ob (RK C base k (.norm,s)) fin else none):=by
  rintro ⟨s,ds⟩;have e1:un.all (IZ ds)=un.all (DT ([]++ds.map Zt)):=by congr 1;funext p;simp only [IZ,DT,qJj,qWx];cases ds[p.1]? <;> cases ds[p.2]? <;> rfl
  simp only [vM,e1];split
  ·simp only [KL]
  ·rfl
 simp only [this]
theorem alH (ex:Ex) (s:WSt):NK C base fin [] ex s=fin (ex,s):=rfl
theorem aoE (b:aA) (s:WSt):NK C base fin (.sq b::k) .norm s=CK C base fin k b s:=by unfold NK CK;simp only [RK,fF,jC]
theorem Vl (b:aA) (i:Nat) (s:WSt):NK C base fin (.sq b::k) (.exit i) s=NK C base fin k (.exit i) s:=by unfold NK;simp only [RK,fF,ob]
theorem aat (b:aA) (s:WSt):NK C base fin (.sq b::k) .ret s=NK C base fin k .ret s:=by unfold NK;simp only [RK,fF,ob]
theorem UF (a:Ann) (b:aA) (i:Nat) (s:WSt):NK C base fin (.lp a b::k) (.exit i) s=NK C base fin k (.exit i) s:=by unfold NK;simp only [RK,fF,ob]
theorem ZB (a:Ann) (b:aA) (s:WSt):NK C base fin (.lp a b::k) .ret s=NK C base fin k .ret s:=by unfold NK;simp only [RK,fF,ob]
theorem anT (id:Nat) (a:Ann) (s:WSt):NK C base fin (.bk id a::k) .norm s=AK C base fin k (canon base a s):=by unfold NK AK NK;simp only [RK,lJ,jC,KL]
theorem U3 (id:Nat) (a:Ann) (i:Nat) (s:WSt):NK C base fin (.bk id a::k) (.exit i) s=if i=id then AK C base fin k (canon base a s) else NK C base fin k (.exit i) s:=by
 unfold NK AK NK;simp only [RK,lJ];split
 ·simp only [jC,KL]
 ·rfl
theorem aa0 (id:Nat) (a:Ann) (s:WSt):NK C base fin (.bk id a::k) .ret s=NK C base fin k .ret s:=by unfold NK;simp only [RK,lJ,ob]
theorem ag6 (s:WSt):AK C base fin k (some s)=NK C base fin k .norm s:=rfl
theorem afP (b:aA) (s:WSt):LK C base fin k b (some s)=CK C base fin k b s:=rfl
theorem WE (a b:aA) (s:WSt):SX C base fin k a b s (.bool true)=CK C base fin k a s:=rfl
theorem Rj (a b:aA) (s:WSt):SX C base fin k a b s (.bool false)=CK C base fin k b s:=rfl
theorem Xb (a b:aA) (s:WSt) (t:Bool):SX C base fin k a b s (.bool t)=if t=true then CK C base fin k a s else CK C base fin k b s:=rfl
variable {a:Ann} {l:List bg} {d:Option Nat} {e:Env} {h:aG} {n:Nat}
theorem alG (s:WSt):OK C base fin k a [] s=AK C base fin k (rE base a s):=rfl
theorem bM {op:COp} (hc:callOf e op=some none):OK C base fin k a (⟨d,none,op⟩::l) ⟨e,h,n⟩=SK C base fin k a l d e h (n+1) (stepW op e h n):=by unfold OK SK OK;simp only [jf,gY,wants,jV,hc];cases stepW op e h n <;> rfl
theorem Cj (v:AV) (u:dW):SK C base fin k a l d e h n (some (v,u))=OK C base fin k a l ⟨eG e d v,bU h u,n⟩:=rfl
theorem yc:∀ {e:Env} {g:Nat} {v:AV},get e g=some v->ql e g v=e:=by
 intro e;induction e with
 | nil=>intro g v h;rfl
 | cons x e ih =>
  intro g v hg;obtain ⟨j,u⟩:=x;simp only [Pav.get] at hg;simp only [ql];split at hg
  ·rename_i hj;cases hg;rw [qwz hj]
  ·rename_i hj;rw [qwq hj,ih hg]
theorem aht {op:COp} {g:Nat} {w b:Bool}:GK C base fin k a l d op g w e h n (some (.bool b))=if b=w then OK C base fin k a (⟨d,none,op⟩::l) ⟨ql e g (.bool w),h,n⟩ else OK C base fin k a l ⟨eG (ql e g (.bool (!w))) d (.tup []),h,n+1⟩:=rfl
theorem QT {op:COp} {g:Nat}:GK C base fin k a l d op g true e h n (some (.bool true))=OK C base fin k a (⟨d,none,op⟩::l) ⟨ql e g (.bool true),h,n⟩:=rfl
theorem I9 {op:COp} {g:Nat}:GK C base fin k a l d op g false e h n (some (.bool false))=OK C base fin k a (⟨d,none,op⟩::l) ⟨ql e g (.bool false),h,n⟩:=rfl
theorem Ku {op:COp} {g:Nat}:GK C base fin k a l d op g true e h n (some (.bool false))=OK C base fin k a l ⟨eG (ql e g (.bool false)) d (.tup []),h,n+1⟩:=rfl
theorem Kr {op:COp} {g:Nat}:GK C base fin k a l d op g false e h n (some (.bool true))=OK C base fin k a l ⟨eG (ql e g (.bool true)) d (.tup []),h,n+1⟩:=rfl
theorem alO {op:COp} {g:Nat} {w:Bool}:GK C base fin k a l d op g w e h n (some (.tup []))=OK C base fin k a l ⟨eG e d (.tup []),h,n+1⟩:=rfl
theorem abv {op:COp} {g:Nat} {w:Bool}:OK C base fin k a (⟨d,some (g,w),op⟩::l) ⟨e,h,n⟩=GK C base fin k a l d op g w e h n (get e g):=by
 unfold OK GK;simp only [jf,gY,wants];cases hg:get e g with
 | none=>rfl
 | some v =>
  cases v with
  | bool b =>
   simp only;by_cases hw:b=w
   ·subst hw;rw [yc hg,qwz rfl];simp only [OK,jf,gY,wants,beq_self_eq_true]
   ·have e1:(b == w)=false:=by simpa using hw
    have e2:(!w)=b:=by cases b <;> cases w <;> simp_all
    rw [qwq hw,e2,yc hg];simp only [e1,ob,OK]
  | tup vs =>
   cases vs with
   | nil=>rfl
   | cons _ _=>rfl
  | _=>rfl
theorem ahM {args:List AV} (v:AV):VK C base fin k a l d e h n args (some v)=OK C base fin k a l ⟨eG e d v,bU h (pF h args v),n⟩:=rfl
theorem aft (r:AV × aG × Nat):WK C base fin k a l d e (some r)=OK C base fin k a l ⟨eG e d r.1,r.2.1,r.2.2⟩:=rfl
theorem ahH {f:Nat} {args:List AV} (az:List AV):PK C base fin k a l d e h n f args (some az)=VK C base fin k a l d e h n args (FnW C f az):=rfl
theorem af2 {f:Nat} {args:List AV}:FK C base fin k a l d e h n f args false false=PK C base fin k a l d e h n f args (aZ (bK h ay) args):=rfl
theorem akJ {f:Nat} {args:List AV} {p:Bool}:FK C base fin k a l d e h n f args true p=IK C base fin k a l d e h n f args (Ob f):=rfl
theorem aeN {f:Nat} {args:List AV}:IK C base fin k a l d e h n f args false=WK C base fin k a l d e (RnW C f args h n):=rfl
theorem ahl {f:Nat} {args:List AV}:IK C base fin k a l d e h n f args true=FPK C base fin k a l d e h n f args (aZ (bK h ay) args):=rfl
theorem aeB {f:Nat} {args:List AV} (az:List AV):FPK C base fin k a l d e h (n+1) f args (some az)=TK C base fin k a l d e h (n+1) f args az (tV f):=rfl
theorem afg {f:Nat} {args az:List AV}:TK C base fin k a l d e h (n+1) f args az false=FSK C base fin k a l d e h (n+1) (sZ f) args (jA (RnW C) f az n):=rfl
theorem agk {f:Nat} {args az:List AV}:TK C base fin k a l d e h n f args az true=HK C base fin k a l d e h n (zJ f) args (RnW C f az [] n):=rfl
theorem Ru (v:AV) (h1:aG) (n1:Nat):HBK C base fin k a l d e h n v h1 n1 true=OK C base fin k a l ⟨eG e d v,over n (h1.filter λx=>(aK h1 ay v).contains x.1) h,n1⟩:=rfl
theorem wZ {args:List AV} (r:AV × aG × Nat):HK C base fin k a l d e h n true args (some r)=HBK C base fin k a l d e h n r.1 r.2.1 r.2.2 (kQ r.2.1 r.1 (aK r.2.1 ay r.1)):=rfl
theorem ag1 {args:List AV} (r:AV × aG × Nat):HK C base fin k a l d e h n false args (some r)=OK C base fin k a l ⟨eG e d r.1,over n r.2.1 (bU h (aY h (args.flatMap (aK h ay)))),r.2.2⟩:=rfl
theorem ad4 (v:AV) (u:dW):BSK C base fin k a l d e h n v u true=OK C base fin k a l ⟨eG e d v,bU h u,n⟩:=rfl
theorem acL {args:List AV} (v:AV) (u:dW):FSK C base fin k a l d e h n true args (some (v,u))=BSK C base fin k a l d e h n v u (nX (v,u)):=rfl
theorem ad5 {args:List AV} (v:AV) (u:dW):FSK C base fin k a l d e h n false args (some (v,u))=OK C base fin k a l ⟨eG e d v,bU h (aY h (args.flatMap (aK h ay))++u),n⟩:=rfl
theorem amN {f:Nat} {args:List AV}:FK C base fin k a l d e h n f args false true=WK C base fin k a l d e (RnW C f args h n):=rfl
theorem apd {f:Nat} {args caps:List AV}:QK C base fin k a l d e h n args (.fn f caps)=FK C base fin k a l d e h n f (args++caps) (C.inl f) (!C.pp f&&bV (args++caps)):=rfl
theorem ajU {f:Nat} {args:List AV}:(ob (om (jM C (RnW C) f args h (n - 1) n) (iZ h n args)) λr=>OK C base fin k a l ⟨eG e d r.v,r.h,r.n⟩)=FK C base fin k a l d e h n f args (C.inl f) (!C.pp f&&bV args):=by
 unfold FK jM IK FPK TK HK FSK WK PK VK FnW;split
 ·split
  ·cases aZ (bK h ay) args with
   | none=>rfl
   | some az =>
    simp only [ob];by_cases hdp:tV f=true
    ·simp only [qwz hdp];cases RnW C f az [] n with
     | none=>rfl
     | some r =>
      simp only [xE,Nw];by_cases hdb:zJ f=true
      ·simp only [qwz hdb];unfold HBK;by_cases hk:kQ r.2.1 r.1 (aK r.2.1 ay r.1)=true
       ·simp only [qwz hk];rfl
       ·simp only [qwq hk];rfl
      ·simp only [qwq hdb];rfl
    simp only [qwq hdp];cases jA (RnW C) f az (n - 1) with
    | none=>rfl
    | some x =>
     dsimp only [ob];unfold wV xA BSK;cases sZ f
     ·rfl
     ·cases nX x <;> rfl
  ·cases RnW C f args h n <;> rfl
 ·split
  ·cases RnW C f args h n <;> rfl
  ·cases aZ (bK h ay) args with
   | none=>rfl
   | some az =>simp only [ob];cases jK (RnW C) f az <;> rfl
theorem aio {f:Nat} {xs:List Opd}:OK C base fin k a (⟨d,none,.call f xs⟩::l) ⟨e,h,n⟩=FK C base fin k a l d e h (n+1) f (xs.map λx=>x.ev e) (C.inl f) (!C.pp f&&bV (xs.map λx=>x.ev e)):=by rw [<- ajU];unfold OK;simp only [jf,gY,wants,jV,callOf,jC,q4x]
theorem aeR {g:Opd} {xs:List Opd}:OK C base fin k a (⟨d,none,.dN g xs⟩::l) ⟨e,h,n⟩=QK C base fin k a l d e h (n+1) (xs.map λx=>x.ev e) (g.ev e):=by
 unfold QK;cases hg:g.ev e with
 | fn f caps =>simp only;rw [<- ajU];unfold OK;simp only [jf,gY,wants,jV,callOf,hg,jC,q4x]
 | _ =>unfold OK;simp only [jf,gY,wants,jV,callOf,hg];rfl
variable {un:List (Nat × Nat)} {nid:Nat} {ds:List RW}
theorem Uf {r:yQ}:∀ (l:List bg) (nid:Nat) (s:WSt) (ds:List kY),fJ C r l nid s ds=om (fJ C r l nid s []) λx=>(x.1,ds++x.2):=by
 intro l;induction l with
 | nil=>intro nid s ds;simp [fJ,om]
 | cons o l ih =>
  intro nid s ds;simp only [fJ];cases gY C r o nid s.env s.heap s.next with
  | none=>rfl
  | some d =>simp only [ob];rw [ih,ih _ _ ([]++[d])];cases fJ C r l (nid+1) _ [] <;> simp [om]
theorem akD (s:WSt):DK C base fin k a un [] nid s ds=EK C base fin k a s (un.all (DT ds)):=by unfold DK;simp only [fJ,ob,qax,qXz]
theorem aix (s:WSt):EK C base fin k a s true=AK C base fin k (rE base a s):=rfl
theorem nD {o:bg} {s:WSt}:DK C base fin k a un (o::l) nid s ds=ob (gY C (RnW C) o nid s.env s.heap s.next) λx=>DK C base fin k a un l (nid+1) ⟨eG s.env o.dst x.v,x.h,x.n⟩ (ds++[Zt x]):=by unfold DK;simp only [fJ,jC];congr 1;funext x;rw [Uf];simp only [KL,qJj,qcz,qvz,qax,qQj]
theorem bP {op:COp} (hc:callOf e op=some none):DK C base fin k a un (⟨d,none,op⟩::l) nid ⟨e,h,n⟩ ds=DSK C base fin k a un l (nid+1) d e h n ds (readsOf e op) (stepW op e h nid):=by rw [nD];unfold DSK;simp only [gY,wants,jV,hc,KL];rfl
theorem abu {rd:List Nat} (v:AV) (u:dW):DSK C base fin k a un l nid d e h n ds rd (some (v,u))=DK C base fin k a un l nid ⟨eG e d v,bU h u,n⟩ (ds++[(false,rd,u.map (·.1))]):=rfl
theorem acK {op:COp} {g:Nat} {w b:Bool}:DGK C base fin k a un l nid d op g w e h n ds (some (.bool b))=if b=w then DK C base fin k a un (⟨d,none,op⟩::l) nid ⟨ql e g (.bool w),h,n⟩ ds else DK C base fin k a un l (nid+1) ⟨eG (ql e g (.bool (!w))) d (.tup []),h,n⟩ (ds++[(false,[],[])]):=rfl
theorem J8 {op:COp} {g:Nat}:DGK C base fin k a un l nid d op g true e h n ds (some (.bool true))=DK C base fin k a un (⟨d,none,op⟩::l) nid ⟨ql e g (.bool true),h,n⟩ ds:=rfl
theorem EX {op:COp} {g:Nat}:DGK C base fin k a un l nid d op g false e h n ds (some (.bool false))=DK C base fin k a un (⟨d,none,op⟩::l) nid ⟨ql e g (.bool false),h,n⟩ ds:=rfl
theorem IC {op:COp} {g:Nat}:DGK C base fin k a un l nid d op g true e h n ds (some (.bool false))=DK C base fin k a un l (nid+1) ⟨eG (ql e g (.bool false)) d (.tup []),h,n⟩ (ds++[(false,[],[])]):=rfl
theorem Ic {op:COp} {g:Nat}:DGK C base fin k a un l nid d op g false e h n ds (some (.bool true))=DK C base fin k a un l (nid+1) ⟨eG (ql e g (.bool true)) d (.tup []),h,n⟩ (ds++[(false,[],[])]):=rfl
theorem aiA {op:COp} {g:Nat} {w:Bool}:DGK C base fin k a un l nid d op g w e h n ds (some (.tup []))=DK C base fin k a un l (nid+1) ⟨eG e d (.tup []),h,n⟩ (ds++[(false,[],[])]):=rfl
theorem abM {op:COp} {g:Nat} {w:Bool}:DK C base fin k a un (⟨d,some (g,w),op⟩::l) nid ⟨e,h,n⟩ ds=DGK C base fin k a un l nid d op g w e h n ds (get e g):=by
 unfold DGK;cases hg:get e g with
 | none=>rw [nD];simp only [gY,wants,hg];rfl
 | some v =>
  cases v with
  | bool b =>
   simp only;by_cases hw:b=w
   ·subst hw;rw [yc hg,qwz rfl,nD,nD];simp only [gY,wants,hg,beq_self_eq_true]
   ·have e1:(b == w)=false:=by simpa using hw
    have e2:(!w)=b:=by cases b <;> cases w <;> simp_all
    rw [qwq hw,e2,yc hg,nD];simp only [gY,wants,hg,e1,ob,Zt]
  | tup vs =>
   cases vs with
   | nil=>rw [nD];simp only [gY,wants,hg];rfl
   | cons _ _=>rw [nD];simp only [gY,wants,hg];rfl
  | _=>rw [nD];simp only [gY,wants,hg];rfl
theorem adr {args:List AV} (v:AV):DVK C base fin k a un l nid d e h n ds args (some v)=DK C base fin k a un l nid ⟨eG e d v,bU h (pF h args v),n⟩ (ds++[(false,args.flatMap (aK h ay),(pF h args v).map (·.1))]):=rfl
theorem acH (r:AV × aG × Nat):DWK C base fin k a un l nid d e ds (some r)=DK C base fin k a un l nid ⟨eG e d r.1,r.2.1,r.2.2⟩ (ds++[(true,[],[])]):=rfl
theorem adu {f:Nat} {args:List AV} (az:List AV):DPK C base fin k a un l nid d e h n ds f args (some az)=DVK C base fin k a un l nid d e h n ds args (FnW C f az):=rfl
theorem acO {f:Nat} {args:List AV}:DFK C base fin k a un l nid d e h n ds f args false false=DPK C base fin k a un l nid d e h n ds f args (aZ (bK h ay) args):=rfl
theorem agO {f:Nat} {args:List AV} {p:Bool}:DFK C base fin k a un l nid d e h n ds f args true p=DIK C base fin k a un l nid d e h n ds f args (Ob f):=rfl
theorem Zr {f:Nat} {args:List AV}:DIK C base fin k a un l nid d e h n ds f args false=DWK C base fin k a un l nid d e ds (RnW C f args h n):=rfl
theorem ab8 {f:Nat} {args:List AV}:DIK C base fin k a un l nid d e h n ds f args true=ahT C base fin k a un l nid d e h n ds f args (aZ (bK h ay) args):=rfl
theorem aaz {f:Nat} {args:List AV} (az:List AV):ahT C base fin k a un l nid d e h n ds f args (some az)=DTK C base fin k a un l nid d e h n ds f args az (tV f):=rfl
theorem Zk {f:Nat} {args az:List AV}:DTK C base fin k a un l nid d e h n ds f args az false=aeF C base fin k a un l nid d e h n ds (sZ f) args (jA (RnW C) f az (nid - 1)):=rfl
theorem aa8 {f:Nat} {args az:List AV}:DTK C base fin k a un l nid d e h n ds f args az true=DHK C base fin k a un l nid d e h n ds (zJ f) args (RnW C f az [] n):=rfl
theorem ZN {args:List AV} (v:AV) (h1:aG) (n1:Nat):afk C base fin k a un l nid d e h n ds args v h1 n1 true=DK C base fin k a un l nid ⟨eG e d v,over n (h1.filter λx=>(aK h1 ay v).contains x.1) h,n1⟩ (ds++[(true,args.flatMap (aK h ay),[n])]):=rfl
theorem abf {args:List AV} (r:AV × aG × Nat):DHK C base fin k a un l nid d e h n ds true args (some r)=afk C base fin k a un l nid d e h n ds args r.1 r.2.1 r.2.2 (kQ r.2.1 r.1 (aK r.2.1 ay r.1)):=rfl
theorem adB {args:List AV} (r:AV × aG × Nat):DHK C base fin k a un l nid d e h n ds false args (some r)=DK C base fin k a un l nid ⟨eG e d r.1,over n r.2.1 (bU h (aY h (args.flatMap (aK h ay)))),r.2.2⟩ (ds++[(true,args.flatMap (aK h ay),n::(aY h (args.flatMap (aK h ay))).map (·.1))]):=rfl
theorem aaA {args:List AV} (v:AV) (u:dW):afX C base fin k a un l nid d e h n ds args v u true=DK C base fin k a un l nid ⟨eG e d v,bU h u,n⟩ (ds++[(false,args.flatMap (aK h ay),u.map (·.1))]):=rfl
theorem Zo {args:List AV} (v:AV) (u:dW):aeF C base fin k a un l nid d e h n ds true args (some (v,u))=afX C base fin k a un l nid d e h n ds args v u (nX (v,u)):=rfl
theorem aaO {args:List AV} (v:AV) (u:dW):aeF C base fin k a un l nid d e h n ds false args (some (v,u))=DK C base fin k a un l nid ⟨eG e d v,bU h (aY h (args.flatMap (aK h ay))++u),n⟩ (ds++[(false,args.flatMap (aK h ay),(aY h (args.flatMap (aK h ay))++u).map (·.1))]):=rfl
theorem ahe {f:Nat} {args:List AV}:DFK C base fin k a un l nid d e h n ds f args false true=DWK C base fin k a un l nid d e ds (RnW C f args h n):=rfl
theorem amK {f:Nat} {args caps:List AV}:DQK C base fin k a un l nid d e h n ds args (.fn f caps)=DFK C base fin k a un l nid d e h n ds f (args++caps) (C.inl f) (!C.pp f&&bV (args++caps)):=rfl
theorem aa9 {f:Nat} {args:List AV}:(ob (om (jM C (RnW C) f args h (nid - 1) n) (iZ h n args)) λr=>DK C base fin k a un l nid ⟨eG e d r.v,r.h,r.n⟩ (ds++[Zt r]))=DFK C base fin k a un l nid d e h n ds f args (C.inl f) (!C.pp f&&bV args):=by
 unfold DFK jM DIK ahT DTK DHK aeF DWK DPK DVK FnW;split
 ·split
  ·cases aZ (bK h ay) args with
   | none=>rfl
   | some az =>
    simp only [ob];by_cases hdp:tV f=true
    ·simp only [qwz hdp];cases RnW C f az [] n with
     | none=>rfl
     | some r =>
      simp only [xE,Nw];by_cases hdb:zJ f=true
      ·simp only [qwz hdb];unfold afk;by_cases hk:kQ r.2.1 r.1 (aK r.2.1 ay r.1)=true
       ·simp only [qwz hk];rfl
       ·simp only [qwq hk];rfl
      ·simp only [qwq hdb];rfl
    simp only [qwq hdp];cases jA (RnW C) f az (nid - 1) with
    | none=>rfl
    | some x =>
     dsimp only [ob];unfold wV xA afX;cases sZ f
     ·rfl
     ·cases nX x <;> rfl
  ·cases RnW C f args h n <;> rfl
 ·split
  ·cases RnW C f args h n <;> rfl
  ·cases aZ (bK h ay) args with
   | none=>rfl
   | some az =>simp only [ob];cases jK (RnW C) f az <;> rfl
theorem aip {f:Nat} {xs:List Opd}:DK C base fin k a un (⟨d,none,.call f xs⟩::l) nid ⟨e,h,n⟩ ds=DFK C base fin k a un l (nid+1) d e h n ds f (xs.map λx=>x.ev e) (C.inl f) (!C.pp f&&bV (xs.map λx=>x.ev e)):=by rw [<- aa9,nD];simp only [gY,wants,jV,callOf,q4x]
theorem adE {g:Opd} {xs:List Opd}:DK C base fin k a un (⟨d,none,.dN g xs⟩::l) nid ⟨e,h,n⟩ ds=DQK C base fin k a un l (nid+1) d e h n ds (xs.map λx=>x.ev e) (g.ev e):=by
 unfold DQK;rw [nD];cases hg:g.ev e with
 | fn f caps =>simp only;rw [<- aa9];simp only [gY,wants,jV,callOf,hg,q4x]
 | _ =>simp only [gY,wants,jV,callOf,hg];rfl
theorem aF {f:Nat} {fn:WFn} (hf:C.fns.get f=some fn) {args:List AV} (hl:args.length=fn.np):FnW C f args=CK C 0 (aO fn.res) [] fn.body ⟨Ia 0 args [],[],0⟩:=by
 unfold FnW jK RnW fV CK aO;rw [hf];simp only [ob,qwz hl,RK];cases CdW C 0 fn.body ⟨Ia 0 args [],[],0⟩ with
 | none=>rfl
 | some r=>rfl
theorem iP {f:Nat} {fn:WFn} (hf:C.fns.get f=some fn) {args:List AV} (hl:args.length=fn.np) (h:aG) (n:Nat):RnW C f args h n=CK C n (fQ fn.res) [] fn.body ⟨Ia 0 args [],h,n⟩:=by unfold RnW fV CK;rw [hf];simp only [ob,qwz hl,RK]
end
end Go.Pw
end
section
set_option linter.unusedSimpArgs false
set_option linter.unusedVariables false
namespace Go.Pw
open Go Go.Pav
attribute [simp] akH af8 afq akB aik aeT al6 aiL alH aoE Vl aat UF ZB anT U3 aa0 ag6 afP
 alG Cj alO abv ahM aft ahH af2 akJ amN apd aio aeR akD aix abu aiA abM adr acH adu acO agO ahe amK aip adE aeN ahl aeB ad5 acL ad4 Zo aaA sZ nX UU iG nZ Zr ab8 aaz aaO Ob tV afg agk ag1 wZ Ru Zk aa8 adB abf ZN zJ kQ jd cO nO
attribute [simp high] WE Rj QT I9 Ku Kr J8 EX IC Ic
attribute [simp low] Xb aht acK
section
variable {β:Type} {C:aH} {base:Nat} {fin:Ex × WSt->Option β} {k:List Frame} {a:Ann} {l:List bg} {d:Option Nat} {e:Env} {h:aG} {n:Nat} {un:List (Nat × Nat)} {nid:Nat} {ds:List RW}
@[simp] theorem avt {x:Opd}:OK C base fin k a (⟨d,none,.mv x⟩::l) ⟨e,h,n⟩=OK C base fin k a l ⟨eG e d (x.ev e),h,n+1⟩:=by rw [bM rfl];rfl
@[simp] theorem arl {c x y:Opd}:OK C base fin k a (⟨d,none,.pick c x y⟩::l) ⟨e,h,n⟩=SK C base fin k a l d e h (n+1) (stepW (.pick c x y) e h n):=bM rfl
@[simp] theorem aok {z:List AV}:OK C base fin k a (⟨d,none,.alloc z⟩::l) ⟨e,h,n⟩=SK C base fin k a l d e h (n+1) (stepW (.alloc z) e h n):=bM rfl
@[simp] theorem asK {x:Opd}:OK C base fin k a (⟨d,none,.box x⟩::l) ⟨e,h,n⟩=SK C base fin k a l d e h (n+1) (stepW (.box x) e h n):=bM rfl
@[simp] theorem aoj {z:List AV} {ps:List (Nat × Nat × Opd)}:OK C base fin k a (⟨d,none,.build z ps⟩::l) ⟨e,h,n⟩=SK C base fin k a l d e h (n+1) (stepW (.build z ps) e h n):=bM rfl
@[simp] theorem am0 {z:List AV} {m:Nat} {ps:List (Nat × Opd)}:OK C base fin k a (⟨d,none,.aP z m ps⟩::l) ⟨e,h,n⟩=SK C base fin k a l d e h (n+1) (stepW (.aP z m ps) e h n):=bM rfl
@[simp] theorem aqd {m:Nat} {ag:Bool} {x:Opd}:OK C base fin k a (⟨d,none,.load m ag x⟩::l) ⟨e,h,n⟩=SK C base fin k a l d e h (n+1) (stepW (.load m ag x) e h n):=bM rfl
@[simp] theorem an9 {m:Nat} {x y:Opd}:OK C base fin k a (⟨d,none,.store m x y⟩::l) ⟨e,h,n⟩=SK C base fin k a l d e h (n+1) (stepW (.store m x y) e h n):=bM rfl
@[simp] theorem ank {x:Opd}:OK C base fin k a (⟨d,none,.jQ x⟩::l) ⟨e,h,n⟩=SK C base fin k a l d e h (n+1) (stepW (.jQ x) e h n):=bM rfl
@[simp] theorem asN {op:BinOp} {x y:Opd}:OK C base fin k a (⟨d,none,.bin op x y⟩::l) ⟨e,h,n⟩=SK C base fin k a l d e h (n+1) (stepW (.bin op x y) e h n):=bM rfl
@[simp] theorem arG {kd:Nat} {ks:List Nat} {ne:Bool} {x y:Opd}:OK C base fin k a (⟨d,none,.eqv kd ks ne x y⟩::l) ⟨e,h,n⟩=SK C base fin k a l d e h (n+1) (stepW (.eqv kd ks ne x y) e h n):=bM rfl
@[simp] theorem avq {op:UnOp} {x:Opd}:OK C base fin k a (⟨d,none,.un op x⟩::l) ⟨e,h,n⟩=SK C base fin k a l d e h (n+1) (stepW (.un op x) e h n):=bM rfl
@[simp] theorem asE {kk:IntKind} {x:Opd}:OK C base fin k a (⟨d,none,.cvt kk x⟩::l) ⟨e,h,n⟩=SK C base fin k a l d e h (n+1) (stepW (.cvt kk x) e h n):=bM rfl
@[simp] theorem aue {x:Opd}:OK C base fin k a (⟨d,none,.cvs x⟩::l) ⟨e,h,n⟩=SK C base fin k a l d e h (n+1) (stepW (.cvs x) e h n):=bM rfl
@[simp] theorem aub {x:Opd}:OK C base fin k a (⟨d,none,.cvb x⟩::l) ⟨e,h,n⟩=SK C base fin k a l d e h (n+1) (stepW (.cvb x) e h n):=bM rfl
@[simp] theorem ap3 {f:Nat} {xs:List Opd}:OK C base fin k a (⟨d,none,.iW f xs⟩::l) ⟨e,h,n⟩=SK C base fin k a l d e h (n+1) (stepW (.iW f xs) e h n):=bM rfl
@[simp] theorem aoI:OK C base fin k a (⟨d,none,.lY⟩::l) ⟨e,h,n⟩=SK C base fin k a l d e h (n+1) (stepW .lY e h n):=bM rfl
@[simp] theorem ari {z:List AV} {b:Nat} {x y:Opd}:OK C base fin k a (⟨d,none,.kE z b x y⟩::l) ⟨e,h,n⟩=SK C base fin k a l d e h (n+1) (stepW (.kE z b x y) e h n):=bM rfl
@[simp] theorem ok_slice {z:Nat} {x:Opd} {lo hi mx:Option Opd}:OK C base fin k a (⟨d,none,.slice z x lo hi mx⟩::l) ⟨e,h,n⟩=SK C base fin k a l d e h (n+1) (stepW (.slice z x lo hi mx) e h n):=bM rfl
@[simp] theorem am2 {z:Nat} {x:Opd} {lo hi:Option Opd}:OK C base fin k a (⟨d,none,.gX z x lo hi⟩::l) ⟨e,h,n⟩=SK C base fin k a l d e h (n+1) (stepW (.gX z x lo hi) e h n):=bM rfl
@[simp] theorem arv {o:Nat} {x:Opd}:OK C base fin k a (⟨d,none,.fld o x⟩::l) ⟨e,h,n⟩=SK C base fin k a l d e h (n+1) (stepW (.fld o x) e h n):=bM rfl
@[simp] theorem aqh {o m:Nat} {ag:Bool} {x:Opd}:OK C base fin k a (⟨d,none,.yU o m ag x⟩::l) ⟨e,h,n⟩=SK C base fin k a l d e h (n+1) (stepW (.yU o m ag x) e h n):=bM rfl
@[simp] theorem aqr {z:Nat} {x y:Opd}:OK C base fin k a (⟨d,none,.idxs z x y⟩::l) ⟨e,h,n⟩=SK C base fin k a l d e h (n+1) (stepW (.idxs z x y) e h n):=bM rfl
@[simp] theorem aqG {m z:Nat} {x y:Opd}:OK C base fin k a (⟨d,none,.gq m z x y⟩::l) ⟨e,h,n⟩=SK C base fin k a l d e h (n+1) (stepW (.gq m z x y) e h n):=bM rfl
@[simp] theorem am6 {x y:Opd}:OK C base fin k a (⟨d,none,.fB x y⟩::l) ⟨e,h,n⟩=SK C base fin k a l d e h (n+1) (stepW (.fB x y) e h n):=bM rfl
@[simp] theorem ark {m z:Nat} {ag:Bool} {x y:Opd}:OK C base fin k a (⟨d,none,.vI m z ag x y⟩::l) ⟨e,h,n⟩=SK C base fin k a l d e h (n+1) (stepW (.vI m z ag x y) e h n):=bM rfl
@[simp] theorem arn {kd:Nat} {z:AV} {ok:Bool} {x y:Opd}:OK C base fin k a (⟨d,none,.look kd z ok x y⟩::l) ⟨e,h,n⟩=SK C base fin k a l d e h (n+1) (stepW (.look kd z ok x y) e h n):=bM rfl
@[simp] theorem auK {kd:Nat} {x y z:Opd}:OK C base fin k a (⟨d,none,.upd kd x y z⟩::l) ⟨e,h,n⟩=SK C base fin k a l d e h (n+1) (stepW (.upd kd x y z) e h n):=bM rfl
@[simp] theorem an7 {x:Opd}:OK C base fin k a (⟨d,none,.range x⟩::l) ⟨e,h,n⟩=SK C base fin k a l d e h (n+1) (stepW (.range x) e h n):=bM rfl
@[simp] theorem aqC {x:Opd}:OK C base fin k a (⟨d,none,.next x⟩::l) ⟨e,h,n⟩=SK C base fin k a l d e h (n+1) (stepW (.next x) e h n):=bM rfl
@[simp] theorem atU {i:Nat} {x:Opd}:OK C base fin k a (⟨d,none,.ext i x⟩::l) ⟨e,h,n⟩=SK C base fin k a l d e h (n+1) (stepW (.ext i x) e h n):=bM rfl
@[simp] theorem atH {kd:Nat} {x:Opd}:OK C base fin k a (⟨d,none,.len kd x⟩::l) ⟨e,h,n⟩=SK C base fin k a l d e h (n+1) (stepW (.len kd x) e h n):=bM rfl
@[simp] theorem asw {x:Opd}:OK C base fin k a (⟨d,none,.cap x⟩::l) ⟨e,h,n⟩=SK C base fin k a l d e h (n+1) (stepW (.cap x) e h n):=bM rfl
@[simp] theorem asD {z:List AV} {b:Nat} {zs:Bool} {x y:Opd}:OK C base fin k a (⟨d,none,.app z b zs x y⟩::l) ⟨e,h,n⟩=SK C base fin k a l d e h (n+1) (stepW (.app z b zs x y) e h n):=bM rfl
@[simp] theorem asx {z:Nat} {x y:Opd}:OK C base fin k a (⟨d,none,.cpy z x y⟩::l) ⟨e,h,n⟩=SK C base fin k a l d e h (n+1) (stepW (.cpy z x y) e h n):=bM rfl
@[simp] theorem auj {z:List AV} {x:Opd}:OK C base fin k a (⟨d,none,.clr z x⟩::l) ⟨e,h,n⟩=SK C base fin k a l d e h (n+1) (stepW (.clr z x) e h n):=bM rfl
@[simp] theorem avr {x y:Opd}:OK C base fin k a (⟨d,none,.mx x y⟩::l) ⟨e,h,n⟩=SK C base fin k a l d e h (n+1) (stepW (.mx x y) e h n):=bM rfl
@[simp] theorem avs {x y:Opd}:OK C base fin k a (⟨d,none,.mn x y⟩::l) ⟨e,h,n⟩=SK C base fin k a l d e h (n+1) (stepW (.mn x y) e h n):=bM rfl
@[simp] theorem avl {x:Opd}:DK C base fin k a un (⟨d,none,.mv x⟩::l) nid ⟨e,h,n⟩ ds=DSK C base fin k a un l (nid+1) d e h n ds (readsOf e (.mv x)) (stepW (.mv x) e h nid):=bP rfl
@[simp] theorem aqg {c x y:Opd}:DK C base fin k a un (⟨d,none,.pick c x y⟩::l) nid ⟨e,h,n⟩ ds=DSK C base fin k a un l (nid+1) d e h n ds (readsOf e (.pick c x y)) (stepW (.pick c x y) e h nid):=bP rfl
@[simp] theorem apl {z:List AV}:DK C base fin k a un (⟨d,none,.alloc z⟩::l) nid ⟨e,h,n⟩ ds=DSK C base fin k a un l (nid+1) d e h n ds (readsOf e (.alloc z)) (stepW (.alloc z) e h nid):=bP rfl
@[simp] theorem aur {x:Opd}:DK C base fin k a un (⟨d,none,.box x⟩::l) nid ⟨e,h,n⟩ ds=DSK C base fin k a un l (nid+1) d e h n ds (readsOf e (.box x)) (stepW (.box x) e h nid):=bP rfl
@[simp] theorem anU {z:List AV} {ps:List (Nat × Nat × Opd)}:DK C base fin k a un (⟨d,none,.build z ps⟩::l) nid ⟨e,h,n⟩ ds=DSK C base fin k a un l (nid+1) d e h n ds (readsOf e (.build z ps)) (stepW (.build z ps) e h nid):=bP rfl
@[simp] theorem am8 {z:List AV} {m:Nat} {ps:List (Nat × Opd)}:DK C base fin k a un (⟨d,none,.aP z m ps⟩::l) nid ⟨e,h,n⟩ ds=DSK C base fin k a un l (nid+1) d e h n ds (readsOf e (.aP z m ps)) (stepW (.aP z m ps) e h nid):=bP rfl
@[simp] theorem aqu {m:Nat} {ag:Bool} {x:Opd}:DK C base fin k a un (⟨d,none,.load m ag x⟩::l) nid ⟨e,h,n⟩ ds=DSK C base fin k a un l (nid+1) d e h n ds (readsOf e (.load m ag x)) (stepW (.load m ag x) e h nid):=bP rfl
@[simp] theorem aoQ {m:Nat} {x y:Opd}:DK C base fin k a un (⟨d,none,.store m x y⟩::l) nid ⟨e,h,n⟩ ds=DSK C base fin k a un l (nid+1) d e h n ds (readsOf e (.store m x y)) (stepW (.store m x y) e h nid):=bP rfl
@[simp] theorem am7 {x:Opd}:DK C base fin k a un (⟨d,none,.jQ x⟩::l) nid ⟨e,h,n⟩ ds=DSK C base fin k a un l (nid+1) d e h n ds (readsOf e (.jQ x)) (stepW (.jQ x) e h nid):=bP rfl
@[simp] theorem auF {op:BinOp} {x y:Opd}:DK C base fin k a un (⟨d,none,.bin op x y⟩::l) nid ⟨e,h,n⟩ ds=DSK C base fin k a un l (nid+1) d e h n ds (readsOf e (.bin op x y)) (stepW (.bin op x y) e h nid):=bP rfl
@[simp] theorem auN {kd:Nat} {ks:List Nat} {ne:Bool} {x y:Opd}:DK C base fin k a un (⟨d,none,.eqv kd ks ne x y⟩::l) nid ⟨e,h,n⟩ ds=DSK C base fin k a un l (nid+1) d e h n ds (readsOf e (.eqv kd ks ne x y)) (stepW (.eqv kd ks ne x y) e h nid):=bP rfl
@[simp] theorem avn {op:UnOp} {x:Opd}:DK C base fin k a un (⟨d,none,.un op x⟩::l) nid ⟨e,h,n⟩ ds=DSK C base fin k a un l (nid+1) d e h n ds (readsOf e (.un op x)) (stepW (.un op x) e h nid):=bP rfl
@[simp] theorem atK {kk:IntKind} {x:Opd}:DK C base fin k a un (⟨d,none,.cvt kk x⟩::l) nid ⟨e,h,n⟩ ds=DSK C base fin k a un l (nid+1) d e h n ds (readsOf e (.cvt kk x)) (stepW (.cvt kk x) e h nid):=bP rfl
@[simp] theorem auA {x:Opd}:DK C base fin k a un (⟨d,none,.cvs x⟩::l) nid ⟨e,h,n⟩ ds=DSK C base fin k a un l (nid+1) d e h n ds (readsOf e (.cvs x)) (stepW (.cvs x) e h nid):=bP rfl
@[simp] theorem atc {x:Opd}:DK C base fin k a un (⟨d,none,.cvb x⟩::l) nid ⟨e,h,n⟩ ds=DSK C base fin k a un l (nid+1) d e h n ds (readsOf e (.cvb x)) (stepW (.cvb x) e h nid):=bP rfl
@[simp] theorem apP {f:Nat} {xs:List Opd}:DK C base fin k a un (⟨d,none,.iW f xs⟩::l) nid ⟨e,h,n⟩ ds=DSK C base fin k a un l (nid+1) d e h n ds (readsOf e (.iW f xs)) (stepW (.iW f xs) e h nid):=bP rfl
@[simp] theorem aol:DK C base fin k a un (⟨d,none,.lY⟩::l) nid ⟨e,h,n⟩ ds=DSK C base fin k a un l (nid+1) d e h n ds (readsOf e (.lY)) (stepW (.lY) e h nid):=bP rfl
@[simp] theorem apW {z:List AV} {b:Nat} {x y:Opd}:DK C base fin k a un (⟨d,none,.kE z b x y⟩::l) nid ⟨e,h,n⟩ ds=DSK C base fin k a un l (nid+1) d e h n ds (readsOf e (.kE z b x y)) (stepW (.kE z b x y) e h nid):=bP rfl
@[simp] theorem aon {z:Nat} {x:Opd} {lo hi mx:Option Opd}:DK C base fin k a un (⟨d,none,.slice z x lo hi mx⟩::l) nid ⟨e,h,n⟩ ds=DSK C base fin k a un l (nid+1) d e h n ds (readsOf e (.slice z x lo hi mx)) (stepW (.slice z x lo hi mx) e h nid):=bP rfl
@[simp] theorem ano {z:Nat} {x:Opd} {lo hi:Option Opd}:DK C base fin k a un (⟨d,none,.gX z x lo hi⟩::l) nid ⟨e,h,n⟩ ds=DSK C base fin k a un l (nid+1) d e h n ds (readsOf e (.gX z x lo hi)) (stepW (.gX z x lo hi) e h nid):=bP rfl
@[simp] theorem atz {o:Nat} {x:Opd}:DK C base fin k a un (⟨d,none,.fld o x⟩::l) nid ⟨e,h,n⟩ ds=DSK C base fin k a un l (nid+1) d e h n ds (readsOf e (.fld o x)) (stepW (.fld o x) e h nid):=bP rfl
@[simp] theorem apX {o m:Nat} {ag:Bool} {x:Opd}:DK C base fin k a un (⟨d,none,.yU o m ag x⟩::l) nid ⟨e,h,n⟩ ds=DSK C base fin k a un l (nid+1) d e h n ds (readsOf e (.yU o m ag x)) (stepW (.yU o m ag x) e h nid):=bP rfl
@[simp] theorem ara {z:Nat} {x y:Opd}:DK C base fin k a un (⟨d,none,.idxs z x y⟩::l) nid ⟨e,h,n⟩ ds=DSK C base fin k a un l (nid+1) d e h n ds (readsOf e (.idxs z x y)) (stepW (.idxs z x y) e h nid):=bP rfl
@[simp] theorem apo {m z:Nat} {x y:Opd}:DK C base fin k a un (⟨d,none,.gq m z x y⟩::l) nid ⟨e,h,n⟩ ds=DSK C base fin k a un l (nid+1) d e h n ds (readsOf e (.gq m z x y)) (stepW (.gq m z x y) e h nid):=bP rfl
@[simp] theorem anp {x y:Opd}:DK C base fin k a un (⟨d,none,.fB x y⟩::l) nid ⟨e,h,n⟩ ds=DSK C base fin k a un l (nid+1) d e h n ds (readsOf e (.fB x y)) (stepW (.fB x y) e h nid):=bP rfl
@[simp] theorem aqc {m z:Nat} {ag:Bool} {x y:Opd}:DK C base fin k a un (⟨d,none,.vI m z ag x y⟩::l) nid ⟨e,h,n⟩ ds=DSK C base fin k a un l (nid+1) d e h n ds (readsOf e (.vI m z ag x y)) (stepW (.vI m z ag x y) e h nid):=bP rfl
@[simp] theorem aqP {kd:Nat} {z:AV} {ok:Bool} {x y:Opd}:DK C base fin k a un (⟨d,none,.look kd z ok x y⟩::l) nid ⟨e,h,n⟩ ds=DSK C base fin k a un l (nid+1) d e h n ds (readsOf e (.look kd z ok x y)) (stepW (.look kd z ok x y) e h nid):=bP rfl
@[simp] theorem asj {kd:Nat} {x y z:Opd}:DK C base fin k a un (⟨d,none,.upd kd x y z⟩::l) nid ⟨e,h,n⟩ ds=DSK C base fin k a un l (nid+1) d e h n ds (readsOf e (.upd kd x y z)) (stepW (.upd kd x y z) e h nid):=bP rfl
@[simp] theorem an3 {x:Opd}:DK C base fin k a un (⟨d,none,.range x⟩::l) nid ⟨e,h,n⟩ ds=DSK C base fin k a un l (nid+1) d e h n ds (readsOf e (.range x)) (stepW (.range x) e h nid):=bP rfl
@[simp] theorem aqi {x:Opd}:DK C base fin k a un (⟨d,none,.next x⟩::l) nid ⟨e,h,n⟩ ds=DSK C base fin k a un l (nid+1) d e h n ds (readsOf e (.next x)) (stepW (.next x) e h nid):=bP rfl
@[simp] theorem atq {i:Nat} {x:Opd}:DK C base fin k a un (⟨d,none,.ext i x⟩::l) nid ⟨e,h,n⟩ ds=DSK C base fin k a un l (nid+1) d e h n ds (readsOf e (.ext i x)) (stepW (.ext i x) e h nid):=bP rfl
@[simp] theorem ar0 {kd:Nat} {x:Opd}:DK C base fin k a un (⟨d,none,.len kd x⟩::l) nid ⟨e,h,n⟩ ds=DSK C base fin k a un l (nid+1) d e h n ds (readsOf e (.len kd x)) (stepW (.len kd x) e h nid):=bP rfl
@[simp] theorem as8 {x:Opd}:DK C base fin k a un (⟨d,none,.cap x⟩::l) nid ⟨e,h,n⟩ ds=DSK C base fin k a un l (nid+1) d e h n ds (readsOf e (.cap x)) (stepW (.cap x) e h nid):=bP rfl
@[simp] theorem arS {z:List AV} {b:Nat} {zs:Bool} {x y:Opd}:DK C base fin k a un (⟨d,none,.app z b zs x y⟩::l) nid ⟨e,h,n⟩ ds=DSK C base fin k a un l (nid+1) d e h n ds (readsOf e (.app z b zs x y)) (stepW (.app z b zs x y) e h nid):=bP rfl
@[simp] theorem avf {z:Nat} {x y:Opd}:DK C base fin k a un (⟨d,none,.cpy z x y⟩::l) nid ⟨e,h,n⟩ ds=DSK C base fin k a un l (nid+1) d e h n ds (readsOf e (.cpy z x y)) (stepW (.cpy z x y) e h nid):=bP rfl
@[simp] theorem asZ {z:List AV} {x:Opd}:DK C base fin k a un (⟨d,none,.clr z x⟩::l) nid ⟨e,h,n⟩ ds=DSK C base fin k a un l (nid+1) d e h n ds (readsOf e (.clr z x)) (stepW (.clr z x) e h nid):=bP rfl
@[simp] theorem avk {x y:Opd}:DK C base fin k a un (⟨d,none,.mx x y⟩::l) nid ⟨e,h,n⟩ ds=DSK C base fin k a un l (nid+1) d e h n ds (readsOf e (.mx x y)) (stepW (.mx x y) e h nid):=bP rfl
@[simp] theorem avo {x y:Opd}:DK C base fin k a un (⟨d,none,.mn x y⟩::l) nid ⟨e,h,n⟩ ds=DSK C base fin k a un l (nid+1) d e h n ds (readsOf e (.mn x y)) (stepW (.mn x y) e h nid):=bP rfl
end
@[simp] theorem nat?_cast (n:Nat):nat? (n:Int)=some n:=rfl
@[simp] theorem nat?_zero:nat? 0=some 0:=rfl
@[simp] theorem nat?_one:nat? 1=some 1:=rfl
@[simp] theorem nat?_lit (n:Nat):nat? (no_index (OfNat.ofNat n):Int)=some n:=rfl
@[simp] theorem nat?_add (n m:Nat):nat? ((n:Int)+(m:Int))=some (n+m):=rfl
@[simp] theorem nat?_add_lit (n m:Nat):nat? ((n:Int)+(no_index (OfNat.ofNat m):Int))=some (n+m):=rfl
theorem aC {x:Int} (h1:-9223372036854775808<=x) (h2:x < 9223372036854775808):IntKind.i64.wrap x=x:=by show (if (true&&decide (x % 18446744073709551616 ≥ 9223372036854775808))=true then x % 18446744073709551616 - 18446744073709551616 else x % 18446744073709551616)=x;simp only [qYj,qvj];split <;> omega
theorem pJ {x:Int} (h1:0<=x) (h2:x < 18446744073709551616):IntKind.u64.wrap x=x:=by show (if (false&&decide (x % 18446744073709551616 ≥ 9223372036854775808))=true then x % 18446744073709551616 - 18446744073709551616 else x % 18446744073709551616)=x;simp only [qsz,qjz,qWz];omega
theorem wU8 {x:Int} (h1:0<=x) (h2:x < 256):IntKind.u8.wrap x=x:=by show (if (false&&decide (x % 256 ≥ 128))=true then x % 256 - 256 else x % 256)=x;simp only [qsz,qjz,qWz];omega
theorem fits {n c:Nat} (h:n * c<=35184372088832):(n * c<=35184372088832)=True:=qZx h
@[simp ↓] theorem avG {α β:Type} (a:α) (f:α->Option β):ob (some a) f=f a:=rfl
@[simp] theorem anl (e:Env) (h:aG) (t:Nat):Dw e h (.tmp t)=Pav.get e t:=rfl
def cellOf (h:aG) (n:Nat) (ag:Bool):Option AV->Option AV
 | some (.ptr b i o)=>yL n ag o i (Pav.get h b)
 | _=>none
@[simp] theorem amu (e:Env) (h:aG) (t n:Nat) (ag:Bool):Dw e h (.cell t n ag)=cellOf h n ag (Pav.get e t):=rfl
attribute [simp] cellOf
@[simp] theorem avv (s:Nat) (e:Env):(Opd.t s).ev e=(Pav.get e s).getD .undef:=rfl
@[simp] theorem avE (v:AV) (e:Env):(Opd.c v).ev e=v:=rfl
@[simp ↓] theorem avw {α β:Type} (f:α->Option β):ob none f=none:=rfl
@[simp ↓] theorem avy {α β:Type} (a:α) (f:α->β):om (some a) f=some (f a):=rfl
@[simp ↓] theorem avA {α β:Type} (f:α->β):om none f=none:=rfl
@[simp] theorem avI {β:Type} (x:Option β):og true x=x:=rfl
@[simp] theorem avJ {β:Type} (x:Option β):og false x=none:=rfl
@[simp] theorem avx (v:AV):ov (some v)=some (v,[]):=rfl
@[simp] theorem avp (v:AV):ovW (some v)=some (v,[]):=rfl
@[simp] theorem aoi (x:AV × Upd):plainW (some x)=some (x.1,[]):=rfl
def acp {α:Type}:Option α->Option (List α)->Option (List α)
 | some a,some l=>some (a::l)
 | _,_=>none
@[simp] theorem aqz {α:Type} (a:α) (l:List α):acp (some a) (some l)=some (a::l):=rfl
@[simp] theorem aoz {α β:Type} (f:α->Option β):aZ f []=some []:=rfl
@[simp] theorem ani {α β:Type} (f:α->Option β) (a:α) (r:List α):aZ f (a::r)=acp (f a) (aZ f r):=by simp only [aZ];cases f a <;> cases aZ f r <;> rfl
def aj3 (k:Nat):Option AV->Option Env->Option Env
 | some v,some r=>some ((k,v)::r)
 | _,_=>none
@[simp] theorem aqV (k:Nat) (v:AV) (r:Env):aj3 k (some v) (some r)=some ((k,v)::r):=rfl
@[simp] theorem alC (π:Nat->Option Nat):kP π []=some []:=rfl
@[simp] theorem ajr (π:Nat->Option Nat) (k:Nat) (v:AV) (r:Env):kP π ((k,v)::r)=aj3 k (ren π v) (kP π r):=by simp only [kP];cases ren π v <;> cases kP π r <;> rfl
def anS (i o:Nat):Option Nat->Option AV
 | some b=>some (.ptr b i o)
 | none=>none
def slO (z i l c:Nat) (ex:Bool):Option Nat->Option AV
 | some b=>some (.sl b z i l c ex)
 | none=>none
def aou:Option Nat->Option AV
 | some b=>some (.map b)
 | none=>none
def fnO (f:Nat):Option (List AV)->Option AV
 | some cs=>some (.fn f cs)
 | none=>none
def alP:Option (List AV)->Option AV
 | some cs=>some (.agg cs)
 | none=>none
def akI:Option (List AV)->Option AV
 | some cs=>some (.tup cs)
 | none=>none
@[simp] theorem asP (i o b:Nat):anS i o (some b)=some (.ptr b i o):=rfl
@[simp] theorem avm (z i l c:Nat) (ex:Bool) (b:Nat):slO z i l c ex (some b)=some (.sl b z i l c ex):=rfl
@[simp] theorem auT (b:Nat):aou (some b)=some (.map b):=rfl
@[simp] theorem avj (f:Nat) (cs:List AV):fnO f (some cs)=some (.fn f cs):=rfl
@[simp] theorem atT (cs:List AV):alP (some cs)=some (.agg cs):=rfl
@[simp] theorem ar2 (cs:List AV):akI (some cs)=some (.tup cs):=rfl
section
variable (π:Nat->Option Nat)
@[simp] theorem aqf (b i o:Nat):ren π (.ptr b i o)=anS i o (π b):=by simp only [ren];cases π b <;> rfl
@[simp] theorem asF (b z i l c:Nat) (ex:Bool):ren π (.sl b z i l c ex)=slO z i l c ex (π b):=by simp only [ren];cases π b <;> rfl
@[simp] theorem aqX (b:Nat):ren π (.map b)=aou (π b):=by simp only [ren];cases π b <;> rfl
@[simp] theorem aud (f:Nat) (cs:List AV):ren π (.fn f cs)=fnO f (lV π cs):=by simp only [ren];cases lV π cs <;> rfl
@[simp] theorem aqB (cs:List AV):ren π (.agg cs)=alP (lV π cs):=by simp only [ren];cases lV π cs <;> rfl
@[simp] theorem apr (cs:List AV):ren π (.tup cs)=akI (lV π cs):=by simp only [ren];cases lV π cs <;> rfl
@[simp] theorem ang:ren π .undef=some .undef:=rfl
@[simp] theorem aoG (b:Bool):ren π (.bool b)=some (.bool b):=rfl
@[simp] theorem apI (k:IntKind) (n:Int):ren π (.int k n)=some (.int k n):=rfl
@[simp] theorem aqe (s:List UInt8):ren π (.str s)=some (.str s):=rfl
@[simp] theorem aoZ:ren π .eH=some .eH:=rfl
@[simp] theorem aoO:ren π .bF=some .bF:=rfl
@[simp] theorem anR:ren π .dU=some .dU:=rfl
@[simp] theorem aov:ren π .bQ=some .bQ:=rfl
@[simp] theorem atI (z:Nat) (es:List (List AV)) (ex:Bool):ren π (.ro z es ex)=some (.ro z es ex):=rfl
@[simp] theorem apQ (cs:List AV):ren π (.rop cs)=some (.rop cs):=rfl
@[simp] theorem anJ:lV π []=some []:=rfl
@[simp] theorem anb (v:AV) (r:List AV):lV π (v::r)=acp (ren π v) (lV π r):=by simp only [lV];cases ren π v <;> cases lV π r <;> rfl
def acv (z:Nat) (mu dt:Bool):Option (List (List AV))->Option fC
 | some es=>some (.cells z es mu dt)
 | none=>none
@[simp] theorem aoR (z:Nat) (mu dt:Bool) (es:List (List AV)):acv z mu dt (some es)=some (.cells z es mu dt):=rfl
@[simp] theorem anq (z:Nat) (es:List (List AV)) (mu:Bool):iF π (.cells z es mu true)=some (.cells z es mu true):=rfl
@[simp] theorem am9 (z:Nat) (es:List (List AV)) (mu:Bool):iF π (.cells z es mu false)=acv z mu false (aZ (lV π) es):=by simp only [iF];cases aZ (lV π) es <;> rfl
@[simp] theorem aku (es:List (AV × AV)):iF π (.map es)=some (.map es):=rfl
@[simp] theorem aj6 (s:List UInt8) (p:Nat):iF π (.iter s p)=some (.iter s p):=rfl
def YC (k:Nat):Option fC->Option aG->Option aG
 | some v,some r=>some ((k,v)::r)
 | _,_=>none
@[simp] theorem aro (k:Nat) (v:fC) (r:aG):YC k (some v) (some r)=some ((k,v)::r):=rfl
@[simp] theorem amS (base:Nat):jS base π []=some []:=rfl
@[simp] theorem ajO (base b:Nat) (o:fC) (r:aG):jS base π ((b,o)::r)=if b < base then YC b (iF π o) (jS base π r) else jS base π r:=by
 simp only [jS];split
 ·cases iF π o <;> cases jS base π r <;> rfl
 ·rfl
def newH (n:Nat) (π:Nat->Option Nat) (r:Option aG):Option fC->Option aG
 | some o=>YC n (iF π o) r
 | none=>r
@[simp] theorem auJ (n:Nat) (r:Option aG) (o:fC):newH n π r (some o)=YC n (iF π o) r:=rfl
@[simp] theorem au0 (n:Nat) (r:Option aG):newH n π r none=r:=rfl
@[simp] theorem amE (h:aG) (n:Nat):mg π h n []=some []:=rfl
@[simp] theorem akc (h:aG) (n b:Nat) (r:List Nat):mg π h n (b::r)=newH n π (mg π h (n+1) r) (Pav.get h b):=by
 simp only [mg,newH];cases Pav.get h b with
 | none=>rfl
 | some o=>simp only;cases iF π o <;> cases mg π h (n+1) r <;> rfl
end
def an0 (n:Nat):Option Env->Option aG->Option aG->Option WSt
 | some e,some h1,some h2=>some ⟨e,h1++h2,n⟩
 | _,_,_=>none
@[simp] theorem att (n:Nat) (e:Env) (h1 h2:aG):an0 n (some e) (some h1) (some h2)=some ⟨e,h1++h2,n⟩:=rfl
@[simp] theorem akd (base:Nat) (s:WSt) (L:List Nat):renumber base s L=an0 (base+L.length) (kP (iy base L) s.env) (jS base (iy base L) s.heap) (mg (iy base L) s.heap base L):=by simp only [renumber];cases kP (iy base L) s.env <;> cases jS base (iy base L) s.heap <;> cases mg (iy base L) s.heap base L <;> rfl
def apf (h:aG) (nid zl bytes:Nat) (s:AV):Option (List (List AV) × Bool)->Option (AV × dW)
 | some (xs,d)=>jg h nid zl bytes s xs d
 | none=>none
@[simp] theorem aso (h:aG) (nid zl bytes:Nat) (s:AV) (xs:List (List AV)) (d:Bool):apf h nid zl bytes s (some (xs,d))=jg h nid zl bytes s xs d:=rfl
@[simp] theorem auD (z:List AV) (bytes:Nat) (s x:Opd) (e:Env) (h:aG) (n:Nat):Ur z bytes false s x e h n=apf h n z.length bytes (s.ev e) (kL h z.length (x.ev e)):=by simp only [Ur,qjz,qWz];cases kL h z.length (x.ev e) <;> rfl
def ab5 (h:aG) (nid:Nat) (z:List AV) (bytes:Nat) (s:AV):AV->Option (AV × dW)
 | .int _ n=>ob (nat? n) λn=>if n * (bytes+1)<=dD then jg h nid z.length bytes s (List.replicate n z) (z.all isC) else none
 | _=>none
@[simp] theorem ase (z:List AV) (bytes:Nat) (s x:Opd) (e:Env) (h:aG) (n:Nat):Ur z bytes true s x e h n=ab5 h n z bytes (s.ev e) (x.ev e):=by simp only [Ur,qQx];cases x.ev e <;> rfl
def ao0 (h:aG) (z:Nat) (d:AV):Option (List (List AV) × Bool)->Option (AV × dW)
 | some (xs,b)=>qR h z xs b d
 | none=>none
@[simp] theorem as5 (h:aG) (z:Nat) (d:AV) (xs:List (List AV)) (b:Bool):ao0 h z d (some (xs,b))=qR h z xs b d:=rfl
@[simp] theorem aq6 (z:Nat) (d s:Opd) (e:Env) (h:aG) (n:Nat):aaX z d s e h n=ao0 h z (d.ev e) (kL h z (s.ev e)):=by simp only [aaX];cases kL h z (s.ev e) <;> rfl
attribute [simp] ab5
@[simp] theorem atf {α β γ:Type} (x:Option α) (g:α->β) (f:β->Option γ):ob (Option.map g x) f=ob x λa=>f (g a):=by cases x <;> rfl
section
variable (h:aG) (nid zl bytes:Nat) (xs:List (List AV)) (d:Bool)
@[simp] theorem ajJ:jg h nid zl bytes .bF xs d=if xs.isEmpty=true then some (.bF,[]) else ng nid zl xs.length bytes xs d:=by cases xs <;> rfl
@[simp] theorem anf (z:Nat) (es:List (List AV)) (ex:Bool):jg h nid zl bytes (.ro z es ex) xs d =
 if z=zl then (if xs.isEmpty=true then some (.ro z es ex,[]) else if ex=true then ng nid zl (es.length+xs.length) bytes (es++xs) d else none) else none:=by cases xs <;> rfl
@[simp] theorem aaI (b z i len cap:Nat) (ex:Bool):jg h nid zl bytes (.sl b z i len cap ex) xs d =
 if z=zl then (if xs.isEmpty=true then some (.sl b z i len cap ex,[]) else Oz (Pav.get h b) nid zl bytes b i len cap ex xs d (len+xs.length)) else none:=by cases xs <;> rfl
end
def zn (h:aG) (n z i len cap:Nat) (ex:Bool):Option fC->Option AV
 | some (.cells _ es _ true)=>og (decide (((es.drop i).take len).length=len)) (some (.ro z ((es.drop i).take len) (ex&&decide (cap=len))))
 | some (.cells _ es _ false)=>ob (aZ (aZ (bK h n)) ((es.drop i).take len)) λes'=>og (decide (es'.length=len)&&es'.all λe=>e.all isC) (some (.ro z es' (ex&&decide (cap=len))))
 | _=>none
def amO (h:aG) (n i o:Nat):Option fC->Option AV
 | some (.cells _ es _ true)=>ob es[i]? λcs=>some (.rop (cs.drop o))
 | some (.cells _ es _ false)=>ob es[i]? λcs=>ob (aZ (bK h n) (cs.drop o)) λcs'=>some (.rop cs')
 | _=>none
def V7 (h:aG) (n i o:Nat):Option fC->List Nat
 | some (.cells _ es _ false)=>((es[i]?.getD []).drop o).flatMap (aK h n)
 | _=>[]
def WH (h:aG) (n i len:Nat):Option fC->List Nat
 | some (.cells _ es _ false)=>((es.drop i).take len).flatMap λe=>e.flatMap (aK h n)
 | _=>[]
section
variable (h:aG) (n:Nat)
@[simp] theorem am3 (b:Bool):bK h (n+1) (.bool b)=some (.bool b):=rfl
@[simp] theorem anx (k:IntKind) (x:Int):bK h (n+1) (.int k x)=some (.int k x):=rfl
@[simp] theorem anF (s:List UInt8):bK h (n+1) (.str s)=some (.str s):=rfl
@[simp] theorem am5:bK h (n+1) .eH=some .eH:=rfl
@[simp] theorem am1:bK h (n+1) .bF=some .bF:=rfl
@[simp] theorem ane:bK h (n+1) .dU=some .dU:=rfl
@[simp] theorem anj:bK h (n+1) .bQ=some .bQ:=rfl
@[simp] theorem aqK (z:Nat) (es:List (List AV)) (ex:Bool):bK h (n+1) (.ro z es ex)=some (.ro z es ex):=rfl
@[simp] theorem aob (cs:List AV):bK h (n+1) (.rop cs)=some (.rop cs):=rfl
@[simp] theorem apq (f:Nat) (cs:List AV):bK h (n+1) (.fn f cs)=fnO f (aZ (bK h n) cs):=by simp only [bK];cases aZ (bK h n) cs <;> rfl
@[simp] theorem aoC (cs:List AV):bK h (n+1) (.agg cs)=alP (aZ (bK h n) cs):=by simp only [bK];cases aZ (bK h n) cs <;> rfl
@[simp] theorem ao8 (cs:List AV):bK h (n+1) (.tup cs)=akI (aZ (bK h n) cs):=by simp only [bK];cases aZ (bK h n) cs <;> rfl
@[simp] theorem fZ (b z i len cap:Nat) (ex:Bool):bK h (n+2) (.sl b z i len cap ex)=zn h (n+1) z i len cap ex (Pav.get h b):=by
 simp only [bK,zn];split
 ·rename_i hg;rw [hg];rename_i dt;cases dt <;> rfl
 ·rename_i hg;split
  ·rename_i h1;exact absurd h1 (hg _ _ _ _)
  ·rename_i h1;exact absurd h1 (hg _ _ _ _)
  ·rfl
@[simp] theorem ant (b i o:Nat):bK h (n+2) (.ptr b i o)=amO h (n+1) i o (Pav.get h b):=by
 simp only [bK,amO];split
 ·rename_i hg;rw [hg];rename_i es _ dt;cases dt
  ·simp only [qjz,qWz];cases es[i]? with
   | none=>rfl
   | some cs=>simp only [ob];cases aZ (bK h (n+1)) (cs.drop o) <;> rfl
  ·rfl
 ·rename_i hg;split
  ·rename_i h1;exact absurd h1 (hg _ _ _ _)
  ·rename_i h1;exact absurd h1 (hg _ _ _ _)
  ·rfl
@[simp] theorem akF (b i o:Nat):aK h (n+1) (.ptr b i o)=b::V7 h n i o (Pav.get h b):=by
 simp only [aK,V7];congr 1;split
 ·rename_i hg;rw [hg];rename_i dt;cases dt <;> rfl
 ·rename_i hg;split
  ·rename_i h1;exact absurd h1 (hg _ _ _ _)
  ·rfl
@[simp] theorem ajV (b:Bool):aK h (n+1) (.bool b)=[]:=rfl
@[simp] theorem ak7 (k:IntKind) (x:Int):aK h (n+1) (.int k x)=[]:=rfl
@[simp] theorem akS (s:List UInt8):aK h (n+1) (.str s)=[]:=rfl
@[simp] theorem ajZ:aK h (n+1) .eH=[]:=rfl
@[simp] theorem ajk:aK h (n+1) .bF=[]:=rfl
@[simp] theorem ajI:aK h (n+1) .dU=[]:=rfl
@[simp] theorem ajG:aK h (n+1) .bQ=[]:=rfl
@[simp] theorem anm (z:Nat) (es:List (List AV)) (ex:Bool):aK h (n+1) (.ro z es ex)=[]:=rfl
@[simp] theorem alA (cs:List AV):aK h (n+1) (.rop cs)=[]:=rfl
@[simp] theorem anh (f:Nat) (cs:List AV):aK h (n+1) (.fn f cs)=cs.flatMap (aK h n):=rfl
@[simp] theorem alv (cs:List AV):aK h (n+1) (.agg cs)=cs.flatMap (aK h n):=rfl
@[simp] theorem amV (cs:List AV):aK h (n+1) (.tup cs)=cs.flatMap (aK h n):=rfl
@[simp] theorem am4 (b z i len cap:Nat) (ex:Bool):aK h (n+1) (.sl b z i len cap ex)=b::WH h n i len (Pav.get h b):=by
 simp only [aK,WH];congr 1;split
 ·rename_i hg;rw [hg];rename_i dt;cases dt <;> rfl
 ·rename_i hg;split
  ·rename_i h1;exact absurd h1 (hg _ _ _ _)
  ·rfl
@[simp] theorem ain (b:Bool):dG (n+1) (.bool b)=false:=rfl
@[simp] theorem ajo (k:IntKind) (x:Int):dG (n+1) (.int k x)=false:=rfl
@[simp] theorem ajY (s:List UInt8):dG (n+1) (.str s)=false:=rfl
@[simp] theorem ah4:dG (n+1) .eH=false:=rfl
@[simp] theorem af0:dG (n+1) .bF=false:=rfl
@[simp] theorem agi:dG (n+1) .dU=false:=rfl
@[simp] theorem afZ:dG (n+1) .bQ=false:=rfl
@[simp] theorem akf (z:Nat) (es:List (List AV)) (ex:Bool):dG (n+1) (.ro z es ex)=true:=rfl
@[simp] theorem ajD (cs:List AV):dG (n+1) (.rop cs)=true:=rfl
@[simp] theorem akw (f:Nat) (cs:List AV):dG (n+1) (.fn f cs)=cs.any (dG n):=rfl
@[simp] theorem ajz (cs:List AV):dG (n+1) (.agg cs)=cs.any (dG n):=rfl
@[simp] theorem aj0 (cs:List AV):dG (n+1) (.tup cs)=cs.any (dG n):=rfl
end
def imax (a b:Int):Int:=if b > a then b else a
def vH (a b:Int):Int:=if b < a then b else a
theorem Qr {a b:Int} (h:b<=a):imax a b=a:=by unfold imax;rw [qwq qqq]
theorem afc {a b:Int} (h:a<=b):imax a b=b:=by unfold imax;split <;> omega
def mxV:AV->AV->Option (AV × Upd)
 | .int k a,.int k' b=>if k=k' then some (.int k (imax a b),[]) else none
 | _,_=>none
def mnV:AV->AV->Option (AV × Upd)
 | .int k a,.int k' b=>if k=k' then some (.int k (vH a b),[]) else none
 | _,_=>none
@[simp] theorem au2 (x y:Opd) (e:Env) (h:Heap) (n:Nat):sMx x y e h n=mxV (x.ev e) (y.ev e):=rfl
@[simp] theorem asO (x y:Opd) (e:Env) (h:Heap) (n:Nat):sMn x y e h n=mnV (x.ev e) (y.ev e):=rfl
attribute [simp] mxV mnV
@[simp] theorem akp (base:Nat) (cn:Bool) (lv:List Nat) (s:WSt):rE base ⟨cn,lv,[]⟩ s=canon base ⟨cn,lv,[]⟩ s:=rfl
@[simp] theorem ajy (base:Nat) (cn:Bool) (lv:List Nat) (p:Nat × Nat) (r:List (Nat × Nat)) (s:WSt):rE base ⟨cn,lv,p::r⟩ s=ob (mP (Jd (p::r)) s) (canon base ⟨cn,lv,p::r⟩):=rfl
attribute [simp] Jd mP IE
attribute [simp] List.getElem?_cons_zero zn WH amO V7
attribute [simp] stepW VY akA VP NH kZ adT BJ yL qO Qk vU IL splice WB aff Xw Nc found ahy VO Vt X3 DY alq rC MP kL ng Oz
 Oy qR agQ DR VZ sMv ES Eo qB mW adD yY D7 D6 Am su JD iK eqFn KI KT KU iH Dv XU kT iO sUn Tm Tn S9 RX TI Bj Ef iq Gl Ak Je jZ ig mZ kC wz bound oev
 O1 EP ED uo EH tu qF Ey Rz sCap y7 AV.cells AV.cell isC isD Pav.get Pav.put eG ql bU FU del readsOf eP canon XL UY lN BP KJ Jf Yi sU iy place close
 GH sO refs CJ ND aY pF bY bV IW IG fQ aO Ia ay Ed dD mQ kN DT aem WU meets Vy
def rep {α:Type} (n:Nat) (a:α):List α:=List.replicate n a
section
variable {α β:Type} (n:Nat) (a:α)
@[simp] theorem alu:(rep n a).length=n:=quz
@[simp] theorem aqW (f:α->β):List.map f (rep n a)=rep n (f a):=List.map_replicate
@[simp] theorem aqw (p:α->Bool):(rep (n+1) a).all p=p a:=by unfold rep;rw [List.all_replicate];simp
theorem aiu {i:Nat} (h:i < n):(rep n a)[i]?=some a:=by unfold rep;rw [qmq,qwz h]
@[simp] theorem aj2 {i:Nat} (h:i < (rep n a).length):(rep n a)[i]=a:=by unfold rep;exact List.getElem_replicate _
@[simp] theorem afh:List.take n (rep n a)=rep n a:=qzz qqz
@[simp] theorem anY (n:Nat):(rep (n+1) a).isEmpty=false:=rfl
end
end Go.Pw
end
section
set_option linter.unusedSimpArgs false
set_option linter.unusedVariables false
namespace Go.Pw
open Go Go.Pav
inductive ZO where
 | p (d:Option (Option Nat)) (g:Option (Nat × Bool)) (x:COp)
def zt:List Nat->List Opd
 | []=>[]
 | a::r=>.t a::zt r
namespace Z
def y (s:Nat):ZO->ZO
 | .p d _ x=>.p d (some (s,true)) x
def z (s:Nat):ZO->ZO
 | .p d _ x=>.p d (some (s,false)) x
def d (k:Nat):ZO->ZO
 | .p _ g x=>.p (some (some k)) g x
def n:ZO->ZO
 | .p _ g x=>.p (some none) g x
def m (a:Nat):ZO:=.p none none (.mv (.t a))
def i (k:Int):ZO:=.p none none (.mv (.c (.int .i64 k)))
def l (k a:Nat):ZO:=.p none none (.load k false (.t a))
def h (k a:Nat):ZO:=.p none none (.load k true (.t a))
def f (o a:Nat):ZO:=.p none none (.fld o (.t a))
def po (a b:Nat):ZO:=.p none none (.pick (.t a) (.c (.bool true)) (.t b))
def pa (a b:Nat):ZO:=.p none none (.pick (.t a) (.t b) (.c (.bool false)))
def ln (k a:Nat):ZO:=.p none none (.len k (.t a))
def ix (k a b:Nat):ZO:=.p none none (.idxs k (.t a) (.t b))
def ex (k a:Nat):ZO:=.p none none (.ext k (.t a))
def nk (a:Nat):ZO:=.p none none (.jQ (.t a))
def bx (a:Nat):ZO:=.p none none (.box (.t a))
def nt (a:Nat):ZO:=.p none none (.un .not (.t a))
def st (k a b:Nat):ZO:=.p none none (.store k (.t a) (.t b))
def E (x:COp):ZO:=.p none none x
def tt:ZO:=.p none none (.mv (.c (.bool true)))
def ff:ZO:=.p none none (.mv (.c (.bool false)))
def ca (g:Nat) (q:List Nat):ZO:=.p none none (.call g (zt q))
def eq (a b:Nat):ZO:=.p none none (.bin .eql (.t a) (.t b))
def eqi (a:Nat) (k:Int):ZO:=.p none none (.bin .eql (.t a) (.c (.int .i64 k)))
def ne (a b:Nat):ZO:=.p none none (.bin .neq (.t a) (.t b))
def nei (a:Nat) (k:Int):ZO:=.p none none (.bin .neq (.t a) (.c (.int .i64 k)))
def lt (a b:Nat):ZO:=.p none none (.bin .lss (.t a) (.t b))
def lti (a:Nat) (k:Int):ZO:=.p none none (.bin .lss (.t a) (.c (.int .i64 k)))
def le (a b:Nat):ZO:=.p none none (.bin .leq (.t a) (.t b))
def lei (a:Nat) (k:Int):ZO:=.p none none (.bin .leq (.t a) (.c (.int .i64 k)))
def gt (a b:Nat):ZO:=.p none none (.bin .gtr (.t a) (.t b))
def gti (a:Nat) (k:Int):ZO:=.p none none (.bin .gtr (.t a) (.c (.int .i64 k)))
def ge (a b:Nat):ZO:=.p none none (.bin .geq (.t a) (.t b))
def gei (a:Nat) (k:Int):ZO:=.p none none (.bin .geq (.t a) (.c (.int .i64 k)))
def ad (a b:Nat):ZO:=.p none none (.bin .add (.t a) (.t b))
def adi (a:Nat) (k:Int):ZO:=.p none none (.bin .add (.t a) (.c (.int .i64 k)))
def sb (a b:Nat):ZO:=.p none none (.bin .sub (.t a) (.t b))
def sbi (a:Nat) (k:Int):ZO:=.p none none (.bin .sub (.t a) (.c (.int .i64 k)))
end Z
def zo:Nat->List ZO->List bg
 | _,[]=>[]
 | k,.p none g x::r=>⟨some k,g,x⟩::zo (k+1) r
 | k,.p (some j) g x::r=>⟨j,g,x⟩::zo k r
inductive ZC where
 | O (k:Nat) (l:List ZO)
 | Q (k:Nat) (l:List ZO) (s:List Nat)
 | R (k:Nat) (l:List ZO) (a:Ann)
 | U (k:Nat) (l:List ZO) (u:List (Nat × Nat)) (s:List Nat)
 | V (k:Nat) (l:List ZO) (u:List (Nat × Nat)) (a:Ann)
 | s (a b:ZC)
 | r (a:ZC)
 | c (t:Nat) (a:ZC)
 | cc (t:Nat) (a b:ZC)
 | cd (x:Opd) (a b:ZC)
 | B (j:Nat) (a:ZC)
 | bk (j:Nat) (a:ZC) (x:Ann)
 | lp (x:Ann) (a:ZC)
 | ee (j:Nat)
 | w (x:aA)
instance:Coe aA ZC:=⟨.w⟩
def zc:ZC->aA
 | .O k l=>.ops (zo k l) ⟨false,[],[]⟩
 | .Q k l s=>.ops (zo k l) ⟨true,s,[]⟩
 | .R k l a=>.ops (zo k l) a
 | .U k l u s=>.draw (zo k l) u ⟨true,s,[]⟩
 | .V k l u a=>.draw (zo k l) u a
 | .s a b=>.seq (zc a) (zc b)
 | .r a=>.seq (zc a) .ret
 | .c t a=>.cond (.t t) (zc a) .skip
 | .cc t a b=>.cond (.t t) (zc a) (zc b)
 | .cd x a b=>.cond x (zc a) (zc b)
 | .B j a=>.block j (zc a) ⟨false,[],[]⟩
 | .bk j a x=>.block j (zc a) x
 | .lp x a=>.loop x (zc a)
 | .ee j=>.exit j
 | .w x=>x
abbrev T (a:Nat):Opd:=.t a
abbrev N (n:Int):Opd:=.c (.int .i64 n)
abbrev zd (x:ZC) {y:aA} (_h:zc x=y:=by dsimp only [zc,zo,zt,T,N,Z.y,Z.z,Z.d,Z.n,Z.m,Z.i,Z.l,Z.h,Z.f,Z.po,Z.pa,Z.ln,Z.ix,Z.ex,Z.nk,Z.bx,Z.nt,Z.st,Z.E,Z.tt,Z.ff,Z.ca,Z.eq,Z.eqi,Z.ne,Z.nei,Z.lt,Z.lti,Z.le,Z.lei,Z.gt,Z.gti,Z.ge,Z.gei,Z.ad,Z.adi,Z.sb,Z.sbi]):aA:=y
abbrev ZL (L B:aA) (a:Ann):Prop:=∀ {β:Type} {C:aH} {b:Nat} {f:Ex × WSt->Option β} {k:List Pw.Frame} {s:WSt},CK C b f k L s=LK C b f (.sq L::k) B (canon b a s)
end Go.Pw
end
