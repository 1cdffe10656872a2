/- Part of the theory that the claims of this work use: E01, E02, E03, E04, E06, E08, G01, D30, D31, D38, PwNest, V596, I01, I02, N01, N02, N03, N04, N05, N06, N07, N08, N09, D41, D42, D33, N10, N11, N12, M02. No conditions of its own. -/
import Derived.Test.YtlkfpgggbjlfgaaGreatT6
set_option linter.unusedVariables false
set_option linter.unusedSimpArgs false
set_option maxHeartbeats 4000000
set_option maxRecDepth 10000
section
namespace Go.D
open Go Go.Pav Go.Pw P
def sm:List En->Int
 | []=>0
 | e::r=>e.s+sm r
def top (l:List En) (i:Nat):Int:=sm (l.take i)
theorem abw (l:List En):top l 0=0:=rfl
theorem aei:∀ (a b:List En),sm (a++b)=sm a+sm b
 | [],b=>by simp [sm]
 | e::r,b=>by simp only [qfz,sm];rw [aei r b];omega
theorem abL {l:List En} {i:Nat} (h:i < l.length):top l (i+1)=top l i+l[i].s:=by unfold top;rw [q0q,qqj h,aei];simp [sm]
theorem N8 (l:List En):top l l.length=sm l:=by unfold top;rw [List.take_length]
theorem amT {l:List En} {i:Nat} (h:l.length<=i):top l i=sm l:=by unfold top;rw [qzz h]
structure Szd (l:List En):Prop where
 n:l.length<=1024
 s:∀ x ∈ l,1<=x.s/\x.s<=2305843009213693952
 t:sm l<=4611686018427387904
theorem ado:∀ (l:List En),(∀ x ∈ l,1<=x.s)->0<=sm l
 | [],_=>by simp [sm]
 | e::r,h=>by have h1:=h e qqz;have h2:=ado r λx hx=>h x (by simp [hx]);rw [sm];omega
theorem Ye:∀ (l:List En) (s:Int),(∀ x ∈ l,1<=x.s)->s<=4611686018427387904 ->
 (s+sm l<=4611686018427387904/\qj s l=s+sm l)\/(4611686018427387904 < s+sm l/\qj s l=4611686018427387905)
 | [],s,_,h=>by left;simp [sm,qj,h]
 | e::r,s,hs,h=>by
  have h1:=hs e qqz;have h2:=ado r λx hx=>hs x (by simp [hx]);have h3:imax e.s 0=e.s:=Qr qqq;rw [qj,sm,h3];by_cases c:4611686018427387904 - s < e.s
  ·right;rw [qwz c];omega
  ·rw [qwq c];have:=Ye r (s+e.s) (λx hx=>hs x (by simp [hx])) qqq;rw [<- Int.add_assoc];exact this
theorem Szd.tot {l:List En} (h:Szd l):tot l=sm l:=by
 unfold Go.D.tot;have h2:=h.t;rcases Ye l 0 (λx hx=>(h.s x hx).1) qqq with q | q
 ·omega
 ·omega
theorem Szd.nn {l:List En} (h:Szd l):0<=sm l:=ado l λx hx=>(h.s x hx).1
theorem Szd.lt {l:List En} (h:Szd l) {i:Nat} (hi:i < l.length):top l i+1<=top l (i+1):=by rw [abL hi];have:=(h.s _ (qxx hi)).1;omega
theorem Szd.mono {l:List En} (h:Szd l) {i:Nat}:∀ {j:Nat},i<=j->j<=l.length->top l i+((j:Int) - i)<=top l j:=by
 intro j hij;induction j with
 | zero =>
  intro _;have:i=0:=by omega
  subst this;simp
 | succ j ih =>
  intro hj;by_cases c:i=j+1
  ·subst c;omega
  ·have h1:=ih qqq qqq;have h2:=h.lt (i:=j) qqq;omega
theorem Szd.rng {l:List En} (h:Szd l) (i:Nat):0<=top l i/\top l i<=sm l:=by
 by_cases c:i<=l.length
 ·have h1:=h.mono (i:=0) (j:=i) qqq c;have h2:=h.mono (i:=i) (j:=l.length) c qqq;rw [abw] at h1;rw [N8] at h2;omega
 ·rw [amT qqq];have:=h.nn;omega
theorem Szd.row {l:List En} (h:Szd l) {x:Int} (h0:0<=x) (h1:x < sm l):∃ p,p < l.length/\top l p<=x/\x < top l (p+1):=by
 have key:∀ n,n<=l.length->top l n<=x\/∃ p,p < n/\top l p<=x/\x < top l (p+1):=by
  intro n;induction n with
  | zero=>intro _;left;rw [abw];exact h0
  | succ n ih =>
   intro hn;rcases ih qqq with q | ⟨p,q1,q2⟩
   ·by_cases c:top l (n+1)<=x
    ·exact .inl c
    ·exact .inr ⟨n,by omega,q,by omega⟩
   ·exact .inr ⟨p,by omega,q2⟩
 rcases key l.length qqq with q | ⟨p,q⟩
 ·rw [N8] at q;omega
 ·exact ⟨p,q⟩
def ajC (l:List En) (v:Int):Int:=if sm l < v then 0 else sm l - v
structure Vp (l:List En) (o v:Int):Prop extends Szd l where
 v0:1<=v/\v<=2147483648
 s0:0<=o/\o<=ajC l v
theorem Vp.ends {l:List En} {s v:Int} (h:Vp l s v) (hl:0 < l.length):∃ p q:Nat,p < l.length/\q < l.length/\p<=q/\(top l p<=s/\s < top l (p+1))/\(top l q<=vH (s+v) (sm l) - 1/\vH (s+v) (sm l) - 1 < top l (q+1)):=by
 have h1:=h.v0;have h2:=h.s0;have h3:1<=sm l:=by have:=h.mono (i:=0) (j:=l.length) qqq qqq;rw [abw,N8] at this;omega
 have h4:s < sm l:=by unfold ajC at h2;split at h2 <;> omega
 have h5:s+1<=vH (s+v) (sm l)/\vH (s+v) (sm l)<=sm l:=by unfold vH;split <;> omega
 obtain ⟨p,p1,p2,p3⟩:=h.row h2.1 h4;obtain ⟨q,q1,q2,q3⟩:=h.row (x:=vH (s+v) (sm l) - 1) qqq qqq;refine ⟨p,q,p1,q1,?_,⟨p2,p3⟩,q2,q3⟩;by_cases c:p<=q
 ·exact c
 ·have:=h.mono (i:=q+1) (j:=p) qqq qqq;omega
theorem Vp.seen {l:List En} {s v:Int} (h:Vp l s v) {p q:Nat} (hp:p < l.length) (hq:q < l.length) (h1:top l p<=s/\s < top l (p+1)) (h2:top l q<=vH (s+v) (sm l) - 1/\vH (s+v) (sm l) - 1 < top l (q+1)) {i:Nat} (hi:i < l.length) :
 (top l i < s+v/\s < top l (i+1))↔(p<=i/\i<=q):=by
 have e1:vH (s+v) (sm l)<=s+v:=by unfold vH;split <;> omega
 have hm:=h.rng (i+1);have hlt:=h.lt hi;constructor
 ·rintro ⟨a,b⟩;constructor
  ·by_cases c:p<=i
   ·exact c
   ·have:=h.mono (i:=i+1) (j:=p) qqq qqq;omega
  ·by_cases c:i<=q
   ·exact c
   ·have:=h.mono (i:=q+1) (j:=i) qqq qqq;have e2:s+v<=top l i:=by unfold vH at h2;split at h2 <;> omega
    omega
 ·rintro ⟨a,b⟩;have m1:=h.mono (i:=i) (j:=q) b qqq;have m2:=h.mono (i:=p+1) (j:=i+1) qqq qqq;omega
end Go.D
end
section
namespace Go.D
open Go Go.Pav Go.Pw P
attribute [-simp] List.getElem_cons_drop
variable {C:aH}
def ajj (v least over:Int):Prop:=v < 1\/2147483648 < v\/least < 1\/2305843009213693952 < least\/over < 0\/16 < over
instance (v least over:Int):Decidable (ajj v least over):=by unfold ajj;infer_instance
end Go.D
end
section
namespace Go.Proofs.YtlkfpgggbjlfgaaGreat
open Go.ChangeShapes Go.WideShapes Go.ChangeAt Go.RowKit Go.Pav Go.Pw P Go.D
theorem asU:vJ prog:={ amH:=rfl,ak5:=rfl,ama:=rfl,alk:=rfl,akn:=rfl,al1:=rfl,afH:=rfl,ahL:=rfl,alE:=rfl,amn:=rfl,ak9:=rfl,akj:=rfl,amk:=rfl,inl:=rfl,pp:=rfl,akK:=rfl,alX:=rfl,amC:=rfl,amP:=rfl,amY:=rfl,f282:=rfl,f140:=rfl,ald:=rfl,amm:=rfl,akk:=rfl,alF:=rfl,aml:=rfl,alL:=rfl,akg:=rfl,akQ:=rfl,amZ:=rfl,f231:=rfl,alr:=rfl,aed:=rfl,alD:=rfl,akr:=rfl,amh:=rfl,alB:=rfl,alh:=rfl,akT:=rfl,aij:=rfl,amW:=rfl,alJ:=rfl,aky:=rfl,alY:=rfl,al0:=rfl,alm:=rfl,akm:=rfl,ak8:=rfl,agp:=rfl,akO:=rfl,ak2:=rfl,al5:=rfl,alM:=rfl,akG:=rfl,ae2:=rfl,akX:=rfl,amR:=rfl,alz:=rfl,al9:=rfl,amr:=rfl,akE:=rfl,aln:=rfl,f225:=rfl,f111:=rfl,f227:=rfl,amb:=rfl,aeS:=rfl,f340:=rfl,f226:=rfl,f221:=rfl,akZ:=rfl,f219:=rfl,al8:=rfl,alN:=rfl,f239:=rfl,alx:=rfl,f240:=rfl,amM:=rfl,f172:=rfl,f112:=rfl,amw:=rfl,ak3:=rfl,f230:=rfl,al7:=rfl,f232:=rfl,f115:=rfl,f271:=rfl,f223:=rfl,ala:=rfl,f216:=rfl,f222:=rfl,al3:=rfl,f228:=rfl,f229:=rfl,f110:=rfl,f237:=rfl,f114:=rfl,f241:=rfl,f242:=rfl,alg:=rfl,f270:=rfl,f126:=rfl,f130:=rfl }
theorem agB {a:AV} (h:Ty (.slice [.int .u8,.int .u8,.int .u8,.int .u8]) a):∃ (xs:List Q4) (e:Bool),a=.ro 4 (xs.map eQ) e/\∀ s ∈ xs,QIn s:=by
 obtain ⟨es,e,rfl,_,hx⟩:=Ip h;obtain ⟨xs,rfl,hr⟩:=Nv (g:=eQ) (R:=QIn) (λl q=>by
  obtain ⟨q1,q2⟩:=q;match l,q1 with
  | [u,v,w,x],_ =>obtain ⟨n1,rfl,h1⟩:=wo (q2 0 _ u rfl rfl);obtain ⟨n2,rfl,h2⟩:=wo (q2 1 _ v rfl rfl);obtain ⟨n3,rfl,h3⟩:=wo (q2 2 _ w rfl rfl);obtain ⟨n4,rfl,h4⟩:=wo (q2 3 _ x rfl rfl);exact ⟨⟨n1,n2,n3,n4⟩,rfl,h1,h2,h3,h4⟩) es hx
 exact ⟨xs,e,rfl,hr⟩
theorem ZH {a:AV} (h:Ty (.slice [.int .u8]) a):∃ (xs:List Int) (e:Bool),a=.ro 1 (xs.map eU8) e/\(∀ x ∈ xs,0<=x/\x<=255)/\xs.length < 9223372036854775808:=by
 obtain ⟨es,e,rfl,hl,hx⟩:=Ip h;obtain ⟨xs,rfl,hr⟩:=Nv (g:=eU8) (R:=λx:Int=>0<=x/\x<=255) (λl q=>by
  obtain ⟨q1,q2⟩:=q;match l,q1 with
  | [v],_ =>obtain ⟨n,rfl,h1⟩:=wo (q2 0 _ v rfl rfl);exact ⟨n,rfl,h1⟩) es hx
 exact ⟨xs,e,rfl,hr,by simpa using hl⟩
end Go.Proofs.YtlkfpgggbjlfgaaGreat
end
section
namespace Go.D
open Go Go.Pav Go.Pw P
attribute [-simp] List.getElem_cons_drop
variable {C:aH}
theorem um {α:Type} {Q:α->Prop} {l x:List α} (a c:Nat) (hl:∀ y ∈ l,Q y) (hx:∀ y ∈ x,Q y):∀ y ∈ spl l a c x,Q y:=λy q=>by
 simp only [spl,qjj] at q;rcases q with (q | q) | q
 ·exact hl y (qZz q)
 ·exact hx y q
 ·exact hl y (qQz q)
theorem dQ.ow {e:En} (h:dQ e):dQ e.own:=⟨⟨h.i.k,h.i.t,h.i.m⟩,h.s⟩
theorem ahs (H:ET C) (ks:List Kd) (ke:Bool) (cap:Int) (hr:jF ks) (l:List En) (e:Bool) (hl:l.length<=1000000) (hs:∀ x ∈ l,dQ x) (ins:Bool) (a c t:Int) (hin:ins=true->inR a c l.length=true/\inR t 0 (l.length - c)=true) :
 FnW C 216 [aR ks ke cap,aL l e,.agg [.bool ins,.int .i64 0,.ro 4 [] true,.bQ,.fn 409 [.rop [.ro 6 (l.map eEn) e],.rop [.int .i64 a],.rop [.int .i64 c],.rop [.int .i64 t]]]] =
  some (if ckE ks cap l≠0 then dh (ckE ks cap l) else if ins=false then dh 4 else iE (spl (spl l a.toNat c.toNat []) t.toNat 0 ((l.take (a.toNat+c.toNat)).drop a.toNat))):=by
 have hc:=iY H.tozD ks ke cap hr l e hl hs;rw [aF H.f216 rfl];unfold dh;by_cases c1:ckE ks cap l=0
 ·rw [qwq (by simpa using c1)];rw [c1] at hc;cases ins
  ·simp [rD,hc,H.inl,ak,H.pp,ppB]
  ·rw [qwq qqz];have hq:=hin rfl;unfold inR at hq;simp at hq;obtain ⟨a',rfl⟩:∃ a':Nat,a=a':=⟨a.toNat,by omega⟩;obtain ⟨c',rfl⟩:∃ c':Nat,c=c':=⟨c.toNat,by omega⟩;obtain ⟨t',rfl⟩:∃ t':Nat,t=t':=⟨t.toNat,by omega⟩;have hac:a'+c'<=l.length:=by omega
   have ht':t'<=l.length - c':=by omega
   have hf:=o8 H.tozD ks ke cap [] true qqz qqz;have hm:=abY H (.ro 6 [] true) ⟨_,_,rfl⟩ l e a' c' t' hl hac ht';simp only [qWj];have hm2:∀ x ∈ spl (spl l a' c' []) t' 0 ((l.take (a'+c')).drop a'),dQ x :=um _ _ (um _ _ hs qqz) λy q=>hs y (qZz (qQz q));have hlen:=tY l [] a' c' hac;have hlen2:(spl (spl l a' c' []) t' 0 ((l.take (a'+c')).drop a')).length<=1000000:=by rw [tY _ _ _ _ (by rw [hlen];simp;omega),hlen];simp;omega
   generalize spl (spl l a' c' []) t' 0 ((l.take (a'+c')).drop a')=R at *;have ho:=II H.tojR R true hlen2 (λx q=>(hm2 x q).i.m);have ht:=sG H.tojR (R.map En.own) true (by simpa using hlen2) (λx q=>by obtain ⟨y,hy,rfl⟩:=qyq.1 q;exact (hm2 y hy).ow);unfold iE dh;generalize R.map En.own=R' at *;simp only [qax] at hf;by_cases c2:ovE R'=0
   ·rw [c2] at ht;simp [rD,aj dO.eq_1,aj jo.eq_1,hc,hf,hm,ho,ht,c2,H.inl,ak,H.pp,ppB]
   ·simp [rD,aj dO.eq_1,aj jo.eq_1,hc,hf,hm,ho,ht,c2,H.inl,ak,H.pp,ppB]
 ·rw [qwz c1];simp [rD,hc,c1,H.inl,ak,H.pp,ppB]
theorem LD (H:ET C) (ks:List Kd) (ke:Bool) (cap:Int) (hr:jF ks) (l:List En) (e:Bool) (hl:l.length<=1000000) (hs:∀ x ∈ l,dQ x) (a c:Int) :
 FnW C 110 [aR ks ke cap,aL l e,.int .i64 a,.int .i64 c] =
  some (if ckE ks cap l≠0 then dh (ckE ks cap l) else if inR a c l.length=false then dh 4 else iE (spl l a.toNat c.toNat [])):=by
 have h:=Z4 H ks ke cap hr l e hl hs (inR a c l.length) a c id;have hw:=rQ H.tojR a c l.length qqq;rw [aF H.f110 rfl];generalize inR a c l.length=ins at *;have hR:∃ R n,(if ckE ks cap l≠0 then dh (ckE ks cap l) else if ins=false then dh 4 else iE (spl l a.toNat c.toNat []))=.tup [.agg [.ro 6 R true],.int .i64 n]:=by
  unfold iE dh;split
  ·exact ⟨_,_,rfl⟩
  ·split
   ·exact ⟨_,_,rfl⟩
   ·split <;> exact ⟨_,_,rfl⟩
 obtain ⟨R,n,hR⟩:=hR;rw [hR] at h |-;simp [aiN,hw,h,H.inl,ak,H.pp,ppB]
theorem afW (H:ET C) (ks:List Kd) (ke:Bool) (cap:Int) (hr:jF ks) (l:List En) (e:Bool) (hl:l.length<=1000000) (hs:∀ x ∈ l,dQ x) (a c t:Int) :
 FnW C 237 [aR ks ke cap,aL l e,.int .i64 a,.int .i64 c,.int .i64 t] =
  some (if ckE ks cap l≠0 then dh (ckE ks cap l) else if (inR a c l.length&&inR t 0 (l.length - c))=false then dh 4 else iE (spl (spl l a.toNat c.toNat []) t.toNat 0 ((l.take (a.toNat+c.toNat)).drop a.toNat))):=by
 have h:=ahs H ks ke cap hr l e hl hs (inR a c l.length&&inR t 0 (l.length - c)) a c t qqz;have hw:=rQ H.tojR a c l.length qqq;rw [aF H.f237 rfl];have hR:∀ ins,∃ R n,(if ckE ks cap l≠0 then dh (ckE ks cap l) else if ins=false then dh 4 else iE (spl (spl l a.toNat c.toNat []) t.toNat 0 ((l.take (a.toNat+c.toNat)).drop a.toNat)))=.tup [.agg [.ro 6 R true],.int .i64 n]:=by
  intro ins;unfold iE dh;split
  ·exact ⟨_,_,rfl⟩
  ·split
   ·exact ⟨_,_,rfl⟩
   ·split <;> exact ⟨_,_,rfl⟩
 obtain ⟨R,n,hR⟩:=hR (inR a c l.length&&inR t 0 (l.length - c));rw [hR] at h |-;cases c1:inR a c l.length
 ·rw [c1] at hw h;simp at h;simp (disch:=omega) [abW,aC,hw,h,H.inl,ak,H.pp,ppB]
 ·have hq:=c1;unfold inR at hq;simp at hq;have hw2:=rQ H.tojR t 0 (l.length - c) qqq;rw [c1] at hw h;rw [qYj] at h;generalize inR t 0 (l.length - c)=ins at *;simp (disch:=omega) [abW,aC,hw,hw2,h,H.inl,ak,H.pp,ppB]
def keyAt (l:List En) (j:Nat):Int:=((l[j]?).map λe=>e.i.k).getD 0
def eY (ks:List Kd) (cap:Int) (l:List En):Nat->List It->Int
 | _,[]=>0
 | j,x::r=>if fM ks.length x=false then 6 else if keyAt l j≠x.k then 9 else if gJ (bW ks x.t).p x cap≠0 then gJ (bW ks x.t).p x cap else eY ks cap l (j+1) r
theorem WA (H:ET C) (ks:List Kd) (ke:Bool) (cap:Int) (hr:jF ks) (l:List En) (e:Bool) (hl:l.length<=1000000) (hs:∀ x ∈ l,dQ x) (a:Nat) (x:List It) (xe:Bool) (hx:∀ y ∈ x,iU y) (hxl:a+x.length<=l.length)
 (hb:∀ y ∈ x,fM ks.length y=true->-9223372036854775808<=(bW ks y.t).b/\(bW ks y.t).b<=9223372036854775807):∀ n i,n+i=x.length->(∀ y ∈ x.take i,fM ks.length y=true) ->
 uY C ⟨[(34,.int .i64 i),(33,.int .i64 x.length),(32,.ro 4 (x.map cIt) xe),(6,.ptr 0 0 0),(5,.ptr 1 0 0),(3,.ptr 2 0 0)],[(0,.cells 1 [[.ro 6 [] true]] true true),
  (1,.cells 5 [[.bool true,.int .i64 0,.ro 4 (x.map cIt) xe,.fn 228 [.rop [.ro 6 (l.map eEn) e],.rop [.int .i64 a]],.fn 229 [.rop [.ro 6 (l.map eEn) e],.rop [.int .i64 a],.rop [.ro 4 (x.map cIt) xe]]]] true false),(2,.cells 2 [[.ro 9 (ks.map eKd) ke,.int .i64 cap]] true true)],3⟩ =
  some (if eY ks cap l (a+i) (x.drop i)≠0 then dh (eY ks cap l (a+i) (x.drop i)) else iE (spl l a x.length (x.map (fre ks)))):=by
 intro n;induction n with
 | zero =>
  intro i hi hok;have h1:x.drop i=[]:=qwj qqq;have h3:¬ i < x.length:=by omega
  rw [qzz qqq] at hok;have hf:=o8 H.tozD ks ke cap x xe qqq (λy q=>⟨hx y q,nT (hok y q)⟩);have hm:=abp H (x.map (fre ks)) true x xe qqx qqz l e a hl (by simpa using hxl);have hm2:∀ y ∈ spl l a x.length (x.map (fre ks)),dQ y:=um _ _ hs λy q=>by obtain ⟨z,hz,rfl⟩:=qyq.1 q;exact ⟨hx z hz,hb z hz (hok z hz)⟩
  have hlen:=tY l (x.map (fre ks)) a x.length hxl;simp only [qQq] at hm hlen;have hlen2:(spl l a x.length (x.map (fre ks))).length<=1000000:=by rw [hlen];omega
  rw [h1,eY,qwq qqz];generalize spl l a x.length (x.map (fre ks))=R at *;have ho:=II H.tojR R true hlen2 (λx q=>(hm2 x q).i.m);have ht:=sG H.tojR (R.map En.own) true (by simpa using hlen2) (λx q=>by obtain ⟨y,hy,rfl⟩:=qyq.1 q;exact (hm2 y hy).ow);unfold iE dh;generalize R.map En.own=R' at *;generalize x.map (fre ks)=X at *;simp only [uY];rw [aj dO.eq_1];by_cases c2:ovE R'=0
  ·rw [c2] at ht;simp [aj jo.eq_1,h3,hf,hm,ho,ht,c2,H.inl,ak,H.pp,ppB]
  ·simp [aj jo.eq_1,h3,hf,hm,ho,ht,c2,H.inl,ak,H.pp,ppB]
 | succ n ih =>
  intro i hi hok;have h1:i < x.length:=by omega
  have hxi:=hx _ (qxx h1);have hai:a+i < l.length:=by omega
  have hc:=yG H.toTR x[i] ks.length hxi.t;have hk:=aaJ H i x[i] l e a (a+i) rfl hl hai;have hkA:keyAt l (a+i)=l[a+i].i.k:=by unfold keyAt;simp [hai]
  rw [drop_cons h1];have hch:eY ks cap l (a+i) (x[i]::x.drop (i+1))=if fM ks.length x[i]=false then 6 else if l[a+i].i.k≠x[i].k then 9 else if gJ (bW ks x[i].t).p x[i] cap≠0 then gJ (bW ks x[i].t).p x[i] cap else eY ks cap l (a+i+1) (x.drop (i+1)):=by rw [eY,hkA]
  generalize hO:iE (spl l a x.length (x.map (fre ks)))=O at *;unfold dh;cases c1:fM ks.length x[i]
  ·rw [c1] at hc;simp at hc;rw [hch,c1];simp only [uY];rw [aj dO.eq_1];simp (disch:=omega) [h1,hc,H.inl,ak,H.pp,ppB]
  ·rw [c1] at hc;simp at hc;by_cases c2:l[a+i].i.k=x[i].k
   ·rw [qwz c2] at hk;have ht:=nT c1;have hre:=tZ H.tozD ks ke cap x[i] hxi ht hr;simp only [aR,eIt] at hre hc hk;have this:=ih (i+1) qqq (λy q=>by
     rw [qJq h1] at q;rcases qjj.1 q with q | q
     ·exact hok y q
     ·simp at q;rw [q];exact c1)
    rw [<- qgq] at this;unfold dh at this;generalize SC (bW ks x[i].t).p x[i] cap=N at *;generalize gJ (bW ks x[i].t).p x[i] cap=E at *;by_cases c3:E=0
    ·subst c3;have hV:eY ks cap l (a+i) (x[i]::x.drop (i+1))=eY ks cap l (a+i+1) (x.drop (i+1)):=by rw [hch,qwq (by simp [c1]),qwq (by simpa using c2),qwq qqz]
     rw [hV];generalize (if eY ks cap l (a+i+1) (List.drop (i+1) x)≠0 then AV.tup [aL [] true,.int .i64 (eY ks cap l (a+i+1) (List.drop (i+1) x))] else O)=Z at *;simp only [uY] at this |-;rw [aj dO.eq_1];simp at this;simp (disch:=omega) [h1,hc,hk,hre,aC,H.inl,ak,H.pp,ppB,this]
    ·have hV:eY ks cap l (a+i) (x[i]::x.drop (i+1))=E:=by rw [hch,qwq (by simp [c1]),qwq (by simpa using c2),qwz c3]
     rw [hV,qwz c3];simp only [uY];rw [aj dO.eq_1];simp (disch:=omega) [h1,hc,hk,hre,c3,H.inl,ak,H.pp,ppB]
   ·rw [qwq c2] at hk;simp only [eIt] at hc hk;have hV:eY ks cap l (a+i) (x[i]::x.drop (i+1))=9:=by rw [hch,qwq (by simp [c1]),qwz c2]
    rw [hV,qwz qqz];simp only [uY];rw [aj dO.eq_1];simp (disch:=omega) [h1,hc,hk,H.inl,ak,H.pp,ppB]
theorem ZW (H:ET C) (ks:List Kd) (ke:Bool) (cap:Int) (hr:jF ks) (l:List En) (e:Bool) (hl:l.length<=1000000) (hs:∀ x ∈ l,dQ x) (a:Int) (x:List It) (xe:Bool) (hxl:x.length<=1000000) (hx:∀ y ∈ x,iU y)
 (hb:∀ y ∈ x,fM ks.length y=true->-9223372036854775808<=(bW ks y.t).b/\(bW ks y.t).b<=9223372036854775807) :
 FnW C 114 [aR ks ke cap,aL l e,.int .i64 a,.ro 4 (x.map cIt) xe] =
  some (if ckE ks cap l≠0 then dh (ckE ks cap l) else if inR a x.length l.length=false then dh 4 else
   if eY ks cap l a.toNat x≠0 then dh (eY ks cap l a.toNat x) else iE (spl l a.toNat x.length (x.map (fre ks)))):=by
 have hc:=iY H.tozD ks ke cap hr l e hl hs;have hw:=rQ H.tojR a x.length l.length qqq;have key:∀ ins,ins=inR a x.length l.length->FnW C 216 [aR ks ke cap,aL l e,.agg [.bool ins,.int .i64 0,.ro 4 (x.map cIt) xe,.fn 228 [.rop [.ro 6 (l.map eEn) e],.rop [.int .i64 a]],.fn 229 [.rop [.ro 6 (l.map eEn) e],.rop [.int .i64 a],.rop [.ro 4 (x.map cIt) xe]]]] =
  some (if ckE ks cap l≠0 then dh (ckE ks cap l) else if ins=false then dh 4 else
   if eY ks cap l a.toNat x≠0 then dh (eY ks cap l a.toNat x) else iE (spl l a.toNat x.length (x.map (fre ks)))):=by
  intro ins hins;rw [aF H.f216 rfl];by_cases c1:ckE ks cap l=0
  ·rw [qwq (by simpa using c1)];rw [c1] at hc;cases ins
   ·unfold dh;simp [rD,hc,H.inl,ak,H.pp,ppB]
   ·rw [qwq qqz];have hq:=hins.symm;unfold inR at hq;simp at hq;obtain ⟨a',rfl⟩:∃ a':Nat,a=a':=⟨a.toNat,by omega⟩;have h:=WA H ks ke cap hr l e hl hs a' x xe hx qqq hb x.length 0 qqz qqz;rw [qbz,qjq] at h;simp only [qWj];generalize (if eY ks cap l a' x≠0 then dh (eY ks cap l a' x) else iE (spl l a' x.length (x.map (fre ks))))=Z at *;simp only [uY] at h;simp at h;simp [rD,hc,h,H.inl,ak,H.pp,ppB]
  ·rw [qwz c1];unfold dh;simp [rD,hc,c1,H.inl,ak,H.pp,ppB]
 have h:=key _ rfl;rw [aF H.f114 rfl];generalize inR a x.length l.length=ins at *;have hR:∃ R n,(if ckE ks cap l≠0 then dh (ckE ks cap l) else if ins=false then dh 4 else
  if eY ks cap l a.toNat x≠0 then dh (eY ks cap l a.toNat x) else iE (spl l a.toNat x.length (x.map (fre ks))))=.tup [.agg [.ro 6 R true],.int .i64 n]:=by
  unfold iE dh;repeat (first | exact ⟨_,_,rfl⟩ | split)
 obtain ⟨R,n,hR⟩:=hR;rw [hR] at h |-;simp [ah2,hw,h,H.inl,ak,H.pp,ppB]
structure vk (C:aH):Prop extends ET C where
 f217:C.fns.get 217=some adb
 amq:C.fns.get 401=some Nu
 f220:C.fns.get 220=some afl
 f218:C.fns.get 218=some aia
 f109:C.fns.get 109=some aiQ
 f108:C.fns.get 108=some afA
theorem VU {ks:List Kd} {cap:Int} {l:List En} (h:ckE ks cap l=0):rJ ks cap=true:=by
 unfold ckE at h;cases c:rJ ks cap
 ·rw [qwz c] at h;cases h
 ·rfl
theorem amJ {n:Int} {x:It} (h:fM n x=true):oW x=true:=by unfold fM at h;unfold oW;simp at h |-;exact ⟨⟨h.1.1.1,h.1.2⟩,h.2⟩
theorem ajs {ks:List Kd} {cap:Int} (h:rJ ks cap=true) {x:It} (hx:fM ks.length x=true) (ht:0<=x.t):gJ (bW ks x.t).p x cap=0\/gJ (bW ks x.t).p x cap=14:=by
 have h2:=amJ hx;have h3:=nT hx;unfold rJ at h;simp only [qzq,qvj] at h;unfold gJ;rw [qwq qqq];split
 ·exact .inr rfl
 ·rw [qwq (by simp [h2])];split
  ·exact .inr rfl
  ·exact .inl rfl
@[simp] theorem Pg:∀ h:aG,sO 0 h=[]
 | []=>rfl
 | (b,o)::r=>by rw [sO,qwq qqq,Pg r]
@[simp] theorem TV (π:Nat->Option Nat):∀ h:aG,jS 0 π h=some []
 | []=>rfl
 | (b,o)::r=>by rw [jS,qwq qqq,TV π r]
def DoR (v:AV) (o:Option (AV × aG × Nat)):Prop:=∃ h' n',o=some (v,h',n')/\Pav.get h' 0=some (.cells 1 [[.ro 6 [] true]] true true)
def WJ (s:List Int) (k:Int):List Int:=if s.contains k=true then s else s++[k]
def kU (s:List Int):List En->List Int
 | []=>s
 | e::r=>kU (WJ s e.i.k) r
theorem abT (s:List Int) (k j:Int):(WJ s k).contains j=(s++[k]).contains j:=by
 unfold WJ;split
 ·rename_i h;simp only [qlj,qvj] at h;by_cases c:j=k
  ·subst c;simp [h]
  ·simp [c]
 ·rfl
theorem Lm:∀ (l:List En) (s:List Int) (j:Int),(kU s l).contains j=(s++bH l).contains j
 | [],s,j=>by rw [kU];simp [bH]
 | e::r,s,j=>by rw [kU,Lm r];have:=abT s e.i.k j;simp only [qlj,qjj,qkq,qdq,q0x,decide_eq_decide,bH,qvz] at this |-;rw [this,or_assoc]
theorem TL (k:Int):∀ s:List Int,kN (qw s) (.int .u64 k) (.bool true)=some (qw (WJ s k)):=by
 intro s;unfold WJ;cases c:s.contains k
 ·rw [qwq qqz];exact wC k s c
 ·rw [qwz rfl];induction s with
  | nil=>simp at c
  | cons a r ih =>
   unfold qw at ih |-;rw [qvz,kN];simp only [iO,qQx,ob];by_cases d:k=a
   ·subst d;simp
   ·have:r.contains k=true:=by simpa [d] using c
    simp [d,ih this,om]
theorem H9 (ks:List Kd) (cap:Int):∀ (x:List It) (s t:List Int),(∀ j,s.contains j=t.contains j)->dI ks cap s x=dI ks cap t x
 | [],s,t,_=>rfl
 | x::r,s,t,h=>by rw [dI,dI,h,H9 ks cap r (s++[x.k]) (t++[x.k]) (λj=>by have:=h j;simp only [qlj,qjj,decide_eq_decide] at this |-;rw [this])]
theorem EZ (H:vk C) (l:List En) (e:Bool) (hl:l.length<=1000000):∀ n i,n+i=l.length->∀ s:List Int,
 CK C 25 (fQ [.tmp 2]) [.sq Gt,.bk 0 ⟨true,[3],[]⟩,.sq BN] qV ⟨[(9,.int .i64 i),(8,.int .i64 l.length),(7,.ro 6 (l.map eEn) e),(3,.ptr 25 0 0)],[(0,.cells 1 [[.ro 6 [] true]] true true),(25,.cells 1 [[.map 26]] true false),(26,.map (qw s))],27⟩ =
  some (.fn 401 [.ptr 25 0 0],[(0,.cells 1 [[.ro 6 [] true]] true true),(25,.cells 1 [[.map 26]] true false),(26,.map (qw (kU s (l.drop i))))],29):=by
 intro n;induction n with
 | zero =>
  intro i hi s;have h1:l.drop i=[]:=qwj qqq;have h3:¬ i < l.length:=by omega
  rw [aj qV.eq_1];simp (disch:=omega) [aj BN.eq_1,h1,h3,kU]
 | succ n ih =>
  intro i hi s;have h1:i < l.length:=by omega
  have hp:=TL l[i].i.k s;have this:=ih (i+1) qqq (WJ s l[i].i.k);rw [drop_cons h1,kU];rw [aj qV.eq_1];simp at this;simp (disch:=omega) [h1,aC,hp,this]
theorem Vh (H:vk C) (l:List En) (e:Bool) (hl:l.length<=1000000) :
 RnW C 217 [.ro 6 (l.map eEn) e] [(0,.cells 1 [[.ro 6 [] true]] true true)] 25=some (.fn 401 [.ptr 25 0 0],[(0,.cells 1 [[.ro 6 [] true]] true true),(25,.cells 1 [[.map 26]] true false),(26,.map (qw (kU [] l)))],29):=by
 have h:=EZ H l e hl l.length 0 qqz [];rw [qjq,IY] at h;rw [iP (args:=[.ro 6 (l.map eEn) e]) H.f217 rfl [(0,.cells 1 [[.ro 6 [] true]] true true)] 25];simp at h;simp [adb,h]
theorem WW (H:vk C) (ks:List Kd) (ke:Bool) (cap:Int) (hr:jF ks) (hru:rJ ks cap=true) (l:List En) (e:Bool) (hl:l.length<=1000000) (hs:∀ x ∈ l,dQ x) (a:Nat) (ha:a<=l.length) (x:List It) (xe:Bool) (hx:∀ y ∈ x,iU y) (hxl:x.length<=1000000) (ins:Bool) (cnt:Int)
 (hb:∀ y ∈ x,fM ks.length y=true->-9223372036854775808<=(bW ks y.t).b/\(bW ks y.t).b<=9223372036854775807) (hsum:l.length+x.length<=1000000):∀ n i,n+i=x.length->(∀ y ∈ x.take i,fM ks.length y=true)->∀ s:List Int,
 DoR (if dI ks cap s (x.drop i)≠0 then dh (dI ks cap s (x.drop i)) else iE (spl l a 0 (x.map (fre ks)))) (CK C 29 (fQ [.cell 6 1 true,.tmp 7]) [.sq Di,.bk 1 ⟨true,[6,5,3],[]⟩,.sq jo] dO ⟨[(34,.int .i64 i),(33,.int .i64 x.length),(32,.ro 4 (x.map cIt) xe),(6,.ptr 29 0 0),(5,.ptr 30 0 0),(3,.ptr 31 0 0)],[(0,.cells 1 [[.ro 6 [] true]] true true),(25,.cells 1 [[.map 26]] true false),(26,.map (qw s)),(29,.cells 1 [[.ro 6 [] true]] true true),
  (30,.cells 5 [[.bool ins,.int .i64 cnt,.ro 4 (x.map cIt) xe,.fn 401 [.ptr 25 0 0],.fn 220 [.rop [.ro 6 (l.map eEn) e],.rop [.int .i64 a]]]] true false),(31,.cells 2 [[.ro 9 (ks.map eKd) ke,.int .i64 cap]] true true)],32⟩):=by
 intro n;induction n with
 | zero =>
  intro i hi hok s;have h1:x.drop i=[]:=qwj qqq;have h3:¬ i < x.length:=by omega
  rw [qzz qqq] at hok;have hf:=o8 H.tozD ks ke cap x xe qqq (λy q=>⟨hx y q,nT (hok y q)⟩);have hm:FnW C 220 [.ro 6 ((x.map (fre ks)).map eEn) true,.rop [.ro 6 (l.map eEn) e],.rop [.int .i64 a]]=some (.ro 6 ((spl l a 0 (x.map (fre ks))).map eEn) true):=by have h:=rV H.tojR l (x.map (fre ks)) e true a 0 hl (by simpa using hxl) qqq;rw [aF H.f220 rfl];generalize spl l a 0 (x.map (fre ks))=R at *;generalize x.map (fre ks)=X at *;simp at h;simp [afl,h,H.inl,ak,H.pp,ppB]
  have hm2:∀ y ∈ spl l a 0 (x.map (fre ks)),dQ y:=um _ _ hs λy q=>by obtain ⟨z,hz,rfl⟩:=qyq.1 q;exact ⟨hx z hz,hb z hz (hok z hz)⟩
  have hlen2:(spl l a 0 (x.map (fre ks))).length<=1000000:=by rw [tY _ _ _ _ qqq];simp;omega
  rw [h1,dI,qwq qqz];generalize spl l a 0 (x.map (fre ks))=R at *;have ho:=II H.tojR R true hlen2 (λx q=>(hm2 x q).i.m);have ht:=sG H.tojR (R.map En.own) true (by simpa using hlen2) (λx q=>by obtain ⟨y,hy,rfl⟩:=qyq.1 q;exact (hm2 y hy).ow);unfold iE dh;generalize R.map En.own=R' at *;generalize x.map (fre ks)=X at *;by_cases c2:ovE R'=0
  ·rw [c2] at ht;rw [aj dO.eq_1];simp [aj jo.eq_1,h3,hf,hm,ho,ht,c2,H.inl,ak,H.pp,ppB];exact ⟨_,_,rfl,rfl⟩
  ·rw [aj dO.eq_1];simp [aj jo.eq_1,h3,hf,hm,ho,ht,c2,H.inl,ak,H.pp,ppB];exact ⟨_,_,rfl,rfl⟩
 | succ n ih =>
  intro i hi hok s;have h1:i < x.length:=by omega
  have hxi:=hx _ (qxx h1);have hc:=yG H.toTR x[i] ks.length hxi.t;have hg:=λa b c h n=>iP (args:=[a,b,c]) H.amq rfl h n;have hkg:=Ae x[i].k s;rw [drop_cons h1,dI];generalize hO:iE (spl l a 0 (x.map (fre ks)))=O at *;unfold dh;cases c1:fM ks.length x[i]
  ·have hE:itE ks cap x[i] (s.contains x[i].k)=6:=by unfold itE;simp [c1]
   rw [hE,qwz qqz,qwz qqz];rw [c1] at hc;simp at hc;rw [aj dO.eq_1];simp (disch:=omega) [h1,hc,H.inl,ak,H.pp,ppB];exact ⟨_,_,rfl,rfl⟩
  ·rw [c1] at hc;simp at hc;cases c2:s.contains x[i].k
   ·have ht:=nT c1;have hre:=tZ H.tozD ks ke cap x[i] hxi ht hr;have h14:=ajs hru c1 hxi.t.1;have hp:=wC x[i].k s c2;rw [c2] at hkg;simp only [aR,eIt] at hre hc;have this:=ih (i+1) qqq (λy q=>by
     rw [qJq h1] at q;rcases qjj.1 q with q | q
     ·exact hok y q
     ·simp at q;rw [q];exact c1) (s++[x[i].k])
    unfold dh at this;have hE:itE ks cap x[i] false=if gJ (bW ks x[i].t).p x[i] cap=0 then 0 else 14:=by unfold itE;simp [c1]
    generalize SC (bW ks x[i].t).p x[i] cap=N at *;generalize gJ (bW ks x[i].t).p x[i] cap=E at *;by_cases c3:E=0
    ·subst c3;have hV:itE ks cap x[i] false=0:=by rw [hE];simp
     rw [hV];simp only [ne_eq,qmj,qWz];generalize (if dI ks cap (s++[x[i].k]) (List.drop (i+1) x)≠0 then AV.tup [aL [] true,.int .i64 (dI ks cap (s++[x[i].k]) (List.drop (i+1) x))] else O)=Z at *;rw [aj dO.eq_1];simp at this;simp (disch:=omega) [h1,hc,hg,Nu,hkg,hp,hre,aC,H.inl,ak,H.pp,ppB];exact this
    ·have c4:E=14:=by rcases h14 with q | q;exact absurd q c3;exact q
     subst c4;have hV:itE ks cap x[i] false=14:=by rw [hE];simp
     rw [hV,qwz qqz,qwz qqz];rw [aj dO.eq_1];simp (disch:=omega) [h1,hc,hg,Nu,hkg,hp,hre,H.inl,ak,H.pp,ppB];exact ⟨_,_,rfl,rfl⟩
   ·have hE:itE ks cap x[i] true=8:=by unfold itE;simp [c1]
    rw [hE,qwz qqz,qwz qqz];rw [c2] at hkg;simp only [eIt] at hc;rw [aj dO.eq_1];simp (disch:=omega) [h1,hc,hg,Nu,hkg,H.inl,ak,H.pp,ppB];exact ⟨_,_,rfl,rfl⟩
theorem E5 (H:vk C) (l:List En) (e:Bool) (hl:l.length<=1000000):∀ n i,n+i=l.length->∀ s:List Int,
 CK C 13 (fQ [.tmp 2]) [.sq Gt,.bk 0 ⟨true,[3],[]⟩,.sq BN] qV ⟨[(9,.int .i64 i),(8,.int .i64 l.length),(7,.ro 6 (l.map eEn) e),(3,.ptr 13 0 0)],[(0,.cells 1 [[.ro 6 [] true]] true true),(13,.cells 1 [[.map 14]] true false),(14,.map (qw s))],15⟩ =
  some (.fn 401 [.ptr 13 0 0],[(0,.cells 1 [[.ro 6 [] true]] true true),(13,.cells 1 [[.map 14]] true false),(14,.map (qw (kU s (l.drop i))))],17):=by
 intro n;induction n with
 | zero =>
  intro i hi s;have h1:l.drop i=[]:=qwj qqq;have h3:¬ i < l.length:=by omega
  rw [aj qV.eq_1];simp (disch:=omega) [aj BN.eq_1,h1,h3,kU]
 | succ n ih =>
  intro i hi s;have h1:i < l.length:=by omega
  have hp:=TL l[i].i.k s;have this:=ih (i+1) qqq (WJ s l[i].i.k);rw [drop_cons h1,kU];rw [aj qV.eq_1];simp at this;simp (disch:=omega) [h1,aC,hp,this]
theorem WL (H:vk C) (l:List En) (e:Bool) (hl:l.length<=1000000) :
 RnW C 217 [.ro 6 (l.map eEn) e] [(0,.cells 1 [[.ro 6 [] true]] true true)] 13=some (.fn 401 [.ptr 13 0 0],[(0,.cells 1 [[.ro 6 [] true]] true true),(13,.cells 1 [[.map 14]] true false),(14,.map (qw (kU [] l)))],17):=by
 have h:=E5 H l e hl l.length 0 qqz [];rw [qjq,IY] at h;rw [iP (args:=[.ro 6 (l.map eEn) e]) H.f217 rfl [(0,.cells 1 [[.ro 6 [] true]] true true)] 13];simp at h;simp [adb,h]
theorem Xc (H:vk C) (ks:List Kd) (ke:Bool) (cap:Int) (hr:jF ks) (hru:rJ ks cap=true)  (x:List It) (xe:Bool) (hx:∀ y ∈ x,iU y) (hxl:x.length<=1000000) (ins:Bool) (cnt:Int)
 (hb:∀ y ∈ x,fM ks.length y=true->-9223372036854775808<=(bW ks y.t).b/\(bW ks y.t).b<=9223372036854775807) :∀ n i,n+i=x.length->(∀ y ∈ x.take i,fM ks.length y=true)->∀ s:List Int,
 DoR (if dI ks cap s (x.drop i)≠0 then dh (dI ks cap s (x.drop i)) else iE (x.map (fre ks))) (CK C 17 (fQ [.cell 6 1 true,.tmp 7]) [.sq Di,.bk 1 ⟨true,[6,5,3],[]⟩,.sq jo] dO ⟨[(34,.int .i64 i),(33,.int .i64 x.length),(32,.ro 4 (x.map cIt) xe),(6,.ptr 17 0 0),(5,.ptr 18 0 0),(3,.ptr 19 0 0)],[(0,.cells 1 [[.ro 6 [] true]] true true),(13,.cells 1 [[.map 14]] true false),(14,.map (qw s)),(17,.cells 1 [[.ro 6 [] true]] true true),
  (18,.cells 5 [[.bool ins,.int .i64 cnt,.ro 4 (x.map cIt) xe,.fn 401 [.ptr 13 0 0],.fn 218 []]] true false),(19,.cells 2 [[.ro 9 (ks.map eKd) ke,.int .i64 cap]] true true)],20⟩):=by
 intro n;induction n with
 | zero =>
  intro i hi hok s;have h1:x.drop i=[]:=qwj qqq;have h3:¬ i < x.length:=by omega
  rw [qzz qqq] at hok;have hf:=o8 H.tozD ks ke cap x xe qqq (λy q=>⟨hx y q,nT (hok y q)⟩);have hm:FnW C 218 [.ro 6 ((x.map (fre ks)).map eEn) true]=some (.ro 6 ((x.map (fre ks)).map eEn) true):=by rw [aF H.f218 rfl];generalize x.map (fre ks)=X at *;simp [aia]
  have hm2:∀ y ∈ x.map (fre ks),dQ y:=λy q=>by obtain ⟨z,hz,rfl⟩:=qyq.1 q;exact ⟨hx z hz,hb z hz (hok z hz)⟩
  have hlen2:(x.map (fre ks)).length<=1000000:=by simpa using hxl
  rw [h1,dI,qwq qqz];generalize x.map (fre ks)=R at *;have ho:=II H.tojR R true hlen2 (λx q=>(hm2 x q).i.m);have ht:=sG H.tojR (R.map En.own) true (by simpa using hlen2) (λx q=>by obtain ⟨y,hy,rfl⟩:=qyq.1 q;exact (hm2 y hy).ow);unfold iE dh;generalize R.map En.own=R' at *;by_cases c2:ovE R'=0
  ·rw [c2] at ht;rw [aj dO.eq_1];simp [aj jo.eq_1,h3,hf,hm,ho,ht,c2,H.inl,ak,H.pp,ppB];exact ⟨_,_,rfl,rfl⟩
  ·rw [aj dO.eq_1];simp [aj jo.eq_1,h3,hf,hm,ho,ht,c2,H.inl,ak,H.pp,ppB];exact ⟨_,_,rfl,rfl⟩
 | succ n ih =>
  intro i hi hok s;have h1:i < x.length:=by omega
  have hxi:=hx _ (qxx h1);have hc:=yG H.toTR x[i] ks.length hxi.t;have hg:=λa b c h n=>iP (args:=[a,b,c]) H.amq rfl h n;have hkg:=Ae x[i].k s;rw [drop_cons h1,dI];generalize hO:iE (x.map (fre ks))=O at *;unfold dh;cases c1:fM ks.length x[i]
  ·have hE:itE ks cap x[i] (s.contains x[i].k)=6:=by unfold itE;simp [c1]
   rw [hE,qwz qqz,qwz qqz];rw [c1] at hc;simp at hc;rw [aj dO.eq_1];simp (disch:=omega) [h1,hc,H.inl,ak,H.pp,ppB];exact ⟨_,_,rfl,rfl⟩
  ·rw [c1] at hc;simp at hc;cases c2:s.contains x[i].k
   ·have ht:=nT c1;have hre:=tZ H.tozD ks ke cap x[i] hxi ht hr;have h14:=ajs hru c1 hxi.t.1;have hp:=wC x[i].k s c2;rw [c2] at hkg;simp only [aR,eIt] at hre hc;have this:=ih (i+1) qqq (λy q=>by
     rw [qJq h1] at q;rcases qjj.1 q with q | q
     ·exact hok y q
     ·simp at q;rw [q];exact c1) (s++[x[i].k])
    unfold dh at this;have hE:itE ks cap x[i] false=if gJ (bW ks x[i].t).p x[i] cap=0 then 0 else 14:=by unfold itE;simp [c1]
    generalize SC (bW ks x[i].t).p x[i] cap=N at *;generalize gJ (bW ks x[i].t).p x[i] cap=E at *;by_cases c3:E=0
    ·subst c3;have hV:itE ks cap x[i] false=0:=by rw [hE];simp
     rw [hV];simp only [ne_eq,qmj,qWz];generalize (if dI ks cap (s++[x[i].k]) (List.drop (i+1) x)≠0 then AV.tup [aL [] true,.int .i64 (dI ks cap (s++[x[i].k]) (List.drop (i+1) x))] else O)=Z at *;rw [aj dO.eq_1];simp at this;simp (disch:=omega) [h1,hc,hg,Nu,hkg,hp,hre,aC,H.inl,ak,H.pp,ppB];exact this
    ·have c4:E=14:=by rcases h14 with q | q;exact absurd q c3;exact q
     subst c4;have hV:itE ks cap x[i] false=14:=by rw [hE];simp
     rw [hV,qwz qqz,qwz qqz];rw [aj dO.eq_1];simp (disch:=omega) [h1,hc,hg,Nu,hkg,hp,hre,H.inl,ak,H.pp,ppB];exact ⟨_,_,rfl,rfl⟩
   ·have hE:itE ks cap x[i] true=8:=by unfold itE;simp [c1]
    rw [hE,qwz qqz,qwz qqz];rw [c2] at hkg;simp only [eIt] at hc;rw [aj dO.eq_1];simp (disch:=omega) [h1,hc,hg,Nu,hkg,H.inl,ak,H.pp,ppB];exact ⟨_,_,rfl,rfl⟩
theorem alb (H:vk C) (ks:List Kd) (ke:Bool) (cap:Int) (hr:jF ks) (l:List En) (e:Bool) (hl:l.length<=1000000) (hs:∀ x ∈ l,dQ x) (a:Int) (x:List It) (xe:Bool) (hx:∀ y ∈ x,iU y) (hxl:x.length<=1000000) (ins:Bool) (cnt:Int)
 (hb:∀ y ∈ x,fM ks.length y=true->-9223372036854775808<=(bW ks y.t).b/\(bW ks y.t).b<=9223372036854775807) (hsum:l.length+x.length<=1000000) (hin:ins=true->0<=a/\a<=l.length) :
 DoR (if ckE ks cap l≠0 then dh (ckE ks cap l) else if ins=false then dh 4 else if 1024 < cnt then dh 3 else if dI ks cap (bH l) x≠0 then dh (dI ks cap (bH l) x) else iE (spl l a.toNat 0 (x.map (fre ks)))) (RnW C 216 [aR ks ke cap,aL l e,.agg [.bool ins,.int .i64 cnt,.ro 4 (x.map cIt) xe,.fn 401 [.ptr 25 0 0],.fn 220 [.rop [.ro 6 (l.map eEn) e],.rop [.int .i64 a]]]] [(0,.cells 1 [[.ro 6 [] true]] true true),(25,.cells 1 [[.map 26]] true false),(26,.map (qw (kU [] l)))] 29):=by
 have hc:=iY H.tozD ks ke cap hr l e hl hs;rw [iP (args:=[aR ks ke cap,aL l e,.agg [.bool ins,.int .i64 cnt,.ro 4 (x.map cIt) xe,.fn 401 [.ptr 25 0 0],.fn 220 [.rop [.ro 6 (l.map eEn) e],.rop [.int .i64 a]]]]) H.f216 rfl [(0,.cells 1 [[.ro 6 [] true]] true true),(25,.cells 1 [[.map 26]] true false),(26,.map (qw (kU [] l)))] 29];by_cases c1:ckE ks cap l=0
 ·have hru:=VU c1;rw [c1] at hc;rw [qwq (by simpa using c1)];cases ins
  ·rw [qwz rfl];unfold dh;simp [rD,hc,H.inl,ak,H.pp,ppB];exact ⟨_,_,rfl,rfl⟩
  ·rw [qwq qqz];obtain ⟨ha1,ha2⟩:=hin rfl;obtain ⟨a',rfl⟩:∃ a':Nat,a=a':=⟨a.toNat,by omega⟩;by_cases c2:1024 < cnt
   ·rw [qwz c2];unfold dh;simp [rD,hc,c2,H.inl,ak,H.pp,ppB];exact ⟨_,_,rfl,rfl⟩
   ·rw [qwq c2];have h:=WW H ks ke cap hr hru l e hl hs a' qqq x xe hx hxl true cnt hb hsum x.length 0 qqz qqz (kU [] l);rw [qjq] at h;rw [H9 ks cap x (kU [] l) (bH l) (λj=>by rw [Lm];simp)] at h;simp only [qWj];generalize (if dI ks cap (bH l) x≠0 then dh (dI ks cap (bH l) x) else iE (spl l a' 0 (x.map (fre ks))))=Z at *;simp at h;simp [rD,hc,c2,H.inl,ak,H.pp,ppB];exact h
 ·rw [qwz c1];unfold dh;simp [rD,hc,c1,H.inl,ak,H.pp,ppB];exact ⟨_,_,rfl,rfl⟩
theorem akL (H:vk C) (ks:List Kd) (ke:Bool) (cap:Int) (hr:jF ks) (l:List En) (e:Bool) (hl:l.length<=1000000) (hs:∀ x ∈ l,dQ x)  (x:List It) (xe:Bool) (hx:∀ y ∈ x,iU y) (hxl:x.length<=1000000)  (cnt:Int)
 (hb:∀ y ∈ x,fM ks.length y=true->-9223372036854775808<=(bW ks y.t).b/\(bW ks y.t).b<=9223372036854775807)  :
 DoR (if ckE ks cap l≠0 then dh (ckE ks cap l) else if 1024 < cnt then dh 3 else if dI ks cap [] x≠0 then dh (dI ks cap [] x) else iE (x.map (fre ks))) (RnW C 216 [aR ks ke cap,aL l e,.agg [.bool true,.int .i64 cnt,.ro 4 (x.map cIt) xe,.fn 401 [.ptr 13 0 0],.fn 218 []]] [(0,.cells 1 [[.ro 6 [] true]] true true),(13,.cells 1 [[.map 14]] true false),(14,.map (qw (kU [] [])))] 17):=by
 have hc:=iY H.tozD ks ke cap hr l e hl hs;rw [iP (args:=[aR ks ke cap,aL l e,.agg [.bool true,.int .i64 cnt,.ro 4 (x.map cIt) xe,.fn 401 [.ptr 13 0 0],.fn 218 []]]) H.f216 rfl [(0,.cells 1 [[.ro 6 [] true]] true true),(13,.cells 1 [[.map 14]] true false),(14,.map (qw (kU [] [])))] 17];by_cases c1:ckE ks cap l=0
 ·have hru:=VU c1;rw [c1] at hc;rw [qwq (by simpa using c1)];by_cases c2:1024 < cnt
  ·rw [qwz c2];unfold dh;simp [rD,hc,c2,H.inl,ak,H.pp,ppB];exact ⟨_,_,rfl,rfl⟩
  ·rw [qwq c2];have h:=Xc H ks ke cap hr hru x xe hx hxl true cnt hb x.length 0 qqz qqz (kU [] []);rw [qjq] at h;simp only [kU] at h |-;simp [rD,hc,c2,H.inl,ak,H.pp,ppB];by_cases c3:dI ks cap [] x=0
   ·simp [c3] at h |-;exact h
   ·simp [c3] at h |-;exact h
 ·rw [qwz c1];unfold dh;simp [rD,hc,c1,H.inl,ak,H.pp,ppB];exact ⟨_,_,rfl,rfl⟩
@[simp] theorem avu (h:aG) (n:Nat) (o:fC) (k:Nat):Pav.get (Pav.put h n o) k=if n=k then some o else Pav.get h k:=get_put h n o k
theorem Zv (H:vk C) (ks:List Kd) (ke:Bool) (cap:Int) (hr:jF ks) (l:List En) (e:Bool) (hl:l.length<=1000000) (hs:∀ x ∈ l,dQ x) (a:Int) (x:List It) (xe:Bool) (hx:∀ y ∈ x,iU y) (hxl:x.length<=1000000)
 (hb:∀ y ∈ x,fM ks.length y=true->-9223372036854775808<=(bW ks y.t).b/\(bW ks y.t).b<=9223372036854775807) (hsum:l.length+x.length<=1000000) :
 FnW C 109 [aR ks ke cap,aL l e,.int .i64 a,.ro 4 (x.map cIt) xe] =
  some (if ckE ks cap l≠0 then dh (ckE ks cap l) else if inR a 0 l.length=false then dh 4 else if 1024 < (l.length:Int)+x.length then dh 3 else if dI ks cap (bH l) x≠0 then dh (dI ks cap (bH l) x) else iE (spl l a.toNat 0 (x.map (fre ks)))):=by
 have hw:=rQ H.tojR a 0 l.length qqq;have hu:=Vh H l e hl;obtain ⟨h',n',hd,hB⟩:=alb H ks ke cap hr l e hl hs a x xe hx hxl (inR a 0 l.length) ((l.length:Int)+x.length) hb hsum (λq=>by unfold inR at q;simp at q;omega);have hR:∃ R n,(if ckE ks cap l≠0 then dh (ckE ks cap l) else if inR a 0 l.length=false then dh 4 else if 1024 < (l.length:Int)+x.length then dh 3 else if dI ks cap (bH l) x≠0 then dh (dI ks cap (bH l) x) else iE (spl l a.toNat 0 (x.map (fre ks))))=.tup [.agg [.ro 6 R true],.int .i64 n]:=by unfold iE dh;repeat (first | exact ⟨_,_,rfl⟩ | split)
 obtain ⟨R,n,hR⟩:=hR;rw [hR] at hd |-;rw [aF H.f109 rfl];generalize inR a 0 l.length=ins at *;try simp at hd
 simp (disch:=omega) [aiQ,aC,hw,hu,hd,hB,H.inl,ak,H.pp,ppB]
theorem ae5 (H:vk C) (ks:List Kd) (ke:Bool) (cap:Int) (hr:jF ks) (l:List En) (e:Bool) (hl:l.length<=1000000) (hs:∀ x ∈ l,dQ x) (x:List It) (xe:Bool) (hx:∀ y ∈ x,iU y) (hxl:x.length<=1000000)
 (hb:∀ y ∈ x,fM ks.length y=true->-9223372036854775808<=(bW ks y.t).b/\(bW ks y.t).b<=9223372036854775807) :
 FnW C 108 [aR ks ke cap,aL l e,.ro 4 (x.map cIt) xe] =
  some (if ckE ks cap l≠0 then dh (ckE ks cap l) else if 1024 < (x.length:Int) then dh 3 else if dI ks cap [] x≠0 then dh (dI ks cap [] x) else iE (x.map (fre ks))):=by
 have hu:=WL H [] true qqz;obtain ⟨h',n',hd,hB⟩:=akL H ks ke cap hr l e hl hs x xe hx hxl (x.length:Int) hb;have hR:∃ R n,(if ckE ks cap l≠0 then dh (ckE ks cap l) else if 1024 < (x.length:Int) then dh 3 else if dI ks cap [] x≠0 then dh (dI ks cap [] x) else iE (x.map (fre ks)))=.tup [.agg [.ro 6 R true],.int .i64 n]:=by unfold iE dh;repeat (first | exact ⟨_,_,rfl⟩ | split)
 obtain ⟨R,n,hR⟩:=hR;rw [hR] at hd |-;rw [aF H.f108 rfl];simp at hd hu;simp (disch:=omega) [afA,aC,hu,hd,hB,H.inl,ak,H.pp,ppB]
end Go.D
end
section
namespace Go.Pw
open Go Go.Pav
theorem abU {α:Type} (l:List (Nat × α)) (k:Nat) (x:α) (j:Nat):Pav.get (Pav.put l k x) j=if k=j then some x else Pav.get l j:=get_put l k x j
theorem aN {α:Type} (l:List (Nat × α)) (k:Nat) (x:α):Pav.get (Pav.put l k x) k=some x:=by rw [abU,qwz rfl]
theorem aI {α:Type} {l:List (Nat × α)} {k:Nat} {x:α} {j:Nat} (h:k≠j):Pav.get (Pav.put l k x) j=Pav.get l j:=by rw [abU,qwq h]
theorem Vb {α:Type} (l:List (Nat × α)) (k:Nat) (x y:α):Pav.put (Pav.put l k x) k y=Pav.put l k y:=by
 induction l with
 | nil=>simp [Pav.put]
 | cons a r ih =>
  obtain ⟨j,v⟩:=a;simp only [Pav.put];by_cases h1:j=k
  ·simp [h1,Pav.put]
  ·by_cases h2:k<=j
   ·simp [h1,h2,Pav.put]
   ·simp [h1,h2,Pav.put,ih]
theorem ltF {a b:Nat} (h:a < b):(a=b)=False:=eq_false qqq
theorem gtF {a b:Nat} (h:b < a):(a=b)=False:=eq_false qqq
structure Rw where
 i:Nat
 len:Nat
 cap:Nat
 es:List (List AV)
abbrev Rw.of (es:List (List AV)):Rw:=⟨0,es.length,es.length,es⟩
def Rw.c (w:Rw):List (List AV):=(w.es.drop w.i).take w.len
def Rw.v (z b:Nat) (w:Rw):AV:=match w.es with
 | []=>.ro z [] true
 | _::_=>if w.cap=0 then .ro z [] false else .sl b z w.i w.len w.cap false
def Rw.d (z:Nat) (w:Rw):AV:=match w.es with
 | []=>.ro z [] true
 | _::_=>.ro z w.c false
structure Rw.Ok (w:Rw):Prop where
 le:w.i+w.len<=w.es.length
 c0:w.cap=0->w.len=0
structure Nst (z:Nat) (h:aG) (lo hi:Nat) (id:Nat->Nat) (cs:List (List AV)) (W:List Rw):Prop where
 len:cs.length=W.length
 bd:∀ i,i < W.length->lo<=id i/\id i < hi
 inj:∀ i j,i < W.length->j < W.length->id i=id j->i=j
 cell:∀ (i:Nat) (w:Rw),W[i]?=some w->cs[i]?=some [w.v z (id i)]
 blk:∀ (i:Nat) (w:Rw),W[i]?=some w->w.es≠[]->Pav.get h (id i)=some (.cells z w.es true true)
 ok:∀ w,w ∈ W->w.Ok
section
variable {z:Nat} {h h':aG} {lo hi hi':Nat} {id:Nat->Nat} {cs:List (List AV)} {W:List Rw}
theorem Nst.nil:Nst z h lo hi id [] []:=⟨rfl,λi h=>by simp at h,λi j h=>by simp at h,λi w h=>by simp at h,λi w h=>by simp at h,λw h=>by simp at h⟩
theorem Nst.mono (R:Nst z h lo hi id cs W) (hh:hi<=hi') (hg:∀ j,lo<=j->j < hi->Pav.get h' j=Pav.get h j):Nst z h' lo hi' id cs W where
 len:=R.len
 bd i hi:=⟨(R.bd i hi).1,qXx (R.bd i hi).2 hh⟩
 inj:=R.inj
 cell:=R.cell
 blk i w hw hn:=by have hl:i < W.length:=(qxz.1 hw).1;rw [hg _ (R.bd i hl).1 (R.bd i hl).2];exact R.blk i w hw hn
 ok:=R.ok
theorem Nst.snoc (R:Nst z h lo hi id cs W) (b:Nat) (hb:hi<=b) (hb2:lo<=b) (hh:b < hi') (w:Rw) (hw:w.Ok)
 (hg:∀ j,lo<=j->j < hi->Pav.get h' j=Pav.get h j) (hn:w.es≠[]->Pav.get h' b=some (.cells z w.es true true)) :
 Nst z h' lo hi' (λi=>if i=W.length then b else id i) (cs++[[w.v z b]]) (W++[w]):=by
 have hid:∀ i,i < W.length->(if i=W.length then b else id i)=id i:=λi hi=>qwq qqq;have hlt:∀ i,i < (W++[w]).length->i=W.length\/i < W.length:=by intro i hi;simp at hi;omega
 refine ⟨by simp [R.len],?_,?_,?_,?_,?_⟩
 ·intro i hi;rcases hlt i hi with q | q
  ·rw [qwz q];exact ⟨hb2,hh⟩
  ·rw [hid i q];exact ⟨(R.bd i q).1,by have:=(R.bd i q).2;omega⟩
 ·intro i j hi hj he;rcases hlt i hi with q | q <;> rcases hlt j hj with q' | q'
  ·omega
  ·rw [qwz q,hid j q'] at he;have:=(R.bd j q').2;omega
  ·rw [qwz q',hid i q] at he;have:=(R.bd i q).2;omega
  ·rw [hid i q,hid j q'] at he;exact R.inj i j q q' he
 ·intro i x hx;have hi:i < (W++[w]).length:=(qxz.1 hx).1;rcases hlt i hi with q | q
  ·subst q;rw [qwz rfl];simp at hx;subst hx;rw [<- R.len];simp
  ·rw [hid i q];rw [qYz q] at hx;rw [qYz (by rw [R.len];exact q)];exact R.cell i x hx
 ·intro i x hx hne;have hi:i < (W++[w]).length:=(qxz.1 hx).1;rcases hlt i hi with q | q
  ·subst q;rw [qwz rfl];simp at hx;subst hx;exact hn hne
  ·rw [hid i q,hg _ (R.bd i q).1 (R.bd i q).2];rw [qYz q] at hx;exact R.blk i x hx hne
 ·intro x hx;rcases qjj.1 hx with q | q
  ·exact R.ok x q
  ·simp at q;subst q;exact hw
theorem Nst.set (R:Nst z h lo hi id cs W) (k:Nat) (hk:k < W.length) (b:Nat) (hb:b=id k\/hi<=b) (hb2:lo<=b) (hh:b < hi') (hhi:hi<=hi') (w:Rw) (hw:w.Ok)
 (hg:∀ j,j < W.length->j≠k->Pav.get h' (id j)=Pav.get h (id j)) (hn:w.es≠[]->Pav.get h' b=some (.cells z w.es true true)) :
 Nst z h' lo hi' (λi=>if i=k then b else id i) (cs.set k [w.v z b]) (W.set k w):=by
 refine ⟨by simp [R.len],?_,?_,?_,?_,?_⟩
 ·intro i hi;rw [List.length_set] at hi;by_cases q:i=k
  ·rw [qwz q];exact ⟨hb2,hh⟩
  ·rw [qwq q];exact ⟨(R.bd i hi).1,by have:=(R.bd i hi).2;omega⟩
 ·intro i j hi hj he;rw [List.length_set] at hi hj;have hne:∀ j,j < W.length->j≠k->b≠id j:=by
   intro j hj q e;rcases hb with q2 | q2
   ·exact q (R.inj j k hj hk (by rw [<- e,q2]))
   ·have:=(R.bd j hj).2;omega
  by_cases q:i=k <;> by_cases q':j=k
  ·omega
  ·rw [qwz q,qwq q'] at he;exact absurd he (hne j hj q')
  ·rw [qwq q,qwz q'] at he;exact absurd he.symm (hne i hi q)
  ·rw [qwq q,qwq q'] at he;exact R.inj i j hi hj he
 ·intro i x hx;by_cases q:i=k
  ·subst q;rw [qtq hk] at hx;cases hx;rw [qwz rfl,qtq (by rw [R.len];exact hk)]
  ·rw [qwq q];rw [List.getElem?_set_ne qqq] at hx |-;exact R.cell i x hx
 ·intro i x hx hne;by_cases q:i=k
  ·subst q;rw [qtq hk] at hx;cases hx;rw [qwz rfl];exact hn hne
  ·rw [qwq q];rw [List.getElem?_set_ne qqq] at hx;have hi:i < W.length:=(qxz.1 hx).1;rw [hg i hi q];exact R.blk i x hx hne
 ·intro x hx;rcases qix hx with q | q
  ·exact R.ok x q
  ·subst q;exact hw
theorem Nst.amX (R:Nst z h lo hi id cs W) (n:Nat) {i:Nat} {w:Rw} (hw:W[i]?=some w):aZ (bK h (n+2)) [w.v z (id i)]=some [w.d z]:=by
 have hb:=R.blk i w hw;have hok:=(R.ok w (qzx hw)).le;have hc0:=(R.ok w (qzx hw)).c0;unfold Rw.v Rw.d;cases he:w.es with
 | nil=>simp [aZ,ob,om]
 | cons a r =>
  simp only;have:=hb (by simp [he]);by_cases hcap:w.cap=0
  ·rw [qwz hcap];have hl0:=hc0 hcap;simp [aZ,ob,om,Rw.c,hl0]
  rw [qwq hcap];simp only [aZ,fZ,this,zn];have hl:((w.es.drop w.i).take w.len).length=w.len:=by rw [qKz,qaq];omega
  simp [hl,og,ob,Rw.c]
theorem Nst.frz (R:Nst z h lo hi id cs W) (n:Nat):aZ (aZ (bK h (n+2))) cs=some (W.map λw=>[w.d z]):=by
 have key:∀ (cs:List (List AV)) (W:List Rw) (id:Nat->Nat),cs.length=W.length->(∀ (i:Nat) (w:Rw),W[i]?=some w->∃ c,cs[i]?=some c/\aZ (bK h (n+2)) c=some [w.d z])->aZ (aZ (bK h (n+2))) cs=some (W.map λw=>[w.d z]):=by
  intro cs;induction cs with
  | nil=>intro W id hl _;cases W with
   | nil=>rfl
   | cons _ _=>simp at hl
  | cons c cs ih =>
   intro W id hl hc;cases W with
   | nil=>simp at hl
   | cons w W =>obtain ⟨c',h1,h2⟩:=hc 0 w rfl;simp at h1;subst h1;have:=ih W (λi=>id (i+1)) (by simpa using hl) (λi w hw=>by simpa using hc (i+1) w (by simpa using hw));simp only [aZ,h2,this,ob,om,qvz]
 exact key cs W id R.len λi w hw=>⟨_,R.cell i w hw,R.amX n hw⟩
theorem Nst.flat (R:Nst z h lo hi id cs W) (h0:∀ w ∈ W,w.es=[]):cs=W.map λw=>[w.d z]:=by
 apply qfq;intro i;rw [qWx];cases hw:W[i]? with
 | none =>rw [q2x] at hw;rw [q2x.2 (by rw [R.len];exact hw)];rfl
 | some w =>rw [R.cell i w hw];have:=h0 w (qzx hw);simp [Rw.v,Rw.d,this]
theorem Rw.ao1 (z:Nat) (w:Rw):isC (w.d z)=true:=by unfold Rw.d;split <;> rfl
theorem Nst.zn (R:Nst z h lo hi id cs W) (n:Nat) {mu dt ex:Bool} (hd:dt=true->∀ w ∈ W,w.es=[]) :
 Pw.zn h (n+2) 1 0 W.length W.length ex (some (.cells 1 cs mu dt))=some (.ro 1 (W.map λw=>[w.d z]) ex):=by
 have hl:=R.len;cases dt with
 | true =>have:=R.flat (hd rfl);simp only [Pw.zn,qjq];rw [qzz qqq,this];simp [og]
 | false =>
  simp only [Pw.zn,qjq];rw [qzz qqq,R.frz n];have:((W.map λw=>[w.d z]).all λe=>e.all isC)=true:=by rw [qjx];intro x hx;obtain ⟨w,_,rfl⟩:=qyq.1 hx;simp only [qdz,q8z,Rw.ao1,qlz]
  simp only [ob,qQq,q7z,this,qlz,og,qtj]
end
end Go.Pw
end
section
end
section
namespace Go.D
open Go Go.Pav Go.Pw P
set_option maxHeartbeats 2000000
attribute [-simp] List.getElem_cons_drop
variable {C:aH}
structure L8 (C:aH):Prop extends vk C where
 ajB:C.fns.get 5045=some QY
 acd:C.fns.get 5044=some KY
theorem nV {a b:Nat} (h:b < a):(a<=b)=False:=eq_false qqq
theorem dL {n b:Nat} {h1 h:aG} (hb:b < n):Pav.get (over n h1 h) b=Pav.get h b:=by unfold over;rw [IQ,qwq qqq]
theorem uU {n b:Nat} {h1 h:aG} {o:fC} (hb:n<=b) (hg:Pav.get h1 b=some o):Pav.get (over n h1 h) b=some o:=by unfold over;rw [IQ,qwz hb,hg]
def MkO (h:aG) (lo hi:Nat) (v:AV) (m:List Bs):Prop :=(m=[]/\v=.ro 1 [] true)\/(m≠[]/\∃ b,v=.sl b 1 0 m.length m.length true/\lo<=b/\b < hi/\Pav.get h b=some (.cells 1 (m.map eS) true true))
theorem MkO.mono {h h':aG} {lo lo' hi hi':Nat} {v:AV} {m:List Bs} (R:MkO h lo hi v m) (hl:lo'<=lo) (hh:hi<=hi') (hg:∀ b,lo<=b->b < hi->Pav.get h' b=Pav.get h b):MkO h' lo' hi' v m:=by
 rcases R with q | ⟨q,b,h1,h2,h3,h4⟩
 ·exact .inl q
 ·exact .inr ⟨q,b,h1,by omega,by omega,by rw [hg b h2 h3];exact h4⟩
theorem MkO.over {h1 X:aG} {n lo hi:Nat} {v:AV} {m:List Bs} (R:MkO h1 lo hi v m) (hn:n<=lo):MkO (over n h1 X) lo hi v m:=by
 rcases R with q | ⟨q,b,k1,k2,k3,k4⟩
 ·exact .inl q
 ·exact .inr ⟨q,b,k1,k2,k3,uU qqq k4⟩
theorem abR (H:L8 C) (m:List Bs) (e:Bool) (hl:m.length<=1000000) (nx:Nat):∃ v h1 n1,RnW C 5045 [.ro 1 (m.map eS) e] [] nx=some (v,h1,n1)/\nx<=n1/\MkO h1 nx n1 v m:=by
 obtain ⟨L,hL⟩:∃ L,L=RnW C 5045 [.ro 1 (m.map eS) e] [] nx:=⟨_,rfl⟩;rw [<- hL];rw [iP (args:=[.ro 1 (m.map eS) e]) H.ajB rfl] at hL;by_cases h:m=[]
 ·subst h;simp [QY] at hL;exact ⟨_,_,_,hL,by omega,.inl ⟨rfl,rfl⟩⟩
 ·have h0:¬ m.length=0:=λq=>h (qXj.1 q);have h2:m.length * 17<=35184372088832:=by omega
  simp (disch:=omega) [QY,h,h0,h2,isE] at hL;have hT:List.take m.length (m.map eS)=m.map eS:=qzz qqz;exact ⟨_,_,_,hL,by omega,.inr ⟨h,_,rfl,by omega,by omega,by simp [hT]⟩⟩
theorem akl (H:L8 C) (x:It) (e:Bool) (hl:x.m.length<=1000000) (nx:Nat):∃ v b dt h1 n1,RnW C 5044 [.ro 4 [cIt x] e] [] nx=some (.sl b 4 0 1 1 true,h1,n1)/\nx<=n1/\nx<=b/\b < n1/\Pav.get h1 b=some (.cells 4 [[.int .u64 x.k,.int .u8 x.t,.str x.x,v]] true dt)/\MkO h1 nx n1 v x.m:=by
 have hg:=λa h n=>iP (args:=[a]) H.aeS rfl h n;obtain ⟨L,hL⟩:∃ L,L=RnW C 5044 [.ro 4 [cIt x] e] [] nx:=⟨_,rfl⟩;rw [<- hL];obtain ⟨v,q1,n1,r1,r2,r3⟩:=abR H x.m x.e hl (nx+30+1);have r4:=r3;rw [iP (args:=[.ro 4 [cIt x] e]) H.acd rfl] at hL;rcases r3 with ⟨_,rfl⟩ | ⟨_,b,rfl,_,_,_⟩;all_goals
  simp (disch:=omega) [KY,aj lI.eq_1,aj sK.eq_1,hg,UW,H.inl,ak,H.pp,ppB,aC,r1,ltF,gtF,nV,dL,aN,aI] at hL;refine ⟨_,_,_,_,_,hL,by omega,by omega,by omega,aN ..,?_⟩;exact (r4.over (qxq _)).mono qqq qqq λc k1 k2=>aI qqq
structure Fa (h:aG) (lo hi:Nat) (cs:List (List AV)) (l:List En):Prop where
 len:cs.length=l.length
 row:∀ (i:Nat) (x:En),l[i]?=some x->∃ v,cs[i]?=some [.int .u64 x.i.k,.int .u8 x.i.t,.str x.i.x,v,.int .i64 x.s,.bool x.kn]/\MkO h lo hi v x.i.m
theorem Fa.mono {h h':aG} {lo lo' hi hi':Nat} {cs:List (List AV)} {l:List En} (R:Fa h lo hi cs l) (hl:lo'<=lo) (hh:hi<=hi') (hg:∀ b,lo<=b->b < hi->Pav.get h' b=Pav.get h b):Fa h' lo' hi' cs l :=⟨R.len,λi x hx=>by obtain ⟨v,h1,h2⟩:=R.row i x hx;exact ⟨v,h1,h2.mono hl hh hg⟩⟩
theorem Fa.over {h1 X:aG} {n lo hi:Nat} {cs:List (List AV)} {l:List En} (R:Fa h1 lo hi cs l) (hn:n<=lo):Fa (over n h1 X) lo hi cs l :=⟨R.len,λi x hx=>by obtain ⟨v,h1,h2⟩:=R.row i x hx;exact ⟨v,h1,h2.over hn⟩⟩
theorem Fa.snoc {h:aG} {lo hi:Nat} {cs:List (List AV)} {l:List En} (R:Fa h lo hi cs l) (x:En) (v:AV) (hv:MkO h lo hi v x.i.m):Fa h lo hi (cs++[[.int .u64 x.i.k,.int .u8 x.i.t,.str x.i.x,v,.int .i64 x.s,.bool x.kn]]) (l++[x]):=by
 refine ⟨by simp [R.len],λi y hy=>?_⟩;have hi':i < (l++[x]).length:=(qxz.1 hy).1;simp at hi';by_cases c:i=l.length
 ·subst c;simp at hy;subst hy;exact ⟨v,by rw [<- R.len];simp,hv⟩
 ·have hil:i < l.length:=by omega
  rw [qYz hil] at hy;obtain ⟨v',k1,k2⟩:=R.row i y hy;exact ⟨v',by rw [qYz (by rw [R.len];exact hil)];exact k1,k2⟩
abbrev zEn:List AV:=[.int .u64 0,.int .u8 0,.str [],.ro 1 [] true,.int .i64 0,.bool false]
def Ub (h:aG) (lo hi:Nat) (v:AV) (l:List En):Prop :=(l=[]/\v=.ro 6 [] true)\/(l≠[]/\∃ rb cs dt,v=.sl rb 6 0 l.length l.length true/\lo<=rb/\rb < hi/\Pav.get h rb=some (.cells 6 cs true dt)/\Fa h (rb+1) hi cs l/\(dt=true->∀ x ∈ l,x.i.m=[]))
theorem Ub.mono {h h':aG} {lo lo' hi hi':Nat} {v:AV} {l:List En} (R:Ub h lo hi v l) (hl:lo'<=lo) (hh:hi<=hi') (hg:∀ b,lo<=b->b < hi->Pav.get h' b=Pav.get h b):Ub h' lo' hi' v l:=by
 rcases R with q | ⟨q,rb,cs,dt,h1,h2,h3,h4,h5,h6⟩
 ·exact .inl q
 ·exact .inr ⟨q,rb,cs,dt,h1,by omega,by omega,by rw [hg rb h2 h3];exact h4,h5.mono (qxq _) hh (λb k1 k2=>hg b qqq k2),h6⟩
theorem Ub.over {h1 X:aG} {n lo hi:Nat} {v:AV} {l:List En} (R:Ub h1 lo hi v l) (hn:n<=lo):Ub (over n h1 X) lo hi v l:=by
 rcases R with q | ⟨q,rb,cs,dt,k1,k2,k3,k4,k5,k6⟩
 ·exact .inl q
 ·exact .inr ⟨q,rb,cs,dt,k1,k2,k3,uU qqq k4,k5.over qqq,k6⟩
end Go.D
end
section
namespace Go.D
open Go Go.Pav Go.Pw P
attribute [-simp] List.getElem_cons_drop
variable {C:aH}
theorem yh {α β:Type} {f:α->Option β}:∀ (l:List α) (r:List β),l.length=r.length->(∀ (i:Nat) (x:α) (y:β),l[i]?=some x->r[i]?=some y->f x=some y)->aZ f l=some r
 | [],[],_,_=>rfl
 | x::l,y::r,h,hh=>by have h0:=hh 0 x y rfl rfl;have h1:=yh l r (by simpa using h) (λi a b p q=>hh (i+1) a b (by simpa using p) (by simpa using q));simp only [aZ,h0,h1,ob,om]
 | [],_::_,h,_=>by simp at h
 | _::_,[],h,_=>by simp at h
theorem MkO.frz {h:aG} {lo hi:Nat} {v:AV} {m:List Bs} (R:MkO h lo hi v m) (n:Nat):bK h (n+2) v=some (.ro 1 (m.map eS) true):=by
 rcases R with ⟨rfl,rfl⟩ | ⟨_,b,rfl,_,_,g⟩
 ·rfl
 ·have h1:List.take m.length (m.map eS)=m.map eS:=qzz qqz;rw [fZ,g];simp [Pw.zn,h1]
theorem Ub.frz {h:aG} {lo hi:Nat} {v:AV} {l:List En} (R:Ub h lo hi v l) (n:Nat):bK h (n+3) v=some (.ro 6 ((l.map En.own).map eEn) true):=by
 rcases R with ⟨rfl,rfl⟩ | ⟨_,rb,cs,dt,rfl,_,_,g,R,hd⟩
 ·rfl
 ·have h1:cs.take l.length=cs:=qzz (by rw [R.len];exact qxq _);have h2:aZ (aZ (bK h (n+2))) cs=some ((l.map En.own).map eEn):=by
   refine yh _ _ (by simp [R.len]) (λi c y hc hy=>?_);have hil:i < l.length:=by have:=(qxz.1 hc).1;rw [<- R.len];exact this
   obtain ⟨v,k3,k4⟩:=R.row i l[i] (qqj hil);rw [hc] at k3;rw [qyj k3];simp [hil] at hy;rw [<- hy];have k5:=k4.frz n;simp [aZ,k5,En.own,It.own]
  have h3:(((l.map En.own).map eEn).all λe=>e.all isC)=true:=by rw [qjx];intro e he;obtain ⟨x,_,rfl⟩:=qyq.1 he;rfl
  rw [fZ,g];cases dt with
  | false =>simp only [Pw.zn,qjq,h1,h2,ob,h3];simp [og]
  | true =>
   have h4:cs=(l.map En.own).map eEn:=by
    refine q6q (by simp [R.len]) (λi q1 q2=>?_);have hil:i < l.length:=by simpa using q2
    obtain ⟨v,k1,k2⟩:=R.row i l[i] (qqj hil);rw [qqj q1] at k1;have hw:=hd rfl _ (qxx hil);rcases k2 with ⟨_,rfl⟩ | ⟨q,_⟩
    ·rw [qyj k1];simp [hw,En.own,It.own]
    ·exact absurd hw q
   simp only [Pw.zn,qjq,h1];rw [h4];simp [og]
structure Nt where
 k:Int
 a:Int
 c:Int
 t:Int
 x:List It
 e:Bool
@[simp] def eNt (n:Nt):List AV:=[.int .u8 n.k,.int .i64 n.a,.int .i64 n.c,.int .i64 n.t,.ro 4 (n.x.map cIt) n.e]
def ntE (n:Nt):Int :=
 if n.k < 1\/5 < n.k then 1
 else if n.k=1\/n.k=4 then (if n.c≠0 then 5 else if n.t≠0 then 5 else 0)
 else if n.k=2 then (if n.t≠0 then 5 else if n.x.length≠0 then 5 else 0)
 else if n.k=3 then (if n.x.length≠0 then 5 else 0)
 else (if n.a≠0 then 5 else if n.c≠0 then 5 else if n.t≠0 then 5 else 0)
structure Rf (C:aH):Prop extends pO C where
 f336:C.fns.get 336=some J7
 apb:C.fns.get 457=some aha
 f333:C.fns.get 333=some Kw
 apm:C.fns.get 455=some ahU
def kdN (s:Bs) (a b c d:Bool) (f:AV):List AV:=[.str s,.bool a,.bool b,.bool c,.bool d,f]
def afQ:List AV:=kdN [] false false false false .bQ++(kdN [105,110,115,101,114,116] true false false true (.fn 526 [])++(kdN [114,101,109,111,118,101] true true false false (.fn 527 [])++(kdN [109,111,118,101] true true true false (.fn 528 [])++(kdN [99,104,97,110,103,101] true false false true (.fn 529 [])++kdN [114,101,115,101,116] false false false true (.fn 530 [])))))
theorem KE (H:Rf C):FnW C 457 []=some (.agg afQ):=by rw [aF H.apb rfl];simp [aha,afQ,kdN]
theorem LW (H:Rf C) (n:Nt):FnW C 336 [.agg (eNt n)]=some (.int .i64 (ntE n)):=by
 have hk:=KE H;simp only [afQ,kdN,qfz,qJj] at hk;obtain ⟨k,a,c,t,x,e⟩:=n;rw [aF H.f336 rfl];unfold ntE;simp only;by_cases h1:k < 1
 ·rw [qwz (.inl h1)];simp (disch:=omega) [J7,h1,aC,H.inl,ak,H.pp,ppB]
 ·by_cases h2:5 < k
  ·rw [qwz (.inr h2)];simp (disch:=omega) [J7,h1,h2,aC,H.inl,ak,H.pp,ppB]
  ·rw [qwq qqq];have h:k=1\/k=2\/k=3\/k=4\/k=5:=by omega
   rcases h with rfl | rfl | rfl | rfl | rfl
   ·by_cases hc:c=0 <;> by_cases ht:t=0 <;> simp (disch:=omega) [J7,hk,hc,ht,aC,H.inl,ak,H.pp,ppB]
   ·by_cases ht:t=0 <;> by_cases hx:x.length=0 <;> simp (disch:=omega) [J7,hk,ht,hx,aC,H.inl,ak,H.pp,ppB]
   ·by_cases hx:x.length=0 <;> simp (disch:=omega) [J7,hk,hx,aC,H.inl,ak,H.pp,ppB]
   ·by_cases hc:c=0 <;> by_cases ht:t=0 <;> simp (disch:=omega) [J7,hk,hc,ht,aC,H.inl,ak,H.pp,ppB]
   ·by_cases ha:a=0 <;> by_cases hc:c=0 <;> by_cases ht:t=0 <;> simp (disch:=omega) [J7,hk,ha,hc,ht,aC,H.inl,ak,H.pp,ppB]
def usN (k:Int):List AV:=if k=1\/k=4 then [.int .i64 1,.int .i64 0,.int .i64 0,.int .i64 1] else if k=2 then [.int .i64 1,.int .i64 1,.int .i64 0,.int .i64 0] else if k=3 then [.int .i64 1,.int .i64 1,.int .i64 1,.int .i64 0] else [.int .i64 0,.int .i64 0,.int .i64 0,.int .i64 1]
theorem agq (H:Rf C) (k:Int) (h:k=1\/k=2\/k=3\/k=4\/k=5):FnW C 455 [.int .u8 k]=some (.agg (usN k)):=by rw [aF H.apm rfl];rcases h with rfl | rfl | rfl | rfl | rfl <;> simp [ahU,usN]
theorem Jq (H:Rf C) (n:Nt) (hx:n.x.length<=1000000):FnW C 333 [.agg (eNt n)]=some (.int .i64 (ntE n)):=by
 obtain ⟨k,a,c,t,x,e⟩:=n;simp only at hx;rw [aF H.f333 rfl];unfold ntE;simp only;by_cases h1:k < 1
 ·rw [qwz (.inl h1)];simp (disch:=omega) [Kw,h1,aC,H.inl,ak,H.pp,ppB]
 ·by_cases h2:5 < k
  ·rw [qwz (.inr h2)];simp (disch:=omega) [Kw,h1,h2,aC,H.inl,ak,H.pp,ppB]
  ·rw [qwq qqq];have h:k=1\/k=2\/k=3\/k=4\/k=5:=by omega
   have hu:=agq H k h;rcases h with rfl | rfl | rfl | rfl | rfl
   ·simp only [usN] at hu;by_cases hc:c=0 <;> by_cases ht:t=0 <;> simp (disch:=omega) [Kw,aj uf.eq_1,aj wU.eq_1,hu,hc,ht,aC,H.inl,ak,H.pp,ppB]
   ·simp [usN] at hu;by_cases ht:t=0 <;> by_cases hx:x.length=0 <;> simp (disch:=omega) [Kw,aj uf.eq_1,aj wU.eq_1,hu,ht,hx,aC,H.inl,ak,H.pp,ppB]
   ·simp [usN] at hu;by_cases hx:x.length=0 <;> simp (disch:=omega) [Kw,aj uf.eq_1,aj wU.eq_1,hu,hx,aC,H.inl,ak,H.pp,ppB]
   ·simp [usN] at hu;by_cases hc:c=0 <;> by_cases ht:t=0 <;> simp (disch:=omega) [Kw,aj uf.eq_1,aj wU.eq_1,hu,hc,ht,aC,H.inl,ak,H.pp,ppB]
   ·simp [usN] at hu;by_cases ha:a=0 <;> by_cases hc:c=0 <;> by_cases ht:t=0 <;> simp (disch:=omega) [Kw,aj uf.eq_1,aj wU.eq_1,hu,ha,hc,ht,aC,H.inl,ak,H.pp,ppB]
structure Us (C:aH):Prop extends Rf C where
 f343:C.fns.get 343=some O6
 f342:C.fns.get 342=some abg
 aoV:C.fns.get 526=some ahO
 aoK:C.fns.get 527=some afw
 anX:C.fns.get 528=some agl
 anN:C.fns.get 529=some agD
 aog:C.fns.get 530=some agA
def ntF (n:Nt):Nat:=if n.k=1 then 109 else if n.k=2 then 110 else if n.k=3 then 237 else if n.k=4 then 114 else 108
def ntA (n:Nt):List AV:=if n.k=1 then [.int .i64 n.a,.ro 4 (n.x.map cIt) n.e] else if n.k=2 then [.int .i64 n.a,.int .i64 n.c] else if n.k=3 then [.int .i64 n.a,.int .i64 n.c,.int .i64 n.t] else if n.k=4 then [.int .i64 n.a,.ro 4 (n.x.map cIt) n.e] else [.ro 4 (n.x.map cIt) n.e]
theorem RV (H:Us C) (ks:List Kd) (ke:Bool) (cap:Int) (l:List En) (e:Bool) (n:Nt) (hc:FnW C 223 [aR ks ke cap,aL l e]=some (.int .i64 0)) (hE:ntE n≠0) :
 FnW C 343 [aR ks ke cap,aL l e,.agg (eNt n)]=some (.tup [.agg [.ro 6 [] true],.int .i64 (ntE n)]):=by
 have h:=LW H.toRf n;generalize ntE n=E at *;rw [aF H.f343 rfl];simp only [eNt] at h;simp (disch:=omega) [O6,hc,h,hE,aC,H.inl,ak,H.pp,ppB]
theorem KH (H:Us C) (ks:List Kd) (ke:Bool) (cap:Int) (l:List En) (e:Bool) (n:Nt) (hc:FnW C 223 [aR ks ke cap,aL l e]=some (.int .i64 0)) (hE:ntE n=0)
 (L:List (List AV)) (f:Bool) (E:Int) (hf:FnW C (ntF n) (aR ks ke cap::aL l e::ntA n)=some (.tup [.agg [.ro 6 L f],.int .i64 E])) :
 FnW C 343 [aR ks ke cap,aL l e,.agg (eNt n)]=some (.tup [.agg [.ro 6 L f],.int .i64 E]):=by
 have h:=LW H.toRf n;have hk:=KE H.toRf;have hr:1<=n.k/\n.k<=5:=by
  unfold ntE at hE;split at hE
  ·cases hE
  ·omega
 rw [hE] at h;simp only [afQ,kdN,qfz,qJj] at hk;obtain ⟨k,a,c,t,x,xe⟩:=n;simp only at hr;simp only [eNt] at h;have h5:k=1\/k=2\/k=3\/k=4\/k=5:=by omega
 rcases h5 with rfl | rfl | rfl | rfl | rfl
 ·simp [ntF,ntA] at hf;have h2:FnW C 526 [aR ks ke cap,aL l e,.agg (eNt ⟨1,a,c,t,x,xe⟩)]=some (.tup [.agg [.ro 6 L f],.int .i64 E]):=by rw [aF H.aoV rfl];simp (disch:=omega) [ahO,hf,aC,H.inl,ak,H.pp,ppB]
  simp only [eNt] at h2;rw [aF H.f343 rfl];simp (disch:=omega) [O6,hc,h,hk,h2,aC,H.inl,ak,H.pp,ppB]
 ·simp [ntF,ntA] at hf;have h2:FnW C 527 [aR ks ke cap,aL l e,.agg (eNt ⟨2,a,c,t,x,xe⟩)]=some (.tup [.agg [.ro 6 L f],.int .i64 E]):=by rw [aF H.aoK rfl];simp (disch:=omega) [afw,hf,aC,H.inl,ak,H.pp,ppB]
  simp only [eNt] at h2;rw [aF H.f343 rfl];simp (disch:=omega) [O6,hc,h,hk,h2,aC,H.inl,ak,H.pp,ppB]
 ·simp [ntF,ntA] at hf;have h2:FnW C 528 [aR ks ke cap,aL l e,.agg (eNt ⟨3,a,c,t,x,xe⟩)]=some (.tup [.agg [.ro 6 L f],.int .i64 E]):=by rw [aF H.anX rfl];simp (disch:=omega) [agl,hf,aC,H.inl,ak,H.pp,ppB]
  simp only [eNt] at h2;rw [aF H.f343 rfl];simp (disch:=omega) [O6,hc,h,hk,h2,aC,H.inl,ak,H.pp,ppB]
 ·simp [ntF,ntA] at hf;have h2:FnW C 529 [aR ks ke cap,aL l e,.agg (eNt ⟨4,a,c,t,x,xe⟩)]=some (.tup [.agg [.ro 6 L f],.int .i64 E]):=by rw [aF H.anN rfl];simp (disch:=omega) [agD,hf,aC,H.inl,ak,H.pp,ppB]
  simp only [eNt] at h2;rw [aF H.f343 rfl];simp (disch:=omega) [O6,hc,h,hk,h2,aC,H.inl,ak,H.pp,ppB]
 ·simp [ntF,ntA] at hf;have h2:FnW C 530 [aR ks ke cap,aL l e,.agg (eNt ⟨5,a,c,t,x,xe⟩)]=some (.tup [.agg [.ro 6 L f],.int .i64 E]):=by rw [aF H.aog rfl];simp (disch:=omega) [agA,hf,aC,H.inl,ak,H.pp,ppB]
  simp only [eNt] at h2;rw [aF H.f343 rfl];simp (disch:=omega) [O6,hc,h,hk,h2,aC,H.inl,ak,H.pp,ppB]
def rtF (n:Nt):Nat:=if n.k=1 then 461 else if n.k=2 then 241 else if n.k=3 then 242 else if n.k=4 then 462 else 463
def rtA (R L:AV) (n:Nt):List AV:=if n.k=1 then [R,L,.int .i64 n.a,.ro 4 (n.x.map cIt) n.e] else if n.k=2 then [L,.int .i64 n.a,.int .i64 n.c] else if n.k=3 then [L,.int .i64 n.a,.int .i64 n.c,.int .i64 n.t] else if n.k=4 then [R,L,.int .i64 n.a,.ro 4 (n.x.map cIt) n.e] else [R,.ro 4 (n.x.map cIt) n.e]
theorem X8 (n:Nt) (h:ntE n≠0):0 < ntE n:=by
 unfold ntE at h |-;repeat' split
 all_goals first | omega | simp_all
theorem Td (H:Us C) (ks:List Kd) (ke:Bool) (cap:Int) (l:List En) (e:Bool) (n:Nt) (hx:n.x.length<=1000000) (hE:ntE n≠0) :
 FnW C 342 [aR ks ke cap,.ro 6 (l.map eEn) e,.agg (eNt n)]=some (.tup [.ro 6 [] true,.int .i64 (ntE n)]):=by
 have h:=Jq H.toRf n hx;have hp:=X8 n hE;generalize ntE n=E at *;rw [aF H.f342 rfl];simp only [eNt] at h;simp (disch:=omega) [abg,h,hp,hE,aC,H.inl,ak,H.pp,ppB]
theorem Jw (H:Us C) (ks:List Kd) (ke:Bool) (cap:Int) (l:List En) (e:Bool) (n:Nt) (hx:n.x.length<=1000000) (hE:ntE n=0)
 (L:List (List AV)) (f:Bool) (E:Int) (hf:FnW C (rtF n) (rtA (aR ks ke cap) (.ro 6 (l.map eEn) e) n)=some (.tup [.ro 6 L f,.int .i64 E])) :
 FnW C 342 [aR ks ke cap,.ro 6 (l.map eEn) e,.agg (eNt n)]=some (.tup [.ro 6 L f,.int .i64 E]):=by
 have h:=Jq H.toRf n hx;have hr:1<=n.k/\n.k<=5:=by
  unfold ntE at hE;split at hE
  ·cases hE
  ·omega
 rw [hE] at h;obtain ⟨k,a,c,t,x,xe⟩:=n;simp only at hr;simp only [eNt] at h;have h5:k=1\/k=2\/k=3\/k=4\/k=5:=by omega
 rcases h5 with rfl | rfl | rfl | rfl | rfl <;> simp [rtF,rtA] at hf <;> rw [aF H.f342 rfl] <;>
  simp (disch:=omega) [abg,h,hf,aC,H.inl,ak,H.pp,ppB]
def apL (ks:List Kd) (l:List En) (n:Nt):List En :=
 if n.k=1 then spl l n.a.toNat 0 (n.x.map (fre ks))
 else if n.k=2 then spl l n.a.toNat n.c.toNat []
 else if n.k=3 then spl (spl l n.a.toNat n.c.toNat []) n.t.toNat 0 ((l.take (n.a.toNat+n.c.toNat)).drop n.a.toNat)
 else if n.k=4 then spl l n.a.toNat n.x.length (n.x.map (fre ks))
 else n.x.map (fre ks)
def apF (ks:List Kd) (cap:Int) (l:List En) (n:Nt):Int :=
 if n.k=1 then (if inR n.a 0 l.length=false then 4 else if 1024 < (l.length:Int)+n.x.length then 3 else dI ks cap (bH l) n.x)
 else if n.k=2 then (if inR n.a n.c l.length=false then 4 else 0)
 else if n.k=3 then (if (inR n.a n.c l.length&&inR n.t 0 (l.length - n.c))=false then 4 else 0)
 else if n.k=4 then (if inR n.a n.x.length l.length=false then 4 else eY ks cap l n.a.toNat n.x)
 else (if 1024 < (n.x.length:Int) then 3 else dI ks cap [] n.x)
def apE (ks:List Kd) (cap:Int) (l:List En) (n:Nt):Int :=if ntE n≠0 then ntE n else if apF ks cap l n≠0 then apF ks cap l n else ovE (apL ks l n)
structure qg (ks:List Kd) (n:Nt):Prop where
 x:∀ y ∈ n.x,iU y
 l:n.x.length<=10000
 b:∀ y ∈ n.x,fM ks.length y=true->-9223372036854775808<=(bW ks y.t).b/\(bW ks y.t).b<=9223372036854775807
structure adS (C:aH):Prop extends Us C,vk C
theorem KN:∀ (l:List En) (s:Int),qj s (l.map En.own)=qj s l
 | [],_=>rfl
 | e::r,s=>by have h:(En.own e).s=e.s:=rfl;simp only [qvz,qj,h,KN r]
theorem Ai (l:List En):ovE (l.map En.own)=ovE l:=by unfold ovE tot;rw [KN]
theorem YE (X:List En):iE X=if ovE X≠0 then dh (ovE X) else .tup [aL (X.map En.own) true,.int .i64 0]:=by unfold iE;rw [Ai]
theorem aiy (F:Int) (X:List En):(if F≠0 then dh F else iE X)=if (if F≠0 then F else ovE X)≠0 then dh (if F≠0 then F else ovE X) else .tup [aL (X.map En.own) true,.int .i64 0]:=by
 rw [YE];by_cases h:F=0
 ·rw [qwq (by simp [h]),qwq (c:=F≠0) (by simp [h])]
 ·rw [qwz h,qwz (c:=F≠0) h,qwz h]
theorem Za (H:adS C) (ks:List Kd) (ke:Bool) (cap:Int) (hr:jF ks) (l:List En) (e:Bool) (hl:l.length<=10000) (hs:∀ x ∈ l,dQ x) (hc:ckE ks cap l=0) (n:Nt) (hn:qg ks n) :
 FnW C 343 [aR ks ke cap,aL l e,.agg (eNt n)]=some (if apE ks cap l n≠0 then dh (apE ks cap l n) else .tup [aL ((apL ks l n).map En.own) true,.int .i64 0]):=by
 have h0:FnW C 223 [aR ks ke cap,aL l e]=some (.int .i64 0):=by rw [iY H.tovk.toET.tozD ks ke cap hr l e qqq hs,hc]
 by_cases hE:ntE n=0
 ·have key:FnW C (ntF n) (aR ks ke cap::aL l e::ntA n)=some (if apE ks cap l n≠0 then dh (apE ks cap l n) else .tup [aL ((apL ks l n).map En.own) true,.int .i64 0]):=by
   have hr5:1<=n.k/\n.k<=5:=by
    unfold ntE at hE;split at hE
    ·cases hE
    ·omega
   have hl2:=hn.l;have hA:apE ks cap l n=if apF ks cap l n≠0 then apF ks cap l n else ovE (apL ks l n):=by unfold apE;rw [qwq (by rw [hE];simp)]
   rw [hA,<- aiy];obtain ⟨k,a,c,t,x,xe⟩:=n;simp only at hr5 hl2;have hx:=hn.x;have hb:=hn.b;simp only at hx hb;have h5:k=1\/k=2\/k=3\/k=4\/k=5:=by omega
   rcases h5 with rfl | rfl | rfl | rfl | rfl
   ·have h:=Zv H.tovk ks ke cap hr l e qqq hs a x xe hx qqq hb qqq;rw [hc,qwq qqz] at h;have h1:ntF ⟨1,a,c,t,x,xe⟩=109:=rfl;have h2:ntA ⟨1,a,c,t,x,xe⟩=[.int .i64 a,.ro 4 (x.map cIt) xe]:=rfl;have h3:apL ks l ⟨1,a,c,t,x,xe⟩=spl l a.toNat 0 (x.map (fre ks)):=rfl;have h4:apF ks cap l ⟨1,a,c,t,x,xe⟩=if inR a 0 l.length=false then 4 else if 1024 < (l.length:Int)+x.length then 3 else dI ks cap (bH l) x:=rfl;rw [h1,h2,h3,h4,h];by_cases c1:inR a 0 l.length=false
    ·rw [qwz c1,qwz c1];rfl
    ·rw [qwq c1,qwq c1];by_cases c2:1024 < (l.length:Int)+x.length
     ·rw [qwz c2,qwz c2];rfl
     ·rw [qwq c2,qwq c2]
   ·have h:=LD H.tovk.toET ks ke cap hr l e qqq hs a c;rw [hc,qwq qqz] at h;have h1:ntF ⟨2,a,c,t,x,xe⟩=110:=rfl;have h2:ntA ⟨2,a,c,t,x,xe⟩=[.int .i64 a,.int .i64 c]:=rfl;have h3:apL ks l ⟨2,a,c,t,x,xe⟩=spl l a.toNat c.toNat []:=rfl;have h4:apF ks cap l ⟨2,a,c,t,x,xe⟩=if inR a c l.length=false then 4 else 0:=rfl;rw [h1,h2,h3,h4,h];by_cases c1:inR a c l.length=false
    ·rw [qwz c1,qwz c1];rfl
    ·rw [qwq c1,qwq c1];rfl
   ·have h:=afW H.tovk.toET ks ke cap hr l e qqq hs a c t;rw [hc,qwq qqz] at h;have h1:ntF ⟨3,a,c,t,x,xe⟩=237:=rfl;have h2:ntA ⟨3,a,c,t,x,xe⟩=[.int .i64 a,.int .i64 c,.int .i64 t]:=rfl;have h3:apL ks l ⟨3,a,c,t,x,xe⟩=spl (spl l a.toNat c.toNat []) t.toNat 0 ((l.take (a.toNat+c.toNat)).drop a.toNat):=rfl;have h4:apF ks cap l ⟨3,a,c,t,x,xe⟩=if (inR a c l.length&&inR t 0 (l.length - c))=false then 4 else 0:=rfl;rw [h1,h2,h3,h4,h];by_cases c1:(inR a c l.length&&inR t 0 (l.length - c))=false
    ·rw [qwz c1,qwz c1];rfl
    ·rw [qwq c1,qwq c1];rfl
   ·have h:=ZW H.tovk.toET ks ke cap hr l e qqq hs a x xe qqq hx hb;rw [hc,qwq qqz] at h;have h1:ntF ⟨4,a,c,t,x,xe⟩=114:=rfl;have h2:ntA ⟨4,a,c,t,x,xe⟩=[.int .i64 a,.ro 4 (x.map cIt) xe]:=rfl;have h3:apL ks l ⟨4,a,c,t,x,xe⟩=spl l a.toNat x.length (x.map (fre ks)):=rfl;have h4:apF ks cap l ⟨4,a,c,t,x,xe⟩=if inR a x.length l.length=false then 4 else eY ks cap l a.toNat x:=rfl;rw [h1,h2,h3,h4,h];by_cases c1:inR a x.length l.length=false
    ·rw [qwz c1,qwz c1];rfl
    ·rw [qwq c1,qwq c1]
   ·have h:=ae5 H.tovk ks ke cap hr l e qqq hs x xe hx qqq hb;rw [hc,qwq qqz] at h;have h1:ntF ⟨5,a,c,t,x,xe⟩=108:=rfl;have h2:ntA ⟨5,a,c,t,x,xe⟩=[.ro 4 (x.map cIt) xe]:=rfl;have h3:apL ks l ⟨5,a,c,t,x,xe⟩=x.map (fre ks):=rfl;have h4:apF ks cap l ⟨5,a,c,t,x,xe⟩=if 1024 < (x.length:Int) then 3 else dI ks cap [] x:=rfl;rw [h1,h2,h3,h4,h];by_cases c1:1024 < (x.length:Int)
    ·rw [qwz c1,qwz c1];rfl
    ·rw [qwq c1,qwq c1]
  generalize apE ks cap l n=E at *;by_cases hE2:E=0
  ·subst hE2;simp only [ne_eq,qmj,qWz] at key |-;exact KH H.toUs ks ke cap l e n h0 hE _ _ _ key
  ·rw [qwz hE2] at key |-;exact KH H.toUs ks ke cap l e n h0 hE _ _ _ key
 ·have hA:apE ks cap l n=ntE n:=by unfold apE;rw [qwz hE]
  rw [hA,qwz hE];exact RV H.toUs ks ke cap l e n h0 hE
end Go.D
end
section
namespace Go.D
open Go Go.Pav Go.Pw P
theorem ae1 {ks:List Kd} {cap:Int} {e:En} {b:Bool} (h:enE ks cap e b=0):b=false:=by
 cases b with
 | false=>rfl
 | true =>
  have h1:itE ks cap e.i true≠0:=by
   unfold itE;split
   ·simp
   ·rw [qwz rfl];simp
  unfold enE at h;rw [qwz h1] at h;exact absurd h h1
theorem agI (ks:List Kd) (cap:Int):∀ (l:List En) (seen:List Int),chk ks cap seen l=0↔(∀ e ∈ l,enE ks cap e false=0/\e.i.k ∉ seen)/\(bH l).Nodup:=by
 intro l;induction l with
 | nil=>intro seen;simp [chk,bH]
 | cons a r ih =>
  intro seen;rw [chk];constructor
  ·intro h;split at h
   ·rename_i hc;exact absurd h hc
   ·rename_i hc;have hc:enE ks cap a (seen.contains a.i.k)=0:=by simpa using hc
    have hf:=ae1 hc;rw [hf] at hc;have hns:a.i.k ∉ seen:=by simpa using hf
    obtain ⟨q1,q2⟩:=(ih _).1 h;refine ⟨?_,?_⟩
    ·intro e he;rcases qkq.1 he with rfl | he
     ·exact ⟨hc,hns⟩
     ·obtain ⟨p1,p2⟩:=q1 e he;exact ⟨p1,λhm=>p2 (by simp [hm])⟩
    ·simp only [bH,qvz,qtx] at q2 |-;refine ⟨?_,q2⟩;intro hm;obtain ⟨e,he,hk⟩:=qyq.1 hm;exact (q1 e he).2 (by simp [hk])
  ·rintro ⟨q1,q2⟩;obtain ⟨p1,p2⟩:=q1 a (qXq ..);have hf:seen.contains a.i.k=false:=by simpa using p2
   rw [hf,qwq (by simp [p1])];rw [ih];simp only [bH,qvz,qtx] at q2 |-;refine ⟨?_,q2.2⟩;intro e he;refine ⟨(q1 e (qyz _ he)).1,?_⟩;intro hm;rcases qjj.1 hm with hm | hm
   ·exact (q1 e (qyz _ he)).2 hm
   ·simp only [qVx] at hm;exact q2.1 (qyq.2 ⟨e,he,hm⟩)
theorem lF (ks:List Kd) (cap:Int) (l:List En):ckE ks cap l=0↔rJ ks cap=true/\l.length<=1024/\(∀ e ∈ l,enE ks cap e false=0)/\(bH l).Nodup/\ovE l=0:=by
 have hi:=agI ks cap l [];unfold ckE;constructor
 ·intro h;split at h
  ·cases h
  ·rename_i h1;split at h
   ·cases h
   ·rename_i h2;split at h
    ·rename_i h3;exact absurd h h3
    ·rename_i h3;have h3:chk ks cap [] l=0:=by simpa using h3
     obtain ⟨q1,q2⟩:=hi.1 h3;exact ⟨by simpa using h1,by omega,λe he=>(q1 e he).1,q2,h⟩
 ·rintro ⟨h1,h2,h3,h4,h5⟩;have h6:chk ks cap [] l=0:=hi.2 ⟨λe he=>⟨h3 e he,by simp⟩,h4⟩;rw [qwq (by simp [h1]),qwq qqq,qwq (by simp [h6]),h5]
theorem ad2 {ks:List Kd} {cap:Int} {x:It} {b:Bool} (h:itE ks cap x b=0):b=false:=by
 cases b with
 | false=>rfl
 | true =>
  unfold itE at h;split at h
  ·simp at h
  ·rw [qwz rfl] at h;simp at h
theorem xK (ks:List Kd) (cap:Int):∀ (x:List It) (seen:List Int),dI ks cap seen x=0↔(∀ y ∈ x,itE ks cap y false=0/\y.k ∉ seen)/\(x.map λy=>y.k).Nodup:=by
 intro x;induction x with
 | nil=>intro seen;simp [dI]
 | cons a r ih =>
  intro seen;rw [dI];constructor
  ·intro h;split at h
   ·rename_i hc;exact absurd h hc
   ·rename_i hc;have hc:itE ks cap a (seen.contains a.k)=0:=by simpa using hc
    have hf:=ad2 hc;rw [hf] at hc;have hns:a.k ∉ seen:=by simpa using hf
    obtain ⟨q1,q2⟩:=(ih _).1 h;refine ⟨?_,?_⟩
    ·intro e he;rcases qkq.1 he with rfl | he
     ·exact ⟨hc,hns⟩
     ·obtain ⟨p1,p2⟩:=q1 e he;exact ⟨p1,λhm=>p2 (by simp [hm])⟩
    ·simp only [qvz,qtx];refine ⟨?_,q2⟩;intro hm;obtain ⟨e,he,hk⟩:=qyq.1 hm;exact (q1 e he).2 (by simp [hk])
  ·rintro ⟨q1,q2⟩;obtain ⟨p1,p2⟩:=q1 a (qXq ..);have hf:seen.contains a.k=false:=by simpa using p2
   rw [hf,qwq (by simp [p1])];rw [ih];simp only [qvz,qtx] at q2;refine ⟨?_,q2.2⟩;intro e he;refine ⟨(q1 e (qyz _ he)).1,?_⟩;intro hm;rcases qjj.1 hm with hm | hm
   ·exact (q1 e (qyz _ he)).2 hm
   ·simp only [qVx] at hm;exact q2.1 (qyq.2 ⟨e,he,hm⟩)
theorem bD {α β:Type} (f:α->β) (l:List α) (a c:Nat) (x:List α):(spl l a c x).map f=spl (l.map f) a c (x.map f):=by unfold spl;simp only [qcz,qdj,qbx]
theorem U4 {ks:List Kd} {cap:Int} (hr:rJ ks cap=true) {y:It} (hy:iU y) (h:itE ks cap y false=0):enE ks cap (fre ks y) false=0:=by
 have hb:hOk (bW ks y.t).b=true:=by
  have ht:y.t < ks.length:=by
   unfold itE at h;split at h
   ·simp at h
   ·rename_i h1;unfold fM at h1;simp only [zwq,qzq,qvj] at h1;exact h1.1.1.2
  have ht0:=hy.t.1;have hlt:y.t.toNat < ks.length:=by omega
  unfold rJ at hr;simp only [qzq,qjx] at hr;have:=hr.2 ks[y.t.toNat] (qxx hlt);unfold OM at this;unfold bW;rw [qqj hlt];simp only [qzq] at this;exact this.1
 unfold enE fre;simp only;rw [qwq (by simp [h]),qwz (by exact ⟨hb,by simp⟩)]
theorem aiV {ks:List Kd} {cap:Int} {l m:List En} (hp:m.Perm l) (hc:ckE ks cap l=0) (ho:ovE m=0):ckE ks cap m=0:=by obtain ⟨h1,h2,h3,h4,_⟩:=(lF ks cap l).1 hc;exact (lF ks cap m).2 ⟨h1,by rw [hp.length_eq];exact h2,λe he=>h3 e (hp.mem_iff.1 he),(hp.map _).nodup_iff.2 h4,ho⟩
theorem alU {ks:List Kd} {cap:Int} {l m:List En} (hp:m.Sublist l) (hc:ckE ks cap l=0) (ho:ovE m=0):ckE ks cap m=0:=by obtain ⟨h1,h2,h3,h4,_⟩:=(lF ks cap l).1 hc;exact (lF ks cap m).2 ⟨h1,qej hp.length_le h2,λe he=>h3 e (hp.subset he),(hp.map _).nodup h4,ho⟩
theorem uq {α:Type} (l:List α) (a c:Nat):(spl l a c []).Sublist l:=by
 unfold spl;rw [qXz];have h:(l.take a++l.drop (a+c)).Sublist (l.take a++l.drop a):=by refine (List.Sublist.refl _).append ?_;rw [<- zvx];exact List.drop_sublist _ _
 rwa [qex] at h
theorem zT {α:Type} (l:List α) (a:Nat) (x:List α):(spl l a 0 x).Perm (x++l):=by unfold spl;rw [qbz];have h1:(l.take a++x++l.drop a).Perm (x++l.take a++l.drop a):=(zjx).append_right _;rwa [qQj x,qex] at h1
theorem pX {α:Type} (l:List α) (a c t:Nat):(spl (spl l a c []) t 0 ((l.take (a+c)).drop a)).Perm l:=by
 refine (zT _ _ _).trans ?_;unfold spl;rw [qXz];have h1:((l.take (a+c)).drop a++(l.take a++l.drop (a+c))).Perm (l.take a++(l.take (a+c)).drop a++l.drop (a+c)):=by rw [<- qQj];exact (zjx).append_right _
 refine h1.trans ?_;have h2:l.take a=(l.take (a+c)).take a:=by rw [List.take_take,q7x qqq]
 rw [h2,qex,qex]
theorem amF {ks:List Kd} {cap:Int} {l:List En} (hc:ckE ks cap l=0) (a:Nat) {x:List It} (hx:∀ y ∈ x,iU y) (hl:(l.length:Int)+x.length<=1024) (hi:dI ks cap (bH l) x=0) (ho:ovE (spl l a 0 (x.map (fre ks)))=0) :
 ckE ks cap (spl l a 0 (x.map (fre ks)))=0:=by
 obtain ⟨h1,h2,h3,h4,_⟩:=(lF ks cap l).1 hc;obtain ⟨q1,q2⟩:=(xK ks cap x _).1 hi;have hp:=zT l a (x.map (fre ks));refine (lF _ _ _).2 ⟨h1,?_,?_,?_,ho⟩
 ·rw [hp.length_eq];simp;omega
 ·intro e he;rcases qjj.1 (hp.mem_iff.1 he) with he | he
  ·obtain ⟨y,hy,rfl⟩:=qyq.1 he;exact U4 h1 (hx y hy) (q1 y hy).1
  ·exact h3 e he
 ·refine (hp.map _).nodup_iff.2 ?_;rw [qcz,quj];have hk:(x.map (fre ks)).map (λe=>e.i.k)=x.map λy=>y.k:=by rw [qVz];rfl
  refine ⟨by rw [hk];exact q2,h4,?_⟩;rw [hk];intro u hu v hv huv;subst huv;obtain ⟨y,hy,rfl⟩:=qyq.1 hu;exact (q1 y hy).2 hv
theorem ame {ks:List Kd} {cap:Int} (hr:rJ ks cap=true) {x:List It} (hx:∀ y ∈ x,iU y) (hl:(x.length:Int)<=1024) (hi:dI ks cap [] x=0) (ho:ovE (x.map (fre ks))=0):ckE ks cap (x.map (fre ks))=0:=by
 obtain ⟨q1,q2⟩:=(xK ks cap x _).1 hi;refine (lF _ _ _).2 ⟨hr,by simp;omega,?_,?_,ho⟩
 ·intro e he;obtain ⟨y,hy,rfl⟩:=qyq.1 he;exact U4 hr (hx y hy) (q1 y hy).1
 ·have hk:bH (x.map (fre ks))=x.map λy=>y.k:=by unfold bH;rw [qVz];rfl
  rw [hk];exact q2
theorem UJ (ks:List Kd) (cap:Int) (l:List En):∀ (x:List It) (j:Nat),j+x.length<=l.length->eY ks cap l j x=0->(∀ y ∈ x,itE ks cap y false=0)/\(x.map λy=>y.k)=((bH l).drop j).take x.length:=by
 intro x;induction x with
 | nil=>intro j _ _;simp
 | cons a r ih =>
  intro j hj h;rw [eY] at h;simp only [qaz] at hj;split at h
  ·simp at h
  ·rename_i h1;split at h
   ·simp at h
   ·rename_i h2;split at h
    ·rename_i h3;exact absurd h h3
    ·rename_i h3;obtain ⟨q1,q2⟩:=ih (j+1) qqq h;have h2:keyAt l j=a.k:=by simpa using h2
     have h3:gJ (bW ks a.t).p a cap=0:=by simpa using h3
     refine ⟨?_,?_⟩
     ·intro y hy;rcases qkq.1 hy with rfl | hy
      ·unfold itE;rw [qwq h1,qwq qqz,qwz h3]
      ·exact q1 y hy
     ·have hlt:j < (bH l).length:=by unfold bH;simp;omega
      rw [qbq hlt,qaz,List.take_succ_cons,qvz,q2];congr 1;rw [<- h2];unfold keyAt bH;rw [qqj qqq];simp
theorem akU {ks:List Kd} {cap:Int} {l:List En} (hc:ckE ks cap l=0) (a:Nat) {x:List It} (hx:∀ y ∈ x,iU y) (hl:a+x.length<=l.length) (hi:eY ks cap l a x=0) (ho:ovE (spl l a x.length (x.map (fre ks)))=0) :
 ckE ks cap (spl l a x.length (x.map (fre ks)))=0:=by
 obtain ⟨h1,h2,h3,h4,_⟩:=(lF ks cap l).1 hc;obtain ⟨q1,q2⟩:=UJ ks cap l x a hl hi;refine (lF _ _ _).2 ⟨h1,?_,?_,?_,ho⟩
 ·unfold spl;simp;omega
 ·intro e he;unfold spl at he;rcases qjj.1 he with he | he
  ·rcases qjj.1 he with he | he
   ·exact h3 e (qZz he)
   ·obtain ⟨y,hy,rfl⟩:=qyq.1 he;exact U4 h1 (hx y hy) (q1 y hy)
  ·exact h3 e (qQz he)
 ·have hk:bH (spl l a x.length (x.map (fre ks)))=bH l:=by
   have hm:(x.map (fre ks)).map (λe=>e.i.k)=x.map λy=>y.k:=by rw [qVz];rfl
   unfold bH at q2 |-;rw [bD,hm,q2];unfold spl;rw [<- zvx,qQj,qex,qex]
  rw [hk];exact h4
theorem ug {a c n:Int} (h:inR a c n=true):0<=a/\0<=c/\a+c<=n:=by unfold inR at h;simp only [qzq,qvj] at h;omega
theorem Jl {ks:List Kd} {cap:Int} {l:List En} {n:Nt} (hn:qg ks n) (hc:ckE ks cap l=0) (h:apE ks cap l n=0):ckE ks cap (apL ks l n)=0:=by
 unfold apE at h;split at h
 ·rename_i h1;exact absurd h h1
 ·rename_i hE;split at h
  ·rename_i h1;exact absurd h h1
  ·rename_i hF;have hF:apF ks cap l n=0:=by simpa using hF
   have hx:=hn.x;unfold apF at hF;unfold apL at h |-;split at hF
   ·rename_i hk;rw [qwz hk] at h |-;split at hF
    ·simp at hF
    ·split at hF
     ·simp at hF
     ·exact amF hc _ hx qqq hF h
   ·rename_i hk;rw [qwq hk] at h |-;split at hF
    ·rename_i hk;rw [qwz hk] at h |-;exact alU (uq _ _ _) hc h
    ·rename_i hk;rw [qwq hk] at h |-;split at hF
     ·rename_i hk;rw [qwz hk] at h |-;exact aiV (pX _ _ _ _) hc h
     ·rename_i hk;rw [qwq hk] at h |-;split at hF
      ·rename_i hk;rw [qwz hk] at h |-;split at hF
       ·simp at hF
       ·rename_i hi;have:=ug (by simpa using hi);exact akU hc _ hx qqq hF h
      ·rename_i hk;rw [qwq hk] at h |-;split at hF
       ·simp at hF
       ·exact ame (VU hc) hx qqq hF h
end Go.D
end
section
namespace Go.D
open Go Go.Pav Go.Pw P
attribute [-simp] List.getElem_cons_drop
variable {C:aH}
def Jy {α:Type} (a:Nat) (X:List α):Nat->List α->List α
 | i,[]=>if i=a then X else []
 | i,e::r=>(if i=a then X else [])++e::Jy a X (i+1) r
theorem Yp {α:Type} (a:Nat) (X:List α):∀ (l:List α) (i:Nat),a < i->Jy a X i l=l
 | [],i,h=>by rw [Jy,qwq qqq]
 | e::r,i,h=>by rw [Jy,qwq qqq,Yp a X r (i+1) qqq];rfl
theorem Y3 {α:Type} (a:Nat) (X:List α):∀ (l:List α) (i:Nat),i<=a->a<=i+l.length->Jy a X i l=l.take (a - i)++X++l.drop (a - i)
 | [],i,h,h2=>by
  simp at h2;obtain rfl:i=a:=by omega
  simp [Jy]
 | e::r,i,h,h2=>by
  rw [Jy];by_cases c:i=a
  ·rw [qwz c,Yp a X r (i+1) qqq,show a - i=0 by omega];simp
  ·simp at h2;rw [qwq c,Y3 a X r (i+1) qqq qqq,show a - i=(a - (i+1))+1 by omega];simp
theorem Tv {α:Type} (a:Nat) (X:List α) (l:List α) (h:a<=l.length):Jy a X 0 l=spl l a 0 X:=by rw [Y3 a X l 0 qqq qqq];unfold spl;simp
structure I7 (C:aH):Prop extends adS C where
 aox:C.fns.get 461=some Uh
 anW:C.fns.get 463=some agL
theorem afp (H:I7 C) (ks:List Kd) (ke:Bool) (cap:Int) (l:List En) (le:Bool) (x:List It) (xe:Bool) (hxl:x.length<=1024) (hx:∀ y ∈ x,iU y)
 (hf:∀ y ∈ x,FnW C 240 [aR ks ke cap,eIt y]=some (aE (fre ks y))) (a i:Int) (R:Option AV):∀ n j,n+j=x.length->∀ G:List En,G.length+n<=3000 ->
 (CK C 0 (aO [.tmp 8,.tmp 9]) [.bk 1 ⟨true,[11,10,4,3,2,1],[]⟩,.sq qA,.sq wO,.bk 0 ⟨true,[10],[]⟩,.sq nI] qL
  ⟨[(11,.int .i64 i),(10,.sl 0 6 0 (G.length+n) (G.length+n) false),(4,.ptr 1 0 0),(3,.ro 4 (x.map cIt) xe),(2,.int .i64 a),(1,.ro 6 (l.map eEn) le)],[(0,.cells 6 ((G++(x.drop j).map (fre ks)).map eEn) true true),(1,.cells 2 [[.ro 9 (ks.map eKd) ke,.int .i64 cap]] true true)],2⟩=R) ->
 F5 C ⟨[(12,.int .i64 j),(11,.int .i64 i),(10,.sl 0 6 0 G.length G.length false),(4,.ptr 1 0 0),(3,.ro 4 (x.map cIt) xe),(2,.int .i64 a),(1,.ro 6 (l.map eEn) le)],[(0,.cells 6 (G.map eEn) true true),(1,.cells 2 [[.ro 9 (ks.map eKd) ke,.int .i64 cap]] true true)],2⟩=R:=by
 intro n;induction n with
 | zero =>
  intro j hj G hG hR;have h1:x.drop j=[]:=qwj qqq;have h3:¬ j < x.length:=by omega
  rw [h1] at hR;simp only [F5];rw [aj zU.eq_1];simp at hR;simp (disch:=omega) [h3,hR]
 | succ n ih =>
  intro j hj G hG hR;have h1:j < x.length:=by omega
  have hfit:(G.length+1) * 73<=35184372088832:=by omega
  have hj2:=hf x[j] (qxx h1);rw [drop_cons h1] at hR;have this:=ih (j+1) qqq (G++[fre ks x[j]]) qqx (by
   have e1:(G++[fre ks x[j]]).length+n=G.length+(n+1):=by simp;omega
   rw [e1,qQj];exact hR)
  simp only [F5] at this |-;rw [aj zU.eq_1];try simp [fre] at this
  try simp only [aE,eEn,eIt,fre] at hj2
  simp (disch:=omega) [h1,hj2,hfit,aC,H.inl,ak,H.pp,ppB,this]
def rfO (o:List En):AV:=if ovE o≠0 then .tup [.ro 6 [] true,.int .i64 13] else .tup [.ro 6 (o.map eEn) false,.int .i64 0]
def rest (a:Nat) (X l:List En) (i:Nat):List En:=if i<=l.length then Jy a X i (l.drop i) else []
theorem ade (H:I7 C) (o:List En) (hs:∀ x ∈ o,dQ x) (hl:o.length<=3000) (h:aG) :
 CK C 0 (aO [.tmp 8,.tmp 9]) [] nI ⟨[(10,.sl 0 6 0 o.length o.length false)],[(0,.cells 6 (o.map eEn) true true)],1⟩=some (rfO o):=by
 have hv:=TT H.tovk.toET.tozD.tojR o false qqq hs;have h13:ovE o=0\/ovE o=13:=by unfold ovE;split <;> simp
 unfold rfO;rcases h13 with h0 | h0
 ·rw [h0] at hv;rw [h0,qwq qqz];cases o with
  | nil=>simp at hv;simp [aj nI.eq_1,hv,H.inl,ak,H.pp,ppB]
  | cons g G=>simp at hv;simp (disch:=(first | omega | (simp;done) | (simp;omega))) [aj nI.eq_1,hv,qzz,H.inl,ak,H.pp,ppB]
 ·rw [h0] at hv;rw [h0,qwz qqz];cases o with
  | nil=>simp at hv;simp [aj nI.eq_1,hv,H.inl,ak,H.pp,ppB]
  | cons g G=>simp at hv;simp (disch:=(first | omega | (simp;done) | (simp;omega))) [aj nI.eq_1,hv,qzz,H.inl,ak,H.pp,ppB]
theorem aas (H:I7 C) (ks:List Kd) (ke:Bool) (cap:Int) (l:List En) (le:Bool) (hll:l.length<=1024) (x:List It) (xe:Bool) (hxl:x.length<=1024) (hx:∀ y ∈ x,iU y)
 (hf:∀ y ∈ x,FnW C 240 [aR ks ke cap,eIt y]=some (aE (fre ks y))) (a:Nat):∀ n i,n+i=l.length+1->∀ G:List En,G.length+n+(if i<=a then x.length else 0)<=2900 ->
 (∀ e ∈ G++rest a (x.map (fre ks)) l i,dQ e) ->
 qW C ⟨[(11,.int .i64 i),(10,.sl 0 6 0 G.length G.length false),(4,.ptr 1 0 0),(3,.ro 4 (x.map cIt) xe),(2,.int .i64 a),(1,.ro 6 (l.map eEn) le)],[(0,.cells 6 (G.map eEn) true true),(1,.cells 2 [[.ro 9 (ks.map eKd) ke,.int .i64 cap]] true true)],2⟩ =
  some (rfO (G++rest a (x.map (fre ks)) l i)):=by
 intro n;induction n with
 | zero =>
  intro i hi G hG hs;have h3:¬ i<=l.length:=by omega
  have hr:rest a (x.map (fre ks)) l i=[]:=by unfold rest;rw [qwq h3]
  rw [hr,qXz] at hs |-;have he:=ade H G hs qqq [];simp only [qW];rw [aj uy.eq_1];simp (disch:=omega) [h3,he]
 | succ n ih =>
  intro i hi G hG hs;have h1:i<=l.length:=by omega
  have tail:∀ G':List En,G'.length+(n+1)+(if i+1<=a then x.length else 0)<=2900->(∀ e ∈ G'++((l.drop i).take 1++rest a (x.map (fre ks)) l (i+1)),dQ e) ->
   CK C 0 (aO [.tmp 8,.tmp 9]) [.bk 1 ⟨true,[11,10,4,3,2,1],[]⟩,.sq qA,.sq wO,.bk 0 ⟨true,[10],[]⟩,.sq nI] qL
    ⟨[(11,.int .i64 i),(10,.sl 0 6 0 G'.length G'.length false),(4,.ptr 1 0 0),(3,.ro 4 (x.map cIt) xe),(2,.int .i64 a),(1,.ro 6 (l.map eEn) le)],[(0,.cells 6 (G'.map eEn) true true),(1,.cells 2 [[.ro 9 (ks.map eKd) ke,.int .i64 cap]] true true)],2⟩ =
   some (rfO (G'++((l.drop i).take 1++rest a (x.map (fre ks)) l (i+1)))):=by
   intro G' hG' hs';have hfit:(G'.length+1) * 73<=35184372088832:=by omega
   by_cases c:i < l.length
   ·have hd:(l.drop i).take 1=[l[i]]:=by rw [drop_cons c];rfl
    rw [hd] at hs' |-;have this:=ih (i+1) qqq (G'++[l[i]]) qqx (by rw [qQj];exact hs');rw [qQj] at this;generalize rfO (G'++([l[i]]++rest a (x.map (fre ks)) l (i+1)))=Q at *;simp only [qW] at this;rw [aj qL.eq_1];simp at this;simp (disch:=omega) [aj qA.eq_1,c,hfit,aC,this]
   ·have hd:(l.drop i).take 1=[]:=by rw [qwj qqq];rfl
    rw [hd,qJj] at hs' |-;have this:=ih (i+1) qqq G' qqq hs';generalize rfO (G'++rest a (x.map (fre ks)) l (i+1))=Q at *;simp only [qW] at this;rw [aj qL.eq_1];simp at this;simp (disch:=omega) [aj qA.eq_1,c,hfit,aC,this]
  have hrest:rest a (x.map (fre ks)) l i=(if i=a then x.map (fre ks) else [])++((l.drop i).take 1++rest a (x.map (fre ks)) l (i+1)):=by
   unfold rest;rw [qwz h1];by_cases c:i < l.length
   ·have c2:i+1<=l.length:=by omega
    rw [qwz c2,drop_cons c,Jy];rfl
   ·have c2:¬ i+1<=l.length:=by omega
    rw [qwq c2,qwj qqq,Jy];simp
  rw [hrest] at hs |-;by_cases c:i=a
  ·subst c;rw [qwz rfl] at hs |-;rw [qwz (qxq _)] at hG;have ht:=tail (G++x.map (fre ks)) (by rw [qwq qqq];simp;omega) (by rw [qQj];exact hs);rw [qQj] at ht;generalize rfO (G++(x.map (fre ks)++((l.drop i).take 1++rest i (x.map (fre ks)) l (i+1))))=Q at *;have this:=afp H ks ke cap l le x xe hxl hx hf i i (some Q) x.length 0 qqz G qqq (by
    rw [qjq];have e1:(G++x.map (fre ks)).length=G.length+x.length:=by simp
    rw [<- e1];exact ht)
   simp only [F5] at this;simp only [qW];rw [aj uy.eq_1];simp at this;simp (disch:=omega) [h1,aC,this]
  ·rw [qwq c,qJj] at hs |-;have c':¬ (i:Int)=a:=by omega
   have hfit:(G.length+1) * 73<=35184372088832:=by split at hG <;> omega
   by_cases d:i < l.length
   ·have hd:(l.drop i).take 1=[l[i]]:=by rw [drop_cons d];rfl
    rw [hd] at hs |-;have this:=ih (i+1) qqq (G++[l[i]]) (by simp;split <;> split at hG <;> omega) (by rw [qQj];exact hs);rw [qQj] at this;generalize rfO (G++([l[i]]++rest a (x.map (fre ks)) l (i+1)))=Q at *;simp only [qW] at this |-;rw [aj uy.eq_1];simp at this;simp (disch:=omega) [aj qL.eq_1,aj qA.eq_1,h1,c,c',d,hfit,aC,this]
   ·have hd:(l.drop i).take 1=[]:=by rw [qwj qqq];rfl
    rw [hd,qJj] at hs |-;have this:=ih (i+1) qqq G (by split <;> split at hG <;> omega) hs;generalize rfO (G++rest a (x.map (fre ks)) l (i+1))=Q at *;simp only [qW] at this |-;rw [aj uy.eq_1];simp at this;simp (disch:=omega) [aj qL.eq_1,aj qA.eq_1,h1,c,c',d,hfit,aC,this]
theorem akq (a:Int) (n:Int):inR a 0 n=false↔a < 0\/n < a:=by unfold inR;by_cases h1:0<=a <;> by_cases h2:a<=n <;> simp [h1,h2] <;> omega
theorem Qn (ks:List Kd) (cap:Int):∀ (x:List It) (seen:List Int),0<=dI ks cap seen x
 | [],_=>by simp [dI]
 | a::r,seen=>by
  rw [dI];have h:0<=itE ks cap a (seen.contains a.k):=by
   unfold itE;split
   ·simp
   ·split
    ·simp
    ·split <;> simp
  split
  ·exact h
  ·exact Qn ks cap r _
theorem ahd (H:I7 C) (ks:List Kd) (ke:Bool) (cap:Int) (l:List En) (le:Bool) (hll:l.length<=1024) (hs:∀ e ∈ l,dQ e) (a:Int) (x:List It) (xe:Bool) (hx:∀ y ∈ x,iU y) (hxl:x.length<=10000)
 (hi:FnW C 532 [aR ks ke cap,.ro 6 (l.map eEn) le,.ro 4 (x.map cIt) xe]=some (.int .i64 (dI ks cap (bH l) x)))
 (hf:dI ks cap (bH l) x=0->∀ y ∈ x,FnW C 240 [aR ks ke cap,eIt y]=some (aE (fre ks y)))
 (hfe:dI ks cap (bH l) x=0->∀ y ∈ x,dQ (fre ks y)) :
 FnW C 461 [aR ks ke cap,.ro 6 (l.map eEn) le,.int .i64 a,.ro 4 (x.map cIt) xe] =
  some (if inR a 0 l.length=false then .tup [.ro 6 [] true,.int .i64 4] else if 1024 < (l.length:Int)+x.length then .tup [.ro 6 [] true,.int .i64 3] else if dI ks cap (bH l) x≠0 then .tup [.ro 6 [] true,.int .i64 (dI ks cap (bH l) x)] else rfO (spl l a.toNat 0 (x.map (fre ks)))):=by
 rw [aF H.aox rfl];by_cases c1:a < 0
 ·rw [qwz ((akq _ _).2 (.inl c1))];simp (disch:=omega) [Uh,c1,aC,H.inl,ak,H.pp,ppB]
 ·by_cases c2:(l.length:Int) < a
  ·rw [qwz ((akq _ _).2 (.inr c2))];simp (disch:=omega) [Uh,c1,c2,aC,H.inl,ak,H.pp,ppB]
  ·rw [qwq (λh=>by have:=(akq _ _).1 h;omega)];by_cases c3:1024 < (l.length:Int)+x.length
   ·rw [qwz c3];simp (disch:=omega) [Uh,c1,c2,c3,aC,H.inl,ak,H.pp,ppB]
   ·rw [qwq c3];have hnn:=Qn ks cap x (bH l);by_cases c4:dI ks cap (bH l) x=0
    ·rw [qwq (by simp [c4])];rw [c4] at hi;obtain ⟨b,rfl⟩:∃ b:Nat,a=b:=⟨a.toNat,by omega⟩;have h:=aas H ks ke cap l le hll x xe qqq hx (hf c4) b (l.length+1) 0 qqz [] qqx (by
      intro e he;rw [qJj] at he;unfold rest at he;rw [qwz qqq,qjq,Tv _ _ _ qqq] at he;rcases qjj.1 ((zT _ _ _).mem_iff.1 he) with he | he
      ·obtain ⟨y,hy,rfl⟩:=qyq.1 he;exact hfe c4 y hy
      ·exact hs e he)
     unfold rest at h;rw [qJj,qwz qqq,qjq,Tv _ _ _ qqq] at h;rw [qWj];generalize rfO (spl l b 0 (x.map (fre ks)))=Q at *;simp only [qW] at h;simp at h;simp (disch:=omega) [Uh,c1,c2,c3,hi,aC,H.inl,ak,H.pp,ppB,h]
    ·rw [qwz c4];have c5:0 < dI ks cap (bH l) x:=by omega
     generalize dI ks cap (bH l) x=E at *;simp (disch:=omega) [Uh,c1,c2,c3,hi,c4,c5,aC,H.inl,ak,H.pp,ppB]
theorem aoY {ks:List Kd} {cap:Int} {y:It} (h:itE ks cap y false=0):y.t < ks.length:=by
 unfold itE at h;split at h
 ·simp at h
 ·rename_i h1;unfold fM at h1;simp only [zwq,qzq,qvj] at h1;exact h1.1.1.2
theorem Nj {ks:List Kd} {cap:Int} {y:It} (h:itE ks cap y false=0):fM ks.length y=true:=by
 unfold itE at h;split at h
 ·simp at h
 ·rename_i h1;simpa using h1
theorem SI (H:I7 C) (ks:List Kd) (ke:Bool) (cap:Int) (hr:jF ks) (l:List En) (le:Bool) (hll:l.length<=1024) (hs:∀ e ∈ l,dQ e) (n:Nt) (hn:qg ks n) :
 FnW C 461 [aR ks ke cap,.ro 6 (l.map eEn) le,.int .i64 n.a,.ro 4 (n.x.map cIt) n.e] =
  some (if inR n.a 0 l.length=false then .tup [.ro 6 [] true,.int .i64 4] else if 1024 < (l.length:Int)+n.x.length then .tup [.ro 6 [] true,.int .i64 3] else if dI ks cap (bH l) n.x≠0 then .tup [.ro 6 [] true,.int .i64 (dI ks cap (bH l) n.x)] else rfO (spl l n.a.toNat 0 (n.x.map (fre ks)))):=by
 have hl2:=hn.l;refine ahd H ks ke cap l le hll hs n.a n.x n.e hn.x hn.l (Rk H.tovk.toET.tozD ks ke cap hr l le qqq n.x n.e qqq hn.x) (λhz y hy=>?_) (λhz y hy=>?_)
 ·have hi:=((xK ks cap n.x _).1 hz).1 y hy;exact xk H.tovk.toET.tozD ks ke cap y (hn.x y hy) (aoY hi.1)
 ·have hi:=((xK ks cap n.x _).1 hz).1 y hy;exact ⟨hn.x y hy,hn.b y hy (Nj hi.1)⟩
theorem agX (H:I7 C) (ks:List Kd) (ke:Bool) (cap:Int) (hr:jF ks) (n:Nt) (hn:qg ks n) :
 FnW C 463 [aR ks ke cap,.ro 4 (n.x.map cIt) n.e] =
  some (if 1024 < (n.x.length:Int) then .tup [.ro 6 [] true,.int .i64 3] else if dI ks cap [] n.x≠0 then .tup [.ro 6 [] true,.int .i64 (dI ks cap [] n.x)] else rfO (n.x.map (fre ks))):=by
 have h:=SI H ks ke cap hr [] true qqz qqz { n with a:=0 } ⟨hn.x,hn.l,hn.b⟩;have e1:inR 0 0 (([]:List En).length:Int)=true:=by decide
 have e2:bH ([]:List En)=[]:=rfl;have e3:∀ X:List En,spl [] (0:Int).toNat 0 X=X:=by intro X;simp [spl]
 simp only [e1,e2,e3,qax,qaj,q6x,q8x] at h;rw [qwq (by decide)] at h;have hQ:∃ L f E,(if 1024 < (n.x.length:Int) then AV.tup [.ro 6 [] true,.int .i64 3] else if dI ks cap [] n.x≠0 then .tup [.ro 6 [] true,.int .i64 (dI ks cap [] n.x)] else rfO (n.x.map (fre ks)))=.tup [.ro 6 L f,.int .i64 E]:=by
  unfold rfO;repeat' split
  all_goals exact ⟨_,_,_,rfl⟩
 obtain ⟨L,f,E,hQ⟩:=hQ;rw [hQ] at h |-;rw [aF H.anW rfl];simp (disch:=omega) [agL,h,aC,H.inl,ak,H.pp,ppB]
structure auq (C:aH):Prop extends vJ C
theorem ajf {n:Int} {x:It} (h:fM n x=true):oW x=true:=by unfold fM at h;unfold oW;simp at h |-;exact ⟨⟨h.1.1.1,h.1.2⟩,h.2⟩
theorem ams {ks:List Kd} {cap:Int} (h:rJ ks cap=true) {x:It} (hx:fM ks.length x=true) (ht:0<=x.t):gJ (bW ks x.t).p x cap=0\/gJ (bW ks x.t).p x cap=14:=by
 have h2:=ajf hx;have h3:=nT hx;unfold rJ at h;simp only [qzq,qvj] at h;unfold gJ;rw [qwq qqq];split
 ·exact .inr rfl
 ·rw [qwq (by simp [h2])];split
  ·exact .inr rfl
  ·exact .inl rfl
structure ahA (C:aH):Prop extends auq C where
 anO:C.fns.get 462=some acg
def Nb (o:List En):AV:=if ovE o≠0 then .tup [.ro 6 [] true,.int .i64 (ovE o)] else .tup [.ro 6 (o.map eEn) false,.int .i64 0]
theorem aeW {α:Type} (G:List α) (j n:Nat) (y:α) (ys:List α) (h:j < G.length):spl G j (n+1) (y::ys)=spl (G.set j y) (j+1) n ys:=by
 unfold spl;have h1:(G.set j y).take (j+1)=G.take j++[y]:=by rw [q0q,List.take_set_of_le qqq,qtq h];rfl
 have h2:(G.set j y).drop (j+1+n)=G.drop (j+(n+1)):=by rw [List.drop_set_of_lt qqq];congr 1;omega
 rw [h1,h2];simp
theorem afd {α:Type} (G:List α) (j:Nat):spl G j 0 []=G:=by unfold spl;simp
theorem aeC (H:ahA C) (ks:List Kd) (ke:Bool) (cap:Int) (hr:jF ks) (hok:rJ ks cap=true) (l:List En) (e:Bool) (hl:l.length<=10000) (hs:∀ x ∈ l,dQ x) (a:Nat) (x:List It) (xe:Bool) (hx:∀ y ∈ x,iU y) (hxl:a+x.length<=l.length)
 (hb:∀ y ∈ x,fM ks.length y=true->-9223372036854775808<=(bW ks y.t).b/\(bW ks y.t).b<=9223372036854775807):∀ n i,n+i=x.length->∀ G:List En,G.length=l.length->(∀ y ∈ G,dQ y) ->
 tC C ⟨[(12,.int .i64 i),(10,.sl 0 6 0 l.length l.length false),(4,.ptr 1 0 0),(3,.ro 4 (x.map cIt) xe),(2,.int .i64 a),(1,.ro 6 (l.map eEn) e)],[(0,.cells 6 (G.map eEn) true true),(1,.cells 2 [[.ro 9 (ks.map eKd) ke,.int .i64 cap]] true true)],2⟩ =
  some (if eY ks cap l (a+i) (x.drop i)≠0 then .tup [.ro 6 [] true,.int .i64 (eY ks cap l (a+i) (x.drop i))] else Nb (spl G (a+i) n ((x.drop i).map (fre ks)))):=by
 intro n;induction n with
 | zero =>
  intro i hi G hG hGi;have h1:x.drop i=[]:=qwj qqq;have h3:¬ i < x.length:=by omega
  have h6:List.take l.length (List.map eEn G)=List.map eEn G:=qzz qqx;have ho:=TT H.tojR G false qqq hGi;rw [h1,eY,qwq qqz,qax,afd];simp only [tC];rw [aj qZ.eq_1];unfold Nb;have hov:ovE G=0\/ovE G=13:=by unfold ovE;split <;> simp
  rcases hov with c | c
  ·rw [c] at ho |-;simp (disch:=omega) [aj Gs.eq_1,h3,h6,ho,hG,H.inl,ak,H.pp,ppB]
  ·rw [c] at ho |-;simp (disch:=omega) [aj Gs.eq_1,h3,h6,ho,hG,H.inl,ak,H.pp,ppB]
 | succ n ih =>
  intro i hi G hG hGi;have h1:i < x.length:=by omega
  obtain ⟨j,hj⟩:∃ j,j=a+i:=⟨_,rfl⟩;have hj1:j < l.length:=by omega
  have hj2:j < G.length:=by omega
  have hji:(a:Int)+i=j:=by omega
  have hxi:=hx _ (qxx h1);have hii:=CS H.tozD ks ke cap x[i] hxi hr false;have hki:keyAt l j=l[j].i.k:=by unfold keyAt;rw [qqj hj1];rfl
  rw [<- hj,drop_cons h1];simp only [aR,eIt,qjz,qWz] at hii;have hch:eY ks cap l j (x[i]::x.drop (i+1))=if fM ks.length x[i]=false then 6 else if l[j].i.k≠x[i].k then 9 else if gJ (bW ks x[i].t).p x[i] cap≠0 then gJ (bW ks x[i].t).p x[i] cap else eY ks cap l (j+1) (x.drop (i+1)):=by rw [eY,hki]
  by_cases c1:fM ks.length x[i]=true
  ·have hfr:=xk H.tozD ks ke cap x[i] hxi (nT c1);have hrd:=ams hok c1 hxi.t.1;have hE:itE ks cap x[i] false=if gJ (bW ks x[i].t).p x[i] cap=0 then 0 else 14:=by unfold itE;simp [c1]
   rw [hE] at hii;simp only [c1,Bool.true_eq_false,qWz] at hch;by_cases c2:l[j].i.k=x[i].k
   ·simp only [c2,ne_eq,qmj,qWz] at hch;rcases hrd with c3 | c3
    ·rw [c3] at hii;simp only [c3,qmj,qWz] at hch;rw [hch,qvz,aeW G j n _ _ hj2];have hbb:=hb _ (qxx h1) c1;have this:=ih (i+1) qqq (G.set j (fre ks x[i])) (by simpa using hG) (by
      intro y hy;rcases qix hy with q | q
      ·exact hGi y q
      ·rw [q];exact ⟨hxi,hbb⟩)
     rw [show a+(i+1)=j+1 by omega] at this;simp only [aR,eIt,aE,eEn,fre] at hfr;generalize (if eY ks cap l (j+1) (x.drop (i+1))≠0 then AV.tup [.ro 6 [] true,.int .i64 (eY ks cap l (j+1) (x.drop (i+1)))] else Nb (spl (G.set j (fre ks x[i])) (j+1) n ((x.drop (i+1)).map (fre ks))))=Z at *;simp only [tC] at this |-;rw [aj qZ.eq_1];simp [List.map_set,fre] at this;simp (disch:=omega) [h1,hji,hj1,hj2,hG,c2,hii,hfr,aC,pJ,H.inl,ak,H.pp,ppB,this]
    ·rw [c3] at hii;have hV:eY ks cap l j (x[i]::x.drop (i+1))=14:=by rw [hch,c3];simp
     rw [hV,qwz qqz];simp only [tC];rw [aj qZ.eq_1];simp (disch:=omega) [h1,hji,hj1,c2,hii,aC,pJ,H.inl,ak,H.pp,ppB]
   ·have hV:eY ks cap l j (x[i]::x.drop (i+1))=9:=by rw [hch,qwz c2]
    rw [hV,qwz qqz];have hE6:(if gJ (bW ks x[i].t).p x[i] cap=0 then (0:Int) else 14)≠6:=by split <;> simp
    generalize (if gJ (bW ks x[i].t).p x[i] cap=0 then (0:Int) else 14)=E0 at hii hE6;simp only [tC];rw [aj qZ.eq_1];simp (disch:=omega) [h1,hji,hj1,c2,hii,hE6,aC,pJ,H.inl,ak,H.pp,ppB]
  ·have c1':fM ks.length x[i]=false:=by simpa using c1
   have hV:eY ks cap l j (x[i]::x.drop (i+1))=6:=by rw [hch,qwz c1']
   have hE:itE ks cap x[i] false=6:=by unfold itE;simp [c1']
   rw [hE] at hii;rw [hV,qwz qqz];simp only [tC];rw [aj qZ.eq_1];simp (disch:=omega) [h1,hii,aC,pJ,H.inl,ak,H.pp,ppB]
theorem ZT (H:ahA C) (ks:List Kd) (ke:Bool) (cap:Int) (hr:jF ks) (hok:rJ ks cap=true) (l:List En) (e:Bool) (hl:l.length<=10000) (hs:∀ x ∈ l,dQ x) (a:Nat) (x:List It) (xe:Bool) (hx:∀ y ∈ x,iU y) (hxl:a+x.length<=l.length)
 (hb:∀ y ∈ x,fM ks.length y=true->-9223372036854775808<=(bW ks y.t).b/\(bW ks y.t).b<=9223372036854775807):∀ n i,n+i=l.length->∀ G:List En,G=l.take i->G.length=i ->
 Gv C ⟨[(11,.int .i64 i),(10,.sl 0 6 0 G.length G.length false),(4,.ptr 1 0 0),(3,.ro 4 (x.map cIt) xe),(2,.int .i64 a),(1,.ro 6 (l.map eEn) e)],[(0,.cells 6 (G.map eEn) true true),(1,.cells 2 [[.ro 9 (ks.map eKd) ke,.int .i64 cap]] true true)],2⟩ =
  some (if eY ks cap l a x≠0 then .tup [.ro 6 [] true,.int .i64 (eY ks cap l a x)] else Nb (spl l a x.length (x.map (fre ks)))):=by
 have h0:=aeC H ks ke cap hr hok l e hl hs a x xe hx hxl hb x.length 0 qqz l rfl hs;rw [qjq,qbz] at h0;generalize (if eY ks cap l a x≠0 then AV.tup [.ro 6 [] true,.int .i64 (eY ks cap l a x)] else Nb (spl l a x.length (x.map (fre ks))))=Z at *;intro n;induction n with
 | zero =>
  intro i hi G hG hGl;have hic:i=l.length:=by omega
  subst hic;rw [List.take_length] at hG;subst hG;have h3:¬ G.length < G.length:=by omega
  simp only [tC] at h0;simp at h0;simp only [Gv];rw [aj AB.eq_1];simp (disch:=omega) [aj Pz.eq_1,h3,h0,H.inl,ak,H.pp,ppB]
 | succ n ih =>
  intro i hi G hG hGl;have h1:i < l.length:=by omega
  have hfit:(G.length+1) * 73<=35184372088832:=by omega
  have:=ih (i+1) qqq (G++[l[i]]) (by rw [q0q,qqj h1,hG];rfl) qqx;simp only [Gv] at this |-;rw [aj AB.eq_1];simp at this;simp (disch:=omega) [h1,hfit,aC,H.inl,ak,H.pp,ppB,this]
theorem Vz (H:ahA C) (ks:List Kd) (ke:Bool) (cap:Int) (hr:jF ks) (hok:rJ ks cap=true) (l:List En) (e:Bool) (hl:l.length<=10000) (hs:∀ x ∈ l,dQ x) (a:Int) (x:List It) (xe:Bool) (hx:∀ y ∈ x,iU y) (hxl:x.length<=10000)
 (hb:∀ y ∈ x,fM ks.length y=true->-9223372036854775808<=(bW ks y.t).b/\(bW ks y.t).b<=9223372036854775807) :
 FnW C 462 [aR ks ke cap,.ro 6 (l.map eEn) e,.int .i64 a,.ro 4 (x.map cIt) xe] =
  some (if inR a x.length l.length=false then .tup [.ro 6 [] true,.int .i64 4] else if eY ks cap l a.toNat x≠0 then .tup [.ro 6 [] true,.int .i64 (eY ks cap l a.toNat x)] else Nb (spl l a.toNat x.length (x.map (fre ks)))):=by
 have hi:=yu H.tojR a x.length l.length qqq;rw [aF H.anO rfl];cases c:inR a x.length l.length
 ·rw [c] at hi;simp at hi;rw [qwz rfl];simp (disch:=omega) [acg,hi,H.inl,ak,H.pp,ppB]
 ·rw [c] at hi;simp at hi;rw [qwq qqz];unfold inR at c;simp at c;obtain ⟨a',rfl⟩:∃ a':Nat,a=a':=⟨a.toNat,by omega⟩;have h:=ZT H ks ke cap hr hok l e hl hs a' x xe hx qqq hb l.length 0 qqz [] qqz rfl;simp only [qWj];generalize (if eY ks cap l a' x≠0 then AV.tup [.ro 6 [] true,.int .i64 (eY ks cap l a' x)] else Nb (spl l a' x.length (x.map (fre ks))))=Z at *;simp only [Gv] at h;simp at h;simp (disch:=omega) [acg,hi,h,H.inl,ak,H.pp,ppB]
def ql:List En->Nat->Int->List En
 | [],_,_=>[]
 | e::r,0,s=>⟨e.i,s,true⟩::r
 | e::r,j+1,s=>e::ql r j s
def mvR {α:Type} (R M:List α) (t i:Nat):List α:=if i<=t then (R.take t).drop i++M++R.drop t else R.drop i
theorem ah3 {α:Type} (R M:List α) (t:Nat):mvR R M t 0=spl R t 0 M:=by unfold mvR spl;simp
theorem amQ {α:Type} (R M:List α) (t:Nat):mvR R M t t=M++R.drop t:=by unfold mvR;rw [qwz (qxq _),qwj (by rw [qKz];omega)];simp
theorem zA {α:Type} (R M:List α) (t i:Nat) (h:t < i):mvR R M t i=R.drop i:=by unfold mvR;rw [qwq qqq]
theorem abm {α:Type} (R M:List α) (t i:Nat) (hi:i < R.length) (ht:i≠t) (htl:t<=R.length):mvR R M t i=R[i]::mvR R M t (i+1):=by
 by_cases c:i < t
 ·unfold mvR;rw [qwz qqq,qwz qqq];have h:i < (R.take t).length:=by rw [qKz];omega
  rw [drop_cons h];simp
 ·rw [zA _ _ _ _ qqq,zA _ _ _ _ qqq,drop_cons hi]
theorem Jj (H:jR C) (l:List En) (e:Bool) (a c t:Nat) (R:List En) (re:Bool) (hR:R.length<=1000000) (i:Nat) (hi:i<=R.length) (G:List En) (B:Nat) (hB:G.length+1<=B) (hBB:B<=300000000) (k:Int) (hk:i≠t\/c<=k)
 (Z:AV) (Y:List En->AV) (hY:∀ G:List En,G.length<=B->ny C ⟨[(13,.int .i64 ((i:Int)+1)),(12,.sl 0 6 0 G.length G.length false),(10,.ro 6 (R.map eEn) re),(3,.int .i64 t),(2,.int .i64 c),(1,.int .i64 a),(0,.ro 6 (l.map eEn) e)],[(0,.cells 6 (G.map eEn) true true)],1⟩=some (Y G))
 (hZ:Z=if i < R.length then Y (G++[R[i]?.getD ⟨⟨0,0,[],[],true⟩,0,false⟩]) else Y G) :
 tX C ⟨[(14,.int .i64 k),(13,.int .i64 i),(12,.sl 0 6 0 G.length G.length false),(10,.ro 6 (R.map eEn) re),(3,.int .i64 t),(2,.int .i64 c),(1,.int .i64 a),(0,.ro 6 (l.map eEn) e)],[(0,.cells 6 (G.map eEn) true true)],1⟩=some Z:=by
 have hfit:(G.length+1) * 73<=35184372088832:=by omega
 by_cases h1:i < R.length
 ·have this:=hY (G++[R[i]]) qqx;have hz:Z=Y (G++[R[i]]):=by rw [hZ,qwz h1];simp [h1]
  rw [hz];generalize Y (G++[R[i]])=Q at *;simp only [ny] at this;simp only [tX];rw [aj xY.eq_1];simp at this;by_cases c1:i=t
  ·have c2:¬ k < (c:Int):=by rcases hk with q | q;exact absurd c1 q;omega
   simp (disch:=omega) [aj xO.eq_1,aj yD.eq_1,qZx c1,c2,h1,hfit,aC,this]
  ·simp (disch:=omega) [aj xO.eq_1,aj yD.eq_1,c1,h1,hfit,aC,this]
 ·have this:=hY G qqq;have hz:Z=Y G:=by rw [hZ,qwq h1]
  rw [hz];generalize Y G=Q at *;simp only [ny] at this;simp only [tX];rw [aj xY.eq_1];try simp at this
  by_cases c1:i=t
  ·have c2:¬ k < (c:Int):=by rcases hk with q | q;exact absurd c1 q;omega
   simp (disch:=omega) [aj xO.eq_1,aj yD.eq_1,qZx c1,c2,h1,aC,this]
  ·simp (disch:=omega) [aj xO.eq_1,aj yD.eq_1,c1,h1,aC,this]
theorem abk (H:jR C) (l:List En) (e:Bool) (hl:l.length<=1000000) (a c t:Nat) (hac:a+c<=l.length) (R:List En) (re:Bool) (hR:R.length<=1000000) (ht:t<=R.length) (B:Nat) (hBB:B<=300000000)
 (Y:List En->AV) (hY:∀ G:List En,G.length<=B->ny C ⟨[(13,.int .i64 ((t:Int)+1)),(12,.sl 0 6 0 G.length G.length false),(10,.ro 6 (R.map eEn) re),(3,.int .i64 t),(2,.int .i64 c),(1,.int .i64 a),(0,.ro 6 (l.map eEn) e)],[(0,.cells 6 (G.map eEn) true true)],1⟩=some (Y G)) :
 ∀ n k,n+k=c->∀ G:List En,G.length+n+1<=B ->
 tX C ⟨[(14,.int .i64 k),(13,.int .i64 t),(12,.sl 0 6 0 G.length G.length false),(10,.ro 6 (R.map eEn) re),(3,.int .i64 t),(2,.int .i64 c),(1,.int .i64 a),(0,.ro 6 (l.map eEn) e)],[(0,.cells 6 (G.map eEn) true true)],1⟩ =
  some (if t < R.length then Y (G++((l.take (a+c)).drop a).drop k++[R[t]?.getD ⟨⟨0,0,[],[],true⟩,0,false⟩]) else Y (G++((l.take (a+c)).drop a).drop k)):=by
 intro n;induction n with
 | zero =>intro k hk G hG;have h1:((l.take (a+c)).drop a).drop k=[]:=qwj qqx;refine Jj H l e a c t R re hR t ht G B qqq hBB k (.inr qqq) _ Y hY ?_;rw [h1,qXz]
 | succ n ih =>
  intro k hk G hG;obtain ⟨j,hj⟩:∃ j:Nat,j=a+k:=⟨_,rfl⟩;have h1:j < l.length:=by omega
  have h2:k < c:=by omega
  have hfit:(G.length+1) * 73<=35184372088832:=by omega
  have hd:((l.take (a+c)).drop a).drop k=l[j]::((l.take (a+c)).drop a).drop (k+1):=by rw [drop_cons (show k < ((l.take (a+c)).drop a).length by simp;omega)];subst hj;simp
  have this:=ih (k+1) qqq (G++[l[j]]) qqx;rw [hd];have hA:∀ X:List En,G++l[j]::X=G++[l[j]]++X:=λX=>by simp
  rw [hA];generalize (if t < R.length then Y (G++[l[j]]++((l.take (a+c)).drop a).drop (k+1)++[R[t]?.getD ⟨⟨0,0,[],[],true⟩,0,false⟩]) else Y (G++[l[j]]++((l.take (a+c)).drop a).drop (k+1)))=Q at *;have hj2:(a:Int)+(k:Int)=j:=by omega
  simp only [tX] at this |-;rw [aj xY.eq_1];simp at this;simp (disch:=omega) [h1,h2,hj2,hfit,aC,this]
theorem U1 (H:jR C) (l:List En) (e:Bool) (hl:l.length<=10000) (a c t:Nat) (hac:a+c<=l.length) (R:List En) (re:Bool) (hR:R.length<=10000) (ht:t<=R.length):∀ n i,n+i=R.length+1->∀ G:List En,G.length<=20000 * (i+1) ->
 ny C ⟨[(13,.int .i64 i),(12,.sl 0 6 0 G.length G.length false),(10,.ro 6 (R.map eEn) re),(3,.int .i64 t),(2,.int .i64 c),(1,.int .i64 a),(0,.ro 6 (l.map eEn) e)],[(0,.cells 6 (G.map eEn) true true)],1⟩ =
  some (.tup [.ro 6 ((G++mvR R ((l.take (a+c)).drop a) t i).map eEn) false,.int .i64 0]):=by
 intro n;induction n with
 | zero =>
  intro i hi G hG;have h3:¬ i<=R.length:=by omega
  rw [zA _ _ _ _ qqq,qwj qqq,qXz];simp only [ny];rw [aj CW.eq_1];cases G with
  | nil=>simp [aj Ac.eq_1,h3]
  | cons g G=>simp (disch:=(first | omega | (simp;done) | (simp;omega))) [aj Ac.eq_1,h3,qzz]
 | succ n ih =>
  intro i hi G hG;have h1:i<=R.length:=by omega
  have hY:∀ G':List En,G'.length<=20000 * (i+2)->ny C ⟨[(13,.int .i64 ((i:Int)+1)),(12,.sl 0 6 0 G'.length G'.length false),(10,.ro 6 (R.map eEn) re),(3,.int .i64 t),(2,.int .i64 c),(1,.int .i64 a),(0,.ro 6 (l.map eEn) e)],[(0,.cells 6 (G'.map eEn) true true)],1⟩ =
   some ((λG'=>AV.tup [.ro 6 ((G'++mvR R ((l.take (a+c)).drop a) t (i+1)).map eEn) false,.int .i64 0]) G'):=λG' q=>by
   have:=ih (i+1) qqq G' qqq;simpa using this
  have key:∀ Z,tX C ⟨[(14,.int .i64 0),(13,.int .i64 i),(12,.sl 0 6 0 G.length G.length false),(10,.ro 6 (R.map eEn) re),(3,.int .i64 t),(2,.int .i64 c),(1,.int .i64 a),(0,.ro 6 (l.map eEn) e)],[(0,.cells 6 (G.map eEn) true true)],1⟩=some Z ->
   ny C ⟨[(13,.int .i64 i),(12,.sl 0 6 0 G.length G.length false),(10,.ro 6 (R.map eEn) re),(3,.int .i64 t),(2,.int .i64 c),(1,.int .i64 a),(0,.ro 6 (l.map eEn) e)],[(0,.cells 6 (G.map eEn) true true)],1⟩=some Z:=λZ this=>by
   simp only [tX] at this;simp only [ny];rw [aj CW.eq_1];simp (disch:=omega) [h1,aC,this]
  refine key _ ?_;by_cases c1:i=t
  ·subst c1;have:=abk H l e qqq a c i hac R re qqq ht (20000 * (i+2)) qqq _ hY c 0 qqz G qqq;rw [qjq] at this;refine this.trans ?_;rw [amQ];by_cases h2:i < R.length
   ·rw [qwz h2,zA _ _ _ _ qqq,drop_cons h2];simp [h2]
   ·rw [qwq h2,zA _ _ _ _ qqq,qwj (show R.length<=i+1 by omega),qwj (show R.length<=i by omega)];simp
  ·refine Jj H l e a c t R re qqq i h1 G (20000 * (i+2)) qqq qqq 0 (.inl c1) _ _ hY ?_;by_cases h2:i < R.length
   ·rw [qwz h2,abm _ _ _ _ h2 c1 ht];simp [h2]
   ·rw [qwq h2,zA _ _ _ _ qqq,zA _ _ _ _ qqq,qwj (show R.length<=i+1 by omega),qwj (show R.length<=i by omega)]
theorem ad9 (H:afj C) (l:List En) (e:Bool) (hl:l.length<=10000) (a c t:Int) :
 FnW C 242 [.ro 6 (l.map eEn) e,.int .i64 a,.int .i64 c,.int .i64 t]=some (if (inR a c l.length&&inR t 0 (l.length - c))=true then .tup [.ro 6 ((spl (spl l a.toNat c.toNat []) t.toNat 0 ((l.take (a.toNat+c.toNat)).drop a.toNat)).map eEn) false,.int .i64 0] else .tup [.ro 6 [] true,.int .i64 4]):=by
 have hw:=yu H.tojR a c l.length qqq;have hrm:=HY H l e qqq a c;rw [aF H.f242 rfl];cases c1:inR a c l.length
 ·rw [c1] at hw;simp at hw;simp [aaq,hw,H.inl,ak,H.pp,ppB]
 ·have hq:=c1;unfold inR at hq;simp at hq;rw [c1] at hw hrm;simp at hw;have hw2:=yu H.tojR t 0 (l.length - c) qqq;cases c2:inR t 0 (l.length - c)
  ·rw [c2] at hw2;simp at hw2;simp (disch:=omega) [aaq,aC,hw,hw2,H.inl,ak,H.pp,ppB]
  ·have hq2:=c2;unfold inR at hq2;simp at hq2;rw [c2] at hw2;simp at hw2;obtain ⟨a',rfl⟩:∃ a':Nat,a=a':=⟨a.toNat,by omega⟩;obtain ⟨c',rfl⟩:∃ c':Nat,c=c':=⟨c.toNat,by omega⟩;obtain ⟨t',rfl⟩:∃ t':Nat,t=t':=⟨t.toNat,by omega⟩;have hlen:=tY l [] a' c' qqq;simp only [qWj] at hrm |-;simp at hlen;have h:=U1 H.tojR l e hl a' c' t' qqq (spl l a' c' []) false qqq qqq ((spl l a' c' []).length+1) 0 qqz [] qqz;rw [qJj,ah3] at h;generalize spl (spl l a' c' []) t' 0 ((l.take (a'+c')).drop a')=F at *;generalize spl l a' c' []=R at *;simp only [ny] at h;simp at h hrm;simp (disch:=omega) [aaq,aC,hw,hw2,hrm,h,H.inl,ak,H.pp,ppB]
structure abe (C:aH):Prop extends I7 C,ahA C,afj C
theorem UM (o:List En):ovE o=0\/ovE o=13:=by unfold ovE;split <;> simp
theorem ah8 (o:List En):rfO o=Nb o:=by unfold rfO Nb;rcases UM o with h | h <;> simp [h]
def smx:List En->Int
 | []=>0
 | e::r=>imax e.s 0+smx r
theorem OC (a:Int):0<=imax a 0:=by unfold imax;split <;> omega
theorem ad8:∀ l:List En,0<=smx l
 | []=>Int.le_refl _
 | e::r=>by have h1:=ad8 r;have h2:=OC e.s;rw [smx];omega
theorem SH:∀ (l:List En) (s:Int),s<=4611686018427387904->(4611686018427387904 < qj s l↔4611686018427387904 < s+smx l)
 | [],s,_=>by rw [qj,smx,Int.add_zero]
 | e::r,s,h=>by
  rw [qj,smx];have h1:=ad8 r;have h2:=OC e.s;split
  ·constructor <;> intro <;> omega
  ·rw [SH r _ qqq,Int.add_assoc]
theorem Qh (l:List En):ovE l=0↔smx l<=4611686018427387904:=by
 unfold ovE tot;have h:=SH l 0 qqq;rw [q8x] at h;by_cases c:4611686018427387904 < qj 0 l
 ·rw [qwz c];have:=h.1 c;constructor
  ·intro h;simp at h
  ·intro h;omega
 ·rw [qwq c];constructor
  ·intro _;exact Int.not_lt.1 λh'=>c (h.2 h')
  ·intro _;rfl
theorem aiG {l m:List En} (h:m.Sublist l):smx m<=smx l:=by
 induction h with
 | slnil=>exact Int.le_refl _
 | cons a _ ih=>have:=OC a.s;rw [smx];omega
 | cons_cons a _ ih=>rw [smx,smx];omega
theorem adw {l m:List En} (h:m.Perm l):smx m=smx l:=by
 induction h with
 | nil=>rfl
 | cons a _ ih=>rw [smx,smx,ih]
 | swap a b l=>simp only [smx];omega
 | trans _ _ h1 h2=>rw [h1,h2]
def rfE (E:Int):AV:=.tup [.ro 6 [] true,.int .i64 E]
theorem anV (F:Int) (X:List En):(if F≠0 then rfE F else rfO X)=if (if F≠0 then F else ovE X)≠0 then rfE (if F≠0 then F else ovE X) else .tup [.ro 6 (X.map eEn) false,.int .i64 0]:=by
 by_cases h:F=0
 ·rw [qwq (by simp [h]),qwq (c:=F≠0) (by simp [h])];unfold rfO;rcases UM X with h | h <;> rw [h] <;> rfl
 ·rw [qwz h,qwz (c:=F≠0) h,qwz h]
theorem Hz (H:abe C) (ks:List Kd) (ke:Bool) (cap:Int) (hr:jF ks) (l:List En) (e:Bool) (hs:∀ x ∈ l,dQ x) (hc:ckE ks cap l=0) (n:Nt) (hn:qg ks n) :
 FnW C 342 [aR ks ke cap,.ro 6 (l.map eEn) e,.agg (eNt n)]=some (if apE ks cap l n≠0 then rfE (apE ks cap l n) else .tup [.ro 6 ((apL ks l n).map eEn) false,.int .i64 0]):=by
 obtain ⟨hru,hll,_,_,hov⟩:=(lF ks cap l).1 hc;have hl2:=hn.l;by_cases hE:ntE n=0
 ·have key:FnW C (rtF n) (rtA (aR ks ke cap) (.ro 6 (l.map eEn) e) n)=some (if apE ks cap l n≠0 then rfE (apE ks cap l n) else .tup [.ro 6 ((apL ks l n).map eEn) false,.int .i64 0]):=by
   have hr5:1<=n.k/\n.k<=5:=by
    unfold ntE at hE;split at hE
    ·cases hE
    ·omega
   have hA:apE ks cap l n=if apF ks cap l n≠0 then apF ks cap l n else ovE (apL ks l n):=by unfold apE;rw [qwq (by rw [hE];simp)]
   rw [hA,<- anV];have hins:=SI H.toI7 ks ke cap hr l e hll hs n hn;have hres:=agX H.toI7 ks ke cap hr n hn;obtain ⟨k,a,c,t,x,xe⟩:=n;simp only at hr5 hl2 hins hres;have h5:k=1\/k=2\/k=3\/k=4\/k=5:=by omega
   rcases h5 with rfl | rfl | rfl | rfl | rfl
   ·have h3:apL ks l ⟨1,a,c,t,x,xe⟩=spl l a.toNat 0 (x.map (fre ks)):=rfl;have h4:apF ks cap l ⟨1,a,c,t,x,xe⟩=if inR a 0 l.length=false then 4 else if 1024 < (l.length:Int)+x.length then 3 else dI ks cap (bH l) x:=rfl;refine hins.trans ?_;rw [h3,h4];by_cases c1:inR a 0 l.length=false
    ·rw [qwz c1,qwz c1];rfl
    ·rw [qwq c1,qwq c1];by_cases c2:1024 < (l.length:Int)+x.length
     ·rw [qwz c2,qwz c2];rfl
     ·rw [qwq c2,qwq c2];rfl
   ·have h3:apL ks l ⟨2,a,c,t,x,xe⟩=spl l a.toNat c.toNat []:=rfl;have h4:apF ks cap l ⟨2,a,c,t,x,xe⟩=if inR a c l.length=false then 4 else 0:=rfl;refine (HY H.toafj l e qqq a c).trans ?_;rw [h3,h4];by_cases c1:inR a c l.length=false
    ·rw [qwq (by simp [c1]),qwz c1];rfl
    ·have c1':inR a c l.length=true:=by simpa using c1
     have ho:ovE (spl l a.toNat c.toNat [])=0:=(Qh _).2 (Int.le_trans (aiG (uq _ _ _)) ((Qh _).1 hov));rw [qwz c1',qwq c1,qwq qqz];unfold rfO;rw [ho,qwq qqz]
   ·have h3:apL ks l ⟨3,a,c,t,x,xe⟩=spl (spl l a.toNat c.toNat []) t.toNat 0 ((l.take (a.toNat+c.toNat)).drop a.toNat):=rfl;have h4:apF ks cap l ⟨3,a,c,t,x,xe⟩=if (inR a c l.length&&inR t 0 (l.length - c))=false then 4 else 0:=rfl;refine (ad9 H.toafj l e qqq a c t).trans ?_;rw [h3,h4];by_cases c1:(inR a c l.length&&inR t 0 (l.length - c))=false
    ·rw [qwq (by simp [c1]),qwz c1];rfl
    ·have c1':(inR a c l.length&&inR t 0 (l.length - c))=true:=by simpa using c1
     have ho:ovE (spl (spl l a.toNat c.toNat []) t.toNat 0 ((l.take (a.toNat+c.toNat)).drop a.toNat))=0:=(Qh _).2 (by rw [adw (pX _ _ _ _)];exact (Qh _).1 hov);rw [qwz c1',qwq c1,qwq qqz];unfold rfO;rw [ho,qwq qqz]
   ·have h3:apL ks l ⟨4,a,c,t,x,xe⟩=spl l a.toNat x.length (x.map (fre ks)):=rfl;have h4:apF ks cap l ⟨4,a,c,t,x,xe⟩=if inR a x.length l.length=false then 4 else eY ks cap l a.toNat x:=rfl;refine (Vz H.toahA ks ke cap hr hru l e qqq hs a x xe hn.x hn.l hn.b).trans ?_;rw [h3,h4,ah8];by_cases c1:inR a x.length l.length=false
    ·rw [qwz c1,qwz c1];rfl
    ·rw [qwq c1,qwq c1];rfl
   ·have h3:apL ks l ⟨5,a,c,t,x,xe⟩=x.map (fre ks):=rfl;have h4:apF ks cap l ⟨5,a,c,t,x,xe⟩=if 1024 < (x.length:Int) then 3 else dI ks cap [] x:=rfl;refine hres.trans ?_;rw [h3,h4];by_cases c1:1024 < (x.length:Int)
    ·rw [qwz c1,qwz c1];rfl
    ·rw [qwq c1,qwq c1];rfl
  generalize apE ks cap l n=E at *;by_cases hE2:E=0
  ·subst hE2;simp only [ne_eq,qmj,qWz] at key |-;exact Jw H.toUs ks ke cap l e n qqq hE _ _ _ key
  ·rw [qwz hE2] at key |-;exact Jw H.toUs ks ke cap l e n qqq hE _ _ _ key
 ·have hA:apE ks cap l n=ntE n:=by unfold apE;rw [qwz hE]
  rw [hA,qwz hE];exact Td H.toUs ks ke cap l e n qqq hE
end Go.D
end
section
namespace Go.D
open Go Go.Pav Go.Pw P
theorem AA (l:List En):(l.map En.own).map En.own=l.map En.own:=by rw [qVz];rfl
theorem LG (l:List En):bH (l.map En.own)=bH l:=by unfold bH;rw [qVz];rfl
theorem aal (l:List En) (j:Nat):keyAt (l.map En.own) j=keyAt l j:=by unfold keyAt;rw [qWx];cases l[j]? <;> rfl
theorem SS (ks:List Kd) (cap:Int) (l:List En):∀ (x:List It) (j:Nat),eY ks cap (l.map En.own) j x=eY ks cap l j x
 | [],_=>rfl
 | a::r,j=>by rw [eY,eY,aal,SS ks cap l r]
theorem ai2 (ks:List Kd) (cap:Int) (l:List En) (n:Nt):apF ks cap (l.map En.own) n=apF ks cap l n:=by unfold apF;rw [qQq,LG,SS]
theorem X7 (ks:List Kd) (l:List En) (n:Nt):(apL ks (l.map En.own) n).map En.own=(apL ks l n).map En.own:=by
 unfold apL;split
 ·rw [bD,bD,AA]
 ·split
  ·rw [bD,bD,AA]
  ·split
   ·rw [bD,bD,bD,bD,AA];simp only [qbx,qdj,AA]
   ·split
    ·rw [bD,bD,AA]
    ·rfl
theorem ai4 (ks:List Kd) (cap:Int) (l:List En) (n:Nt):apE ks cap (l.map En.own) n=apE ks cap l n:=by unfold apE;rw [ai2,<- Ai (apL ks (l.map En.own) n),X7,Ai]
theorem YV (ks:List Kd) (cap:Int) (e:En) (b:Bool):enE ks cap e.own b=enE ks cap e b:=by
 have h:itE ks cap e.own.i b=itE ks cap e.i b:=by
  unfold itE;have h1:fM ks.length e.own.i=fM ks.length e.i:=rfl;have h2:gJ (bW ks e.own.i.t).p e.own.i cap=gJ (bW ks e.i.t).p e.i cap:=by
   unfold gJ;have h3:oW e.own.i=oW e.i:=rfl;have h4:mkN e.own.i (bW ks e.i.t).p=mkN e.i (bW ks e.i.t).p:=by unfold mkN;rw [show e.own.i=e.i.own from rfl,VQ]
   have h5:e.own.i.t=e.i.t:=rfl;rw [h5,h3,h4]
  rw [h1,h2]
 unfold enE;rw [h];rfl
theorem P5 (ks:List Kd) (cap:Int) (l:List En):ckE ks cap (l.map En.own)=0↔ckE ks cap l=0:=by
 rw [lF,lF,qQq,LG,Ai];constructor
 ·rintro ⟨h1,h2,h3,h4⟩;exact ⟨h1,h2,λe he=>by rw [<- YV];exact h3 _ (qyq.2 ⟨e,he,rfl⟩),h4⟩
 ·rintro ⟨h1,h2,h3,h4⟩;refine ⟨h1,h2,λe he=>?_,h4⟩;obtain ⟨e',he',rfl⟩:=qyq.1 he;rw [YV];exact h3 _ he'
theorem Fh {α:Type} {l x:List α} {a c:Nat} {e:α} (h:e ∈ spl l a c x):e ∈ l\/e ∈ x:=by
 unfold spl at h;rcases qjj.1 h with h | h
 ·rcases qjj.1 h with h | h
  ·exact .inl (qZz h)
  ·exact .inr h
 ·exact .inl (qQz h)
theorem VH {ks:List Kd} {n:Nt} (hn:qg ks n) (h:∀ y ∈ n.x,fM ks.length y=true):∀ e ∈ n.x.map (fre ks),dQ e:=by intro e he;obtain ⟨y,hy,rfl⟩:=qyq.1 he;exact ⟨hn.x y hy,hn.b y hy (h y hy)⟩
theorem Yl {ks:List Kd} {cap:Int} {l:List En} {n:Nt} (hn:qg ks n) (hs:∀ e ∈ l,dQ e) (h:apE ks cap l n=0):∀ e ∈ apL ks l n,dQ e:=by
 unfold apE at h;split at h
 ·rename_i h1;exact absurd h h1
 ·split at h
  ·rename_i h1;exact absurd h h1
  ·rename_i hF;have hF:apF ks cap l n=0:=by simpa using hF
   unfold apF at hF;unfold apL;intro e he;split at hF
   ·rename_i hk;rw [qwz hk] at he;split at hF
    ·simp at hF
    ·split at hF
     ·simp at hF
     ·rcases Fh he with he | he
      ·exact hs e he
      ·exact VH hn (λy hy=>Nj (((xK ks cap n.x _).1 hF).1 y hy).1) e he
   ·rename_i hk;rw [qwq hk] at he;split at hF
    ·rename_i hk;rw [qwz hk] at he;exact hs e ((uq _ _ _).subset he)
    ·rename_i hk;rw [qwq hk] at he;split at hF
     ·rename_i hk;rw [qwz hk] at he;exact hs e ((pX _ _ _ _).mem_iff.1 he)
     ·rename_i hk;rw [qwq hk] at he;split at hF
      ·rename_i hk;rw [qwz hk] at he;split at hF
       ·simp at hF
       ·rename_i hi;have:=ug (by simpa using hi);rcases Fh he with he | he
        ·exact hs e he
        ·exact VH hn (λy hy=>Nj ((UJ ks cap l n.x _ qqq hF).1 y hy)) e he
      ·rename_i hk;rw [qwq hk] at he;split at hF
       ·simp at hF
       ·exact VH hn (λy hy=>Nj (((xK ks cap n.x _).1 hF).1 y hy).1) e he
structure Tg where
 f:Int
 b:Bool
 i:It
def tin (x:List It):List Tg:=x.map λy=>⟨-1,true,y⟩
def tch:List Tg->List It->List Tg
 | t::r,y::s=>⟨t.f,true,y⟩::tch r s
 | _,_=>[]
def kX (T:List Tg) (n:Nt):List Tg :=
 if n.k=1 then spl T n.a.toNat 0 (tin n.x)
 else if n.k=2 then spl T n.a.toNat n.c.toNat []
 else if n.k=3 then spl (spl T n.a.toNat n.c.toNat []) n.t.toNat 0 ((T.take (n.a.toNat+n.c.toNat)).drop n.a.toNat)
 else if n.k=4 then spl T n.a.toNat n.x.length (tch (T.drop n.a.toNat) n.x)
 else tin n.x
theorem ajq:∀ (T:List Tg) (x:List It),x.length<=T.length->(tch T x).map (·.i)=x
 | _,[],_=>by cases ‹List Tg› <;> rfl
 | [],_::_,h=>by simp at h
 | t::r,y::s,h=>by simp [tch,ajq r s (by simpa using h)]
theorem aeL:∀ (T:List Tg) (x:List It),x.length<=T.length->(tch T x).map (·.b)=List.replicate x.length true
 | _,[],_=>by cases ‹List Tg› <;> rfl
 | [],_::_,h=>by simp at h
 | t::r,y::s,h=>by simp [tch,aeL r s (by simpa using h),qJx]
theorem aeg:∀ (T:List Tg) (x:List It),x.length<=T.length->(tch T x).map (·.f)=(T.map (·.f)).take x.length
 | _,[],_=>by cases ‹List Tg› <;> rfl
 | [],_::_,h=>by simp at h
 | t::r,y::s,h=>by simp [tch,aeg r s (by simpa using h)]
theorem ais (T:List Tg) (x:List It) (h:x.length<=T.length):(tch T x).length=x.length:=by have:=congrArg List.length (aeL T x h);simpa using this
structure Ins (l:List En) (n:Nt):Prop where
 k:1<=n.k/\n.k<=5
 a:n.k<=4->0<=n.a/\n.a<=l.length
 c:n.k=2\/n.k=3->0<=n.c/\n.a+n.c<=l.length
 t:n.k=3->0<=n.t/\n.t<=l.length - n.c
 x:n.k=4->n.a+n.x.length<=l.length
 s:n.k=1->(l.length:Int)+n.x.length<=1024
 r:n.k=5->(n.x.length:Int)<=1024
theorem zC {ks:List Kd} {cap:Int} {l:List En} {n:Nt} (h:apE ks cap l n=0):Ins l n:=by
 unfold apE at h;split at h
 ·rename_i h1;exact absurd h h1
 ·rename_i hE;have hE:ntE n=0:=by simpa using hE
  have hk:1<=n.k/\n.k<=5:=by
   unfold ntE at hE;split at hE
   ·cases hE
   ·omega
  split at h
  ·rename_i h1;exact absurd h h1
  ·rename_i hF;have hF:apF ks cap l n=0:=by simpa using hF
   unfold apF at hF;split at hF
   ·rename_i k1;split at hF
    ·simp at hF
    ·rename_i hi;have:=ug (by simpa using hi);split at hF
     ·simp at hF
     ·exact ⟨hk,λ_=>by omega,λ_=>by omega,λ_=>by omega,λ_=>by omega,λ_=>by omega,λ_=>by omega⟩
   ·rename_i k1;split at hF
    ·rename_i k2;split at hF
     ·simp at hF
     ·rename_i hi;have:=ug (by simpa using hi);exact ⟨hk,λ_=>by omega,λ_=>by omega,λ_=>by omega,λ_=>by omega,λ_=>by omega,λ_=>by omega⟩
    ·rename_i k2;split at hF
     ·rename_i k3;split at hF
      ·simp at hF
      ·rename_i hi;have hi:inR n.a n.c l.length=true/\inR n.t 0 (l.length - n.c)=true:=by simpa using hi
       have h1:=ug hi.1;have h2:=ug hi.2;exact ⟨hk,λ_=>by omega,λ_=>by omega,λ_=>by omega,λ_=>by omega,λ_=>by omega,λ_=>by omega⟩
     ·rename_i k3;split at hF
      ·rename_i k4;split at hF
       ·simp at hF
       ·rename_i hi;have:=ug (by simpa using hi);exact ⟨hk,λ_=>by omega,λ_=>by omega,λ_=>by omega,λ_=>by omega,λ_=>by omega,λ_=>by omega⟩
      ·rename_i k4;split at hF
       ·simp at hF
       ·exact ⟨hk,λ_=>by omega,λ_=>by omega,λ_=>by omega,λ_=>by omega,λ_=>by omega,λ_=>by omega⟩
theorem acY (ks:List Kd) (x:List It):(x.map (fre ks)).map (λe=>e.i)=x:=by rw [qVz];have:(λe:En=>e.i) ∘ fre ks=id:=rfl;rw [this,List.map_id]
theorem LM {ks:List Kd} {l:List En} {T:List Tg} {n:Nt} (h:Ins l n) (hT:T.map (·.i)=l.map (·.i)):(kX T n).map (·.i)=(apL ks l n).map (·.i):=by
 have hl:T.length=l.length:=by simpa using congrArg List.length hT
 have htin:(tin n.x).map (·.i)=n.x:=by unfold tin;rw [qVz];exact List.map_id _
 unfold kX apL;split
 ·rw [bD,bD,hT,acY,htin]
 ·split
  ·rw [bD,bD,hT];rfl
  ·split
   ·rw [bD,bD,bD,bD,hT];simp only [qbx,qdj,hT,qax]
   ·split
    ·rename_i k4;have:=h.x k4;have h2:=h.a qqq;rw [bD,bD,hT,acY,ajq _ _ (by rw [qaq];omega)]
    ·rw [acY,htin]
theorem afO {ks:List Kd} {l:List En} {T:List Tg} {n:Nt} (h:Ins l n) (hT:T.map (·.i)=l.map (·.i)):(kX T n).length=(apL ks l n).length:=by have:=congrArg List.length (LM (ks:=ks) h hT);simpa using this
def allL (ks:List Kd):List En->List Nt->List En
 | l,[]=>l
 | l,n::r=>allL ks (apL ks l n) r
def jE (ks:List Kd) (cap:Int):List En->List Nt->Int
 | _,[]=>0
 | l,n::r=>if apE ks cap l n≠0 then apE ks cap l n else jE ks cap (apL ks l n) r
def EY (ks:List Kd) (cap:Int):List En->List Nt->Nat
 | _,[]=>0
 | l,n::r=>if apE ks cap l n≠0 then 0 else EY ks cap (apL ks l n) r+1
def allT:List Tg->List Nt->List Tg
 | T,[]=>T
 | T,n::r=>allT (kX T n) r
theorem aby {ks:List Kd} {cap:Int}:∀ (x:List Nt) (l:List En) (T:List Tg),jE ks cap l x=0->T.map (·.i)=l.map (·.i)->(allT T x).map (·.i)=(allL ks l x).map (·.i)
 | [],_,_,_,h=>h
 | n::r,l,T,h,hT=>by
  rw [jE] at h;split at h
  ·rename_i h1;exact absurd h h1
  ·rename_i h1;rw [allT,allL];exact aby r _ _ h (LM (zC (by simpa using h1)) hT)
theorem NR {ks:List Kd} {cap:Int}:∀ (x:List Nt) (l:List En),(∀ n ∈ x,qg ks n)->ckE ks cap l=0->jE ks cap l x=0->ckE ks cap (allL ks l x)=0
 | [],_,_,hc,_=>hc
 | n::r,l,hx,hc,h=>by
  rw [jE] at h;split at h
  ·rename_i h1;exact absurd h h1
  ·rename_i h1;rw [allL];exact NR r _ (λm hm=>hx m (qyz _ hm)) (Jl (hx n (qXq ..)) hc (by simpa using h1)) h
theorem all_in {ks:List Kd} {cap:Int}:∀ (x:List Nt) (l:List En),(∀ n ∈ x,qg ks n)->(∀ e ∈ l,dQ e)->jE ks cap l x=0->∀ e ∈ allL ks l x,dQ e
 | [],_,_,hs,_=>hs
 | n::r,l,hx,hs,h=>by
  rw [jE] at h;split at h
  ·rename_i h1;exact absurd h h1
  ·rename_i h1;rw [allL];exact all_in r _ (λm hm=>hx m (qyz _ hm)) (Yl (hx n (qXq ..)) hs (by simpa using h1)) h
end Go.D
end
