/- Part of the theory that the claims of this work use: J09, M26, M27, M29, M30, M28, M31, M32, M14, M15, M16, M17, J11, J10, J12. No conditions of its own. -/
import Derived.Test.YtlkfpgggbjlfgaaGreatT8
set_option linter.unusedVariables false
set_option linter.unusedSimpArgs false
set_option maxHeartbeats 4000000
set_option maxRecDepth 10000
section
namespace Go.D
open Go Go.Pav Go.Pw P
attribute [-simp] List.getElem_cons_drop
variable {C:aH}
theorem adl (H:zf C) (ks:List Kd) (cap:Int) (l:List En) (e:Bool) (x:List Nt) (xe:Bool) (hx:∀ n ∈ x,qg ks n) (hxl:x.length<=1000) (o:Int) (A1 A2 A3:List (List AV)) (b1 b2 b3:Bool) (U:List Tg)
 (hnet:∀ te,FnW C 362 [.int .i64 l.length,.ro 6 (U.map eTg) te]=some (.agg [.int .i64 o,.ro 1 A1 b1,.ro 1 A2 b2,.ro 4 A3 b3])):∀ n j,n+j=x.length->∀ (l':List En) (T:List Tg) (te:Bool),jE ks cap l' (x.drop j)=0->ckE ks cap l'=0->T.map (·.i)=l'.map (·.i)->allT T (x.drop j)=U ->
 FC C ⟨[(7,.int .i64 j),(5,.ro 6 (T.map eTg) te),(4,.ptr 0 0 0),(1,.ro 5 (x.map eNt) xe),(0,.ro 6 (l.map eEn) e)],[(0,.cells 4 [[.int .i64 0,.ro 1 [] true,.ro 1 [] true,.ro 4 [] true]] true true)],1⟩=some (.agg [.int .i64 o,.ro 1 A1 b1,.ro 1 A2 b2,.ro 4 A3 b3]):=by
 intro n;induction n with
 | zero =>
  intro j hj l' T te hE hc hT hU;have h1:x.drop j=[]:=qwj qqq;have h3:¬ j < x.length:=by omega
  rw [h1,allT] at hU;have:=hnet te;rw [<- hU] at this;simp only [FC];rw [aj uH.eq_1];simp (disch:=omega) [aj Hg.eq_1,h3,this,H.inl,ak,H.pp,ppB]
 | succ n ih =>
  intro j hj l' T te hE hc hT hU;have hlt:j < x.length:=by omega
  have hd:x.drop j=x[j]::x.drop (j+1):=qbq hlt;have hn:=hx x[j] (qxx hlt);have hll:=rO hc;have hTl:T.length=l'.length:=by simpa using congrArg List.length hT
  rw [hd] at hE hU;rw [jE] at hE;rw [allT] at hU;split at hE
  ·rename_i q;exact absurd hE q
  rename_i q;have hap:apE ks cap l' x[j]=0:=by simpa using q
  have hins:=zC hap;have hf:=LY H T te qqq x[j] (by have:=hn.l;omega) (X9 hins hTl);have:=ih (j+1) qqq (apL ks l' x[j]) (kX T x[j]) false hE (Jl hn hc hap) (LM hins hT) hU;simp only [FC] at this |-;rw [aj uH.eq_1];simp only [eNt] at hf;generalize kX T x[j]=S at *;simp at this;simp (disch:=omega) [hlt,hf,aC,this,H.inl,ak,H.pp,ppB]
theorem akR (H:zf C) (ks:List Kd) (cap:Int) (l:List En) (e:Bool) (x:List Nt) (xe:Bool) (hx:∀ n ∈ x,qg ks n) (hxl:x.length<=1000) (hE:jE ks cap l x=0) (hc:ckE ks cap l=0) :
 ∃ fe be xf,FnW C 624 [.ro 6 (l.map eEn) e,.ro 5 (x.map eNt) xe]=some (.agg (eNn (MK l.length (allT (eF l) x) fe be xf))):=by
 have hll:=rO hc;have hUl:(allT (eF l) x).length<=1000000:=by have h:=congrArg List.length (aby x l (eF l) hE (DX l));have:=rO (NR x l hx hc hE);simp only [qQq] at h;omega
 obtain ⟨fe,be,xf,hnet⟩:=ah5 H.toXl l.length (allT (eF l) x) hUl;refine ⟨fe,be,xf,?_⟩;have htl:(eF l).length=l.length:=by simpa using congrArg List.length (DX l)
 have hget:∀ i (h:i < l.length),(eF l)[i]?=some ⟨i,false,l[i].i⟩:=by intro i h;unfold eF;simp [qqj h]
 unfold MK at hnet |-;simp only [eNn,Iw] at hnet |-;have key:∀ m i,m+i=l.length->∀ G:List Tg,G=(eF l).take i ->
  Bv C ⟨[(6,.int .i64 i),(5,.sl 0 6 0 G.length G.length false),(4,.ptr 1 0 0),(1,.ro 5 (x.map eNt) xe),(0,.ro 6 (l.map eEn) e)],[(0,.cells 6 (G.map eTg) true true),(1,.cells 4 [[.int .i64 0,.ro 1 [] true,.ro 1 [] true,.ro 4 [] true]] true true)],2⟩ =
   some (.agg [.int .i64 l.length,.ro 1 (((allT (eF l) x).map (·.f)).map eI) fe,.ro 1 (((allT (eF l) x).map (·.b)).map eB) be,.ro 4 ((((allT (eF l) x).filter (·.b)).map (·.i)).map cIt) xf]):=by
  intro m;induction m with
  | zero =>
   intro i hi G hG;have h3:¬ i < l.length:=by omega
   have hG2:G=eF l:=by rw [hG];exact qzz qqq
   have hGl:G.length=l.length:=by rw [hG2,htl]
   have t0:List.take G.length (G.map eTg)=G.map eTg:=qzz qqz;cases x with
   | nil =>have:=hnet false;simp only [allT] at this |-;rw [<- hG2] at this |-;generalize List.map eI (List.map (λx=>x.f) G)=B1 at *;generalize List.map eB (List.map (λx=>x.b) G)=B2 at *;generalize List.map cIt (List.map (λx=>x.i) (List.filter (λx=>x.b) G))=B3 at *;simp only [Bv];rw [aj xQ.eq_1];simp (disch:=omega) [aj FN.eq_1,aj uH.eq_1,aj Hg.eq_1,h3,this,t0,aC,H.inl,ak,H.pp,ppB]
   | cons y r =>
    have hins:Ins l y:=by
     rw [jE] at hE;split at hE
     ·rename_i q;exact absurd hE q
     ·rename_i q;exact zC (by simpa using q)
    have hap:apE ks cap l y=0:=by
     rw [jE] at hE;split at hE
     ·rename_i q;exact absurd hE q
     ·rename_i q;simpa using q
    have hE2:jE ks cap (apL ks l y) r=0:=by rw [jE,qwq (by simp [hap])] at hE;exact hE
    have hy:=hx y qqz;have hf:=LY H G false qqq y (by have:=hy.l;omega) (X9 hins qqq);have hd:=adl H ks cap l e (y::r) xe hx hxl l.length _ _ _ fe be xf (allT (eF l) (y::r)) hnet r.length 1 qqz (apL ks l y) (kX (eF l) y) false hE2 (Jl hy hc hap) (LM hins (DX l)) rfl;rw [<- hG2] at hd |-;generalize kX G y=S at *;generalize List.map eI (List.map (λx=>x.f) (allT G (y::r)))=B1 at *;generalize List.map eB (List.map (λx=>x.b) (allT G (y::r)))=B2 at *;generalize List.map cIt (List.map (λx=>x.i) (List.filter (λx=>x.b) (allT G (y::r))))=B3 at *;simp only [eNt] at hf;simp only [FC] at hd;simp at hd;simp only [Bv];rw [aj xQ.eq_1];simp (disch:=omega) [aj FN.eq_1,h3,t0];rw [aj uH.eq_1];simp (disch:=omega) [hf,hd,t0,aC,H.inl,ak,H.pp,ppB]
  | succ m ih =>
   intro i hi G hG;have h1:i < l.length:=by omega
   have hGl:G.length=i:=by rw [hG];simp;omega
   have hcap:(G.length+1) * 73<=35184372088832:=by omega
   have:=ih (i+1) qqq (G++[⟨i,false,l[i].i⟩]) (by rw [q0q,hget i h1,hG];rfl);generalize List.map eI (List.map (λx=>x.f) (allT (eF l) x))=B1 at *;generalize List.map eB (List.map (λx=>x.b) (allT (eF l) x))=B2 at *;generalize List.map cIt (List.map (λx=>x.i) (List.filter (λx=>x.b) (allT (eF l) x)))=B3 at *;simp only [Bv] at this |-;rw [aj xQ.eq_1];simp at this;simp (disch:=omega) [h1,hcap,aC,this]
 have h0:=key l.length 0 rfl [] rfl;rw [aF H.anM rfl];generalize List.map eI (List.map (λx=>x.f) (allT (eF l) x))=B1 at *;generalize List.map eB (List.map (λx=>x.b) (allT (eF l) x))=B2 at *;generalize List.map cIt (List.map (λx=>x.i) (List.filter (λx=>x.b) (allT (eF l) x)))=B3 at *;simp only [Bv] at h0;simp at h0;simp (disch:=omega) [agt,h0]
@[simp] def eXs (p:List It × Bool):List AV:=[.ro 4 (p.1.map cIt) p.2]
def Nt.st (n:Nt):Nt:={ n with e:=true }
end Go.D
end
section
namespace Go.D
open Go Go.Pav Go.Pw P
set_option maxHeartbeats 1000000
attribute [-simp] List.getElem_cons_drop
variable {C:aH}
def Nt.ow (n:Nt):Nt:={ n with x:=n.x.map It.own,e:=true }
end Go.D
end
section
namespace Go.D
open Go Go.Pav Go.Pw P
attribute [-simp] List.getElem_cons_drop
variable {C:aH}
theorem OQ (x:Int):0<=IntKind.u8.wrap x/\IntKind.u8.wrap x<=255:=by have:IntKind.u8.wrap x=x % 256:=rfl;omega
structure Q5 where
 a:Int
 b:Int
 c:Int
 d:Int
 e:Int
@[simp] def eQ5 (q:Q5):List AV:=[.int .u8 q.a,.int .u8 q.b,.int .u8 q.c,.int .u8 q.d,.int .u8 q.e]
structure OG (q:Q5):Prop where
 a:0<=q.a/\q.a<=255
 b:0<=q.b/\q.b<=255
 c:0<=q.c/\q.c<=255
 d:0<=q.d/\q.d<=255
 e:0<=q.e/\q.e<=255
structure Lr (C:aH):Prop extends vJ C where
 aoa:C.fns.get 452=some ai0
def NtP (n:Nt):Prop:=(∀ y ∈ n.x,iU y)/\n.x.length<=3000
def NtO (x:Option AV):Prop:=∃ n:Nt,x=some (.agg (eNt n))/\NtP n
theorem NtO.mk {x:Option AV} (k a c t:Int) (l:List It) (e:Bool) (h:x=some (.agg [.int .u8 k,.int .i64 a,.int .i64 c,.int .i64 t,.ro 4 (l.map cIt) e])) (hl:∀ y ∈ l,iU y) (hn:l.length<=3000):NtO x :=⟨⟨k,a,c,t,l,e⟩,h,hl,hn⟩
abbrev zNt:List AV:=[.int .u8 0,.int .i64 0,.int .i64 0,.int .i64 0,.ro 4 [] true]
theorem ak4 (H:Lr C) (l:List En) (le:Bool) (hs:∀ e ∈ l,dQ e) (hl:l.length<=1024) (at_ c:Nat) (hac:at_+c<=l.length):∀ n i,n+i=c->∀ G:List It,(∀ y ∈ G,iU y)->G.length<=i+10 ->
 NtO (FW C ⟨[(16,.int .i64 i),(9,.sl 0 4 0 G.length G.length false),(8,.int .i64 c),(7,.int .i64 at_),(6,.ptr 1 0 0),(1,.ro 6 (l.map eEn) le)],[(0,.cells 4 (G.map cIt) true true),(1,.cells 5 [zNt] true true)],2⟩):=by
 intro n;induction n with
 | zero =>
  intro i hi G hG hg;have h3:¬ i < c:=by omega
  have hT:List.take G.length (List.map cIt G)=List.map cIt G:=qzz qqz;refine NtO.mk 5 0 0 0 G false ?_ hG qqq;simp only [FW];rw [aj Bd.eq_1];simp (disch:=omega) [aj Nh.eq_1,h3,hT,aC,H.inl,ak,H.pp,ppB]
 | succ n ih =>
  intro i hi G hG hg;have h3:i < c:=by omega
  have h4:at_+i < l.length:=by omega
  have hfit:(G.length+1) * 57<=35184372088832:=by omega
  have:=ih (i+1) qqq (G++[l[at_+i].i]) (by
   intro y hy;rcases qjj.1 hy with hy | hy
   ·exact hG y hy
   ·simp only [qVx] at hy;subst hy;exact (hs _ (qxx h4)).i) qqx
  simp only [FW] at this |-;rw [aj Bd.eq_1];simp at this;simp (disch:=omega) [h3,h4,hfit,aC,H.inl,ak,H.pp,ppB];exact this
theorem alI (H:Lr C) (q:Q5) (hq:OG q) (l:List En) (le:Bool) (hs:∀ e ∈ l,dQ e) (hl:l.length<=1024) (at_ c:Nat) (hac:at_+c<=l.length) :
 NtO (sS C ⟨[(14,.int .i64 0),(13,.ptr 0 0 0),(8,.int .i64 c),(7,.int .i64 at_),(6,.ptr 1 0 0),(3,.ptr 2 0 0),(1,.ro 6 (l.map eEn) le)],
  [(0,.cells 5 [[.int .u8 4,.int .i64 at_,.int .i64 0,.int .i64 0,.ro 4 [] true]] true true),(1,.cells 5 [zNt] true true),(2,.cells 5 [eQ5 q] true true)],3⟩):=by
 obtain ⟨i0,h0,g0⟩:=sD H.tovJ ⟨0,IntKind.u8.wrap (q.d+0),q.e,q.e⟩ ⟨by simp,OQ _,hq.e,hq.e⟩;obtain ⟨i1,h1,g1⟩:=sD H.tovJ ⟨0,IntKind.u8.wrap (q.d+1),q.e,q.e⟩ ⟨by simp,OQ _,hq.e,hq.e⟩;obtain ⟨i2,h2,g2⟩:=sD H.tovJ ⟨0,IntKind.u8.wrap (q.d+2),q.e,q.e⟩ ⟨by simp,OQ _,hq.e,hq.e⟩;have w0:IntKind.u8.wrap 0=0:=rfl;have w1:IntKind.u8.wrap 1=1:=rfl;have w2:IntKind.u8.wrap 2=2:=rfl;have m0:vH 0 3=0:=rfl;have m1:vH 1 3=1:=rfl;have m2:vH 2 3=2:=rfl;have it:∀ (i:It) (j:Nat),Good i->(h:at_+j < l.length)->iU { i with k:=l[at_+j].i.k }:=λi j g h=>⟨(hs _ (qxx h)).i.k,g.it.t,g.it.m⟩;simp only [eQ,eIt] at h0 h1 h2;simp at h0;have three:(c=3\/3 < c)->NtO (sS C ⟨[(14,.int .i64 0),(13,.ptr 0 0 0),(8,.int .i64 c),(7,.int .i64 at_),(6,.ptr 1 0 0),(3,.ptr 2 0 0),(1,.ro 6 (l.map eEn) le)],
  [(0,.cells 5 [[.int .u8 4,.int .i64 at_,.int .i64 0,.int .i64 0,.ro 4 [] true]] true true),(1,.cells 5 [zNt] true true),(2,.cells 5 [eQ5 q] true true)],3⟩):=by
  intro hc;have a0:at_ < l.length:=by omega
  have a1:at_+1 < l.length:=by omega
  have a2:at_+2 < l.length:=by omega
  refine NtO.mk 4 at_ 0 0 [{ i0 with k:=l[at_+0].i.k },{ i1 with k:=l[at_+1].i.k },{ i2 with k:=l[at_+2].i.k }] false ?_ (by
   intro y hy;simp only [qkq,qdq,q0x] at hy;rcases hy with rfl | rfl | rfl
   ·exact it i0 0 g0 a0
   ·exact it i1 1 g1 a1
   ·exact it i2 2 g2 a2) qqz
  have hm:vH c 3=3:=by unfold vH;split <;> omega
  simp only [sS];simp (disch:=omega) [aj tJ.eq_1,aj xR.eq_1,hm,h0,h1,h2,w0,w1,w2,a0,a1,a2,aC,H.inl,ak,H.pp,ppB]
 have h5:c=0\/c=1\/c=2\/(c=3\/3 < c):=by omega
 rcases h5 with rfl | rfl | rfl | hc
 ·refine NtO.mk 4 at_ 0 0 [] true ?_ qqz qqz;simp only [sS];simp (disch:=omega) [aj tJ.eq_1,aj xR.eq_1,m0,aC,H.inl,ak,H.pp,ppB]
 ·have a0:at_ < l.length:=by omega
  refine NtO.mk 4 at_ 0 0 [{ i0 with k:=l[at_+0].i.k }] false ?_ (by intro y hy;simp only [qkq,qdq,q0x] at hy;subst hy;exact it i0 0 g0 a0) qqz;simp only [sS];simp (disch:=omega) [aj tJ.eq_1,aj xR.eq_1,m1,h0,w0,a0,aC,H.inl,ak,H.pp,ppB]
 ·have a0:at_ < l.length:=by omega
  have a1:at_+1 < l.length:=by omega
  refine NtO.mk 4 at_ 0 0 [{ i0 with k:=l[at_+0].i.k },{ i1 with k:=l[at_+1].i.k }] false ?_ (by
   intro y hy;simp only [qkq,qdq,q0x] at hy;rcases hy with rfl | rfl
   ·exact it i0 0 g0 a0
   ·exact it i1 1 g1 a1) qqz
  simp only [sS];simp (disch:=omega) [aj tJ.eq_1,aj xR.eq_1,m2,h0,h1,w0,w1,a0,a1,aC,H.inl,ak,H.pp,ppB]
 ·exact three hc
theorem agr (H:Lr C) (q:Q5) (hq:OG q) (l:List En) (le:Bool) (hs:∀ e ∈ l,dQ e) (hl:l.length<=1024) (at_ c:Nat) (hac:at_+c<=l.length) (G:List It) (hG:∀ y ∈ G,iU y) (hg:G.length<=3) :
 NtO (CK C 0 (aO [.cell 6 5 true]) [] GZ ⟨[(9,.sl 0 4 0 G.length G.length false),(8,.int .i64 c),(7,.int .i64 at_),(6,.ptr 1 0 0),(3,.ptr 2 0 0),(1,.ro 6 (l.map eEn) le)],[(0,.cells 4 (G.map cIt) true true),(1,.cells 5 [zNt] true true),(2,.cells 5 [eQ5 q] true true)],3⟩):=by
 have hT:List.take G.length (List.map cIt G)=List.map cIt G:=qzz qqz;have hfit:(G.length+1) * 57<=35184372088832:=by omega
 have hm:q.a.tmod 16=q.a % 16:=qkz hq.a.1;have hk1:0<=q.a % 16:=qnq _ qqq;have hk2:q.a % 16 < 16:=qhq _ qqq;generalize hk:q.a % 16=k at *;rw [aj GZ.eq_1];by_cases c1:k < 4
 ·refine NtO.mk 1 at_ 0 0 G false ?_ hG qqq;simp (disch:=omega) [hm,c1,hT,wU8,aC,H.inl,ak,H.pp,ppB]
 ·by_cases c2:k < 6
  ·refine NtO.mk 2 at_ (vH c 3) 0 [] true ?_ qqz qqz;simp (disch:=omega) [hm,c1,c2,wU8,aC,H.inl,ak,H.pp,ppB]
  ·by_cases c3:k < 8
   ·refine NtO.mk 3 at_ c (q.d.tmod ((l.length:Int) - c+1)) [] true ?_ qqz qqz;have hnz:¬ ((l.length:Int) - c+1=0):=by omega
    have hd:=hq.d;have hr1:0<=q.d.tmod ((l.length:Int) - c+1):=Int.tmod_nonneg _ hd.1;have hr2:q.d.tmod ((l.length:Int) - c+1) < (l.length:Int) - c+1:=Int.tmod_lt_of_pos _ qqq;simp (disch:=omega) [hm,c1,c2,c3,hnz,wU8,aC,H.inl,ak,H.pp,ppB]
   ·by_cases c4:k < 10
    ·have h:=alI H q hq l le hs hl at_ c hac;simp only [sS] at h;simp at h;simp (disch:=omega) [hm,c1,c2,c3,c4,wU8,aC,H.inl,ak,H.pp,ppB];exact h
    ·by_cases c5:k < 11
     ·have h:=ak4 H l le hs hl at_ c hac c 0 rfl G hG qqq;simp only [FW] at h;simp at h;simp (disch:=omega) [hm,c1,c2,c3,c4,c5,wU8,aC,H.inl,ak,H.pp,ppB];exact h
     ·by_cases c6:k < 12
      ·obtain ⟨i0,h0,g0⟩:=sD H.tovJ ⟨q.b,q.c,q.d,q.e⟩ ⟨hq.b,hq.c,hq.d,hq.e⟩;simp only [eQ,eIt] at h0;refine NtO.mk 1 at_ 0 0 (G++[i0]) false ?_ (by
        intro y hy;rcases qjj.1 hy with hy | hy
        ·exact hG y hy
        ·simp only [qVx] at hy;subst hy;exact g0.it) qqx
       have hT2:List.take (G.length+1) (List.map cIt G++[[.int .u64 i0.k,.int .u8 i0.t,.str i0.x,.ro 1 (i0.m.map eS) i0.e]])=List.map cIt G++[[.int .u64 i0.k,.int .u8 i0.t,.str i0.x,.ro 1 (i0.m.map eS) i0.e]]:=qzz qqz;simp (disch:=omega) [hm,c1,c2,c3,c4,c5,c6,h0,hfit,hT2,wU8,aC,H.inl,ak,H.pp,ppB]
      ·by_cases c7:k=12
       ·have b1:q.b.tmod 8=q.b % 8:=qkz hq.b.1;have b2:q.c.tmod 8=q.c % 8:=qkz hq.c.1;have b3:q.d.tmod 4=q.d % 4:=qkz hq.d.1;have b4:q.e.tmod 3=q.e % 3:=qkz hq.e.1;refine NtO.mk (q.b % 8) (q.c % 8 - 2) (q.d % 4 - 1) (q.e % 3) [] true ?_ qqz qqz;have e1:=qnq q.c (show (8:Int)≠0 by omega);have e2:=qhq q.c (show (0:Int) < 8 by omega);have e3:=qnq q.d (show (4:Int)≠0 by omega);have e4:=qhq q.d (show (0:Int) < 4 by omega);have e5:=qnq q.e (show (3:Int)≠0 by omega);have e6:=qhq q.e (show (0:Int) < 3 by omega);have e7:=qnq q.b (show (8:Int)≠0 by omega);have e8:=qhq q.b (show (0:Int) < 8 by omega);simp (disch:=omega) [hm,c1,c2,c3,c4,c5,c6,c7,b1,b2,b3,b4,wU8,aC,H.inl,ak,H.pp,ppB]
       ·by_cases c8:k=13
        ·refine NtO.mk 2 at_ (c+1) 0 [] true ?_ qqz qqz;simp (disch:=omega) [hm,c1,c2,c3,c4,c5,c6,c7,c8,wU8,aC,H.inl,ak,H.pp,ppB]
        ·by_cases c9:k=14
         ·refine NtO.mk 4 at_ 0 0 (G++[⟨1,0,[],[],true⟩]) false ?_ (by
           intro y hy;rcases qjj.1 hy with hy | hy
           ·exact hG y hy
           ·simp only [qVx] at hy;subst hy;exact ⟨by simp,by simp,by simp⟩) qqx
          have hT2:List.take (G.length+1) (List.map cIt G++[[.int .u64 1,.int .u8 0,.str [],.ro 1 [] true]])=List.map cIt G++[[.int .u64 1,.int .u8 0,.str [],.ro 1 [] true]]:=qzz qqz;simp (disch:=omega) [hm,c1,c2,c3,c4,c5,c6,c7,c8,c9,hfit,hT2,wU8,aC,H.inl,ak,H.pp,ppB]
         ·refine NtO.mk 1 at_ 0 0 (G++[⟨0,q.e,[],[],true⟩]) false ?_ (by
           intro y hy;rcases qjj.1 hy with hy | hy
           ·exact hG y hy
           ·simp only [qVx] at hy;subst hy;exact ⟨by simp,hq.e,by simp⟩) qqx
          have hT2:List.take (G.length+1) (List.map cIt G++[[.int .u64 0,.int .u8 q.e,.str [],.ro 1 [] true]])=List.map cIt G++[[.int .u64 0,.int .u8 q.e,.str [],.ro 1 [] true]]:=qzz qqz;simp (disch:=omega) [aj FI.eq_1,hm,c1,c2,c3,c4,c5,c6,c7,c8,c9,hfit,hT2,wU8,aC,H.inl,ak,H.pp,ppB]
theorem afu (H:Lr C) (q:Q5) (hq:OG q) (l:List En) (le:Bool) (hs:∀ e ∈ l,dQ e) (hl:l.length<=1024) (at_ c:Nat) (hac:at_+c<=l.length) (num:Nat) (hnum:num<=10):∀ n i:Nat,((n+i:Nat):Int)=q.c % 4->∀ G:List It,(∀ y ∈ G,iU y)->G.length<=i ->
 NtO (FD C ⟨[(10,.int .i64 i),(9,.sl 0 4 0 G.length G.length false),(8,.int .i64 c),(7,.int .i64 at_),(6,.ptr 1 0 0),(3,.ptr 2 0 0),(2,.int .i64 num),(1,.ro 6 (l.map eEn) le)],[(0,.cells 4 (G.map cIt) true true),(1,.cells 5 [zNt] true true),(2,.cells 5 [eQ5 q] true true)],3⟩):=by
 have hm:q.c.tmod 4=q.c % 4:=qkz hq.c.1;have hm2:q.c % 4 < 4:=qhq _ qqq;intro n;induction n with
 | zero =>
  intro i hi G hG hg;have hi2:q.c % 4=(i:Int):=by omega
  have h:=agr H q hq l le hs hl at_ c hac G hG qqq;simp only [FD];rw [aj Bz.eq_1];simp at h;simp (disch:=omega) [hm,hi2,wU8,aC,H.inl,ak,H.pp,ppB];exact h
 | succ n ih =>
  intro i hi G hG hg;have h3:(i:Int) < q.c % 4:=by omega
  have hd:q.e.tdiv 2=q.e / 2:=qKx hq.e.1;have he:=hq.e;obtain ⟨i0,h0,g0⟩:=sD H.tovJ ⟨0,IntKind.u8.wrap (q.e+i),q.d,q.e / 2⟩ ⟨by simp,OQ _,hq.d,by simp only;omega⟩;simp only [eQ,eIt] at h0;have hfit:(G.length+1) * 57<=35184372088832:=by omega
  have:=ih (i+1) qqq (G++[{ i0 with k:=100+(10 * num+i) }]) (by
   intro y hy;rcases qjj.1 hy with hy | hy
   ·exact hG y hy
   ·simp only [qVx] at hy;subst hy;exact ⟨by simp only;omega,g0.it.t,g0.it.m⟩) qqx
  simp only [FD] at this |-;rw [aj Bz.eq_1];simp at this;simp (disch:=omega) [hm,h3,hd,h0,hfit,wU8,aC,pJ,H.inl,ak,H.pp,ppB];exact this
theorem ags (H:Lr C) (q:Q5) (hq:OG q) (l:List En) (le:Bool) (hs:∀ e ∈ l,dQ e) (hl:l.length<=1024) (num:Nat) (hnum:num<=10) :
 NtO (FnW C 452 [.agg (eQ5 q),.ro 6 (l.map eEn) le,.int .i64 num]):=by
 have e1:q.b.tmod ((l.length:Int)+1)=((q.b.toNat % (l.length+1):Nat):Int):=by rw [qkz hq.b.1];obtain ⟨v,hv⟩:∃ v:Nat,q.b=v:=⟨q.b.toNat,by have:=hq.b.1;omega⟩;rw [hv];simp
 have h1:q.b.toNat % (l.length+1) < l.length+1:=zyq _ qqq;generalize q.b.toNat % (l.length+1)=at_ at *;have e2:q.c.tmod ((l.length:Int) - at_+1)=((q.c.toNat % (l.length - at_+1):Nat):Int):=by
  rw [qkz hq.c.1];obtain ⟨v,hv⟩:∃ v:Nat,q.c=v:=⟨q.c.toNat,by have:=hq.c.1;omega⟩;have hd:(l.length:Int) - at_+1=((l.length - at_+1:Nat):Int):=by omega
  rw [hv,hd];simp
 have h2:q.c.toNat % (l.length - at_+1) < l.length - at_+1:=zyq _ qqq;generalize q.c.toNat % (l.length - at_+1)=c at *;have h:=afu H q hq l le hs hl at_ c qqq num hnum (q.c % 4).toNat 0 (by have:=qnq q.c (show (4:Int)≠0 by omega);omega) [] qqz qqz;have hb:=hq.b;have hc:=hq.c;have n1:¬ ((l.length:Int)+1=0):=by omega
 have n2:¬ ((l.length:Int) - at_+1=0):=by omega
 rw [aF H.aoa rfl];simp only [FD] at h;simp at h;simp (disch:=omega) [ai0,e1,e2,n1,n2,wU8,aC,H.inl,ak,H.pp,ppB];exact h
structure YG (C:aH):Prop extends Lr C,abe C where
 f326:C.fns.get 326=some aic
theorem NtP.inn {ks:List Kd} (hk:VN ks) {n:Nt} (h:NtP n):qg ks n:=by refine ⟨h.1,by have:=h.2;omega,λy hy ho=>?_⟩;have ht:=nT ho;have h2:=(h.1 y hy).t;have:=hk.l;have:=hk.b y.t qqq qqq;omega
theorem adZ (H:YG C) (ks:List Kd) (hk:VN ks) (xs:List Q5) (xe:Bool) (hx:∀ q ∈ xs,OG q) (hxl:xs.length < 9223372036854775808):∀ n i,n+i=6->∀ (l:List En) (fl:Bool) (N:List Nt),(∀ e ∈ l,dQ e)->ckE ks 12 l=0->(∀ n ∈ N,qg ks n)->N.length=i ->
 ∃ x:List Nt,wY C ⟨[(9,.int .i64 i),(8,.ro 6 (l.map eEn) fl),(7,.sl 0 5 0 N.length N.length false),(4,.ptr 1 0 0),(3,.ptr 2 0 0)],[(0,.cells 5 (N.map eNt) true true),(1,.cells 2 [[.ro 9 (ks.map eKd) true,.int .i64 12]] true true),(2,.cells 1 [[.ro 5 (xs.map eQ5) xe]] true true)],3⟩=some (.ro 5 (x.map eNt) false) /\
  (∀ n ∈ x,qg ks n)/\x.length<=6:=by
 have stop:∀ (i:Nat) (l:List En) (fl:Bool) (N:List Nt),N.length=i->(xs.length<=i\/6<=i)->wY C ⟨[(9,.int .i64 i),(8,.ro 6 (l.map eEn) fl),(7,.sl 0 5 0 N.length N.length false),(4,.ptr 1 0 0),(3,.ptr 2 0 0)],[(0,.cells 5 (N.map eNt) true true),(1,.cells 2 [[.ro 9 (ks.map eKd) true,.int .i64 12]] true true),(2,.cells 1 [[.ro 5 (xs.map eQ5) xe]] true true)],3⟩=some (.ro 5 (N.map eNt) false):=by
  intro i l fl N hN hs;have hT:List.take N.length (List.map eNt N)=List.map eNt N:=qzz qqz;simp only [wY];rw [aj yO.eq_1];by_cases h1:i < xs.length
  ·have h2:¬ i < 6:=by omega
   simp (disch:=omega) [aj Hl.eq_1,h1,h2,hT,aC,H.inl,ak,H.pp,ppB]
  ·simp (disch:=omega) [aj Hl.eq_1,h1,hT,aC,H.inl,ak,H.pp,ppB]
 intro n;induction n with
 | zero =>intro i hi l fl N hs hc hN hl;exact ⟨N,stop i l fl N hl (.inr qqq),hN,by omega⟩
 | succ n ih =>
  intro i hi l fl N hs hc hN hl;by_cases h1:i < xs.length
  ·have h2:i < 6:=by omega
   obtain ⟨m,hm,hmp⟩:=ags H.toLr xs[i] (hx _ (qxx h1)) l fl hs (rO hc) i qqq;have hin:=hmp.inn hk;have hap:=Hz H.toabe ks true 12 hk.r l fl hs hc m hin;have hfit:(N.length+1) * 57<=35184372088832:=by omega
   have hN2:∀ n ∈ N++[m],qg ks n:=by
    intro n hn;rcases qjj.1 hn with hn | hn
    ·exact hN n hn
    ·simp only [qVx] at hn;subst hn;exact hin
   simp only [eQ5] at hm;by_cases hE:apE ks 12 l m=0
   ·rw [qwq (by simp [hE])] at hap;obtain ⟨x,this,hxx⟩:=ih (i+1) qqq (apL ks l m) false (N++[m]) (Yl hin hs hE) (Jl hin hc hE) hN2 (by simp [hl]);refine ⟨x,?_,hxx⟩;rw [<- this];simp only [wY];rw [aj yO.eq_1];simp only [aR,eNt] at hap;simp (disch:=omega) [h1,h2,hm,hap,hfit,aC,H.inl,ak,H.pp,ppB]
   ·rw [qwz hE] at hap;obtain ⟨x,this,hxx⟩:=ih (i+1) qqq l fl (N++[m]) hs hc hN2 (by simp [hl]);refine ⟨x,?_,hxx⟩;rw [<- this];generalize apE ks 12 l m=E at *;simp only [wY];rw [aj yO.eq_1];simp only [aR,eNt,rfE] at hap;simp (disch:=omega) [h1,h2,hm,hap,hE,hfit,aC,H.inl,ak,H.pp,ppB]
  ·exact ⟨N,stop i l fl N hl (.inl qqq),hN,by omega⟩
theorem al2 (H:YG C) (ks:List Kd) (hk:VN ks) (xs:List Q5) (xe:Bool) (hx:∀ q ∈ xs,OG q) (hxl:xs.length < 9223372036854775808) (l:List En) (fl:Bool) (hs:∀ e ∈ l,dQ e) (hc:ckE ks 12 l=0) :
 ∃ x:List Nt,FnW C 326 [.agg [.ro 5 (xs.map eQ5) xe],aR ks true 12,aL l fl]=some (.ro 5 (x.map eNt) false)/\(∀ n ∈ x,qg ks n)/\x.length<=6:=by
 obtain ⟨x,h,hx2⟩:=adZ H ks hk xs xe hx hxl 6 0 rfl l fl [] hs hc qqz rfl;refine ⟨x,?_,hx2⟩;rw [aF H.f326 rfl];simp only [wY] at h;simp at h;simp (disch:=omega) [aic,h,aC,H.inl,ak,H.pp,ppB]
structure anP (C:aH):Prop extends aj8 C,RJ C,ao9 C,YG C where
 amf:C.fns.get 625=some acM
abbrev nC (o:Int) (A1 A2 A3:List (List AV)) (b:Bool):AV:=.agg [.int .i64 o,.ro 1 A1 b,.ro 1 A2 b,.ro 4 A3 b]
section walk
variable (H:anP C) (hlives:FnW C 166 []=some (.bool true)) (q:List (List AV)) (qe:Bool) (zz:List (List AV)) (ze:Bool) (r:Int) (y:List (List AV)) (ye:Bool) (ks:List Kd) (R:List En) (f:Bool) (x:List Nt) (n:Int) (k:Nat)
 (hlof:FnW C 130 [.agg [.ro 4 q qe,.ro 1 zz ze,.int .u8 r]]=some (.tup [aR ks true 12,aL R f])) (hbof:FnW C 326 [.agg [.ro 5 y ye],aR ks true 12,aL R f]=some (.ro 5 (x.map eNt) false))
 (hx:x.length<=6) (hn:0<=n/\n<=255) (hk:n.tmod ((x.length:Int)+1)=k) (hkl:k<=x.length)
 (o1 t1 e:Int) (A1 A2 A3:List (List AV)) (b1:Bool) (hW:FnW C 454 [aR ks true 12,aL R f,.ro 5 (x.map eNt) false]=some (.tup [nC o1 A1 A2 A3 b1,.int .i64 t1,.int .i64 e]))
 (o2 t2 g:Int) (B1 B2 B3:List (List AV)) (b2:Bool) (hA:∀ fl,FnW C 454 [aR ks true 12,aL R f,.ro 5 ((x.take k).map eNt) fl]=some (.tup [nC o2 B1 B2 B3 b2,.int .i64 t2,.int .i64 g]))
 (L:List (List AV)) (lf:Bool) (t3:Int) (hM:∀ fl,FnW C 171 [aR ks true 12,aL R f,.ro 5 ((x.take k).map eNt) fl]=some (.tup [.agg [.ro 6 L lf],.int .i64 t3,.int .i64 g]))
include H hlives hlof hbof hx hn hk hkl hW hA hM
end walk
end Go.D
end
section
namespace Go.D
open Go Go.Pav Go.Pw P
attribute [-simp] List.getElem_cons_drop
variable {C:aH}
def ac0 (X:aG) (n1 rb:Nat) (c:List AV):Prop:=∃ k t x v:AV,c=[k,t,x,v]/\(v=.ro 1 [] true\/∃ (b m:Nat) (es:List (List AV)) (dt:Bool),v=.sl b 1 0 m m true/\42<=b/\b < n1/\b≠rb/\Pav.get X b=some (.cells 1 es true dt)/\es.length=m/\m<=1000000/\∀ e ∈ es,∃ c0:AV,e=[c0])
structure LwI (X0:aG) (n1 rb n:Nat) (X:aG):Prop where
 keep:∀ b,b < 42\/n1<=b->Pav.get X b=Pav.get X0 b
 rows:∃ cs dt,Pav.get X rb=some (.cells 4 cs true dt)/\cs.length=n/\∀ c ∈ cs,ac0 X n1 rb c
 bd:42<=rb/\rb < n1/\n<=1000000
theorem TP {X:aG} {n1 rb:Nat} {c:List AV} (R:ac0 X n1 rb c) {cs:List (List AV)} {dt:Bool}:ac0 (put X rb (.cells 4 cs true dt)) n1 rb c:=by
 obtain ⟨k,t,x,v,h1,h2⟩:=R;refine ⟨k,t,x,v,h1,?_⟩;rcases h2 with h2 | ⟨b,m,es,dt',h2,h3,h4,h5,h6,h7,h8,h9⟩
 ·exact .inl h2
 ·exact .inr ⟨b,m,es,dt',h2,h3,h4,h5,by rw [aI (qcj h5)];exact h6,h7,h8,h9⟩
theorem ZU {X:aG} {n1 rb b:Nat} {c:List AV} (R:ac0 X n1 rb c) {es:List (List AV)} {dt:Bool} (m:Nat) (hm:m<=1000000) (hl:es.length=m) (he:∀ e ∈ es,∃ c0:AV,e=[c0]) {es0:List (List AV)} {dt0:Bool} (h0:Pav.get X b=some (.cells 1 es0 true dt0)) (hl0:es0.length=m):ac0 (put X b (.cells 1 es true dt)) n1 rb c:=by
 obtain ⟨k,t,x,v,h1,h2⟩:=R;refine ⟨k,t,x,v,h1,?_⟩;rcases h2 with h2 | ⟨b',m',es',dt',h2,h3,h4,h5,h6,h7,h8,h9⟩
 ·exact .inl h2
 ·by_cases q:b=b'
  ·subst q;rw [h0] at h6;cases h6;exact .inr ⟨b,m',es,dt,h2,h3,h4,h5,aN ..,by omega,h8,he⟩
  ·exact .inr ⟨b',m',es',dt',h2,h3,h4,h5,by rw [aI q];exact h6,h7,h8,h9⟩
section
variable (X0:aG) (v7 v8:AV) (n1 b14 rb n:Nat) (o:Int) (A1 A2:List (List AV)) (g11:Pav.get X0 (n1+4)=some (.cells 4 [[.int .i64 o,.ro 1 A1 true,.ro 1 A2 true,.sl rb 4 0 n n true]] true false))
include g11
theorem abN (i:Nat) (hi:i < n):∀ (m M k:Nat),m+k=M->∀ (X:aG) (next:Nat),LwI X0 n1 rb n X ->
 (∃ cs dt k' t x v,Pav.get X rb=some (.cells 4 cs true dt)/\cs[i]?=some [k',t,x,v]/\((M=0/\v=.ro 1 [] true)\/∃ b,v=.sl b 1 0 M M true)) ->
 ∃ X' n',LwI X0 n1 rb n X'/\next<=n' /\
 CK C 0 (aO [.tmp 4]) [.sq PI,.bk 2 ⟨true,[16,14,11,8,7,6,5,3],[(9999,65537)]⟩,.bk 1 ⟨true,[16,14,11,8,7,6,5,3],[(9999,65537)]⟩,.sq FZ,.sq yA,.bk 0 ⟨true,[14,8,7,6,5,3],[(9999,65537)]⟩,.sq ru] Dt
  ⟨[(17,.int .i64 k),(16,.int .i64 i),(14,.ptr b14 0 0),(11,.ptr (n1+4) 0 0),(8,v8),(7,v7),(6,.ptr 9 0 0),(5,.ptr 8 0 0),(3,.ptr 1 0 0)],X,next⟩ =
 CK C 0 (aO [.tmp 4]) [.sq yA,.bk 0 ⟨true,[14,8,7,6,5,3],[(9999,65537)]⟩,.sq ru] qH
  ⟨[(16,.int .i64 (i+1:Nat)),(14,.ptr b14 0 0),(11,.ptr (n1+4) 0 0),(8,v8),(7,v7),(6,.ptr 9 0 0),(5,.ptr 8 0 0),(3,.ptr 1 0 0)],X',n'⟩:=by
 intro m;induction m with
 | zero =>
  intro M k hk X next F hc
  have bd:=F.bd;have f11:=(F.keep (n1+4) qqq).trans g11;obtain ⟨cs,dt,k',t,x,v,g,hci,hv⟩:=hc;have c1:¬ k < M:=by omega
  have hil:i < cs.length:=(qxz.1 hci).1;have hcg:cs[i]=[k',t,x,v]:=by rw [qqj hil] at hci;exact qyj hci
  refine ⟨X,next+12,F,by omega,?_⟩;rw [aj Dt.eq_1];rcases hv with ⟨_,rfl⟩ | ⟨b,rfl⟩
  ·simp (disch:=omega) [f11,g,hi,hil,hcg,c1,aj FZ.eq_1,aC]
  ·simp (disch:=omega) [f11,g,hi,hil,hcg,c1,aj FZ.eq_1,aC]
 | succ m ih =>
  intro M k hk X next F hc
  have bd:=F.bd;have f11:=(F.keep (n1+4) qqq).trans g11;obtain ⟨cs,dt,k',t,x,v,g,hci,hv⟩:=hc;have c1:k < M:=by omega
  obtain ⟨b,rfl⟩:∃ b,v=.sl b 1 0 M M true:=by rcases hv with ⟨q,_⟩ | q;omega;exact q
  have hil:i < cs.length:=(qxz.1 hci).1;have hcg:cs[i]=[k',t,x,.sl b 1 0 M M true]:=by rw [qqj hil] at hci;exact qyj hci
  obtain ⟨cs',dt',g',hl',hr⟩:=F.rows;rw [g] at g';cases g';obtain ⟨q1,q2,q3,q4,e1,e2⟩:=hr _ (qxx hil);rw [hcg] at e1;simp only [q3x] at e1;obtain ⟨rfl,rfl,rfl,rfl,_⟩:=e1;rcases e2 with e2 | ⟨b',m',es,dt2,e2,e3,e4,e5,e6,e7,e8,e9⟩
  ·cases e2
  simp only [AV.sl.injEq] at e2;obtain ⟨rfl,_,_,rfl,_⟩:=e2;have hkl:k < es.length:=by omega
  obtain ⟨c0,he⟩:=e9 _ (qxx hkl);have F2:∀ dt3,LwI X0 n1 rb n (put X b (.cells 1 (es.set k [.str [111,116,104,101,114]]) true dt3)):=by
   intro dt3;refine ⟨λc hc=>by rw [aI qqq];exact F.keep c hc,⟨cs,dt,by rw [aI e5];exact g,hl',λc hc=>ZU (hr c hc) M e8 qqx (λx hx=>?_) e6 e7⟩,bd⟩;rcases qix hx with q | q
   ·exact e9 x q
   ·exact ⟨_,q⟩
  obtain ⟨X',n',z1,z0,z2⟩:=ih M (k+1) qqq (put X b (.cells 1 (es.set k [.str [111,116,104,101,114]]) true dt2)) (next+21) (F2 dt2) ⟨cs,dt,_,_,_,_,by rw [aI e5];exact g,hci,.inr ⟨b,rfl⟩⟩;refine ⟨X',n',z1,by omega,?_⟩;rw [<- z2,aj Dt.eq_1];simp (disch:=omega) [f11,g,hi,hil,hcg,c1,aC,e6,hkl,he]
theorem ad7:∀ (m i:Nat),m+i=n->∀ (X:aG) (next:Nat),LwI X0 n1 rb n X ->
 ∃ X' n',LwI X0 n1 rb n X'/\next<=n' /\
 CK C 0 (aO [.tmp 4]) [.sq yA,.bk 0 ⟨true,[14,8,7,6,5,3],[(9999,65537)]⟩,.sq ru] qH
  ⟨[(16,.int .i64 i),(14,.ptr b14 0 0),(11,.ptr (n1+4) 0 0),(8,v8),(7,v7),(6,.ptr 9 0 0),(5,.ptr 8 0 0),(3,.ptr 1 0 0)],X,next⟩ =
 CK C 0 (aO [.tmp 4]) [] ru ⟨[(14,.ptr b14 0 0),(8,v8),(7,v7),(6,.ptr 9 0 0),(5,.ptr 8 0 0),(3,.ptr 1 0 0)],X',n'⟩:=by
 intro m;induction m with
 | zero =>
  intro i hi X next F
  have bd:=F.bd;have f11:=(F.keep (n1+4) qqq).trans g11;have c1:¬ i < n:=by omega
  refine ⟨X,next+5,F,by omega,?_⟩;rw [aj qH.eq_1];simp (disch:=omega) [f11,c1]
 | succ m ih =>
  intro i hi X next F
  have bd:=F.bd;have f11:=(F.keep (n1+4) qqq).trans g11;have c1:i < n:=by omega
  obtain ⟨cs,dt,g,hl,hr⟩:=F.rows;have hil:i < cs.length:=by omega
  obtain ⟨k',t,x,v,e1,e2⟩:=hr _ (qxx hil);have hci:cs[i]?=some [k',t,x,v]:=by rw [qqj hil,e1]
  obtain ⟨M,hv⟩:∃ M,(M=0/\v=.ro 1 [] true)\/∃ b,v=.sl b 1 0 M M true:=by
   rcases e2 with e2 | ⟨b,m',_,_,e2,_⟩
   ·exact ⟨0,.inl ⟨rfl,e2⟩⟩
   ·exact ⟨m',.inr ⟨b,e2⟩⟩
  have F2:∀ dt3,LwI X0 n1 rb n (put X rb (.cells 4 (cs.set i [.int .u64 0,t,x,v]) true dt3)):=by
   intro dt3;refine ⟨λc hc=>by rw [aI qqq];exact F.keep c hc,⟨_,dt3,aN ..,by simp;omega,λc hc=>?_⟩,bd⟩;rcases qix hc with q | q
   ·exact TP (hr c q)
   ·subst q;obtain ⟨_,_,_,_,e1',e2'⟩:=TP (cs:=cs.set i [.int .u64 0,t,x,v]) (dt:=dt3) (hr _ (qxx hil));rw [e1] at e1';simp only [q3x] at e1';obtain ⟨rfl,rfl,rfl,rfl,_⟩:=e1';exact ⟨_,_,_,_,rfl,e2'⟩
  obtain ⟨X1,n2,z1,z5,z2⟩:=abN X0 v7 v8 n1 b14 rb n o A1 A2 g11 i c1 M M 0 qqz (put X rb (.cells 4 (cs.set i [.int .u64 0,t,x,v]) true dt)) (next+12) (F2 dt) ⟨_,dt,.int .u64 0,t,x,v,aN ..,by simp [hil],hv⟩;obtain ⟨X2,n3,z3,z6,z4⟩:=ih (i+1) qqq X1 n2 z1;refine ⟨X2,n3,z3,by omega,?_⟩;rw [<- z4,<- z2,aj qH.eq_1];simp (disch:=omega) [f11,c1,g,hil,e1]
end
end Go.D
end
section
namespace Go.D
open Go Go.Pav Go.Pw P
attribute [-simp] List.getElem_cons_drop
variable {C:aH}
structure Ew (C:aH):Prop extends Yh C,Yf C,zf C,YG C,RJ C where
 amf:C.fns.get 625=some acM
 alV:C.fns.get 618=some aaT
 f341:C.fns.get 341=some ag2
 f169:C.fns.get 169=some ahX
theorem aae (H:Ew C) (n:Nt) (hl:n.x.length<=1000000) (hm:∀ y ∈ n.x,y.m.length<=1000000):FnW C 341 [.agg (eNt n),.agg (eNt n)]=some (.int .i64 1):=by have h:=Y2 H.toacW n.x n.x n.e n.e hl hl hm hm;rw [Ie,qwz rfl] at h;rw [aF H.f341 rfl];simp (disch:=omega) [ag2,h,aC,H.inl,ak,H.pp,ppB]
theorem aiF (H:Ew C) (N:List Nt) (e f:Bool) (hN:N.length<=1000000) (hl:∀ n ∈ N,n.x.length<=1000000) (hm:∀ n ∈ N,∀ y ∈ n.x,y.m.length<=1000000) :
 FnW C 169 [.ro 5 (N.map eNt) e,.ro 5 (N.map eNt) f]=some (.int .i64 1):=by
 have key:∀ n i,n+i=N.length->Fg C ⟨[(5,.int .i64 i),(1,.ro 5 (N.map eNt) f),(0,.ro 5 (N.map eNt) e)],[],0⟩=some (.int .i64 1):=by
  intro n;induction n with
  | zero =>
   intro i hi;have h3:¬ i < N.length:=by omega
   simp only [Fg];rw [aj zQ.eq_1];simp [aj Pv.eq_1,h3]
  | succ n ih =>
   intro i hi;have p1:i < N.length:=by omega
   have h:=aae H N[i] (hl _ (qxx p1)) (hm _ (qxx p1));have this:=ih (i+1) qqq;simp only [Fg] at this |-;rw [aj zQ.eq_1];simp at this;simp at h;simp (disch:=omega) [p1,h,aC,H.inl,ak,H.pp,ppB,this]
 have h:=key N.length 0 rfl;rw [aF H.f169 rfl];simp only [Fg] at h;simp at h;simp (disch:=omega) [ahX,h,aC,H.inl,ak,H.pp,ppB]
theorem ak1 (H:Ew C) (hlives:FnW C 166 []=some (.bool true)) (q:List (List AV)) (qe:Bool) (zz:List (List AV)) (ze:Bool) (r:Int) (y:List (List AV)) (ye:Bool) (ks:List Kd) (R:List En) (f:Bool) (x:List Nt)
 (hlof:FnW C 130 [.agg [.ro 4 q qe,.ro 1 zz ze,.int .u8 r]]=some (.tup [aR ks true 12,aL R f])) (hbof:FnW C 326 [.agg [.ro 5 y ye],aR ks true 12,aL R f]=some (.ro 5 (x.map eNt) false))
 (W:List (List AV)) (wf:Bool) (i E:Int) (hE:E≠0) (hw:FnW C 170 [aR ks true 12,.ro 6 (R.map eEn) f,.ro 5 (x.map eNt) false]=some (.tup [.ro 6 W wf,.int .i64 i,.int .i64 E]))
 (h1:aG) (n1:Nat) (hof:RnW C 5052 [aR ks true 12,aL R f,.ro 5 (x.map eNt) false] [] 33=some (.tup [.agg (Iw 0 [] true [] true [] true),.int .i64 i,.int .i64 E],h1,n1)) (hn1:33<=n1) :
 FnW C 618 [.agg [.ro 4 q qe,.ro 1 zz ze,.int .u8 r],.agg [.ro 5 y ye]]=some (.bool true):=by
 have hs:=ajA H.toRJ ⟨0,[],true,[],true,[],true⟩ ⟨0,[],true,[],true,[],true⟩ ⟨by simp,by simp,by simp,by simp⟩ ⟨by simp,by simp,by simp,by simp⟩;have e3:LV ⟨0,[],true,[],true,[],true⟩ ⟨0,[],true,[],true,[],true⟩=true:=by decide
 rw [e3,qwz rfl] at hs;simp only [aR,aL] at hlof hbof hw hof;simp at hs hof;rw [aF H.alV rfl];simp (disch:=omega) [aaT,hlof,hbof,hw,hof,hE,hs,hlives,aC,H.inl,ak,H.pp,ppB,dL,aN,aI,nV,ltF,gtF]
theorem tN.frz {h:aG} {lo hi:Nat} {v:AV} {l:List It} (R:tN h lo hi v l) (n:Nat):bK h (n+3) v=some (.ro 4 ((l.map It.own).map cIt) true):=by
 rcases R with ⟨rfl,rfl⟩ | ⟨_,rb,cs,dt,rfl,_,_,g,R,hd⟩
 ·rfl
 ·have h1:cs.take l.length=cs:=qzz (by rw [R.len];exact qxq _);have h2:aZ (aZ (bK h (n+2))) cs=some ((l.map It.own).map cIt):=by
   refine yh _ _ (by simp [R.len]) (λi c y hc hy=>?_);have hil:i < l.length:=by have:=(qxz.1 hc).1;rw [<- R.len];exact this
   obtain ⟨v,k3,k4⟩:=R.row i l[i] (qqj hil);rw [hc] at k3;rw [qyj k3];simp [hil] at hy;rw [<- hy];have k5:=k4.frz n;simp [aZ,k5,It.own]
  have h3:(((l.map It.own).map cIt).all λe=>e.all isC)=true:=by rw [qjx];intro e he;obtain ⟨x,_,rfl⟩:=qyq.1 he;rfl
  rw [fZ,g];cases dt with
  | false =>simp only [Pw.zn,qjq,h1,h2,ob,h3];simp [og]
  | true =>
   have h4:cs=(l.map It.own).map cIt:=by
    refine q6q (by simp [R.len]) (λi q1 q2=>?_);have hil:i < l.length:=by simpa using q2
    obtain ⟨v,k1,k2⟩:=R.row i l[i] (qqj hil);rw [qqj q1] at k1;have hw:=hd rfl _ (qxx hil);rcases k2 with ⟨_,rfl⟩ | ⟨q,_⟩
    ·rw [qyj k1];simp [hw,It.own]
    ·exact absurd hw q
   simp only [Pw.zn,qjq,h1];rw [h4];simp [og]
theorem lW.aly {h:aG} {lo hi:Nat} {v:AV} {l:List En} (R:lW h lo hi v l) :
 kQ h (.tup [.agg [v],.int .i64 0]) (aK h ay (.tup [.agg [v],.int .i64 0]))=true/\lW (h.filter λx=>(aK h ay (.tup [.agg [v],.int .i64 0])).contains x.1) lo hi v l:=by
 obtain ⟨h1,_,h3⟩:=R.reach 12;have e:aK h ay (.tup [.agg [v],.int .i64 0])=aK h (12+2) v:=by simp [ay,aK]
 rw [e];refine ⟨?_,h3⟩;simp only [kQ,cO,nO,qtj] at h1 |-;exact h1
theorem atj (l:List Nat):(l.any λ_=>false)=false:=by induction l <;> simp_all
theorem abl (H:Ew C) (hlives:FnW C 166 []=some (.bool true)) (y:List (List AV)) (ye:Bool) (ks:List Kd) (R:List En) (f:Bool) (x:List Nt)
 (hbof:FnW C 326 [.agg [.ro 5 y ye],aR ks true 12,aL R f]=some (.ro 5 (x.map eNt) false)) (hsal:FnW C 169 [.ro 5 (x.map eNt) false,.ro 5 (x.map eNt) false]=some (.int .i64 1))
 (W:List (List AV)) (wf:Bool) (L:List En) (hw2:FnW C 172 [.ro 6 ((L.map En.own).map eEn) true,.ro 6 W wf]=some (.int .i64 1)) (X:aG) (n b14 lo hi:Nat) (w:AV)
 (g1:Pav.get X 1=some (.cells 1 [[.ro 5 y ye]] true true)) (g8:Pav.get X 8=some (.cells 2 [[.ro 9 (ks.map eKd) true,.int .i64 12]] true true)) (g9:Pav.get X 9=some (.cells 1 [[.ro 6 (R.map eEn) f]] true true))
 (dt:Bool) (gw:Pav.get X b14=some (.cells 1 [[w]] true dt)) (hg:lW X lo hi w L) :
 CK C 0 (aO [.tmp 4]) [] ru ⟨[(14,.ptr b14 0 0),(8,.ro 6 W wf),(7,.ro 5 (x.map eNt) false),(6,.ptr 9 0 0),(5,.ptr 8 0 0),(3,.ptr 1 0 0)],X,n⟩=some (.bool true):=by
 have fz:=hg.frz 13;have k4:=hg;rw [aj ru.eq_1];simp only [aR,aL] at hbof;generalize (L.map En.own).map eEn=LL at *;rcases hg with ⟨q0,rfl⟩ | ⟨q0,rb,cs,d,rfl,p1,p2,p3,_,_⟩;all_goals
  simp (disch:=omega) [-fZ,fz,hbof,hsal,hw2,hlives,g1,g8,g9,gw,aC,H.inl,ak,H.pp,ppB]
theorem Fp (H:Ew C) (hlives:FnW C 166 []=some (.bool true)) (y:List (List AV)) (ye:Bool) (ks:List Kd) (R:List En) (f:Bool) (x:List Nt)
 (hbof:FnW C 326 [.agg [.ro 5 y ye],aR ks true 12,aL R f]=some (.ro 5 (x.map eNt) false)) (hsal:FnW C 169 [.ro 5 (x.map eNt) false,.ro 5 (x.map eNt) false]=some (.int .i64 1))
 (W:List (List AV)) (wf:Bool) (L:List En) (hw2:FnW C 172 [.ro 6 ((L.map En.own).map eEn) true,.ro 6 W wf]=some (.int .i64 1)) (Y:aG) (N n1 n2:Nat) (v w:AV) (X:List It) (hXl:X.length<=1000000) (hXm:∀ i ∈ X,i.m.length<=1000000) (o:Int) (A1 A2:List (List AV))
 (g1:Pav.get Y 1=some (.cells 1 [[.ro 5 y ye]] true true)) (g8:Pav.get Y 8=some (.cells 2 [[.ro 9 (ks.map eKd) true,.int .i64 12]] true true)) (g9:Pav.get Y 9=some (.cells 1 [[.ro 6 (R.map eEn) f]] true true))
 (hn1:42<=n1) (hn2:n1+37<=n2) (dv dw:Bool) (gv:Pav.get Y (n1+4)=some (.cells 4 [[.int .i64 o,.ro 1 A1 true,.ro 1 A2 true,v]] true dv)) (hdv:v=.ro 4 [] true\/dv=false) (gw:Pav.get Y (n2+3)=some (.cells 1 [[w]] true dw)) (hv:tN Y 42 n1 v X) (hg:lW Y (n1+37) n2 w L) :
 CK C 0 (aO [.tmp 4]) [.sq yA,.bk 0 ⟨true,[14,8,7,6,5,3],[(9999,65537)]⟩,.sq ru] qH
  ⟨[(16,.int .i64 0),(14,.ptr (n2+3) 0 0),(11,.ptr (n1+4) 0 0),(8,.ro 6 W wf),(7,.ro 5 (x.map eNt) false),(6,.ptr 9 0 0),(5,.ptr 8 0 0),(3,.ptr 1 0 0)],Y,N⟩=some (.bool true):=by
 rcases hv with ⟨rfl,rfl⟩ | ⟨q0,rb,cs,dt,rfl,p1,p2,p3,p4,_⟩
 ·have e:=λn=>abl H hlives y ye ks R f x hbof hsal W wf L hw2 Y n (n2+3) _ _ w g1 g8 g9 dw gw hg;rw [aj qH.eq_1];simp (disch:=omega) [gv,e]
 ·have hd:dv=false:=by rcases hdv with q | q;cases q;exact q
  subst hd;have F:LwI Y n1 rb X.length Y:=by
   refine ⟨λ_ _=>rfl,⟨cs,dt,p3,p4.len,λc hc=>?_⟩,p1,p2,hXl⟩;obtain ⟨i,hi',rfl⟩:=List.mem_iff_getElem.1 hc;have hil:i < X.length:=by rw [<- p4.len];exact hi'
   obtain ⟨u,t1,t2⟩:=p4.row i X[i] (qqj hil);rw [qqj hi'] at t1;rw [qyj t1];refine ⟨_,_,_,u,rfl,?_⟩;rcases t2 with ⟨_,t2⟩ | ⟨_,b',t2,t3,t4,t5⟩
   ·exact .inl t2
   ·refine .inr ⟨b',_,_,true,t2,by omega,by omega,by omega,t5,by simp,hXm _ (qxx hil),λe he=>?_⟩;obtain ⟨z,hz,rfl⟩:=qyq.1 he;exact ⟨_,rfl⟩
  obtain ⟨X',n',z0,z1,z2⟩:=ad7 (C:=C) Y (.ro 5 (x.map eNt) false) (.ro 6 W wf) n1 (n2+3) rb X.length o A1 A2 gv X.length 0 rfl Y N F;rw [q6x] at z2;rw [z2];exact abl H hlives y ye ks R f x hbof hsal W wf L hw2 X' n' (n2+3) _ _ w ((z0.keep 1 qqq).trans g1) ((z0.keep 8 qqq).trans g8) ((z0.keep 9 qqq).trans g9) dw ((z0.keep _ qqq).trans gw) (hg.mono (qxq _) (qxq _) λb k1 k2=>z0.keep b qqq)
theorem abz {q2:aG} {n0 n2:Nat} {w:AV} {L:List En} (R:lW q2 n0 n2 w L):∃ q3,(∀ (bs:Nat) (fin:Ex × WSt->Option AV) (k:List Pw.Frame) (a:Ann) (l:List bg) (d:Option Nat) (e:Env) (h:aG) (n:Nat) (args:List AV),
 HK C bs fin k a l d e h n true args (some (.tup [.agg [w],.int .i64 0],q2,n2))=OK C bs fin k a l ⟨eG e d (.tup [.agg [w],.int .i64 0]),over n q3 h,n2⟩)/\lW q3 n0 n2 w L:=by
 obtain ⟨h1,h2⟩:=R.aly;refine ⟨_,λbs fin k a l d e h n args=>?_,h2⟩;rw [wZ,h1,Ru]
theorem agT (H:Ew C) (hlives:FnW C 166 []=some (.bool true)) (q:List (List AV)) (qe:Bool) (zz:List (List AV)) (ze:Bool) (r:Int) (y:List (List AV)) (ye:Bool) (ks:List Kd) (R:List En) (f:Bool) (x:List Nt)
 (hlof:FnW C 130 [.agg [.ro 4 q qe,.ro 1 zz ze,.int .u8 r]]=some (.tup [aR ks true 12,aL R f])) (hbof:FnW C 326 [.agg [.ro 5 y ye],aR ks true 12,aL R f]=some (.ro 5 (x.map eNt) false))
 (W:List (List AV)) (wf:Bool) (hw:FnW C 170 [aR ks true 12,.ro 6 (R.map eEn) f,.ro 5 (x.map eNt) false]=some (.tup [.ro 6 W wf,.int .i64 x.length,.int .i64 0]))
 (o:Int) (A1 A2:List (List AV)) (X:List It) (v:AV) (h1:aG) (n1:Nat) (hof:RnW C 5052 [aR ks true 12,aL R f,.ro 5 (x.map eNt) false] [] 33=some (.tup [.agg [.int .i64 o,.ro 1 A1 true,.ro 1 A2 true,v],.int .i64 x.length,.int .i64 0],h1,n1)) (hn1:42<=n1) (hv:tN h1 42 n1 v X)
 (o2:Int) (B1 B2 B3:List (List AV)) (b1 b2 b3:Bool) (hrof:FnW C 624 [.ro 6 (R.map eEn) f,.ro 5 (x.map eNt) false]=some (.agg [.int .i64 o2,.ro 1 B1 b1,.ro 1 B2 b2,.ro 4 B3 b3])) (hS:FnW C 182 [.agg [.int .i64 o,.ro 1 A1 true,.ro 1 A2 true,.ro 4 ((X.map It.own).map cIt) true],.agg [.int .i64 o2,.ro 1 B1 b1,.ro 1 B2 b2,.ro 4 B3 b3]]=some (.int .i64 1))
 (hC:FnW C 180 [.agg [.int .i64 o,.ro 1 A1 true,.ro 1 A2 true,.ro 4 ((X.map It.own).map cIt) true]]=some (.int .i64 0)) (L:List En)
 (hA:∀ nx,∃ v h1 n1,RnW C 6054 [aR ks true 12,aL R f,.agg [.int .i64 o,.ro 1 A1 true,.ro 1 A2 true,.ro 4 ((X.map It.own).map cIt) true]] [] nx=some (.tup [.agg [v],.int .i64 0],h1,n1)/\nx<=n1/\lW h1 nx n1 v L)
 (hsal:FnW C 169 [.ro 5 (x.map eNt) false,.ro 5 (x.map eNt) false]=some (.int .i64 1)) (hXl:X.length<=1000000) (hXm:∀ i ∈ X,i.m.length<=1000000) (hw2:FnW C 172 [.ro 6 ((L.map En.own).map eEn) true,.ro 6 W wf]=some (.int .i64 1)) :
 FnW C 618 [.agg [.ro 4 q qe,.ro 1 zz ze,.int .u8 r],.agg [.ro 5 y ye]]=some (.bool true):=by
 have hX:FnW C 625 [.agg [.int .i64 o,.ro 1 A1 true,.ro 1 A2 true,.ro 4 ((X.map It.own).map cIt) true]]=some (.int .i64 1):=by rw [aF H.amf rfl];simp (disch:=omega) [acM,aC,H.inl,ak,H.pp,ppB]
 obtain ⟨Q,hL⟩:∃ Q,Q=FnW C 618 [.agg [.ro 4 q qe,.ro 1 zz ze,.int .u8 r],.agg [.ro 5 y ye]]:=⟨_,rfl⟩;rw [<- hL];rw [aF H.alV rfl] at hL;have hbof':=hbof;simp only [aR,aL] at hlof hbof hw hof hA;have k4:=hv;rcases hv with ⟨q0,rfl⟩ | ⟨q0,rb,cs,dt,rfl,p1,p2,p3,_,_⟩
 ·subst q0;simp only [qax] at hS hC hA hX;simp (disch:=omega) [-fZ,aaT,hlof,hbof,hw,hof,hrof,hS,hC,hX,aC,H.inl,ak,H.pp,ppB,dL,aN,aI,nV,ltF,gtF] at hL;generalize hH:put _ (n1+1+1+1+1) (fC.cells 4 [[AV.int .i64 o,AV.ro 1 A1 true,AV.ro 1 A2 true,AV.ro 4 [] true]] true true)=HH at hL;have g1:Pav.get HH 1=some (.cells 1 [[.ro 5 y ye]] true true):=by rw [<- hH];simp (disch:=omega) only [aI,dL];rfl
  have g8:Pav.get HH 8=some (.cells 2 [[.ro 9 (ks.map eKd) true,.int .i64 12]] true true):=by rw [<- hH];simp (disch:=omega) only [aI,dL];rfl
  have g9:Pav.get HH 9=some (.cells 1 [[.ro 6 (R.map eEn) f]] true true):=by rw [<- hH];simp (disch:=omega) only [aI,dL];rfl
  have gn:Pav.get HH (n1+1+1+1+1)=some (.cells 4 [[.int .i64 o,.ro 1 A1 true,.ro 1 A2 true,.ro 4 [] true]] true true):=by rw [<- hH];exact aN ..
  have r6:tN HH 42 n1 (.ro 4 [] true) []:=.inl ⟨rfl,rfl⟩;clear hH;obtain ⟨w,q2,n2,a1,a2,a3⟩:=hA (n1+36+1);obtain ⟨q3,e1,b2⟩:=abz (C:=C) a3;clear a3;have b3:=b2;have hY:∀ w dw Y,Y=put (put (over (n1+36+1) q3 HH) (n2+1+1+1) (fC.cells 1 [[AV.ro 6 [] true]] true true)) (n2+1+1+1) (fC.cells 1 [[w]] true dw)->lW q3 (n1+36+1) n2 w L->lW Y (n1+37) n2 w L/\Pav.get Y (n2+3)=some (.cells 1 [[w]] true dw)/\∀ b,b < n1+37->Pav.get Y b=Pav.get HH b:=by rintro w dw Y rfl hg;refine ⟨(hg.over (X:=HH) (qxq _)).mono (qxq _) (qxq _) λb k1 k2=>by rw [aI qqq,aI qqq],aN ..,λb hb=>by rw [aI qqq,aI qqq,dL qqq]⟩
  rcases b3 with ⟨c0,rfl⟩ | ⟨c0,wb,wc,wd,rfl,w1,w2,w3,_,_⟩
  ·subst c0;simp (disch:=omega) [-fZ,-wZ,e1,a1,g1,g8,g9,gn,aC,H.inl,ak,H.pp,ppB,aN,aI,dL] at hL;generalize hYY:put _ (n2+1+1+1) (fC.cells 1 [[_]] true _)=Y at hL;obtain ⟨o1,o2,o3⟩:=hY _ _ Y hYY.symm b2;have gw:Pav.get Y (n2+1+1+1)=_:=o2;have y1:=(o3 1 qqq).trans g1;have y8:=(o3 8 qqq).trans g8;have y9:=(o3 9 qqq).trans g9;have yn:=(o3 (n1+1+1+1+1) qqq).trans gn;have hw3:FnW C 172 [.ro 6 [] true,.ro 6 W wf]=some (.int .i64 1):=hw2;simp (disch:=omega) [-fZ,hw3,y1,y8,y9,yn,gw,aC,H.inl,ak,H.pp,ppB] at hL;rw [hL];exact Fp H hlives y ye ks R f x hbof' hsal W wf [] hw2 Y _ n1 n2 _ _ [] hXl hXm o A1 A2 y1 y8 y9 hn1 qqq _ _ yn (.inl rfl) o2 (r6.mono (qxq _) (qxq _) λb k1 k2=>o3 b qqq) o1
  ·simp (disch:=omega) [-fZ,-wZ,e1,a1,g1,g8,g9,gn,aC,H.inl,ak,H.pp,ppB,aN,aI,dL] at hL;generalize hYY:put _ (n2+1+1+1) (fC.cells 1 [[_]] true _)=Y at hL;obtain ⟨o1,o2,o3⟩:=hY _ _ Y hYY.symm b2;have gw:Pav.get Y (n2+1+1+1)=_:=o2;have y1:=(o3 1 qqq).trans g1;have y8:=(o3 8 qqq).trans g8;have y9:=(o3 9 qqq).trans g9;have yn:=(o3 (n1+1+1+1+1) qqq).trans gn;have fz2:=o1.frz 13;have hw3:=hw2;generalize (L.map En.own).map eEn=LL at fz2 hw3;simp (disch:=omega) [-fZ,fz2,hw3,y1,y8,y9,yn,gw,aC,H.inl,ak,H.pp,ppB] at hL;rw [hL];exact Fp H hlives y ye ks R f x hbof' hsal W wf L hw2 Y _ n1 n2 _ _ [] hXl hXm o A1 A2 y1 y8 y9 hn1 qqq _ _ yn (.inl rfl) o2 (r6.mono (qxq _) (qxq _) λb k1 k2=>o3 b qqq) o1
 ·generalize hXX:(X.map It.own).map cIt=XX at *;simp (disch:=omega) [-fZ,aaT,hlof,hbof,hw,hof,hrof,aC,H.inl,ak,H.pp,ppB,dL,aN,aI,nV,ltF,gtF] at hL;generalize hH:put _ (n1+1+1+1+1) (fC.cells 4 [[AV.int .i64 o,AV.ro 1 A1 true,AV.ro 1 A2 true,AV.sl rb 4 0 X.length X.length true]] true false)=HH at hL;have g1:Pav.get HH 1=some (.cells 1 [[.ro 5 y ye]] true true):=by rw [<- hH];simp (disch:=omega) only [aI,dL];rfl
  have g8:Pav.get HH 8=some (.cells 2 [[.ro 9 (ks.map eKd) true,.int .i64 12]] true true):=by rw [<- hH];simp (disch:=omega) only [aI,dL];rfl
  have g9:Pav.get HH 9=some (.cells 1 [[.ro 6 (R.map eEn) f]] true true):=by rw [<- hH];simp (disch:=omega) only [aI,dL];rfl
  have gn:Pav.get HH (n1+1+1+1+1)=some (.cells 4 [[.int .i64 o,.ro 1 A1 true,.ro 1 A2 true,.sl rb 4 0 X.length X.length true]] true false):=by rw [<- hH];exact aN ..
  have r6:tN HH 42 n1 (.sl rb 4 0 X.length X.length true) X:=by rw [<- hH];exact (k4.over (X:=_) (show 33<=42 by omega)).mono (qxq _) (qxq _) (λb k1 k2=>by rw [aI qqq,aI qqq])
  have fz:=r6.frz 12;rw [hXX] at fz;clear hH;simp (disch:=omega) [-fZ,atj,fz,g1,g8,g9,gn,hS,hC,hX,aC,H.inl,ak,H.pp,ppB,aN,aI] at hL;obtain ⟨w,q2,n2,a1,a2,a3⟩:=hA (n1+36+1);obtain ⟨q3,e1,b2⟩:=abz (C:=C) a3;clear a3;have b3:=b2;have hY:∀ w dw Y,Y=put (put (over (n1+36+1) q3 HH) (n2+1+1+1) (fC.cells 1 [[AV.ro 6 [] true]] true true)) (n2+1+1+1) (fC.cells 1 [[w]] true dw)->lW q3 (n1+36+1) n2 w L->lW Y (n1+37) n2 w L/\Pav.get Y (n2+3)=some (.cells 1 [[w]] true dw)/\∀ b,b < n1+37->Pav.get Y b=Pav.get HH b:=by rintro w dw Y rfl hg;refine ⟨(hg.over (X:=HH) (qxq _)).mono (qxq _) (qxq _) λb k1 k2=>by rw [aI qqq,aI qqq],aN ..,λb hb=>by rw [aI qqq,aI qqq,dL qqq]⟩
  rcases b3 with ⟨c0,rfl⟩ | ⟨c0,wb,wc,wd,rfl,w1,w2,w3,_,_⟩
  ·subst c0;simp (disch:=omega) [-fZ,-wZ,e1,a1,g1,g8,g9,gn,aC,H.inl,ak,H.pp,ppB,aN,aI,dL] at hL;generalize hYY:put _ (n2+1+1+1) (fC.cells 1 [[_]] true _)=Y at hL;obtain ⟨o1,o2,o3⟩:=hY _ _ Y hYY.symm b2;have gw:Pav.get Y (n2+1+1+1)=_:=o2;have y1:=(o3 1 qqq).trans g1;have y8:=(o3 8 qqq).trans g8;have y9:=(o3 9 qqq).trans g9;have yn:=(o3 (n1+1+1+1+1) qqq).trans gn;have hw3:FnW C 172 [.ro 6 [] true,.ro 6 W wf]=some (.int .i64 1):=hw2;simp (disch:=omega) [-fZ,hw3,y1,y8,y9,yn,gw,aC,H.inl,ak,H.pp,ppB] at hL;rw [hL];exact Fp H hlives y ye ks R f x hbof' hsal W wf [] hw2 Y _ n1 n2 _ _ X hXl hXm o A1 A2 y1 y8 y9 hn1 qqq _ _ yn (.inr rfl) o2 (r6.mono (qxq _) (qxq _) λb k1 k2=>o3 b qqq) o1
  ·simp (disch:=omega) [-fZ,-wZ,e1,a1,g1,g8,g9,gn,aC,H.inl,ak,H.pp,ppB,aN,aI,dL] at hL;generalize hYY:put _ (n2+1+1+1) (fC.cells 1 [[_]] true _)=Y at hL;obtain ⟨o1,o2,o3⟩:=hY _ _ Y hYY.symm b2;have gw:Pav.get Y (n2+1+1+1)=_:=o2;have y1:=(o3 1 qqq).trans g1;have y8:=(o3 8 qqq).trans g8;have y9:=(o3 9 qqq).trans g9;have yn:=(o3 (n1+1+1+1+1) qqq).trans gn;have fz2:=o1.frz 13;have hw3:=hw2;generalize (L.map En.own).map eEn=LL at fz2 hw3;simp (disch:=omega) [-fZ,fz2,hw3,y1,y8,y9,yn,gw,aC,H.inl,ak,H.pp,ppB] at hL;rw [hL];exact Fp H hlives y ye ks R f x hbof' hsal W wf L hw2 Y _ n1 n2 _ _ X hXl hXm o A1 A2 y1 y8 y9 hn1 qqq _ _ yn (.inr rfl) o2 (r6.mono (qxq _) (qxq _) λb k1 k2=>o3 b qqq) o1
theorem auL {ks:List Kd} (h:VN ks) (t:Int):-9223372036854775808<=(bW ks t).b/\(bW ks t).b<=9223372036854775807:=by
 by_cases c:t.toNat < 3
 ·have:=h.b t.toNat qqq qqq;have h2:bW ks (t.toNat:Int)=bW ks t:=by unfold bW;rw [qWj]
  rw [h2] at this;omega
 ·have h:bW ks t=⟨zP,0,false,0⟩:=by unfold bW;rw [qij (by rw [h.l];omega)];rfl
  rw [h];simp
theorem adW (H:Ew C) (hone:∀ q:Q4,QIn q->∃ i:It,FnW C 422 [.agg (eQ q)]=some (eIt i)/\Good i) (hlives:FnW C 166 []=some (.bool true))
 (q:List Q4) (qe:Bool) (hq:∀ x ∈ q,QIn x) (z:List Int) (ze:Bool) (hz:∀ s ∈ z,0<=s/\s<=255) (hzl:z.length < 9223372036854775808) (r:Int) (hr:0<=r/\r<=255)
 (y:List Q5) (ye:Bool) (hy:∀ x ∈ y,OG x) (hyl:y.length < 9223372036854775808) :
 FnW C 618 [.agg [.ro 4 (q.map eQ) qe,.ro 1 (z.map eU8) ze,.int .u8 r],.agg [.ro 5 (y.map eQ5) ye]]=some (.bool true):=by
 obtain ⟨R,f,hof,hl,hg,hnd⟩:=akM H.toYG.toLr.tovJ hone q qe hq z ze hz hzl r hr;have hck:=agb r hr R qqq hg hnd;have hin:∀ x ∈ R,dQ x:=λx hx=>(hg x hx).en;have hks:=ajX r hr;have hkb:=auL hks;obtain ⟨x,hb,hx,hxl⟩:=al2 H.toYG (fA r) hks y ye hy hyl R f hin hck;generalize fA r=ks at *;have hru:=hks.r;have h5:=amD H.toYh ks true 12 hru R f qqq hin x false hx qqq;have hw:=adz H.toYh.toaj8.toRD ks true 12 hru R f hin hck x false hx qqq;unfold Of5 at h5;unfold QI at hw;rw [qwq (by simp [hck]),qwq qqq] at h5;rw [qwq qqq] at hw;by_cases hE:jE ks 12 R x=0
 ·rw [qwq (by simp [hE])] at h5 hw;obtain ⟨v,h1,n1,k1,k2,k3⟩:=h5;rw [qVq] at hw;have hTi:=aby x R (eF R) hE (DX R);have hM:=all_in x R hx hin hE;have hcx:=rO (NR x R hx hck hE);have hTl:(allT (eF R) x).length=(allL ks R x).length:=by simpa using congrArg List.length hTi
  have vd:=Yk (old:=R.length) qqq x R (eF R) hE (DX R) (by rw [Nq];exact O7 _);have ft:=YL x (eF R) (ab2 R);have hit:∀ t ∈ allT (eF R) x,iU t.i:=by
   intro t ht;have:t.i ∈ (allL ks R x).map (·.i):=by rw [<- hTi];exact qyq.2 ⟨t,ht,rfl⟩
   obtain ⟨e,he,hei⟩:=qyq.1 this;rw [<- hei];exact (hM e he).i
  have hp:(gU ((allT (eF R) x).map (·.b)) ((allL ks R x).map En.own)).map It.own=(((allT (eF R) x).filter (·.b)).map (·.i)).map It.own:=by rw [JV,Lh _ _ hTi]
  obtain ⟨fe,be,xf,hrof⟩:=akR H.tozf ks 12 R f x false hx qqq hE hck;obtain ⟨hne,hbad⟩:=ahw hE;have nN:BH (yT R.length (allT (eF R) x)):=agY qqq (λt ht=>(hit t ht).m);have nW:BH (MK R.length (allT (eF R) x) fe be xf):=by unfold MK;have:=zkq (·.b) (allT (eF R) x);refine ⟨by simp;omega,by simp;omega,by simp;omega,?_⟩;intro i hi;obtain ⟨t,ht,rfl⟩:=qyq.1 hi;exact (hit t (qgx.1 ht).1).m
  have hS:=ajA H.toRJ _ _ nN nW;have e3:LV (yT R.length (allT (eF R) x)) (MK R.length (allT (eF R) x) fe be xf)=true:=by unfold LV yT MK;simp only;rw [KA];simp
  rw [e3,qwz rfl] at hS;have hchk:=acN (old:=R.length) ft vd qqq qqq;have hC:=Lj H.toYf.toanA.toaki.toYn _ nN;rw [hchk] at hC;have hnck:ckE ks 12 ((tgN (yT R.length (allT (eF R) x))).map (jL ks R))=0:=by rw [<- P5,hne,P5];exact NR x R hx hck hE
  have hai:∀ i ∈ (yT R.length (allT (eF R) x)).x,iU i:=by unfold yT;simp only;intro i hi;obtain ⟨j,hj,rfl⟩:=qyq.1 hi;obtain ⟨t,ht,rfl⟩:=qyq.1 hj;have:=hit t (qgx.1 ht).1;exact ⟨this.k,this.t,this.m⟩
  have hA:=aja H.toYf ks true 12 hru hkb R f qqq hin _ nN hai hck hchk (by unfold yT;rfl) hbad hnck;have hXm:∀ i ∈ gU ((allT (eF R) x).map (·.b)) ((allL ks R x).map En.own),i.m.length<=1000000:=by intro i hi;obtain ⟨e,he,rfl⟩:=Ih _ _ i hi;obtain ⟨e',he',rfl⟩:=qyq.1 he;exact (hM e' he').i.m
  have hXl:(gU ((allT (eF R) x).map (·.b)) ((allL ks R x).map En.own)).length<=1000000:=by have:=Tf ((allT (eF R) x).map (·.b)) ((allL ks R x).map En.own);rw [qQq] at this;omega
  have hw2:=adV H.tozf.toXl.toanG.tojR ((allL ks R x).map En.own) (allL ks R x) true (if x.length=0 then f else false) qqx qqq (λe he=>by obtain ⟨e',he',rfl⟩:=qyq.1 he;exact (hM e' he').i.m) (λe he=>(hM e he).i.m);rw [KC,qVj qqz,qlz,qwz rfl,<- hne] at hw2;have hsal:=aiF H x false false qqq (λn hn=>by have:=(hx n hn).l;omega) (λn hn i hi=>((hx n hn).x i hi).m);generalize (tgN (yT R.length (allT (eF R) x))).map (jL ks R)=LL at hA hw2;unfold yT at hS hC hA;simp only [eNn,Iw] at hS hC hA;rw [<- hp] at hS hC hA;unfold MK at hS hrof;simp only [eNn,Iw] at hS hrof;exact agT H hlives (q.map eQ) qe (z.map eU8) ze r (y.map eQ5) ye ks R f x hof hb _ _ hw _ _ _ _ v h1 n1 k1 k2 k3 _ _ _ _ _ _ _ hrof hS hC _ hA hsal hXl hXm hw2
 ·rw [qwz hE] at h5 hw;obtain ⟨h1,n1,k1,k2⟩:=h5;rw [qVq] at hw;exact ak1 H hlives (q.map eQ) qe (z.map eU8) ze r (y.map eQ5) ye ks R f x hof hb _ _ _ _ hE hw h1 n1 k1 k2
end Go.D
end
