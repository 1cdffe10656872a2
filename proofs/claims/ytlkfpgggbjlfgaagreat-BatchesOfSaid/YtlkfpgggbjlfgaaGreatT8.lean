/- Part of the theory that the claims of this work use: M03, M01, M04, M05, M06, N13, M07, J01, J02, J03, J04, J05, M08, M09, M12, M18, M19, M13, M20, M21, M22, M23, J06, J08, J07. No conditions of its own. -/
import Derived.Test.YtlkfpgggbjlfgaaGreatT7
set_option linter.unusedVariables false
set_option linter.unusedSimpArgs false
set_option maxHeartbeats 4000000
set_option maxRecDepth 10000
section
namespace Go.D
open Go Go.Pav Go.Pw P
def idx (N:Nat):List Int:=(List.range N).map λi:Nat=>(i:Int)
theorem zZ (N:Nat):(idx N).length=N:=by simp [idx]
def cm (A F:List Int):List Int:=F.map λk=>if 0<=k then A[k.toNat]?.getD 0 else -1
def D8 (n:Nt) (N:Nat):List Int :=
 if n.k=1 then spl (idx N) n.a.toNat 0 (List.replicate n.x.length (-1))
 else if n.k=2 then spl (idx N) n.a.toNat n.c.toNat []
 else if n.k=3 then spl (spl (idx N) n.a.toNat n.c.toNat []) n.t.toNat 0 (((idx N).take (n.a.toNat+n.c.toNat)).drop n.a.toNat)
 else if n.k=4 then idx N
 else List.replicate n.x.length (-1)
theorem alK (A:List Int):cm A (idx A.length)=A:=by
 unfold cm idx;rw [qVz];refine qfq λj=>?_;by_cases hj:j < A.length
 ·simp [hj]
 ·simp [hj]
theorem ace (A:List Int) (m:Nat):cm A (List.replicate m (-1))=List.replicate m (-1):=by simp [cm]
theorem MG (A X:List Int) (a c:Nat) (Y:List Int):cm A (spl X a c Y)=spl (cm A X) a c (cm A Y):=bD _ _ _ _ _
theorem Jo {α:Type} (l:List α) (a m:Nat) (X:List α) (h:X=(l.drop a).take m):spl l a m X=l:=by subst h;unfold spl;rw [<- zvx,qQj,qex,qex]
theorem ajt {l:List En} {T:List Tg} {n:Nt} (h:Ins l n) (hT:T.length=l.length):cm (T.map (·.f)) (D8 n T.length)=(kX T n).map (·.f):=by
 have hi:=alK (T.map (·.f));rw [qQq] at hi;have htin:(tin n.x).map (·.f)=List.replicate n.x.length (-1):=by unfold tin;rw [qVz];exact zjq ..
 unfold D8 kX;split
 ·rw [MG,hi,ace,bD,htin]
 ·split
  ·rw [MG,hi,bD];rfl
  ·split
   ·rw [MG,MG,hi,bD,bD];have:cm (T.map (·.f)) (((idx T.length).take (n.a.toNat+n.c.toNat)).drop n.a.toNat)=((T.take (n.a.toNat+n.c.toNat)).drop n.a.toNat).map (·.f):=by unfold cm at hi |-;rw [qbx,qdj,hi,qbx,qdj]
    rw [this];rfl
   ·split
    ·rename_i k4;have h1:=h.x k4;have h2:=h.a qqq;rw [hi,bD,aeg _ _ (by rw [qaq];omega)];rw [Jo];rw [qbx]
    ·rw [ace,htin]
def nw (fr:List Bool) (a m:Int) (i:Nat):List Int->List Bool
 | []=>[]
 | k::r=>(decide (k < 0)||fr[k.toNat]?.getD false||(decide (a<=i)&&decide ((i:Int) < a+m)))::nw fr a m (i+1) r
theorem ads (fr:List Bool) (a m:Int):∀ (F:List Int) (i:Nat),(nw fr a m i F).length=F.length
 | [],_=>rfl
 | _::r,i=>by simp [nw,ads fr a m r]
theorem Iz (fr:List Bool) (a m:Int):∀ (X Y:List Int) (i:Nat),nw fr a m i (X++Y)=nw fr a m i X++nw fr a m (i+X.length) Y
 | [],Y,i=>by simp [nw]
 | k::r,Y,i=>by rw [qfz,nw,Iz fr a m r Y (i+1),nw,qfz,qaz];rw [qgq,Nat.add_comm 1]
theorem zO (fr:List Bool) (a m:Int):∀ (X:List Int) (i:Nat),((i:Int)+X.length<=a\/a+m<=i)->(∀ k ∈ X,0<=k)->nw fr a m i X=X.map λk=>fr[k.toNat]?.getD false
 | [],_,_,_=>rfl
 | k::r,i,h,hk=>by
  have h0:=hk k (qXq ..);have hd:(decide (a<=(i:Int))&&decide ((i:Int) < a+m))=false:=by simp only [qaz] at h;simp only [Bool.and_eq_false_iff,qmx];omega
  rw [nw,hd,zO fr a m r (i+1) (by simp only [qaz] at h;omega) λq hq=>hk q (qyz _ hq)];have hn:decide (k < 0)=false:=by simpa using h0
  rw [hn,Bool.or_false,qdx,qvz]
theorem ajx (fr:List Bool) (a m:Int):∀ (X:List Int) (i:Nat),(a<=i/\(i:Int)+X.length<=a+m)->nw fr a m i X=List.replicate X.length true
 | [],_,_=>rfl
 | k::r,i,h=>by
  simp only [qaz] at h;have hd:(decide (a<=(i:Int))&&decide ((i:Int) < a+m))=true:=by simp only [qzq,qvj];omega
  rw [nw,hd,ajx fr a m r (i+1) qqq,Bool.or_true,qaz,qJx]
theorem VT (fr:List Bool) (a m:Int):∀ (k i:Nat),nw fr a m i (List.replicate k (-1))=List.replicate k true
 | 0,_=>rfl
 | k+1,i=>by rw [qJx,nw,VT fr a m k (i+1),qJx];simp
theorem DJ {N:Nat} {k:Int} (h:k ∈ idx N):0<=k:=by unfold idx at h;obtain ⟨i,_,rfl⟩:=qyq.1 h;omega
theorem alQ (fr:List Bool):(idx fr.length).map (λk=>fr[k.toNat]?.getD false)=fr:=by
 unfold idx;rw [qVz];refine qfq λj=>?_;by_cases hj:j < fr.length
 ·simp [hj]
 ·simp [hj]
def Sv (n:Nt):Int:=if n.k=1\/n.k=4 then n.a else 0
def Tc (n:Nt):Int:=if n.k=1\/n.k=4\/n.k=5 then n.x.length else 0
theorem anz {l:List En} {T:List Tg} {n:Nt} (h:Ins l n) (hT:T.length=l.length):nw (T.map (·.b)) (Sv n) (Tc n) 0 (D8 n T.length)=(kX T n).map (·.b):=by
 have hi:=alQ (T.map (·.b));rw [qQq] at hi;have htin:(tin n.x).map (·.b)=List.replicate n.x.length true:=by unfold tin;rw [qVz];exact zjq ..
 have hlen:=zZ T.length;unfold D8 kX Sv Tc;by_cases k1:n.k=1
 ·have h2:=h.a qqq;rw [qwz k1,qwz k1,qwz (.inl k1),qwz (.inl k1),bD,htin];unfold spl;rw [Iz,Iz,VT];rw [zO _ _ _ _ _ (by left;simp only [qKz,hlen];omega) λk hk=>DJ (qZz hk)];rw [zO _ _ _ _ _ (by right;simp only [qlq,qKz,hlen,quz];omega) λk hk=>DJ (qQz hk)];rw [qdj,qbx,hi]
 ·rw [qwq k1,qwq k1];by_cases k2:n.k=2
  ·rw [qwz k2,qwz k2,qwq qqq,qwq qqq,bD];rw [zO _ _ _ _ _ (by right;omega) λk hk=>DJ ((uq _ _ _).subset hk)];rw [bD,hi];rfl
  ·rw [qwq k2,qwq k2];by_cases k3:n.k=3
   ·rw [qwz k3,qwz k3,qwq qqq,qwq qqq,bD,bD];rw [zO _ _ _ _ _ (by right;omega) λk hk=>DJ ((pX _ _ _ _).mem_iff.1 hk)];rw [bD,bD,hi];simp only [qbx,qdj,hi,qax]
   ·rw [qwq k3,qwq k3];by_cases k4:n.k=4
    ·have h1:=h.x k4;have h2:=h.a qqq;rw [qwz k4,qwz k4,qwz (.inr k4),qwz (.inr (.inl k4)),bD,aeL _ _ (by rw [qaq];omega)];have hs:idx T.length=spl (idx T.length) n.a.toNat n.x.length (((idx T.length).drop n.a.toNat).take n.x.length):=(Jo _ _ _ _ rfl).symm;rw [hs];unfold spl;rw [Iz,Iz];rw [zO _ _ _ _ _ (by left;simp only [qKz,hlen];omega) λk hk=>DJ (qZz hk)];rw [ajx _ _ _ _ _ (by simp only [qKz,qaq,hlen];omega)];rw [zO _ _ _ _ _ (by right;simp only [qlq,qKz,qaq,hlen];omega) λk hk=>DJ (qQz hk)];rw [qdj,qbx,hi];congr 3;simp only [qKz,qaq,hlen];omega
    ·rw [qwq k4,qwq k4,VT,htin]
end Go.D
end
section
namespace Go.Rm
open Go Go.Pav Go.Pw P
attribute [-simp] List.getElem_cons_drop
abbrev eM (old:Int) (f:List Int) (e:Bool):AV:=.agg [.int .i64 old,L1 f e]
structure Has (C:aH):Prop extends D.pO C where
 f52:C.fns.get 52=some w52
 f56:C.fns.get 56=some w56
 f62:C.fns.get 62=some w62
 f65:C.fns.get 65=some w65
 f66:C.fns.get 66=some w66
 f67:C.fns.get 67=some w67
 apc:C.fns.get 1073=some w73
 f74:C.fns.get 74=some w74
 f77:C.fns.get 77=some w77
 f78:C.fns.get 78=some w78
 f79:C.fns.get 79=some w79
 f80:C.fns.get 80=some w80
 f81:C.fns.get 81=some w81
 f82:C.fns.get 82=some w82
 f83:C.fns.get 83=some w83
variable {C:aH} (H:Has C)
include H
omit H in
def zu (old:Int) (pre:List Int):List Int->Int
 | []=>0
 | k::r=>if k < -1\/old<=k then 4 else if 0<=k/\k ∈ pre then 8 else zu old (pre++[k]) r
omit H in
def chk (old:Int) (f:List Int):Int:=if old < 0 then 1 else if 4096 < old\/4096 < (f.length:Int) then 3 else zu old [] f
theorem zy (old:Int) (f:List Int) (e:Bool) (h0:0<=old) (h1:old<=4096) (h2:f.length<=4096):∀ n i,n+i=f.length->∀ seen:List Bool,seen.length=4096 ->
 (∀ v:Nat,v < 4096->seen[v]?=some (decide ((v:Int) ∈ f.take i))) ->
 MS C ⟨[(23,.int .i64 i),(22,.int .i64 f.length),(21,L1 f e),(3,.ptr 0 0 0),(1,.ptr 1 0 0)],[(0,.cells 4096 [seen.map AV.bool] true true),(1,.cells 2 [[.int .i64 old,L1 f e]] true true)],2⟩ =
  some (.int .i64 (zu old (f.take i) (f.drop i))):=by
 have _h:=H;intro n;induction n with
 | zero =>
  intro i hi seen hl hs;simp only [MS];rw [aj Ii.eq_1];have h3:¬ i < f.length:=by omega
  have h4:f.drop i=[]:=qwj qqq;simp [aj Wv.eq_1,h3,h4,zu]
 | succ n ih =>
  intro i hi seen hl hs;have h3:i < f.length:=by omega
  have ih':=ih (i+1) qqq;simp only [MS] at ih' |-;rw [aj Ii.eq_1];rw [drop_cons h3];by_cases c1:f[i] < -1
  ·have c2:¬ -1<=f[i]:=by omega
   simp (disch:=omega) [h3,aC,zu,c1,c2]
  ·have c2:-1<=f[i]:=by omega
   by_cases c3:old<=f[i]
   ·simp (disch:=omega) [h3,aC,zu,c1,c2,c3]
   ·by_cases c4:0<=f[i]
    ·obtain ⟨k,hk⟩:∃ k:Nat,f[i]=k:=⟨f[i].toNat,by omega⟩;have hk2:k < 4096:=by omega
     have hk3:k < seen.length:=by omega
     have hk4:k+1<=seen.length:=by omega
     have hsk:=hs k hk2;have hft:f.take (i+1)=f.take i++[(k:Int)]:=by rw [qJq h3,hk]
     have:=ih' (seen.set k true) (by simpa using hl) (λv hv=>by
      rw [hft,qpx];by_cases q:k=v
      ·subst q;simp [hk3]
      ·have q2:¬ (v:Int)=(k:Int):=by omega
       rw [qwq q,hs v hv];simp [q2])
     rw [hft] at this;rw [hk] at c1 c2 c3 c4 |-;by_cases c5:(k:Int) ∈ f.take i
     ·rw [qqj hk3] at hsk;simp (disch:=omega) [h3,aC,zu,c1,c2,c3,c4,c5,hk,hk2,hk3] at hsk |-;simp (disch:=omega) [hsk]
     ·rw [qqj hk3] at hsk;simp at this;simp (disch:=omega) [h3,aC,zu,c1,c2,c3,c4,c5,hk,hk2,hk3] at hsk |-;simp (disch:=omega) [hsk,agV,aC,hk4,this]
    ·have hft:f.take (i+1)=f.take i++[f[i]]:=qJq h3;have:=ih' seen hl (λv hv=>by
      have q2:¬ (v:Int)=f[i]:=by omega
      rw [hft,hs v hv];simp only [qjj,qVx,q2,q0x])
     rw [hft] at this;simp at this;simp (disch:=omega) [h3,aC,zu,c1,c2,c3,c4,this]
theorem rZ (old:Int) (f:List Int) (e:Bool):FnW C 56 [eM old f e]=some (.int .i64 (chk old f)):=by
 rw [aF H.f56 rfl];unfold chk;by_cases c1:old < 0
 ·simp [w56,c1]
 ·by_cases c2:4096 < old
  ·simp [w56,c1,c2]
  ·by_cases c3:4096 < (f.length:Int)
   ·simp [w56,c1,c2,c3]
   ·have:=zy H old f e qqq qqq qqq f.length 0 qqz (rep 4096 false) qqz (λv hv=>by rw [aiu _ _ hv];simp);simp only [MS] at this;simp at this;simp [w56,c1,c2,c3,this]
omit H in
structure Dat (caps:List AV):Prop where
 frz:∀ h,aZ (bK h 16) caps=some caps
 reach:∀ h,caps.flatMap (aK h 16)=[]
 ptr:bV caps=false
 refs:CJ caps=[]
 ren:∀ π,lV π caps=some caps
theorem Y7 (old:Int) (now:Nat) (g:Nat) (caps:List AV) (G:Nat->Int) (hd:Dat caps) (hg:D.ppB g=false) (hg2:D.ak g=false) (hx:now<=4096) (hG:∀ i:Nat,i < now->FnW C g (.int .i64 i::caps)=some (.int .i64 (G i))):∀ n i,n+i=now->∀ acc:List Int,acc.length=i ->
 OY C ⟨[(20,.int .i64 i),(19,.int .i64 now),(8,.ptr 0 0 0),(6,.ptr 2 0 0),(2,.fn g caps)],
  [(0,.cells 2 [[.int .i64 old,.sl 1 1 0 now now true]] true false),(1,.cells 1 (acc.map eI++List.replicate n [AV.int .i64 0]) true true),(2,.cells 2 [[.int .i64 0,.ro 1 [] true]] true true)],3⟩ =
  some (.tup [eM old (acc++(List.range' i n).map G) true,.int .i64 0]):=by
 intro n;induction n with
 | zero =>
  intro i hi acc ha;simp only [OY];rw [aj Eh.eq_1];have h3:¬ i < now:=by omega
  have h5:acc.length=now:=by omega
  have h6:List.take now (List.map eI acc)=List.map eI acc:=qzz (by simp [h5]);simp [aj N7.eq_1,h3,h5,h6]
 | succ n ih =>
  intro i hi acc ha;have h3:i < now:=by omega
  have:=ih (i+1) qqq (acc++[G i]) (by simp [ha]);simp only [OY] at this |-;rw [aj Eh.eq_1];simp at this;simp (disch:=omega) [h3,aC,hd.frz,hd.reach,hd.ptr,hd.refs,hd.ren,hG,H.inl,H.pp,hg,hg2,List.range'_succ,pq,o7];exact this
theorem qM (old now:Int) (g:Nat) (caps:List AV) (G:Nat->Int) (hd:Dat caps) (hg:D.ppB g=false) (hg2:D.ak g=false) (hn:0<=now) (hx:now<=4096) (hG:∀ i:Nat,(i:Int) < now->FnW C g (.int .i64 i::caps)=some (.int .i64 (G i))) :
 FnW C 1073 [.int .i64 old,.int .i64 now,.fn g caps]=some (.tup [eM old ((List.range now.toNat).map G) true,.int .i64 0]):=by
 obtain ⟨now,rfl⟩:∃ k:Nat,now=k:=⟨now.toNat,by omega⟩;rw [aF H.apc rfl];cases now with
 | zero=>simp [w73,aj Eh.eq_1,aj N7.eq_1,hd.refs,hd.ren]
 | succ now =>
  have:=Y7 H old (now+1) g caps G hd hg hg2 qqq (λi hi=>hG i qqq) (now+1) 0 rfl [] rfl;simp only [OY] at this;simp at this;have h1:(0:Int) < (now:Int)+1:=by omega
  have h2:List.range' 0 (now+1)=List.range (now+1):=List.range_eq_range'.symm;rw [h2] at this;simp (disch:=omega) [w73,h1,fits,hd.refs,hd.ren,this]
abbrev zM:AV:=.agg [.int .i64 0,.ro 1 [] true]
omit H in
theorem atM:Dat []:=⟨λh=>rfl,λh=>rfl,rfl,rfl,λπ=>rfl⟩
omit H in
theorem akW (a b:List AV):Dat [.rop a,.rop b]:=⟨λh=>rfl,λh=>rfl,rfl,rfl,λπ=>rfl⟩
omit H in
theorem au1 (a b c d:List AV):Dat [.rop a,.rop b,.rop c,.rop d]:=⟨λh=>rfl,λh=>rfl,rfl,rfl,λπ=>rfl⟩
omit H in
def je (n:Int):Bool:=decide (n < 0\/4096 < n)
theorem BL (n:Int):FnW C 77 [.int .i64 n]=some (.bool (je n)):=by rw [aF H.f77 rfl];unfold je;by_cases c:n < 0 <;> simp [w77,c]
omit H in
def yV (n at_ many:Int):Bool:=decide (at_ < 0\/many < 0\/n < at_\/n - at_ < many)
theorem I4 (n a m:Int) (h:0<=n) (h2:n<=4096):FnW C 78 [.int .i64 n,.int .i64 a,.int .i64 m]=some (.bool (yV n a m)):=by
 rw [aF H.f78 rfl];unfold yV;by_cases c:a < 0
 ·simp [w78,c]
 ·by_cases c1:m < 0
  ·simp [w78,c,c1]
  ·by_cases c2:n < a
   ·simp [w78,c,c1,c2]
   ·simp (disch:=omega) [w78,c,c1,c2,aC]
omit H in
def aau (a m i:Int):Int:=if i < a then i else if i < a+m then -1 else i - m
omit H in
def JU (a m i:Int):Int:=if i < a then i else i+m
omit H in
def Zg (a m t i:Int):Int:=if i < t then JU a m i else if i < t+m then a+i - t else JU a m (i - m)
omit H in
def vT (G:Int->Int) (n:Int):List Int:=(List.range n.toNat).map λi:Nat=>G i
theorem k81 (i:Int):FnW C 81 [.int .i64 i]=some (.int .i64 i):=by rw [aF H.f81 rfl];simp [w81]
theorem k82 (a m i:Int) (ha:0<=a/\a<=4096) (hm:0<=m/\m<=4096) (hi:0<=i/\i<=4096):FnW C 82 [.int .i64 i,.rop [.int .i64 a],.rop [.int .i64 m]]=some (.int .i64 (aau a m i)):=by
 rw [aF H.f82 rfl];unfold aau;by_cases c:i < a
 ·simp [w82,c]
 ·by_cases c1:i < a+m
  ·simp (disch:=omega) [w82,c,c1,aC]
  ·simp (disch:=omega) [w82,c,c1,aC]
theorem k83 (a m i:Int) (ha:0<=a/\a<=4096) (hm:0<=m/\m<=4096) (hi:0<=i/\i<=4096):FnW C 83 [.int .i64 i,.rop [.int .i64 a],.rop [.int .i64 m]]=some (.int .i64 (JU a m i)):=by
 rw [aF H.f83 rfl];unfold JU;by_cases c:i < a
 ·simp [w83,c]
 ·simp (disch:=omega) [w83,c,aC]
theorem k79 (a m i:Int) (ha:0<=a/\a<=4096) (hm:0<=m/\m<=4096) (hi:-4096<=i/\i<=4096):FnW C 79 [.int .i64 i,.rop [.int .i64 a],.rop [.int .i64 m]]=some (.int .i64 (JU a m i)):=by
 rw [aF H.f79 rfl];unfold JU;by_cases c:i < a
 ·simp [w79,c]
 ·simp (disch:=omega) [w79,c,aC]
theorem k80 (a m t i:Int) (ha:0<=a/\a<=4096) (hm:0<=m/\m<=4096) (ht:0<=t/\t<=4096) (hi:0<=i/\i<=4096) :
 FnW C 80 [.int .i64 i,.rop [.int .i64 t],.rop [.fn 79 [.rop [.int .i64 a],.rop [.int .i64 m]]],.rop [.int .i64 m],.rop [.int .i64 a]]=some (.int .i64 (Zg a m t i)):=by
 rw [aF H.f80 rfl];unfold Zg;have h1:=k79 H a m i ha hm qqq;have h2:=k79 H a m (i - m) ha hm qqq;by_cases c:i < t
 ·simp [w80,c,h1,H.inl,D.ak,H.pp,D.ppB]
 ·by_cases c1:i < t+m
  ·simp (disch:=omega) [w80,c,c1,aC]
  ·simp (disch:=omega) [w80,c,c1,aC,h2,H.inl,D.ak,H.pp,D.ppB]
theorem k74 (b:Int) (bf:List Int) (be:Bool) (a:Int) (af:List Int) (ae:Bool) (i:Nat) (hi:i < bf.length) (hb:bf[i] < af.length) :
 FnW C 74 [.int .i64 i,.rop [.int .i64 b,L1 bf be],.rop [.int .i64 a,L1 af ae]]=some (.int .i64 (if 0<=bf[i] then af[bf[i].toNat]?.getD 0 else -1)):=by
 rw [aF H.f74 rfl];by_cases c:0<=bf[i]
 ·obtain ⟨k,hk⟩:∃ k:Nat,bf[i]=k:=⟨bf[i].toNat,by omega⟩;have h2:k < af.length:=by omega
  simp [w74,hi,hk,c,h2]
 ·simp [w74,hi,c]
theorem Yg (n:Int):FnW C 65 [.int .i64 n]=some (.tup (if n < 0\/4096 < n then [zM,.int .i64 4] else [eM n (vT id n) true,.int .i64 0])):=by
 rw [aF H.f65 rfl];have hw:=BL H n;unfold je at hw;by_cases c:n < 0\/4096 < n
 ·simp [w65,c,hw,H.inl,D.ak,H.pp,D.ppB]
 ·have:=qM H n n 81 [] (λi=>i) atM (by rfl) (by rfl) qqq qqq (λi hi=>k81 H i);simp [w65,c,hw,H.inl,D.ak,H.pp,D.ppB,this,vT]
theorem Ws (n a m:Int):FnW C 67 [.int .i64 n,.int .i64 a,.int .i64 m]=some (.tup (if n < 0\/4096 < n\/yV n a m=true then [zM,.int .i64 4] else [eM n (vT (JU a m) (n - m)) true,.int .i64 0])):=by
 rw [aF H.f67 rfl];have hw:=BL H n;by_cases c:je n=true
 ·have c2:n < 0\/4096 < n:=by simpa [je] using c
  rw [qwz (by rcases c2 with h | h;exact .inl h;exact .inr (.inl h))];simp [w67,c,hw,H.inl,D.ak,H.pp,D.ppB]
 ·have c':je n=false:=by simpa using c
  have c2:¬ n < 0:=by intro q;exact c (by simp [je,q])
  have c3:¬ 4096 < n:=by intro q;exact c (by simp [je,q])
  have ho:=I4 H n a m qqq qqq;by_cases d:yV n a m=true
  ·simp [w67,c',hw,H.inl,D.ak,H.pp,D.ppB,c2,c3,ho,d]
  ·have d':yV n a m=false:=by simpa using d
   have d2:¬ a < 0/\¬ m < 0/\¬ n < a/\¬ n - a < m:=by simpa [yV] using d'
   have:=qM H n (n - m) 83 [.rop [.int .i64 a],.rop [.int .i64 m]] (λi=>JU a m i) (akW _ _) (by rfl) (by rfl) qqq qqq (λi hi=>k83 H a m i qqq qqq qqq);simp (disch:=omega) [w67,c',hw,H.inl,D.ak,H.pp,D.ppB,c2,c3,ho,d',aC,this,vT]
theorem Uj (n a m:Int) (hm0:m < 9223372036854775808):FnW C 66 [.int .i64 n,.int .i64 a,.int .i64 m]=some (.tup (if n < 0\/4096 < n\/a < 0\/n < a\/m < 0 then [zM,.int .i64 4] else if 4096 - n < m then [zM,.int .i64 3] else [eM n (vT (aau a m) (n+m)) true,.int .i64 0])):=by
 rw [aF H.f66 rfl];have hw:=BL H n;by_cases c:je n=true
 ·have c2:n < 0\/4096 < n:=by simpa [je] using c
  rw [qwz (by rcases c2 with h | h;exact .inl h;exact .inr (.inl h))];simp [w66,c,hw,H.inl,D.ak,H.pp,D.ppB]
 ·have c':je n=false:=by simpa using c
  have c2:¬ n < 0:=by intro q;exact c (by simp [je,q])
  have c3:¬ 4096 < n:=by intro q;exact c (by simp [je,q])
  by_cases d1:a < 0
  ·simp [w66,c',hw,H.inl,D.ak,H.pp,D.ppB,c2,c3,d1]
  ·by_cases d2:n < a
   ·simp [w66,c',hw,H.inl,D.ak,H.pp,D.ppB,c2,c3,d1,d2]
   ·by_cases d3:m < 0
    ·simp [w66,c',hw,H.inl,D.ak,H.pp,D.ppB,c2,c3,d1,d2,d3]
    ·by_cases d4:4096 - n < m
     ·simp (disch:=omega) [w66,c',hw,H.inl,D.ak,H.pp,D.ppB,c2,c3,d1,d2,d3,d4,aC]
     ·have:=qM H n (n+m) 82 [.rop [.int .i64 a],.rop [.int .i64 m]] (λi=>aau a m i) (akW _ _) (by rfl) (by rfl) qqq qqq (λi hi=>k82 H a m i qqq qqq qqq);simp (disch:=omega) [w66,c',hw,H.inl,D.ak,H.pp,D.ppB,c2,c3,d1,d2,d3,d4,aC,this,vT]
theorem adO (n a m t:Int):FnW C 62 [.int .i64 n,.int .i64 a,.int .i64 m,.int .i64 t]=some (.tup (if n < 0\/4096 < n\/yV n a m=true\/t < 0\/n - m < t then [zM,.int .i64 4] else [eM n (vT (Zg a m t) n) true,.int .i64 0])):=by
 rw [aF H.f62 rfl];have hw:=BL H n;by_cases c:je n=true
 ·have c2:n < 0\/4096 < n:=by simpa [je] using c
  rw [qwz (by rcases c2 with h | h;exact .inl h;exact .inr (.inl h))];simp [w62,c,hw,H.inl,D.ak,H.pp,D.ppB]
 ·have c':je n=false:=by simpa using c
  have c2:¬ n < 0:=by intro q;exact c (by simp [je,q])
  have c3:¬ 4096 < n:=by intro q;exact c (by simp [je,q])
  have ho:=I4 H n a m qqq qqq;by_cases d:yV n a m=true
  ·simp [w62,c',hw,H.inl,D.ak,H.pp,D.ppB,c2,c3,ho,d]
  ·have d':yV n a m=false:=by simpa using d
   have d2:¬ a < 0/\¬ m < 0/\¬ n < a/\¬ n - a < m:=by simpa [yV] using d'
   by_cases e1:t < 0
   ·simp (disch:=omega) [w62,c',hw,H.inl,D.ak,H.pp,D.ppB,c2,c3,ho,d',aC,e1]
   ·by_cases e2:n - m < t
    ·simp (disch:=omega) [w62,c',hw,H.inl,D.ak,H.pp,D.ppB,c2,c3,ho,d',aC,e1,e2]
    ·have:=qM H n n 80 [.rop [.int .i64 t],.rop [.fn 79 [.rop [.int .i64 a],.rop [.int .i64 m]]],.rop [.int .i64 m],.rop [.int .i64 a]] (λi=>Zg a m t i) (au1 _ _ _ _) (by rfl) (by rfl) qqq qqq (λi hi=>k80 H a m t i qqq qqq qqq qqq);simp (disch:=omega) [w62,c',hw,H.inl,D.ak,H.pp,D.ppB,c2,c3,ho,d',aC,e1,e2,this,vT]
omit H in
theorem LH {old:Int}:∀ {f pre:List Int},zu old pre f=0->(∀ k ∈ f,-1<=k/\k < old)/\∀ (i j:Nat) (k:Int),f[i]?=some k->f[j]?=some k->0<=k->i=j/\¬ k ∈ pre
 | [],_,_=>⟨by simp,by simp⟩
 | a::f,pre,h=>by
  unfold zu at h;split at h
  ·simp at h
  ·rename_i c1;split at h
   ·simp at h
   ·rename_i c2;obtain ⟨h1,h2⟩:=LH h;refine ⟨λk hk=>?_,λi j k e1 e2 hk=>?_⟩
    ·rcases qkq.1 hk with rfl | hk
     ·omega
     ·exact h1 k hk
    ·match i,j,e1,e2 with
     | 0,0,e1,e2 =>simp at e1;subst e1;exact ⟨rfl,λq=>c2 ⟨hk,q⟩⟩
     | 0,j+1,e1,e2 =>simp at e1;subst e1;have:=(h2 j j a (by simpa using e2) (by simpa using e2) hk).2;simp at this
     | i+1,0,e1,e2 =>simp at e2;subst e2;have:=(h2 i i a (by simpa using e1) (by simpa using e1) hk).2;simp at this
     | i+1,j+1,e1,e2 =>have:=h2 i j k (by simpa using e1) (by simpa using e2) hk;exact ⟨by omega,λq=>this.2 (by simp [q])⟩
omit H in
structure Okm (old:Int) (f:List Int):Prop where
 avC:0<=old
 avD:old<=4096
 len:f.length<=4096
 rng:∀ k ∈ f,-1<=k/\k < old
 uniq:∀ (i j:Nat) (k:Int),f[i]?=some k->f[j]?=some k->0<=k->i=j
omit H in
theorem Jm {old:Int} {f:List Int} (h:chk old f=0):Okm old f:=by
 unfold chk at h;split at h
 ·simp at h
 ·split at h
  ·simp at h
  ·obtain ⟨h1,h2⟩:=LH h;exact ⟨by omega,by omega,by omega,h1,λi j k a b c=>(h2 i j k a b c).1⟩
def cmp (af bf:List Int):List Int:=bf.map λk=>if 0<=k then af[k.toNat]?.getD 0 else -1
omit H in
theorem aap (l:List Int) (G:Int->Int) (d:Int):(List.range l.length).map (λi=>G (l[i]?.getD d))=l.map G:=by
 refine qfq λj=>?_;by_cases hj:j < l.length
 ·simp [hj]
 ·simp [hj]
theorem JW (a:Int) (af:List Int) (ae:Bool) (b:Int) (bf:List Int) (be:Bool):FnW C 52 [eM a af ae,eM b bf be]=some (.tup (if chk a af≠0 then [zM,.int .i64 (chk a af)] else if chk b bf≠0 then [zM,.int .i64 (chk b bf)] else
 if b≠af.length then [zM,.int .i64 16] else [eM a (cmp af bf) true,.int .i64 0])):=by
 rw [aF H.f52 rfl];have h1:=rZ H a af ae;have h2:=rZ H b bf be;by_cases c1:chk a af=0
 ·by_cases c2:chk b bf=0
  ·by_cases c3:b=af.length
   ·subst c3;have ka:=Jm c1;have kb:=Jm c2;have h3:=kb.len;have:=qM H a bf.length 74 [.rop [.int .i64 af.length,L1 bf be],.rop [.int .i64 a,L1 af ae]] (λi=>if 0<=bf[i]?.getD 0 then af[(bf[i]?.getD 0).toNat]?.getD 0 else -1) (akW _ _) (by rfl) (by rfl) qqq qqq (λi hi=>by
     have hi':i < bf.length:=by omega
     have:=kb.rng _ (qxx hi');have:=k74 H af.length bf be a af ae i hi' qqq;rw [this,qqj hi'];rfl)
    rw [qWj,aap bf (λk=>if 0<=k then af[k.toNat]?.getD 0 else -1) 0] at this;simp [w52,H.inl,D.ak,H.pp,D.ppB,h1,h2,c1,c2,this,cmp]
   ·simp [w52,H.inl,D.ak,H.pp,D.ppB,h1,h2,c1,c2,c3]
  ·simp [w52,H.inl,D.ak,H.pp,D.ppB,h1,h2,c1,c2]
 ·simp [w52,H.inl,D.ak,H.pp,D.ppB,h1,h2,c1]
end Go.Rm
end
section
namespace Go.D
open Go Go.Pav Go.Pw P
attribute [-simp] List.getElem_cons_drop
variable {C:aH}
structure YK (C:aH):Prop extends Rm.Has C where
 anE:C.fns.get 525=some SN
 an2:C.fns.get 564=some ah0
 aoq:C.fns.get 565=some aez
def AY (a m:Int):AV:=.fn 565 [.rop [.int .i64 a],.rop [.int .i64 m]]
theorem agK (H:YK C) (a m:Int):FnW C 564 [.int .i64 a,.int .i64 m]=some (AY a m):=by rw [aF H.an2 rfl];simp [ah0,AY]
theorem aiv (H:YK C) (a m i:Int) (h:-1000000000000<=a/\a<=1000000000000) (h2:-1000000000000<=m/\m<=1000000000000):FnW C 565 [.int .i64 i,.rop [.int .i64 a],.rop [.int .i64 m]]=some (.bool (decide (a<=i)&&decide (i < a+m))):=by
 rw [aF H.aoq rfl];by_cases c:a<=i
 ·simp (disch:=omega) [aez,c,aC]
 ·simp (disch:=omega) [aez,c,aC]
theorem Rt (N:Nat):Rm.vT id N=idx N:=by unfold Rm.vT idx;simp
theorem vZ (G:Int->Int) (n:Int) (j:Nat):(Rm.vT G n)[j]?=if (j:Int) < n then some (G j) else none:=by
 unfold Rm.vT;rw [qWx];by_cases h:(j:Int) < n
 ·rw [qwz h,qrx qqq];rfl
 ·rw [qwq h,qij qqx];rfl
theorem Dh (N j:Nat):(idx N)[j]?=if j < N then some (j:Int) else none:=by
 unfold idx;rw [qWx];by_cases h:j < N
 ·rw [qwz h,qrx h];rfl
 ·rw [qwq h,qij qqx];rfl
theorem Qb {α:Type} (l:List α) (a c:Nat) (x:List α) (h:a<=l.length) (j:Nat):(spl l a c x)[j]?=if j < a then l[j]? else if j < a+x.length then x[j - a]? else l[j - x.length+c]?:=by
 unfold spl;rw [qQj,qbj,qKz,q7x h];by_cases h1:j < a
 ·rw [qwz h1,qwz h1,qZj,qwz h1]
 ·rw [qwq h1,qwq h1,qbj];by_cases h2:j < a+x.length
  ·rw [qwz h2,qwz qqq]
  ·rw [qwq h2,qwq qqq,qKq];congr 1;omega
theorem Ya (n a m:Nat) (h:a<=n):Rm.vT (Rm.aau a m) ((n:Int)+m)=spl (idx n) a 0 (List.replicate m (-1)):=by
 refine qfq λj=>?_;rw [vZ,Qb _ _ _ _ (by rw [zZ];exact h),Dh,Dh,quz,qmq];unfold Rm.aau;by_cases h1:j < a
 ·rw [qwz qqq,qwz qqq,qwz h1,qwz qqq]
 ·rw [qwq h1];by_cases h2:j < a+m
  ·rw [qwz qqq,qwq qqq,qwz qqq,qwz h2,qwz qqq]
  ·rw [qwq h2];by_cases h3:j < n+m
   ·rw [qwz qqq,qwq qqq,qwq qqq,qwz qqq];congr 1;omega
   ·rw [qwq qqq,qwq qqq]
theorem YF (n a m:Nat) (h:a+m<=n):Rm.vT (Rm.JU a m) ((n:Int) - m)=spl (idx n) a m []:=by
 refine qfq λj=>?_;rw [vZ,Qb _ _ _ _ (by rw [zZ];omega),Dh,Dh,qaj];unfold Rm.JU;by_cases h1:j < a
 ·rw [qwz qqq,qwz qqq,qwz h1,qwz qqq]
 ·have h2:¬ j < a+0:=by omega
  rw [qwq h1,qwq h2];by_cases h3:j+m < n
  ·rw [qwz qqq,qwq qqq,qwz qqq];congr 1
  ·rw [qwq qqq,qwq qqq]
theorem ahk (n a m:Nat) (h:a+m<=n):(spl (idx n) a m []).length=n - m:=by unfold spl;simp only [qXz,qlq,qKz,qaq,zZ];omega
theorem ahf (n a m t:Nat) (h:a+m<=n) (ht:t+m<=n):Rm.vT (Rm.Zg a m t) n=spl (spl (idx n) a m []) t 0 (((idx n).take (a+m)).drop a):=by
 refine qfq λj=>?_;have hl:(((idx n).take (a+m)).drop a).length=m:=by simp only [qaq,qKz,zZ];omega
 rw [vZ,Qb _ _ _ _ (by rw [ahk n a m h];omega),hl,<- YF n a m h,vZ,vZ,qKq,qZj,Dh];unfold Rm.Zg;by_cases h1:j < t
 ·rw [qwz qqq,qwz qqq,qwz h1,qwz qqq]
 ·rw [qwq h1];by_cases h2:j < t+m
  ·rw [qwz qqq,qwq qqq,qwz qqq,qwz h2,qwz qqq,qwz qqq];congr 1;omega
  ·rw [qwq h2];by_cases h3:j < n
   ·rw [qwz qqq,qwq qqq,qwq qqq,qwz qqq];congr 2;omega
   ·rw [qwq qqq,qwq qqq]
theorem ahF (H:YK C) (l:List En) (n:Nt) (h:Ins l n) (hl:l.length<=1024) (hx:n.x.length<=10000):FnW C 525 [.agg (eNt n),.int .i64 l.length]=some (.tup [Rm.eM l.length (D8 n l.length) true,AY (Sv n) (Tc n)]):=by
 have hp:=λa m=>agK H a m;have hs:=Rm.Yg H.toHas l.length;have hr:=λa m=>Rm.Ws H.toHas l.length a m;have hi:=λn a m h=>Rm.Uj H.toHas n a m h;have hm:=λa m t=>Rm.adO H.toHas l.length a m t;obtain ⟨k,a,c,t,x,e⟩:=n;have hk:=h.k;simp only at hk hx;have hsame:(if (l.length:Int) < 0\/4096 < (l.length:Int) then [Rm.zM,AV.int .i64 4] else [Rm.eM l.length (Rm.vT id l.length) true,.int .i64 0])=[Rm.eM l.length (idx l.length) true,.int .i64 0]:=by rw [qwq qqq,Rt]
 rw [hsame] at hs;have h5:k=1\/k=2\/k=3\/k=4\/k=5:=by omega
 rw [aF H.anE rfl];unfold Sv Tc D8 AY;unfold AY at hp;rcases h5 with rfl | rfl | rfl | rfl | rfl
 ·have h1:=h.a qqz;have h2:=h.s (by rfl);simp only at h1 h2;have hi1:=hi l.length a x.length qqq;have e1:=Ya l.length a.toNat x.length qqq;rw [qnz h1.1] at e1;rw [qwq qqq,qwq qqq,e1] at hi1;simp (disch:=omega) [SN,hi1,hp,aC,H.inl,ak,H.pp,ppB]
 ·have h1:=h.a qqz;have h2:=h.c (.inl rfl);simp only at h1 h2;have hr1:=hr a c;have e1:=YF l.length a.toNat c.toNat qqq;rw [qnz h1.1,qnz h2.1] at e1;have e2:Rm.yV l.length a c=false:=by unfold Rm.yV;simp;omega
  rw [e2,qwq qqx,e1] at hr1;simp (disch:=omega) [SN,hr1,hp,aC,H.inl,ak,H.pp,ppB]
 ·have h1:=h.a qqz;have h2:=h.c (.inr rfl);have h3:=h.t rfl;simp only at h1 h2 h3;have hm1:=hm a c t;have e1:=ahf l.length a.toNat c.toNat t.toNat qqq qqq;rw [qnz h1.1,qnz h2.1,qnz h3.1] at e1;have e2:Rm.yV l.length a c=false:=by unfold Rm.yV;simp;omega
  rw [e2,qwq qqx,e1] at hm1;simp (disch:=omega) [SN,hm1,hp,aC,H.inl,ak,H.pp,ppB]
 ·have h1:=h.a qqz;have h2:=h.x rfl;simp only at h1 h2;simp (disch:=omega) [SN,hs,hp,aC,H.inl,ak,H.pp,ppB]
 ·have h2:=h.r rfl;simp only at h2;have hr1:=hr 0 l.length;have e2:Rm.yV l.length 0 l.length=false:=by unfold Rm.yV;simp
  rw [e2,qwq qqx,Int.sub_self] at hr1;have hi1:=hi 0 0 x.length qqq;have e1:=Ya 0 0 x.length qqq;simp only [q6x,q8x] at e1;have e3:spl (idx 0) 0 0 (List.replicate x.length (-1))=List.replicate x.length (-1):=by simp [spl,idx]
  rw [qwq qqq,qwq qqq,q8x,e1,e3] at hi1;have e4:Rm.vT (Rm.JU 0 l.length) 0=[]:=rfl;rw [e4] at hr1;have hc:=Rm.JW H.toHas l.length [] true 0 (List.replicate x.length (-1)) true;have k1:Rm.chk l.length []=0:=by unfold Rm.chk;rw [qwq qqq,qwq qqx];rfl
  have k2:Rm.chk 0 (List.replicate x.length (-1))=0:=by
   unfold Rm.chk;rw [qwq qqq,qwq qqx];have:∀ (m:Nat) (pre:List Int),Rm.zu 0 pre (List.replicate m (-1))=0:=by
    intro m;induction m with
    | zero=>intro pre;rfl
    | succ m ih=>intro pre;rw [qJx,Rm.zu,qwq qqq,qwq qqq];exact ih _
   exact this _ _
  have e5:Rm.cmp [] (List.replicate x.length (-1))=List.replicate x.length (-1):=by simp [Rm.cmp]
  rw [k1,k2,qwq qqz,qwq qqz,qwq qqz,e5] at hc;simp [Rm.eM,L1] at hc;simp (disch:=omega) [SN,hr1,hi1,hc,hp,aC,H.inl,ak,H.pp,ppB]
def nni (l:List Int):List Int:=l.filter λk=>decide (0<=k)
def Vdm (old:Int) (f:List Int):Prop:=(∀ k ∈ f,-1<=k/\k < old)/\(nni f).Nodup
theorem JG {old:Int}:∀ (f pre:List Int),(∀ k ∈ f,-1<=k/\k < old)->(nni pre++nni f).Nodup->Rm.zu old pre f=0
 | [],_,_,_=>rfl
 | k::r,pre,h1,h2=>by
  have hk:=h1 k qqz;unfold Rm.zu;rw [qwq qqq];by_cases c:0<=k
  ·have e:nni (k::r)=k::nni r:=by simp [nni,c]
   rw [e] at h2;rw [qwq]
   ·refine JG r _ (λx hx=>h1 x (by simp [hx])) ?_;have e2:nni (pre++[k])=nni pre++[k]:=by simp [nni,c]
    rw [e2,qQj];exact h2
   ·rintro ⟨_,hm⟩;rw [quj] at h2;exact h2.2.2 k (by simp [nni,c,hm]) k qqz rfl
  ·rw [qwq qqq];have e:nni (k::r)=nni r:=by simp [nni,c]
   rw [e] at h2;refine JG r _ (λx hx=>h1 x (by simp [hx])) ?_;have e2:nni (pre++[k])=nni pre:=by simp [nni,c]
   rw [e2];exact h2
theorem OO {old:Int} {f:List Int} (h:Vdm old f) (h0:0<=old) (h1:old<=4096) (h2:f.length<=4096):Rm.chk old f=0:=by unfold Rm.chk;rw [qwq qqq,qwq qqq];exact JG f [] h.1 (by simpa [nni] using h.2)
theorem XR {old:Int} {f g:List Int} (h:Vdm old f) (hs:g.Sublist f):Vdm old g:=⟨λk hk=>h.1 k (hs.subset hk),h.2.sublist (hs.filter _)⟩
theorem Hy {old:Int} {f g:List Int} (h:Vdm old f) (hs:g.Perm f):Vdm old g:=⟨λk hk=>h.1 k (hs.subset hk),(hs.filter _).nodup_iff.2 h.2⟩
theorem Yw {old:Int} (m:Nat) (h:0<=old):Vdm old (List.replicate m (-1)):=by
 refine ⟨λk hk=>?_,?_⟩
 ·have:=qgz hk;omega
 ·have:nni (List.replicate m (-1))=[]:=by unfold nni;rw [zjj];simp
  rw [this];exact List.nodup_nil
theorem Xt {old:Int} {f:List Int} (h:Vdm old f) (a m:Nat) (ho:0<=old):Vdm old (spl f a 0 (List.replicate m (-1))):=by
 refine Hy (f:=List.replicate m (-1)++f) ⟨λk hk=>?_,?_⟩ (zT _ _ _)
 ·rcases qjj.1 hk with hk | hk
  ·have:=qgz hk;omega
  ·exact h.1 k hk
 ·have:nni (List.replicate m (-1)++f)=nni f:=by unfold nni;rw [List.filter_append,zjj];simp
  rw [this];exact h.2
theorem O7 (n:Nat):Vdm n (idx n):=by
 refine ⟨λk hk=>?_,?_⟩
 ·unfold idx at hk;obtain ⟨i,hi,rfl⟩:=qyq.1 hk;have:=zvq.1 hi;omega
 ·unfold nni;refine List.Pairwise.filter _ ?_;unfold idx;exact List.Pairwise.map _ (λa b h e=>h (Int.ofNat.inj e)) List.nodup_range
theorem agJ {l:List En} {n:Nt} (h:Ins l n):Vdm l.length (D8 n l.length):=by
 have hi:=O7 l.length;unfold D8;split
 ·exact Xt hi _ _ qqq
 ·split
  ·exact XR hi (uq _ _ _)
  ·split
   ·exact Hy hi (pX _ _ _ _)
   ·split
    ·exact hi
    ·exact Yw _ qqq
theorem YW {old:Int} {l:List En} {T:List Tg} {n:Nt} (h:Ins l n) (hT:T.length=l.length) (ho:0<=old) (hv:Vdm old (T.map (·.f))):Vdm old ((kX T n).map (·.f)):=by
 have htin:(tin n.x).map (·.f)=List.replicate n.x.length (-1):=by unfold tin;rw [qVz];exact zjq ..
 unfold kX;split
 ·rw [bD,htin];exact Xt hv _ _ ho
 ·split
  ·rw [bD];exact XR hv (uq _ _ _)
  ·split
   ·rw [bD,bD];simp only [qbx,qdj,qax];exact Hy hv (pX _ _ _ _)
   ·split
    ·rename_i k4;have h1:=h.x k4;have h2:=h.a qqq;rw [bD,aeg _ _ (by rw [qaq];omega),Jo]
     ·exact hv
     ·rw [qbx]
    ·rw [htin];exact Yw _ ho
theorem ahc {l:List En} {T:List Tg} {n:Nt} (h:Ins l n) (hT:T.length=l.length):(D8 n l.length).length=(kX T n).length:=by have:=congrArg List.length (ajt h hT);rw [hT] at this;simpa [cm] using this
theorem amG (A F:List Int):Rm.cmp A F=cm A F:=rfl
structure Uk (C:aH):Prop extends YK C,jR C where
 anD:C.fns.get 469=some acI
theorem kF {α:Type} {P Q:List α} {i:Nat} {c:α} (h:P.length=i):(P++c::Q)[i]?=some c:=by rw [qoz qqq,h,Nat.sub_self];rfl
theorem kH {α:Type} {P Q:List α} {i:Nat} {c v:α} (h:P.length=i):(P++c::Q).set i v=P++v::Q:=by rw [List.set_append,qwq qqq,h,Nat.sub_self];rfl
theorem ZV (H:Uk C) (m:List Bool) (e:Bool) (hl:m.length<=1000000):FnW C 469 [.ro 1 (m.map eB) e]=some (.ro 1 (m.map eB) true):=by
 rw [aF H.anD rfl];by_cases h:m=[]
 ·subst h;simp [acI]
 ·have h2:m.length * 2<=35184372088832:=by omega
  have hT:List.take m.length (List.map eB m)=List.map eB m:=qzz qqz;simp (disch:=omega) [acI,h,h2,isE,hT]
def gU:List Bool->List En->List It
 | b::fr,e::L=>if b=true then e.i::gU fr L else gU fr L
 | _,_=>[]
@[simp] def Iw (old:Int) (F:List Int) (fe:Bool) (fr:List Bool) (fre:Bool) (x:List It) (xe:Bool):List AV:=[.int .i64 old,.ro 1 (F.map eI) fe,.ro 1 (fr.map eB) fre,.ro 4 (x.map cIt) xe]
theorem Tf:∀ (fr:List Bool) (L:List En),(gU fr L).length<=fr.length
 | [],_=>by simp [gU]
 | _::_,[]=>by simp [gU]
 | b::fr,e::L=>by have:=Tf fr L;rw [gU];split <;> simp <;> omega
theorem Ih:∀ (fr:List Bool) (L:List En),∀ y ∈ gU fr L,∃ e ∈ L,e.i=y
 | [],_,y,h=>by simp [gU] at h
 | _::_,[],y,h=>by simp [gU] at h
 | b::fr,e::L,y,h=>by
  rw [gU] at h;split at h
  ·rcases qkq.1 h with rfl | h
   ·exact ⟨e,by simp,rfl⟩
   ·obtain ⟨e',h1,h2⟩:=Ih fr L y h;exact ⟨e',by simp [h1],h2⟩
  ·obtain ⟨e',h1,h2⟩:=Ih fr L y h;exact ⟨e',by simp [h1],h2⟩
structure RD (C:aH):Prop extends adS C,abe C where
 f171:C.fns.get 171=some aaS
 f170:C.fns.get 170=some aeb
def allA (ks:List Kd) (cap:Int) (l:List En) (x:List Nt) (i:Nat):AV :=if jE ks cap l x≠0 then .tup [.agg [.ro 6 [] true],.int .i64 ((i+EY ks cap l x:Nat):Int),.int .i64 (jE ks cap l x)] else .tup [aL ((allL ks l x).map En.own) true,.int .i64 ((i+x.length:Nat):Int),.int .i64 0]
def QI (ks:List Kd) (cap:Int) (l:List En) (x:List Nt) (i:Nat) (f:Bool):AV :=if jE ks cap l x≠0 then .tup [.ro 6 [] true,.int .i64 ((i+EY ks cap l x:Nat):Int),.int .i64 (jE ks cap l x)] else .tup [.ro 6 ((allL ks l x).map eEn) f,.int .i64 ((i+x.length:Nat):Int),.int .i64 0]
theorem rO {ks:List Kd} {cap:Int} {l:List En} (h:ckE ks cap l=0):l.length<=1024:=((lF ks cap l).1 h).2.1
theorem aaR (H:RD C) (ks:List Kd) (ke:Bool) (cap:Int) (hr:jF ks) (x:List Nt) (xe:Bool) (hx:∀ n ∈ x,qg ks n) (hxl:x.length<=1000):∀ n i,n+i=x.length->∀ (l:List En),(∀ e ∈ l,dQ e)->ckE ks cap l=0 ->
 Ag C ⟨[(31,.int .i64 i),(30,.int .i64 x.length),(29,.ro 5 (x.map eNt) xe),(8,.int .i64 0),(6,.ptr 0 0 0),(3,.ptr 1 0 0),(2,.ro 5 (x.map eNt) xe)],
  [(0,.cells 1 [[.ro 6 ((l.map En.own).map eEn) true]] true true),(1,.cells 2 [[.ro 9 (ks.map eKd) ke,.int .i64 cap]] true true)],2⟩=some (allA ks cap l (x.drop i) i):=by
 intro n;induction n with
 | zero =>
  intro i hi l hs hc;simp only [Ag];rw [aj AL.eq_1];have h1:x.drop i=[]:=qwj qqq;have h2:i=x.length:=by omega
  subst h2;rw [h1];simp (disch:=omega) [aj Ql.eq_1,aC,allA,jE,allL,H.inl,ak,H.pp,ppB]
 | succ n ih =>
  intro i hi l hs hc;have hlt:i < x.length:=by omega
  have hd:x.drop i=x[i]::x.drop (i+1):=qbq hlt;have hn:=hx x[i] (qxx hlt);have hll:=rO hc;have hs':∀ e ∈ l.map En.own,dQ e:=by intro e he;obtain ⟨e',he',rfl⟩:=qyq.1 he;exact (hs e' he').ow
  have hap:=Za H.toadS ks ke cap hr (l.map En.own) true (by rw [qQq];omega) hs' ((P5 ks cap l).2 hc) x[i] hn;rw [ai4,X7] at hap;simp only [Ag];rw [aj AL.eq_1];rw [hd];by_cases hE:apE ks cap l x[i]=0
  ·rw [qwq (by simp [hE])] at hap;have:=ih (i+1) qqq (apL ks l x[i]) (Yl hn hs hE) (Jl hn hc hE);have hA:allA ks cap l (x[i]::x.drop (i+1)) i=allA ks cap (apL ks l x[i]) (x.drop (i+1)) (i+1):=by
    have e1:i+(EY ks cap (apL ks l x[i]) (x.drop (i+1))+1)=i+1+EY ks cap (apL ks l x[i]) (x.drop (i+1)):=by omega
    have e2:i+((x.drop (i+1)).length+1)=i+1+(x.drop (i+1)).length:=by omega
    have q:¬ (apE ks cap l x[i]≠0):=by simp [hE]
    simp only [allA,jE,EY,allL,qwq q,qaz,e1,e2]
   rw [hA,<- this];simp only [Ag];simp [aL,aR] at hap;simp (disch:=omega) [hlt,aC,hap,H.inl,ak,H.pp,ppB]
  ·rw [qwz hE] at hap;have hA:allA ks cap l (x[i]::x.drop (i+1)) i=.tup [.agg [.ro 6 [] true],.int .i64 i,.int .i64 (apE ks cap l x[i])]:=by simp only [allA,jE,EY,qwz hE,qbz]
   rw [hA];generalize apE ks cap l x[i]=E at *;simp only [dh,aL,aR] at hap;simp [aL,aR] at hap;simp (disch:=omega) [hlt,aC,hap,hE,H.inl,ak,H.pp,ppB]
def acU (ks:List Kd) (cap:Int) (l:List En) (x:List Nt):AV :=if ckE ks cap l≠0 then .tup [.agg [.ro 6 [] true],.int .i64 0,.int .i64 (ckE ks cap l)] else if 32 < (x.length:Int) then .tup [.agg [.ro 6 [] true],.int .i64 0,.int .i64 3] else allA ks cap l x 0
theorem ah9 (H:RD C) (ks:List Kd) (ke:Bool) (cap:Int) (hr:jF ks) (l:List En) (e:Bool) (hl:l.length<=10000) (hs:∀ e ∈ l,dQ e) (x:List Nt) (xe:Bool) (hx:∀ n ∈ x,qg ks n) (hxl:x.length<=1000) :
 FnW C 171 [aR ks ke cap,aL l e,.ro 5 (x.map eNt) xe]=some (acU ks cap l x):=by
 have hck:=iY H.toadS.tovk.toET.tozD ks ke cap hr l e qqq hs;have hrm:=LD H.toadS.tovk.toET ks ke cap hr l e qqq hs 0 0;have hin:inR 0 0 (l.length:Int)=true:=by unfold inR;simp
 have hsp:spl l (0:Int).toNat (0:Int).toNat []=l:=by simp [spl]
 rw [hin,hsp,qwq (by simp:¬ (true=false))] at hrm;rw [aF H.f171 rfl];unfold acU;by_cases hc:ckE ks cap l=0
 ·rw [qwq (by simp [hc])] at hrm |-;rw [hc] at hck;have hov:ovE l=0:=((lF ks cap l).1 hc).2.2.2.2;rw [YE,hov,qwq qqz] at hrm;by_cases h32:32 < (x.length:Int)
  ·rw [qwz h32];simp (disch:=omega) [aaS,hck,h32,aC,H.inl,ak,H.pp,ppB]
  ·rw [qwq h32];have:=aaR H ks ke cap hr x xe hx hxl x.length 0 rfl l hs hc;simp only [Ag] at this;rw [qjq] at this;simp at this;simp (disch:=omega) [aaS,hck,hrm,h32,this,aC,H.inl,ak,H.pp,ppB]
 ·rw [qwz hc];generalize ckE ks cap l=E at *;simp (disch:=omega) [aaS,hck,hc,aC,H.inl,ak,H.pp,ppB]
theorem amj (p:Pt) (x:It) (most:Int):0<=gJ p x most:=by
 unfold gJ;repeat' split
 all_goals omega
theorem abE (ks:List Kd) (cap:Int) (l:List En):∀ (x:List It) (j:Nat),0<=eY ks cap l j x
 | [],_=>by simp [eY]
 | a::r,j=>by
  rw [eY];have h:=amj (bW ks a.t).p a cap;split
  ·simp
  ·split
   ·simp
   ·split
    ·exact h
    ·exact abE ks cap l r _
theorem aiO (ks:List Kd) (cap:Int) (l:List En) (n:Nt) (h:apE ks cap l n≠0):0 < apE ks cap l n:=by
 have h1:=Qn ks cap n.x (bH l);have h2:=Qn ks cap n.x [];have h3:=abE ks cap l n.x n.a.toNat;have h4:=X8 n;have h5:=UM (apL ks l n);have h6:0<=apF ks cap l n:=by
  unfold apF;repeat' split
  all_goals omega
 unfold apE at h |-;split
 ·rename_i q;exact h4 q
 ·split
  ·omega
  ·rename_i q1 q2;rw [qwq q1,qwq q2] at h;omega
theorem VA (H:RD C) (ks:List Kd) (ke:Bool) (cap:Int) (hr:jF ks) (x:List Nt) (xe:Bool) (hx:∀ n ∈ x,qg ks n) (hxl:x.length<=1000):∀ n i,n+i=x.length->∀ (l:List En) (fl:Bool),(∀ e ∈ l,dQ e)->ckE ks cap l=0 ->
 BA C ⟨[(9,.int .i64 i),(3,.ptr 0 0 0),(2,.ro 5 (x.map eNt) xe),(1,.ro 6 (l.map eEn) fl)],
  [(0,.cells 2 [[.ro 9 (ks.map eKd) ke,.int .i64 cap]] true true)],1⟩=some (QI ks cap l (x.drop i) i (if n=0 then fl else false)):=by
 intro n;induction n with
 | zero =>
  intro i hi l fl hs hc;simp only [BA];rw [aj Af.eq_1];have h1:x.drop i=[]:=qwj qqq;have h2:i=x.length:=by omega
  subst h2;rw [h1];simp (disch:=omega) [aj NU.eq_1,aC,QI,jE,allL,H.inl,ak,H.pp,ppB]
 | succ n ih =>
  intro i hi l fl hs hc;have hlt:i < x.length:=by omega
  have hd:x.drop i=x[i]::x.drop (i+1):=qbq hlt;have hn:=hx x[i] (qxx hlt);have hap:=Hz H.toabe ks ke cap hr l fl hs hc x[i] hn;simp only [BA];rw [aj Af.eq_1];rw [hd];by_cases hE:apE ks cap l x[i]=0
  ·rw [qwq (by simp [hE])] at hap;have:=ih (i+1) qqq (apL ks l x[i]) false (Yl hn hs hE) (Jl hn hc hE);have hA:QI ks cap l (x[i]::x.drop (i+1)) i (if n+1=0 then fl else false)=QI ks cap (apL ks l x[i]) (x.drop (i+1)) (i+1) (if n=0 then false else false):=by
    have e1:i+(EY ks cap (apL ks l x[i]) (x.drop (i+1))+1)=i+1+EY ks cap (apL ks l x[i]) (x.drop (i+1)):=by omega
    have e2:i+((x.drop (i+1)).length+1)=i+1+(x.drop (i+1)).length:=by omega
    have q:¬ (apE ks cap l x[i]≠0):=by simp [hE]
    have q2:¬ (n+1=0):=by omega
    simp only [QI,jE,EY,allL,qwq q,qwq q2,qaz,e1,e2,ite_self]
   rw [hA,<- this];simp only [BA];simp [aL,aR] at hap;simp (disch:=omega) [hlt,aC,hap,H.inl,ak,H.pp,ppB]
  ·rw [qwz hE] at hap;have hA:QI ks cap l (x[i]::x.drop (i+1)) i (if n+1=0 then fl else false)=.tup [.ro 6 [] true,.int .i64 i,.int .i64 (apE ks cap l x[i])]:=by simp only [QI,jE,EY,qwz hE,qbz]
   rw [hA];have hpos:0 < apE ks cap l x[i]:=aiO ks cap l x[i] hE;generalize apE ks cap l x[i]=E at *;simp only [rfE] at hap;simp [aL,aR] at hap;simp (disch:=omega) [hlt,aC,hap,hE,hpos,H.inl,ak,H.pp,ppB]
theorem adz (H:RD C) (ks:List Kd) (ke:Bool) (cap:Int) (hr:jF ks) (l:List En) (e:Bool) (hs:∀ e ∈ l,dQ e) (hc:ckE ks cap l=0) (x:List Nt) (xe:Bool) (hx:∀ n ∈ x,qg ks n) (hxl:x.length<=1000) :
 FnW C 170 [aR ks ke cap,.ro 6 (l.map eEn) e,.ro 5 (x.map eNt) xe]=some (if 32 < (x.length:Int) then .tup [.ro 6 [] true,.int .i64 0,.int .i64 3] else QI ks cap l x 0 (if x.length=0 then e else false)):=by
 rw [aF H.f170 rfl];by_cases h32:32 < (x.length:Int)
 ·rw [qwz h32];simp (disch:=omega) [aeb,h32,aC,H.inl,ak,H.pp,ppB]
 ·rw [qwq h32];have:=VA H ks ke cap hr x xe hx hxl x.length 0 rfl l e hs hc;simp only [BA] at this;rw [qjq] at this;simp at this;simp (disch:=omega) [aeb,h32,this,aC,H.inl,ak,H.pp,ppB]
structure aj8 (C:aH):Prop extends Uk C,RD C
theorem Lh:∀ (T:List Tg) (L:List En),T.map (·.i)=L.map (·.i)->gU (T.map (·.b)) L=(T.filter (·.b)).map (·.i)
 | [],[],_=>rfl
 | [],_::_,h=>by simp at h
 | _::_,[],h=>by simp at h
 | t::T,e::L,h=>by
  simp only [qvz,q3x] at h;rw [qvz,gU,Lh T L h.2,q2q];cases t.b
  ·rfl
  ·simp [h.1]
theorem JV:∀ (fr:List Bool) (L:List En),(gU fr (L.map En.own)).map It.own=(gU fr L).map It.own
 | [],_=>rfl
 | _::_,[]=>rfl
 | b::fr,e::L=>by
  rw [qvz,gU,gU];cases b
  ·exact JV fr L
  ·simp only [qQx,qvz,JV fr L];rfl
theorem aex {l:List En} {n:Nt} (h:Ins l n) (hl:l.length<=1024):0<=Sv n/\Sv n<=100000:=by
 unfold Sv;split
 ·rename_i q;have:=h.a qqq;omega
 ·omega
theorem ac3 {n:Nt} (h:n.x.length<=10000):0<=Tc n/\Tc n<=100000:=by unfold Tc;split <;> omega
def eF (l:List En):List Tg:=l.zipIdx.map λp=>⟨p.2,false,p.1.i⟩
theorem DX (l:List En):(eF l).map (·.i)=l.map (·.i):=by
 unfold eF;rw [qVz];have:∀ (l:List En) (k:Nat),(l.zipIdx k).map ((λt:Tg=>t.i) ∘ λp:En × Nat=>⟨p.2,false,p.1.i⟩)=l.map (·.i):=by
  intro l;induction l with
  | nil=>intro k;rfl
  | cons a r ih=>intro k;simp only [List.zipIdx_cons,qvz,ih];rfl
 exact this l 0
theorem acB (l:List En):(eF l).map (·.b)=List.replicate l.length false:=by unfold eF;rw [qVz];refine List.eq_replicate_iff.2 ⟨by simp,λb hb=>?_⟩;obtain ⟨p,_,rfl⟩:=qyq.1 hb;rfl
theorem Nq (l:List En):(eF l).map (·.f)=idx l.length:=by
 unfold eF idx;refine qfq λj=>?_;rw [qVz,qWx,qWx,List.getElem?_zipIdx];by_cases h:j < l.length
 ·rw [qqj h,qrx h];simp
 ·rw [qij qqq,qij qqx];rfl
end Go.D
end
section
namespace Go.D
open Go Go.Pav Go.Pw P
set_option maxHeartbeats 2000000
attribute [-simp] List.getElem_cons_drop
variable {C:aH}
structure zx (h:aG) (lo hi:Nat) (cs:List (List AV)) (l:List It):Prop where
 len:cs.length=l.length
 row:∀ (i:Nat) (x:It),l[i]?=some x->∃ v,cs[i]?=some [.int .u64 x.k,.int .u8 x.t,.str x.x,v]/\MkO h lo hi v x.m
theorem zx.mono {h h':aG} {lo lo' hi hi':Nat} {cs:List (List AV)} {l:List It} (R:zx h lo hi cs l) (hl:lo'<=lo) (hh:hi<=hi') (hg:∀ b,lo<=b->b < hi->Pav.get h' b=Pav.get h b):zx h' lo' hi' cs l :=⟨R.len,λi x hx=>by obtain ⟨v,h1,h2⟩:=R.row i x hx;exact ⟨v,h1,h2.mono hl hh hg⟩⟩
theorem zx.over {h1 X:aG} {n lo hi:Nat} {cs:List (List AV)} {l:List It} (R:zx h1 lo hi cs l) (hn:n<=lo):zx (over n h1 X) lo hi cs l :=⟨R.len,λi x hx=>by obtain ⟨v,h1,h2⟩:=R.row i x hx;exact ⟨v,h1,h2.over hn⟩⟩
theorem zx.snoc {h:aG} {lo hi:Nat} {cs:List (List AV)} {l:List It} (R:zx h lo hi cs l) (x:It) (v:AV) (hv:MkO h lo hi v x.m):zx h lo hi (cs++[[.int .u64 x.k,.int .u8 x.t,.str x.x,v]]) (l++[x]):=by
 refine ⟨by simp [R.len],λi y hy=>?_⟩;have hi':i < (l++[x]).length:=(qxz.1 hy).1;simp at hi';by_cases c:i=l.length
 ·subst c;simp at hy;subst hy;exact ⟨v,by rw [<- R.len];simp,hv⟩
 ·have hil:i < l.length:=by omega
  rw [qYz hil] at hy;obtain ⟨v',k1,k2⟩:=R.row i y hy;exact ⟨v',by rw [qYz (by rw [R.len];exact hil)];exact k1,k2⟩
theorem adL (H:L8 C) (x:List It) (hl:x.length<=1000000) (hm:∀ y ∈ x,y.m.length<=1000000) (bs rb:Nat):∀ m i,m+i=x.length->∀ (cs:List (List AV)) (dt:Bool) (h:aG) (next:Nat),rb < next->zx h (rb+1) next cs (x.take i)->(dt=true->∀ y ∈ x.take i,y.m=[]) ->
 Pav.get h rb=some (.cells 4 (cs++(x.map cIt).drop i) true dt) ->
 ∃ cs' dt' h' next',zx h' (rb+1) next' cs' x/\Pav.get h' rb=some (.cells 4 cs' true dt')/\(dt'=true->∀ y ∈ x,y.m=[])/\next<=next' /\
 CK C bs (fQ [.tmp 2]) [.sq CP,.bk 0 ⟨true,[3],[(9999,65537)]⟩,.sq sK] lI
  ⟨[(9,.int .i64 i),(8,.int .i64 x.length),(3,.sl rb 4 0 x.length x.length true)],h,next⟩=some (.sl rb 4 0 x.length x.length true,h',next'):=by
 intro m;induction m with
 | zero =>
  intro i hi cs dt h next hlt R hd g
  have c1:¬ i < x.length:=by omega
  have e1:x.take i=x:=qzz qqq;have e2:(x.map cIt).drop i=[]:=qwj qqx;rw [e1] at R hd;simp only [e2,qXz] at g;refine ⟨cs,dt,h,next+3,R.mono (qxq _) qqq (λb k1 k2=>rfl),g,hd,by omega,?_⟩;rw [aj lI.eq_1];simp (disch:=omega) [aj sK.eq_1,c1,g]
 | succ m ih =>
  intro i hi cs dt h next hlt R hd g
  have c1:i < x.length:=by omega
  obtain ⟨v,q1,n1,r1,r2,r6⟩:=abR H x[i].m x[i].e (hm _ (qxx c1)) (next+10+1);have hcl:cs.length=i:=by rw [R.len];simp;omega
  have htk:x.take (i+1)=x.take i++[x[i]]:=qJq c1;have hdr:(x.map cIt).drop i=cIt x[i]::(x.map cIt).drop (i+1):=by rw [qbq (by simpa using c1)];simp
  rw [hdr] at g;have hci:(cs++cIt x[i]::(x.map cIt).drop (i+1))[i]?=some (cIt x[i]):=kF hcl;have hcs:∀ v,(cs++cIt x[i]::(x.map cIt).drop (i+1)).set i v=cs++v::(x.map cIt).drop (i+1):=λv=>kH hcl;have key:∀ dt3 nn,n1<=nn->(dt3=true->dt=true/\x[i].m=[])->∃ cs' dt' h' next',zx h' (rb+1) next' cs' x/\Pav.get h' rb=some (.cells 4 cs' true dt')/\(dt'=true->∀ y ∈ x,y.m=[])/\next<=next' /\
   CK C bs (fQ [.tmp 2]) [.sq CP,.bk 0 ⟨true,[3],[(9999,65537)]⟩,.sq sK] lI
    ⟨[(9,.int .i64 (i+1:Nat)),(8,.int .i64 x.length),(3,.sl rb 4 0 x.length x.length true)],put (over (next+10+1) q1 h) rb (.cells 4 (cs++[.int .u64 x[i].k,.int .u8 x[i].t,.str x[i].x,v]::(x.map cIt).drop (i+1)) true dt3),nn⟩=some (.sl rb 4 0 x.length x.length true,h',next'):=by
   intro dt3 nn hn hd3;obtain ⟨cs',dt',h',n',k1,k2,k5,k3,k4⟩:=ih (i+1) qqq (cs++[[.int .u64 x[i].k,.int .u8 x[i].t,.str x[i].x,v]]) dt3 (put (over (next+10+1) q1 h) rb (.cells 4 (cs++[.int .u64 x[i].k,.int .u8 x[i].t,.str x[i].x,v]::(x.map cIt).drop (i+1)) true dt3)) nn qqq
    (by
     rw [htk];refine (R.mono (qxq _) qqq (λc q1 q2=>?_)).snoc x[i] v ?_
     ·simp (disch:=omega) only [aI,dL]
     ·exact (r6.over (qxq _)).mono qqq qqq (λc q1 q2=>by rw [aI qqq]))
    (λq=>by
     rw [htk];intro w hw;rcases qjj.1 hw with hw | hw
     ·exact hd (hd3 q).1 w hw
     ·rw [qVx] at hw;subst hw;exact (hd3 q).2)
    (by rw [aN,qQj];rfl)
   exact ⟨cs',dt',h',n',k1,k2,k5,by omega,k4⟩
  simp only [cIt] at hci;rcases r6 with ⟨q6,rfl⟩ | ⟨_,b2,rfl,_⟩
  ·obtain ⟨cs',dt',h',n',k1,k2,k5,k3,k4⟩:=key dt (n1+5) qqq (λw=>⟨w,q6⟩);refine ⟨cs',dt',h',n',k1,k2,k5,k3,?_⟩;rw [<- k4,aj lI.eq_1];simp (disch:=omega) [c1,r1,g,aN,aI,aC,H.inl,ak,H.pp,ppB,dL,uU,nV,ltF,gtF,hci,hcs,Vb]
  ·obtain ⟨cs',dt',h',n',k1,k2,k5,k3,k4⟩:=key false (n1+5) qqq (λw=>by cases w);refine ⟨cs',dt',h',n',k1,k2,k5,k3,?_⟩;rw [<- k4,aj lI.eq_1];simp (disch:=omega) [c1,r1,g,aN,aI,aC,H.inl,ak,H.pp,ppB,dL,uU,nV,ltF,gtF,hci,hcs,Vb]
def tN (h:aG) (lo hi:Nat) (v:AV) (l:List It):Prop :=(l=[]/\v=.ro 4 [] true)\/(l≠[]/\∃ rb cs dt,v=.sl rb 4 0 l.length l.length true/\lo<=rb/\rb < hi/\Pav.get h rb=some (.cells 4 cs true dt)/\zx h (rb+1) hi cs l/\(dt=true->∀ x ∈ l,x.m=[]))
theorem tN.mono {h h':aG} {lo lo' hi hi':Nat} {v:AV} {l:List It} (R:tN h lo hi v l) (hl:lo'<=lo) (hh:hi<=hi') (hg:∀ b,lo<=b->b < hi->Pav.get h' b=Pav.get h b):tN h' lo' hi' v l:=by
 rcases R with q | ⟨q,rb,cs,dt,h1,h2,h3,h4,h5,h6⟩
 ·exact .inl q
 ·exact .inr ⟨q,rb,cs,dt,h1,by omega,by omega,by rw [hg rb h2 h3];exact h4,h5.mono (qxq _) hh (λb k1 k2=>hg b qqq k2),h6⟩
theorem tN.over {h1 X:aG} {n lo hi:Nat} {v:AV} {l:List It} (R:tN h1 lo hi v l) (hn:n<=lo):tN (over n h1 X) lo hi v l:=by
 rcases R with q | ⟨q,rb,cs,dt,k1,k2,k3,k4,k5,k6⟩
 ·exact .inl q
 ·exact .inr ⟨q,rb,cs,dt,k1,k2,k3,uU qqq k4,k5.over qqq,k6⟩
theorem abb (H:L8 C) (x:List It) (e:Bool) (hl:x.length<=1000000) (hm:∀ y ∈ x,y.m.length<=1000000) (nx:Nat):∃ v h1 n1,RnW C 5044 [.ro 4 (x.map cIt) e] [] nx=some (v,h1,n1)/\nx<=n1/\tN h1 nx n1 v x:=by
 have hg:=λa h n=>iP (args:=[a]) H.aeS rfl h n;obtain ⟨L,hL⟩:∃ L,L=RnW C 5044 [.ro 4 (x.map cIt) e] [] nx:=⟨_,rfl⟩;rw [<- hL];rw [iP (args:=[.ro 4 (x.map cIt) e]) H.acd rfl] at hL;by_cases c:x=[]
 ·subst c;simp (disch:=omega) [KY,aj lI.eq_1,aj sK.eq_1,hg,UW,H.inl,ak,H.pp,ppB,aN,aI,ltF,gtF,nV] at hL;exact ⟨_,_,_,hL,by omega,.inl ⟨rfl,rfl⟩⟩
 ·have h2:x.length * 57<=35184372088832:=by omega
  simp (disch:=omega) [KY,hg,UW,h2,isE,c,H.inl,ak,H.pp,ppB,aC,aN,aI,ltF,gtF,nV] at hL;have hT:List.take x.length (x.map cIt)=x.map cIt:=qzz qqz;rw [hT] at hL;obtain ⟨cs',dt',h',n',k1,k2,k5,k3,k4⟩:=adL H x hl hm nx (nx+9) x.length 0 qqz [] true [(nx+9,.cells 4 (x.map cIt) true true)] (nx+20) qqq ⟨rfl,λi x hx=>by simp at hx⟩ (λ_ x hx=>by simp at hx) qqz;exact ⟨_,_,_,hL.trans k4,by omega,.inr ⟨c,nx+9,cs',dt',rfl,by omega,by omega,k2,k1,k5⟩⟩
end Go.D
end
section
namespace Go.D
open Go Go.Pav Go.Pw P
attribute [-simp] List.getElem_cons_drop
variable {C:aH}
structure acC (C:aH):Prop extends L8 C,Uk C where
 ajP:C.fns.get 5051=some Yu
theorem ZA (H:acC C) (old:Int) (F:List Int) (fe:Bool) (fr:List Bool) (fre:Bool) (L:List En) (le:Bool) (hl:fr.length<=100000) (hL:fr.length<=L.length) (hm:∀ e ∈ L,e.i.m.length<=1000000) :
 ∀ n i,n+i=fr.length->∀ G:List It,G.length<=i->(∀ y ∈ G,y.m.length<=1000000) ->
 ∃ v h1 n1,CK C 42 (fQ [.cell 6 4 true]) [.sq CB,.bk 0 ⟨true,[7,6,3,1],[]⟩,.sq wu] oV ⟨[(12,.int .i64 i),(11,.int .i64 fr.length),(10,.ro 1 (fr.map eB) fre),(7,.sl 42 4 0 G.length G.length false),(6,.ptr 43 0 0),(3,.ptr 44 0 0),(2,.ro 6 (L.map eEn) le),(1,.ro 1 (fr.map eB) fre)],
  [(42,.cells 4 (G.map cIt) true true),(43,.cells 4 [[.int .i64 0,.ro 1 [] true,.ro 1 [] true,.ro 4 [] true]] true true),(44,.cells 2 [[.int .i64 old,.ro 1 (F.map eI) fe]] true true)],45⟩ =
  some (.agg [.int .i64 old,.ro 1 (F.map eI) fe,.ro 1 (fr.map eB) true,v],h1,n1)/\52<=n1/\tN h1 52 n1 v (G++gU (fr.drop i) (L.drop i)):=by
 intro n;induction n with
 | zero =>
  intro i hi G hG hg;have h1:fr.drop i=[]:=qwj qqq;have h3:¬ i < fr.length:=by omega
  have hb:=ZV H.toUk fr fre qqq;obtain ⟨v,q1,n1,r1,r2,r3⟩:=abb H.toL8 G false qqq hg 52;have hT:List.take G.length (List.map cIt G)=List.map cIt G:=qzz qqz;obtain ⟨Q,hL⟩:∃ X,X=CK C 42 (fQ [.cell 6 4 true]) [.sq CB,.bk 0 ⟨true,[7,6,3,1],[]⟩,.sq wu] oV ⟨[(12,.int .i64 i),(11,.int .i64 fr.length),(10,.ro 1 (fr.map eB) fre),(7,.sl 42 4 0 G.length G.length false),(6,.ptr 43 0 0),(3,.ptr 44 0 0),(2,.ro 6 (L.map eEn) le),(1,.ro 1 (fr.map eB) fre)], [(42,.cells 4 (G.map cIt) true true),(43,.cells 4 [[.int .i64 0,.ro 1 [] true,.ro 1 [] true,.ro 4 [] true]] true true),(44,.cells 2 [[.int .i64 old,.ro 1 (F.map eI) fe]] true true)],45⟩:=⟨_,rfl⟩;rw [<- hL];rw [aj oV.eq_1] at hL;rw [h1];have e0:G++gU [] (List.drop i L)=G:=by simp [gU]
  rw [e0];have r4:=r3;have key:∀ X O N,Q=some (.agg [.int .i64 old,.ro 1 (F.map eI) fe,.ro 1 (fr.map eB) true,v],put (over 52 q1 X) 43 O,N)->n1<=N->∃ v h1 n1,Q=some (.agg [.int .i64 old,.ro 1 (F.map eI) fe,.ro 1 (fr.map eB) true,v],h1,n1)/\52<=n1/\tN h1 52 n1 v G:=λX O N h hN =>⟨_,_,_,h,by omega,(r4.over (qxq _)).mono (qxq _) hN λb k1 k2=>aI qqq⟩;by_cases hne:G=[]
  ·subst hne;rcases r3 with ⟨_,rfl⟩ | ⟨q0,_⟩
   ·simp at r1;simp (disch:=omega) [aj wu.eq_1,h1,h3,hb,r1,gU,H.inl,ak,H.pp,ppB,dL,aN,aI,nV,ltF,gtF] at hL;exact key _ _ _ hL (qxq _)
   ·exact absurd rfl q0
  ·rcases r3 with ⟨q0,_⟩ | ⟨q0,rb,cs,dt,rfl,p1,p2,p3,_,_⟩
   ·exact absurd q0 hne
   ·simp (disch:=omega) [aj wu.eq_1,h1,h3,hb,r1,hT,gU,H.inl,ak,H.pp,ppB,dL,aN,aI,nV,ltF,gtF] at hL;exact key _ _ _ hL (qxq _)
 | succ n ih =>
  intro i hi G hG hg;have h1:i < fr.length:=by omega
  have h2:i < L.length:=by omega
  rw [drop_cons h1,drop_cons h2,gU];by_cases hb:fr[i]=true
  ·obtain ⟨v,q,n1,r1,r2,r3⟩:=ih (i+1) qqq (G++[L[i].i]) qqx (by
    intro y hy;rcases qjj.1 hy with hy | hy
    ·exact hg y hy
    ·simp only [qVx] at hy;subst hy;exact hm _ (qxx h2))
   have hcap:(G.length+1) * 57<=35184372088832:=by omega
   rw [qwz hb];refine ⟨v,q,n1,?_,r2,by rw [qQj] at r3;exact r3⟩;rw [<- r1,aj oV.eq_1];simp (disch:=omega) [h1,h2,hb,hcap,aC,H.inl,ak,H.pp,ppB]
  ·obtain ⟨v,q,n1,r1,r2,r3⟩:=ih (i+1) qqq G qqq hg;rw [qwq hb];refine ⟨v,q,n1,?_,r2,r3⟩;rw [<- r1,aj oV.eq_1];simp (disch:=omega) [h1,h2,hb,aC,H.inl,ak,H.pp,ppB]
theorem afx (H:acC C) (old:Int) (F:List Int) (fe:Bool) (fr:List Bool) (fre:Bool) (L:List En) (le:Bool) (hl:fr.length<=100000) (hL:fr.length<=L.length) (hm:∀ e ∈ L,e.i.m.length<=1000000) :
 ∃ v h1 n1,RnW C 5051 [Rm.eM old F fe,.ro 1 (fr.map eB) fre,.ro 6 (L.map eEn) le] [] 42=some (.agg [.int .i64 old,.ro 1 (F.map eI) fe,.ro 1 (fr.map eB) true,v],h1,n1)/\52<=n1/\tN h1 52 n1 v (gU fr L):=by
 obtain ⟨v,q,n1,r1,r2,r3⟩:=ZA H old F fe fr fre L le hl hL hm fr.length 0 qqz [] qqz qqz;refine ⟨v,q,n1,?_,r2,by simpa using r3⟩;rw [iP (args:=[Rm.eM old F fe,.ro 1 (fr.map eB) fre,.ro 6 (L.map eEn) le]) H.ajP rfl,<- r1];simp (disch:=omega) [Yu,H.inl,ak,H.pp,ppB]
structure Yh (C:aH):Prop extends acC C,aj8 C where
 ajN:C.fns.get 5052=some Hw
noncomputable abbrev K51 (C:aH) (s:WSt):Option (AV × aG × Nat):=CK C 33 (fQ [.cell 6 4 true,.tmp 7,.tmp 8]) [.sq Jg,.bk 2 ⟨true,[46,45,44,17,15,10,9,7,6],[]⟩,.sq JE,.bk 1 ⟨true,[46,45,44,12,10,9,7,6],[]⟩,.sq IB,.sq AP,.bk 0 ⟨true,[12,10,9,7,6],[]⟩,.sq BM] wE s
noncomputable abbrev K50 (C:aH) (s:WSt):Option (AV × aG × Nat):=CK C 33 (fQ [.cell 6 4 true,.tmp 7,.tmp 8]) [.sq AP,.bk 0 ⟨true,[12,10,9,7,6],[]⟩,.sq BM] wI s
abbrev Jc (x:List Nt) (xe:Bool) (j:Nat) (fr:List Bool) (old:Int) (F:List Int) (A:List En) (at_:Int):WSt :=
 ⟨[(46,.int .i64 j),(45,.int .i64 x.length),(44,.ro 5 (x.map eNt) xe),(12,.sl 33 1 0 fr.length fr.length true),(10,.ptr 34 0 0),(9,.ptr 35 0 0),(7,.int .i64 at_),(6,.ptr 36 0 0)],
  [(33,.cells 1 (fr.map eB) true true),(34,.cells 2 [[.int .i64 old,.ro 1 (F.map eI) true]] true true),(35,.cells 1 [[.ro 6 (A.map eEn) true]] true true),(36,.cells 4 [[.int .i64 0,.ro 1 [] true,.ro 1 [] true,.ro 4 [] true]] true true)],37⟩
theorem alR (H:Yh C) (x:List Nt) (xe:Bool) (hxl:x.length<=1000) (j:Nat) (hj:j < x.length) (fr:List Bool) (hfr:fr.length<=2000) (old:Int) (F:List Int) (A:List En) (at_:Int) (m:Int) (X:List Int) (hX:X.length<=4000) (hr:∀ k ∈ X,-1<=k/\k < fr.length)
 (a c:Int) (ha:0<=a/\a<=100000) (hc:0<=c/\c<=100000) (F2:List Int) (hcomp:FnW C 52 [Rm.eM old F true,Rm.eM m X true]=some (.tup [Rm.eM old F2 true,.int .i64 0])) (R:AV × aG × Nat)
 (hnext:K50 C (Jc x xe (j+1) (nw fr a c 0 X) old F2 A at_)=some R):∀ n i,n+i=X.length->∀ G:List Bool,G++nw fr a c i (X.drop i)=nw fr a c 0 X->G.length=i ->
 K51 C ⟨[(64,.int .i64 i),(63,.int .i64 X.length),(62,.ro 1 (X.map eI) true),(46,.int .i64 j),(45,.int .i64 x.length),(44,.ro 5 (x.map eNt) xe),(17,.sl 33 1 0 X.length X.length true),(16,AY a c),(15,.ptr 34 0 0),(12,.sl 35 1 0 fr.length fr.length true),(10,.ptr 36 0 0),(9,.ptr 37 0 0),(7,.int .i64 at_),(6,.ptr 38 0 0)],
  [(33,.cells 1 (G.map eB++List.replicate n [.bool false]) true true),(34,.cells 2 [[.int .i64 m,.ro 1 (X.map eI) true]] true true),(35,.cells 1 (fr.map eB) true true),(36,.cells 2 [[.int .i64 old,.ro 1 (F.map eI) true]] true true),(37,.cells 1 [[.ro 6 (A.map eEn) true]] true true),(38,.cells 4 [[.int .i64 0,.ro 1 [] true,.ro 1 [] true,.ro 4 [] true]] true true)],39⟩=some R:=by
 intro n;induction n with
 | zero =>
  intro i hi G hG hg;have h1:X.drop i=[]:=qwj qqq;have h3:i=X.length:=by omega
  rw [h1,nw,qXz] at hG;have hL:(nw fr a c 0 X).length=X.length:=ads ..;simp only [K50,Jc] at hnext;rw [hL] at hnext;simp only [K51];rw [aj wE.eq_1];subst hG;simp at hnext;simp (disch:=omega) [aj JE.eq_1,aj IB.eq_1,h3,hcomp,AY,hnext,aC,H.inl,ak,H.pp,ppB]
 | succ n ih =>
  intro i hi G hG hg;have h1:i < X.length:=by omega
  have hk:=hr X[i] (qxx h1);rw [drop_cons h1,nw] at hG;have hco:=aiv H.toaj8.toUk.toYK a c i qqq qqq;simp only [K51];rw [aj wE.eq_1];by_cases hneg:X[i] < 0
  ·have hd:decide (X[i] < 0)=true:=by simpa using hneg
   rw [hd,qfx,qfx] at hG;have:=ih (i+1) qqq (G++[true]) (by rw [qQj];exact hG) (by simp [hg]);simp only [K51] at this;simp [AY] at this;simp (disch:=omega) [h1,hneg,aC,AY,pq,o7,hg,this,H.inl,ak,H.pp,ppB]
  ·have hd:decide (X[i] < 0)=false:=by simpa using hneg
   obtain ⟨q,hq⟩:∃ q:Nat,X[i]=q:=⟨X[i].toNat,by omega⟩;have hql:q < fr.length:=by omega
   have hqe:fr[X[i].toNat]?.getD false=fr[q]:=by rw [hq,qWj,qqj hql];rfl
   rw [hd,qdx,hqe] at hG;by_cases hf:fr[q]=true
   ·rw [hf,qfx] at hG;have:=ih (i+1) qqq (G++[true]) (by rw [qQj];exact hG) (by simp [hg]);simp only [K51] at this;simp [AY] at this;simp (disch:=omega) [h1,hq,hql,hf,aC,AY,pq,o7,hg,this,H.inl,ak,H.pp,ppB]
   ·have hf':fr[q]=false:=by simpa using hf
    rw [hf',qdx] at hG;generalize hb:(decide (a<=(i:Int))&&decide ((i:Int) < a+c))=b at hG hco;have:=ih (i+1) qqq (G++[b]) (by rw [qQj];exact hG) (by simp [hg]);simp only [K51] at this;simp [AY] at this;simp (disch:=omega) [h1,hq,hql,hf',aC,AY,hco,pq,o7,hg,this,H.inl,ak,H.pp,ppB]
theorem ab7 (H:Yh C) (ks:List Kd) (cap:Int) (x:List Nt) (xe:Bool) (hx:∀ n ∈ x,qg ks n) (hxl:x.length<=1000) (old:Nat) (hold:old<=1024) (A:List En) (hA:∀ e ∈ A,dQ e):∀ n j,n+j=x.length->∀ (l:List En) (T:List Tg),
 ckE ks cap l=0->jE ks cap l (x.drop j)=0->T.map (·.i)=l.map (·.i)->Vdm old (T.map (·.f))->(allL ks l (x.drop j)).map En.own=A ->
 ∃ v h1 n1,K50 C (Jc x xe j (T.map (·.b)) old (T.map (·.f)) A x.length)=some (.tup [.agg [.int .i64 old,.ro 1 (((allT T (x.drop j)).map (·.f)).map eI) true,.ro 1 (((allT T (x.drop j)).map (·.b)).map eB) true,v],.int .i64 x.length,.int .i64 0],h1,n1)/\42<=n1/\tN h1 42 n1 v (gU ((allT T (x.drop j)).map (·.b)) A):=by
 intro n;induction n with
 | zero =>
  intro j hj l T hc hE hT hv hAl;have h1:x.drop j=[]:=qwj qqq;have h2:j=x.length:=by omega
  subst h2;rw [h1,allL] at hAl;rw [h1,allT];have hll:=rO hc;have hTl:T.length=l.length:=by simpa using congrArg List.length hT
  have hAlen:A.length=l.length:=by rw [<- hAl,qQq]
  obtain ⟨v,q1,n1,r1,r2,r3⟩:=afx H.toacC old (T.map (·.f)) true (T.map (·.b)) true A true (by rw [qQq];omega) (by rw [qQq];omega) (λe he=>(hA e he).i.m);have hT2:List.take T.length (List.map eB (T.map (·.b)))=List.map eB (T.map (·.b)):=qzz qqz;obtain ⟨Q,hL⟩:∃ X,X=K50 C (Jc x xe x.length (T.map (·.b)) old (T.map (·.f)) A x.length):=⟨_,rfl⟩;rw [<- hL];simp only [K50,Jc,qQq] at hL;rw [aj wI.eq_1] at hL;simp only [Rm.eM,L1,qVz] at r1 hT2 |-;have r4:=r3;have key:∀ X O N,Q=some (.tup [.agg [.int .i64 old,.ro 1 (T.map (eI ∘ λx=>x.f)) true,.ro 1 (T.map (eB ∘ λx=>x.b)) true,v],.int .i64 x.length,.int .i64 0],put (over 42 q1 X) 36 O,N)->n1<=N->∃ v h1 n1,Q=some (.tup [.agg [.int .i64 old,.ro 1 (T.map (eI ∘ λx=>x.f)) true,.ro 1 (T.map (eB ∘ λx=>x.b)) true,v],.int .i64 x.length,.int .i64 0],h1,n1)/\42<=n1/\tN h1 42 n1 v (gU (T.map (·.b)) A):=λX O N h hN =>⟨_,_,_,h,by omega,((r4.mono (lo':=42) qqq (qxq _) (λ_ _ _=>rfl)).over (qxq _)).mono (qxq _) hN λb k1 k2=>aI qqq⟩;rcases r3 with ⟨q0,rfl⟩ | ⟨q0,rb,cs,dt,rfl,p1,p2,p3,_,_⟩;all_goals
   simp (disch:=omega) [aj BM.eq_1,r1,hT2,aC,H.inl,ak,H.pp,ppB,dL,aN,aI,nV,ltF,gtF] at hL;exact key _ _ _ hL qqq
 | succ n ih =>
  intro j hj l T hc hE hT hv hAl;have hlt:j < x.length:=by omega
  have hd:x.drop j=x[j]::x.drop (j+1):=qbq hlt;have hn:=hx x[j] (qxx hlt);have hll:=rO hc;have hTl:T.length=l.length:=by simpa using congrArg List.length hT
  rw [hd] at hE hAl |-;rw [jE] at hE;rw [allL] at hAl;rw [allT];split at hE
  ·rename_i q;exact absurd hE q
  rename_i q;have hap:apE ks cap l x[j]=0:=by simpa using q
  have hins:=zC hap;have hone:=ahF H.toaj8.toUk.toYK l x[j] hins hll hn.l;have hc2:=Jl hn hc hap;have hll2:=rO hc2;have hfl:=afO (ks:=ks) (T:=T) hins hT;have hol:=ahc hins hTl;have hvd1:=agJ hins;have hvd2:=YW hins hTl qqq hv;have hf1:=ajt hins hTl;have hb1:=anz hins hTl;rw [hTl] at hf1 hb1;have hcomp:=Rm.JW H.toaj8.toUk.toYK.toHas old (T.map (·.f)) true l.length (D8 x[j] l.length) true;rw [OO hv qqq qqq (by rw [qQq];omega),OO hvd1 qqq qqq qqq,qwq qqz,qwq qqz,qwq (by rw [qQq,hTl];simp),amG,hf1] at hcomp;obtain ⟨v,q1,n1,hnext,hn1,hn2⟩:=ih (j+1) qqq (apL ks l x[j]) (kX T x[j]) hc2 hE (LM hins hT) hvd2 hAl;refine ⟨v,q1,n1,?_,hn1,hn2⟩;rw [<- hb1] at hnext;have hin:=alR H x xe hxl j hlt (T.map (·.b)) (by rw [qQq];omega) old (T.map (·.f)) A x.length l.length (D8 x[j] l.length) qqq (λk hk=>by rw [qQq,hTl];exact hvd1.1 k hk) (Sv x[j]) (Tc x[j]) (aex hins hll) (ac3 hn.l) ((kX T x[j]).map (·.f)) hcomp _ hnext (D8 x[j] l.length).length 0 rfl [] qqz rfl;have hmk:(D8 x[j] l.length).length * 2<=35184372088832:=by omega
  simp only [K50,Jc,qQq];rw [aj wI.eq_1];simp only [K51,qQq,hTl] at hin;rw [hTl];unfold AY at hin hone;simp only [eNt] at hone;simp at hin;simp (disch:=omega) [hlt,hone,hmk,aC,H.inl,ak,H.pp,ppB];exact hin
def Of5 (ks:List Kd) (cap:Int) (l:List En) (x:List Nt) (o:Option (AV × aG × Nat)):Prop :=
 if ckE ks cap l≠0 then ∃ h1 n1,o=some (.tup [.agg (Iw 0 [] true [] true [] true),.int .i64 0,.int .i64 (ckE ks cap l)],h1,n1)/\33<=n1
 else if 32 < (x.length:Int) then ∃ h1 n1,o=some (.tup [.agg (Iw 0 [] true [] true [] true),.int .i64 0,.int .i64 3],h1,n1)/\33<=n1
 else if jE ks cap l x≠0 then ∃ h1 n1,o=some (.tup [.agg (Iw 0 [] true [] true [] true),.int .i64 (EY ks cap l x),.int .i64 (jE ks cap l x)],h1,n1)/\33<=n1
 else ∃ v h1 n1,o=some (.tup [.agg [.int .i64 l.length,.ro 1 (((allT (eF l) x).map (·.f)).map eI) true,.ro 1 (((allT (eF l) x).map (·.b)).map eB) true,v],.int .i64 x.length,.int .i64 0],h1,n1)/\42<=n1 /\
  tN h1 42 n1 v (gU ((allT (eF l) x).map (·.b)) ((allL ks l x).map En.own))
theorem amD (H:Yh C) (ks:List Kd) (ke:Bool) (cap:Int) (hr:jF ks) (l:List En) (e:Bool) (hl:l.length<=10000) (hs:∀ e ∈ l,dQ e) (x:List Nt) (xe:Bool) (hx:∀ n ∈ x,qg ks n) (hxl:x.length<=1000) :
 Of5 ks cap l x (RnW C 5052 [aR ks ke cap,aL l e,.ro 5 (x.map eNt) xe] [] 33):=by
 have hall:=ah9 H.toaj8.toRD ks ke cap hr l e hl hs x xe hx hxl;unfold acU allA at hall;rw [iP (args:=[aR ks ke cap,aL l e,.ro 5 (x.map eNt) xe]) H.ajN rfl];unfold Of5;have bad:∀ (a E:Int),E≠0->FnW C 171 [aR ks ke cap,aL l e,.ro 5 (x.map eNt) xe]=some (.tup [.agg [.ro 6 [] true],.int .i64 a,.int .i64 E]) ->
  ∃ h1 n1,CK C 33 (fQ Hw.res) [] Hw.body ⟨Ia 0 [aR ks ke cap,aL l e,.ro 5 (x.map eNt) xe] [],[],33⟩=some (.tup [.agg (Iw 0 [] true [] true [] true),.int .i64 a,.int .i64 E],h1,n1)/\33<=n1:=by
  intro a E hE h;simp (disch:=omega) [Hw,h,hE,aC,H.inl,ak,H.pp,ppB];exact ⟨_,_,⟨rfl,rfl⟩,by omega⟩
 by_cases hc:ckE ks cap l=0
 ·rw [qwq (by simp [hc])] at hall |-;by_cases h32:32 < (x.length:Int)
  ·rw [qwz h32] at hall |-;exact bad _ _ qqz hall
  ·rw [qwq h32] at hall |-;by_cases hE:jE ks cap l x=0
   ·rw [qwq (by simp [hE])] at hall |-;have hll:=rO hc;have hrs:=Rm.Yg H.toaj8.toUk.toYK.toHas l.length;rw [qwq qqq,Rt] at hrs;obtain ⟨v,q1,n1,hloop,r2,r3⟩:=ab7 H ks cap x xe hx hxl l.length hll ((allL ks l x).map En.own) (λe he=>by obtain ⟨e',he',rfl⟩:=qyq.1 he;exact (all_in x l hx hs hE e' he').ow) x.length 0 rfl l (eF l) hc (by rw [qjq];exact hE) (DX l) (by rw [Nq];exact O7 _) (by rw [qjq]);rw [qjq] at r3;refine ⟨v,q1,n1,?_,r2,r3⟩;rw [Nq,acB,qjq] at hloop;have hmk:l.length * 2<=35184372088832:=by omega
    simp only [K50,Jc,quz,q6x,List.map_replicate] at hloop;simp [Rm.eM,L1] at hrs;simp at hall;simp at hloop;simp (disch:=omega) [Hw,hall,hrs,hmk,hloop,aC,H.inl,ak,H.pp,ppB]
   ·rw [qwz hE] at hall |-;rw [qVq] at hall;exact bad _ _ hE hall
 ·rw [qwz hc] at hall |-;exact bad _ _ hc hall
def lW (h:aG) (lo hi:Nat) (v:AV) (l:List En):Prop :=(l=[]/\v=.ro 6 [] true)\/(l≠[]/\∃ rb cs dt,v=.sl rb 6 0 l.length l.length true/\lo<=rb/\rb < hi/\Pav.get h rb=some (.cells 6 cs true dt)/\Fa h lo hi cs l/\(dt=true->∀ x ∈ l,x.i.m=[]))
theorem lW.mono {h h':aG} {lo lo' hi hi':Nat} {v:AV} {l:List En} (R:lW h lo hi v l) (hl:lo'<=lo) (hh:hi<=hi') (hg:∀ b,lo<=b->b < hi->Pav.get h' b=Pav.get h b):lW h' lo' hi' v l:=by
 rcases R with q | ⟨q,rb,cs,dt,h1,h2,h3,h4,h5,h6⟩
 ·exact .inl q
 ·exact .inr ⟨q,rb,cs,dt,h1,by omega,by omega,by rw [hg rb h2 h3];exact h4,h5.mono hl hh (λb k1 k2=>hg b k1 k2),h6⟩
theorem lW.over {h1 X:aG} {n lo hi:Nat} {v:AV} {l:List En} (R:lW h1 lo hi v l) (hn:n<=lo):lW (over n h1 X) lo hi v l:=by
 rcases R with q | ⟨q,rb,cs,dt,k1,k2,k3,k4,k5,k6⟩
 ·exact .inl q
 ·exact .inr ⟨q,rb,cs,dt,k1,k2,k3,uU qqq k4,k5.over hn,k6⟩
theorem lW.frz {h:aG} {lo hi:Nat} {v:AV} {l:List En} (R:lW h lo hi v l) (n:Nat):bK h (n+3) v=some (.ro 6 ((l.map En.own).map eEn) true):=by
 rcases R with ⟨rfl,rfl⟩ | ⟨_,rb,cs,dt,rfl,_,_,g,R,hd⟩
 ·rfl
 ·have h1:cs.take l.length=cs:=qzz (by rw [R.len];exact qxq _);have h2:aZ (aZ (bK h (n+2))) cs=some ((l.map En.own).map eEn):=by
   refine yh _ _ (by simp [R.len]) (λi c y hc hy=>?_);have hil:i < l.length:=by have:=(qxz.1 hc).1;rw [<- R.len];exact this
   obtain ⟨v,k3,k4⟩:=R.row i l[i] (qqj hil);rw [hc] at k3;rw [qyj k3];simp [hil] at hy;rw [<- hy];have k5:=k4.frz n;simp [aZ,k5,En.own,It.own]
  have h3:(((l.map En.own).map eEn).all λe=>e.all isC)=true:=by rw [qjx];intro e he;obtain ⟨x,_,rfl⟩:=qyq.1 he;rfl
  rw [fZ,g];cases dt with
  | false =>simp only [Pw.zn,qjq,h1,h2,ob,h3];simp [og]
  | true =>
   have h4:cs=(l.map En.own).map eEn:=by
    refine q6q (by simp [R.len]) (λi q1 q2=>?_);have hil:i < l.length:=by simpa using q2
    obtain ⟨v,k1,k2⟩:=R.row i l[i] (qqj hil);rw [qqj q1] at k1;have hw:=hd rfl _ (qxx hil);rcases k2 with ⟨_,rfl⟩ | ⟨q,_⟩
    ·rw [qyj k1];simp [hw,En.own,It.own]
    ·exact absurd hw q
   simp only [Pw.zn,qjq,h1];rw [h4];simp [og]
theorem lW.reach {h:aG} {lo hi:Nat} {v:AV} {l:List En} (R:lW h lo hi v l) (n:Nat) :
 kQ h v (aK h (n+2) v)=true/\(∀ b ∈ aK h (n+2) v,lo<=b/\b < hi)/\lW (h.filter λx=>(aK h (n+2) v).contains x.1) lo hi v l:=by
 rcases R with ⟨rfl,rfl⟩ | ⟨q,rb,cs,dt,rfl,h2,h3,g,R,hd⟩
 ·exact ⟨rfl,λb hb=>by simp [aK] at hb,.inl ⟨rfl,rfl⟩⟩
 have h1:cs.take l.length=cs:=qzz (by rw [R.len];exact qxq _);have hrow:∀ c ∈ cs,∃ (i:Nat) (hi':i < l.length) (w:AV),c=[.int .u64 l[i].i.k,.int .u8 l[i].i.t,.str l[i].i.x,w,.int .i64 l[i].s,.bool l[i].kn]/\MkO h lo hi w l[i].i.m:=by
  intro c hc;obtain ⟨i,hi',rfl⟩:=List.mem_iff_getElem.1 hc;have hil:i < l.length:=by rw [<- R.len];exact hi'
  obtain ⟨w,k1,k2⟩:=R.row i l[i] (qqj hil);rw [qqj hi'] at k1;exact ⟨i,hil,w,qyj k1,k2⟩
 have hL:∃ M:List Nat,aK h (n+2) (.sl rb 6 0 l.length l.length true)=rb::M/\(∀ b ∈ M,lo<=b/\b < hi/\∃ m:List Bs,Pav.get h b=some (.cells 1 (m.map eS) true true)) /\
  ∀ c ∈ cs,∀ b z i k k2 e,AV.sl b z i k k2 e ∈ c->b ∈ M:=by
  cases dt with
  | true =>
   refine ⟨[],by simp [aK,g],(λb hb=>by cases hb),λc hc b z i k k2 e hm=>?_⟩;obtain ⟨i',hi',w,rfl,hw⟩:=hrow c hc;have hm0:=hd rfl _ (qxx hi');rcases hw with ⟨_,rfl⟩ | ⟨q2,_⟩
   ·simp at hm
   ·exact absurd hm0 q2
  | false =>
   refine ⟨cs.flatMap λe=>e.flatMap (aK h (n+1)),by simp [aK,g,h1],λb hb=>?_,λc hc b z i k k2 e hm=>?_⟩
   ·obtain ⟨c,hc,hb⟩:=qkx.1 hb;obtain ⟨i',hi',w,rfl,hw⟩:=hrow c hc;rcases hw with ⟨_,rfl⟩ | ⟨q2,b',rfl,w1,w2,w3⟩
    ·simp [aK] at hb
    ·simp [aK,w3] at hb;subst hb;exact ⟨w1,w2,_,w3⟩
   ·exact qkx.2 ⟨c,hc,qkx.2 ⟨_,hm,by simp [aK]⟩⟩
 obtain ⟨M,hM,hMb,hMc⟩:=hL;rw [hM];refine ⟨?_,λb hb=>?_,?_⟩
 ·simp only [kQ,cO,qzq,qjx];refine ⟨by simp,λb hb=>?_⟩;rcases qkq.1 hb with rfl | hb
  ·rw [g];simp only [jd,qYj,qjx];intro c hc;have hcm:=hMc c hc;obtain ⟨i',hi',w,rfl,hw⟩:=hrow c hc;rcases hw with ⟨_,rfl⟩ | ⟨q2,b',rfl,w1,w2,w3⟩
   ·simp [nO,cO]
   ·have:=hcm b' 1 0 l[i'].i.m.length l[i'].i.m.length true qqz;simp [nO,cO,this]
  ·obtain ⟨_,_,m,hm⟩:=hMb b hb;rw [hm];simp only [jd,qYj,qjx];intro c hc;obtain ⟨x,_,rfl⟩:=qyq.1 hc;rfl
 ·rcases qkq.1 hb with rfl | hb
  ·exact ⟨h2,h3⟩
  ·exact ⟨(hMb b hb).1,(hMb b hb).2.1⟩
 ·refine .inr ⟨q,rb,cs,dt,rfl,h2,h3,by rw [get_filter (λx=>(rb::M).contains x)];simpa using g,⟨R.len,λi x hx=>?_⟩,hd⟩;obtain ⟨w,k1,k2⟩:=R.row i x hx;refine ⟨w,k1,?_⟩;rcases k2 with k2 | ⟨q2,b',rfl,w1,w2,w3⟩
  ·exact .inl k2
  ·have:=hMc _ (qzx k1) b' 1 0 x.i.m.length x.i.m.length true qqz;exact .inr ⟨q2,b',rfl,w1,w2,by rw [get_filter (λx=>(rb::M).contains x)];simpa [this] using w3⟩
def kD:List It->List It->Bool
 | [],[]=>true
 | a::r,b::s=>tK a b&&kD r s
 | _,_=>false
theorem Ie:∀ l:List It,kD l l=true
 | []=>rfl
 | a::r=>by rw [kD,Ie r];simp [tK]
theorem KA:∀ l:List It,kD (l.map It.own) l=true
 | []=>rfl
 | a::r=>by rw [qvz,kD,KA r];simp [tK,It.own]
theorem LX:∀ l m:List It,kD l m=true->l.length=m.length
 | [],[],_=>rfl
 | [],_::_,h=>by simp [kD] at h
 | _::_,[],h=>by simp [kD] at h
 | _::r,_::s,h=>by simp only [kD,qzq] at h;simp [LX r s h.2]
structure acW (C:aH):Prop extends jR C where
 aop:C.fns.get 357=some aes
theorem ZP (H:acW C) (x y:List It) (xe ye:Bool) (hl:x.length=y.length) (h1:x.length<=1000000) (hx:∀ i ∈ x,i.m.length<=1000000) (hy:∀ i ∈ y,i.m.length<=1000000):∀ n i,n+i=x.length ->
 G5 C ⟨[(5,.int .i64 i),(1,.ro 4 (y.map cIt) ye),(0,.ro 4 (x.map cIt) xe)],[],0⟩=some (.int .i64 (if kD (x.drop i) (y.drop i)=true then 1 else 0)):=by
 intro n;induction n with
 | zero =>
  intro i hi;have q1:x.drop i=[]:=qwj qqq;have q2:y.drop i=[]:=qwj qqq;have h3:¬ i < x.length:=by omega
  simp only [G5];rw [aj Aw.eq_1];simp [aj Oo.eq_1,q1,q2,h3,kD]
 | succ n ih =>
  intro i hi;have p1:i < x.length:=by omega
  have p2:i < y.length:=by omega
  have h:=LC H.tojR x[i] y[i] (by have:=hx _ (qxx p1);omega) (by have:=hy _ (qxx p2);omega);have:=ih (i+1) qqq;rw [drop_cons p1,drop_cons p2,kD];simp only [G5] at this |-;rw [aj Aw.eq_1];simp at this;generalize tK x[i] y[i]=b at *;cases b
  ·simp (disch:=omega) [p1,p2,h,aC,H.inl,ak,H.pp,ppB]
  ·simp (disch:=omega) [p1,p2,h,aC,H.inl,ak,H.pp,ppB,this]
theorem Y2 (H:acW C) (x y:List It) (xe ye:Bool) (h1:x.length<=1000000) (h2:y.length<=1000000) (hx:∀ i ∈ x,i.m.length<=1000000) (hy:∀ i ∈ y,i.m.length<=1000000) :
 FnW C 357 [.ro 4 (x.map cIt) xe,.ro 4 (y.map cIt) ye]=some (.int .i64 (if kD x y=true then 1 else 0)):=by
 rw [aF H.aop rfl];by_cases hl:x.length=y.length
 ·have:=ZP H x y xe ye hl h1 hx hy x.length 0 rfl;simp only [G5] at this;simp at this;simp (disch:=omega) [aes,hl,this,aC,H.inl,ak,H.pp,ppB]
 ·have:kD x y=false:=by
   cases h:kD x y with
   | false=>rfl
   | true=>exact absurd (LX x y h) hl
  rw [this];simp (disch:=omega) [aes,hl,aC,H.inl,ak,H.pp,ppB]
structure Nn where
 o:Int
 f:List Int
 fe:Bool
 b:List Bool
 be:Bool
 x:List It
 xe:Bool
@[simp] def eNn (n:Nn):List AV:=Iw n.o n.f n.fe n.b n.be n.x n.xe
def LV (a b:Nn):Bool:=decide (a.o=b.o)&&decide (a.f=b.f)&&decide (a.b=b.b)&&kD a.x b.x
structure BH (n:Nn):Prop where
 f:n.f.length<=1000000
 b:n.b.length<=1000000
 x:n.x.length<=1000000
 m:∀ i ∈ n.x,i.m.length<=1000000
structure RJ (C:aH):Prop extends acW C where
 f182:C.fns.get 182=some UE
theorem acV (H:RJ C) (a b:Nn) (ha:BH a) (hb:BH b) (hl:a.b.length=b.b.length):∀ n i,n+i=a.b.length ->
 Hr C ⟨[(6,.int .i64 i),(3,.ptr 0 0 0),(2,.ptr 1 0 0)],[(0,.cells 4 [eNn b] true true),(1,.cells 4 [eNn a] true true)],2⟩=some (.int .i64 (if a.b.drop i=b.b.drop i/\kD a.x b.x=true then 1 else 0)):=by
 intro n;induction n with
 | zero =>
  intro i hi;have q1:a.b.drop i=[]:=qwj qqq;have q2:b.b.drop i=[]:=qwj qqq;have h3:¬ i < a.b.length:=by omega
  have h:=Y2 H.toacW a.x b.x a.xe b.xe ha.x hb.x ha.m hb.m;simp only [Hr];rw [aj Dn.eq_1];generalize kD a.x b.x=c at *;simp [aj Ox.eq_1,q1,q2,h3,h,H.inl,ak,H.pp,ppB]
 | succ n ih =>
  intro i hi;have p1:i < a.b.length:=by omega
  have hq:=ha.b;have p2:i < b.b.length:=by omega
  have:=ih (i+1) qqq;rw [drop_cons p1,drop_cons p2];simp only [Hr] at this |-;rw [aj Dn.eq_1];simp at this;by_cases c:a.b[i]=b.b[i]
  ·simp (disch:=omega) [p1,p2,c,aC,H.inl,ak,H.pp,ppB,this]
  ·simp (disch:=omega) [p1,p2,c,aC,H.inl,ak,H.pp,ppB]
theorem ac7 (H:RJ C) (a b:Nn) (ha:BH a) (hb:BH b) (hl:a.b.length=b.b.length) (hf:a.f.length=b.f.length):∀ n i,n+i=a.f.length ->
 Gi C ⟨[(5,.int .i64 i),(3,.ptr 0 0 0),(2,.ptr 1 0 0)],[(0,.cells 4 [eNn b] true true),(1,.cells 4 [eNn a] true true)],2⟩=some (.int .i64 (if a.f.drop i=b.f.drop i/\a.b=b.b/\kD a.x b.x=true then 1 else 0)):=by
 intro n;induction n with
 | zero =>
  intro i hi;have q1:a.f.drop i=[]:=qwj qqq;have q2:b.f.drop i=[]:=qwj qqq;have h3:¬ i < a.f.length:=by omega
  have h:=acV H a b ha hb hl a.b.length 0 rfl;simp only [Hr,qjq] at h;simp at h;simp only [Gi];rw [aj Dp.eq_1];simp [aj PS.eq_1,q1,q2,h3,h,H.inl,ak,H.pp,ppB]
 | succ n ih =>
  intro i hi;have p1:i < a.f.length:=by omega
  have hq:=ha.f;have p2:i < b.f.length:=by omega
  have:=ih (i+1) qqq;rw [drop_cons p1,drop_cons p2];simp only [Gi] at this |-;rw [aj Dp.eq_1];simp at this;by_cases c:a.f[i]=b.f[i]
  ·simp (disch:=omega) [p1,p2,c,aC,H.inl,ak,H.pp,ppB,this]
  ·simp (disch:=omega) [p1,p2,c,aC,H.inl,ak,H.pp,ppB]
theorem ajA (H:RJ C) (a b:Nn) (ha:BH a) (hb:BH b):FnW C 182 [.agg (eNn a),.agg (eNn b)]=some (.int .i64 (if LV a b=true then 1 else 0)):=by
 rw [aF H.f182 rfl];have e:LV a b=decide (a.o=b.o/\a.f=b.f/\a.b=b.b/\kD a.x b.x=true):=by unfold LV;cases kD a.x b.x <;> simp [Bool.decide_and,Bool.and_assoc]
 rw [e];by_cases c1:a.o=b.o
 ·by_cases c2:a.f.length=b.f.length
  ·by_cases c3:a.b.length=b.b.length
   ·have h:=ac7 H a b ha hb c3 c2 a.f.length 0 rfl;simp only [Gi,qjq] at h;simp at h;simp (disch:=omega) [UE,qZx c1,qZx c2,qZx c3,h,aC,H.inl,ak,H.pp,ppB]
   ·have n1:¬ a.b=b.b:=λq=>c3 (by rw [q]);simp (disch:=omega) [UE,qZx c1,qZx c2,c3,n1,aC,H.inl,ak,H.pp,ppB]
  ·have n1:¬ a.f=b.f:=λq=>c2 (by rw [q]);simp (disch:=omega) [UE,qZx c1,c2,n1,aC,H.inl,ak,H.pp,ppB]
 ·simp (disch:=omega) [UE,c1,aC,H.inl,ak,H.pp,ppB]
def DW:List Bool->List Int->Bool
 | b::r,k::s=>(b||decide (0<=k))&&DW r s
 | _,_=>true
def CZ:List Bool->Nat
 | []=>0
 | b::r=>if b=true then CZ r+1 else CZ r
def Xa (n:Nn):Int:=if Rm.chk n.o n.f≠0 then Rm.chk n.o n.f else if n.b.length≠n.f.length then 1 else if DW n.b n.f=false then 1 else if CZ n.b≠n.x.length then 1 else 0
structure Yn (C:aH):Prop extends Rm.Has C where
 f180:C.fns.get 180=some aar
theorem Ti (H:Yn C) (a:Nn) (ha:BH a) (hl:a.b.length=a.f.length):∀ n i,n+i=a.b.length->∀ c:Nat,c<=i ->
 wS C ⟨[(24,.int .i64 i),(23,.int .i64 a.b.length),(22,.ro 1 (a.b.map eB) a.be),(4,.int .i64 c),(1,.ptr 0 0 0)],[(0,.cells 4 [eNn a] true true)],1⟩ =
  some (.int .i64 (if DW (a.b.drop i) (a.f.drop i)=false then 1 else if c+CZ (a.b.drop i)≠a.x.length then 1 else 0)):=by
 intro n;have hq:=ha.b;induction n with
 | zero =>
  intro i hi c hc;have q1:a.b.drop i=[]:=qwj qqq;have h3:¬ i < a.b.length:=by omega
  simp only [wS];rw [aj Ar.eq_1];by_cases h:c=a.x.length
  ·simp [aj GY.eq_1,q1,h3,DW,CZ,qZx h,H.inl,ak,H.pp,ppB]
  ·simp [aj GY.eq_1,q1,h3,DW,CZ,h,H.inl,ak,H.pp,ppB]
 | succ n ih =>
  intro i hi c hc;have p1:i < a.b.length:=by omega
  have p2:i < a.f.length:=by omega
  rw [drop_cons p1,drop_cons p2,DW,CZ];simp only [wS];rw [aj Ar.eq_1];by_cases hb:a.b[i]=true
  ·have:=ih (i+1) qqq (c+1) qqq;have e:c+(CZ (a.b.drop (i+1))+1)=c+1+CZ (a.b.drop (i+1)):=by omega
   rw [hb,qfx,qYj,qwz rfl,e];simp only [wS] at this;simp at this;simp (disch:=omega) [p1,p2,hb,aC,H.inl,ak,H.pp,ppB,this]
  ·have hb':a.b[i]=false:=by simpa using hb
   rw [hb',qdx,qwq Bool.false_ne_true];by_cases hk:a.f[i] < 0
   ·have hd:decide (0<=a.f[i])=false:=by simpa using hk
    rw [hd,qsz,qwz rfl];simp (disch:=omega) [p1,p2,hb',hk,aC,H.inl,ak,H.pp,ppB]
   ·have hd:decide (0<=a.f[i])=true:=by simpa using hk
    rw [hd,qYj];have:=ih (i+1) qqq c qqq;simp only [wS] at this;simp at this;simp (disch:=omega) [p1,p2,hb',hk,aC,H.inl,ak,H.pp,ppB,this]
theorem Lj (H:Yn C) (a:Nn) (ha:BH a):FnW C 180 [.agg (eNn a)]=some (.int .i64 (Xa a)):=by
 have hc:=Rm.rZ H.toHas a.o a.f a.fe;rw [aF H.f180 rfl];unfold Xa;simp only [Rm.eM,L1] at hc;by_cases c1:Rm.chk a.o a.f=0
 ·rw [qwq (by simp [c1])];rw [c1] at hc;by_cases c2:a.b.length=a.f.length
  ·rw [qwq (by simp [c2])];have h:=Ti H a ha c2 a.b.length 0 rfl 0 qqq;simp only [wS,qjq,qVq] at h;simp at h;simp (disch:=omega) [aar,hc,qZx c2,h,aC,H.inl,ak,H.pp,ppB]
  ·rw [qwz c2];simp (disch:=omega) [aar,hc,c2,aC,H.inl,ak,H.pp,ppB]
 ·rw [qwz c1];generalize Rm.chk a.o a.f=E at *;simp (disch:=omega) [aar,hc,c1,aC,H.inl,ak,H.pp,ppB]
structure aki (C:aH):Prop extends Yn C,zD C
def zE:En:=⟨⟨0,0,[],[],true⟩,0,false⟩
structure ao9 (C:aH):Prop extends Yn C,Uk C
def the (ab:List Bool) (B:List En):List Bool->List Int->List En->List En
 | b::r,k::s,e::x=>(if (!b&&ab[k.toNat]?.getD false)=true then B[k.toNat]?.getD zE else e)::the ab B r s x
 | _,_,_=>[]
theorem Tz:∀ (b:List Bool) (f:List Int) (i:Nat),DW b f=true->b[i]?=some false->∀ k,f[i]?=some k->0<=k
 | [],_,i,_,h,_,_=>by simp at h
 | _::_,[],i,_,_,k,h=>by simp at h
 | b::r,k::s,0,h,hb,k',hk=>by simp only [List.getElem?_cons_zero,qwx] at hb hk;subst hb;subst hk;simp only [DW,qdx,qzq,qvj] at h;exact h.1
 | b::r,k::s,i+1,h,hb,k',hk=>by simp only [DW,qzq] at h;exact Tz r s i h.2 (by simpa using hb) k' (by simpa using hk)
theorem aai {a:Nn} (h:Xa a=0):Rm.chk a.o a.f=0/\a.b.length=a.f.length/\DW a.b a.f=true/\CZ a.b=a.x.length:=by
 unfold Xa at h;split at h
 ·rename_i q;exact absurd h q
 ·rename_i q;split at h
  ·simp at h
  ·rename_i q2;split at h
   ·simp at h
   ·rename_i q3;split at h
    ·simp at h
    ·rename_i q4;exact ⟨by simpa using q,by simpa using q2,by simpa using q3,by simpa using q4⟩
structure SmN (a:Nn):Prop where
 f:a.f.length<=40
 b:a.b.length<=40
 x:a.x.length<=20
 m:∀ y ∈ a.x,y.m.length<=12
theorem SmN.inn {a:Nn} (h:SmN a):BH a:=⟨by have:=h.f;omega,by have:=h.b;omega,by have:=h.x;omega,λy hy=>by have:=h.m y hy;omega⟩
end Go.D
end
section
namespace Go.D
open Go Go.Pav Go.Pw P
def U5 (T:List Tg):Prop:=∀ t ∈ T,t.f < 0->t.b=true
theorem SL:∀ (T:List Tg) (x:List It),∀ t ∈ tch T x,t.b=true
 | _,[],t,h=>by cases ‹List Tg› <;> simp [tch] at h
 | [],_::_,t,h=>by simp [tch] at h
 | u::r,y::s,t,h=>by
  rw [tch] at h;rcases qkq.1 h with rfl | h
  ·rfl
  ·exact SL r s t h
theorem TQ (x:List It):∀ t ∈ tin x,t.b=true:=by intro t h;obtain ⟨y,_,rfl⟩:=qyq.1 h;rfl
theorem aga {T:List Tg} (h:U5 T) (n:Nt):U5 (kX T n):=by
 intro t ht hf;unfold kX at ht;split at ht
 ·rcases Fh ht with q | q
  ·exact h t q hf
  ·exact TQ _ t q
 ·split at ht
  ·exact h t ((uq _ _ _).subset ht) hf
  ·split at ht
   ·exact h t ((pX _ _ _ _).mem_iff.1 ht) hf
   ·split at ht
    ·rcases Fh ht with q | q
     ·exact h t q hf
     ·exact SL _ _ t q
    ·exact TQ _ t ht
theorem YL:∀ (x:List Nt) (T:List Tg),U5 T->U5 (allT T x)
 | [],_,h=>h
 | n::r,T,h=>YL r _ (aga h n)
theorem ab2 (l:List En):U5 (eF l):=by intro t ht hf;obtain ⟨p,_,rfl⟩:=qyq.1 ht;simp only at hf;omega
theorem Yk {ks:List Kd} {cap:Int} {old:Int} (ho:0<=old):∀ (x:List Nt) (l:List En) (T:List Tg),jE ks cap l x=0->T.map (·.i)=l.map (·.i)->Vdm old (T.map (·.f))->Vdm old ((allT T x).map (·.f))
 | [],_,_,_,_,h=>h
 | n::r,l,T,hE,hT,h=>by
  rw [jE] at hE;split at hE
  ·rename_i q;exact absurd hE q
  ·rename_i q;have hi:=zC (n:=n) (by simpa using q);rw [allT];exact Yk ho r _ _ hE (LM hi hT) (YW hi (by simpa using congrArg List.length hT) ho h)
def yT (old:Int) (T:List Tg):Nn:=⟨old,T.map (·.f),true,T.map (·.b),true,((T.filter (·.b)).map (·.i)).map It.own,true⟩
theorem LP:∀ T:List Tg,CZ (T.map (·.b))=(T.filter (·.b)).length
 | []=>rfl
 | t::r=>by rw [qvz,CZ,LP r,q2q];cases t.b <;> simp
theorem KD:∀ T:List Tg,U5 T->DW (T.map (·.b)) (T.map (·.f))=true
 | [],_=>rfl
 | t::r,h=>by
  rw [qvz,qvz,DW,KD r λu hu=>h u (qyz _ hu),qtj];by_cases q:t.f < 0
  ·rw [h t (qXq ..) q];rfl
  ·rw [qVj (by omega:0<=t.f),Bool.or_true]
theorem acN {old:Nat} {T:List Tg} (hf:U5 T) (hv:Vdm old (T.map (·.f))) (ho:old<=4096) (hl:T.length<=4096):Xa (yT old T)=0:=by unfold Xa yT;simp only;rw [OO hv qqq qqq (by rw [qQq];omega),qwq qqz,qQq,qQq,qwq qqz,KD T hf,qwq qqz,LP,qQq,qQq,qwq qqz]
theorem agY {old:Int} {T:List Tg} (hl:T.length<=4096) (hm:∀ t ∈ T,t.i.m.length<=1000000):BH (yT old T):=by unfold yT;have:=zkq (·.b) T;refine ⟨by simp;omega,by simp;omega,by simp;omega,?_⟩;intro y hy;simp only [qVz] at hy;obtain ⟨t,ht,rfl⟩:=qyq.1 hy;exact hm t (qgx.1 ht).1
end Go.D
end
section
namespace Go.D
open Go Go.Pav Go.Pw P
attribute [-simp] List.getElem_cons_drop
variable {C:aH}
def bI (b:Bool):Int:=if b=true then 1 else 0
@[simp] theorem avH:bI true=1:=rfl
@[simp] theorem avz:bI false=0:=rfl
@[simp] def eTg (t:Tg):List AV:=[.int .i64 t.f,.int .i64 (bI t.b),.int .u64 t.i.k,.int .u8 t.i.t,.str t.i.x,.ro 1 (t.i.m.map eS) t.i.e]
def tgE:List Int->List Bool->List It->List Tg
 | k::f,true::b,y::x=>⟨k,true,y⟩::tgE f b x
 | k::f,true::b,[]=>⟨k,true,zE.i⟩::tgE f b []
 | k::f,false::b,x=>⟨k,false,zE.i⟩::tgE f b x
 | _,_,_=>[]
structure anG (C:aH):Prop extends vJ C
def MK (old:Int) (T:List Tg) (fe be xe:Bool):Nn:=⟨old,T.map (·.f),fe,T.map (·.b),be,(T.filter (·.b)).map (·.i),xe⟩
def tgN (a:Nn):List Tg:=tgE a.f a.b a.x
structure Xl (C:aH):Prop extends anG C where
 apa:C.fns.get 362=some agn
def itm (T:List Tg):List It:=(T.filter (·.b)).map (·.i)
theorem Ba (t:Tg) (r:List Tg):itm (t::r)=if t.b=true then t.i::itm r else itm r:=by unfold itm;rw [q2q];split <;> simp
theorem Xm (H:Xl C) (o:Int) (T:List Tg) (te:Bool) (hT:T.length<=1000000):∀ n i,n+i=T.length->∀ (F:List Int) (B:List Bool) (X:List It),F.length=i->B.length=i->0 < i->X≠[]->X.length<=i ->
 jm C ⟨[(6,.int .i64 i),(5,.ptr 0 0 0),(4,.ptr 4 0 0),(1,.ro 6 (T.map eTg) te)],[(0,.cells 4 [[.int .i64 o,.sl 1 1 0 F.length F.length false,.sl 2 1 0 B.length B.length false,.sl 3 4 0 X.length X.length false]] true false),(1,.cells 1 (F.map eI) true true),(2,.cells 1 (B.map eB) true true),(3,.cells 4 (X.map cIt) true true),(4,.cells 4 [[.int .i64 0,.ro 1 [] true,.ro 1 [] true,.ro 4 [] true]] true true)],5⟩ =
  some (.agg [.int .i64 o,.ro 1 ((F++(T.drop i).map (·.f)).map eI) false,.ro 1 ((B++(T.drop i).map (·.b)).map eB) false,.ro 4 ((X++itm (T.drop i)).map cIt) false]):=by
 intro n;induction n with
 | zero =>
  intro i hi F B X hF hB h0 hX hXl;have q1:T.drop i=[]:=qwj qqq;have h3:¬ i < T.length:=by omega
  simp only [jm];rw [aj lC.eq_1];have t1:List.take F.length (List.map eI F)=List.map eI F:=qzz qqz;have t2:List.take B.length (List.map eB B)=List.map eB B:=qzz qqz;have t3:List.take X.length (List.map cIt X)=List.map cIt X:=qzz qqz;simp [aj zW.eq_1,q1,h3,itm,t1,t2,t3,H.inl,ak,H.pp,ppB]
 | succ n ih =>
  intro i hi F B X hF hB h0 hX hXl;have p1:i < T.length:=by omega
  have f1:(F.length+1) * 9<=35184372088832:=by omega
  have f2:(B.length+1) * 2<=35184372088832:=by omega
  have f3:(X.length+1) * 57<=35184372088832:=by omega
  rw [drop_cons p1,Ba];simp only [jm];rw [aj lC.eq_1];by_cases hb:T[i].b=true
  ·have:=ih (i+1) qqq (F++[T[i].f]) (B++[true]) (X++[T[i].i]) (by simp [hF]) (by simp [hB]) qqq qqz qqx;simp only [jm] at this;simp at this;simp (disch:=omega) [p1,hb,f1,f2,f3,aC,H.inl,ak,H.pp,ppB,this]
  ·have hb':T[i].b=false:=by simpa using hb
   have:=ih (i+1) qqq (F++[T[i].f]) (B++[false]) X (by simp [hF]) (by simp [hB]) qqq hX qqq;simp only [jm] at this;simp at this;simp (disch:=omega) [p1,hb',f1,f2,f3,aC,H.inl,ak,H.pp,ppB,this]
theorem adH (H:Xl C) (o:Int) (T:List Tg) (hT:T.length<=1000000):∀ n i,n+i=T.length->∀ (F:List Int) (B:List Bool),F.length=i->B.length=i->0 < i ->
 ∃ fl,∀ te:Bool,jm C ⟨[(6,.int .i64 i),(5,.ptr 0 0 0),(4,.ptr 3 0 0),(1,.ro 6 (T.map eTg) te)],[(0,.cells 4 [[.int .i64 o,.sl 1 1 0 F.length F.length false,.sl 2 1 0 B.length B.length false,.ro 4 [] true]] true false),(1,.cells 1 (F.map eI) true true),(2,.cells 1 (B.map eB) true true),(3,.cells 4 [[.int .i64 0,.ro 1 [] true,.ro 1 [] true,.ro 4 [] true]] true true)],4⟩ =
  some (.agg [.int .i64 o,.ro 1 ((F++(T.drop i).map (·.f)).map eI) false,.ro 1 ((B++(T.drop i).map (·.b)).map eB) false,.ro 4 ((itm (T.drop i)).map cIt) fl]):=by
 intro n;induction n with
 | zero =>
  intro i hi F B hF hB h0;have q1:T.drop i=[]:=qwj qqq;have h3:¬ i < T.length:=by omega
  refine ⟨true,λte=>?_⟩;simp only [jm];rw [aj lC.eq_1];have t1:List.take F.length (List.map eI F)=List.map eI F:=qzz qqz;have t2:List.take B.length (List.map eB B)=List.map eB B:=qzz qqz;simp [aj zW.eq_1,q1,h3,itm,t1,t2,H.inl,ak,H.pp,ppB]
 | succ n ih =>
  intro i hi F B hF hB h0;have p1:i < T.length:=by omega
  have f1:(F.length+1) * 9<=35184372088832:=by omega
  have f2:(B.length+1) * 2<=35184372088832:=by omega
  rw [drop_cons p1,Ba];by_cases hb:T[i].b=true
  ·refine ⟨false,λte=>?_⟩;have:=Xm H o T te hT n (i+1) qqq (F++[T[i].f]) (B++[true]) [T[i].i] (by simp [hF]) (by simp [hB]) qqq qqz qqz;simp only [jm] at this |-;rw [aj lC.eq_1];simp at this;simp (disch:=omega) [p1,hb,f1,f2,aC,H.inl,ak,H.pp,ppB,this]
  ·have hb':T[i].b=false:=by simpa using hb
   obtain ⟨fl,this⟩:=ih (i+1) qqq (F++[T[i].f]) (B++[false]) (by simp [hF]) (by simp [hB]) qqq;refine ⟨fl,λte=>?_⟩;have:=this te;simp only [jm] at this |-;rw [aj lC.eq_1];simp at this;simp (disch:=omega) [p1,hb',f1,f2,aC,H.inl,ak,H.pp,ppB,this]
theorem ah5 (H:Xl C) (o:Int) (T:List Tg) (hT:T.length<=1000000):∃ fe be xe,∀ te:Bool,FnW C 362 [.int .i64 o,.ro 6 (T.map eTg) te]=some (.agg (eNn (MK o T fe be xe))):=by
 unfold MK;have st:∀ (x:AV) (te:Bool),jm C ⟨[(6,.int .i64 (0:Nat)),(5,.ptr 0 0 0),(4,.ptr 1 0 0),(1,.ro 6 (T.map eTg) te)],[(0,.cells 4 [[.int .i64 o,.ro 1 [] true,.ro 1 [] true,.ro 4 [] true]] true true),(1,.cells 4 [[.int .i64 0,.ro 1 [] true,.ro 1 [] true,.ro 4 [] true]] true true)],2⟩=some x ->
  FnW C 362 [.int .i64 o,.ro 6 (T.map eTg) te]=some x:=by
  intro x te h;rw [aF H.apa rfl];simp only [jm] at h;simp at h;simp (disch:=omega) [agn,h,aC,H.inl,ak,H.pp,ppB]
 cases T with
 | nil =>refine ⟨true,true,true,λte=>st _ te ?_⟩;simp only [jm];rw [aj lC.eq_1];simp (disch:=omega) [aj zW.eq_1,aC,H.inl,ak,H.pp,ppB]
 | cons t r =>
  have ht:(t::r).drop 1=r:=rfl;have hlt:0 < (t::r).length:=by simp
  by_cases hb:t.b=true
  ·refine ⟨false,false,false,λte=>st _ te ?_⟩;have h:=Xm H o (t::r) te hT r.length 1 qqz [t.f] [true] [t.i] rfl rfl qqq qqz qqz;rw [ht] at h;have q:=Ba t r;unfold itm at q h;rw [q,qwz hb];simp only [jm] at h |-;rw [aj lC.eq_1];simp [hb] at h;simp (disch:=omega) [hb,h,aC,H.inl,ak,H.pp,ppB]
  ·have hb':t.b=false:=by simpa using hb
   obtain ⟨fl,h⟩:=adH H o (t::r) hT r.length 1 qqz [t.f] [false] rfl rfl qqq;refine ⟨false,false,fl,λte=>st _ te ?_⟩;have h:=h te;rw [ht] at h;have q:=Ba t r;unfold itm at q h;rw [q,qwq hb];simp only [jm] at h |-;rw [aj lC.eq_1];simp [hb'] at h;simp (disch:=omega) [hb',h,aC,H.inl,ak,H.pp,ppB]
def jL (ks:List Kd) (l:List En) (t:Tg):En:=if t.b=true then fre ks t.i else l[t.f.toNat]?.getD zE
def V3 (l:List En) (t:Tg):Bool:=t.b&&(decide (0<=t.f)&&decide ((l[t.f.toNat]?.getD zE).i.k≠t.i.k))
structure anA (C:aH):Prop extends aki C,Uk C
structure Yf (C:aH):Prop extends anA C,L8 C where
 acE:C.fns.get 2053=some QW
 ajM:C.fns.get 6054=some XH
theorem agc (H:Yf C) (ob n:Nat) (cs:List (List AV)) (dt:Bool) (hn:n≠0) (hl:n<=1000000) (hc:cs.length=n) (h:aG) (next:Nat) (hb:ob < next) (g:Pav.get h ob=some (.cells 6 cs true dt)) :
 ∃ b N,RnW C 2053 [.sl ob 6 0 n n true] h next=some (.sl b 6 0 n n true,put h b (.cells 6 cs true dt),N)/\next<=b/\b < N:=by
 have h2:n * 73<=35184372088832:=by omega
 have hT:List.take n cs=cs:=qzz qqq;obtain ⟨L,hL⟩:∃ L,L=RnW C 2053 [.sl ob 6 0 n n true] h next:=⟨_,rfl⟩
 rw [<- hL];rw [iP (args:=[.sl ob 6 0 n n true]) H.acE rfl] at hL;simp (disch:=omega) [QW,hn,h2,hc,hT,g,H.inl,ak,H.pp,ppB,aN,aI,Vb,ltF,gtF,nV] at hL;exact ⟨_,_,hL,by omega,by omega⟩
def rsV (rb c L:Nat):AV:=if L=0 then .ro 4 [] true else .sl rb 4 c L L true
structure ApF (ks:List Kd) (ke:Bool) (cap:Int) (l:List En) (e:Bool) (a:Nn) (nx rb:Nat) (h:aG) (next:Nat) (cs:List (List AV)) (dt:Bool) (G:List En) (m:Nat):Prop where
 f0:Pav.get h nx=some (.cells 2 [[.ro 9 (ks.map eKd) ke,.int .i64 cap]] true true)
 f1:Pav.get h (nx+1)=some (.cells 1 [[.ro 6 (l.map eEn) e]] true true)
 f2:Pav.get h (nx+2)=some (.cells 4 [eNn a] true true)
 f3:Pav.get h (nx+3)=some (.cells 1 [[.ro 6 [] true]] true true)
 fx:Pav.get h (nx+28)=some (.cells 1 [[.sl (nx+26) 6 0 a.f.length a.f.length true]] true false)
 fo:Pav.get h (nx+26)=some (.cells 6 (cs++List.replicate m zEn) true dt)
 en:Fa h (nx+33) next cs G
 dm:dt=true->∀ x ∈ G,x.i.m=[]
 rs:a.x≠[]->∃ cs' dt',Pav.get h rb=some (.cells 4 cs' true dt')/\zx h (nx+33) next cs' a.x/\nx+33<=rb/\rb < next
 lt:nx+33<=next
theorem ApF.step {ks:List Kd} {ke:Bool} {cap:Int} {l:List En} {e:Bool} {a:Nn} {nx rb:Nat} {h:aG} {next:Nat} {cs:List (List AV)} {dt:Bool} {G:List En} {m:Nat} (F:ApF ks ke cap l e a nx rb h next cs dt G (m+1))
 {h':aG} {next':Nat} (hn:next<=next') (hg:∀ b,b < next->b≠nx+26->Pav.get h' b=Pav.get h b) (x:En) (v:AV) {dt':Bool} (go:Pav.get h' (nx+26)=some (.cells 6 (cs++[.int .u64 x.i.k,.int .u8 x.i.t,.str x.i.x,v,.int .i64 x.s,.bool x.kn]::List.replicate m zEn) true dt'))
 (hv:MkO h' (nx+33) next' v x.i.m) (hd:dt'=true->dt=true/\x.i.m=[]):ApF ks ke cap l e a nx rb h' next' (cs++[[.int .u64 x.i.k,.int .u8 x.i.t,.str x.i.x,v,.int .i64 x.s,.bool x.kn]]) dt' (G++[x]) m:=by
 have lt:=F.lt;refine ⟨by rw [hg _ qqq qqq];exact F.f0,by rw [hg _ qqq qqq];exact F.f1,by rw [hg _ qqq qqq];exact F.f2,by rw [hg _ qqq qqq];exact F.f3,by rw [hg _ qqq qqq];exact F.fx,by rw [go,qQj];rfl, (F.en.mono (qxq _) hn λb k1 k2=>hg b k2 qqq).snoc x v hv,λq y hy=>?_,λq=>?_,by omega⟩
 ·rcases qjj.1 hy with hy | hy
  ·exact F.dm (hd q).1 y hy
  ·rw [qVx] at hy;subst hy;exact (hd q).2
 ·obtain ⟨cs',d',q1,q2,q3,q4⟩:=F.rs q;exact ⟨cs',d',by rw [hg _ q4 qqq];exact q1,q2.mono (qxq _) hn λb k1 k2=>hg b k2 qqq,q3,by omega⟩
theorem Zw (H:Yf C) (ks:List Kd) (ke:Bool) (cap:Int) (hr:jF ks) (hkb:∀ x:Int,-9223372036854775808<=(bW ks x).b/\(bW ks x).b<=9223372036854775807) (l:List En) (e:Bool) (hl:l.length<=1000000) (hs:∀ x ∈ l,dQ x)
 (a:Nn) (ha:BH a) (hai:∀ y ∈ a.x,iU y) (hab:a.b.length=a.f.length) (hfit:DW a.b a.f=true) (hrg:∀ k ∈ a.f,k < l.length) (nx rb:Nat) (hbad:(tgN a).any (V3 l)=false) (hck:ckE ks cap ((tgN a).map (jL ks l))=0):∀ n i,n+i=a.f.length->∀ (I:Int),I=i->∀ (c L:Nat),c+L=a.x.length->c+CZ (a.b.drop i)=a.x.length->∀ (h:aG) (next:Nat) (cs:List (List AV)) (dt:Bool) (G:List En),G.length=i->(∀ x ∈ G,dQ x) ->
 G++(tgE (a.f.drop i) (a.b.drop i) (a.x.drop c)).map (jL ks l)=(tgN a).map (jL ks l)->(tgE (a.f.drop i) (a.b.drop i) (a.x.drop c)).any (V3 l)=false->ApF ks ke cap l e a nx rb h next cs dt G n ->
 ∃ v h1 n1,CK C nx (fQ [.cell 6 1 true,.tmp 7]) [.sq oU,.bk 0 ⟨true,[10,6,3],[(9999,65537)]⟩,.sq nP] lq
  ⟨[(49,.int .i64 I),(48,.int .i64 a.f.length),(47,.ro 1 (a.f.map eI) a.fe),(11,rsV rb c L),(10,.ptr (nx+28) 0 0),(6,.ptr (nx+3) 0 0),(5,.ptr (nx+2) 0 0),(4,.ptr (nx+1) 0 0),(3,.ptr nx 0 0)],h,next⟩ =
  some (.tup [.agg [v],.int .i64 0],h1,n1)/\nx<=n1/\lW h1 nx n1 v ((tgN a).map (jL ks l)):=by
 have hq:=ha.f;have hq2:=ha.x;intro n;induction n with
 | zero =>
  intro i hi I hI c L hcl hcnt h next cs dt G hG hGe hT hb F
  have q2:a.f.drop i=[]:=qwj qqq;have h3:¬ I < a.f.length:=by omega
  have hGl:G.length=a.f.length:=by omega
  have e0:G=(tgN a).map (jL ks l):=by rw [<- hT,q2];simp [tgE]
  obtain ⟨Q,hL⟩:∃ X,X=CK C nx (fQ [.cell 6 1 true,.tmp 7]) [.sq oU,.bk 0 ⟨true,[10,6,3],[(9999,65537)]⟩,.sq nP] lq ⟨[(49,.int .i64 I),(48,.int .i64 a.f.length),(47,.ro 1 (a.f.map eI) a.fe),(11,rsV rb c L),(10,.ptr (nx+28) 0 0),(6,.ptr (nx+3) 0 0),(5,.ptr (nx+2) 0 0),(4,.ptr (nx+1) 0 0),(3,.ptr nx 0 0)],h,next⟩:=⟨_,rfl⟩;rw [<- hL];rw [aj lq.eq_1] at hL;have f0:=F.f0;have fx:=F.fx;have f3:=F.f3;have fo:=F.fo;simp only [List.replicate_zero,qXz] at fo;have hcl2:cs.length=G.length:=F.en.len;by_cases c0:G=[]
  ·have lt:=F.lt;rw [c0] at hGl hcl2 e0;have ha0:a.f.length=0:=by rw [<- hGl];rfl
   have hcs:cs=[]:=qXj.1 hcl2;rw [hcs] at fo;have hck2:=λf=>iY H.toanA.toaki.tozD ks ke cap hr [] f qqz qqz;rw [e0,hck] at hck2;rw [<- e0] at hck2;have h2053:=λh n=>iP (args:=[.sl (nx+26) 6 0 0 0 true]) H.acE rfl h n;rw [ha0] at fx hL;have h3:¬ I < 0:=by omega
   simp only [aL,qax] at hck2;cases dt;all_goals
    simp (disch:=omega) [aj nP.eq_1,h3,f0,fx,f3,fo,hck2,h2053,QW,aC,H.inl,ak,H.pp,ppB,aN,aI,ltF,gtF,nV] at hL;refine ⟨_,_,_,hL,by omega,?_⟩;rw [<- e0];exact .inl ⟨rfl,rfl⟩
  ·have hn0:a.f.length≠0:=λq=>c0 (qXj.1 qqq);have hOG:lW h nx next (.sl (nx+26) 6 0 G.length G.length true) G:=.inr ⟨c0,_,cs,dt,rfl,by omega,by have:=F.lt;omega,fo,F.en.mono qqq (qxq _) (λ_ _ _=>rfl),F.dm⟩
   have fz:=hOG.frz 12;have hGo:∀ x ∈ G.map En.own,dQ x:=λe he=>by obtain ⟨e',he',rfl⟩:=qyq.1 he;exact (hGe e' he').ow
   have hck2:=iY H.toanA.toaki.tozD ks ke cap hr (G.map En.own) true (by rw [qQq];omega) hGo;rw [(P5 ks cap G).2 (by rw [e0];exact hck)] at hck2;rw [hGl] at fz;generalize G.map En.own=G' at *;obtain ⟨b,N,x1,x2,x3⟩:=agc H (nx+26) a.f.length cs dt hn0 qqq qqq h (next+10) (by have:=F.lt;omega) fo;have lt:=F.lt;simp (disch:=omega) [-fZ,aj nP.eq_1,h3,f0,fx,f3,fo,fz,hck2,x1,aC,H.inl,ak,H.pp,ppB,aN,aI,ltF,gtF,nV] at hL;refine ⟨_,_,_,hL,by omega,?_⟩;rw [<- e0,<- hGl];refine .inr ⟨c0,b,cs,dt,rfl,by omega,by omega,?_,?_,F.dm⟩
   ·rw [aI qqq,aN]
   ·exact F.en.mono qqq qqq λc k1 k2=>by rw [aI qqq,aI qqq]
 | succ n ih =>
  intro i hi I hI c L hcl hcnt h next cs dt G hG hGe hT hb F
  have p1:i < a.b.length:=by omega
  have p2:i < a.f.length:=by omega
  have hcs:cs.length=i:=by rw [F.en.len];exact hG
  rw [drop_cons p1,CZ] at hcnt;rw [drop_cons p1,drop_cons p2] at hT hb;obtain ⟨Q,hL⟩:∃ X,X=CK C nx (fQ [.cell 6 1 true,.tmp 7]) [.sq oU,.bk 0 ⟨true,[10,6,3],[(9999,65537)]⟩,.sq nP] lq ⟨[(49,.int .i64 I),(48,.int .i64 a.f.length),(47,.ro 1 (a.f.map eI) a.fe),(11,rsV rb c L),(10,.ptr (nx+28) 0 0),(6,.ptr (nx+3) 0 0),(5,.ptr (nx+2) 0 0),(4,.ptr (nx+1) 0 0),(3,.ptr nx 0 0)],h,next⟩:=⟨_,rfl⟩;rw [<- hL];rw [aj lq.eq_1] at hL;have f0:=F.f0;have f1:=F.f1;have f2:=F.f2;have fx:=F.fx;have fo:=F.fo;have lt:=F.lt;have hm2:=qxx p2;have hkl:=hrg _ hm2;subst hI;simp only [eNn,Iw] at f2;by_cases hb1:a.b[i]=true
  ·rw [qwz hb1] at hcnt;have p3:c < a.x.length:=by omega
   have hx0:a.x≠[]:=λq=>by rw [q] at p3;simp at p3
   have hxl0:a.x.length≠0:=by omega
   have hxin:=hai _ (qxx p3);have ht0:=hxin.t;have hdx:a.x.drop c=a.x[c]::a.x.drop (c+1):=drop_cons p3;have hfin:dQ (fre ks a.x[c]):=⟨hxin,hkb _⟩;have htg:jL ks l ⟨a.f[i],true,a.x[c]⟩=fre ks a.x[c]:=by unfold jL;rw [qwz rfl]
   rw [hdx,hb1,tgE,qvz,htg] at hT;rw [hdx,hb1,tgE,List.any_cons,qZq] at hb;obtain ⟨cs',dt',g4,its,s1,s2⟩:=F.rs hx0;obtain ⟨w,hw,mk⟩:=its.row c a.x[c] (qqj p3);have hL1:0 < L:=by omega
   have eV:rsV rb c L=.sl rb 4 c L L true:=by unfold rsV;rw [qwq qqq]
   have hL2:1<=L:=by omega
   have eV2:(if 1 < L then some (AV.sl rb 4 (c+1) (L - 1) (L - 1) true) else some (.ro 4 [] true))=some (rsV rb (c+1) (L - 1)):=by
    unfold rsV;by_cases q:1 < L
    ·rw [qwz q,qwq qqq]
    ·rw [qwq q,qwz qqq]
   rw [eV] at hL;obtain ⟨tt,hTt⟩:∃ t:Nat,a.x[c].t=t:=⟨a.x[c].t.toNat,by omega⟩;have hz:¬ tt < ks.length->(bW ks (tt:Int)).b=0:=by intro h;unfold bW;rw [qWj,qij qqq];rfl
   have hkA:∀ h:tt < ks.length,(bW ks (tt:Int)).b=ks[tt].b:=λh=>by rw [oZ h]
   have hG2:∀ y ∈ G++[fre ks a.x[c]],dQ y:=by
    intro y hy;rcases qjj.1 hy with hy | hy
    ·exact hGe y hy
    ·simp only [qVx] at hy;subst hy;exact hfin
   have fin:∀ (h':aG) (next':Nat) (dt2:Bool),Q=CK C nx (fQ [.cell 6 1 true,.tmp 7]) [.sq oU,.bk 0 ⟨true,[10,6,3],[(9999,65537)]⟩,.sq nP] lq
    ⟨[(49,.int .i64 ((i:Int)+1)),(48,.int .i64 a.f.length),(47,.ro 1 (a.f.map eI) a.fe),(11,rsV rb (c+1) (L - 1)),(10,.ptr (nx+28) 0 0),(6,.ptr (nx+3) 0 0),(5,.ptr (nx+2) 0 0),(4,.ptr (nx+1) 0 0),(3,.ptr nx 0 0)],h',next'⟩ ->
    next<=next'->(∀ b,b < next->b≠nx+26->Pav.get h' b=Pav.get h b)->Pav.get h' (nx+26)=some (.cells 6 (cs++[.int .u64 a.x[c].k,.int .u8 a.x[c].t,.str a.x[c].x,w,.int .i64 (bW ks a.x[c].t).b,.bool false]::List.replicate n zEn) true dt2)->(dt2=true->dt=true/\a.x[c].m=[]) ->
    ∃ v h1 n1,Q=some (.tup [.agg [v],.int .i64 0],h1,n1)/\nx<=n1/\lW h1 nx n1 v ((tgN a).map (jL ks l)):=by
    intro h' next' dt2 hQ hn hg go hd;rw [hQ];exact ih (i+1) qqq ((i:Int)+1) qqq (c+1) (L - 1) qqq qqq h' next' _ dt2 (G++[fre ks a.x[c]]) (by simp [hG]) hG2 (by rw [qQj];exact hT) hb.2 (F.step hn hg (fre ks a.x[c]) w go (mk.mono (qxq _) hn λb k1 k2=>hg b k2 qqq) hd)
   have hmk:(w=.ro 1 [] true/\a.x[c].m=[])\/∃ b2,w=.sl b2 1 0 a.x[c].m.length a.x[c].m.length true:=by
    rcases mk with ⟨q,r⟩ | ⟨_,b2,r,_⟩
    ·exact .inl ⟨r,q⟩
    ·exact .inr ⟨b2,r⟩
   by_cases cf:a.f[i] < 0
   ·have cf':¬ (0<=a.f[i]):=by omega
    by_cases ct:tt < ks.length
    ·have hk:=hkA ct;rcases hmk with ⟨rfl,q6⟩ | ⟨b2,rfl⟩
     ·simp (disch:=omega) [p1,p2,p3,hb1,hL1,hL2,eV2,f0,f1,f2,fx,fo,g4,hw,kF hcs,kH hcs,qJx,aC,H.inl,ak,H.pp,ppB,aN,aI,ltF,gtF,nV,cf',ct,hTt,hk] at hL;exact fin _ _ _ hL qqq (λb k1 k2=>by simp (disch:=omega) only [aI]) (by rw [aN,hTt,hk]) (λw=>⟨w,q6⟩)
     ·simp (disch:=omega) [p1,p2,p3,hb1,hL1,hL2,eV2,f0,f1,f2,fx,fo,g4,hw,kF hcs,kH hcs,qJx,aC,H.inl,ak,H.pp,ppB,aN,aI,ltF,gtF,nV,cf',ct,hTt,hk] at hL;exact fin _ _ _ hL qqq (λb k1 k2=>by simp (disch:=omega) only [aI]) (by rw [aN,hTt,hk]) (λw=>by cases w)
    ·have hk:=hz ct;rcases hmk with ⟨rfl,q6⟩ | ⟨b2,rfl⟩
     ·simp (disch:=omega) [p1,p2,p3,hb1,hL1,hL2,eV2,f0,f1,f2,fx,fo,g4,hw,kF hcs,kH hcs,qJx,aC,H.inl,ak,H.pp,ppB,aN,aI,ltF,gtF,nV,cf',ct,hTt] at hL;exact fin _ _ _ hL qqq (λb k1 k2=>by simp (disch:=omega) only [aI]) (by rw [aN,hTt,hk]) (λw=>⟨w,q6⟩)
     ·simp (disch:=omega) [p1,p2,p3,hb1,hL1,hL2,eV2,f0,f1,f2,fx,fo,g4,hw,kF hcs,kH hcs,qJx,aC,H.inl,ak,H.pp,ppB,aN,aI,ltF,gtF,nV,cf',ct,hTt] at hL;exact fin _ _ _ hL qqq (λb k1 k2=>by simp (disch:=omega) only [aI]) (by rw [aN,hTt,hk]) (λw=>by cases w)
   ·obtain ⟨q,hq⟩:∃ q:Nat,a.f[i]=q:=⟨a.f[i].toNat,by omega⟩;have hq1:q < l.length:=by omega
    have ck:l[q].i.k=a.x[c].k:=by have hb1:=hb.1;unfold V3 at hb1;simp only at hb1;rw [hq,qWj,qqj hq1] at hb1;simpa using hb1
    by_cases ct:tt < ks.length
    ·have hk:=hkA ct;rcases hmk with ⟨rfl,q6⟩ | ⟨b2,rfl⟩
     ·simp (disch:=omega) [p1,p2,p3,hb1,hL1,hL2,eV2,f0,f1,f2,fx,fo,g4,hw,kF hcs,kH hcs,qJx,aC,H.inl,ak,H.pp,ppB,aN,aI,ltF,gtF,nV,hq,hq1,ck,ct,hTt,hk] at hL;exact fin _ _ _ hL qqq (λb k1 k2=>by simp (disch:=omega) only [aI]) (by rw [aN,hTt,hk]) (λw=>⟨w,q6⟩)
     ·simp (disch:=omega) [p1,p2,p3,hb1,hL1,hL2,eV2,f0,f1,f2,fx,fo,g4,hw,kF hcs,kH hcs,qJx,aC,H.inl,ak,H.pp,ppB,aN,aI,ltF,gtF,nV,hq,hq1,ck,ct,hTt,hk] at hL;exact fin _ _ _ hL qqq (λb k1 k2=>by simp (disch:=omega) only [aI]) (by rw [aN,hTt,hk]) (λw=>by cases w)
    ·have hk:=hz ct;rcases hmk with ⟨rfl,q6⟩ | ⟨b2,rfl⟩
     ·simp (disch:=omega) [p1,p2,p3,hb1,hL1,hL2,eV2,f0,f1,f2,fx,fo,g4,hw,kF hcs,kH hcs,qJx,aC,H.inl,ak,H.pp,ppB,aN,aI,ltF,gtF,nV,hq,hq1,ck,ct,hTt] at hL;exact fin _ _ _ hL qqq (λb k1 k2=>by simp (disch:=omega) only [aI]) (by rw [aN,hTt,hk]) (λw=>⟨w,q6⟩)
     ·simp (disch:=omega) [p1,p2,p3,hb1,hL1,hL2,eV2,f0,f1,f2,fx,fo,g4,hw,kF hcs,kH hcs,qJx,aC,H.inl,ak,H.pp,ppB,aN,aI,ltF,gtF,nV,hq,hq1,ck,ct,hTt] at hL;exact fin _ _ _ hL qqq (λb k1 k2=>by simp (disch:=omega) only [aI]) (by rw [aN,hTt,hk]) (λw=>by cases w)
  ·have hb':a.b[i]=false:=by simpa using hb1
   rw [qwq hb1] at hcnt;have h0:0<=a.f[i]:=Tz a.b a.f i hfit (by rw [qqj p1,hb']) _ (qqj p2);obtain ⟨q,hq⟩:∃ q:Nat,a.f[i]=q:=⟨a.f[i].toNat,by omega⟩;have hq1:q < l.length:=by omega
   have htg:jL ks l ⟨a.f[i],false,zE.i⟩=l[q]:=by unfold jL;rw [qwq qqz];simp only;rw [hq,qWj,qqj hq1];rfl
   rw [hb',tgE,qvz,htg] at hT;rw [hb',tgE,List.any_cons,qZq] at hb;have hin:=hs _ (qxx hq1);obtain ⟨v,b,d4,q1,n1,r1,r2,r3,r4,r5,r6⟩:=akl H.toL8 l[q].i true hin.i.m (next+38);simp only [cIt] at r1;have r7:=r6;have fin:∀ (h':aG) (next':Nat) (dt2:Bool),Q=CK C nx (fQ [.cell 6 1 true,.tmp 7]) [.sq oU,.bk 0 ⟨true,[10,6,3],[(9999,65537)]⟩,.sq nP] lq
    ⟨[(49,.int .i64 ((i:Int)+1)),(48,.int .i64 a.f.length),(47,.ro 1 (a.f.map eI) a.fe),(11,rsV rb c L),(10,.ptr (nx+28) 0 0),(6,.ptr (nx+3) 0 0),(5,.ptr (nx+2) 0 0),(4,.ptr (nx+1) 0 0),(3,.ptr nx 0 0)],h',next'⟩ ->
    next<=next'->(∀ b,b < next->b≠nx+26->Pav.get h' b=Pav.get h b)->Pav.get h' (nx+26)=some (.cells 6 (cs++[.int .u64 l[q].i.k,.int .u8 l[q].i.t,.str l[q].i.x,v,.int .i64 l[q].s,.bool l[q].kn]::List.replicate n zEn) true dt2)->MkO h' (nx+33) next' v l[q].i.m->(dt2=true->dt=true/\l[q].i.m=[]) ->
    ∃ v h1 n1,Q=some (.tup [.agg [v],.int .i64 0],h1,n1)/\nx<=n1/\lW h1 nx n1 v ((tgN a).map (jL ks l)):=by
    intro h' next' dt2 hQ hn hg go mk hd;rw [hQ];exact ih (i+1) qqq ((i:Int)+1) qqq c L hcl hcnt h' next' _ dt2 (G++[l[q]]) (by simp [hG]) (λy hy=>by
     rcases qjj.1 hy with hy | hy
     ·exact hGe y hy
     ·simp only [qVx] at hy;subst hy;exact hin) (by rw [qQj];exact hT) hb.2 (F.step hn hg l[q] v go mk hd)
   rcases r6 with ⟨q6,rfl⟩ | ⟨_,b2,rfl,_⟩
   ·simp (disch:=omega) [p1,p2,hb',hq,hq1,f0,f1,f2,fx,fo,r1,r5,kF hcs,kH hcs,qJx,aC,H.inl,ak,H.pp,ppB,aN,aI,ltF,gtF,nV,dL,uU] at hL;exact fin _ _ _ hL qqq (λb k1 k2=>by rw [aI qqq,dL qqq,aI qqq,aI qqq,aI qqq]) (aN ..) ((r7.over (qxq _)).mono qqq qqq λb k1 k2=>aI qqq) (λw=>⟨w,q6⟩)
   ·simp (disch:=omega) [p1,p2,hb',hq,hq1,f0,f1,f2,fx,fo,r1,r5,kF hcs,kH hcs,qJx,aC,H.inl,ak,H.pp,ppB,aN,aI,ltF,gtF,nV,dL,uU] at hL;exact fin _ _ _ hL qqq (λb k1 k2=>by rw [aI qqq,dL qqq,aI qqq,aI qqq,aI qqq]) (aN ..) ((r7.over (qxq _)).mono qqq qqq λb k1 k2=>aI qqq) (λw=>by cases w)
theorem aja (H:Yf C) (ks:List Kd) (ke:Bool) (cap:Int) (hr:jF ks) (hkb:∀ x:Int,-9223372036854775808<=(bW ks x).b/\(bW ks x).b<=9223372036854775807) (l:List En) (e:Bool) (hl:l.length<=1000000) (hs:∀ x ∈ l,dQ x)
 (a:Nn) (ha:BH a) (hai:∀ y ∈ a.x,iU y) (c1:ckE ks cap l=0) (c2:Xa a=0) (c3:a.o=l.length) (hbad:(tgN a).any (V3 l)=false) (hck:ckE ks cap ((tgN a).map (jL ks l))=0) (nx:Nat) :
 ∃ v h1 n1,RnW C 6054 [aR ks ke cap,aL l e,.agg (eNn a)] [] nx=some (.tup [.agg [v],.int .i64 0],h1,n1)/\nx<=n1/\lW h1 nx n1 v ((tgN a).map (jL ks l)):=by
 obtain ⟨a1,hab,a3,a4⟩:=aai c2;have k1:=iY H.toanA.toaki.tozD ks ke cap hr l e hl hs;have k2:=Lj H.toanA.toaki.toYn a ha;obtain ⟨v,q1,n1,r1,r2,r3⟩:=abb H.toL8 a.x a.xe ha.x ha.m (nx+33);have haf:=ha.f;have hmk:a.f.length * 73<=35184372088832:=by omega
 have hrg:∀ k ∈ a.f,k < l.length:=λk hk=>by have:=(Rm.Jm a1).rng k hk;omega
 obtain ⟨rb,hv,hrs⟩:∃ rb,v=rsV rb 0 a.x.length/\(a.x≠[]->∃ cs' dt',Pav.get q1 rb=some (.cells 4 cs' true dt')/\zx q1 (nx+33) n1 cs' a.x/\nx+33<=rb/\rb < n1):=by
  rcases r3 with ⟨q,rfl⟩ | ⟨q,rb,cs',dt',rfl,h1,h2,h3,h4,_⟩
  ·exact ⟨0,by rw [q];rfl,λh=>absurd q h⟩
  ·refine ⟨rb,?_,λ_=>⟨cs',dt',h3,h4.mono qqq (qxq _) (λ_ _ _=>rfl),h1,h2⟩⟩;unfold rsV;rw [qwq (λh=>q (qXj.1 h))]
 rw [c1] at k1;rw [c2] at k2;obtain ⟨Q,hL⟩:∃ X,X=RnW C 6054 [aR ks ke cap,aL l e,.agg (eNn a)] [] nx:=⟨_,rfl⟩;rw [<- hL];rw [iP (args:=[aR ks ke cap,aL l e,.agg (eNn a)]) H.ajM rfl] at hL;simp only [eNn,Iw] at k2;simp (disch:=omega) [XH,qZx c3,hab,k1,k2,r1,hmk,aC,H.inl,ak,H.pp,ppB,aN,aI,ltF,gtF,nV,dL] at hL;rw [hv] at hL;rw [hL];refine Zw H ks ke cap hr hkb l e hl hs a ha hai hab a3 hrg nx rb hbad hck a.f.length 0 rfl 0 rfl 0 a.x.length qqq (by rw [qjq,qVq];exact a4) _ _ [] true [] rfl qqz (by rw [qjq,qjq,qjq];rfl) (by rw [qjq,qjq,qjq];exact hbad) ?_;refine ⟨?_,?_,?_,?_,?_,?_,⟨rfl,λi x hx=>by simp at hx⟩,(λ_ x hx=>by cases hx),λq=>?_,by omega⟩
 ·simp (disch:=omega) [dL]
 ·simp (disch:=omega) [dL,ltF,gtF]
 ·simp (disch:=omega) [dL,ltF,gtF]
 ·simp (disch:=omega) [dL,ltF,gtF]
 ·simp (disch:=omega) [dL,ltF,gtF]
 ·simp (disch:=omega) [dL,ltF,gtF]
 ·obtain ⟨cs',dt',x1,x2,x3,x4⟩:=hrs q;exact ⟨cs',dt',uU x3 x1,(x2.over qqq).mono (qxq _) qqq (λ_ _ _=>rfl),x3,by omega⟩
structure zf (C:aH):Prop extends Xl C where
 aoM:C.fns.get 630=some ahz
 ao7:C.fns.get 629=some aiJ
 aoo:C.fns.get 627=some aiW
 anM:C.fns.get 624=some agt
theorem V4 (H:zf C) (T:List Tg) (e:Bool) (b:Nat) (hb:b<=T.length) (hl:T.length<=1000000):∀ n j,n+j=b->∀ G:List Tg,G.length<=j ->
 Gp C ⟨[(8,.int .i64 j),(7,.sl 0 6 0 G.length G.length false),(2,.int .i64 b),(0,.ro 6 (T.map eTg) e)],[(0,.cells 6 (G.map eTg) true true)],1⟩=some (.ro 6 ((G++(T.take b).drop j).map eTg) false):=by
 intro n;induction n with
 | zero =>
  intro j hj G hG;have h1:(T.take b).drop j=[]:=qwj qqx;have h3:¬ j < b:=by omega
  have hT:List.take G.length (G.map eTg)=G.map eTg:=qzz qqz;simp only [Gp];rw [aj Dj.eq_1];simp [aj NV.eq_1,h1,h3,hT]
 | succ n ih =>
  intro j hj G hG;have h1:j < T.length:=by omega
  have h2:(T.take b).drop j=T[j]::(T.take b).drop (j+1):=by rw [qbq qqx];simp
  have h3:j < b:=by omega
  have hcap:(G.length+1) * 73<=35184372088832:=by omega
  have:=ih (j+1) qqq (G++[T[j]]) qqx;rw [h2];simp only [Gp] at this |-;rw [aj Dj.eq_1];simp at this;simp (disch:=omega) [h1,h3,hcap,aC,this]
theorem jy (H:zf C) (T:List Tg) (e:Bool) (a b:Nat) (hab:a<=b) (hb:b<=T.length) (hl:T.length<=1000000) :
 FnW C 630 [.ro 6 (T.map eTg) e,.int .i64 a,.int .i64 b]=some (.ro 6 (((T.take b).drop a).map eTg) false):=by
 have:=V4 H T e b hb hl (b - a) a qqq [] qqz;rw [aF H.aoM rfl];simp only [Gp] at this;simp at this;simp [ahz,this]
theorem vW (H:zf C) (A B D:List Tg) (a b d:Bool) (h:A.length+B.length+D.length<=1000000) :
 FnW C 629 [.ro 6 (A.map eTg) a,.ro 6 (B.map eTg) b,.ro 6 (D.map eTg) d]=some (.ro 6 ((A++(B++D)).map eTg) false):=by
 have c1:A.length * 73<=35184372088832:=by omega
 have c2:B.length * 73<=35184372088832:=by omega
 have c3:D.length * 73<=35184372088832:=by omega
 have c4:(A.length+B.length) * 73<=35184372088832:=by omega
 have c5:(A.length+D.length) * 73<=35184372088832:=by omega
 have c6:(B.length+D.length) * 73<=35184372088832:=by omega
 have c7:(A.length+B.length+D.length) * 73<=35184372088832:=by omega
 have t0:∀ X:List Tg,List.take X.length (X.map eTg)=X.map eTg:=λX=>qzz qqz;rw [aF H.ao7 rfl];by_cases h1:A=[] <;> by_cases h2:B=[] <;> by_cases h3:D=[];all_goals
  try subst h1
  try subst h2
  try subst h3
  simp (disch:=omega) [*,aiJ,isE,t0]
 all_goals exact qzz (by simp <;> omega)
theorem aeu (x:List It) (i:Nat) (h:i < x.length):(tin x).take (i+1)=(tin x).take i++[⟨-1,true,x[i]⟩]:=by unfold tin;rw [qJq (by simpa using h)];simp
theorem aoJ (H:zf C) (T:List Tg) (e:Bool) (n:Nt) (hx:n.x.length<=100000) (R:Option AV)
 (hnext:∀ G:List Tg,G=tin n.x->CK C 0 (aO [.tmp 4]) [] yj ⟨[(5,.sl 0 6 0 G.length G.length false),(3,.ptr 1 0 0),(0,.ro 6 (T.map eTg) e)],[(0,.cells 6 (G.map eTg) true true),(1,.cells 5 [eNt n] true true)],2⟩=R):∀ m i,m+i=n.x.length->∀ G:List Tg,G=(tin n.x).take i ->
 FQ C ⟨[(6,.int .i64 i),(5,.sl 0 6 0 G.length G.length false),(3,.ptr 1 0 0),(0,.ro 6 (T.map eTg) e)],[(0,.cells 6 (G.map eTg) true true),(1,.cells 5 [eNt n] true true)],2⟩=R:=by
 intro m;have htl:(tin n.x).length=n.x.length:=by unfold tin;simp
 induction m with
 | zero =>
  intro i hi G hG;have h3:¬ i < n.x.length:=by omega
  have:=hnext G (by rw [hG];exact qzz qqq);simp only [FQ];rw [aj Bo.eq_1];simp at this;simp [h3,this]
 | succ m ih =>
  intro i hi G hG;have h1:i < n.x.length:=by omega
  have hGl:G.length=i:=by rw [hG];simp;omega
  have hcap:(G.length+1) * 73<=35184372088832:=by omega
  have:=ih (i+1) qqq (G++[⟨-1,true,n.x[i]⟩]) (by rw [aeu _ _ h1,hG]);simp only [FQ] at this |-;rw [aj Bo.eq_1];simp at this;simp (disch:=omega) [h1,hcap,aC,this]
structure air (T:List Tg) (n:Nt):Prop where
 k:1<=n.k/\n.k<=5
 a:n.k<=4->0<=n.a/\n.a<=T.length
 c:n.k=2\/n.k=3->0<=n.c/\n.a+n.c<=T.length
 t:n.k=3->0<=n.t/\n.t<=T.length - n.c
 x:n.k=4->n.a+n.x.length<=T.length
theorem X9 {l:List En} {n:Nt} {T:List Tg} (h:Ins l n) (hT:T.length=l.length):air T n :=⟨h.k,by rw [hT];exact h.a,by rw [hT];exact h.c,by rw [hT];exact h.t,by rw [hT];exact h.x⟩
theorem asn (H:zf C) (T:List Tg) (e:Bool) (hl:T.length<=100000) (n:Nt) (hx:n.x.length<=100000) (h:air T n) (h4:n.k≠4) (G:List Tg) (hG:G=tin n.x) :
 CK C 0 (aO [.tmp 4]) [] yj ⟨[(5,.sl 0 6 0 G.length G.length false),(3,.ptr 1 0 0),(0,.ro 6 (T.map eTg) e)],[(0,.cells 6 (G.map eTg) true true),(1,.cells 5 [eNt n] true true)],2⟩=some (.ro 6 ((kX T n).map eTg) false):=by
 have hGl:G.length=n.x.length:=by rw [hG];unfold tin;simp
 have t0:List.take G.length (G.map eTg)=G.map eTg:=qzz qqz;have dr0:∀ X:List Tg,X.drop 0=X:=λX=>rfl;have tkl:List.take T.length T=T:=qzz (qxq _);unfold kX;rw [aj yj.eq_1];by_cases k1:n.k=1
 ·obtain ⟨a,ha⟩:∃ a:Nat,n.a=a:=⟨n.a.toNat,by have:=h.a qqq;omega⟩;have hal:a<=T.length:=by have:=h.a qqq;omega
  have p1:=jy H T e 0 a qqq hal qqq;have p2:=jy H T e a T.length hal (qxq _) qqq;have j:=vW H (T.take a) G (T.drop a) false false false qqx;rw [dr0] at p1;rw [tkl] at p2;rw [qwz k1,ha,qWj];have e1:spl T a 0 (tin n.x)=T.take a++(G++T.drop a):=by rw [hG];simp [spl]
  rw [e1];simp at p1 p2 t0 j;simp (disch:=omega) [k1,ha,p1,p2,t0,j,aC,H.inl,ak,H.pp,ppB]
 ·by_cases k2:n.k=2
  ·obtain ⟨a,ha⟩:∃ a:Nat,n.a=a:=⟨n.a.toNat,by have:=h.a qqq;omega⟩;obtain ⟨c,hc⟩:∃ c:Nat,n.c=c:=⟨n.c.toNat,by have:=h.c qqq;omega⟩;have hal:a+c<=T.length:=by have:=h.c qqq;omega
   have p1:=jy H T e 0 a qqq qqq qqq;have p2:=jy H T e (a+c) T.length hal (qxq _) qqq;have j:=vW H (T.take a) [] (T.drop (a+c)) false true false qqx;rw [dr0] at p1;rw [tkl] at p2;rw [qwq k1,qwz k2,ha,hc,qWj,qWj];have e1:spl T a c []=T.take a++([]++T.drop (a+c)):=by simp [spl]
   rw [e1];simp at p1 p2 t0 j;simp (disch:=omega) [k2,ha,hc,p1,p2,t0,j,aC,H.inl,ak,H.pp,ppB]
  ·by_cases k3:n.k=3
   ·obtain ⟨a,ha⟩:∃ a:Nat,n.a=a:=⟨n.a.toNat,by have:=h.a qqq;omega⟩;obtain ⟨c,hc⟩:∃ c:Nat,n.c=c:=⟨n.c.toNat,by have:=h.c qqq;omega⟩;obtain ⟨t,ht⟩:∃ t:Nat,n.t=t:=⟨n.t.toNat,by have:=h.t qqq;omega⟩;have hal:a+c<=T.length:=by have:=h.c qqq;omega
    have htl:t<=T.length - c:=by have:=h.t qqq;omega
    have p1:=jy H T e 0 a qqq qqq qqq;have p2:=jy H T e (a+c) T.length hal (qxq _) qqq;have p5:=jy H T e a (a+c) qqq hal qqq;have j:=vW H (T.take a) [] (T.drop (a+c)) false true false qqx;rw [dr0] at p1;rw [tkl] at p2;rw [qwq k1,qwq k2,qwz k3,ha,hc,ht,qWj,qWj,qWj];have e1:spl T a c []=T.take a++([]++T.drop (a+c)):=by simp [spl]
    have hSl:(spl T a c []).length=T.length - c:=by rw [e1];simp;omega
    rw [<- e1] at j;generalize spl T a c []=S at *;have p3:=jy H S false 0 t qqq qqq qqq;have p4:=jy H S false t S.length qqq (qxq _) qqq;rw [dr0] at p3;rw [qzz (qxq S.length)] at p4;have j2:=vW H (S.take t) ((T.take (a+c)).drop a) (S.drop t) false false false qqx;have e2:spl S t 0 ((T.take (a+c)).drop a)=S.take t++((T.take (a+c)).drop a++S.drop t):=by simp [spl]
    rw [e2];generalize hM:(T.take (a+c)).drop a=M at *;have l1:¬ (T.length:Int)=0\/True:=.inr trivial;simp at p1 p2 p3 p4 p5 t0 j j2;simp (disch:=omega) [k3,ha,hc,ht,p1,p2,p3,p4,p5,t0,j,j2,aC,H.inl,ak,H.pp,ppB]
   ·have k5:n.k=5:=by have:=h.k;omega
    rw [qwq k1,qwq k2,qwq k3,qwq h4,<- hG];simp (disch:=omega) [k5,t0,aj GX.eq_1,aC,H.inl,ak,H.pp,ppB]
theorem YQ:∀ (T:List Tg) (x:List It) (i:Nat) (h1:i < x.length) (h2:x.length<=T.length),(tch T x)[i]?=some ⟨(T[i]'qqq).f,true,x[i]⟩
 | _,[],_,h,_=>by simp at h
 | [],_::_,_,_,h=>by simp at h
 | t::r,y::s,0,_,_=>by simp [tch]
 | t::r,y::s,i+1,h1,h2=>by have:=YQ r s i (by simpa using h1) (by simpa using h2);simpa [tch] using this
theorem avd (H:zf C) (T:List Tg) (e:Bool) (hl:T.length<=100000) (n:Nt) (hx:n.x.length<=100000) (h:air T n) (k4:n.k=4) (a:Nat) (ha:n.a=a) (hal:a+n.x.length<=T.length):∀ m i,m+i=n.x.length->∀ G:List Tg,G=(tch (T.drop a) n.x).take i++(tin n.x).drop i ->
 Gx C ⟨[(8,.int .i64 i),(5,.sl 0 6 0 n.x.length n.x.length false),(3,.ptr 1 0 0),(0,.ro 6 (T.map eTg) e)],[(0,.cells 6 (G.map eTg) true true),(1,.cells 5 [eNt n] true true)],2⟩=some (.ro 6 ((spl T a n.x.length (tch (T.drop a) n.x)).map eTg) false):=by
 have htl:(tin n.x).length=n.x.length:=by unfold tin;simp
 have hcl:(tch (T.drop a) n.x).length=n.x.length:=ais _ _ qqx;intro m;induction m with
 | zero =>
  intro i hi G hG;have h3:¬ i < n.x.length:=by omega
  have hG2:G=tch (T.drop a) n.x:=by have d0:(tin n.x).drop i=[]:=qwj qqq;rw [hG,qzz qqq,d0,qXz]
  have hGl:G.length=n.x.length:=by rw [hG2,hcl]
  have t0:List.take n.x.length (G.map eTg)=G.map eTg:=qzz qqx;have dr0:∀ X:List Tg,X.drop 0=X:=λX=>rfl;have tkl:List.take T.length T=T:=qzz (qxq _);have p1:=jy H T e 0 a qqq qqq qqq;have p2:=jy H T e (a+n.x.length) T.length hal (qxq _) qqq;have j:=vW H (T.take a) G (T.drop (a+n.x.length)) false false false qqx;have e1:spl T a n.x.length (tch (T.drop a) n.x)=T.take a++(G++T.drop (a+n.x.length)):=by rw [hG2];simp [spl]
  rw [e1];rw [dr0] at p1;rw [tkl] at p2;clear hG hG2;simp only [Gx];rw [aj Ce.eq_1];simp at p1 p2 t0 j;simp (disch:=omega) [aj Qe.eq_1,h3,ha,hGl,p1,p2,t0,j,aj GX.eq_1,aC,H.inl,ak,H.pp,ppB]
 | succ m ih =>
  intro i hi G hG;have h1:i < n.x.length:=by omega
  have h2:a+i < T.length:=by omega
  have hc:=YQ (T.drop a) n.x i h1 qqx;have hP:((tch (T.drop a) n.x).take i).length=i:=by simp;omega
  have hd:(tin n.x).drop i=⟨-1,true,n.x[i]⟩::(tin n.x).drop (i+1):=by rw [qbq qqq];unfold tin;simp
  have ht:(tch (T.drop a) n.x).take (i+1)=(tch (T.drop a) n.x).take i++[⟨T[a+i].f,true,n.x[i]⟩]:=by rw [q0q,hc];simp
  have:=ih (i+1) qqq ((tch (T.drop a) n.x).take i++⟨T[a+i].f,true,n.x[i]⟩::(tin n.x).drop (i+1)) (by rw [ht,qQj];rfl);rw [hd] at hG;generalize hPP:(tch (T.drop a) n.x).take i=P at *;generalize (tin n.x).drop (i+1)=D at *;generalize spl T a n.x.length (tch (T.drop a) n.x)=S at *;subst hG;have hPl:(P.map eTg).length=i:=by simpa using hP
  simp only [Gx] at this |-;rw [aj Ce.eq_1];simp [ha] at this;simp (disch:=omega) [h1,h2,ha,kF hPl,kH hPl,aC,this]
theorem LY (H:zf C) (T:List Tg) (e:Bool) (hl:T.length<=100000) (n:Nt) (hx:n.x.length<=100000) (h:air T n):FnW C 627 [.ro 6 (T.map eTg) e,.agg (eNt n)]=some (.ro 6 ((kX T n).map eTg) false):=by
 have hin:=aoJ H T e n hx (some (.ro 6 ((kX T n).map eTg) false)) (λG hG=>by
  by_cases k4:n.k=4
  ·have hGl:G.length=n.x.length:=by rw [hG];unfold tin;simp
   obtain ⟨a,ha⟩:∃ a:Nat,n.a=a:=⟨n.a.toNat,by have:=h.a qqq;omega⟩;have hal:a+n.x.length<=T.length:=by have:=h.x k4;omega
   have h4:=avd H T e hl n hx h k4 a ha hal n.x.length 0 rfl G (by rw [hG];simp);have e1:kX T n=spl T a n.x.length (tch (T.drop a) n.x):=by unfold kX;rw [qwq qqq,qwq qqq,qwq qqq,qwz k4,ha,qWj]
   rw [e1];generalize spl T a n.x.length (tch (T.drop a) n.x)=S at *;rw [hGl,aj yj.eq_1];simp only [Gx] at h4;simp [k4] at h4;simp (disch:=omega) [k4,h4,aC]
  ·exact asn H T e hl n hx h k4 G hG) n.x.length 0 rfl [] rfl
 rw [aF H.aoo rfl];generalize kX T n=S at *;simp only [FQ] at hin;simp at hin;simp (disch:=omega) [aiW,hin]
end Go.D
end
section
namespace Go.D
open Go Go.Pav Go.Pw P
attribute [-simp] List.getElem_cons_drop
def GdT (ks:List Kd) (l0:List En) (T:List Tg):Prop:=∀ t ∈ T,0<=t.f->(l0[t.f.toNat]?.getD zE).i.k=(jL ks l0 t).i.k
theorem Y5 (ks:List Kd) (l0:List En):∀ (T:List Tg) (x:List It),x.length<=T.length->(tch T x).map (jL ks l0)=x.map (fre ks)
 | _,[],_=>by cases ‹List Tg› <;> rfl
 | [],_::_,h=>by simp at h
 | t::r,y::s,h=>by rw [tch,qvz,qvz,Y5 ks l0 r s (by simpa using h)];unfold jL;rw [qwz rfl]
theorem Yz (ks:List Kd) (l0:List En) (x:List It):(tin x).map (jL ks l0)=x.map (fre ks):=by unfold tin;rw [qVz];refine qrj λy _=>?_;simp only [Function.comp,jL,qQx]
theorem afn {ks:List Kd} {l0 l:List En} {T:List Tg} {n:Nt} (h:Ins l n) (hT:T.map (jL ks l0)=l):(kX T n).map (jL ks l0)=apL ks l n:=by
 have hl:T.length=l.length:=by simpa using congrArg List.length hT
 unfold kX apL;split
 ·rw [bD,hT,Yz]
 ·split
  ·rw [bD,hT];rfl
  ·split
   ·rw [bD,bD,hT];simp only [qbx,qdj,hT,qax]
   ·split
    ·rename_i k4;have:=h.x k4;have h2:=h.a qqq;rw [bD,hT,Y5 _ _ _ _ (by rw [qaq];omega)]
    ·rw [Yz]
theorem abI (ks:List Kd) (l0:List En) (x:List It):GdT ks l0 (tin x):=by intro t ht hf;unfold tin at ht;obtain ⟨y,_,rfl⟩:=qyq.1 ht;simp at hf
theorem acZ (ks:List Kd) (l0:List En):∀ (T:List Tg) (x:List It),x.length<=T.length->(x.map λy=>y.k)=((T.map (jL ks l0)).map λe=>e.i.k).take x.length->GdT ks l0 T->GdT ks l0 (tch T x)
 | _,[],_,_,_=>λt ht=>by cases ‹List Tg› <;> cases ht
 | [],_::_,h,_,_=>by simp at h
 | t::r,y::s,h,hk,hg=>λu hu hf=>by
  simp only [qvz,qaz,List.take_succ_cons,q3x] at hk;rw [tch] at hu;rcases qkq.1 hu with rfl | hu
  ·have:=hg t qqz hf;simp only at hf |-;rw [this,<- hk.1];unfold jL;rw [qwz rfl];rfl
  ·exact acZ ks l0 r s (by simpa using h) hk.2 (λv hv=>hg v (by simp [hv])) u hu hf
theorem abj (l:List En):bH l=l.map λe=>e.i.k:=by
 induction l with
 | nil=>rfl
 | cons a r ih=>simp only [bH,qvz] at ih |-
theorem akx {ks:List Kd} {cap:Int} {l0 l:List En} {T:List Tg} {n:Nt} (hap:apE ks cap l n=0) (hT:T.map (jL ks l0)=l) (hg:GdT ks l0 T):GdT ks l0 (kX T n):=by
 have h:=zC hap;have hl:T.length=l.length:=by simpa using congrArg List.length hT
 unfold kX;split
 ·exact um _ _ hg (abI ks l0 n.x)
 ·split
  ·exact um _ _ hg qqz
  ·split
   ·exact um _ _ (um _ _ hg qqz) λt ht=>hg t (qZz (qQz ht))
   ·split
    ·rename_i k1 k2 k3 k4;have hx:=h.x k4;have h2:=h.a qqq;refine um _ _ hg ?_;have hF:eY ks cap l n.a.toNat n.x=0:=by
      unfold apE at hap;split at hap
      ·rename_i q;exact absurd hap q
      ·split at hap
       ·rename_i q;exact absurd hap q
       ·rename_i _ q;have q:apF ks cap l n=0:=by simpa using q
        unfold apF at q;rw [qwq k1,qwq k2,qwq k3,qwz k4] at q;split at q
        ·simp at q
        ·exact q
     have hk:=(UJ ks cap l n.x n.a.toNat qqq hF).2;refine acZ ks l0 _ _ (by rw [qaq];omega) ?_ λt ht=>hg t (qQz ht);rw [hk,abj,qbx,qbx,hT]
    ·exact abI ks l0 n.x
theorem YP {ks:List Kd} {cap:Int} {l0:List En}:∀ (x:List Nt) (l:List En) (T:List Tg),jE ks cap l x=0->T.map (jL ks l0)=l->GdT ks l0 T->(allT T x).map (jL ks l0)=allL ks l x/\GdT ks l0 (allT T x)
 | [],_,_,_,h,hg=>⟨h,hg⟩
 | n::r,l,T,h,hT,hg=>by
  rw [jE] at h;split at h
  ·rename_i h1;exact absurd h h1
  ·rename_i h1;have h1:apE ks cap l n=0:=by simpa using h1
   rw [allT,allL];exact YP r _ _ h (afn (zC h1) hT) (akx h1 hT hg)
theorem TM (ks:List Kd) (l:List En):(eF l).map (jL ks l)=l/\GdT ks l (eF l):=by
 have hm:∀ t ∈ eF l,jL ks l t=l[t.f.toNat]?.getD zE:=by
  intro t ht;have:t.b=false:=by have h:t.b ∈ (eF l).map (·.b):=qyq.2 ⟨t,ht,rfl⟩;rw [acB] at h;exact qgz h
  unfold jL;rw [qwq (by simp [this])]
 refine ⟨?_,λt ht _=>by rw [hm t ht]⟩;rw [qrj hm];have e:(eF l).map (λt=>l[t.f.toNat]?.getD zE)=((eF l).map (·.f)).map λk=>l[k.toNat]?.getD zE:=by rw [qVz];rfl
 rw [e,Nq];unfold idx;refine q6q qqz λi h1 h2=>?_;simp [qqj h2]
theorem JX:∀ T:List Tg,tgE (T.map (·.f)) (T.map (·.b)) (((T.filter (·.b)).map (·.i)).map It.own)=T.map λt=>if t.b=true then ⟨t.f,true,t.i.own⟩ else ⟨t.f,false,zE.i⟩
 | []=>by simp [tgE]
 | t::r=>by
  obtain ⟨f,b,i⟩:=t;cases b
  ·simp only [qvz,q2q,qjz,qWz,tgE,JX r]
  ·simp only [qvz,q2q,qQx,tgE,JX r]
theorem ahw {ks:List Kd} {cap:Int} {l:List En} {x:List Nt} (hE:jE ks cap l x=0) :
 ((tgN (yT l.length (allT (eF l) x))).map (jL ks l)).map En.own=(allL ks l x).map En.own/\(tgN (yT l.length (allT (eF l) x))).any (V3 l)=false:=by
 obtain ⟨h1,h2⟩:=YP x l (eF l) hE (TM ks l).1 (TM ks l).2;unfold tgN yT;simp only;rw [JX];constructor
 ·rw [<- h1];simp only [qVz];refine qrj λt _=>?_;simp only [Function.comp];by_cases c:t.b=true
  ·rw [qwz c];simp only [jL,c,qQx];rfl
  ·rw [qwq c];simp only [jL,c];rfl
 ·rw [q5x];intro u hu;obtain ⟨t,ht,rfl⟩:=qyq.1 hu;by_cases c:t.b=true
  ·rw [qwz c];unfold V3;simp only [qYj,qzq,qvj,not_and,ne_eq];intro hf;have:=h2 t ht hf;simp only [jL,c,qQx] at this;rw [this];exact λq=>q rfl
  ·rw [qwq c];unfold V3;simp
end Go.D
end
