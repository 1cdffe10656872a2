/- Part of the theory that the claims of this work use: D07, D08, D09, D10, D11, D12, D13, D14, D15, D16, D17, D18, D19, D20, D21, D22, D23, V600, D24, D25, D26, D27, D28, D29, D32, D34, D35, D36, GTy, V27, E01, E02, E03, E04. No conditions of its own. -/
import Derived.Test.YtfkdbfgdncamdaaGreatT5
set_option linter.unusedVariables false
set_option linter.unusedSimpArgs false
set_option maxHeartbeats 4000000
set_option maxRecDepth 10000
section
namespace Go.D
open Go Go.Pav Go.Pw P
attribute [-simp] List.getElem_cons_drop
variable {C:aJ}
structure Sl where
 n:Bs
 f:Int
 v:Bs
@[simp] def eSl (s:Sl):List AV:=[.str s.n,.int .u8 s.f,.str s.v]
structure Pt where
 k:Int
 t:Bs
 y:Bs
 s:List Sl
 se:Bool
 x:Bs
 ch:List Pt
 ce:Bool
mutual
def Pt.c:Pt→List AV
 | ⟨k,t,y,s,se,x,ch,ce⟩=>[.int .u8 k,.str t,.str y,.ro 3 (s.map eSl) se,.str x,.ro 6 (Pt.cs ch) ce]
def Pt.cs:List Pt→List (List AV)
 | []=>[]
 | n::r=>n.c::Pt.cs r
end
theorem Pt.Oo:∀ l:List Pt,Pt.cs l=l.map Pt.c
 | []=>rfl
 | n::r=>by rw [Pt.cs,Pt.Oo r];rfl
theorem Pt.bZ (n:Pt):n.c=[.int .u8 n.k,.str n.t,.str n.y,.ro 3 (n.s.map eSl) n.se,.str n.x,.ro 6 (n.ch.map Pt.c) n.ce]:=by
 cases n;rw [Pt.c,Pt.Oo]
@[simp] theorem Pt.akl (n:Pt):n.c.length=6:=by rw [Pt.bZ];rfl
@[simp] theorem Pt.ahc (n:Pt):n.c.take 6=n.c:=List.take_of_length_le (by simp)
@[simp] theorem Pt.c0 (n:Pt):n.c[0]?=some (.int .u8 n.k):=by rw [Pt.bZ];rfl
@[simp] theorem Pt.c1 (n:Pt):n.c[1]?=some (.str n.t):=by rw [Pt.bZ];rfl
@[simp] theorem Pt.c2 (n:Pt):n.c[2]?=some (.str n.y):=by rw [Pt.bZ];rfl
@[simp] theorem Pt.c3 (n:Pt):n.c[3]?=some (.ro 3 (n.s.map eSl) n.se):=by rw [Pt.bZ];rfl
@[simp] theorem Pt.c4 (n:Pt):n.c[4]?=some (.str n.x):=by rw [Pt.bZ];rfl
@[simp] theorem Pt.c5 (n:Pt):n.c[5]?=some (.ro 6 (n.ch.map Pt.c) n.ce):=by rw [Pt.bZ];rfl
@[simp] theorem Pt.g0 (n:Pt) (h:0 < n.c.length):n.c[0]=.int .u8 n.k:=Option.some.inj ((List.getElem?_eq_getElem h).symm.trans n.c0)
@[simp] theorem Pt.g1 (n:Pt) (h:1 < n.c.length):n.c[1]=.str n.t:=Option.some.inj ((List.getElem?_eq_getElem h).symm.trans n.c1)
@[simp] theorem Pt.g2 (n:Pt) (h:2 < n.c.length):n.c[2]=.str n.y:=Option.some.inj ((List.getElem?_eq_getElem h).symm.trans n.c2)
@[simp] theorem Pt.g3 (n:Pt) (h:3 < n.c.length):n.c[3]=.ro 3 (n.s.map eSl) n.se:=Option.some.inj ((List.getElem?_eq_getElem h).symm.trans n.c3)
@[simp] theorem Pt.g4 (n:Pt) (h:4 < n.c.length):n.c[4]=.str n.x:=Option.some.inj ((List.getElem?_eq_getElem h).symm.trans n.c4)
@[simp] theorem Pt.g5 (n:Pt) (h:5 < n.c.length):n.c[5]=.ro 6 (n.ch.map Pt.c) n.ce:=Option.some.inj ((List.getElem?_eq_getElem h).symm.trans n.c5)
@[simp] theorem Pt.hd (n:Pt):n.c.head?=some (.int .u8 n.k):=by rw [Pt.bZ];rfl
@[simp] theorem Pt.ajx (n:Pt):bT n.c=false:=by rw [Pt.bZ];rfl
@[simp] theorem Pt.afP (n:Pt) (h:aI) (k:Nat):aX (bD h (k+1)) n.c=some n.c:=by rw [Pt.bZ];rfl
@[simp] theorem Pt.adS (n:Pt) (h:aI) (k:Nat):n.c.flatMap (aT h (k+1))=[]:=by rw [Pt.bZ];rfl
@[simp] theorem Pt.ajo (n:Pt) (π:Nat→Option Nat):lH π n.c=some n.c:=by rw [Pt.bZ];rfl
@[simp] theorem Pt.ahQ (n:Pt):CX n.c=[]:=by rw [Pt.bZ];rfl
@[simp] theorem Pt.ai6 (n:Pt):n.c.all isC=true:=by rw [Pt.bZ];rfl
@[simp] theorem Pt.agA (n:Pt):n.c.all AV.cell=true:=by rw [Pt.bZ];rfl
theorem Pt.vM (n:Pt):SizeOf.sizeOf n.ch < SizeOf.sizeOf n:=by cases n;simp;omega
def kT:Option Bs→List Sl→Bool
 | _,[]=>true
 | p,s::r=>isName s.n&&decide (s.f≤3)&&isText s.v&&(decide (s.f≤0)||decide (s.v=[]))&&after p s.n&&kT (some s.n) r
def oO (p:Pt):Bool :=
 if p.k=1 then (decide (p.y=[])||isName p.y)&&decide (p.ch.length≤16)&&isName p.t&&(decide (p.s.length≤8)&&kT none p.s)&&decide (p.x=[])
 else if p.k=5 then isName p.t&&(decide (p.s.length≤8)&&kT none p.s)&&decide (p.y=[])&&decide (p.x=[])&&decide (p.ch=[])
 else if p.k=2 then isText p.x&&decide (p.t=[])&&decide (p.y=[])&&decide (p.s=[])&&decide (p.ch=[])
 else decide (p.k=3∨p.k=4)&&decide (p.t=[])&&decide (p.y=[])&&decide (p.x=[])&&decide (p.s=[])&&decide (p.ch=[])
structure Dp (C:aJ):Prop extends Ot C where
 aht:C.fns.get 581=some aeo
 agr:C.fns.get 579=some acn
 ahU:C.fns.get 585=some Zk
 aib:C.fns.get 549=some iI
 ahW:C.fns.get 502=some aaZ
 aha:C.fns.get 503=some acW
 agR:C.fns.get 548=some SS
 agd:C.fns.get 404=some ae4
 f231:C.fns.get 231=some abg
theorem PY (n:Nd) (h:n.ch=[]):cnt n=if alone n=true then 1 else 0:=by
 rw [GN,aez,h,rcs]
 cases alone n <;> simp
theorem wz (H:Dp C) (s:Bs):FnW C 581 [.str s]=some (.bool (isName s)):=by
 have h:FnW C 439 [.agg [.int .u8 1,.str s,.str [],.ro 2 [] true,.str [],.ro 6 [] true]]=_:=tY H.toOt ⟨1,s,[],[],true,[],[],true⟩
 rw [PY _ rfl] at h
 have e:alone ⟨1,s,[],[],true,[],[],true⟩=isName s:=by unfold alone;simp [atOk,ig]
 rw [e] at h
 rw [aO H.aht rfl]
 cases q:isName s <;> rw [q] at h <;> simp at h <;> simp [aeo,H.inl,aH,H.pp,ppB,h]
theorem BI (H:Dp C) (s:Bs):FnW C 579 [.str s]=some (.bool (isText s)):=by
 have h:FnW C 439 [.agg [.int .u8 2,.str [],.str [],.ro 2 [] true,.str s,.ro 6 [] true]]=_:=tY H.toOt ⟨2,[],[],[],true,s,[],true⟩
 rw [PY _ rfl] at h
 have e:alone ⟨2,[],[],[],true,s,[],true⟩=isText s:=by unfold alone;simp
 rw [e] at h
 rw [aO H.agr rfl]
 cases q:isText s <;> rw [q] at h <;> simp at h <;> simp [acn,H.inl,aH,H.pp,ppB,h]
theorem Ri (H:Dp C) (l:List Sl) (e:Bool) (hl:l.length≤1000000):∀ n i,n+i=l.length →
 Dv C ⟨[(10,.int .i64 i),(9,.int .i64 l.length),(8,.ro 3 (l.map eSl) e),(0,.ro 3 (l.map eSl) e)],[],0⟩ =
  some (.bool (kT (if i=0 then none else (l[i - 1]?).map Sl.n) (l.drop i))):=by
 intro n
 induction n with
 | zero =>
  intro i hi
  simp only [Dv];rw [au yU.eq_1]
  have h1:l.drop i=[]:=List.drop_eq_nil_of_le (by omega)
  have h3:¬ i < l.length:=by omega
  simp [au MC.eq_1,h1,h3,kT]
 | succ n ih =>
  intro i hi
  have h1:i < l.length:=by omega
  have hb:=wz H l[i].n
  have hc:=BI H l[i].v
  have:=ih (i+1) (by omega)
  rw [if_neg (by omega),show i+1 - 1=i from rfl,List.getElem?_eq_getElem h1] at this
  rw [drop_cons h1,kT]
  simp only [Dv] at this ⊢;rw [au yU.eq_1]
  simp only [Option.map_some] at this
  generalize kT (some l[i].n) (l.drop (i+1))=R at *
  cases q1:isName l[i].n
  · rw [q1] at hb
    simp (disch:=omega) [h1,aN,hb,H.inl,aH,H.pp,ppB]
  · rw [q1] at hb
    by_cases f3:l[i].f≤3
    · have f3':¬ 3 < l[i].f:=by omega
      cases q2:isText l[i].v
      · rw [q2] at hc
        simp (disch:=omega) [h1,aN,hb,hc,H.inl,aH,H.pp,ppB,f3,f3']
      · rw [q2] at hc
        by_cases f0:0 < l[i].f∧¬ l[i].v=[]
        · have f1:¬ l[i].f≤0:=by omega
          simp (disch:=omega) [h1,aN,hb,hc,H.inl,aH,H.pp,ppB,f3,f3',f0.1,f0.2,f1]
        · have key:(0 < l[i].f∧l[i].v=[])∨¬ 0 < l[i].f:=by
           by_cases a:0 < l[i].f
           · exact .inl ⟨a,Classical.byContradiction fun b=>f0 ⟨a,b⟩⟩
           · exact .inr a
          cases i with
          | zero =>
           simp at this
           rcases key with ⟨a,b⟩ | a
           · have b':=eq_true b
             simp (disch:=omega) [h1,aN,hb,hc,H.inl,aH,H.pp,ppB,f3,f3',a,b',this,after]
           · have a':l[0].f≤0:=by omega
             simp (disch:=omega) [h1,aN,hb,hc,H.inl,aH,H.pp,ppB,f3,f3',a,a',this,after]
          | succ i =>
           have h4:i < l.length:=by omega
           have h5:(i:Int)+1 < l.length:=by omega
           simp at this
           by_cases q3:l[i].n < l[i+1].n
           · have q4:¬ l[i+1].n≤l[i].n:=List.not_le.2 q3
             rcases key with ⟨a,b⟩ | a
             · have b':=eq_true b
               simp (disch:=omega) [h1,h4,h5,aN,hb,hc,H.inl,aH,H.pp,ppB,f3,f3',a,b',this,after,BJ,q3,q4]
             · have a':l[i+1].f≤0:=by omega
               simp (disch:=omega) [h1,h4,h5,aN,hb,hc,H.inl,aH,H.pp,ppB,f3,f3',a,a',this,after,BJ,q3,q4]
           · have q4:l[i+1].n≤l[i].n:=List.not_lt.1 q3
             rcases key with ⟨a,b⟩ | a
             · have b':=eq_true b
               simp (disch:=omega) [h1,h4,h5,aN,hb,hc,H.inl,aH,H.pp,ppB,f3,f3',a,b',this,after,BJ,q3,q4]
             · have a':l[i+1].f≤0:=by omega
               simp (disch:=omega) [h1,h4,h5,aN,hb,hc,H.inl,aH,H.pp,ppB,f3,f3',a,a',this,after,BJ,q3,q4]
    · have f3':3 < l[i].f:=by omega
      simp (disch:=omega) [h1,aN,hb,H.inl,aH,H.pp,ppB,f3,f3']
theorem aaY (H:Dp C) (l:List Sl) (e:Bool):FnW C 585 [.ro 3 (l.map eSl) e]=some (.bool (decide (l.length≤8)&&kT none l)):=by
 rw [aO H.ahU rfl]
 by_cases c:l.length≤8
 · have c1:¬ 8 < (l.length:Int):=by omega
   have h:=Ri H l e (by omega) l.length 0 (by simp)
   rw [List.drop_zero,if_pos rfl] at h
   generalize kT none l=R at *
   simp only [Dv] at h
   simp at h
   simp [Zk,c,c1,h]
 · have c1:8 < (l.length:Int):=by omega
   simp [Zk,c,c1]
end Go.D
end
section
namespace Go.D
open Go Go.Pav Go.Pw P
attribute [-simp] List.getElem_cons_drop
variable {C:aJ}
theorem Xn (H:Dp C) (p:Pt):FnW C 549 [.rop p.c]=some (.bool (oO p)):=by
 obtain ⟨k,t,y,s,se,x,ch,ce⟩:=p
 rw [aO H.aib rfl,Pt.bZ]
 simp only []
 unfold oO
 simp only []
 have ht:=wz H t
 have hy:=wz H y
 have hx:=BI H x
 have hs:=aaY H s se
 generalize isName t=T at *
 generalize isText x=X at *
 generalize (decide (s.length≤8)&&kT none s)=S at *
 by_cases k1:k=1
 · rw [if_pos k1]
   by_cases c2:y=[]
   · subst c2
     by_cases c5:ch.length≤16
     · have c7:¬ 16 < (ch.length:Int):=by omega
       cases T
       · simp [iI,k1,ht,hs,H.inl,aH,H.pp,ppB,c5,c7]
       · cases S
         · simp [iI,k1,ht,hs,H.inl,aH,H.pp,ppB,c5,c7]
         · by_cases c3:x=[] <;> simp [iI,k1,ht,hs,H.inl,aH,H.pp,ppB,c3,c5,c7]
     · have c7:16 < (ch.length:Int):=by omega
       simp [iI,k1,ht,hs,H.inl,aH,H.pp,ppB,c5,c7]
   · cases q2:isName y
     · rw [q2] at hy;simp [iI,k1,hy,H.inl,aH,H.pp,ppB,c2]
     · rw [q2] at hy
       by_cases c5:ch.length≤16
       · have c7:¬ 16 < (ch.length:Int):=by omega
         cases T
         · simp [iI,k1,ht,hy,hs,H.inl,aH,H.pp,ppB,c2,c5,c7]
         · cases S
           · simp [iI,k1,ht,hy,hs,H.inl,aH,H.pp,ppB,c2,c5,c7]
           · by_cases c3:x=[] <;> simp [iI,k1,ht,hy,hs,H.inl,aH,H.pp,ppB,c2,c3,c5,c7]
       · have c7:16 < (ch.length:Int):=by omega
         simp [iI,k1,ht,hy,hs,H.inl,aH,H.pp,ppB,c2,c5,c7]
 · rw [if_neg k1]
   by_cases k5:k=5
   · rw [if_pos k5]
     cases T
     · simp [iI,k5,ht,hs,H.inl,aH,H.pp,ppB]
     · cases S
       · simp [iI,k5,ht,hs,H.inl,aH,H.pp,ppB]
       · by_cases c2:y=[]
         · by_cases c3:x=[]
           · by_cases c4:ch=[]
             · simp [iI,k5,ht,hs,H.inl,aH,H.pp,ppB,c2,c3,c4]
             · simp [iI,k5,ht,hs,H.inl,aH,H.pp,ppB,c2,c3,c4]
           · simp [iI,k5,ht,hs,H.inl,aH,H.pp,ppB,c2,c3]
         · simp [iI,k5,ht,hs,H.inl,aH,H.pp,ppB,c2]
   · rw [if_neg k5]
     by_cases k2:k=2
     · rw [if_pos k2]
       cases X
       · simp [iI,k2,hx,H.inl,aH,H.pp,ppB]
       · by_cases c1:t=[]
         · by_cases c2:y=[]
           · by_cases c3:s=[]
             · by_cases c4:ch=[]
               · simp [iI,k2,hx,H.inl,aH,H.pp,ppB,c1,c2,c3,c4]
               · simp [iI,k2,hx,H.inl,aH,H.pp,ppB,c1,c2,c3,c4]
             · simp [iI,k2,hx,H.inl,aH,H.pp,ppB,c1,c2,c3]
           · simp [iI,k2,hx,H.inl,aH,H.pp,ppB,c1,c2]
         · simp [iI,k2,hx,H.inl,aH,H.pp,ppB,c1]
     · rw [if_neg k2]
       by_cases k34:k=3∨k=4
       · rcases k34 with k3 | k4
         · by_cases c1:t=[]
           · by_cases c2:y=[]
             · by_cases c0:x=[]
               · by_cases c3:s=[]
                 · by_cases c4:ch=[]
                   · simp [iI,k3,H.inl,aH,H.pp,ppB,c1,c2,c0,c3,c4]
                   · simp [iI,k3,H.inl,aH,H.pp,ppB,c1,c2,c0,c3,c4]
                 · simp [iI,k3,H.inl,aH,H.pp,ppB,c1,c2,c0,c3]
               · simp [iI,k3,H.inl,aH,H.pp,ppB,c1,c2,c0]
             · simp [iI,k3,H.inl,aH,H.pp,ppB,c1,c2]
           · simp [iI,k3,H.inl,aH,H.pp,ppB,c1]
         · by_cases c1:t=[]
           · by_cases c2:y=[]
             · by_cases c0:x=[]
               · by_cases c3:s=[]
                 · by_cases c4:ch=[]
                   · simp [iI,k4,H.inl,aH,H.pp,ppB,c1,c2,c0,c3,c4]
                   · simp [iI,k4,H.inl,aH,H.pp,ppB,c1,c2,c0,c3,c4]
                 · simp [iI,k4,H.inl,aH,H.pp,ppB,c1,c2,c0,c3]
               · simp [iI,k4,H.inl,aH,H.pp,ppB,c1,c2,c0]
             · simp [iI,k4,H.inl,aH,H.pp,ppB,c1,c2]
           · simp [iI,k4,H.inl,aH,H.pp,ppB,c1]
       · have k3:¬ k=3:=fun q=>k34 (.inl q)
         have k4:¬ k=4:=fun q=>k34 (.inr q)
         simp [iI,k1,k2,k3,k4,k5,H.inl,aH,H.pp,ppB]
mutual
/-- The walk below a part: whether it ends well, how many parts. -/
def tk:Pt→Nat→Nat→Bool × Nat
 | ⟨k,t,y,s,se,x,ch,ce⟩,lv,c=>if 6 < lv∨64 < c+1∨oO ⟨k,t,y,s,se,x,ch,ce⟩=false then (false,c+1) else tks ch (lv+1) (c+1)
def tks:List Pt→Nat→Nat→Bool × Nat
 | [],_,c=>(true,c)
 | m::r,lv,c=>if (tk m lv c).1=true then tks r lv (tk m lv c).2 else (false,(tk m lv c).2)
end
theorem afW (p:Pt) (lv c:Nat):tk p lv c=if 6 < lv∨64 < c+1∨oO p=false then (false,c+1) else tks p.ch (lv+1) (c+1):=by cases p;rw [tk]
mutual
theorem afv:∀ (p:Pt) (lv c:Nat),lv≤7→c≤64→(tk p lv c).1=true→(tk p lv c).2≤64
 | ⟨k,t,y,s,se,x,ch,ce⟩,lv,c,h1,h2=>by
  rw [tk]
  split
  · exact fun q=>by simp at q
  · rename_i h
    exact Zj ch (lv+1) (c+1) (by omega) (by omega)
theorem Zj:∀ (l:List Pt) (lv c:Nat),lv≤7→c≤64→(tks l lv c).1=true→(tks l lv c).2≤64
 | [],lv,c,h1,h2=>by rw [tks];exact fun _=>h2
 | m::r,lv,c,h1,h2=>by
  have h4:=afv m lv c h1 h2
  rw [tks]
  split
  · rename_i h
    exact Zj r lv _ h1 (h4 h)
  · exact fun q=>by simp at q
end
abbrev hpT (c:Nat):aI:=[(0,.cells 1 [[.fn 503 []]] true true),(7,.cells 1 [[.int .i64 c]] true true),(9,.cells 1 [[.fn 548 [.ptr 7 0 0,.ptr 0 0 0,.ptr 9 0 0]]] true false)]
def Vy (C:aJ) (p:Pt):Prop:=∀ (lv c n:Nat),10≤n→c≤64→lv≤7 →
 ∃ n',RnW C 548 [.rop p.c,.int .i64 lv,.ptr 7 0 0,.ptr 0 0 0,.ptr 9 0 0] (hpT c) n=some (.bool (tk p lv c).1,hpT (tk p lv c).2,n')
theorem Rz (H:Dp C) (p:Pt) (lv n:Nat) (hn:10≤n) (hlv:lv≤6) (hl:p.ch.length≤16) (ih:∀ m ∈ p.ch,Vy C m):∀ j i,j+i=p.ch.length→∀ c,c≤64 →
 ∃ n',CK C n (iR [.tmp 7]) [.sq KO,.bk 0 ⟨true,[],[]⟩,.sq Kr] wM ⟨[(30,.int .i64 i),(29,.int .i64 p.ch.length),(4,.ptr 9 0 0),(1,.int .i64 lv),(0,.rop p.c)],hpT c,n⟩ =
  some (.bool (tks (p.ch.drop i) (lv+1) c).1,hpT (tks (p.ch.drop i) (lv+1) c).2,n'):=by
 have n0:0 < n:=by omega
 have n1:7 < n:=by omega
 have n2:9 < n:=by omega
 intro j
 induction j with
 | zero =>
  intro i hi c hc
  have h1:p.ch.drop i=[]:=List.drop_eq_nil_of_le (by omega)
  have h3:¬ i < p.ch.length:=by omega
  rw [h1,tks,au wM.eq_1]
  refine ⟨?_,?_⟩
  rotate_left
  · simp (disch:=omega) [au Kr.eq_1,n0,n1,n2,h3]
    rfl
 | succ j ihj =>
  intro i hi c hc
  have h1:i < p.ch.length:=by omega
  obtain ⟨n',hw⟩:=ih _ (List.getElem_mem h1) (lv+1) c (n+1+1+1+11) (by omega) hc (by omega)
  have hb:=afv p.ch[i] (lv+1) c (by omega) hc
  rw [drop_cons h1,tks]
  generalize hR:tk p.ch[i] (lv+1) c=R at *
  obtain ⟨r,c'⟩:=R
  cases r with
  | true =>
   obtain ⟨n2',hw2⟩:=ihj (i+1) (by omega) c' (hb rfl)
   refine ⟨n2',?_⟩
   rw [if_pos rfl]
   rw [au wM.eq_1]
   simp at hw hw2
   simp (disch:=omega) [aN,H.inl,aH,H.pp,ppB,n0,n1,n2,h1,hw,hw2]
  | false =>
   rw [if_neg (by simp)]
   rw [au wM.eq_1]
   simp at hw
   refine ⟨?_,?_⟩
   rotate_left
   · simp (disch:=omega) [aN,H.inl,aH,H.pp,ppB,n0,n1,n2,h1,hw]
     rfl
theorem zL {p:Pt} (h:oO p=true):p.ch.length≤16:=by
 unfold oO at h
 split at h
 · simp at h;omega
 · split at h
   · simp at h;rw [h.2];simp
   · split at h
     · simp at h;rw [h.2];simp
     · simp at h;rw [h.2];simp
theorem Uc (H:Dp C) (p:Pt) (ih:∀ m ∈ p.ch,Vy C m):Vy C p:=by
 intro lv c n hn hc hlv
 rw [jR (args:=[.rop p.c,.int .i64 lv,.ptr 7 0 0,.ptr 0 0 0,.ptr 9 0 0]) H.agR rfl (hpT c) n,afW]
 have ha:=Xn H p
 have hu:FnW C 503 [.rop p.c]=some (.tup []):=by rw [aO H.aha rfl];simp [acW]
 have n0:0 < n:=by omega
 have n1:7 < n:=by omega
 have n2:9 < n:=by omega
 by_cases b1:6 < lv
 · rw [if_pos (.inl b1)]
   refine ⟨?_,?_⟩
   rotate_left
   · simp (disch:=omega) [SS,aN,H.inl,aH,H.pp,ppB,b1,n0,n1,n2]
     rfl
 · by_cases b2:64 < c+1
   · rw [if_pos (.inr (.inl b2))]
     have b2':64 < (c:Int)+1:=by omega
     refine ⟨?_,?_⟩
     rotate_left
     · simp (disch:=omega) [SS,aN,H.inl,aH,H.pp,ppB,b1,b2',n0,n1,n2]
       rfl
   · have b2':¬ 64 < (c:Int)+1:=by omega
     cases b3:oO p with
     | false =>
      rw [if_pos (.inr (.inr rfl))]
      rw [b3] at ha
      refine ⟨?_,?_⟩
      rotate_left
      · simp (disch:=omega) [SS,aN,H.inl,aH,H.pp,ppB,b1,b2',ha,n0,n1,n2]
        rfl
     | true =>
      rw [if_neg (by simp;omega)]
      have hl:=zL b3
      rw [b3] at ha
      obtain ⟨n',hw⟩:=Rz H p lv n hn (by omega) hl ih p.ch.length 0 (by simp) (c+1) (by omega)
      refine ⟨n',?_⟩
      rw [List.drop_zero] at hw
      generalize tks p.ch (lv+1) (c+1)=R at *
      simp only [hpT] at hw ⊢
      simp at hw
      simp (disch:=omega) [SS,aN,H.inl,aH,H.pp,ppB,b1,b2',ha,hu,n0,n1,n2,hw]
theorem Zb (H:Dp C) (p:Pt):Vy C p :=
 Uc H p (fun m hm=>Zb H m)
termination_by SizeOf.sizeOf p
decreasing_by
 have:=List.sizeOf_lt_of_mem hm
 have:=p.vM
 omega
def oQ (p:Pt):Nat:=if p.k=1∧(tk p 1 0).1=true then (tk p 1 0).2 else 0
theorem Z8 (H:Dp C) (p:Pt):FnW C 502 [.rop p.c,.fn 503 []]=some (.int .i64 (oQ p)):=by
 rw [aO H.ahW rfl]
 obtain ⟨n',h⟩:=Zb H p 1 0 15 (by omega) (by omega) (by omega)
 unfold oQ
 generalize tk p 1 0=R at *
 obtain ⟨r,c⟩:=R
 simp only [hpT] at h
 simp at h
 by_cases k1:p.k=1
 · cases r <;> simp [aaZ,H.inl,aH,H.pp,ppB,k1,h]
 · simp [aaZ,H.inl,aH,H.pp,ppB,k1]
theorem WU (H:Dp C) (p:Pt):FnW C 404 [.agg p.c]=some (.int .i64 (oQ p)):=by
 have h:=Z8 H p
 rw [aO H.agd rfl]
 simp [ae4,H.inl,aH,H.pp,ppB,h]
theorem Jv (H:Dp C) (p:Pt):FnW C 231 [.agg p.c]=some (.int .i64 (if oQ p=0 then 14 else 0)):=by
 have h:=WU H p
 rw [aO H.f231 rfl]
 by_cases c:oQ p=0
 · simp [abg,H.inl,aH,H.pp,ppB,h,c]
 · simp [abg,H.inl,aH,H.pp,ppB,h,c]
end Go.D
end
section
namespace Go.D
open Go Go.Pav Go.Pw P
attribute [-simp] List.getElem_cons_drop
variable {C:aJ}
structure NC (C:aJ):Prop extends Dp C where
 ah9:C.fns.get 594=some abT
 aam:C.fns.get 586=some lD
 ahZ:C.fns.get 550=some WM
 aiw:C.fns.get 505=some Xm
 ahn:C.fns.get 408=some abD
theorem OV (H:NC C) (l:List Sl) (e:Bool) (hl:l.length≤1000000) (hf:∀ s ∈ l,0≤s.f):∀ n i,n+i=l.length →
 Ez C ⟨[(3,.int .i64 i),(0,.ro 3 (l.map eSl) e)],[],0⟩ =
  some (.bool (kT (if i=0 then none else (l[i - 1]?).map Sl.n) (l.drop i))):=by
 intro n
 induction n with
 | zero =>
  intro i hi
  simp only [Ez];rw [au zZ.eq_1]
  have h1:l.drop i=[]:=List.drop_eq_nil_of_le (by omega)
  have h3:¬ i < l.length:=by omega
  simp [au Ny.eq_1,h1,h3,kT]
 | succ n ih =>
  intro i hi
  have h1:i < l.length:=by omega
  have hb:=oK H.tonU l[i].n
  have hc:=zi H.tonU l[i].v
  have h0:=hf _ (List.getElem_mem h1)
  have:=ih (i+1) (by omega)
  rw [if_neg (by omega),show i+1 - 1=i from rfl,List.getElem?_eq_getElem h1] at this
  rw [drop_cons h1,kT]
  simp only [Ez] at this ⊢;rw [au zZ.eq_1]
  simp only [Option.map_some] at this
  generalize kT (some l[i].n) (l.drop (i+1))=R at *
  cases q1:isName l[i].n
  · rw [q1] at hb
    simp (disch:=omega) [h1,aN,hb,H.inl,aH,H.pp,ppB]
  · rw [q1] at hb
    by_cases f3:l[i].f≤3
    · have f3':¬ 3 < l[i].f:=by omega
      cases q2:isText l[i].v
      · rw [q2] at hc
        simp (disch:=omega) [h1,aN,hb,hc,H.inl,aH,H.pp,ppB,f3,f3']
      · rw [q2] at hc
        by_cases f0:¬ l[i].f=0∧¬ l[i].v=[]
        · have f1:¬ l[i].f≤0:=by have:=f0.1;omega
          simp (disch:=omega) [h1,aN,hb,hc,H.inl,aH,H.pp,ppB,f3,f3',f0.1,f0.2,f1]
        · have key:(¬ l[i].f=0∧l[i].v=[])∨l[i].f=0:=by
           by_cases a:l[i].f=0
           · exact .inr a
           · exact .inl ⟨a,Classical.byContradiction fun b=>f0 ⟨a,b⟩⟩
          cases i with
          | zero =>
           simp at this
           rcases key with ⟨a,b⟩ | a
           · have b':=eq_true b
             simp (disch:=omega) [h1,aN,hb,hc,H.inl,aH,H.pp,ppB,f3,f3',a,b',this,after]
           · have a':l[0].f≤0:=by omega
             simp (disch:=omega) [h1,aN,hb,hc,H.inl,aH,H.pp,ppB,f3,f3',eq_true a,a',this,after]
          | succ i =>
           have h4:i < l.length:=by omega
           have h5:(i:Int)+1 < l.length:=by omega
           simp at this
           by_cases q3:l[i].n < l[i+1].n
           · have q4:¬ l[i+1].n≤l[i].n:=List.not_le.2 q3
             rcases key with ⟨a,b⟩ | a
             · have b':=eq_true b
               simp (disch:=omega) [h1,h4,h5,aN,hb,hc,H.inl,aH,H.pp,ppB,f3,f3',a,b',this,after,blt_eq,q3,q4]
             · have a':l[i+1].f≤0:=by omega
               simp (disch:=omega) [h1,h4,h5,aN,hb,hc,H.inl,aH,H.pp,ppB,f3,f3',eq_true a,a',this,after,blt_eq,q3,q4]
           · have q4:l[i+1].n≤l[i].n:=List.not_lt.1 q3
             rcases key with ⟨a,b⟩ | a
             · have b':=eq_true b
               simp (disch:=omega) [h1,h4,h5,aN,hb,hc,H.inl,aH,H.pp,ppB,f3,f3',a,b',this,after,blt_eq,q3,q4]
             · have a':l[i+1].f≤0:=by omega
               simp (disch:=omega) [h1,h4,h5,aN,hb,hc,H.inl,aH,H.pp,ppB,f3,f3',eq_true a,a',this,after,blt_eq,q3,q4]
    · have f3':3 < l[i].f:=by omega
      simp (disch:=omega) [h1,aN,hb,H.inl,aH,H.pp,ppB,f3,f3']
theorem WW (H:NC C) (l:List Sl) (e:Bool) (hf:∀ s ∈ l,0≤s.f):FnW C 594 [.ro 3 (l.map eSl) e]=some (.bool (decide (l.length≤8)&&kT none l)):=by
 rw [aO H.ah9 rfl]
 by_cases c:l.length≤8
 · have c1:¬ 8 < (l.length:Int):=by omega
   have h:=OV H l e (by omega) hf l.length 0 (by simp)
   rw [List.drop_zero,if_pos rfl] at h
   generalize kT none l=R at *
   simp only [Ez] at h
   simp at h
   simp [abT,c,c1,h]
 · have c1:8 < (l.length:Int):=by omega
   simp [abT,c,c1]
structure Fits (p:Pt):Prop where
 f:∀ s ∈ p.s,0≤s.f
 s:p.s.length≤9223372036854775807
 c:p.ch.length≤9223372036854775807
theorem anb {α β:Type} (a:List α) (b:List β) [Decidable (a=[])] [Decidable (b=[])]:((a.length:Int)+(b.length:Int) == 0)=(decide (a=[])&&decide (b=[])):=by
 cases a <;> cases b <;> simp <;> omega
theorem akc {α β:Type} (a:List α) (b:List β) (ha:a.length≤9223372036854775807) (hb:b.length≤9223372036854775807) [Decidable (a=[])] [Decidable (b=[])]:(IntKind.i64.wrap ((a.length:Int)+(b.length:Int)) == 0)=(decide (a=[])&&decide (b=[])):=by
 have h:(IntKind.i64.wrap ((a.length:Int)+(b.length:Int)) == 0)=((a.length:Int)+(b.length:Int) == 0):=by
  rw [Bool.eq_iff_iff]
  show ((if (true&&decide (((a.length:Int)+b.length) % 18446744073709551616 ≥ 9223372036854775808))=true then ((a.length:Int)+b.length) % 18446744073709551616 - 18446744073709551616 else ((a.length:Int)+b.length) % 18446744073709551616) == 0)=true↔_
  simp only [Bool.true_and,decide_eq_true_eq,beq_iff_eq]
  split <;> omega
 rw [h,anb]
theorem ad4 (H:NC C) (p:Pt) (hp:Fits p):FnW C 586 [.agg p.c]=some (.bool (oO p)):=by
 rw [aO H.aam rfl]
 unfold oO
 have ht:=oK H.tonU p.t
 have hy:=oK H.tonU p.y
 have hx:=zi H.tonU p.x
 have hs:=WW H p.s p.se hp.f
 have hl1:=hp.s
 have hl2:=hp.c
 have hz:(IntKind.i64.wrap ((p.s.length:Int)+(p.ch.length:Int)) == 0)=(decide (p.s=[])&&decide (p.ch=[])):=akc _ _ hl1 hl2
 generalize isName p.t=T at *
 generalize isText p.x=X at *
 generalize (decide (p.s.length≤8)&&kT none p.s)=S at *
 by_cases k1:p.k=1
 · rw [if_pos k1]
   cases T
   · simp [lD,k1,ht,H.inl,aH,H.pp,ppB]
   · by_cases c2:p.y=[]
     · have c2':=eq_true c2
       cases S
       · simp [lD,k1,ht,hs,H.inl,aH,H.pp,ppB,c2']
       · by_cases c3:p.x=[]
         · have c3':=eq_true c3
           by_cases c5:p.ch.length≤16
           · have c7:(p.ch.length:Int)≤16:=by omega
             simp [lD,k1,ht,hs,H.inl,aH,H.pp,ppB,c2',c3',c5,c7]
           · have c7:¬ (p.ch.length:Int)≤16:=by omega
             simp [lD,k1,ht,hs,H.inl,aH,H.pp,ppB,c2',c3',c5,c7]
         · simp [lD,k1,ht,hs,H.inl,aH,H.pp,ppB,c2',c3]
     · cases q2:isName p.y
       · rw [q2] at hy;simp [lD,k1,ht,hy,H.inl,aH,H.pp,ppB,c2]
       · rw [q2] at hy
         cases S
         · simp [lD,k1,ht,hy,hs,H.inl,aH,H.pp,ppB,c2]
         · by_cases c3:p.x=[]
           · have c3':=eq_true c3
             by_cases c5:p.ch.length≤16
             · have c7:(p.ch.length:Int)≤16:=by omega
               simp [lD,k1,ht,hy,hs,H.inl,aH,H.pp,ppB,c2,c3',c5,c7]
             · have c7:¬ (p.ch.length:Int)≤16:=by omega
               simp [lD,k1,ht,hy,hs,H.inl,aH,H.pp,ppB,c2,c3',c5,c7]
           · simp [lD,k1,ht,hy,hs,H.inl,aH,H.pp,ppB,c2,c3]
 · rw [if_neg k1]
   by_cases k5:p.k=5
   · rw [if_pos k5]
     cases T
     · simp [lD,k5,ht,hs,H.inl,aH,H.pp,ppB]
     · cases S
       · simp [lD,k5,ht,hs,H.inl,aH,H.pp,ppB]
       · by_cases c2:p.y=[]
         · by_cases c3:p.x=[]
           · by_cases c4:p.ch=[] <;> simp [lD,k5,ht,hs,H.inl,aH,H.pp,ppB,eq_true c2,eq_true c3,c4]
           · simp [lD,k5,ht,hs,H.inl,aH,H.pp,ppB,eq_true c2,c3]
         · simp [lD,k5,ht,hs,H.inl,aH,H.pp,ppB,c2]
   · rw [if_neg k5]
     by_cases k2:p.k=2
     · rw [if_pos k2]
       cases X
       · simp [lD,k2,hx,H.inl,aH,H.pp,ppB]
       · by_cases c1:p.t=[]
         · by_cases c2:p.y=[]
           · simp (disch:=omega) [lD,k2,hx,H.inl,aH,H.pp,ppB,eq_true c1,eq_true c2,hz]
           · simp [lD,k2,hx,H.inl,aH,H.pp,ppB,eq_true c1,c2]
         · simp [lD,k2,hx,H.inl,aH,H.pp,ppB,c1]
     · rw [if_neg k2]
       by_cases k34:p.k=3∨p.k=4
       · have rest:FnW C 586 [.agg p.c]=some (.bool (decide (p.t=[])&&decide (p.y=[])&&decide (p.x=[])&&decide (p.s=[])&&decide (p.ch=[]))):=by
          rw [aO H.aam rfl]
          by_cases c0:p.x=[]
          · by_cases c1:p.t=[]
            · by_cases c2:p.y=[]
              · rcases k34 with k3 | k3 <;> simp (disch:=omega) [lD,k3,H.inl,aH,H.pp,ppB,eq_true c0,eq_true c1,eq_true c2,hz]
              · rcases k34 with k3 | k3 <;> simp [lD,k3,H.inl,aH,H.pp,ppB,eq_true c0,eq_true c1,c2]
            · rcases k34 with k3 | k3 <;> simp [lD,k3,H.inl,aH,H.pp,ppB,eq_true c0,c1]
          · rcases k34 with k3 | k3 <;> simp [lD,k3,H.inl,aH,H.pp,ppB,c0]
         rw [aO H.aam rfl] at rest
         rw [rest]
         simp [k34]
       · have k3:¬ p.k=3:=fun q=>k34 (.inl q)
         have k4:¬ p.k=4:=fun q=>k34 (.inr q)
         simp [lD,k1,k2,k3,k4,k5,H.inl,aH,H.pp,ppB]
inductive fG:Pt→Prop
 | mk (p:Pt) (h:Fits p) (hm:∀ m ∈ p.ch,fG m):fG p
mutual
/-- The specification's count, with so many levels. -/
def trc:Pt→Nat→Nat
 | _,0=>1000
 | ⟨k,t,y,s,se,x,ch,ce⟩,lv+1=>if oO ⟨k,t,y,s,se,x,ch,ce⟩=true then sS ch lv 1 else 1000
def sS:List Pt→Nat→Nat→Nat
 | [],_,c=>c
 | m::r,lv,c=>if c≤64 then sS r lv (c+trc m lv) else c
end
theorem afR (n:Pt):trc n 0=1000:=by cases n;rw [trc]
theorem afG (n:Pt) (lv:Nat):trc n (lv+1)=if oO n=true then sS n.ch lv 1 else 1000:=by cases n;rw [trc]
theorem NM:∀ (l:List Pt) (lv c:Nat),c≤sS l lv c
 | [],lv,c=>by rw [sS];exact Nat.le_refl _
 | m::r,lv,c=>by
  rw [sS]
  split
  · have:=NM r lv (c+trc m lv);omega
  · exact Nat.le_refl _
theorem ah4 (n:Pt) (lv:Nat):1≤trc n lv:=by
 cases lv with
 | zero=>rw [afR];omega
 | succ lv =>
  rw [afG]
  split
  · exact NM _ _ _
  · omega
mutual
theorem abo:∀ (n:Pt) (lv:Nat),trc n lv≤1000+64 * lv
 | ⟨k,t,y,s,se,x,ch,ce⟩,0=>by rw [trc];omega
 | ⟨k,t,y,s,se,x,ch,ce⟩,lv+1=>by
  rw [trc]
  split
  · have:=UN ch lv 1 (by omega);omega
  · omega
theorem UN:∀ (l:List Pt) (lv c:Nat),c≤1064+64 * lv→sS l lv c≤1064+64 * lv
 | [],lv,c,h=>by rw [sS];exact h
 | m::r,lv,c,h=>by
  rw [sS]
  split
  · have h2:=abo m lv
    exact UN r lv _ (by omega)
  · exact h
end
mutual
theorem afg:∀ (n:Pt) (lv L c:Nat),lv+L=7→c≤64→((tk n L c).1=true→(tk n L c).2=c+trc n lv∧c+trc n lv≤64)∧((tk n L c).1=false→64 < c+trc n lv)
 | ⟨k,t,y,s,se,x,ch,ce⟩,lv,L,c,h1,h2=>by
  have hge:=ah4 ⟨k,t,y,s,se,x,ch,ce⟩ lv
  rw [tk]
  by_cases q:6 < L∨64 < c+1∨oO ⟨k,t,y,s,se,x,ch,ce⟩=false
  · rw [if_pos q]
    refine ⟨fun r=>by simp at r,fun _=>?_⟩
    rcases q with q | q | q
    · have:lv=0:=by omega
      subst this
      rw [trc];omega
    · omega
    · cases lv with
      | zero=>rw [trc];omega
      | succ lv=>rw [trc,if_neg (by simp [q])];omega
  · rw [if_neg q]
    cases lv with
    | zero=>omega
    | succ lv =>
     rw [trc,if_pos (by simpa using fun r=>q (.inr (.inr r)))]
     exact ZI ch lv (L+1) c 1 (by omega) (by omega)
theorem ZI:∀ (l:List Pt) (lv L g c:Nat),lv+L=7→g+c≤64→((tks l L (g+c)).1=true→(tks l L (g+c)).2=g+sS l lv c∧g+sS l lv c≤64)∧((tks l L (g+c)).1=false→64 < g+sS l lv c)
 | [],lv,L,g,c,h1,h2=>by
  rw [tks,sS];exact ⟨fun _=>⟨rfl,h2⟩,fun r=>by simp at r⟩
 | m::r,lv,L,g,c,h1,h2=>by
  have hm:=afg m lv L (g+c) h1 h2
  have hr:sS (m::r) lv c=sS r lv (c+trc m lv):=by rw [sS,if_pos (by omega)]
  rw [tks,hr]
  generalize tk m L (g+c)=R at *
  obtain ⟨b,c'⟩:=R
  cases b with
  | true =>
   obtain ⟨e1,e2⟩:=hm.1 rfl
   rw [if_pos rfl]
   simp only at e1
   rw [e1,Nat.add_assoc]
   exact ZI r lv L g (c+trc m lv) h1 (by omega)
  | false =>
   have e:=hm.2 rfl
   rw [if_neg (by simp)]
   refine ⟨fun q=>by simp at q,fun _=>?_⟩
   have:=NM r lv (c+trc m lv)
   omega
end
theorem aci (p:Pt):oQ p=if p.k≠1∨64 < trc p 6 then 0 else trc p 6:=by
 have h:=afg p 6 1 0 rfl (by omega)
 unfold oQ
 generalize tk p 1 0=R at *
 obtain ⟨b,c⟩:=R
 by_cases k1:p.k=1
 · cases b with
   | true =>
    obtain ⟨e1,e2⟩:=h.1 rfl
    simp only at e1
    rw [if_pos ⟨k1,rfl⟩,if_neg (by intro q;rcases q with q | q;exact q k1;omega)];simp only;omega
   | false =>
    have e:=h.2 rfl
    rw [if_neg (by simp),if_pos (.inr (by omega))]
 · rw [if_neg (fun q=>k1 q.1),if_pos (.inl k1)]
abbrev hpP (p:Pt):aI:=[(0,.cells 6 [p.c] true true)]
theorem La (H:NC C) (n:Pt) (lv:Nat) (hlv:lv≤5) (hl:n.ch.length≤16) (ih:∀ m ∈ n.ch,FnW C 550 [.agg m.c,.int .i64 lv]=some (.int .i64 (trc m lv))):∀ j i,j+i=n.ch.length→∀ c,c≤1064+64 * lv →
 yg C ⟨[(6,.int .i64 i),(5,.int .i64 c),(2,.ptr 0 0 0),(1,.int .i64 (lv+1:Nat))],hpP n,1⟩=some (.int .i64 (sS (n.ch.drop i) lv c)):=by
 intro j
 induction j with
 | zero =>
  intro i hi c hc
  simp only [yg];rw [au vC.eq_1]
  have h1:n.ch.drop i=[]:=List.drop_eq_nil_of_le (by omega)
  have h3:¬ i < n.ch.length:=by omega
  rw [h1,sS]
  simp [au Eb.eq_1,h3]
 | succ j ihj =>
  intro i hi c hc
  have h1:i < n.ch.length:=by omega
  have hm:=ih _ (List.getElem_mem h1)
  have hle:=abo n.ch[i] lv
  rw [drop_cons h1,sS]
  by_cases c1:c≤64
  · have:=ihj (i+1) (by omega) (c+trc n.ch[i] lv) (by omega)
    rw [if_pos c1]
    have c2:(c:Int)≤64:=by omega
    simp only [yg] at this ⊢;rw [au vC.eq_1]
    simp at this
    simp (disch:=omega) [h1,c1,c2,aN,hm,H.inl,aH,H.pp,ppB,this]
  · rw [if_neg c1]
    have c2:¬ (c:Int)≤64:=by omega
    simp only [yg];rw [au vC.eq_1]
    simp (disch:=omega) [au Eb.eq_1,h1,c1,c2]
theorem JF (H:NC C) (n:Pt) (hf:Fits n) (ih:∀ m ∈ n.ch,∀ lv:Nat,lv≤6→FnW C 550 [.agg m.c,.int .i64 lv]=some (.int .i64 (trc m lv))) (lv:Nat) (hlv:lv≤6):FnW C 550 [.agg n.c,.int .i64 lv]=some (.int .i64 (trc n lv)):=by
 have ho:=ad4 H n hf
 rw [aO H.ahZ rfl]
 cases lv with
 | zero=>rw [afR];simp [WM]
 | succ lv =>
  rw [afG]
  have c1:¬ (lv:Int)+1 < 1:=by omega
  cases ha:oO n with
  | false=>rw [ha] at ho;simp [WM,c1,ho,H.inl,aH,H.pp,ppB]
  | true =>
   rw [ha] at ho
   have hr:=La H n lv (by omega) (zL ha) (fun m hm=>ih m hm lv (by omega)) n.ch.length 0 (by simp) 1 (by omega)
   rw [List.drop_zero] at hr
   simp only [yg] at hr
   simp at hr
   simp [WM,c1,ho,H.inl,aH,H.pp,ppB,hr]
theorem Sm (H:NC C) (p:Pt) (hf:fG p):∀ lv:Nat,lv≤6→FnW C 550 [.agg p.c,.int .i64 lv]=some (.int .i64 (trc p lv)):=by
 induction hf with
 | mk p h hm ih=>exact fun lv hlv=>JF H p h (fun m hm lv hlv=>ih m hm lv hlv) lv hlv
theorem TF (H:NC C) (p:Pt) (hf:fG p):FnW C 505 [.agg p.c]=some (.int .i64 (oQ p)):=by
 have h:=Sm H p hf 6 (by omega)
 rw [aO H.aiw rfl,aci]
 generalize trc p 6=R at *
 simp at h
 by_cases k1:p.k=1
 · by_cases c:64 < R
   · have c1:64 < (R:Int):=by omega
     simp [Xm,H.inl,aH,H.pp,ppB,h,c,c1,k1]
   · have c1:¬ 64 < (R:Int):=by omega
     simp [Xm,H.inl,aH,H.pp,ppB,h,c,c1,k1]
 · simp [Xm,H.inl,aH,H.pp,ppB,h,k1]
theorem Ud (H:NC C) (p:Pt) (hf:fG p):FnW C 408 [.agg p.c]=some (.int .i64 (if oQ p=0 then 14 else 0)):=by
 have h:=TF H p hf
 rw [aO H.ahn rfl]
 by_cases c:oQ p=0
 · simp [abD,H.inl,aH,H.pp,ppB,h,c]
 · simp [abD,H.inl,aH,H.pp,ppB,h,c]
end Go.D
end
section
namespace Go.D
open Go Go.Pav Go.Pw P
attribute [-simp] List.getElem_cons_drop
variable {C:aJ}
structure X9 (C:aJ):Prop extends NC C,QD C where
 ahA:C.fns.get 546=some QX
 ah7:C.fns.get 580=some aep
 agW:C.fns.get 512=some Ue
def Ag (i:It):Bool:=decide (i.k≠0)&&isText i.x&&(decide (i.m.length≤8)&&i.m.all isName)
theorem aee (H:X9 C):U5 C 580 isName where
 ok s:=by
  have:=wz H.toDp s
  rw [aO H.ah7 rfl]
  simp [aep,H.inl,aH,H.pp,ppB,this]
 ne:=by rfl
 ni:=by rfl
theorem abP (H:X9 C) (i:It):FnW C 546 [eIt i]=some (.int .i64 (if Ag i=true then 0 else 6)):=by
 have hx:=BI H.toDp i.x
 rw [aO H.ahA rfl]
 unfold Ag
 generalize isText i.x=X at *
 by_cases c1:i.k=0
 · simp [QX,eq_true c1]
 · cases X
   · simp [QX,c1,hx,H.inl,aH,H.pp,ppB]
   · by_cases c2:i.m.length≤8
     · have c3:¬ 8 < (i.m.length:Int):=by omega
       have hm:=y7 H.toQD (aee H) i.m i.e (by omega)
       generalize i.m.all isName=M at *
       cases M <;> simp at hm <;> simp [QX,c1,hx,c2,c3,hm,H.inl,aH,H.pp,ppB]
     · have c3:8 < (i.m.length:Int):=by omega
       simp [QX,c1,hx,c2,c3,H.inl,aH,H.pp,ppB]
theorem QN (H:X9 C) (k t:Int) (x:Bs) (m:List Bs) (e:Bool) (hl:m.length≤8):∀ n i,n+i=m.length →
 Ep C ⟨[(3,.int .i64 i),(1,.ptr 0 0 0)],[(0,.cells 4 [[.int .u64 k,.int .u8 t,.str x,.ro 1 (m.map eS) e]] true true)],1⟩ =
  some (.int .i64 (if (m.drop i).all isName=true then 0 else 6)):=by
 intro n
 induction n with
 | zero =>
  intro i hi
  simp only [Ep];rw [au Ap.eq_1]
  have h1:m.drop i=[]:=List.drop_eq_nil_of_le (by omega)
  have h3:¬ i < m.length:=by omega
  simp [au Lr.eq_1,h1,h3]
 | succ n ih =>
  intro i hi
  have h1:i < m.length:=by omega
  have:=ih (i+1) (by omega)
  have hb:=oK H.tonU m[i]
  rw [drop_cons h1]
  generalize hX:(m.drop (i+1)).all isName=X at *
  rw [List.all_cons,hX]
  simp only [Ep] at this ⊢;rw [au Ap.eq_1]
  cases hn:isName m[i]
  · rw [hn] at hb
    simp (disch:=omega) [h1,aN,hb,H.inl,aH,H.pp,ppB]
  · rw [hn] at hb
    simp at this
    simp (disch:=omega) [h1,aN,hb,H.inl,aH,H.pp,ppB,this]
theorem YU (H:X9 C) (i:It):FnW C 512 [eIt i]=some (.int .i64 (if Ag i=true then 0 else 6)):=by
 have hx:=zi H.tonU i.x
 rw [aO H.agW rfl]
 unfold Ag
 generalize isText i.x=X at *
 by_cases c1:i.k=0
 · simp [Ue,eq_true c1]
 · cases X
   · simp [Ue,c1,hx,H.inl,aH,H.pp,ppB]
   · by_cases c2:i.m.length≤8
     · have c3:¬ 8 < (i.m.length:Int):=by omega
       have hm:=QN H i.k i.t i.x i.m i.e c2 i.m.length 0 (by simp)
       rw [List.drop_zero] at hm
       generalize i.m.all isName=M at *
       simp only [Ep] at hm
       simp at hm
       simp [Ue,c1,hx,c2,c3,hm,H.inl,aH,H.pp,ppB]
     · have c3:8 < (i.m.length:Int):=by omega
       simp [Ue,c1,hx,c2,c3,H.inl,aH,H.pp,ppB]
def dec (n:Nat):Bs:=if h:n < 10 then [UInt8.ofNat (48+n)] else dec (n / 10)++[UInt8.ofNat (48+n % 10)]
termination_by n
theorem VL:∀ (k n:Nat),n < 10 ^ (k+1)→(dec n).length≤k+1
 | 0,n,h=>by unfold dec;rw [dif_pos (by simpa using h)];simp
 | k+1,n,h=>by
  unfold dec
  split
  · simp
  · have:=VL k (n / 10) (by rw [Nat.pow_succ] at h;omega)
    simp;omega
structure Yx (C:aJ):Prop extends X9 C where
 agm:C.fns.get 584=some adR
 aeJ:C.fns.get 558=some YL
theorem Vm (n:Nat) (h:n < 10):dec n=[UInt8.ofNat (48+n)]:=by unfold dec;rw [dif_pos h]
theorem UM (H:Yx C) (n:Nat) (h:n < 10):FnW C 558 [.int .u64 n]=some (.str (dec n)):=by
 rw [aO H.aeJ rfl,Vm n h]
 obtain rfl | rfl | rfl | rfl | rfl | rfl | rfl | rfl | rfl | rfl:n=0∨n=1∨n=2∨n=3∨n=4∨n=5∨n=6∨n=7∨n=8∨n=9:=by omega
 all_goals (simp (disch:=omega) [YL,xu];try rfl)
theorem Xh (H:Yx C) (n:Nat) (h:n < 18446744073709551616) (ih:∀ m < n,FnW C 558 [.int .u64 m]=some (.str (dec m))):FnW C 558 [.int .u64 n]=some (.str (dec n)):=by
 by_cases c:n < 10
 · exact UM H n c
 · have h1:=ih (n / 10) (by omega)
   have h2:=UM H (n % 10) (by omega)
   have hl:=VL 19 (n / 10) (by omega)
   rw [Vm _ (by omega)] at h2
   rw [aO H.aeJ rfl]
   rw [dec,dif_neg c]
   have e1:(n:Int).tdiv 10=((n / 10:Nat):Int):=by rw [Int.tdiv_eq_ediv_of_nonneg (by omega)];omega
   have e2:(n:Int).tmod 10=((n % 10:Nat):Int):=by rw [Int.tmod_eq_emod_of_nonneg (by omega)];omega
   have c2:¬ (n:Int) < 10:=by omega
   have hm:(dec (n / 10)).length+1≤maxStr:=by unfold maxStr;omega
   have b1:n / 10≤n:=by omega
   have b2:n % 10≤n:=by omega
   generalize dec (n / 10)=D at *
   generalize UInt8.ofNat (48+n % 10)=dg at *
   generalize n / 10=q at *
   generalize n % 10=r at *
   simp (disch:=omega) [YL,xu,c2,e1,e2,h1,h2,hm,H.inl,aH,H.pp,ppB]
theorem NZ (H:Yx C) (n:Nat):n < 18446744073709551616→FnW C 558 [.int .u64 n]=some (.str (dec n)):=by
 induction n using Nat.strongRecOn with
 | ind n ih=>exact fun h=>Xh H n h (fun m hm=>ih m hm (by omega))
theorem bytesOf_map:∀ l:List UInt8,bytesOf (l.map fun b=>[AV.int .u8 b.toNat])=some l
 | []=>rfl
 | b::r=>by
  rw [List.map_cons,bytesOf,bytesOf_map r]
  simp
theorem Yp (r:Nat) (h:r < 10):([48,49,50,51,52,53,54,55,56,57]:List UInt8)[r]'(by simpa using h)=UInt8.ofNat (48+r):=by
 obtain rfl | rfl | rfl | rfl | rfl | rfl | rfl | rfl | rfl | rfl:r=0∨r=1∨r=2∨r=3∨r=4∨r=5∨r=6∨r=7∨r=8∨r=9:=by omega
 all_goals rfl
theorem YK:∀ (i n:Nat) (acc:List UInt8),acc.length+i=19→n < 10 ^ (i+1)→n < 18446744073709551616 →
 Ef C ⟨[(4,.int .i64 (i+1:Nat)),(3,.ptr 0 0 0),(0,.int .u64 n)],[(0,.cells 20 [List.replicate i (AV.int .u8 0)++AV.int .u8 0::acc.map fun b=>AV.int .u8 b.toNat] true true)],1⟩=some (.str (dec n++acc)):=by
 intro i
 induction i with
 | zero =>
  intro n acc ha hn hb
  have e1:(n:Int).tdiv 10=0:=by rw [Int.tdiv_eq_ediv_of_nonneg (by omega)];omega
  have e2:(n:Int).tmod 10=n:=by rw [Int.tmod_eq_emod_of_nonneg (by omega)];omega
  have hr:n < 10:=by simpa using hn
  have hd:=Yp n hr
  have h19:19≤acc.length:=by omega
  rw [Vm n hr]
  generalize UInt8.ofNat (48+n)=dg at *
  have hm:bytesOf ([AV.int .u8 dg.toNat]::List.map ((fun x=>[x]) ∘ fun b:UInt8=>AV.int .u8 b.toNat) acc)=some (dg::acc):=bytesOf_map (dg::acc)
  simp only [Ef];rw [au yR.eq_1]
  simp (disch:=(first | omega | (simp;done) | (simp;omega))) [aN,xu,e1,e2,hr,hd,h19,hm,List.take_of_length_le,P9]
 | succ i ih =>
  intro n acc ha hn hb
  have e1:(n:Int).tdiv 10=((n / 10:Nat):Int):=by rw [Int.tdiv_eq_ediv_of_nonneg (by omega)];omega
  have e2:(n:Int).tmod 10=((n % 10:Nat):Int):=by rw [Int.tmod_eq_emod_of_nonneg (by omega)];omega
  have hr:n % 10 < 10:=by omega
  have hq:n / 10 < 10 ^ (i+1):=by rw [Nat.pow_succ] at hn;omega
  have hqb:n / 10≤n:=by omega
  have h18:acc.length+i=18:=by omega
  have hi:i+1 < 20:=by omega
  have h20:20≤i+1+(acc.length+1):=by omega
  have hi19:i≤19:=by omega
  have hd:=Yp (n % 10) hr
  have ih':=fun dg=>ih (n / 10) (dg::acc) (by simp;omega) hq (by omega)
  have hdec:dec n=(if n / 10=0 then [] else dec (n / 10))++[UInt8.ofNat (48+n % 10)]:=by
   by_cases c:n < 10
   · have:n / 10=0:=by omega
     have h2:n % 10=n:=by omega
     rw [Vm n c,this,h2];simp
   · rw [dec,dif_neg c,if_neg (by omega)]
  rw [hdec]
  have t1:∀ (z:AV) (L:List AV),List.take (i+1) (List.replicate (i+1) z++L)=List.replicate (i+1) z:=fun z L=>List.take_left' (by simp)
  have t2:∀ (z y:AV) (L:List AV),List.drop (i+1+1) (List.replicate (i+1) z++y::L)=L:=fun z y L=>by
   rw [List.append_cons];exact List.drop_left' (by simp)
  have t3:∀ (z:AV) (X:List AV),List.replicate i z++z::X=List.replicate (i+1) z++X:=fun z X=>by rw [List.replicate_succ'];simp
  generalize dec (n / 10)=D at *
  generalize UInt8.ofNat (48+n % 10)=dg at *
  have hm:bytesOf ([AV.int .u8 dg.toNat]::List.map ((fun x=>[x]) ∘ fun b:UInt8=>AV.int .u8 b.toNat) acc)=some (dg::acc):=bytesOf_map (dg::acc)
  have ih2:=ih' dg
  rw [t3] at ih2
  generalize n / 10=q at *
  generalize n % 10=r at *
  simp only [Ef] at ih2 ⊢;rw [au yR.eq_1]
  simp at ih2
  by_cases c:q=0
  · simp (disch:=(first | omega | (simp;done) | (simp;omega))) [aN,xu,e1,e2,hr,hd,hi,h20,hi19,hm,t1,t2,c,List.take_of_length_le,P9]
  · simp (disch:=(first | omega | (simp;done) | (simp;omega))) [aN,xu,e1,e2,hr,hd,hi,t1,t2,c,ih2]
theorem Nu (H:Yx C) (n:Nat) (h:n < 18446744073709551616):FnW C 584 [.int .u64 n]=some (.str (dec n)):=by
 have hl:=YK (C:=C) 19 n [] rfl (by omega) h
 have e:List.replicate 19 (AV.int .u8 0)++AV.int .u8 0::List.map (fun b:UInt8=>AV.int .u8 b.toNat) []=rep 20 (AV.int .u8 0):=rfl
 rw [e] at hl
 simp only [Ef] at hl
 simp at hl
 rw [aO H.agm rfl]
 simp [adR,hl]
def bG (x:It) (s:Sl):Bs × Bs:=(s.n,if s.f=1 then x.x else if s.f=2 then dec x.k.toNat else if s.f=3 then dec x.m.length else s.v)
structure abW (C:aJ):Prop extends Yx C where
 ahY:C.fns.get 559=some acO
 ahV:C.fns.get 592=some YD
theorem Om (H:abW C) (x:It) (hk:0≤x.k∧x.k < 18446744073709551616) (hm:x.m.length≤1000000) (l:List Sl) (e:Bool) (hl:l.length≤8):∀ n i,n+i=l.length→∀ G:List (Bs × Bs),G.length=i →
 D7 C ⟨[(6,.int .i64 i),(5,.sl 0 2 0 G.length G.length false),(3,.ptr 1 0 0),(0,.ro 3 (l.map eSl) e)],[(0,.cells 2 (G.map eA) true true),(1,.cells 4 [[.int .u64 x.k,.int .u8 x.t,.str x.x,.ro 1 (x.m.map eS) x.e]] true true)],2⟩ =
  some (.ro 2 ((G++(l.drop i).map (bG x)).map eA) false):=by
 intro n
 induction n with
 | zero =>
  intro i hi G hG
  have h1:l.drop i=[]:=List.drop_eq_nil_of_le (by omega)
  have h3:¬ i < l.length:=by omega
  simp only [D7];rw [au y8.eq_1]
  cases G with
  | nil=>simp [au D8.eq_1,h1,h3]
  | cons g G=>simp (disch:=(first | omega | (simp;done) | (simp;omega))) [au D8.eq_1,h1,h3,List.take_of_length_le]
 | succ n ih =>
  intro i hi G hG
  have h1:i < l.length:=by omega
  obtain ⟨k,hk2⟩:∃ k:Nat,x.k=k:=⟨x.k.toNat,by omega⟩
  have d1:=NZ H.toYx k (by omega)
  have d2:=NZ H.toYx x.m.length (by omega)
  have ih':=ih (i+1) (by omega) (G++[bG x l[i]]) (by simp [hG])
  have hfit:(G.length+1) * 33≤35184372088832:=by omega
  rw [drop_cons h1]
  simp only [D7] at ih' ⊢;rw [au y8.eq_1]
  simp at ih'
  unfold bG at ih' ⊢
  rw [hk2] at ih' ⊢
  by_cases f1:l[i].f=1
  · simp [f1] at ih'
    simp (disch:=omega) [h1,f1,aN,hfit,ih',H.inl,aH,H.pp,ppB]
  · by_cases f2:l[i].f=2
    · simp [f2] at ih'
      simp (disch:=omega) [h1,f2,aN,hfit,d1,ih',H.inl,aH,H.pp,ppB]
    · by_cases f3:l[i].f=3
      · simp [f3] at ih'
        simp (disch:=omega) [h1,f3,aN,xu,hfit,d2,ih',H.inl,aH,H.pp,ppB]
      · simp [f1,f2,f3] at ih'
        simp (disch:=omega) [h1,f1,f2,f3,aN,hfit,ih',H.inl,aH,H.pp,ppB]
theorem je (H:abW C) (x:It) (hk:0≤x.k∧x.k < 18446744073709551616) (hm:x.m.length≤1000000) (l:List Sl) (e:Bool) (hl:l.length≤8) :
 FnW C 559 [.ro 3 (l.map eSl) e,eIt x]=some (.ro 2 ((l.map (bG x)).map eA) false):=by
 have h:=Om H x hk hm l e hl l.length 0 (by simp) [] rfl
 simp only [D7] at h
 simp at h
 rw [aO H.ahY rfl]
 simp [acO,h]
theorem Qg (H:abW C) (x:It) (hk:0≤x.k∧x.k < 18446744073709551616) (hm:x.m.length≤1000000) (l:List Sl) (e:Bool) (hl:l.length≤8) (hf:∀ s ∈ l,0≤s.f∧s.f≤3):∀ n i,n+i=l.length→∀ G:List (Bs × Bs),G.length=i →
 Dx C ⟨[(13,.int .i64 i),(12,.int .i64 l.length),(11,.ro 3 (l.map eSl) e),(5,.sl 0 2 0 l.length l.length true),(2,.ptr 1 0 0)],[(0,.cells 2 (G.map eA++List.replicate n [.str [],.str []]) true true),(1,.cells 4 [[.int .u64 x.k,.int .u8 x.t,.str x.x,.ro 1 (x.m.map eS) x.e]] true true)],2⟩ =
  some (.ro 2 ((G++(l.drop i).map (bG x)).map eA) true):=by
 intro n
 induction n with
 | zero =>
  intro i hi G hG
  have h1:l.drop i=[]:=List.drop_eq_nil_of_le (by omega)
  have h3:¬ i < l.length:=by omega
  have h5:G.length=l.length:=by omega
  have h6:List.take l.length (List.map eA G)=List.map eA G:=List.take_of_length_le (by simp [h5])
  simp only [Dx];rw [au uV.eq_1]
  simp [au Eu.eq_1,h1,h3,h5,h6]
 | succ n ih =>
  intro i hi G hG
  have h1:i < l.length:=by omega
  obtain ⟨k,hk2⟩:∃ k:Nat,x.k=k:=⟨x.k.toNat,by omega⟩
  have d1:=Nu H.toYx k (by omega)
  have d2:=Nu H.toYx x.m.length (by omega)
  have ih':=ih (i+1) (by omega) (G++[bG x l[i]]) (by simp [hG])
  have h0:=hf _ (List.getElem_mem h1)
  rw [drop_cons h1]
  simp only [Dx] at ih' ⊢;rw [au uV.eq_1]
  simp at ih'
  unfold bG at ih' ⊢
  rw [hk2] at ih' ⊢
  have f0123:l[i].f=0∨l[i].f=1∨l[i].f=2∨l[i].f=3:=by omega
  rcases f0123 with f | f | f | f
  all_goals
   simp [f] at ih'
   simp (disch:=omega) [h1,f,aN,xu,d1,d2,OZ,Qn,H.inl,aH,H.pp,ppB,ih']
theorem XC (H:abW C) (x:It) (hk:0≤x.k∧x.k < 18446744073709551616) (hm:x.m.length≤1000000) (l:List Sl) (e:Bool) (hl:l.length≤8) (hf:∀ s ∈ l,0≤s.f∧s.f≤3) :
 FnW C 592 [eIt x,.ro 3 (l.map eSl) e]=some (.ro 2 ((l.map (bG x)).map eA) true):=by
 rw [aO H.ahV rfl]
 by_cases hne:l=[]
 · subst hne
   simp (disch:=omega) [YD,au uV.eq_1,au Eu.eq_1]
 · have h:=Qg H x hk hm l e hl hf l.length 0 (by simp) [] rfl
   simp only [Dx] at h
   simp at h
   simp (disch:=omega) [YD,fits,hne,h]
structure ab2 (C:aJ):Prop extends abW C where
 agE:C.fns.get 582=some adh
 ahK:C.fns.get 583=some adH
 ahX:C.fns.get 593=some adA
def bQ (s:Bs):Nd:=⟨2,[],[],[],true,s,[],true⟩
theorem uO (H:ab2 C) (s:Bs):FnW C 583 [.str s]=some (.agg (bQ s).c):=by
 rw [aO H.ahK rfl,Nd.bZ]
 simp [adH,bQ]
theorem aeW (H:ab2 C) (l:List Nd) (e:Bool):FnW C 593 [.ro 6 (l.map Nd.c) e]=some (.ro 6 (l.map Nd.c) true):=by
 have h:List.take l.length (List.map Nd.c l)=List.map Nd.c l:=List.take_of_length_le (by simp)
 rw [aO H.ahX rfl]
 simp [adA,h]
def xg (x:It) (p:Pt) (key:Bs) (ch:List Nd):Nd:=⟨1,p.t,key,p.s.map (bG x),true,[],ch,true⟩
theorem GR (H:ab2 C) (x:It) (hk:0≤x.k∧x.k < 18446744073709551616) (hm:x.m.length≤1000000) (p:Pt) (hl:p.s.length≤8) (hf:∀ s ∈ p.s,0≤s.f∧s.f≤3) (key:Bs) (ch:List Nd) (e:Bool) :
 FnW C 582 [eIt x,.agg p.c,.str key,.ro 6 (ch.map Nd.c) e]=some (.agg (xg x p key ch).c):=by
 have h1:=XC H.toabW x hk hm p.s p.se hl hf
 have h2:=aeW H ch e
 rw [aO H.agE rfl,Nd.bZ]
 simp only [xg]
 simp [adh,h1,h2,H.inl,aH,H.pp,ppB]
end Go.D
end
section
namespace Go.D
open Go Go.Pav Go.Pw P
mutual
/-- A tree without what is known of its memory. -/
def Nd.z:Nd→Nd
 | ⟨k,t,y,a,ae,x,ch,ce⟩=>⟨k,t,y,a,true,x,Nd.zs ch,true⟩
def Nd.zs:List Nd→List Nd
 | []=>[]
 | n::r=>n.z::Nd.zs r
end
theorem Nd.aft:∀ l:List Nd,Nd.zs l=l.map Nd.z
 | []=>rfl
 | n::r=>by rw [Nd.zs,Nd.aft r];rfl
theorem Nd.aeB (n:Nd):n.z=⟨n.k,n.t,n.y,n.a,true,n.x,n.ch.map Nd.z,true⟩:=by cases n;rw [Nd.z,Nd.aft]
theorem Nd.z_y (n:Nd):n.z.y=n.y:=by rw [Nd.aeB]
theorem ab8 (n:Nd):alone n.z=alone n:=by
 have h:(n.ch.map Nd.z).map Nd.y=n.ch.map Nd.y:=by rw [List.map_map];exact List.map_congr_left fun m _=>m.z_y
 rw [Nd.aeB]
 unfold alone
 simp only [h,List.length_map,List.map_eq_nil_iff]
mutual
theorem ajL:∀ (n:Nd) (lv:Nat) (s:Nat × Nat),wk n.z lv s=wk n lv s
 | ⟨k,t,y,a,ae,x,ch,ce⟩,lv,(c,d)=>by
  have h:=ab8 ⟨k,t,y,a,ae,x,ch,ce⟩
  rw [aaw,aaw,h]
  have e:(Nd.z ⟨k,t,y,a,ae,x,ch,ce⟩).ch=Nd.zs ch:=by rw [Nd.z]
  rw [e,aga ch (lv+1) (c+1,max d lv)]
theorem aga:∀ (l:List Nd) (lv:Nat) (s:Nat × Nat),wks (Nd.zs l) lv s=wks l lv s
 | [],lv,s=>by rw [Nd.zs]
 | m::r,lv,s=>by
  rw [Nd.zs,wks,wks,ajL m lv s]
  split
  · exact aga r lv _
  · rfl
end
theorem wZ (n:Nd):cnt n.z=cnt n:=by unfold cnt;rw [ajL]
end Go.D
end
section
namespace Go.D
open Go Go.Pav Go.Pw P
inductive Okp:Pt→Prop
 | mk (p:Pt) (h:oO p=true) (hf:Fits p) (hm:∀ m ∈ p.ch,Okp m):Okp p
mutual
theorem abM:∀ (p:Pt),fG p→∀ (lv c:Nat),(tk p lv c).1=true→Okp p
 | ⟨k,t,y,s,se,x,ch,ce⟩,hf,lv,c,h=>by
  rw [afW] at h
  split at h
  · cases h
  · rename_i q
    cases hf with
    | mk _ h1 hm =>
     exact .mk _ (by simpa using fun e=>q (.inr (.inr e))) h1 (Ve ch hm _ _ h)
theorem Ve:∀ (l:List Pt),(∀ m ∈ l,fG m)→∀ (lv c:Nat),(tks l lv c).1=true→∀ m ∈ l,Okp m
 | [],_,_,_,_=>by simp
 | m::r,hf,lv,c,h=>by
  rw [tks] at h
  split at h
  · rename_i q
    intro a ha
    have h0:=abM m (hf m (by simp)) lv c q
    have h2:=Ve r (fun b hb=>hf b (by simp [hb])) lv _ h
    rcases List.mem_cons.1 ha with e | ha
    · exact e ▸ h0
    · exact h2 a ha
  · cases h
end
theorem H7 {p:Pt} (hf:fG p) (h:oQ p≠0):Okp p:=by
 unfold oQ at h
 split at h
 · rename_i q;exact abM p hf 1 0 q.2
 · exact absurd rfl h
theorem Yt {p:Pt} (h:oQ p≠0):p.k=1:=by
 unfold oQ at h
 split at h
 · rename_i q;exact q.1
 · exact absurd rfl h
theorem NR:∀ (l:List Sl) (p:Option Bs),kT p l=true→∀ s ∈ l,s.f≤3
 | [],_,_=>by simp
 | s::r,p,h=>by
  rw [kT] at h
  simp at h
  intro a ha
  rcases List.mem_cons.1 ha with rfl | ha
  · exact h.1.1.1.1.2
  · exact NR r _ h.2 a ha
theorem Sv {p:Pt} (h:oO p=true):p.s.length≤8∧∀ s ∈ p.s,s.f≤3:=by
 unfold oO at h
 split at h
 · simp at h;exact ⟨h.1.2.1,NR _ _ h.1.2.2⟩
 · split at h
   · simp at h;exact ⟨h.1.1.1.2.1,NR _ _ h.1.1.1.2.2⟩
   · split at h
     · simp at h;rw [h.1.2];simp
     · simp at h;rw [h.1.2];simp
theorem RX {p:Pt} (h:oO p=true):p.k=1∨p.k=2∨p.k=3∨p.k=4∨p.k=5:=by
 unfold oO at h
 split at h
 · exact .inl ‹_›
 · split at h
   · exact .inr (.inr (.inr (.inr ‹_›)))
   · split at h
     · exact .inr (.inl ‹_›)
     · simp at h
       rcases h.1.1.1.1.1 with q | q
       · exact .inr (.inr (.inl q))
       · exact .inr (.inr (.inr (.inl q)))
mutual
/-- What a part makes. -/
def mk (x:It):Pt→List Nd
 | ⟨k,t,y,s,se,tx,ch,ce⟩ =>
  if k=1 then [⟨1,t,y,s.map (bG x),true,[],mks x ch,true⟩]
  else if k=2 then [bQ tx] else if k=3 then [bQ x.x] else if k=4 then [bQ (dec x.k.toNat)]
  else if k=5 then x.m.map fun m=>⟨1,t,m,s.map (bG x),true,[],[bQ m],true⟩ else []
def mks (x:It):List Pt→List Nd
 | []=>[]
 | p::r=>mk x p++mks x r
end
theorem mk_eq (x:It) (p:Pt):mk x p=if p.k=1 then [xg x p p.y (mks x p.ch)]
 else if p.k=2 then [bQ p.x] else if p.k=3 then [bQ x.x] else if p.k=4 then [bQ (dec x.k.toNat)]
 else if p.k=5 then x.m.map fun m=>xg x p m [bQ m] else []:=by cases p;rw [mk];rfl
mutual
/-- What the specification's part makes. -/
def md (x:It):Pt→List Nd
 | ⟨k,t,y,s,se,tx,ch,ce⟩ =>
  if k=2 then [bQ tx] else if k=3 then [bQ x.x] else if k=4 then [bQ (dec x.k.toNat)]
  else if k=5 then x.m.map fun m=>⟨1,t,m,s.map (bG x),false,[],[bQ m],true⟩
  else [⟨1,t,y,s.map (bG x),false,[],mds x ch,(mds x ch).isEmpty⟩]
def mds (x:It):List Pt→List Nd
 | []=>[]
 | p::r=>md x p++mds x r
end
def iC (x:It) (p:Pt) (key:Bs) (ch:List Nd) (e:Bool):Nd:=⟨1,p.t,key,p.s.map (bG x),false,[],ch,e⟩
theorem UU (x:It) (p:Pt):md x p=if p.k=2 then [bQ p.x] else if p.k=3 then [bQ x.x] else if p.k=4 then [bQ (dec x.k.toNat)]
 else if p.k=5 then x.m.map fun m=>iC x p m [bQ m] true else [iC x p p.y (mds x p.ch) (mds x p.ch).isEmpty]:=by cases p;rw [md];rfl
mutual
theorem afQ (x:It):∀ (p:Pt),Okp p→(mk x p).map Nd.z=(md x p).map Nd.z
 | ⟨k,t,y,s,se,tx,ch,ce⟩,h=>by
  have hk:=RX (by cases h;assumption:oO ⟨k,t,y,s,se,tx,ch,ce⟩=true)
  have hm:∀ m ∈ ch,Okp m:=by cases h;assumption
  have ih:=Uh x ch hm
  rw [mk,md]
  simp only at hk
  rcases hk with rfl | rfl | rfl | rfl | rfl
  · simp [Nd.aeB,ih]
  · simp
  · simp
  · simp
  · simp [Nd.aeB]
theorem Uh (x:It):∀ (l:List Pt),(∀ m ∈ l,Okp m)→(mks x l).map Nd.z=(mds x l).map Nd.z
 | [],_=>by rw [mks,mds]
 | p::r,h=>by
  rw [mks,mds,List.map_append,List.map_append,afQ x p (h p (by simp)),Uh x r fun m hm=>h m (by simp [hm])]
end
theorem abH (x:It) (hx:x.m.length≤8) (p:Pt):(md x p).length≤8:=by
 rw [UU];split <;> (try split) <;> (try split) <;> (try split) <;> (try split) <;> simp <;> omega
def zN:Nd:=⟨0,[],[],[],true,[],[],true⟩
def mkN (x:It) (p:Pt):Nd:=(mk x p).headD zN
def mdN (x:It) (p:Pt):Nd:=(md x p).headD zN
theorem afo (x:It) (p:Pt) (h:Okp p):(mkN x p).z=(mdN x p).z:=by
 have:=afQ x p h
 unfold mkN mdN
 cases h1:mk x p <;> cases h2:md x p <;> rw [h1,h2] at this <;> simp at this ⊢
 exact this.1
def kW (p:Pt) (x:It) (most:Int):Int :=
 if most < 1∨64 < most then 1 else if oQ p=0 then 14 else if Ag x=false then 6 else if cnt (mkN x p)=0∨most < cnt (mkN x p) then 14 else 0
def xU (p:Pt) (x:It) (most:Int):Nd:=if kW p x most=0 then mkN x p else zN
def OA (p:Pt) (x:It) (most:Int):Nd:=if kW p x most=0 then mdN x p else zN
theorem Y8 {p:Pt} (hf:fG p) {x:It} {most:Int} (h:kW p x most=0):Okp p:=by
 unfold kW at h
 refine H7 hf fun q=>?_
 rw [if_pos q] at h
 split at h <;> cases h
theorem abq (p:Pt) (hf:fG p) (x:It) (most:Int):(xU p x most).z=(OA p x most).z:=by
 unfold xU OA
 split
 · exact afo x p (Y8 hf ‹_›)
 · rfl
end Go.D
end
section
namespace Go.D
open Go Go.Pav Go.Pw P
attribute [-simp] List.getElem_cons_drop
variable {C:aJ}
structure qw (C:aJ):Prop extends ab2 C,Nb C where
 agH:C.fns.get 547=some adN
 ahG:C.fns.get 513=some QA
 ahL:C.fns.get 501=some Ii
 ag2:C.fns.get 425=some Io
@[simp] theorem Nd.akj (n:Nd) (k:Nat):n.c.any (dA (k+1))=true:=by rw [Nd.bZ];rfl
@[simp] theorem Nd.aiN (n:Nd) (k:Nat):(∃ x,x ∈ n.c∧dA (k+1) x=true)=True:=by
 refine eq_true ⟨.ro 2 (n.a.map eA) n.ae,?_,rfl⟩
 rw [Nd.bZ];simp
theorem aeC (H:qw C) (x:It) (hk:0≤x.k∧x.k < 18446744073709551616) (hm:x.m.length≤8) (l:List Pt) (e:Bool) (hl:l.length≤16) (p:Pt) (hp:oO p=true∧Fits p) (hk5:p.k=5) (i:Nat) (hi:i < l.length)
 (hnext:∀ G:List Nd,G.length≤8 * (i+1)→jJ C ⟨[(12,.int .i64 ((i:Int)+1)),(11,.int .i64 l.length),(10,.ro 6 (l.map Pt.c) e),(5,.sl 0 6 0 G.length G.length false),(2,.ptr 1 0 0)],[(0,.cells 6 (G.map Nd.c) true true),(1,.cells 4 [[.int .u64 x.k,.int .u8 x.t,.str x.x,.ro 1 (x.m.map eS) x.e]] true true)],2⟩ =
  some (.ro 6 ((G++mks x (l.drop (i+1))).map Nd.c) false)):∀ n k,n+k=x.m.length→∀ G:List Nd,G.length≤8 * i+k →
 Dq C ⟨[(65,.int .i64 k),(64,.int .i64 x.m.length),(63,.ro 1 (x.m.map eS) x.e),(12,.int .i64 i),(11,.int .i64 l.length),(10,.ro 6 (l.map Pt.c) e),(7,.ptr 0 0 0),(5,.sl 1 6 0 G.length G.length false),(2,.ptr 2 0 0)],[(0,.cells 6 [p.c] true true),(1,.cells 6 (G.map Nd.c) true true),(2,.cells 4 [[.int .u64 x.k,.int .u8 x.t,.str x.x,.ro 1 (x.m.map eS) x.e]] true true)],3⟩ =
  some (.ro 6 ((G++(x.m.drop k).map (fun m=>xg x p m [bQ m])++mks x (l.drop (i+1))).map Nd.c) false):=by
 intro n
 induction n with
 | zero =>
  intro k hk2 G hG
  have h1:x.m.drop k=[]:=List.drop_eq_nil_of_le (by omega)
  have h3:¬ k < x.m.length:=by omega
  have:=hnext G (by omega)
  simp only [jJ] at this
  simp at this
  simp only [Dq];rw [au zx.eq_1]
  simp (disch:=omega) [au pq.eq_1,h1,h3,aN,this]
 | succ n ih =>
  intro k hk2 G hG
  have h1:k < x.m.length:=by omega
  have hs:=Sv hp.1
  have he:=GR H.toab2 x hk (by omega) p hs.1 (fun s q=>⟨hp.2.f s q,hs.2 s q⟩) x.m[k] [bQ x.m[k]] true
  have hw:=uO H.toab2 x.m[k]
  have:=ih (k+1) (by omega) (G++[xg x p x.m[k] [bQ x.m[k]]]) (by simp;omega)
  have hfit:(G.length+1) * 105≤35184372088832:=by omega
  rw [drop_cons h1]
  simp only [Dq] at this ⊢;rw [au zx.eq_1]
  simp at this
  simp at he
  simp (disch:=omega) [h1,aN,hfit,hw,he,H.inl,aH,H.pp,ppB,this]
theorem V5 (H:qw C) (x:It) (hk:0≤x.k∧x.k < 18446744073709551616) (hm:x.m.length≤8) (l:List Pt) (e:Bool) (hl:l.length≤16) (ho:∀ p ∈ l,Okp p)
 (ih:∀ p ∈ l,FnW C 547 [eIt x,.ro 6 (p.ch.map Pt.c) p.ce]=some (.ro 6 ((mks x p.ch).map Nd.c) false)):∀ n i,n+i=l.length→∀ G:List Nd,G.length≤8 * i →
 jJ C ⟨[(12,.int .i64 i),(11,.int .i64 l.length),(10,.ro 6 (l.map Pt.c) e),(5,.sl 0 6 0 G.length G.length false),(2,.ptr 1 0 0)],[(0,.cells 6 (G.map Nd.c) true true),(1,.cells 4 [[.int .u64 x.k,.int .u8 x.t,.str x.x,.ro 1 (x.m.map eS) x.e]] true true)],2⟩ =
  some (.ro 6 ((G++mks x (l.drop i)).map Nd.c) false):=by
 intro n
 induction n with
 | zero =>
  intro i hi G hG
  have h1:l.drop i=[]:=List.drop_eq_nil_of_le (by omega)
  have h3:¬ i < l.length:=by omega
  simp only [jJ];rw [au nP.eq_1]
  cases G with
  | nil=>simp [au zB.eq_1,h1,h3,mks]
  | cons g G=>simp (disch:=(first | omega | (simp;done) | (simp;omega))) [au zB.eq_1,h1,h3,mks,List.take_of_length_le]
 | succ n ihn =>
  intro i hi G hG
  have h1:i < l.length:=by omega
  have hp:=ho _ (List.getElem_mem h1)
  have hpo:oO l[i]=true:=by cases hp;assumption
  have hpf:Fits l[i]:=by cases hp;assumption
  have hs:=Sv hpo
  have hnext:∀ G:List Nd,G.length≤8 * (i+1)→jJ C ⟨[(12,.int .i64 ((i:Int)+1)),(11,.int .i64 l.length),(10,.ro 6 (l.map Pt.c) e),(5,.sl 0 6 0 G.length G.length false),(2,.ptr 1 0 0)],[(0,.cells 6 (G.map Nd.c) true true),(1,.cells 4 [[.int .u64 x.k,.int .u8 x.t,.str x.x,.ro 1 (x.m.map eS) x.e]] true true)],2⟩ =
   some (.ro 6 ((G++mks x (l.drop (i+1))).map Nd.c) false):=fun G q=>by
    have:=ihn (i+1) (by omega) G q
    simpa using this
  have hfit:(G.length+1) * 105≤35184372088832:=by omega
  rw [drop_cons h1,mks]
  have step:∀ N:Nd,jJ C ⟨[(12,.int .i64 ((i:Int)+1)),(11,.int .i64 l.length),(10,.ro 6 (l.map Pt.c) e),(5,.sl 0 6 0 (G.length+1) (G.length+1) false),(2,.ptr 1 0 0)],[(0,.cells 6 (G.map Nd.c++[N.c]) true true),(1,.cells 4 [[.int .u64 x.k,.int .u8 x.t,.str x.x,.ro 1 (x.m.map eS) x.e]] true true)],2⟩ =
   some (.ro 6 ((G++([N]++mks x (l.drop (i+1)))).map Nd.c) false):=fun N=>by
    have:=hnext (G++[N]) (by simp;omega)
    simpa using this
  rcases RX hpo with k1 | k1 | k1 | k1 | k1
  · have he:=GR H.toab2 x hk (by omega) l[i] hs.1 (fun s q=>⟨hpf.f s q,hs.2 s q⟩) l[i].y (mks x l[i].ch) false
    have hr:=ih _ (List.getElem_mem h1)
    have:=step (xg x l[i] l[i].y (mks x l[i].ch))
    have hq:mk x l[i]=[xg x l[i] l[i].y (mks x l[i].ch)]:=by rw [mk_eq,if_pos k1]
    rw [hq]
    simp only [jJ] at this ⊢;rw [au nP.eq_1]
    simp at this
    simp (disch:=omega) [au pq.eq_1,h1,k1,aN,hfit,he,hr,H.inl,aH,H.pp,ppB,this]
  · have hw:=uO H.toab2 l[i].x
    have:=step (bQ l[i].x)
    have hq:mk x l[i]=[bQ l[i].x]:=by rw [mk_eq,if_neg (by omega),if_pos k1]
    rw [hq]
    simp only [jJ] at this ⊢;rw [au nP.eq_1]
    simp at this
    simp (disch:=omega) [au pq.eq_1,h1,k1,aN,hfit,hw,H.inl,aH,H.pp,ppB,this]
  · have hw:=uO H.toab2 x.x
    have:=step (bQ x.x)
    have hq:mk x l[i]=[bQ x.x]:=by rw [mk_eq,if_neg (by omega),if_neg (by omega),if_pos k1]
    rw [hq]
    simp only [jJ] at this ⊢;rw [au nP.eq_1]
    simp at this
    simp (disch:=omega) [au pq.eq_1,h1,k1,aN,hfit,hw,H.inl,aH,H.pp,ppB,this]
  · obtain ⟨k,hk2⟩:∃ k:Nat,x.k=k:=⟨x.k.toNat,by omega⟩
    have hd:=Nu H.toYx k (by omega)
    have hw:=uO H.toab2 (dec x.k.toNat)
    have:=step (bQ (dec x.k.toNat))
    have hq:mk x l[i]=[bQ (dec x.k.toNat)]:=by rw [mk_eq,if_neg (by omega),if_neg (by omega),if_neg (by omega),if_pos k1]
    rw [hq]
    rw [hk2] at this hw ⊢
    simp only [jJ] at this ⊢;rw [au nP.eq_1]
    simp at this hw
    simp (disch:=omega) [au pq.eq_1,h1,k1,aN,hfit,hd,hw,H.inl,aH,H.pp,ppB,this]
  · have:=aeC H x hk hm l e hl l[i] ⟨hpo,hpf⟩ k1 i h1 hnext x.m.length 0 (by simp) G (by omega)
    have hq:mk x l[i]=x.m.map fun m=>xg x l[i] m [bQ m]:=by rw [mk_eq,if_neg (by omega),if_neg (by omega),if_neg (by omega),if_neg (by omega),if_pos k1]
    rw [hq,← List.append_assoc]
    rw [List.drop_zero] at this
    generalize G++List.map (fun m=>xg x l[i] m [bQ m]) x.m++mks x (l.drop (i+1))=R at *
    simp only [jJ]
    simp only [Dq] at this
    rw [au nP.eq_1]
    simp at this
    simp (disch:=omega) [au pq.eq_1,h1,k1,aN,H.inl,aH,H.pp,ppB,this]
theorem IJ (H:qw C) (x:It) (hk:0≤x.k∧x.k < 18446744073709551616) (hm:x.m.length≤8) (l:List Pt) (e:Bool) (hl:l.length≤16) (ho:∀ p ∈ l,Okp p)
 (ih:∀ p ∈ l,FnW C 547 [eIt x,.ro 6 (p.ch.map Pt.c) p.ce]=some (.ro 6 ((mks x p.ch).map Nd.c) false)):FnW C 547 [eIt x,.ro 6 (l.map Pt.c) e]=some (.ro 6 ((mks x l).map Nd.c) false):=by
 have h:=V5 H x hk hm l e hl ho ih l.length 0 (by simp) [] (by simp)
 simp only [jJ] at h
 simp at h
 rw [aO H.agH rfl]
 simp [adN,h]
theorem P7 (H:qw C) (x:It) (hk:0≤x.k∧x.k < 18446744073709551616) (hm:x.m.length≤8) (p:Pt) (hp:Okp p):FnW C 547 [eIt x,.ro 6 (p.ch.map Pt.c) p.ce]=some (.ro 6 ((mks x p.ch).map Nd.c) false):=by
 have ho:∀ m ∈ p.ch,Okp m:=by cases hp;assumption
 have hl:p.ch.length≤16:=zL (by cases hp;assumption)
 exact IJ H x hk hm p.ch p.ce hl ho fun m q=>P7 H x hk hm m (ho m q)
termination_by SizeOf.sizeOf p
decreasing_by
 have:=List.sizeOf_lt_of_mem q
 have:=Pt.vM p
 omega
theorem aff (H:qw C) (x:It) (hk:0≤x.k∧x.k < 18446744073709551616) (hm:x.m.length≤8) (l:List Pt) (e:Bool) (hl:l.length≤16) (ho:∀ p ∈ l,Okp p) :
 FnW C 547 [eIt x,.ro 6 (l.map Pt.c) e]=some (.ro 6 ((mks x l).map Nd.c) false) :=
 IJ H x hk hm l e hl ho fun m q=>P7 H x hk hm m (ho m q)
theorem dJ (x:It) (p:Pt) (m:Bs):(iC x p m [bQ m] true).c=[.int .u8 1,.str p.t,.str m,.ro 2 ((p.s.map (bG x)).map eA) false,.str [],.ro 6 [[.int .u8 2,.str [],.str [],.ro 2 [] true,.str m,.ro 6 [] true]] true]:=by
 rw [Nd.bZ];simp only [iC,List.map_cons,List.map_nil];rw [Nd.bZ];simp [bQ]
theorem aeH (H:qw C) (x:It) (hk:0≤x.k∧x.k < 18446744073709551616) (hl8:x.m.length≤8) (p:Pt) (hl:p.s.length≤8) (m1 m2 m3 m4 m5 m6 m7 m8:Bs) (r:List Bs) (hm:x.m=[m1,m2,m3,m4,m5,m6,m7,m8]++r) :
 dw C ⟨[(6,.int .i64 8),(5,.sl 0 6 0 8 8 false),(3,.ptr 9 0 0),(2,.ptr 10 0 0)],[(0,.cells 6 [[.int .u8 1,.str p.t,.str m1,.ro 2 ((p.s.map (bG x)).map eA) false,.str [],.sl 1 6 0 1 1 true],[.int .u8 1,.str p.t,.str m2,.ro 2 ((p.s.map (bG x)).map eA) false,.str [],.sl 2 6 0 1 1 true],[.int .u8 1,.str p.t,.str m3,.ro 2 ((p.s.map (bG x)).map eA) false,.str [],.sl 3 6 0 1 1 true],[.int .u8 1,.str p.t,.str m4,.ro 2 ((p.s.map (bG x)).map eA) false,.str [],.sl 4 6 0 1 1 true],[.int .u8 1,.str p.t,.str m5,.ro 2 ((p.s.map (bG x)).map eA) false,.str [],.sl 5 6 0 1 1 true],[.int .u8 1,.str p.t,.str m6,.ro 2 ((p.s.map (bG x)).map eA) false,.str [],.sl 6 6 0 1 1 true],[.int .u8 1,.str p.t,.str m7,.ro 2 ((p.s.map (bG x)).map eA) false,.str [],.sl 7 6 0 1 1 true],[.int .u8 1,.str p.t,.str m8,.ro 2 ((p.s.map (bG x)).map eA) false,.str [],.sl 8 6 0 1 1 true]] true false),(1,.cells 6 [[.int .u8 2,.str [],.str [],.ro 2 [] true,.str m1,.ro 6 [] true]] true true),(2,.cells 6 [[.int .u8 2,.str [],.str [],.ro 2 [] true,.str m2,.ro 6 [] true]] true true),(3,.cells 6 [[.int .u8 2,.str [],.str [],.ro 2 [] true,.str m3,.ro 6 [] true]] true true),(4,.cells 6 [[.int .u8 2,.str [],.str [],.ro 2 [] true,.str m4,.ro 6 [] true]] true true),(5,.cells 6 [[.int .u8 2,.str [],.str [],.ro 2 [] true,.str m5,.ro 6 [] true]] true true),(6,.cells 6 [[.int .u8 2,.str [],.str [],.ro 2 [] true,.str m6,.ro 6 [] true]] true true),(7,.cells 6 [[.int .u8 2,.str [],.str [],.ro 2 [] true,.str m7,.ro 6 [] true]] true true),(8,.cells 6 [[.int .u8 2,.str [],.str [],.ro 2 [] true,.str m8,.ro 6 [] true]] true true),(9,.cells 4 [[.int .u64 x.k,.int .u8 x.t,.str x.x,.ro 1 (x.m.map eS) x.e]] true true),(10,.cells 6 [p.c] true true)],11⟩ =
  some (.ro 6 (([m1,m2,m3,m4,m5,m6,m7,m8]++r).map fun m=>(iC x p m [bQ m] true).c) false):=by
 simp only [dw];rw [au jG.eq_1]
 have hxl:x.m.length=8+r.length:=by rw [hm];simp;omega
 cases r with
 | nil =>
  simp at hxl
  simp [au kN.eq_1,hxl,dJ]
 | cons m9 r=>simp at hxl;omega
theorem ae0 (H:qw C) (x:It) (hk:0≤x.k∧x.k < 18446744073709551616) (hl8:x.m.length≤8) (p:Pt) (hl:p.s.length≤8) (m1 m2 m3 m4 m5 m6 m7:Bs) (r:List Bs) (hm:x.m=[m1,m2,m3,m4,m5,m6,m7]++r) :
 dw C ⟨[(6,.int .i64 7),(5,.sl 0 6 0 7 7 false),(3,.ptr 8 0 0),(2,.ptr 9 0 0)],[(0,.cells 6 [[.int .u8 1,.str p.t,.str m1,.ro 2 ((p.s.map (bG x)).map eA) false,.str [],.sl 1 6 0 1 1 true],[.int .u8 1,.str p.t,.str m2,.ro 2 ((p.s.map (bG x)).map eA) false,.str [],.sl 2 6 0 1 1 true],[.int .u8 1,.str p.t,.str m3,.ro 2 ((p.s.map (bG x)).map eA) false,.str [],.sl 3 6 0 1 1 true],[.int .u8 1,.str p.t,.str m4,.ro 2 ((p.s.map (bG x)).map eA) false,.str [],.sl 4 6 0 1 1 true],[.int .u8 1,.str p.t,.str m5,.ro 2 ((p.s.map (bG x)).map eA) false,.str [],.sl 5 6 0 1 1 true],[.int .u8 1,.str p.t,.str m6,.ro 2 ((p.s.map (bG x)).map eA) false,.str [],.sl 6 6 0 1 1 true],[.int .u8 1,.str p.t,.str m7,.ro 2 ((p.s.map (bG x)).map eA) false,.str [],.sl 7 6 0 1 1 true]] true false),(1,.cells 6 [[.int .u8 2,.str [],.str [],.ro 2 [] true,.str m1,.ro 6 [] true]] true true),(2,.cells 6 [[.int .u8 2,.str [],.str [],.ro 2 [] true,.str m2,.ro 6 [] true]] true true),(3,.cells 6 [[.int .u8 2,.str [],.str [],.ro 2 [] true,.str m3,.ro 6 [] true]] true true),(4,.cells 6 [[.int .u8 2,.str [],.str [],.ro 2 [] true,.str m4,.ro 6 [] true]] true true),(5,.cells 6 [[.int .u8 2,.str [],.str [],.ro 2 [] true,.str m5,.ro 6 [] true]] true true),(6,.cells 6 [[.int .u8 2,.str [],.str [],.ro 2 [] true,.str m6,.ro 6 [] true]] true true),(7,.cells 6 [[.int .u8 2,.str [],.str [],.ro 2 [] true,.str m7,.ro 6 [] true]] true true),(8,.cells 4 [[.int .u64 x.k,.int .u8 x.t,.str x.x,.ro 1 (x.m.map eS) x.e]] true true),(9,.cells 6 [p.c] true true)],10⟩ =
  some (.ro 6 (([m1,m2,m3,m4,m5,m6,m7]++r).map fun m=>(iC x p m [bQ m] true).c) false):=by
 simp only [dw];rw [au jG.eq_1]
 have hxl:x.m.length=7+r.length:=by rw [hm];simp;omega
 cases r with
 | nil =>
  simp at hxl
  simp [au kN.eq_1,hxl,dJ]
 | cons m8 r =>
  have h1:7 < x.m.length:=by rw [hxl];simp
  have hg:x.m[7]=m8:=by
   have q:x.m[7]?=some m8:=by rw [hm];simp
   rw [List.getElem?_eq_getElem h1] at q
   exact Option.some.inj q
  have ha:=je H.toabW x hk (by omega) p.s p.se hl
  have this:=aeH H x hk hl8 p hl m1 m2 m3 m4 m5 m6 m7 m8 r (by rw [hm];simp)
  simp only [dw] at this
  simp [dJ] at this
  have h2:(7:Int) < x.m.length:=by omega
  simp (disch:=omega) [h1,h2,hg,aN,dJ,ha,H.inl,aH,H.pp,ppB,this]
theorem adn (H:qw C) (x:It) (hk:0≤x.k∧x.k < 18446744073709551616) (hl8:x.m.length≤8) (p:Pt) (hl:p.s.length≤8) (m1 m2 m3 m4 m5 m6:Bs) (r:List Bs) (hm:x.m=[m1,m2,m3,m4,m5,m6]++r) :
 dw C ⟨[(6,.int .i64 6),(5,.sl 0 6 0 6 6 false),(3,.ptr 7 0 0),(2,.ptr 8 0 0)],[(0,.cells 6 [[.int .u8 1,.str p.t,.str m1,.ro 2 ((p.s.map (bG x)).map eA) false,.str [],.sl 1 6 0 1 1 true],[.int .u8 1,.str p.t,.str m2,.ro 2 ((p.s.map (bG x)).map eA) false,.str [],.sl 2 6 0 1 1 true],[.int .u8 1,.str p.t,.str m3,.ro 2 ((p.s.map (bG x)).map eA) false,.str [],.sl 3 6 0 1 1 true],[.int .u8 1,.str p.t,.str m4,.ro 2 ((p.s.map (bG x)).map eA) false,.str [],.sl 4 6 0 1 1 true],[.int .u8 1,.str p.t,.str m5,.ro 2 ((p.s.map (bG x)).map eA) false,.str [],.sl 5 6 0 1 1 true],[.int .u8 1,.str p.t,.str m6,.ro 2 ((p.s.map (bG x)).map eA) false,.str [],.sl 6 6 0 1 1 true]] true false),(1,.cells 6 [[.int .u8 2,.str [],.str [],.ro 2 [] true,.str m1,.ro 6 [] true]] true true),(2,.cells 6 [[.int .u8 2,.str [],.str [],.ro 2 [] true,.str m2,.ro 6 [] true]] true true),(3,.cells 6 [[.int .u8 2,.str [],.str [],.ro 2 [] true,.str m3,.ro 6 [] true]] true true),(4,.cells 6 [[.int .u8 2,.str [],.str [],.ro 2 [] true,.str m4,.ro 6 [] true]] true true),(5,.cells 6 [[.int .u8 2,.str [],.str [],.ro 2 [] true,.str m5,.ro 6 [] true]] true true),(6,.cells 6 [[.int .u8 2,.str [],.str [],.ro 2 [] true,.str m6,.ro 6 [] true]] true true),(7,.cells 4 [[.int .u64 x.k,.int .u8 x.t,.str x.x,.ro 1 (x.m.map eS) x.e]] true true),(8,.cells 6 [p.c] true true)],9⟩ =
  some (.ro 6 (([m1,m2,m3,m4,m5,m6]++r).map fun m=>(iC x p m [bQ m] true).c) false):=by
 simp only [dw];rw [au jG.eq_1]
 have hxl:x.m.length=6+r.length:=by rw [hm];simp;omega
 cases r with
 | nil =>
  simp at hxl
  simp [au kN.eq_1,hxl,dJ]
 | cons m7 r =>
  have h1:6 < x.m.length:=by rw [hxl];simp
  have hg:x.m[6]=m7:=by
   have q:x.m[6]?=some m7:=by rw [hm];simp
   rw [List.getElem?_eq_getElem h1] at q
   exact Option.some.inj q
  have ha:=je H.toabW x hk (by omega) p.s p.se hl
  have this:=ae0 H x hk hl8 p hl m1 m2 m3 m4 m5 m6 m7 r (by rw [hm];simp)
  simp only [dw] at this
  simp [dJ] at this
  have h2:(6:Int) < x.m.length:=by omega
  simp (disch:=omega) [h1,h2,hg,aN,dJ,ha,H.inl,aH,H.pp,ppB,this]
theorem ab5 (H:qw C) (x:It) (hk:0≤x.k∧x.k < 18446744073709551616) (hl8:x.m.length≤8) (p:Pt) (hl:p.s.length≤8) (m1 m2 m3 m4 m5:Bs) (r:List Bs) (hm:x.m=[m1,m2,m3,m4,m5]++r) :
 dw C ⟨[(6,.int .i64 5),(5,.sl 0 6 0 5 5 false),(3,.ptr 6 0 0),(2,.ptr 7 0 0)],[(0,.cells 6 [[.int .u8 1,.str p.t,.str m1,.ro 2 ((p.s.map (bG x)).map eA) false,.str [],.sl 1 6 0 1 1 true],[.int .u8 1,.str p.t,.str m2,.ro 2 ((p.s.map (bG x)).map eA) false,.str [],.sl 2 6 0 1 1 true],[.int .u8 1,.str p.t,.str m3,.ro 2 ((p.s.map (bG x)).map eA) false,.str [],.sl 3 6 0 1 1 true],[.int .u8 1,.str p.t,.str m4,.ro 2 ((p.s.map (bG x)).map eA) false,.str [],.sl 4 6 0 1 1 true],[.int .u8 1,.str p.t,.str m5,.ro 2 ((p.s.map (bG x)).map eA) false,.str [],.sl 5 6 0 1 1 true]] true false),(1,.cells 6 [[.int .u8 2,.str [],.str [],.ro 2 [] true,.str m1,.ro 6 [] true]] true true),(2,.cells 6 [[.int .u8 2,.str [],.str [],.ro 2 [] true,.str m2,.ro 6 [] true]] true true),(3,.cells 6 [[.int .u8 2,.str [],.str [],.ro 2 [] true,.str m3,.ro 6 [] true]] true true),(4,.cells 6 [[.int .u8 2,.str [],.str [],.ro 2 [] true,.str m4,.ro 6 [] true]] true true),(5,.cells 6 [[.int .u8 2,.str [],.str [],.ro 2 [] true,.str m5,.ro 6 [] true]] true true),(6,.cells 4 [[.int .u64 x.k,.int .u8 x.t,.str x.x,.ro 1 (x.m.map eS) x.e]] true true),(7,.cells 6 [p.c] true true)],8⟩ =
  some (.ro 6 (([m1,m2,m3,m4,m5]++r).map fun m=>(iC x p m [bQ m] true).c) false):=by
 simp only [dw];rw [au jG.eq_1]
 have hxl:x.m.length=5+r.length:=by rw [hm];simp;omega
 cases r with
 | nil =>
  simp at hxl
  simp [au kN.eq_1,hxl,dJ]
 | cons m6 r =>
  have h1:5 < x.m.length:=by rw [hxl];simp
  have hg:x.m[5]=m6:=by
   have q:x.m[5]?=some m6:=by rw [hm];simp
   rw [List.getElem?_eq_getElem h1] at q
   exact Option.some.inj q
  have ha:=je H.toabW x hk (by omega) p.s p.se hl
  have this:=adn H x hk hl8 p hl m1 m2 m3 m4 m5 m6 r (by rw [hm];simp)
  simp only [dw] at this
  simp [dJ] at this
  have h2:(5:Int) < x.m.length:=by omega
  simp (disch:=omega) [h1,h2,hg,aN,dJ,ha,H.inl,aH,H.pp,ppB,this]
theorem acX (H:qw C) (x:It) (hk:0≤x.k∧x.k < 18446744073709551616) (hl8:x.m.length≤8) (p:Pt) (hl:p.s.length≤8) (m1 m2 m3 m4:Bs) (r:List Bs) (hm:x.m=[m1,m2,m3,m4]++r) :
 dw C ⟨[(6,.int .i64 4),(5,.sl 0 6 0 4 4 false),(3,.ptr 5 0 0),(2,.ptr 6 0 0)],[(0,.cells 6 [[.int .u8 1,.str p.t,.str m1,.ro 2 ((p.s.map (bG x)).map eA) false,.str [],.sl 1 6 0 1 1 true],[.int .u8 1,.str p.t,.str m2,.ro 2 ((p.s.map (bG x)).map eA) false,.str [],.sl 2 6 0 1 1 true],[.int .u8 1,.str p.t,.str m3,.ro 2 ((p.s.map (bG x)).map eA) false,.str [],.sl 3 6 0 1 1 true],[.int .u8 1,.str p.t,.str m4,.ro 2 ((p.s.map (bG x)).map eA) false,.str [],.sl 4 6 0 1 1 true]] true false),(1,.cells 6 [[.int .u8 2,.str [],.str [],.ro 2 [] true,.str m1,.ro 6 [] true]] true true),(2,.cells 6 [[.int .u8 2,.str [],.str [],.ro 2 [] true,.str m2,.ro 6 [] true]] true true),(3,.cells 6 [[.int .u8 2,.str [],.str [],.ro 2 [] true,.str m3,.ro 6 [] true]] true true),(4,.cells 6 [[.int .u8 2,.str [],.str [],.ro 2 [] true,.str m4,.ro 6 [] true]] true true),(5,.cells 4 [[.int .u64 x.k,.int .u8 x.t,.str x.x,.ro 1 (x.m.map eS) x.e]] true true),(6,.cells 6 [p.c] true true)],7⟩ =
  some (.ro 6 (([m1,m2,m3,m4]++r).map fun m=>(iC x p m [bQ m] true).c) false):=by
 simp only [dw];rw [au jG.eq_1]
 have hxl:x.m.length=4+r.length:=by rw [hm];simp;omega
 cases r with
 | nil =>
  simp at hxl
  simp [au kN.eq_1,hxl,dJ]
 | cons m5 r =>
  have h1:4 < x.m.length:=by rw [hxl];simp
  have hg:x.m[4]=m5:=by
   have q:x.m[4]?=some m5:=by rw [hm];simp
   rw [List.getElem?_eq_getElem h1] at q
   exact Option.some.inj q
  have ha:=je H.toabW x hk (by omega) p.s p.se hl
  have this:=ab5 H x hk hl8 p hl m1 m2 m3 m4 m5 r (by rw [hm];simp)
  simp only [dw] at this
  simp [dJ] at this
  have h2:(4:Int) < x.m.length:=by omega
  simp (disch:=omega) [h1,h2,hg,aN,dJ,ha,H.inl,aH,H.pp,ppB,this]
theorem aea (H:qw C) (x:It) (hk:0≤x.k∧x.k < 18446744073709551616) (hl8:x.m.length≤8) (p:Pt) (hl:p.s.length≤8) (m1 m2 m3:Bs) (r:List Bs) (hm:x.m=[m1,m2,m3]++r) :
 dw C ⟨[(6,.int .i64 3),(5,.sl 0 6 0 3 3 false),(3,.ptr 4 0 0),(2,.ptr 5 0 0)],[(0,.cells 6 [[.int .u8 1,.str p.t,.str m1,.ro 2 ((p.s.map (bG x)).map eA) false,.str [],.sl 1 6 0 1 1 true],[.int .u8 1,.str p.t,.str m2,.ro 2 ((p.s.map (bG x)).map eA) false,.str [],.sl 2 6 0 1 1 true],[.int .u8 1,.str p.t,.str m3,.ro 2 ((p.s.map (bG x)).map eA) false,.str [],.sl 3 6 0 1 1 true]] true false),(1,.cells 6 [[.int .u8 2,.str [],.str [],.ro 2 [] true,.str m1,.ro 6 [] true]] true true),(2,.cells 6 [[.int .u8 2,.str [],.str [],.ro 2 [] true,.str m2,.ro 6 [] true]] true true),(3,.cells 6 [[.int .u8 2,.str [],.str [],.ro 2 [] true,.str m3,.ro 6 [] true]] true true),(4,.cells 4 [[.int .u64 x.k,.int .u8 x.t,.str x.x,.ro 1 (x.m.map eS) x.e]] true true),(5,.cells 6 [p.c] true true)],6⟩ =
  some (.ro 6 (([m1,m2,m3]++r).map fun m=>(iC x p m [bQ m] true).c) false):=by
 simp only [dw];rw [au jG.eq_1]
 have hxl:x.m.length=3+r.length:=by rw [hm];simp;omega
 cases r with
 | nil =>
  simp at hxl
  simp [au kN.eq_1,hxl,dJ]
 | cons m4 r =>
  have h1:3 < x.m.length:=by rw [hxl];simp
  have hg:x.m[3]=m4:=by
   have q:x.m[3]?=some m4:=by rw [hm];simp
   rw [List.getElem?_eq_getElem h1] at q
   exact Option.some.inj q
  have ha:=je H.toabW x hk (by omega) p.s p.se hl
  have this:=acX H x hk hl8 p hl m1 m2 m3 m4 r (by rw [hm];simp)
  simp only [dw] at this
  simp [dJ] at this
  have h2:(3:Int) < x.m.length:=by omega
  simp (disch:=omega) [h1,h2,hg,aN,dJ,ha,H.inl,aH,H.pp,ppB,this]
theorem adK (H:qw C) (x:It) (hk:0≤x.k∧x.k < 18446744073709551616) (hl8:x.m.length≤8) (p:Pt) (hl:p.s.length≤8) (m1 m2:Bs) (r:List Bs) (hm:x.m=[m1,m2]++r) :
 dw C ⟨[(6,.int .i64 2),(5,.sl 0 6 0 2 2 false),(3,.ptr 3 0 0),(2,.ptr 4 0 0)],[(0,.cells 6 [[.int .u8 1,.str p.t,.str m1,.ro 2 ((p.s.map (bG x)).map eA) false,.str [],.sl 1 6 0 1 1 true],[.int .u8 1,.str p.t,.str m2,.ro 2 ((p.s.map (bG x)).map eA) false,.str [],.sl 2 6 0 1 1 true]] true false),(1,.cells 6 [[.int .u8 2,.str [],.str [],.ro 2 [] true,.str m1,.ro 6 [] true]] true true),(2,.cells 6 [[.int .u8 2,.str [],.str [],.ro 2 [] true,.str m2,.ro 6 [] true]] true true),(3,.cells 4 [[.int .u64 x.k,.int .u8 x.t,.str x.x,.ro 1 (x.m.map eS) x.e]] true true),(4,.cells 6 [p.c] true true)],5⟩ =
  some (.ro 6 (([m1,m2]++r).map fun m=>(iC x p m [bQ m] true).c) false):=by
 simp only [dw];rw [au jG.eq_1]
 have hxl:x.m.length=2+r.length:=by rw [hm];simp;omega
 cases r with
 | nil =>
  simp at hxl
  simp [au kN.eq_1,hxl,dJ]
 | cons m3 r =>
  have h1:2 < x.m.length:=by rw [hxl];simp
  have hg:x.m[2]=m3:=by
   have q:x.m[2]?=some m3:=by rw [hm];simp
   rw [List.getElem?_eq_getElem h1] at q
   exact Option.some.inj q
  have ha:=je H.toabW x hk (by omega) p.s p.se hl
  have this:=aea H x hk hl8 p hl m1 m2 m3 r (by rw [hm];simp)
  simp only [dw] at this
  simp [dJ] at this
  have h2:(2:Int) < x.m.length:=by omega
  simp (disch:=omega) [h1,h2,hg,aN,dJ,ha,H.inl,aH,H.pp,ppB,this]
theorem adu (H:qw C) (x:It) (hk:0≤x.k∧x.k < 18446744073709551616) (hl8:x.m.length≤8) (p:Pt) (hl:p.s.length≤8) (m1:Bs) (r:List Bs) (hm:x.m=[m1]++r) :
 dw C ⟨[(6,.int .i64 1),(5,.sl 0 6 0 1 1 false),(3,.ptr 2 0 0),(2,.ptr 3 0 0)],[(0,.cells 6 [[.int .u8 1,.str p.t,.str m1,.ro 2 ((p.s.map (bG x)).map eA) false,.str [],.sl 1 6 0 1 1 true]] true false),(1,.cells 6 [[.int .u8 2,.str [],.str [],.ro 2 [] true,.str m1,.ro 6 [] true]] true true),(2,.cells 4 [[.int .u64 x.k,.int .u8 x.t,.str x.x,.ro 1 (x.m.map eS) x.e]] true true),(3,.cells 6 [p.c] true true)],4⟩ =
  some (.ro 6 (([m1]++r).map fun m=>(iC x p m [bQ m] true).c) false):=by
 simp only [dw];rw [au jG.eq_1]
 have hxl:x.m.length=1+r.length:=by rw [hm];simp;omega
 cases r with
 | nil =>
  simp at hxl
  simp [au kN.eq_1,hxl,dJ]
 | cons m2 r =>
  have h1:1 < x.m.length:=by rw [hxl];simp
  have hg:x.m[1]=m2:=by
   have q:x.m[1]?=some m2:=by rw [hm];simp
   rw [List.getElem?_eq_getElem h1] at q
   exact Option.some.inj q
  have ha:=je H.toabW x hk (by omega) p.s p.se hl
  have this:=adK H x hk hl8 p hl m1 m2 r (by rw [hm];simp)
  simp only [dw] at this
  simp [dJ] at this
  have h2:(1:Int) < x.m.length:=by omega
  simp (disch:=omega) [h1,h2,hg,aN,dJ,ha,H.inl,aH,H.pp,ppB,this]
theorem acZ (H:qw C) (x:It) (hk:0≤x.k∧x.k < 18446744073709551616) (hl8:x.m.length≤8) (p:Pt) (hl:p.s.length≤8) (r:List Bs) (hm:x.m=r) :
 dw C ⟨[(6,.int .i64 0),(5,.sl 0 6 0 0 0 false),(3,.ptr 1 0 0),(2,.ptr 2 0 0)],[(0,.cells 6 [] true true),(1,.cells 4 [[.int .u64 x.k,.int .u8 x.t,.str x.x,.ro 1 (x.m.map eS) x.e]] true true),(2,.cells 6 [p.c] true true)],3⟩ =
  some (.ro 6 (r.map fun m=>(iC x p m [bQ m] true).c) false):=by
 simp only [dw];rw [au jG.eq_1]
 have hxl:x.m.length=0+r.length:=by rw [hm];simp
 cases r with
 | nil =>
  simp at hxl
  simp [au kN.eq_1,hxl,dJ]
 | cons m1 r =>
  have h1:0 < x.m.length:=by rw [hxl];simp
  have hg:x.m[0]=m1:=by
   have q:x.m[0]?=some m1:=by rw [hm];simp
   rw [List.getElem?_eq_getElem h1] at q
   exact Option.some.inj q
  have ha:=je H.toabW x hk (by omega) p.s p.se hl
  have this:=adu H x hk hl8 p hl  m1 r (by rw [hm];simp)
  simp only [dw] at this
  simp [dJ] at this
  have h2:(0:Int) < x.m.length:=by omega
  simp (disch:=omega) [h1,h2,hg,aN,dJ,ha,H.inl,aH,H.pp,ppB,this]
def mdF (p:Pt):Bool:=decide (p.k≠5)
theorem ac2 (H:qw C) (x:It) (hk:0≤x.k∧x.k < 18446744073709551616) (hm:x.m.length≤8) (p:Pt) (hl:p.ch.length≤16)
 (ih:∀ m ∈ p.ch,FnW C 513 [.agg m.c,eIt x]=some (.ro 6 ((md x m).map Nd.c) (mdF m))):∀ n i,n+i=p.ch.length→∀ G:List Nd,G.length≤8 * i →
 nI C ⟨[(8,.int .i64 i),(7,.ptr 0 0 0),(3,.ptr 2 0 0),(2,.ptr 3 0 0)],[(0,.cells 6 [[.int .u8 1,.str p.t,.str p.y,.ro 2 ((p.s.map (bG x)).map eA) false,.str [],.sl 1 6 0 G.length G.length false]] true false),(1,.cells 6 (G.map Nd.c) true true),(2,.cells 4 [[.int .u64 x.k,.int .u8 x.t,.str x.x,.ro 1 (x.m.map eS) x.e]] true true),(3,.cells 6 [p.c] true true)],4⟩ =
  some (.ro 6 [(iC x p p.y (G++mds x (p.ch.drop i)) false).c] true):=by
 intro n
 induction n with
 | zero =>
  intro i hi G hG
  have h1:p.ch.drop i=[]:=List.drop_eq_nil_of_le (by omega)
  have h3:¬ i < p.ch.length:=by omega
  have h4:List.take G.length (List.map Nd.c G)=List.map Nd.c G:=List.take_of_length_le (by simp)
  have hw:(iC x p p.y G false).c=[.int .u8 1,.str p.t,.str p.y,.ro 2 ((p.s.map (bG x)).map eA) false,.str [],.ro 6 (G.map Nd.c) false]:=by rw [Nd.bZ];rfl
  rw [h1,mds,List.append_nil,hw]
  simp only [nI];rw [au nD.eq_1]
  simp (disch:=omega) [au E5.eq_1,h3,h4]
 | succ n ihn =>
  intro i hi G hG
  have h1:i < p.ch.length:=by omega
  have hr:=ih _ (List.getElem_mem h1)
  have hlen:=abH x hm p.ch[i]
  have:=ihn (i+1) (by omega) (G++md x p.ch[i]) (by simp;omega)
  have hfit:(G.length+(md x p.ch[i]).length) * 105≤35184372088832:=by omega
  rw [drop_cons h1,mds,← List.append_assoc]
  generalize (iC x p p.y (G++md x p.ch[i]++mds x (List.drop (i+1) p.ch)) false).c=R at *
  by_cases hE:md x p.ch[i]=[]
  · simp only [nI] at this ⊢;rw [au nD.eq_1]
    simp [hE] at this
    simp (disch:=omega) [h1,aN,hr,hE,H.inl,aH,H.pp,ppB,this]
  · simp only [nI] at this ⊢;rw [au nD.eq_1]
    simp at this
    simp (disch:=omega) [h1,aN,hr,hE,isE hE,hfit,H.inl,aH,H.pp,ppB,this]
theorem abN (H:qw C) (x:It) (hk:0≤x.k∧x.k < 18446744073709551616) (hm:x.m.length≤8) (p:Pt) (hl:p.ch.length≤16)
 (ih:∀ m ∈ p.ch,FnW C 513 [.agg m.c,eIt x]=some (.ro 6 ((md x m).map Nd.c) (mdF m))):∀ n i,n+i=p.ch.length →
 nI C ⟨[(8,.int .i64 i),(7,.ptr 0 0 0),(3,.ptr 1 0 0),(2,.ptr 2 0 0)],[(0,.cells 6 [[.int .u8 1,.str p.t,.str p.y,.ro 2 ((p.s.map (bG x)).map eA) false,.str [],.ro 6 [] true]] true true),(1,.cells 4 [[.int .u64 x.k,.int .u8 x.t,.str x.x,.ro 1 (x.m.map eS) x.e]] true true),(2,.cells 6 [p.c] true true)],3⟩ =
  some (.ro 6 [(iC x p p.y (mds x (p.ch.drop i)) (mds x (p.ch.drop i)).isEmpty).c] true):=by
 intro n
 induction n with
 | zero =>
  intro i hi
  have h1:p.ch.drop i=[]:=List.drop_eq_nil_of_le (by omega)
  have h3:¬ i < p.ch.length:=by omega
  have hw:(iC x p p.y [] true).c=[.int .u8 1,.str p.t,.str p.y,.ro 2 ((p.s.map (bG x)).map eA) false,.str [],.ro 6 [] true]:=by rw [Nd.bZ];rfl
  rw [h1,mds,List.isEmpty_nil,hw]
  simp only [nI];rw [au nD.eq_1]
  simp (disch:=omega) [au E5.eq_1,h3]
 | succ n ihn =>
  intro i hi
  have h1:i < p.ch.length:=by omega
  have hr:=ih _ (List.getElem_mem h1)
  have hlen:=abH x hm p.ch[i]
  have hfit:((md x p.ch[i]).length) * 105≤35184372088832:=by omega
  rw [drop_cons h1,mds]
  by_cases hE:md x p.ch[i]=[]
  · have:=ihn (i+1) (by omega)
    rw [hE,List.nil_append]
    generalize (iC x p p.y (mds x (List.drop (i+1) p.ch)) (mds x (List.drop (i+1) p.ch)).isEmpty).c=R at *
    simp only [nI] at this ⊢;rw [au nD.eq_1]
    simp at this
    simp (disch:=omega) [h1,aN,hr,hE,H.inl,aH,H.pp,ppB,this]
  · have:=ac2 H x hk hm p hl ih n (i+1) (by omega) (md x p.ch[i]) (by omega)
    have he:(md x p.ch[i]++mds x (List.drop (i+1) p.ch)).isEmpty=false:=isE (by simp [hE])
    rw [he]
    generalize (iC x p p.y (md x p.ch[i]++mds x (List.drop (i+1) p.ch)) false).c=R at *
    simp only [nI] at this ⊢;rw [au nD.eq_1]
    simp at this
    simp (disch:=omega) [h1,aN,hr,hE,isE hE,hfit,H.inl,aH,H.pp,ppB,this]
theorem Wp (H:qw C) (x:It) (hk:0≤x.k∧x.k < 18446744073709551616) (hm:x.m.length≤8) (p:Pt) (hp:oO p=true)
 (ih:∀ m ∈ p.ch,FnW C 513 [.agg m.c,eIt x]=some (.ro 6 ((md x m).map Nd.c) (mdF m))):FnW C 513 [.agg p.c,eIt x]=some (.ro 6 ((md x p).map Nd.c) (mdF p)):=by
 have hl:=zL hp
 have hs:=Sv hp
 rw [aO H.ahG rfl,UU]
 unfold mdF
 have hw:∀ s:Bs,(bQ s).c=[.int .u8 2,.str [],.str [],.ro 2 [] true,.str s,.ro 6 [] true]:=fun s=>by rw [Nd.bZ];rfl
 rcases RX hp with k1 | k1 | k1 | k1 | k1
 · have h:=abN H x hk hm p hl ih p.ch.length 0 (by simp)
   have ha:=je H.toabW x hk (by omega) p.s p.se hs.1
   rw [if_neg (by omega),if_neg (by omega),if_neg (by omega),if_neg (by omega)]
   rw [List.drop_zero] at h
   simp only [List.map_cons,List.map_nil]
   generalize (iC x p p.y (mds x p.ch) (mds x p.ch).isEmpty).c=R at *
   simp only [nI] at h
   simp at h
   simp [QA,au Ky.eq_1,k1,ha,H.inl,aH,H.pp,ppB,h]
 · simp [QA,k1,hw]
 · simp [QA,k1,hw]
 · obtain ⟨k,hk2⟩:∃ k:Nat,x.k=k:=⟨x.k.toNat,by omega⟩
   have hd:=NZ H.toYx k (by omega)
   simp [QA,k1,hw,hk2,hd,H.inl,aH,H.pp,ppB]
 · have h:=acZ H x hk hm p hs.1 x.m rfl
   rw [if_neg (by omega),if_neg (by omega),if_neg (by omega),if_pos k1,List.map_map]
   have hq:(Nd.c ∘ fun m=>iC x p m [bQ m] true)=fun m=>(iC x p m [bQ m] true).c:=rfl
   rw [hq]
   generalize List.map (fun m=>(iC x p m [bQ m] true).c) x.m=R at *
   simp only [dw] at h
   simp [QA,k1,h]
theorem UD (H:qw C) (x:It) (hk:0≤x.k∧x.k < 18446744073709551616) (hm:x.m.length≤8) (p:Pt) (hp:Okp p):FnW C 513 [.agg p.c,eIt x]=some (.ro 6 ((md x p).map Nd.c) (mdF p)):=by
 have ho:∀ m ∈ p.ch,Okp m:=by cases hp;assumption
 exact Wp H x hk hm p (by cases hp;assumption) fun m q=>UD H x hk hm m (ho m q)
termination_by SizeOf.sizeOf p
decreasing_by
 have:=List.sizeOf_lt_of_mem q
 have:=Pt.vM p
 omega
theorem Uw {x:It} (h:Ag x=true):x.m.length≤8:=by
 unfold Ag at h
 simp at h
 exact h.2.1
theorem VU (H:qw C) (p:Pt) (hf:fG p) (x:It) (hk:0≤x.k∧x.k < 18446744073709551616) (most:Int) :
 FnW C 501 [.agg p.c,eIt x,.int .i64 most]=some (.tup [.agg (xU p x most).c,.int .i64 (kW p x most)]):=by
 have hz:zN.c=[.int .u8 0,.str [],.str [],.ro 2 [] true,.str [],.ro 6 [] true]:=by rw [Nd.bZ];rfl
 have hc:=Jv H.toDp p
 have hi:=abP H.toX9 x
 rw [aO H.ahL rfl]
 unfold xU kW
 by_cases c1:most < 1
 · simp [Ii,c1,hz]
 · by_cases c2:64 < most
   · simp [Ii,c1,c2,hz]
   · by_cases c3:oQ p=0
     · rw [c3] at hc
       simp at hc
       simp [Ii,c1,c2,c3,hc,hz,H.inl,aH,H.pp,ppB]
     · rw [if_neg c3] at hc
       cases c4:Ag x
       · rw [c4] at hi
         simp at hi
         simp [Ii,c1,c2,c3,hc,hi,hz,H.inl,aH,H.pp,ppB]
       · rw [c4] at hi
         simp at hi
         have hk1:=Yt c3
         have hmk:=aff H x hk (Uw c4) [p] true (by simp) (by simpa using H7 hf c3)
         have hq:mks x [p]=[mkN x p]:=by unfold mkN;rw [mks,mks,mk_eq,if_pos hk1];rfl
         rw [hq] at hmk
         have hn:=zD H.toOt (mkN x p)
         generalize hN:mkN x p=N at *
         generalize cnt N=K at *
         simp at hmk
         by_cases c5:K=0
         · subst c5
           simp [Ii,c1,c2,c3,hc,hi,hz,hmk,hn,H.inl,aH,H.pp,ppB]
         · by_cases c6:most < K
           · simp [Ii,c1,c2,c3,hc,hi,hz,hmk,hn,c5,c6,H.inl,aH,H.pp,ppB]
           · simp [Ii,c1,c2,c3,hc,hi,hz,hmk,hn,c5,c6,H.inl,aH,H.pp,ppB]
theorem G8 (H:qw C) (p:Pt) (hf:fG p) (x:It) (hk:0≤x.k∧x.k < 18446744073709551616) (most:Int) :
 FnW C 425 [.agg p.c,eIt x,.int .i64 most]=some (.tup [.agg (OA p x most).c,.int .i64 (kW p x most)]):=by
 have hz:zN.c=[.int .u8 0,.str [],.str [],.ro 2 [] true,.str [],.ro 6 [] true]:=by rw [Nd.bZ];rfl
 have hc:=Ud H.toNC p hf
 have hi:=YU H.toX9 x
 rw [aO H.ag2 rfl]
 unfold OA kW
 by_cases c1:most < 1
 · simp [Io,c1,hz]
 · by_cases c2:64 < most
   · simp [Io,c1,c2,hz]
   · by_cases c3:oQ p=0
     · rw [c3] at hc
       simp at hc
       simp [Io,c1,c2,c3,hc,hz,H.inl,aH,H.pp,ppB]
     · rw [if_neg c3] at hc
       cases c4:Ag x
       · rw [c4] at hi
         simp at hi
         simp [Io,c1,c2,c3,hc,hi,hz,H.inl,aH,H.pp,ppB]
       · rw [c4] at hi
         simp at hi
         have hk1:=Yt c3
         have ho:=H7 hf c3
         have hmk:=UD H x hk (Uw c4) p ho
         have hq:md x p=[mdN x p]:=by unfold mdN;rw [UU,if_neg (by omega),if_neg (by omega),if_neg (by omega),if_neg (by omega)];rfl
         rw [hq] at hmk
         have hn:=BX H.toNb (mdN x p)
         have hn2:=Jy H.toNb (mdN x p)
         have hcz:cnt (mkN x p)=cnt (mdN x p):=by rw [← wZ,afo x p ho,wZ]
         rw [hcz]
         generalize hN:mdN x p=N at *
         generalize cnt N=K at *
         simp at hmk
         by_cases c5:K=0
         · subst c5
           simp at hn2
           simp [Io,c1,c2,c3,hc,hi,hz,hmk,hn,hn2,H.inl,aH,H.pp,ppB]
         · simp [c5] at hn2
           by_cases c6:most < K
           · simp [Io,c1,c2,c3,hc,hi,hz,hmk,hn,hn2,c5,c6,H.inl,aH,H.pp,ppB]
           · simp [Io,c1,c2,c3,hc,hi,hz,hmk,hn,hn2,c5,c6,H.inl,aH,H.pp,ppB]
end Go.D
end
section
namespace Go.D
open Go Go.Pav Go.Pw P
structure Kd where
 p:Pt
 b:Int
 st:Bool
 pl:Int
structure En where
 i:It
 s:Int
 kn:Bool
@[simp] def eKd (k:Kd):List AV:=[.int .u8 k.p.k,.str k.p.t,.str k.p.y,.ro 3 (k.p.s.map eSl) k.p.se,.str k.p.x,.ro 6 (k.p.ch.map Pt.c) k.p.ce,.int .i64 k.b,.bool k.st,.int .i64 k.pl]
@[simp] def cIt (i:It):List AV:=[.int .u64 i.k,.int .u8 i.t,.str i.x,.ro 1 (i.m.map eS) i.e]
@[simp] def eEn (e:En):List AV:=[.int .u64 e.i.k,.int .u8 e.i.t,.str e.i.x,.ro 1 (e.i.m.map eS) e.i.e,.int .i64 e.s,.bool e.kn]
abbrev aR (ks:List Kd) (ke:Bool) (cap:Int):AV:=.agg [.ro 9 (ks.map eKd) ke,.int .i64 cap]
abbrev aL (l:List En) (e:Bool):AV:=.agg [.ro 6 (l.map eEn) e]
abbrev aE (e:En):AV:=.agg (eEn e)
structure QS (i:It):Prop where
 k:0≤i.k∧i.k < 18446744073709551616
 t:0≤i.t∧i.t≤255
 m:i.m.length≤1000000
structure Ie (e:En):Prop where
 i:QS e.i
 s:-9223372036854775808≤e.s∧e.s≤9223372036854775807
structure Iu (ks:List Kd):Prop where
 n:ks.length≤1000000
 f:∀ k ∈ ks,fG k.p
def hOk (n:Int):Bool:=decide (1≤n)&&decide (n≤2305843009213693952)
def Qv (k:Kd):Bool:=hOk k.b&&decide (oQ k.p≠0)
def QM (ks:List Kd) (cap:Int):Bool:=decide (1≤ks.length)&&decide (ks.length≤8)&&decide (1≤cap)&&decide (cap≤64)&&ks.all Qv
def zP:Pt:=⟨0,[],[],[],true,[],[],true⟩
def jK (ks:List Kd) (t:Int):Kd:=(ks[t.toNat]?).getD ⟨zP,0,false,0⟩
def itE (ks:List Kd) (cap:Int) (x:It) (seen:Bool):Int :=
 if xB ks.length x=false then 6 else if seen=true then 8 else if kW (jK ks x.t).p x cap=0 then 0 else 14
def enE (ks:List Kd) (cap:Int) (e:En) (seen:Bool):Int :=
 if itE ks cap e.i seen≠0 then itE ks cap e.i seen else if hOk e.s=true∧(e.kn=true∨e.s=(jK ks e.i.t).b) then 0 else 12
def chk (ks:List Kd) (cap:Int):List Int→List En→Int
 | _,[]=>0
 | seen,e::r=>if enE ks cap e (seen.contains e.i.k)≠0 then enE ks cap e (seen.contains e.i.k) else chk ks cap (seen++[e.i.k]) r
def Dn:Int→List En→Int
 | sum,[]=>sum
 | sum,e::r=>if 4611686018427387904 - sum < imax e.s 0 then 4611686018427387905 else Dn (sum+imax e.s 0) r
def tot (l:List En):Int:=Dn 0 l
def ovE (l:List En):Int:=if 4611686018427387904 < tot l then 13 else 0
def ckE (ks:List Kd) (cap:Int) (l:List En):Int :=
 if QM ks cap=false then 7 else if 1024 < l.length then 3 else if chk ks cap [] l≠0 then chk ks cap [] l else ovE l
def It.own (i:It):It:={ i with e:=true }
def En.own (e:En):En:={ e with i:=e.i.own }
def fre (ks:List Kd) (x:It):En:=⟨x,(jK ks x.t).b,false⟩
end Go.D
end
section
end
section
namespace Go.D
open Go Go.Pav Go.Pw P
attribute [-simp] List.getElem_cons_drop
variable {C:aJ}
structure LC (C:aJ):Prop extends nU C where
 f225:C.fns.get 225=some ae2
 f111:C.fns.get 111=some adV
 f227:C.fns.get 227=some aeT
 ait:C.fns.get 400=some Zi
 f240:C.fns.get 240=some aco
 ahp:C.fns.get 423=some ac6
theorem Jg (H:LC C) (n:Int):FnW C 225 [.int .i64 n]=some (.bool (hOk n)):=by
 rw [aO H.f225 rfl]
 unfold hOk
 by_cases c1:1≤n <;> by_cases c2:n≤2305843009213693952 <;> simp [ae2,c1,c2]
theorem acG (s:Int) (h1:-9223372036854775808≤s) (h2:s≤9223372036854775807):0≤imax s 0∧imax s 0≤9223372036854775807:=by
 unfold imax;split <;> omega
theorem ZJ (H:LC C) (l:List En) (e:Bool) (hl:l.length≤1000000) (hs:∀ x ∈ l,-9223372036854775808≤x.s∧x.s≤9223372036854775807):∀ n i,n+i=l.length→∀ sum:Int,0≤sum→sum≤4611686018427387904 →
 yj C ⟨[(10,.int .i64 i),(9,.int .i64 l.length),(8,.ro 6 (l.map eEn) e),(3,.int .i64 sum)],[],0⟩=some (.int .i64 (Dn sum (l.drop i))):=by
 intro n
 induction n with
 | zero =>
  intro i hi sum s1 s2
  simp only [yj];rw [au uQ.eq_1]
  have h1:l.drop i=[]:=List.drop_eq_nil_of_le (by omega)
  have h3:¬ i < l.length:=by omega
  simp [au Nw.eq_1,h1,h3,Dn]
 | succ n ih =>
  intro i hi sum s1 s2
  have h1:i < l.length:=by omega
  have hb:=acG l[i].s (hs _ (List.getElem_mem h1)).1 (hs _ (List.getElem_mem h1)).2
  rw [drop_cons h1,Dn]
  generalize hM:imax l[i].s 0=M at *
  by_cases c:4611686018427387904 - sum < M
  · rw [if_pos c]
    simp only [yj];rw [au uQ.eq_1]
    simp (disch:=omega) [h1,aN,hM,c]
  · rw [if_neg c]
    have:=ih (i+1) (by omega) (sum+M) (by omega) (by omega)
    simp only [yj] at this ⊢;rw [au uQ.eq_1]
    simp at this
    simp (disch:=omega) [h1,aN,hM,c,this]
theorem adb (H:LC C) (l:List En) (e:Bool) (hl:l.length≤1000000) (hs:∀ x ∈ l,-9223372036854775808≤x.s∧x.s≤9223372036854775807):FnW C 111 [aL l e]=some (.int .i64 (tot l)):=by
 have h:=ZJ H l e hl hs l.length 0 (by simp) 0 (by omega) (by omega)
 simp only [yj] at h
 simp at h
 rw [aO H.f111 rfl]
 unfold tot
 simp [adV,h]
theorem agh (H:LC C) (l:List En) (e:Bool) (hl:l.length≤1000000) (hs:∀ x ∈ l,Ie x):FnW C 111 [aL l e]=some (.int .i64 (tot l)):=adb H l e hl fun x hx=>(hs x hx).s
theorem abm (H:LC C) (l:List En) (e:Bool) (hl:l.length≤1000000) (hs:∀ x ∈ l,Ie x):FnW C 227 [aL l e]=some (.int .i64 (ovE l)):=by
 have h:=agh H l e hl hs
 rw [aO H.f227 rfl]
 unfold ovE
 by_cases c:4611686018427387904 < tot l <;> simp [aeT,h,H.inl,aH,H.pp,ppB,c]
def OG (k:Int):Nat→List It→Int
 | _,[]=>-1
 | i,x::r=>if x.k=k then i else OG k (i+1) r
theorem Sj (H:LC C) (l:List It) (e:Bool) (k:Int) (hl:l.length≤1000000):∀ n i,n+i=l.length →
 Ah C ⟨[(5,.int .i64 i),(1,.int .u64 k),(0,.ro 4 (l.map cIt) e)],[],0⟩=some (.int .i64 (OG k i (l.drop i))):=by
 intro n
 induction n with
 | zero =>
  intro i hi
  simp only [Ah];rw [au wB.eq_1]
  have h1:l.drop i=[]:=List.drop_eq_nil_of_le (by omega)
  have h3:¬ i < l.length:=by omega
  simp (disch:=omega) [au JR.eq_1,h1,h3,OG]
 | succ n ih =>
  intro i hi
  have h1:i < l.length:=by omega
  have:=ih (i+1) (by omega)
  rw [drop_cons h1,OG]
  by_cases c:l[i].k=k
  · rw [if_pos c]
    simp only [Ah];rw [au wB.eq_1]
    simp (disch:=omega) [h1,aN,c]
  · rw [if_neg c]
    simp only [Ah] at this ⊢;rw [au wB.eq_1]
    simp at this
    simp (disch:=omega) [h1,aN,c,this]
theorem ZG (H:LC C) (l:List It) (e:Bool) (k:Int) (hl:l.length≤1000000):FnW C 423 [.ro 4 (l.map cIt) e,.int .u64 k]=some (.int .i64 (OG k 0 l)):=by
 have h:=Sj H l e k hl l.length 0 (by simp)
 simp only [Ah] at h
 simp at h
 rw [aO H.ahp rfl]
 simp [ac6,h]
end Go.D
end
section
namespace Go.D
open Go Go.Pav Go.Pw P
attribute [-simp] List.getElem_cons_drop
variable {C:aJ}
section
variable {β:Type} {base:Nat} {fin:Ex × WSt→Option β} {K:List Pw.Frame} {a:Ann} {l:List bg} {d:Option Nat} {e:Env} {n:Nat}
end
end Go.D
end
section
namespace Go.D
open Go Go.Pav Go.Pw P
attribute [-simp] List.getElem_cons_drop
variable {C:aJ}
structure Dl (C:aJ):Prop extends qw C,LC C where
 agl:C.fns.get 399=some acv
 f230:C.fns.get 230=some VZ
 aeu:C.fns.get 405=some Ye
 f232:C.fns.get 232=some WX
 f115:C.fns.get 115=some KE
 f271:C.fns.get 271=some Rt
 f223:C.fns.get 223=some XZ
theorem jD {ks:List Kd} {t:Nat} (h:t < ks.length):jK ks t=ks[t]:=by
 unfold jK;simp [h]
theorem aaD {n:Int} {x:It} (h:xB n x=true):x.t < n:=by
 unfold xB at h;simp at h;exact h.1.1.2
theorem Gt (H:Dl C) (ks:List Kd) (ke:Bool) (cap:Int) (x:It) (hx:QS x) (ht:x.t < ks.length) (hr:Iu ks) :
 FnW C 399 [aR ks ke cap,eIt x]=some (.tup [.agg (xU (jK ks x.t).p x cap).c,.int .i64 (kW (jK ks x.t).p x cap)]):=by
 obtain ⟨t,hT⟩:∃ t:Nat,x.t=t:=⟨x.t.toNat,by have:=hx.t;omega⟩
 have h1:t < ks.length:=by omega
 have h:=VU H.toqw ks[t].p (hr.f _ (List.getElem_mem h1)) x hx.k cap
 rw [hT,jD h1]
 rw [aO H.agl rfl]
 generalize (xU ks[t].p x cap)=N at *
 generalize kW ks[t].p x cap=E at *
 rw [Pt.bZ] at h
 simp only [eIt,hT] at h
 simp (disch:=omega) [acv,hT,h1,h,H.inl,aH,H.pp,ppB]
theorem agD (H:Dl C) (k:Kd):FnW C 230 [.agg (eKd k)]=some (.bool (!Qv k)):=by
 have h1:=Jg H.toLC k.b
 have h2:=Jv H.toDp k.p
 rw [Pt.bZ] at h2
 rw [aO H.f230 rfl]
 unfold Qv
 generalize hOk k.b=X at *
 cases X
 · simp [VZ,h1,H.inl,aH,H.pp,ppB]
 · by_cases c:oQ k.p=0
   · simp [c] at h2
     simp [VZ,h1,h2,c,H.inl,aH,H.pp,ppB]
   · simp [c] at h2
     simp [VZ,h1,h2,c,H.inl,aH,H.pp,ppB]
theorem Qz (H:Dl C) (ks:List Kd) (e:Bool) (hl:ks.length≤1000000):∀ n i,n+i=ks.length →
 ∃ v:Int,nJ C ⟨[(8,.int .i64 i),(7,.int .i64 ks.length),(1,.fn 230 []),(0,.ro 9 (ks.map eKd) e)],[],0⟩=some (.int .i64 v)∧decide (v < 0)=(ks.drop i).all Qv:=by
 intro n
 induction n with
 | zero =>
  intro i hi
  simp only [nJ];rw [au oW.eq_1]
  have h1:ks.drop i=[]:=List.drop_eq_nil_of_le (by omega)
  have h3:¬ i < ks.length:=by omega
  exact ⟨-1,by simp (disch:=omega) [au Ee.eq_1,h1,h3],by simp [h1]⟩
 | succ n ih =>
  intro i hi
  have h1:i < ks.length:=by omega
  have hb:=agD H ks[i]
  simp only [eKd] at hb
  rw [drop_cons h1]
  cases c:Qv ks[i]
  · refine ⟨i,?_,by simp [c]⟩
    rw [c] at hb
    simp only [nJ];rw [au oW.eq_1]
    simp (disch:=omega) [h1,hb,H.inl,aH,H.pp,ppB]
  · obtain ⟨v,hv,hq⟩:=ih (i+1) (by omega)
    refine ⟨v,?_,by simp [hq,c]⟩
    rw [c] at hb
    simp only [nJ] at hv ⊢;rw [au oW.eq_1]
    simp at hv
    simp (disch:=omega) [h1,aN,hb,H.inl,aH,H.pp,ppB,hv]
theorem KA (H:Dl C) (ks:List Kd) (e:Bool) (hl:ks.length≤1000000):FnW C 232 [.ro 9 (ks.map eKd) e,.fn 230 []]=some (.bool (!ks.all Qv)):=by
 obtain ⟨v,h,q⟩:=Qz H ks e hl ks.length 0 (by simp)
 simp only [nJ] at h
 simp at h
 have h2:FnW C 405 [.ro 9 (ks.map eKd) e,.fn 230 []]=some (.int .i64 v):=by
  rw [aO H.aeu rfl]
  simp [Ye,h]
 rw [aO H.f232 rfl]
 rw [List.drop_zero] at q
 rw [← q]
 by_cases c:v < 0
 · have c':¬ 0≤v:=by omega
   simp [WX,H.inl,aH,H.pp,ppB,h2,c,c']
 · have c':0≤v:=by omega
   simp [WX,H.inl,aH,H.pp,ppB,h2,c,c']
theorem PU (H:Dl C) (ks:List Kd) (ke:Bool) (cap:Int) (hr:Iu ks):FnW C 115 [aR ks ke cap]=some (.int .i64 (if QM ks cap=true then 0 else 7)):=by
 have h:=KA H ks ke hr.n
 have hl:=hr.n
 rw [aO H.f115 rfl]
 unfold QM
 by_cases c1:1≤ks.length
 · have c1':¬ ((ks.length:Int) < 1):=by omega
   by_cases c2:ks.length≤8
   · have c2':¬ (8 < (ks.length:Int)):=by omega
     by_cases c3:1≤cap
     · have c3':¬ cap < 1:=by omega
       by_cases c4:cap≤64
       · have c4':¬ 64 < cap:=by omega
         cases c5:ks.all Qv
         · rw [c5] at h
           simp [KE,c1,c1',c2,c2',c3,c3',c4,c4',h,H.inl,aH,H.pp,ppB]
         · rw [c5] at h
           simp [KE,c1,c1',c2,c2',c3,c3',c4,c4',h,H.inl,aH,H.pp,ppB]
       · have c4':64 < cap:=by omega
         simp [KE,c1,c1',c2,c2',c3,c3',c4,c4']
     · have c3':cap < 1:=by omega
       simp [KE,c1,c1',c2,c2',c3,c3']
   · have c2':(8 < (ks.length:Int)):=by omega
     simp [KE,c1,c1',c2,c2']
 · have c1':((ks.length:Int) < 1):=by omega
   simp [KE,c1,c1']
theorem OX (H:Dl C) (ks:List Kd) (ke:Bool) (cap:Int) (x:It) (hx:QS x) (hr:Iu ks) (seen:Bool) :
 FnW C 271 [aR ks ke cap,eIt x,.int .i64 (if seen=true then 1 else 0)]=some (.int .i64 (itE ks cap x seen)):=by
 have hc:=XF H.toQD x ks.length hx.t hx.m
 rw [aO H.f271 rfl]
 unfold itE
 cases c1:xB ks.length x
 · rw [c1] at hc
   simp at hc
   simp [Rt,hc,H.inl,aH,H.pp,ppB]
 · rw [c1] at hc
   cases seen
   · have ht:=aaD c1
     obtain ⟨t,hT⟩:∃ t:Nat,x.t=t:=⟨x.t.toNat,by have:=hx.t;omega⟩
     have h1:t < ks.length:=by omega
     have h:=G8 H.toqw ks[t].p (hr.f _ (List.getElem_mem h1)) x hx.k cap
     rw [hT,jD h1]
     have hE:0≤kW ks[t].p x cap:=by unfold kW;repeat (first | omega | split)
     generalize (OA ks[t].p x cap)=N at *
     generalize kW ks[t].p x cap=E at *
     rw [Pt.bZ] at h
     simp only [eIt,hT] at h hc
     by_cases c:E=0
     · subst c
       simp at hc
       simp (disch:=omega) [Rt,hc,hT,h1,h,H.inl,aH,H.pp,ppB]
     · have c':0 < E:=by omega
       simp at hc
       simp (disch:=omega) [Rt,hc,hT,h1,h,c,c',H.inl,aH,H.pp,ppB]
   · simp at hc
     simp [Rt,hc,H.inl,aH,H.pp,ppB]
def tC (s:List Int):List (AV × AV):=s.map fun k=>(.int .u64 k,.bool true)
theorem Oc:tC []=[]:=rfl
theorem Ar (k:Int):∀ s:List Int,jy (tC s) (.int .u64 k)=some (if s.contains k=true then some (.bool true) else none)
 | []=>rfl
 | a::r=>by
  have ih:=Ar k r
  unfold tC at ih ⊢
  rw [List.map_cons,jy]
  simp only [gV,if_true,ob]
  by_cases c:k=a
  · subst c;simp
  · simp [c,ih]
theorem xO (k:Int):∀ s:List Int,s.contains k=false→jT (tC s) (.int .u64 k) (.bool true)=some (tC (s++[k]))
 | [],_=>rfl
 | a::r,h=>by
  simp at h
  have ih:=xO k r (by simpa using h.2)
  unfold tC at ih ⊢
  rw [List.map_cons,jT]
  simp only [gV,if_true,ob]
  simp [h.1,ih,om]
abbrev cO (l:List En):List Int:=l.map fun e=>e.i.k
theorem SC (H:Dl C) (ks:List Kd) (ke:Bool) (cap:Int) (hr:Iu ks) (l:List En) (e:Bool) (hl:l.length≤1000000) (hs:∀ x ∈ l,Ie x):∀ n i,n+i=l.length→∀ seen:List Int,
 mg C ⟨[(25,.int .i64 i),(24,.int .i64 l.length),(23,.ro 6 (l.map eEn) e),(6,.map 0),(3,.ptr 1 0 0),(2,.ptr 2 0 0)],[(0,.map (tC seen)),(1,.cells 1 [[.ro 6 (l.map eEn) e]] true true),(2,.cells 2 [[.ro 9 (ks.map eKd) ke,.int .i64 cap]] true true)],3⟩ =
  some (.int .i64 (if chk ks cap seen (l.drop i)≠0 then chk ks cap seen (l.drop i) else ovE l)):=by
 intro n
 induction n with
 | zero =>
  intro i hi seen
  have ht:=abm H.toLC l e hl hs
  simp only [mg];rw [au kP.eq_1]
  have h1:l.drop i=[]:=List.drop_eq_nil_of_le (by omega)
  have h3:¬ i < l.length:=by omega
  simp (disch:=omega) [au MP.eq_1,h1,h3,chk,ht,H.inl,aH,H.pp,ppB]
 | succ n ih =>
  intro i hi seen
  have h1:i < l.length:=by omega
  have hx:=hs _ (List.getElem_mem h1)
  have hc:=WQ H.toQD l[i].i ks.length hx.i.t
  have hg:=Ar l[i].i.k seen
  rw [drop_cons h1,chk]
  cases c1:xB ks.length l[i].i
  · have hE:enE ks cap l[i] (seen.contains l[i].i.k)=6:=by unfold enE itE;simp [c1]
    rw [hE]
    rw [c1] at hc
    simp at hc
    simp only [mg];rw [au kP.eq_1]
    simp (disch:=omega) [h1,hc,H.inl,aH,H.pp,ppB]
  · rw [c1] at hc
    simp at hc
    cases c2:seen.contains l[i].i.k
    · have ht:=aaD c1
      obtain ⟨t,hT⟩:∃ t:Nat,l[i].i.t=t:=⟨l[i].i.t.toNat,by have:=hx.i.t;omega⟩
      have h2:t < ks.length:=by omega
      have hp:=xO l[i].i.k seen c2
      have hre:=Gt H ks ke cap l[i].i hx.i ht hr
      have hh:=Jg H.toLC l[i].s
      have this:=ih (i+1) (by omega) (seen++[l[i].i.k])
      rw [c2] at hg
      simp only [aR,eIt] at hre
      have hk:=jD h2
      have hE:enE ks cap l[i] false=if kW ks[t].p l[i].i cap=0 then (if hOk l[i].s=true∧(l[i].kn=true∨l[i].s=ks[t].b) then 0 else 12) else 14:=by
       unfold enE itE
       rw [c1,hT,hk]
       by_cases q:kW ks[t].p l[i].i cap=0 <;> simp [q]
      simp only [eIt,hT,hk] at hc hre
      generalize xU ks[t].p l[i].i cap=N at *
      generalize kW ks[t].p l[i].i cap=E at *
      by_cases c3:E=0
      · subst c3
        cases c4:hOk l[i].s
        · rw [c4] at hh
          have hE':enE ks cap l[i] false=12:=by rw [hE];simp [c4]
          rw [hE']
          simp only [mg];rw [au kP.eq_1]
          simp (disch:=omega) [h1,h2,hT,hc,hg,hp,hre,hh,H.inl,aH,H.pp,ppB]
        · rw [c4] at hh
          cases c5:l[i].kn
          · by_cases c6:l[i].s=ks[t].b
            · have hE':enE ks cap l[i] false=0:=by rw [hE,if_pos rfl,if_pos ⟨c4,.inr c6⟩]
              rw [hE']
              simp only [mg] at this ⊢;rw [au kP.eq_1]
              generalize chk ks cap (seen++[l[i].i.k]) (List.drop (i+1) l)=Z at *
              simp at this
              simp (disch:=omega) [h1,h2,hT,hc,hg,hp,hre,hh,c5,eq_true c6,aN,H.inl,aH,H.pp,ppB,this]
            · have hE':enE ks cap l[i] false=12:=by rw [hE];simp [c5,c6]
              rw [hE']
              simp only [mg];rw [au kP.eq_1]
              simp (disch:=omega) [h1,h2,hT,hc,hg,hp,hre,hh,c5,c6,H.inl,aH,H.pp,ppB]
          · have hE':enE ks cap l[i] false=0:=by rw [hE];simp [c4,c5]
            rw [hE']
            simp only [mg] at this ⊢;rw [au kP.eq_1]
            generalize chk ks cap (seen++[l[i].i.k]) (List.drop (i+1) l)=Z at *
            simp at this
            simp (disch:=omega) [h1,h2,hT,hc,hg,hp,hre,hh,c5,aN,H.inl,aH,H.pp,ppB,this]
      · have hE':enE ks cap l[i] false=14:=by rw [hE];simp [c3]
        rw [hE']
        simp only [mg];rw [au kP.eq_1]
        simp (disch:=omega) [h1,h2,hT,hc,hg,hp,hre,c3,H.inl,aH,H.pp,ppB]
    · have hE:enE ks cap l[i] true=8:=by unfold enE itE;simp [c1]
      rw [hE]
      rw [c2] at hg
      simp only [mg];rw [au kP.eq_1]
      simp (disch:=omega) [h1,hc,hg,H.inl,aH,H.pp,ppB]
theorem I5 (H:Dl C) (ks:List Kd) (ke:Bool) (cap:Int) (hr:Iu ks) (l:List En) (e:Bool) (hl:l.length≤1000000) (hs:∀ x ∈ l,Ie x) :
 FnW C 223 [aR ks ke cap,aL l e]=some (.int .i64 (ckE ks cap l)):=by
 have hv:=PU H ks ke cap hr
 have h:=SC H ks ke cap hr l e hl hs l.length 0 (by simp) []
 rw [List.drop_zero,Oc] at h
 rw [aO H.f223 rfl]
 unfold ckE
 generalize (if chk ks cap [] l≠0 then chk ks cap [] l else ovE l)=R at *
 simp only [mg] at h
 simp at h
 cases c1:QM ks cap
 · rw [c1] at hv
   simp at hv
   simp [XZ,hv,H.inl,aH,H.pp,ppB]
 · rw [c1] at hv
   simp at hv
   by_cases c2:1024 < l.length
   · have c2':1024 < (l.length:Int):=by omega
     simp [XZ,hv,c2,c2',H.inl,aH,H.pp,ppB]
   · have c2':¬ 1024 < (l.length:Int):=by omega
     simp [XZ,hv,c2,c2',h,H.inl,aH,H.pp,ppB]
structure aob (C:aJ):Prop extends Dl C
theorem Je (H:Dl C) (ks:List Kd) (ke:Bool) (cap:Int) (x:It) (hx:QS x) (ht:x.t < ks.length) :
 FnW C 240 [aR ks ke cap,eIt x]=some (aE (fre ks x)):=by
 obtain ⟨t,hT⟩:∃ t:Nat,x.t=t:=⟨x.t.toNat,by have:=hx.t;omega⟩
 have h1:t < ks.length:=by omega
 rw [aO H.f240 rfl]
 unfold fre
 rw [hT,jD h1]
 simp (disch:=omega) [aco,hT,h1]
theorem SL (H:Dl C) (ks:List Kd) (ke:Bool) (cap:Int) (x:List It) (e:Bool) (hxl:x.length≤1000000) (hx:∀ i ∈ x,QS i∧i.t < ks.length):∀ n i,n+i=x.length→∀ G:List En,G.length=i →
 EX C ⟨[(13,.int .i64 i),(12,.int .i64 x.length),(11,.ro 4 (x.map cIt) e),(5,.sl 0 6 0 x.length x.length true),(2,.ptr 1 0 0)],[(0,.cells 6 (G.map eEn++List.replicate n [.int .u64 0,.int .u8 0,.str [],.ro 1 [] true,.int .i64 0,.bool false]) true true),(1,.cells 2 [[.ro 9 (ks.map eKd) ke,.int .i64 cap]] true true)],2⟩ =
  some (.ro 6 ((G++(x.drop i).map (fre ks)).map eEn) true):=by
 intro n
 induction n with
 | zero =>
  intro i hi G hG
  have h1:x.drop i=[]:=List.drop_eq_nil_of_le (by omega)
  have h3:¬ i < x.length:=by omega
  have h6:List.take x.length (List.map eEn G)=List.map eEn G:=List.take_of_length_le (by simp;omega)
  have h7:G.length=x.length:=by omega
  simp only [EX];rw [au uP.eq_1]
  simp [au EC.eq_1,h1,h3,h6,h7]
 | succ n ih =>
  intro i hi G hG
  have h1:i < x.length:=by omega
  have hxi:=hx _ (List.getElem_mem h1)
  obtain ⟨t,hT⟩:∃ t:Nat,x[i].t=t:=⟨x[i].t.toNat,by have:=hxi.1.t;omega⟩
  have h2:t < ks.length:=by have:=hxi.2;omega
  have:=ih (i+1) (by omega) (G++[fre ks x[i]]) (by simp [hG])
  rw [drop_cons h1]
  simp only [EX] at this ⊢;rw [au uP.eq_1]
  simp [fre,hT,jD h2] at this
  simp (disch:=omega) [h1,h2,hT,aN,OZ,Qn,hG,fre,jD h2,this]
theorem Og (H:Dl C) (ks:List Kd) (ke:Bool) (cap:Int) (x:List It) (e:Bool) (hxl:x.length≤1000000) (hx:∀ i ∈ x,QS i∧i.t < ks.length) :
 FnW C 400 [aR ks ke cap,.ro 4 (x.map cIt) e]=some (.ro 6 ((x.map (fre ks)).map eEn) true):=by
 rw [aO H.ait rfl]
 by_cases hne:x=[]
 · subst hne
   simp (disch:=omega) [Zi,au uP.eq_1,au EC.eq_1]
 · have h:=SL H ks ke cap x e hxl hx x.length 0 (by simp) [] rfl
   have h2:x.length * 73≤35184372088832:=by omega
   simp only [EX] at h
   simp at h
   simp (disch:=omega) [Zi,hne,h2,h]
def amM (e:Int):AV:=.tup [aL [] true,.int .i64 e]
def Yg (out:List En):AV:=if ovE (out.map En.own)≠0 then amM (ovE (out.map En.own)) else .tup [aL (out.map En.own) true,.int .i64 0]
structure ao0 (C:aJ):Prop extends aob C
structure uh (C:aJ):Prop extends ao0 C where
 ah1:C.fns.get 422=some Hg
 f270:C.fns.get 270=some adT
 f126:C.fns.get 126=some ac7
 f130:C.fns.get 130=some ad1
structure Good (i:It):Prop where
 k:1≤i.k∧i.k≤60
 t:0≤i.t∧i.t≤2
 x:isText i.x=true
 l:i.m.length≤8
 m:i.m.all isName=true
def RV (k t:Int) (x:Bs) (o:Option AV):Prop:=∃ (m:List Bs) (e:Bool),o=some (eIt ⟨k,t,x,m,e⟩)∧m.length≤8∧m.all isName=true
theorem nM (H:uh C) (k t a b c d:Int) (hd:0≤d∧d≤255) (x:Bs) (G:List Bs) (hG:G≠[]) (hl:G.length≤3) (hm:G.all isName=true) :
 RV k t x (cu C ⟨[(4,.int .i64 3),(3,.ptr 0 0 0),(2,.ptr 2 0 0),(1,.ptr 3 0 0)],[(0,.cells 4 [[.int .u64 k,.int .u8 t,.str x,.sl 1 1 0 G.length G.length false]] true false),(1,.cells 1 (G.map eS) true true),(2,.cells 4 [[.int .u64 0,.int .u8 0,.str [],.ro 1 [] true]] true true),(3,.cells 4 [[.int .u8 a,.int .u8 b,.int .u8 c,.int .u8 d]] true true)],4⟩):=by
 have hfit:(G.length+1) * 17≤35184372088832:=by omega
 have hfit2:(G.length+2) * 17≤35184372088832:=by omega
 have h4:List.take G.length (List.map eS G)=List.map eS G:=List.take_of_length_le (by simp)
 by_cases c1:240≤d
 · refine ⟨G++[[97],[97]],false,?_,by simp;omega,by simp only [List.all_append,hm];decide⟩
   have h5:List.take (G.length+2) (List.map eS G++[[.str [97]],[.str [97]]])=List.map eS G++[[.str [97]],[.str [97]]]:=List.take_of_length_le (by simp)
   simp only [cu];rw [au jI.eq_1]
   simp (disch:=omega) [au wC.eq_1,c1,h4,h5,hfit2]
 · refine ⟨G,false,?_,by omega,hm⟩
   simp only [cu];rw [au jI.eq_1]
   simp (disch:=omega) [au wC.eq_1,c1,h4]
theorem Hr (H:uh C) (k t a b c d:Int) (hd:0≤d∧d≤255) (x:Bs) :
 RV k t x (cu C ⟨[(4,.int .i64 3),(3,.ptr 0 0 0),(2,.ptr 1 0 0),(1,.ptr 2 0 0)],[(0,.cells 4 [[.int .u64 k,.int .u8 t,.str x,.ro 1 [] true]] true true),(1,.cells 4 [[.int .u64 0,.int .u8 0,.str [],.ro 1 [] true]] true true),(2,.cells 4 [[.int .u8 a,.int .u8 b,.int .u8 c,.int .u8 d]] true true)],3⟩):=by
 by_cases c1:240≤d
 · refine ⟨[[97],[97]],false,?_,by simp,by decide⟩
   simp only [cu];rw [au jI.eq_1]
   simp (disch:=omega) [au wC.eq_1,c1]
 · refine ⟨[],true,?_,by simp,rfl⟩
   simp only [cu];rw [au jI.eq_1]
   simp (disch:=omega) [au wC.eq_1,c1]
theorem nR (H:uh C) (k t a b c d:Int) (hd:0≤d∧d≤255) (x:Bs) (G:List Bs) (hG:G≠[]) (hl:G.length≤2) (hm:G.all isName=true) :
 RV k t x (cu C ⟨[(4,.int .i64 2),(3,.ptr 0 0 0),(2,.ptr 2 0 0),(1,.ptr 3 0 0)],[(0,.cells 4 [[.int .u64 k,.int .u8 t,.str x,.sl 1 1 0 G.length G.length false]] true false),(1,.cells 1 (G.map eS) true true),(2,.cells 4 [[.int .u64 0,.int .u8 0,.str [],.ro 1 [] true]] true true),(3,.cells 4 [[.int .u8 a,.int .u8 b,.int .u8 c,.int .u8 d]] true true)],4⟩):=by
 have hfit:(G.length+1) * 17≤35184372088832:=by omega
 have hfit2:(G.length+2) * 17≤35184372088832:=by omega
 have h4:List.take G.length (List.map eS G)=List.map eS G:=List.take_of_length_le (by simp)
 have h6:d.tdiv 8=d / 8:=Int.tdiv_eq_ediv_of_nonneg (by omega)
 have h5:(2+d / 8).tmod 3=(2+d / 8) % 3:=Int.tmod_eq_emod_of_nonneg (by omega)
 have hJ:(2+d / 8) % 3=0∨(2+d / 8) % 3=1∨(2+d / 8) % 3=2:=by omega
 simp only [cu];rw [au jI.eq_1]
 rcases hJ with hj | hj | hj
 · simp (disch:=omega) [aN,wU8,h5,h6,hj,h4,hfit]
   split
   · have h:=nM H k t a b c d hd x (G++[[97]]) (by simp) (by simp;omega) (by simp only [List.all_append,hm];decide)
     simp only [cu] at h
     simpa using h
   · exact nM H k t a b c d hd x G hG (by omega) hm
 · simp (disch:=omega) [aN,wU8,h5,h6,hj,h4,hfit]
   split
   · have h:=nM H k t a b c d hd x (G++[[98,50]]) (by simp) (by simp;omega) (by simp only [List.all_append,hm];decide)
     simp only [cu] at h
     simpa using h
   · exact nM H k t a b c d hd x G hG (by omega) hm
 · simp (disch:=omega) [aN,wU8,h5,h6,hj,h4,hfit]
   split
   · have h:=nM H k t a b c d hd x (G++[[107,101,121]]) (by simp) (by simp;omega) (by simp only [List.all_append,hm];decide)
     simp only [cu] at h
     simpa using h
   · exact nM H k t a b c d hd x G hG (by omega) hm
theorem Hu (H:uh C) (k t a b c d:Int) (hd:0≤d∧d≤255) (x:Bs) :
 RV k t x (cu C ⟨[(4,.int .i64 2),(3,.ptr 0 0 0),(2,.ptr 1 0 0),(1,.ptr 2 0 0)],[(0,.cells 4 [[.int .u64 k,.int .u8 t,.str x,.ro 1 [] true]] true true),(1,.cells 4 [[.int .u64 0,.int .u8 0,.str [],.ro 1 [] true]] true true),(2,.cells 4 [[.int .u8 a,.int .u8 b,.int .u8 c,.int .u8 d]] true true)],3⟩):=by
 have h6:d.tdiv 8=d / 8:=Int.tdiv_eq_ediv_of_nonneg (by omega)
 have h5:(2+d / 8).tmod 3=(2+d / 8) % 3:=Int.tmod_eq_emod_of_nonneg (by omega)
 have hJ:(2+d / 8) % 3=0∨(2+d / 8) % 3=1∨(2+d / 8) % 3=2:=by omega
 simp only [cu];rw [au jI.eq_1]
 rcases hJ with hj | hj | hj
 · simp (disch:=omega) [aN,wU8,h5,h6,hj]
   split
   · exact nM H k t a b c d hd x [[97]] (by simp) (by simp) (by decide)
   · exact Hr H k t a b c d hd x
 · simp (disch:=omega) [aN,wU8,h5,h6,hj]
   split
   · exact nM H k t a b c d hd x [[98,50]] (by simp) (by simp) (by decide)
   · exact Hr H k t a b c d hd x
 · simp (disch:=omega) [aN,wU8,h5,h6,hj]
   split
   · exact nM H k t a b c d hd x [[107,101,121]] (by simp) (by simp) (by decide)
   · exact Hr H k t a b c d hd x
theorem KN (H:uh C) (k t a b c d:Int) (hd:0≤d∧d≤255) (x:Bs) (G:List Bs) (hG:G≠[]) (hl:G.length≤1) (hm:G.all isName=true) :
 RV k t x (cu C ⟨[(4,.int .i64 1),(3,.ptr 0 0 0),(2,.ptr 2 0 0),(1,.ptr 3 0 0)],[(0,.cells 4 [[.int .u64 k,.int .u8 t,.str x,.sl 1 1 0 G.length G.length false]] true false),(1,.cells 1 (G.map eS) true true),(2,.cells 4 [[.int .u64 0,.int .u8 0,.str [],.ro 1 [] true]] true true),(3,.cells 4 [[.int .u8 a,.int .u8 b,.int .u8 c,.int .u8 d]] true true)],4⟩):=by
 have hfit:(G.length+1) * 17≤35184372088832:=by omega
 have hfit2:(G.length+2) * 17≤35184372088832:=by omega
 have h4:List.take G.length (List.map eS G)=List.map eS G:=List.take_of_length_le (by simp)
 have h6:d.tdiv 8=d / 8:=Int.tdiv_eq_ediv_of_nonneg (by omega)
 have h5:(1+d / 8).tmod 3=(1+d / 8) % 3:=Int.tmod_eq_emod_of_nonneg (by omega)
 have hJ:(1+d / 8) % 3=0∨(1+d / 8) % 3=1∨(1+d / 8) % 3=2:=by omega
 simp only [cu];rw [au jI.eq_1]
 rcases hJ with hj | hj | hj
 · simp (disch:=omega) [aN,wU8,h5,h6,hj,h4,hfit]
   split
   · have h:=nR H k t a b c d hd x (G++[[97]]) (by simp) (by simp;omega) (by simp only [List.all_append,hm];decide)
     simp only [cu] at h
     simpa using h
   · exact nR H k t a b c d hd x G hG (by omega) hm
 · simp (disch:=omega) [aN,wU8,h5,h6,hj,h4,hfit]
   split
   · have h:=nR H k t a b c d hd x (G++[[98,50]]) (by simp) (by simp;omega) (by simp only [List.all_append,hm];decide)
     simp only [cu] at h
     simpa using h
   · exact nR H k t a b c d hd x G hG (by omega) hm
 · simp (disch:=omega) [aN,wU8,h5,h6,hj,h4,hfit]
   split
   · have h:=nR H k t a b c d hd x (G++[[107,101,121]]) (by simp) (by simp;omega) (by simp only [List.all_append,hm];decide)
     simp only [cu] at h
     simpa using h
   · exact nR H k t a b c d hd x G hG (by omega) hm
theorem Gv (H:uh C) (k t a b c d:Int) (hd:0≤d∧d≤255) (x:Bs) :
 RV k t x (cu C ⟨[(4,.int .i64 1),(3,.ptr 0 0 0),(2,.ptr 1 0 0),(1,.ptr 2 0 0)],[(0,.cells 4 [[.int .u64 k,.int .u8 t,.str x,.ro 1 [] true]] true true),(1,.cells 4 [[.int .u64 0,.int .u8 0,.str [],.ro 1 [] true]] true true),(2,.cells 4 [[.int .u8 a,.int .u8 b,.int .u8 c,.int .u8 d]] true true)],3⟩):=by
 have h6:d.tdiv 8=d / 8:=Int.tdiv_eq_ediv_of_nonneg (by omega)
 have h5:(1+d / 8).tmod 3=(1+d / 8) % 3:=Int.tmod_eq_emod_of_nonneg (by omega)
 have hJ:(1+d / 8) % 3=0∨(1+d / 8) % 3=1∨(1+d / 8) % 3=2:=by omega
 simp only [cu];rw [au jI.eq_1]
 rcases hJ with hj | hj | hj
 · simp (disch:=omega) [aN,wU8,h5,h6,hj]
   split
   · exact nR H k t a b c d hd x [[97]] (by simp) (by simp) (by decide)
   · exact Hu H k t a b c d hd x
 · simp (disch:=omega) [aN,wU8,h5,h6,hj]
   split
   · exact nR H k t a b c d hd x [[98,50]] (by simp) (by simp) (by decide)
   · exact Hu H k t a b c d hd x
 · simp (disch:=omega) [aN,wU8,h5,h6,hj]
   split
   · exact nR H k t a b c d hd x [[107,101,121]] (by simp) (by simp) (by decide)
   · exact Hu H k t a b c d hd x
theorem aaS (H:uh C) (k t a b c d:Int) (hd:0≤d∧d≤255) (x:Bs) :
 RV k t x (cu C ⟨[(4,.int .i64 0),(3,.ptr 0 0 0),(2,.ptr 1 0 0),(1,.ptr 2 0 0)],[(0,.cells 4 [[.int .u64 k,.int .u8 t,.str x,.ro 1 [] true]] true true),(1,.cells 4 [[.int .u64 0,.int .u8 0,.str [],.ro 1 [] true]] true true),(2,.cells 4 [[.int .u8 a,.int .u8 b,.int .u8 c,.int .u8 d]] true true)],3⟩):=by
 have h6:d.tdiv 8=d / 8:=Int.tdiv_eq_ediv_of_nonneg (by omega)
 have h5:(0+d / 8).tmod 3=(0+d / 8) % 3:=Int.tmod_eq_emod_of_nonneg (by omega)
 have hJ:(0+d / 8) % 3=0∨(0+d / 8) % 3=1∨(0+d / 8) % 3=2:=by omega
 simp only [cu];rw [au jI.eq_1]
 simp only [Int.zero_add] at h5 hJ
 rcases hJ with hj | hj | hj
 · simp (disch:=omega) [aN,wU8,h5,h6,hj]
   split
   · exact KN H k t a b c d hd x [[97]] (by simp) (by simp) (by decide)
   · exact Gv H k t a b c d hd x
 · simp (disch:=omega) [aN,wU8,h5,h6,hj]
   split
   · exact KN H k t a b c d hd x [[98,50]] (by simp) (by simp) (by decide)
   · exact Gv H k t a b c d hd x
 · simp (disch:=omega) [aN,wU8,h5,h6,hj]
   split
   · exact KN H k t a b c d hd x [[107,101,121]] (by simp) (by simp) (by decide)
   · exact Gv H k t a b c d hd x
structure Q4 where
 (a b c d:Int)
@[simp] def eQ (q:Q4):List AV:=[.int .u8 q.a,.int .u8 q.b,.int .u8 q.c,.int .u8 q.d]
structure QIn (q:Q4):Prop where
 a:0≤q.a∧q.a≤255
 b:0≤q.b∧q.b≤255
 c:0≤q.c∧q.c≤255
 d:0≤q.d∧q.d≤255
theorem YW (H:uh C) (q:Q4) (hq:QIn q):∃ i:It,FnW C 422 [.agg (eQ q)]=some (eIt i)∧Good i:=by
 obtain ⟨a,b,c,d⟩:=q
 obtain ⟨ha,hb,hc,hd⟩:=hq
 simp only at ha hb hc hd
 have h1:a.tmod 60=a % 60:=Int.tmod_eq_emod_of_nonneg (by omega)
 have h2:b.tmod 3=b % 3:=Int.tmod_eq_emod_of_nonneg (by omega)
 have h3:c.tmod 8=c % 8:=Int.tmod_eq_emod_of_nonneg (by omega)
 have hx:∀ x:Bs,isText x=true→∃ i:It,cu C ⟨[(4,.int .i64 0),(3,.ptr 0 0 0),(2,.ptr 1 0 0),(1,.ptr 2 0 0)],[(0,.cells 4 [[.int .u64 (1+a % 60),.int .u8 (b % 3),.str x,.ro 1 [] true]] true true),(1,.cells 4 [[.int .u64 0,.int .u8 0,.str [],.ro 1 [] true]] true true),(2,.cells 4 [[.int .u8 a,.int .u8 b,.int .u8 c,.int .u8 d]] true true)],3⟩=some (eIt i)∧Good i:=by
  intro x hx
  obtain ⟨m,e,h,r1,r2⟩:=aaS H (1+a % 60) (b % 3) a b c d hd x
  exact ⟨_,h,⟨by simp only;omega,by simp only;omega,hx,r1,r2⟩⟩
 rw [aO H.ah1 rfl]
 have hJ:c % 8=0∨c % 8=1∨c % 8=2∨c % 8=3∨c % 8=4∨c % 8=5∨c % 8=6∨c % 8=7:=by omega
 rcases hJ with hj | hj | hj | hj | hj | hj | hj | hj
 · obtain ⟨i,h,g⟩:=hx [] (by decide)
   refine ⟨i,?_,g⟩
   simp only [cu] at h
   simp (disch:=omega) [Hg,h1,h2,h3,hj,aN,wU8,xu,h]
 · obtain ⟨i,h,g⟩:=hx [97] (by decide)
   refine ⟨i,?_,g⟩
   simp only [cu] at h
   simp (disch:=omega) [Hg,h1,h2,h3,hj,aN,wU8,xu,h]
 · obtain ⟨i,h,g⟩:=hx [114,111,119] (by decide)
   refine ⟨i,?_,g⟩
   simp only [cu] at h
   simp (disch:=omega) [Hg,h1,h2,h3,hj,aN,wU8,xu,h]
 · obtain ⟨i,h,g⟩:=hx [116,119,111,32,119,111,114,100,115] (by decide)
   refine ⟨i,?_,g⟩
   simp only [cu] at h
   simp (disch:=omega) [Hg,h1,h2,h3,hj,aN,wU8,xu,h]
 · obtain ⟨i,h,g⟩:=hx [32,32] (by decide)
   refine ⟨i,?_,g⟩
   simp only [cu] at h
   simp (disch:=omega) [Hg,h1,h2,h3,hj,aN,wU8,xu,h]
 · obtain ⟨i,h,g⟩:=hx [126,33,45,44] (by decide)
   refine ⟨i,?_,g⟩
   simp only [cu] at h
   simp (disch:=omega) [Hg,h1,h2,h3,hj,aN,wU8,xu,h]
 · obtain ⟨i,h,g⟩:=hx [97,32,108,111,110,103,101,114,32,116,101,120,116,32,111,102,32,116,104,105,115,32,107,105,110,100] (by decide)
   refine ⟨i,?_,g⟩
   simp only [cu] at h
   simp (disch:=omega) [Hg,h1,h2,h3,hj,aN,wU8,xu,h]
 · obtain ⟨i,h,g⟩:=hx [57] (by decide)
   refine ⟨i,?_,g⟩
   simp only [cu] at h
   simp (disch:=omega) [Hg,h1,h2,h3,hj,aN,wU8,xu,h]
theorem Good.it {i:It} (h:Good i):QS i:=⟨by have:=h.k;omega,by have:=h.t;omega,by have:=h.l;omega⟩
theorem Good.ok {i:It} (h:Good i):xB 3 i=true:=by
 have h1:=h.k;have h2:=h.t;have h3:=h.x;have h4:=h.l;have h5:=h.m
 unfold xB
 simp only [Bool.and_eq_true,decide_eq_true_eq]
 exact ⟨⟨⟨by omega,by omega⟩,h3⟩,h4,h5⟩
theorem Vx {k:Int}:∀ (l:List It) (i:Nat),OG k i l < 0→∀ x ∈ l,x.k≠k
 | [],_,_=>by simp
 | e::r,i,h=>by
  rw [OG] at h
  split at h
  · omega
  · rename_i c
    intro x hx
    rcases List.mem_cons.1 hx with rfl | hx
    · exact c
    · exact Vx r (i+1) h x hx
theorem Sz (H:uh C) (hone:∀ q:Q4,QIn q→∃ i:It,FnW C 422 [.agg (eQ q)]=some (eIt i)∧Good i) (l:List Q4) (e:Bool) (hq:∀ q ∈ l,QIn q):∀ n i,n+i=min l.length 12→∀ G:List It,G.length≤i→(∀ x ∈ G,Good x)→(G.map It.k).Nodup →
 ∃ R:List It,zY C ⟨[(4,.int .i64 i),(3,.sl 0 4 0 G.length G.length false),(1,.ptr 1 0 0)],[(0,.cells 4 (G.map cIt) true true),(1,.cells 1 [[.ro 4 (l.map eQ) e]] true true)],2⟩=some (.ro 4 (R.map cIt) false) ∧
  R.length≤12∧(∀ x ∈ R,Good x)∧(R.map It.k).Nodup:=by
 intro n
 induction n with
 | zero =>
  intro i hi G hG hg hn
  refine ⟨G,?_,by omega,hg,hn⟩
  simp only [zY];rw [au wE.eq_1]
  have h6:List.take G.length (List.map cIt G)=List.map cIt G:=List.take_of_length_le (by simp)
  by_cases h3:i < l.length
  · have h4:¬ (i:Int) < 12:=by omega
    simp [au EZ.eq_1,h3,h4,h6]
  · simp [au EZ.eq_1,h3,h6]
 | succ n ih =>
  intro i hi G hG hg hn
  have h1:i < l.length:=by omega
  have h2:(i:Int) < 12:=by omega
  obtain ⟨x,hx,gx⟩:=hone l[i] (hq _ (List.getElem_mem h1))
  have hf:=ZG H.toLC G false x.k (by omega)
  have h6:List.take G.length (List.map cIt G)=List.map cIt G:=List.take_of_length_le (by simp)
  have hfit:(G.length+1) * 57≤35184372088832:=by omega
  simp only [eQ] at hx
  by_cases c:OG x.k 0 G < 0
  · have hno:=Vx G 0 c
    obtain ⟨R,this,r1,r2,r3⟩:=ih (i+1) (by omega) (G++[x]) (by simp;omega) (by
     intro y hy
     rcases List.mem_append.1 hy with q | q
     · exact hg y q
     · simp at q;rw [q];exact gx) (by
     rw [List.map_append,List.nodup_append]
     refine ⟨hn,by simp,?_⟩
     intro a ha b hb
     simp at hb
     obtain ⟨y,hy,rfl⟩:=List.mem_map.1 ha
     rw [hb];exact hno y hy)
    refine ⟨R,?_,r1,r2,r3⟩
    simp only [zY] at this ⊢;rw [au wE.eq_1]
    simp at this
    simp (disch:=omega) [h1,h2,hx,hf,h6,c,hfit,aN,H.inl,aH,H.pp,ppB,this]
  · obtain ⟨R,this,r1,r2,r3⟩:=ih (i+1) (by omega) G (by omega) hg hn
    refine ⟨R,?_,r1,r2,r3⟩
    simp only [zY] at this ⊢;rw [au wE.eq_1]
    simp at this
    simp (disch:=omega) [h1,h2,hx,hf,h6,c,aN,H.inl,aH,H.pp,ppB,this]
theorem abY (H:uh C) (hone:∀ q:Q4,QIn q→∃ i:It,FnW C 422 [.agg (eQ q)]=some (eIt i)∧Good i) (l:List Q4) (e:Bool) (hq:∀ q ∈ l,QIn q) :
 ∃ R:List It,FnW C 270 [.agg [.ro 4 (l.map eQ) e]]=some (.ro 4 (R.map cIt) false)∧R.length≤12∧(∀ x ∈ R,Good x)∧(R.map It.k).Nodup:=by
 obtain ⟨R,h,r⟩:=Sz H hone l e hq (min l.length 12) 0 (by simp) [] (by simp) (by simp) (by simp)
 refine ⟨R,?_,r⟩
 simp only [zY] at h
 simp at h
 rw [aO H.f270 rfl]
 simp [adT,h]
def wY (k:Int) (t:Bs):Pt:=⟨k,[],[],[],true,t,[],true⟩
def Ce:Pt:=⟨1,[114,111,119],[],[⟨[110],3,[]⟩,⟨[116,101,120,116],1,[]⟩],true,[],[wY 3 []],true⟩
def uw:Pt:=⟨1,[104,101,97,100],[104],[⟨[105,100],2,[]⟩],true,[],[wY 2 [35],wY 4 []],true⟩
def uK:Pt:=⟨1,[114,111,119],[],[],true,[],[⟨1,[98],[98,50],[],true,[],[wY 3 []],true⟩,⟨5,[116,97,103],[],[⟨[111,102],2,[]⟩],true,[],[],true⟩],true⟩
def aA (n:Int):List Kd:=[⟨Ce,10+n % 7,false,n % 4⟩,⟨uw,6+n % 3,true,n / 4 % 3⟩,⟨uK,20,decide (n % 16=15),n / 8 % 3⟩]
theorem YZ (H:uh C) (n:Int) (hn:0≤n∧n≤255):FnW C 126 [.int .u8 n]=some (.ro 9 ((aA n).map eKd) true):=by
 rw [aO H.f126 rfl]
 have h1:n.tmod 7=n % 7:=Int.tmod_eq_emod_of_nonneg (by omega)
 have h2:n.tmod 4=n % 4:=Int.tmod_eq_emod_of_nonneg (by omega)
 have h3:n.tmod 3=n % 3:=Int.tmod_eq_emod_of_nonneg (by omega)
 have h4:n.tdiv 4=n / 4:=Int.tdiv_eq_ediv_of_nonneg (by omega)
 have h5:n.tdiv 8=n / 8:=Int.tdiv_eq_ediv_of_nonneg (by omega)
 have h6:(n / 4).tmod 3=n / 4 % 3:=Int.tmod_eq_emod_of_nonneg (by omega)
 have h7:(n / 8).tmod 3=n / 8 % 3:=Int.tmod_eq_emod_of_nonneg (by omega)
 have h8:n.tmod 16=n % 16:=Int.tmod_eq_emod_of_nonneg (by omega)
 simp (disch:=omega) [ac7,aA,Ce,uw,uK,wY,h1,h2,h3,h4,h5,h6,h7,h8,aN,wU8,Pt.bZ]
 rfl
theorem AY (k:Int) (t:Bs):fG (wY k t):=.mk _ ⟨by simp [wY],by simp [wY],by simp [wY]⟩ (by simp [wY])
theorem aa6:fG Ce:=.mk _ ⟨by simp [Ce],by simp [Ce],by simp [Ce]⟩ (by simp only [Ce,List.mem_cons,List.not_mem_nil,or_false];rintro m rfl;exact AY _ _)
theorem WL:fG uw:=.mk _ ⟨by simp [uw],by simp [uw],by simp [uw]⟩ (by simp only [uw,List.mem_cons,List.not_mem_nil,or_false];rintro m (rfl | rfl) <;> exact AY _ _)
theorem V7:fG uK:=.mk _ ⟨by simp [uK],by simp [uK],by simp [uK]⟩ (by
 simp only [uK,List.mem_cons,List.not_mem_nil,or_false]
 rintro m (rfl | rfl)
 · exact .mk _ ⟨by simp,by simp,by simp⟩ (by simp only [List.mem_cons,List.not_mem_nil,or_false];rintro m rfl;exact AY _ _)
 · exact .mk _ ⟨by simp,by simp,by simp⟩ (by simp))
theorem Cj (n:Int):Iu (aA n):=⟨by simp [aA],by
 simp only [aA,List.mem_cons,List.not_mem_nil,or_false]
 rintro k (rfl | rfl | rfl)
 · exact aa6
 · exact WL
 · exact V7⟩
theorem ahv:oQ Ce≠0:=by decide +kernel
theorem aec:oQ uw≠0:=by decide +kernel
theorem acM:oQ uK≠0:=by decide +kernel
theorem af6 (n:Int) (hn:0≤n∧n≤255):QM (aA n) 12=true:=by
 have e1:(1:Int)≤10+n % 7∧10+n % 7≤2305843009213693952:=by omega
 have e2:(1:Int)≤6+n % 3∧6+n % 3≤2305843009213693952:=by omega
 simp [QM,Qv,hOk,aA,ahv,aec,acM,e1,e2]
theorem UZ (n:Int) (hn:0≤n∧n≤255) (t:Int) (ht:0≤t∧t≤2):1≤(jK (aA n) t).b∧(jK (aA n) t).b≤30:=by
 have:t=0∨t=1∨t=2:=by omega
 rcases this with rfl | rfl | rfl <;> simp [jK,aA] <;> omega
structure gu (ks:List Kd) (e:En):Prop where
 i:Good e.i
 ok:itE ks 12 e.i false=0
 s:1≤e.s∧e.s≤40
 b:e.kn=true∨e.s=(jK ks e.i.t).b
structure agf (ks:List Kd):Prop where
 r:Iu ks
 l:ks.length=3
 b:∀ t:Int,0≤t→t≤2→1≤(jK ks t).b∧(jK ks t).b≤30
theorem afj (n:Int) (hn:0≤n∧n≤255):agf (aA n):=⟨Cj n,rfl,fun t h1 h2=>UZ n hn t ⟨h1,h2⟩⟩
theorem aik (H:uh C) (ks:List Kd) (hks:agf ks) (l:List It) (le:Bool) (hl:l.length≤12) (hg:∀ x ∈ l,Good x) (q:List Q4) (qe:Bool) (z:List Int) (ze:Bool) (hz:∀ s ∈ z,0≤s∧s≤255) (hzl:z.length < 9223372036854775808) (r:Int):∀ n i,n+i=l.length →
 ∀ G:List En,G≠[]→G.length≤i→(∀ x ∈ G,gu ks x)→(cO G++(l.drop i).map It.k).Nodup →
 ∃ (R:List En) (f:Bool),gX C ⟨[(7,.int .i64 i),(6,.ptr 0 0 0),(5,.ro 4 (l.map cIt) le),(4,.ptr 2 0 0),(3,.ptr 3 0 0),(2,.ptr 4 0 0),(1,.ptr 5 0 0)],[(0,.cells 1 [[.sl 1 6 0 G.length G.length false]] true false),(1,.cells 6 (G.map eEn) true true),(2,.cells 2 [[.ro 9 (ks.map eKd) true,.int .i64 12]] true true),(3,.cells 1 [[.ro 6 [] true]] true true),(4,.cells 2 [[.ro 9 [] true,.int .i64 0]] true true),(5,.cells 3 [[.ro 4 (q.map eQ) qe,.ro 1 (z.map eU8) ze,.int .u8 r]] true true)],6⟩=some (.tup [aR ks true 12,aL R f])∧R.length≤12∧(∀ e ∈ R,gu ks e)∧(cO R).Nodup:=by
 intro n
 induction n with
 | zero =>
  intro i hi G hne hG hge hn
  have h1:l.drop i=[]:=List.drop_eq_nil_of_le (by omega)
  have h3:¬ i < l.length:=by omega
  have h6:List.take G.length (List.map eEn G)=List.map eEn G:=List.take_of_length_le (by simp)
  refine ⟨G,false,?_,by omega,hge,by rw [h1] at hn;simpa using hn⟩
  simp only [gX];rw [au jc.eq_1]
  simp [au EO.eq_1,h3,h6]
 | succ n ih =>
  intro i hi G hne hG hge hn
  have h1:i < l.length:=by omega
  have gx:=hg _ (List.getElem_mem h1)
  have hii:=OX H.toDl ks true 12 l[i] gx.it hks.r false
  have hfr:=Je H.toDl ks true 12 l[i] gx.it (by have:=gx.t;have:=hks.l;omega)
  have hbase:=hks.b l[i].t gx.t.1 gx.t.2
  rw [drop_cons h1,List.map_cons] at hn
  have hfit:(G.length+1) * 73≤35184372088832:=by omega
  simp only [aR,eIt,Bool.false_eq_true,if_false] at hii
  simp only [aR,eIt,aE,eEn,fre] at hfr
  have hE0:0≤itE ks 12 l[i] false:=by unfold itE;repeat (first | omega | split)
  by_cases c1:itE ks 12 l[i] false=0
  · have step:∀ e:En,e.i=l[i]→gu ks e→∃ (R:List En) (f:Bool),gX C ⟨[(7,.int .i64 ((i:Int)+1)),(6,.ptr 0 0 0),(5,.ro 4 (l.map cIt) le),(4,.ptr 2 0 0),(3,.ptr 3 0 0),(2,.ptr 4 0 0),(1,.ptr 5 0 0)],[(0,.cells 1 [[.sl 1 6 0 (G.length+1) (G.length+1) false]] true false),(1,.cells 6 (G.map eEn++[eEn e]) true true),(2,.cells 2 [[.ro 9 (ks.map eKd) true,.int .i64 12]] true true),(3,.cells 1 [[.ro 6 [] true]] true true),(4,.cells 2 [[.ro 9 [] true,.int .i64 0]] true true),(5,.cells 3 [[.ro 4 (q.map eQ) qe,.ro 1 (z.map eU8) ze,.int .u8 r]] true true)],6⟩=some (.tup [aR ks true 12,aL R f])∧R.length≤12∧(∀ e ∈ R,gu ks e)∧(cO R).Nodup:=by
     intro e he hge2
     have:=ih (i+1) (by omega) (G++[e]) (by simp) (by simp;omega) (by
      intro y hy
      rcases List.mem_append.1 hy with q | q
      · exact hge y q
      · simp at q;rw [q];exact hge2) (by simpa [cO,he] using hn)
     simpa using this
    by_cases c2:G.length < z.length
    · by_cases c3:(0:Int) < z[G.length]
      · have hzz:=hz _ (List.getElem_mem c2)
        have hm:z[G.length].tmod 40=z[G.length] % 40:=Int.tmod_eq_emod_of_nonneg hzz.1
        have hm1:(0:Int)≤z[G.length] % 40:=Int.emod_nonneg _ (by omega)
        have hm2:z[G.length] % 40 < 40:=Int.emod_lt_of_pos _ (by omega)
        obtain ⟨R,f,this,hR⟩:=step ⟨l[i],1+z[G.length] % 40,true⟩ rfl ⟨gx,c1,by simp only;omega,.inl rfl⟩
        refine ⟨R,f,?_,hR⟩
        rw [c1] at hii
        generalize z[G.length] % 40=M at *
        simp only [gX] at this ⊢;rw [au jc.eq_1]
        simp at this
        simp (disch:=omega) [h1,c2,c3,hm,hii,hfr,hfit,aN,wU8,H.inl,aH,H.pp,ppB,this]
      · obtain ⟨R,f,this,hR⟩:=step (fre ks l[i]) rfl ⟨gx,c1,by unfold fre;simp only;omega,.inr rfl⟩
        refine ⟨R,f,?_,hR⟩
        rw [c1] at hii
        simp only [fre] at this
        simp only [gX] at this ⊢;rw [au jc.eq_1]
        simp at this
        simp (disch:=omega) [h1,c2,c3,hii,hfr,hfit,aN,wU8,H.inl,aH,H.pp,ppB,this]
    · obtain ⟨R,f,this,hR⟩:=step (fre ks l[i]) rfl ⟨gx,c1,by unfold fre;simp only;omega,.inr rfl⟩
      refine ⟨R,f,?_,hR⟩
      rw [c1] at hii
      simp only [fre] at this
      simp only [gX] at this ⊢;rw [au jc.eq_1]
      simp at this
      simp (disch:=omega) [h1,c2,hii,hfr,hfit,aN,wU8,H.inl,aH,H.pp,ppB,this]
  · have c1':0 < itE ks 12 l[i] false:=by omega
    obtain ⟨R,f,this,hR⟩:=ih (i+1) (by omega) G hne (by omega) hge (by
     refine List.Nodup.sublist ?_ hn;exact List.Sublist.append (List.Sublist.refl _) (List.sublist_cons_self _ _))
    refine ⟨R,f,?_,hR⟩
    generalize itE ks 12 l[i] false=E at *
    simp only [gX] at this ⊢;rw [au jc.eq_1]
    simp at this
    simp (disch:=omega) [h1,c1',hii,aN,H.inl,aH,H.pp,ppB,this]
theorem adk (H:uh C) (ks:List Kd) (hks:agf ks) (l:List It) (le:Bool) (hl:l.length≤12) (hg:∀ x ∈ l,Good x) (q:List Q4) (qe:Bool) (z:List Int) (ze:Bool) (hz:∀ s ∈ z,0≤s∧s≤255) (hzl:z.length < 9223372036854775808) (r:Int):∀ n i,n+i=l.length →
 (cO []++(l.drop i).map It.k).Nodup →
 ∃ (R:List En) (f:Bool),gX C ⟨[(7,.int .i64 i),(6,.ptr 0 0 0),(5,.ro 4 (l.map cIt) le),(4,.ptr 1 0 0),(3,.ptr 2 0 0),(2,.ptr 3 0 0),(1,.ptr 4 0 0)],[(0,.cells 1 [[.ro 6 [] true]] true true),(1,.cells 2 [[.ro 9 (ks.map eKd) true,.int .i64 12]] true true),(2,.cells 1 [[.ro 6 [] true]] true true),(3,.cells 2 [[.ro 9 [] true,.int .i64 0]] true true),(4,.cells 3 [[.ro 4 (q.map eQ) qe,.ro 1 (z.map eU8) ze,.int .u8 r]] true true)],5⟩=some (.tup [aR ks true 12,aL R f])∧R.length≤12∧(∀ e ∈ R,gu ks e)∧(cO R).Nodup:=by
 intro n
 induction n with
 | zero =>
  intro i hi  hn
  have h1:l.drop i=[]:=List.drop_eq_nil_of_le (by omega)
  have h3:¬ i < l.length:=by omega
  refine ⟨[],true,?_,by simp,by simp,by simp⟩
  simp only [gX];rw [au jc.eq_1]
  simp [au EO.eq_1,h3]
 | succ n ih =>
  intro i hi  hn
  have h1:i < l.length:=by omega
  have gx:=hg _ (List.getElem_mem h1)
  have hii:=OX H.toDl ks true 12 l[i] gx.it hks.r false
  have hfr:=Je H.toDl ks true 12 l[i] gx.it (by have:=gx.t;have:=hks.l;omega)
  have hbase:=hks.b l[i].t gx.t.1 gx.t.2
  rw [drop_cons h1,List.map_cons] at hn
  simp only [aR,eIt,Bool.false_eq_true,if_false] at hii
  simp only [aR,eIt,aE,eEn,fre] at hfr
  have hE0:0≤itE ks 12 l[i] false:=by unfold itE;repeat (first | omega | split)
  by_cases c1:itE ks 12 l[i] false=0
  · have step:∀ e:En,e.i=l[i]→gu ks e→∃ (R:List En) (f:Bool),gX C ⟨[(7,.int .i64 ((i:Int)+1)),(6,.ptr 0 0 0),(5,.ro 4 (l.map cIt) le),(4,.ptr 2 0 0),(3,.ptr 3 0 0),(2,.ptr 4 0 0),(1,.ptr 5 0 0)],[(0,.cells 1 [[.sl 1 6 0 1 1 false]] true false),(1,.cells 6 [eEn e] true true),(2,.cells 2 [[.ro 9 (ks.map eKd) true,.int .i64 12]] true true),(3,.cells 1 [[.ro 6 [] true]] true true),(4,.cells 2 [[.ro 9 [] true,.int .i64 0]] true true),(5,.cells 3 [[.ro 4 (q.map eQ) qe,.ro 1 (z.map eU8) ze,.int .u8 r]] true true)],6⟩=some (.tup [aR ks true 12,aL R f])∧R.length≤12∧(∀ e ∈ R,gu ks e)∧(cO R).Nodup:=by
     intro e he hge2
     have:=aik H ks hks l le hl hg q qe z ze hz hzl r n (i+1) (by omega) [e] (by simp) (by simp) (by simpa using hge2) (by simpa [cO,he] using hn)
     simpa using this
    by_cases c2:0 < z.length
    · by_cases c3:(0:Int) < z[0]
      · have hzz:=hz _ (List.getElem_mem c2)
        have hm:z[0].tmod 40=z[0] % 40:=Int.tmod_eq_emod_of_nonneg hzz.1
        have hm1:(0:Int)≤z[0] % 40:=Int.emod_nonneg _ (by omega)
        have hm2:z[0] % 40 < 40:=Int.emod_lt_of_pos _ (by omega)
        obtain ⟨R,f,this,hR⟩:=step ⟨l[i],1+z[0] % 40,true⟩ rfl ⟨gx,c1,by simp only;omega,.inl rfl⟩
        refine ⟨R,f,?_,hR⟩
        rw [c1] at hii
        generalize z[0] % 40=M at *
        simp only [gX] at this ⊢;rw [au jc.eq_1]
        simp at this
        simp (disch:=omega) [h1,c2,c3,hm,hii,hfr,aN,wU8,H.inl,aH,H.pp,ppB,this]
      · obtain ⟨R,f,this,hR⟩:=step (fre ks l[i]) rfl ⟨gx,c1,by unfold fre;simp only;omega,.inr rfl⟩
        refine ⟨R,f,?_,hR⟩
        rw [c1] at hii
        simp only [fre] at this
        simp only [gX] at this ⊢;rw [au jc.eq_1]
        simp at this
        simp (disch:=omega) [h1,c2,c3,hii,hfr,aN,wU8,H.inl,aH,H.pp,ppB,this]
    · obtain ⟨R,f,this,hR⟩:=step (fre ks l[i]) rfl ⟨gx,c1,by unfold fre;simp only;omega,.inr rfl⟩
      refine ⟨R,f,?_,hR⟩
      rw [c1] at hii
      simp only [fre] at this
      simp only [gX] at this ⊢;rw [au jc.eq_1]
      simp at this
      simp (disch:=omega) [h1,c2,hii,hfr,aN,wU8,H.inl,aH,H.pp,ppB,this]
  · have c1':0 < itE ks 12 l[i] false:=by omega
    obtain ⟨R,f,this,hR⟩:=ih (i+1) (by omega) (by
     simp only [cO,List.map_nil,List.nil_append] at hn ⊢;exact (List.nodup_cons.1 hn).2)
    refine ⟨R,f,?_,hR⟩
    generalize itE ks 12 l[i] false=E at *
    simp only [gX] at this ⊢;rw [au jc.eq_1]
    simp at this
    simp (disch:=omega) [h1,c1',hii,aN,H.inl,aH,H.pp,ppB,this]
theorem abb (H:uh C) (hone:∀ q:Q4,QIn q→∃ i:It,FnW C 422 [.agg (eQ q)]=some (eIt i)∧Good i) (q:List Q4) (qe:Bool) (hq:∀ x ∈ q,QIn x) (z:List Int) (ze:Bool) (hz:∀ s ∈ z,0≤s∧s≤255) (hzl:z.length < 9223372036854775808) (r:Int) (hr:0≤r∧r≤255) :
 ∃ (R:List En) (f:Bool),FnW C 130 [.agg [.ro 4 (q.map eQ) qe,.ro 1 (z.map eU8) ze,.int .u8 r]]=some (.tup [aR (aA r) true 12,aL R f])∧R.length≤12∧(∀ e ∈ R,gu (aA r) e)∧(cO R).Nodup:=by
 obtain ⟨I,hI,l1,l2,l3⟩:=abY H hone q qe hq
 have hk:=YZ H r hr
 obtain ⟨R,f,h,hR⟩:=adk H (aA r) (afj r hr) I false l1 l2 q qe z ze hz hzl r I.length 0 (by simp) (by simpa [cO] using l3)
 refine ⟨R,f,?_,hR⟩
 rw [aO H.f130 rfl]
 generalize aA r=ks at *
 simp only [gX] at h
 simp at h
 simp [ad1,hI,hk,h,H.inl,aH,H.pp,ppB]
mutual
theorem abh (i:It):∀ p:Pt,mk i.own p=mk i p
 | ⟨k,t,y,s,se,tx,ch,ce⟩=>by rw [mk,mk,U0 i ch];rfl
theorem U0 (i:It):∀ l:List Pt,mks i.own l=mks i l
 | []=>rfl
 | p::r=>by rw [mks,mks,abh i p,U0 i r]
end
theorem PX (ks:List Kd) (hb:∀ t:Int,0≤t→t≤2→1≤(jK ks t).b∧(jK ks t).b≤30):∀ (l:List En) (s:List Int),(∀ e ∈ l,gu ks e)→(s++cO l).Nodup→chk ks 12 s l=0
 | [],_,_,_=>rfl
 | e::r,s,hg,hn=>by
  have h1:=hg e (by simp)
  have h2:s.contains e.i.k=false:=by
   simp only [cO,List.map_cons] at hn
   have:=(List.nodup_append.1 hn).2.2
   simp only [List.contains_eq_mem,decide_eq_false_iff_not]
   intro q
   exact this _ q _ (by simp) rfl
  have h3:enE ks 12 e false=0:=by
   unfold enE
   rw [h1.ok]
   have hh:hOk e.s=true:=by unfold hOk;have:=h1.s;simp;omega
   simp [hh,h1.b]
  rw [chk,h2,h3]
  simp only [ne_eq,not_true_eq_false,if_false]
  refine PX ks hb r _ (fun x hx=>hg x (by simp [hx])) ?_
  simpa [cO] using hn
theorem Oh (ks:List Kd):∀ (l:List En) (s:Int),(∀ e ∈ l,gu ks e)→0≤s→s+40 * l.length≤4611686018427387904→Dn s l≤s+40 * l.length
 | [],s,_,_,_=>by simp [Dn]
 | e::r,s,hg,h0,h=>by
  have h1:=(hg e (by simp)).s
  have h2:imax e.s 0=e.s:=QY (by omega)
  simp only [List.length_cons] at h ⊢
  rw [Dn,h2,if_neg (by omega)]
  have:=Oh ks r (s+e.s) (fun x hx=>hg x (by simp [hx])) (by omega) (by omega)
  omega
theorem Uu (r:Int) (hr:0≤r∧r≤255) (l:List En) (hl:l.length≤1024) (hg:∀ e ∈ l,gu (aA r) e) (hn:(cO l).Nodup):ckE (aA r) 12 l=0:=by
 have h1:=PX (aA r) (fun t a b=>UZ r hr t ⟨a,b⟩) l [] hg (by simpa using hn)
 have h2:=Oh (aA r) l 0 hg (by omega) (by omega)
 have h3:ovE l=0:=by unfold ovE tot;rw [if_neg (by omega)]
 unfold ckE
 rw [af6 r hr,h1,if_neg (by simp),if_neg (by omega),if_neg (by simp),h3]
theorem gu.en {ks:List Kd} {e:En} (h:gu ks e):Ie e:=⟨h.i.it,by have:=h.s;omega⟩
theorem gu.ow {ks:List Kd} {e:En} (h:gu ks e):gu ks e.own:=by
 refine ⟨⟨h.i.k,h.i.t,h.i.x,h.i.l,h.i.m⟩,?_,h.s,h.b⟩
 have h1:=h.ok
 have e1:∀ i:It,xB ks.length i.own=xB ks.length i:=fun i=>rfl
 have e2:∀ (i:It) (p:Pt),kW p i.own 12=kW p i 12:=by
  intro i p
  have:mkN i.own p=mkN i p:=by
   have m1:∀ p,Go.D.mk i.own p=Go.D.mk i p:=by
    intro p
    exact (abh i p)
   unfold mkN;rw [m1]
  unfold kW;rw [this];rfl
 unfold itE at h1 ⊢
 simp only [En.own,e1,e2]
 exact h1
end Go.D
end
section
namespace Go.D
open Go Go.Pav Go.Pw
theorem JM {v:AV} (h:Ty (.int .u16) v):∃ n:Int,v=.int .u16 n∧0≤n∧n≤65535:=by
 cases h with | int k n h1 h2=>exact ⟨n,rfl,h1,h2⟩
end Go.D
end
section
end
section
namespace Go.D
open Go Go.Pav Go.Pw P
def sm:List En→Int
 | []=>0
 | e::r=>e.s+sm r
def top (l:List En) (i:Nat):Int:=sm (l.take i)
theorem aag (l:List En):top l 0=0:=rfl
theorem Yi:∀ (a b:List En),sm (a++b)=sm a+sm b
 | [],b=>by simp [sm]
 | e::r,b=>by simp only [List.cons_append,sm];rw [Yi r b];omega
theorem Yn {l:List En} {i:Nat} (h:i < l.length):top l (i+1)=top l i+l[i].s:=by
 unfold top
 rw [List.take_add_one,List.getElem?_eq_getElem h,Yi]
 simp [sm]
theorem L8 (l:List En):top l l.length=sm l:=by unfold top;rw [List.take_length]
theorem agV {l:List En} {i:Nat} (h:l.length≤i):top l i=sm l:=by unfold top;rw [List.take_of_length_le h]
structure Szd (l:List En):Prop where
 n:l.length≤1024
 s:∀ x ∈ l,1≤x.s∧x.s≤2305843009213693952
 t:sm l≤4611686018427387904
theorem aar:∀ (l:List En),(∀ x ∈ l,1≤x.s)→0≤sm l
 | [],_=>by simp [sm]
 | e::r,h=>by
  have h1:=h e (by simp)
  have h2:=aar r fun x hx=>h x (by simp [hx])
  rw [sm];omega
theorem UO:∀ (l:List En) (s:Int),(∀ x ∈ l,1≤x.s)→s≤4611686018427387904 →
 (s+sm l≤4611686018427387904∧Dn s l=s+sm l)∨(4611686018427387904 < s+sm l∧Dn s l=4611686018427387905)
 | [],s,_,h=>by left;simp [sm,Dn,h]
 | e::r,s,hs,h=>by
  have h1:=hs e (by simp)
  have h2:=aar r fun x hx=>hs x (by simp [hx])
  have h3:imax e.s 0=e.s:=QY (by omega)
  rw [Dn,sm,h3]
  by_cases c:4611686018427387904 - s < e.s
  · right;rw [if_pos c];omega
  · rw [if_neg c]
    have:=UO r (s+e.s) (fun x hx=>hs x (by simp [hx])) (by omega)
    rw [← Int.add_assoc];exact this
theorem Szd.tot {l:List En} (h:Szd l):tot l=sm l:=by
 unfold Go.D.tot
 have h2:=h.t
 rcases UO l 0 (fun x hx=>(h.s x hx).1) (by omega) with q | q
 · omega
 · omega
theorem Szd.nn {l:List En} (h:Szd l):0≤sm l:=aar l fun x hx=>(h.s x hx).1
theorem Szd.lt {l:List En} (h:Szd l) {i:Nat} (hi:i < l.length):top l i+1≤top l (i+1):=by
 rw [Yn hi]
 have:=(h.s _ (List.getElem_mem hi)).1
 omega
theorem Szd.mono {l:List En} (h:Szd l) {i:Nat}:∀ {j:Nat},i≤j→j≤l.length→top l i+((j:Int) - i)≤top l j:=by
 intro j hij
 induction j with
 | zero => intro _; have : i = 0 := by omega
           subst this;simp
 | succ j ih =>
  intro hj
  by_cases c:i=j+1
  · subst c;omega
  · have h1:=ih (by omega) (by omega)
    have h2:=h.lt (i:=j) (by omega)
    omega
theorem Szd.rng {l:List En} (h:Szd l) (i:Nat):0≤top l i∧top l i≤sm l:=by
 by_cases c:i≤l.length
 · have h1:=h.mono (i:=0) (j:=i) (by omega) c
   have h2:=h.mono (i:=i) (j:=l.length) c (by omega)
   rw [aag] at h1
   rw [L8] at h2
   omega
 · rw [agV (by omega)];have:=h.nn;omega
theorem Szd.row {l:List En} (h:Szd l) {x:Int} (h0:0≤x) (h1:x < sm l):∃ p,p < l.length∧top l p≤x∧x < top l (p+1):=by
 have key:∀ n,n≤l.length→top l n≤x∨∃ p,p < n∧top l p≤x∧x < top l (p+1):=by
  intro n
  induction n with
  | zero=>intro _;left;rw [aag];exact h0
  | succ n ih =>
   intro hn
   rcases ih (by omega) with q | ⟨p,q1,q2⟩
   · by_cases c:top l (n+1)≤x
     · exact .inl c
     · exact .inr ⟨n,by omega,q,by omega⟩
   · exact .inr ⟨p,by omega,q2⟩
 rcases key l.length (by omega) with q | ⟨p,q⟩
 · rw [L8] at q;omega
 · exact ⟨p,q⟩
def afD (l:List En) (v:Int):Int:=if sm l < v then 0 else sm l - v
structure Vp (l:List En) (o v:Int):Prop extends Szd l where
 v0:1≤v∧v≤2147483648
 s0:0≤o∧o≤afD l v
theorem Vp.ends {l:List En} {s v:Int} (h:Vp l s v) (hl:0 < l.length):∃ p q:Nat,p < l.length∧q < l.length∧p≤q∧(top l p≤s∧s < top l (p+1))∧(top l q≤Df (s+v) (sm l) - 1∧Df (s+v) (sm l) - 1 < top l (q+1)):=by
 have h1:=h.v0
 have h2:=h.s0
 have h3:1≤sm l:=by
  have:=h.mono (i:=0) (j:=l.length) (by omega) (by omega)
  rw [aag,L8] at this;omega
 have h4:s < sm l:=by unfold afD at h2;split at h2 <;> omega
 have h5:s+1≤Df (s+v) (sm l)∧Df (s+v) (sm l)≤sm l:=by unfold Df;split <;> omega
 obtain ⟨p,p1,p2,p3⟩:=h.row h2.1 h4
 obtain ⟨q,q1,q2,q3⟩:=h.row (x:=Df (s+v) (sm l) - 1) (by omega) (by omega)
 refine ⟨p,q,p1,q1,?_,⟨p2,p3⟩,q2,q3⟩
 by_cases c:p≤q
 · exact c
 · have:=h.mono (i:=q+1) (j:=p) (by omega) (by omega)
   omega
theorem Vp.seen {l:List En} {s v:Int} (h:Vp l s v) {p q:Nat} (hp:p < l.length) (hq:q < l.length) (h1:top l p≤s∧s < top l (p+1)) (h2:top l q≤Df (s+v) (sm l) - 1∧Df (s+v) (sm l) - 1 < top l (q+1)) {i:Nat} (hi:i < l.length) :
 (top l i < s+v∧s < top l (i+1))↔(p≤i∧i≤q):=by
 have e1:Df (s+v) (sm l)≤s+v:=by unfold Df;split <;> omega
 have hm:=h.rng (i+1)
 have hlt:=h.lt hi
 constructor
 · rintro ⟨a,b⟩
   constructor
   · by_cases c:p≤i
     · exact c
     · have:=h.mono (i:=i+1) (j:=p) (by omega) (by omega);omega
   · by_cases c:i≤q
     · exact c
     · have:=h.mono (i:=q+1) (j:=i) (by omega) (by omega)
       have e2:s+v≤top l i:=by
        unfold Df at h2;split at h2 <;> omega
       omega
 · rintro ⟨a,b⟩
   have m1:=h.mono (i:=i) (j:=q) b (by omega)
   have m2:=h.mono (i:=p+1) (j:=i+1) (by omega) (by omega)
   omega
end Go.D
end
section
namespace Go.D
open Go Go.Pav Go.Pw P
attribute [-simp] List.getElem_cons_drop
variable {C:aJ}
structure ai2 (C:aJ):Prop extends LC C
end Go.D
end
