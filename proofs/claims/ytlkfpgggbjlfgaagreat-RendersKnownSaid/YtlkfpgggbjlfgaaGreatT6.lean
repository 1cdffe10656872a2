/- Part of the theory that the claims of this work use: D07, D08, D09, D10, D11, D12, D13, D14, D15, D16, D17, D18, D19, D20, D21, D22, D23, V600, D24, D25, D26, D27, D28, D29, D32, D34, D35, D36, GTy, V27, E01, E02, E03, E04. No conditions of its own. -/
import Derived.Test.YtlkfpgggbjlfgaaGreatT5
set_option linter.unusedVariables false
set_option linter.unusedSimpArgs false
set_option maxHeartbeats 4000000
set_option maxRecDepth 10000
section
namespace Go.D
open Go Go.Pav Go.Pw P
attribute [-simp] List.getElem_cons_drop
variable {C:aG}
structure Sl where
 n:Bs
 f:Int
 v:Bs
@[simp] def eSl (s:Sl):List AV:=[.str s.n,.int .u8 s.f,.str s.v]
structure Pt where
 k:Int
 t:Bs
 y:Bs
 s:List Sl
 se:Bool
 x:Bs
 ch:List Pt
 ce:Bool
mutual
def Pt.c:Pt→List AV
 | ⟨k,t,y,s,se,x,ch,ce⟩=>[.int .u8 k,.str t,.str y,.ro 3 (s.map eSl) se,.str x,.ro 6 (Pt.cs ch) ce]
def Pt.cs:List Pt→List (List AV)
 | []=>[]
 | n::r=>n.c::Pt.cs r
end
theorem Pt.P5:∀ l:List Pt,Pt.cs l=l.map Pt.c
 | []=>rfl
 | n::r=>by rw [Pt.cs,Pt.P5 r];rfl
theorem Pt.dD (n:Pt):n.c=[.int .u8 n.k,.str n.t,.str n.y,.ro 3 (n.s.map eSl) n.se,.str n.x,.ro 6 (n.ch.map Pt.c) n.ce]:=by
 cases n;rw [Pt.c,Pt.P5]
@[simp] theorem Pt.ajI (n:Pt):n.c.length=6:=by rw [Pt.dD];rfl
@[simp] theorem Pt.agL (n:Pt):n.c.take 6=n.c:=List.take_of_length_le (by simp)
@[simp] theorem Pt.c0 (n:Pt):n.c[0]?=some (.int .u8 n.k):=by rw [Pt.dD];rfl
@[simp] theorem Pt.c1 (n:Pt):n.c[1]?=some (.str n.t):=by rw [Pt.dD];rfl
@[simp] theorem Pt.c2 (n:Pt):n.c[2]?=some (.str n.y):=by rw [Pt.dD];rfl
@[simp] theorem Pt.c3 (n:Pt):n.c[3]?=some (.ro 3 (n.s.map eSl) n.se):=by rw [Pt.dD];rfl
@[simp] theorem Pt.c4 (n:Pt):n.c[4]?=some (.str n.x):=by rw [Pt.dD];rfl
@[simp] theorem Pt.c5 (n:Pt):n.c[5]?=some (.ro 6 (n.ch.map Pt.c) n.ce):=by rw [Pt.dD];rfl
@[simp] theorem Pt.g0 (n:Pt) (h:0 < n.c.length):n.c[0]=.int .u8 n.k:=Option.some.inj ((List.getElem?_eq_getElem h).symm.trans n.c0)
@[simp] theorem Pt.g1 (n:Pt) (h:1 < n.c.length):n.c[1]=.str n.t:=Option.some.inj ((List.getElem?_eq_getElem h).symm.trans n.c1)
@[simp] theorem Pt.g2 (n:Pt) (h:2 < n.c.length):n.c[2]=.str n.y:=Option.some.inj ((List.getElem?_eq_getElem h).symm.trans n.c2)
@[simp] theorem Pt.g3 (n:Pt) (h:3 < n.c.length):n.c[3]=.ro 3 (n.s.map eSl) n.se:=Option.some.inj ((List.getElem?_eq_getElem h).symm.trans n.c3)
@[simp] theorem Pt.g4 (n:Pt) (h:4 < n.c.length):n.c[4]=.str n.x:=Option.some.inj ((List.getElem?_eq_getElem h).symm.trans n.c4)
@[simp] theorem Pt.g5 (n:Pt) (h:5 < n.c.length):n.c[5]=.ro 6 (n.ch.map Pt.c) n.ce:=Option.some.inj ((List.getElem?_eq_getElem h).symm.trans n.c5)
@[simp] theorem Pt.hd (n:Pt):n.c.head?=some (.int .u8 n.k):=by rw [Pt.dD];rfl
@[simp] theorem Pt.ajL (n:Pt):bQ n.c=false:=by rw [Pt.dD];rfl
@[simp] theorem Pt.akm (n:Pt) (h:aJ) (k:Nat):bn (bM h (k+1)) n.c=some n.c:=by rw [Pt.dD];rfl
@[simp] theorem Pt.adC (n:Pt) (h:aJ) (k:Nat):n.c.flatMap (aN h (k+1))=[]:=by rw [Pt.dD];rfl
@[simp] theorem Pt.aki (n:Pt) (π:Nat→Option Nat):lM π n.c=some n.c:=by rw [Pt.dD];rfl
@[simp] theorem Pt.ah0 (n:Pt):CJ n.c=[]:=by rw [Pt.dD];rfl
@[simp] theorem Pt.ajt (n:Pt):n.c.all isC=true:=by rw [Pt.dD];rfl
@[simp] theorem Pt.ahv (n:Pt):n.c.all AV.cell=true:=by rw [Pt.dD];rfl
theorem Pt.xw (n:Pt):SizeOf.sizeOf n.ch < SizeOf.sizeOf n:=by cases n;simp;omega
def kU:Option Bs→List Sl→Bool
 | _,[]=>true
 | p,s::r=>isName s.n&&decide (s.f≤3)&&isText s.v&&(decide (s.f≤0)||decide (s.v=[]))&&after p s.n&&kU (some s.n) r
def oN (p:Pt):Bool :=
 if p.k=1 then (decide (p.y=[])||isName p.y)&&decide (p.ch.length≤16)&&isName p.t&&(decide (p.s.length≤8)&&kU none p.s)&&decide (p.x=[])
 else if p.k=5 then isName p.t&&(decide (p.s.length≤8)&&kU none p.s)&&decide (p.y=[])&&decide (p.x=[])&&decide (p.ch=[])
 else if p.k=2 then isText p.x&&decide (p.t=[])&&decide (p.y=[])&&decide (p.s=[])&&decide (p.ch=[])
 else decide (p.k=3∨p.k=4)&&decide (p.t=[])&&decide (p.y=[])&&decide (p.x=[])&&decide (p.s=[])&&decide (p.ch=[])
structure DJ (C:aG):Prop extends QF C where
 agV:C.fns.get 581=some adV
 ahf:C.fns.get 579=some aeG
 aiN:C.fns.get 585=some aaV
 ai1:C.fns.get 549=some iP
 agF:C.fns.get 502=some aao
 ag2:C.fns.get 503=some acL
 ahB:C.fns.get 548=some Rj
 ahG:C.fns.get 404=some adp
 f231:C.fns.get 231=some Y9
theorem Qb (n:Nd) (h:n.ch=[]):cnt n=if alone n=true then 1 else 0:=by
 rw [LZ,adR,h,rcs]
 cases alone n <;> simp
theorem wG (H:DJ C) (s:Bs):FnW C 581 [.str s]=some (.bool (isName s)):=by
 have h:FnW C 439 [.agg [.int .u8 1,.str s,.str [],.ro 2 [] true,.str [],.ro 6 [] true]]=_:=Fq H.toQF ⟨1,s,[],[],true,[],[],true⟩
 rw [Qb _ rfl] at h
 have e:alone ⟨1,s,[],[],true,[],[],true⟩=isName s:=by unfold alone;simp [atOk,iq]
 rw [e] at h
 rw [aF H.agV rfl]
 cases q:isName s <;> rw [q] at h <;> simp at h <;> simp [adV,H.inl,aB,H.pp,ppB,h]
theorem BA (H:DJ C) (s:Bs):FnW C 579 [.str s]=some (.bool (isText s)):=by
 have h:FnW C 439 [.agg [.int .u8 2,.str [],.str [],.ro 2 [] true,.str s,.ro 6 [] true]]=_:=Fq H.toQF ⟨2,[],[],[],true,s,[],true⟩
 rw [Qb _ rfl] at h
 have e:alone ⟨2,[],[],[],true,s,[],true⟩=isText s:=by unfold alone;simp
 rw [e] at h
 rw [aF H.ahf rfl]
 cases q:isText s <;> rw [q] at h <;> simp at h <;> simp [aeG,H.inl,aB,H.pp,ppB,h]
theorem Td (H:DJ C) (l:List Sl) (e:Bool) (hl:l.length≤1000000):∀ n i,n+i=l.length →
 DY C ⟨[(10,.int .i64 i),(9,.int .i64 l.length),(8,.ro 3 (l.map eSl) e),(0,.ro 3 (l.map eSl) e)],[],0⟩ =
  some (.bool (kU (if i=0 then none else (l[i - 1]?).map Sl.n) (l.drop i))):=by
 intro n
 induction n with
 | zero =>
  intro i hi
  simp only [DY];rw [aj zZ.eq_1]
  have h1:l.drop i=[]:=List.drop_eq_nil_of_le (by omega)
  have h3:¬ i < l.length:=by omega
  simp [aj Lc.eq_1,h1,h3,kU]
 | succ n ih =>
  intro i hi
  have h1:i < l.length:=by omega
  have hb:=wG H l[i].n
  have hc:=BA H l[i].v
  have:=ih (i+1) (by omega)
  rw [if_neg (by omega),show i+1 - 1=i from rfl,List.getElem?_eq_getElem h1] at this
  rw [drop_cons h1,kU]
  simp only [DY] at this ⊢;rw [aj zZ.eq_1]
  simp only [Option.map_some] at this
  generalize kU (some l[i].n) (l.drop (i+1))=R at *
  cases q1:isName l[i].n
  · rw [q1] at hb
    simp (disch:=omega) [h1,aI,hb,H.inl,aB,H.pp,ppB]
  · rw [q1] at hb
    by_cases f3:l[i].f≤3
    · have f3':¬ 3 < l[i].f:=by omega
      cases q2:isText l[i].v
      · rw [q2] at hc
        simp (disch:=omega) [h1,aI,hb,hc,H.inl,aB,H.pp,ppB,f3,f3']
      · rw [q2] at hc
        by_cases f0:0 < l[i].f∧¬ l[i].v=[]
        · have f1:¬ l[i].f≤0:=by omega
          simp (disch:=omega) [h1,aI,hb,hc,H.inl,aB,H.pp,ppB,f3,f3',f0.1,f0.2,f1]
        · have key:(0 < l[i].f∧l[i].v=[])∨¬ 0 < l[i].f:=by
           by_cases a:0 < l[i].f
           · exact .inl ⟨a,Classical.byContradiction fun b=>f0 ⟨a,b⟩⟩
           · exact .inr a
          cases i with
          | zero =>
           simp at this
           rcases key with ⟨a,b⟩ | a
           · have b':=eq_true b
             simp (disch:=omega) [h1,aI,hb,hc,H.inl,aB,H.pp,ppB,f3,f3',a,b',this,after]
           · have a':l[0].f≤0:=by omega
             simp (disch:=omega) [h1,aI,hb,hc,H.inl,aB,H.pp,ppB,f3,f3',a,a',this,after]
          | succ i =>
           have h4:i < l.length:=by omega
           have h5:(i:Int)+1 < l.length:=by omega
           simp at this
           by_cases q3:l[i].n < l[i+1].n
           · have q4:¬ l[i+1].n≤l[i].n:=List.not_le.2 q3
             rcases key with ⟨a,b⟩ | a
             · have b':=eq_true b
               simp (disch:=omega) [h1,h4,h5,aI,hb,hc,H.inl,aB,H.pp,ppB,f3,f3',a,b',this,after,Ce,q3,q4]
             · have a':l[i+1].f≤0:=by omega
               simp (disch:=omega) [h1,h4,h5,aI,hb,hc,H.inl,aB,H.pp,ppB,f3,f3',a,a',this,after,Ce,q3,q4]
           · have q4:l[i+1].n≤l[i].n:=List.not_lt.1 q3
             rcases key with ⟨a,b⟩ | a
             · have b':=eq_true b
               simp (disch:=omega) [h1,h4,h5,aI,hb,hc,H.inl,aB,H.pp,ppB,f3,f3',a,b',this,after,Ce,q3,q4]
             · have a':l[i+1].f≤0:=by omega
               simp (disch:=omega) [h1,h4,h5,aI,hb,hc,H.inl,aB,H.pp,ppB,f3,f3',a,a',this,after,Ce,q3,q4]
    · have f3':3 < l[i].f:=by omega
      simp (disch:=omega) [h1,aI,hb,H.inl,aB,H.pp,ppB,f3,f3']
theorem abe (H:DJ C) (l:List Sl) (e:Bool):FnW C 585 [.ro 3 (l.map eSl) e]=some (.bool (decide (l.length≤8)&&kU none l)):=by
 rw [aF H.aiN rfl]
 by_cases c:l.length≤8
 · have c1:¬ 8 < (l.length:Int):=by omega
   have h:=Td H l e (by omega) l.length 0 (by simp)
   rw [List.drop_zero,if_pos rfl] at h
   generalize kU none l=R at *
   simp only [DY] at h
   simp at h
   simp [aaV,c,c1,h]
 · have c1:8 < (l.length:Int):=by omega
   simp [aaV,c,c1]
end Go.D
end
section
namespace Go.D
open Go Go.Pav Go.Pw P
attribute [-simp] List.getElem_cons_drop
variable {C:aG}
theorem VY (H:DJ C) (p:Pt):FnW C 549 [.rop p.c]=some (.bool (oN p)):=by
 obtain ⟨k,t,y,s,se,x,ch,ce⟩:=p
 rw [aF H.ai1 rfl,Pt.dD]
 simp only []
 unfold oN
 simp only []
 have ht:=wG H t
 have hy:=wG H y
 have hx:=BA H x
 have hs:=abe H s se
 generalize isName t=T at *
 generalize isText x=X at *
 generalize (decide (s.length≤8)&&kU none s)=S at *
 by_cases k1:k=1
 · rw [if_pos k1]
   by_cases c2:y=[]
   · subst c2
     by_cases c5:ch.length≤16
     · have c7:¬ 16 < (ch.length:Int):=by omega
       cases T
       · simp [iP,k1,ht,hs,H.inl,aB,H.pp,ppB,c5,c7]
       · cases S
         · simp [iP,k1,ht,hs,H.inl,aB,H.pp,ppB,c5,c7]
         · by_cases c3:x=[] <;> simp [iP,k1,ht,hs,H.inl,aB,H.pp,ppB,c3,c5,c7]
     · have c7:16 < (ch.length:Int):=by omega
       simp [iP,k1,ht,hs,H.inl,aB,H.pp,ppB,c5,c7]
   · cases q2:isName y
     · rw [q2] at hy;simp [iP,k1,hy,H.inl,aB,H.pp,ppB,c2]
     · rw [q2] at hy
       by_cases c5:ch.length≤16
       · have c7:¬ 16 < (ch.length:Int):=by omega
         cases T
         · simp [iP,k1,ht,hy,hs,H.inl,aB,H.pp,ppB,c2,c5,c7]
         · cases S
           · simp [iP,k1,ht,hy,hs,H.inl,aB,H.pp,ppB,c2,c5,c7]
           · by_cases c3:x=[] <;> simp [iP,k1,ht,hy,hs,H.inl,aB,H.pp,ppB,c2,c3,c5,c7]
       · have c7:16 < (ch.length:Int):=by omega
         simp [iP,k1,ht,hy,hs,H.inl,aB,H.pp,ppB,c2,c5,c7]
 · rw [if_neg k1]
   by_cases k5:k=5
   · rw [if_pos k5]
     cases T
     · simp [iP,k5,ht,hs,H.inl,aB,H.pp,ppB]
     · cases S
       · simp [iP,k5,ht,hs,H.inl,aB,H.pp,ppB]
       · by_cases c2:y=[]
         · by_cases c3:x=[]
           · by_cases c4:ch=[]
             · simp [iP,k5,ht,hs,H.inl,aB,H.pp,ppB,c2,c3,c4]
             · simp [iP,k5,ht,hs,H.inl,aB,H.pp,ppB,c2,c3,c4]
           · simp [iP,k5,ht,hs,H.inl,aB,H.pp,ppB,c2,c3]
         · simp [iP,k5,ht,hs,H.inl,aB,H.pp,ppB,c2]
   · rw [if_neg k5]
     by_cases k2:k=2
     · rw [if_pos k2]
       cases X
       · simp [iP,k2,hx,H.inl,aB,H.pp,ppB]
       · by_cases c1:t=[]
         · by_cases c2:y=[]
           · by_cases c3:s=[]
             · by_cases c4:ch=[]
               · simp [iP,k2,hx,H.inl,aB,H.pp,ppB,c1,c2,c3,c4]
               · simp [iP,k2,hx,H.inl,aB,H.pp,ppB,c1,c2,c3,c4]
             · simp [iP,k2,hx,H.inl,aB,H.pp,ppB,c1,c2,c3]
           · simp [iP,k2,hx,H.inl,aB,H.pp,ppB,c1,c2]
         · simp [iP,k2,hx,H.inl,aB,H.pp,ppB,c1]
     · rw [if_neg k2]
       by_cases k34:k=3∨k=4
       · rcases k34 with k3 | k4
         · by_cases c1:t=[]
           · by_cases c2:y=[]
             · by_cases c0:x=[]
               · by_cases c3:s=[]
                 · by_cases c4:ch=[]
                   · simp [iP,k3,H.inl,aB,H.pp,ppB,c1,c2,c0,c3,c4]
                   · simp [iP,k3,H.inl,aB,H.pp,ppB,c1,c2,c0,c3,c4]
                 · simp [iP,k3,H.inl,aB,H.pp,ppB,c1,c2,c0,c3]
               · simp [iP,k3,H.inl,aB,H.pp,ppB,c1,c2,c0]
             · simp [iP,k3,H.inl,aB,H.pp,ppB,c1,c2]
           · simp [iP,k3,H.inl,aB,H.pp,ppB,c1]
         · by_cases c1:t=[]
           · by_cases c2:y=[]
             · by_cases c0:x=[]
               · by_cases c3:s=[]
                 · by_cases c4:ch=[]
                   · simp [iP,k4,H.inl,aB,H.pp,ppB,c1,c2,c0,c3,c4]
                   · simp [iP,k4,H.inl,aB,H.pp,ppB,c1,c2,c0,c3,c4]
                 · simp [iP,k4,H.inl,aB,H.pp,ppB,c1,c2,c0,c3]
               · simp [iP,k4,H.inl,aB,H.pp,ppB,c1,c2,c0]
             · simp [iP,k4,H.inl,aB,H.pp,ppB,c1,c2]
           · simp [iP,k4,H.inl,aB,H.pp,ppB,c1]
       · have k3:¬ k=3:=fun q=>k34 (.inl q)
         have k4:¬ k=4:=fun q=>k34 (.inr q)
         simp [iP,k1,k2,k3,k4,k5,H.inl,aB,H.pp,ppB]
mutual
/-- The walk below a part: whether it ends well, how many parts. -/
def tk:Pt→Nat→Nat→Bool × Nat
 | ⟨k,t,y,s,se,x,ch,ce⟩,lv,c=>if 6 < lv∨64 < c+1∨oN ⟨k,t,y,s,se,x,ch,ce⟩=false then (false,c+1) else tks ch (lv+1) (c+1)
def tks:List Pt→Nat→Nat→Bool × Nat
 | [],_,c=>(true,c)
 | m::r,lv,c=>if (tk m lv c).1=true then tks r lv (tk m lv c).2 else (false,(tk m lv c).2)
end
theorem agf (p:Pt) (lv c:Nat):tk p lv c=if 6 < lv∨64 < c+1∨oN p=false then (false,c+1) else tks p.ch (lv+1) (c+1):=by cases p;rw [tk]
mutual
theorem afU:∀ (p:Pt) (lv c:Nat),lv≤7→c≤64→(tk p lv c).1=true→(tk p lv c).2≤64
 | ⟨k,t,y,s,se,x,ch,ce⟩,lv,c,h1,h2=>by
  rw [tk]
  split
  · exact fun q=>by simp at q
  · rename_i h
    exact Zn ch (lv+1) (c+1) (by omega) (by omega)
theorem Zn:∀ (l:List Pt) (lv c:Nat),lv≤7→c≤64→(tks l lv c).1=true→(tks l lv c).2≤64
 | [],lv,c,h1,h2=>by rw [tks];exact fun _=>h2
 | m::r,lv,c,h1,h2=>by
  have h4:=afU m lv c h1 h2
  rw [tks]
  split
  · rename_i h
    exact Zn r lv _ h1 (h4 h)
  · exact fun q=>by simp at q
end
abbrev hpT (c:Nat):aJ:=[(0,.cells 1 [[.fn 503 []]] true true),(7,.cells 1 [[.int .i64 c]] true true),(9,.cells 1 [[.fn 548 [.ptr 7 0 0,.ptr 0 0 0,.ptr 9 0 0]]] true false)]
def Vm (C:aG) (p:Pt):Prop:=∀ (lv c n:Nat),10≤n→c≤64→lv≤7 →
 ∃ n',RnW C 548 [.rop p.c,.int .i64 lv,.ptr 7 0 0,.ptr 0 0 0,.ptr 9 0 0] (hpT c) n=some (.bool (tk p lv c).1,hpT (tk p lv c).2,n')
theorem SY (H:DJ C) (p:Pt) (lv n:Nat) (hn:10≤n) (hlv:lv≤6) (hl:p.ch.length≤16) (ih:∀ m ∈ p.ch,Vm C m):∀ j i,j+i=p.ch.length→∀ c,c≤64 →
 ∃ n',CK C n (yF [.tmp 7]) [.sq NY,.bk 0 ⟨true,[],[]⟩,.sq Jv] vP ⟨[(30,.int .i64 i),(29,.int .i64 p.ch.length),(4,.ptr 9 0 0),(1,.int .i64 lv),(0,.rop p.c)],hpT c,n⟩ =
  some (.bool (tks (p.ch.drop i) (lv+1) c).1,hpT (tks (p.ch.drop i) (lv+1) c).2,n'):=by
 have n0:0 < n:=by omega
 have n1:7 < n:=by omega
 have n2:9 < n:=by omega
 intro j
 induction j with
 | zero =>
  intro i hi c hc
  have h1:p.ch.drop i=[]:=List.drop_eq_nil_of_le (by omega)
  have h3:¬ i < p.ch.length:=by omega
  rw [h1,tks,aj vP.eq_1]
  refine ⟨?_,?_⟩
  rotate_left
  · simp (disch:=omega) [aj Jv.eq_1,n0,n1,n2,h3]
    rfl
 | succ j ihj =>
  intro i hi c hc
  have h1:i < p.ch.length:=by omega
  obtain ⟨n',hw⟩:=ih _ (List.getElem_mem h1) (lv+1) c (n+1+1+1+11) (by omega) hc (by omega)
  have hb:=afU p.ch[i] (lv+1) c (by omega) hc
  rw [drop_cons h1,tks]
  generalize hR:tk p.ch[i] (lv+1) c=R at *
  obtain ⟨r,c'⟩:=R
  cases r with
  | true =>
   obtain ⟨n2',hw2⟩:=ihj (i+1) (by omega) c' (hb rfl)
   refine ⟨n2',?_⟩
   rw [if_pos rfl]
   rw [aj vP.eq_1]
   simp at hw hw2
   simp (disch:=omega) [aI,H.inl,aB,H.pp,ppB,n0,n1,n2,h1,hw,hw2]
  | false =>
   rw [if_neg (by simp)]
   rw [aj vP.eq_1]
   simp at hw
   refine ⟨?_,?_⟩
   rotate_left
   · simp (disch:=omega) [aI,H.inl,aB,H.pp,ppB,n0,n1,n2,h1,hw]
     rfl
theorem yX {p:Pt} (h:oN p=true):p.ch.length≤16:=by
 unfold oN at h
 split at h
 · simp at h;omega
 · split at h
   · simp at h;rw [h.2];simp
   · split at h
     · simp at h;rw [h.2];simp
     · simp at h;rw [h.2];simp
theorem SL (H:DJ C) (p:Pt) (ih:∀ m ∈ p.ch,Vm C m):Vm C p:=by
 intro lv c n hn hc hlv
 rw [aaY (args:=[.rop p.c,.int .i64 lv,.ptr 7 0 0,.ptr 0 0 0,.ptr 9 0 0]) H.ahB rfl (hpT c) n,agf]
 have ha:=VY H p
 have hu:FnW C 503 [.rop p.c]=some (.tup []):=by rw [aF H.ag2 rfl];simp [acL]
 have n0:0 < n:=by omega
 have n1:7 < n:=by omega
 have n2:9 < n:=by omega
 by_cases b1:6 < lv
 · rw [if_pos (.inl b1)]
   refine ⟨?_,?_⟩
   rotate_left
   · simp (disch:=omega) [Rj,aI,H.inl,aB,H.pp,ppB,b1,n0,n1,n2]
     rfl
 · by_cases b2:64 < c+1
   · rw [if_pos (.inr (.inl b2))]
     have b2':64 < (c:Int)+1:=by omega
     refine ⟨?_,?_⟩
     rotate_left
     · simp (disch:=omega) [Rj,aI,H.inl,aB,H.pp,ppB,b1,b2',n0,n1,n2]
       rfl
   · have b2':¬ 64 < (c:Int)+1:=by omega
     cases b3:oN p with
     | false =>
      rw [if_pos (.inr (.inr rfl))]
      rw [b3] at ha
      refine ⟨?_,?_⟩
      rotate_left
      · simp (disch:=omega) [Rj,aI,H.inl,aB,H.pp,ppB,b1,b2',ha,n0,n1,n2]
        rfl
     | true =>
      rw [if_neg (by simp;omega)]
      have hl:=yX b3
      rw [b3] at ha
      obtain ⟨n',hw⟩:=SY H p lv n hn (by omega) hl ih p.ch.length 0 (by simp) (c+1) (by omega)
      refine ⟨n',?_⟩
      rw [List.drop_zero] at hw
      generalize tks p.ch (lv+1) (c+1)=R at *
      simp only [hpT] at hw ⊢
      simp at hw
      simp (disch:=omega) [Rj,aI,H.inl,aB,H.pp,ppB,b1,b2',ha,hu,n0,n1,n2,hw]
theorem Zc (H:DJ C) (p:Pt):Vm C p :=
 SL H p (fun m hm=>Zc H m)
termination_by SizeOf.sizeOf p
decreasing_by
 have:=List.sizeOf_lt_of_mem hm
 have:=p.xw
 omega
def oO (p:Pt):Nat:=if p.k=1∧(tk p 1 0).1=true then (tk p 1 0).2 else 0
theorem ZG (H:DJ C) (p:Pt):FnW C 502 [.rop p.c,.fn 503 []]=some (.int .i64 (oO p)):=by
 rw [aF H.agF rfl]
 obtain ⟨n',h⟩:=Zc H p 1 0 15 (by omega) (by omega) (by omega)
 unfold oO
 generalize tk p 1 0=R at *
 obtain ⟨r,c⟩:=R
 simp only [hpT] at h
 simp at h
 by_cases k1:p.k=1
 · cases r <;> simp [aao,H.inl,aB,H.pp,ppB,k1,h]
 · simp [aao,H.inl,aB,H.pp,ppB,k1]
theorem Ya (H:DJ C) (p:Pt):FnW C 404 [.agg p.c]=some (.int .i64 (oO p)):=by
 have h:=ZG H p
 rw [aF H.ahG rfl]
 simp [adp,H.inl,aB,H.pp,ppB,h]
theorem Jg (H:DJ C) (p:Pt):FnW C 231 [.agg p.c]=some (.int .i64 (if oO p=0 then 14 else 0)):=by
 have h:=Ya H p
 rw [aF H.f231 rfl]
 by_cases c:oO p=0
 · simp [Y9,H.inl,aB,H.pp,ppB,h,c]
 · simp [Y9,H.inl,aB,H.pp,ppB,h,c]
end Go.D
end
section
namespace Go.D
open Go Go.Pav Go.Pw P
attribute [-simp] List.getElem_cons_drop
variable {C:aG}
structure L6 (C:aG):Prop extends DJ C where
 agO:C.fns.get 594=some YF
 YW:C.fns.get 586=some lU
 aiw:C.fns.get 550=some Xy
 ah2:C.fns.get 505=some XD
 aht:C.fns.get 408=some ZX
theorem Oo (H:L6 C) (l:List Sl) (e:Bool) (hl:l.length≤1000000) (hf:∀ s ∈ l,0≤s.f):∀ n i,n+i=l.length →
 EO C ⟨[(3,.int .i64 i),(0,.ro 3 (l.map eSl) e)],[],0⟩ =
  some (.bool (kU (if i=0 then none else (l[i - 1]?).map Sl.n) (l.drop i))):=by
 intro n
 induction n with
 | zero =>
  intro i hi
  simp only [EO];rw [aj y9.eq_1]
  have h1:l.drop i=[]:=List.drop_eq_nil_of_le (by omega)
  have h3:¬ i < l.length:=by omega
  simp [aj ND.eq_1,h1,h3,kU]
 | succ n ih =>
  intro i hi
  have h1:i < l.length:=by omega
  have hb:=oh H.tooG l[i].n
  have hc:=Ai H.tooG l[i].v
  have h0:=hf _ (List.getElem_mem h1)
  have:=ih (i+1) (by omega)
  rw [if_neg (by omega),show i+1 - 1=i from rfl,List.getElem?_eq_getElem h1] at this
  rw [drop_cons h1,kU]
  simp only [EO] at this ⊢;rw [aj y9.eq_1]
  simp only [Option.map_some] at this
  generalize kU (some l[i].n) (l.drop (i+1))=R at *
  cases q1:isName l[i].n
  · rw [q1] at hb
    simp (disch:=omega) [h1,aI,hb,H.inl,aB,H.pp,ppB]
  · rw [q1] at hb
    by_cases f3:l[i].f≤3
    · have f3':¬ 3 < l[i].f:=by omega
      cases q2:isText l[i].v
      · rw [q2] at hc
        simp (disch:=omega) [h1,aI,hb,hc,H.inl,aB,H.pp,ppB,f3,f3']
      · rw [q2] at hc
        by_cases f0:¬ l[i].f=0∧¬ l[i].v=[]
        · have f1:¬ l[i].f≤0:=by have:=f0.1;omega
          simp (disch:=omega) [h1,aI,hb,hc,H.inl,aB,H.pp,ppB,f3,f3',f0.1,f0.2,f1]
        · have key:(¬ l[i].f=0∧l[i].v=[])∨l[i].f=0:=by
           by_cases a:l[i].f=0
           · exact .inr a
           · exact .inl ⟨a,Classical.byContradiction fun b=>f0 ⟨a,b⟩⟩
          cases i with
          | zero =>
           simp at this
           rcases key with ⟨a,b⟩ | a
           · have b':=eq_true b
             simp (disch:=omega) [h1,aI,hb,hc,H.inl,aB,H.pp,ppB,f3,f3',a,b',this,after]
           · have a':l[0].f≤0:=by omega
             simp (disch:=omega) [h1,aI,hb,hc,H.inl,aB,H.pp,ppB,f3,f3',eq_true a,a',this,after]
          | succ i =>
           have h4:i < l.length:=by omega
           have h5:(i:Int)+1 < l.length:=by omega
           simp at this
           by_cases q3:l[i].n < l[i+1].n
           · have q4:¬ l[i+1].n≤l[i].n:=List.not_le.2 q3
             rcases key with ⟨a,b⟩ | a
             · have b':=eq_true b
               simp (disch:=omega) [h1,h4,h5,aI,hb,hc,H.inl,aB,H.pp,ppB,f3,f3',a,b',this,after,blt_eq,q3,q4]
             · have a':l[i+1].f≤0:=by omega
               simp (disch:=omega) [h1,h4,h5,aI,hb,hc,H.inl,aB,H.pp,ppB,f3,f3',eq_true a,a',this,after,blt_eq,q3,q4]
           · have q4:l[i+1].n≤l[i].n:=List.not_lt.1 q3
             rcases key with ⟨a,b⟩ | a
             · have b':=eq_true b
               simp (disch:=omega) [h1,h4,h5,aI,hb,hc,H.inl,aB,H.pp,ppB,f3,f3',a,b',this,after,blt_eq,q3,q4]
             · have a':l[i+1].f≤0:=by omega
               simp (disch:=omega) [h1,h4,h5,aI,hb,hc,H.inl,aB,H.pp,ppB,f3,f3',eq_true a,a',this,after,blt_eq,q3,q4]
    · have f3':3 < l[i].f:=by omega
      simp (disch:=omega) [h1,aI,hb,H.inl,aB,H.pp,ppB,f3,f3']
theorem XO (H:L6 C) (l:List Sl) (e:Bool) (hf:∀ s ∈ l,0≤s.f):FnW C 594 [.ro 3 (l.map eSl) e]=some (.bool (decide (l.length≤8)&&kU none l)):=by
 rw [aF H.agO rfl]
 by_cases c:l.length≤8
 · have c1:¬ 8 < (l.length:Int):=by omega
   have h:=Oo H l e (by omega) hf l.length 0 (by simp)
   rw [List.drop_zero,if_pos rfl] at h
   generalize kU none l=R at *
   simp only [EO] at h
   simp at h
   simp [YF,c,c1,h]
 · have c1:8 < (l.length:Int):=by omega
   simp [YF,c,c1]
structure Fits (p:Pt):Prop where
 f:∀ s ∈ p.s,0≤s.f
 s:p.s.length≤9223372036854775807
 c:p.ch.length≤9223372036854775807
theorem anu {α β:Type} (a:List α) (b:List β) [Decidable (a=[])] [Decidable (b=[])]:((a.length:Int)+(b.length:Int) == 0)=(decide (a=[])&&decide (b=[])):=by
 cases a <;> cases b <;> simp <;> omega
theorem aks {α β:Type} (a:List α) (b:List β) (ha:a.length≤9223372036854775807) (hb:b.length≤9223372036854775807) [Decidable (a=[])] [Decidable (b=[])]:(IntKind.i64.wrap ((a.length:Int)+(b.length:Int)) == 0)=(decide (a=[])&&decide (b=[])):=by
 have h:(IntKind.i64.wrap ((a.length:Int)+(b.length:Int)) == 0)=((a.length:Int)+(b.length:Int) == 0):=by
  rw [Bool.eq_iff_iff]
  show ((if (true&&decide (((a.length:Int)+b.length) % 18446744073709551616 ≥ 9223372036854775808))=true then ((a.length:Int)+b.length) % 18446744073709551616 - 18446744073709551616 else ((a.length:Int)+b.length) % 18446744073709551616) == 0)=true↔_
  simp only [Bool.true_and,decide_eq_true_eq,beq_iff_eq]
  split <;> omega
 rw [h,anu]
theorem afv (H:L6 C) (p:Pt) (hp:Fits p):FnW C 586 [.agg p.c]=some (.bool (oN p)):=by
 rw [aF H.YW rfl]
 unfold oN
 have ht:=oh H.tooG p.t
 have hy:=oh H.tooG p.y
 have hx:=Ai H.tooG p.x
 have hs:=XO H p.s p.se hp.f
 have hl1:=hp.s
 have hl2:=hp.c
 have hz:(IntKind.i64.wrap ((p.s.length:Int)+(p.ch.length:Int)) == 0)=(decide (p.s=[])&&decide (p.ch=[])):=aks _ _ hl1 hl2
 generalize isName p.t=T at *
 generalize isText p.x=X at *
 generalize (decide (p.s.length≤8)&&kU none p.s)=S at *
 by_cases k1:p.k=1
 · rw [if_pos k1]
   cases T
   · simp [lU,k1,ht,H.inl,aB,H.pp,ppB]
   · by_cases c2:p.y=[]
     · have c2':=eq_true c2
       cases S
       · simp [lU,k1,ht,hs,H.inl,aB,H.pp,ppB,c2']
       · by_cases c3:p.x=[]
         · have c3':=eq_true c3
           by_cases c5:p.ch.length≤16
           · have c7:(p.ch.length:Int)≤16:=by omega
             simp [lU,k1,ht,hs,H.inl,aB,H.pp,ppB,c2',c3',c5,c7]
           · have c7:¬ (p.ch.length:Int)≤16:=by omega
             simp [lU,k1,ht,hs,H.inl,aB,H.pp,ppB,c2',c3',c5,c7]
         · simp [lU,k1,ht,hs,H.inl,aB,H.pp,ppB,c2',c3]
     · cases q2:isName p.y
       · rw [q2] at hy;simp [lU,k1,ht,hy,H.inl,aB,H.pp,ppB,c2]
       · rw [q2] at hy
         cases S
         · simp [lU,k1,ht,hy,hs,H.inl,aB,H.pp,ppB,c2]
         · by_cases c3:p.x=[]
           · have c3':=eq_true c3
             by_cases c5:p.ch.length≤16
             · have c7:(p.ch.length:Int)≤16:=by omega
               simp [lU,k1,ht,hy,hs,H.inl,aB,H.pp,ppB,c2,c3',c5,c7]
             · have c7:¬ (p.ch.length:Int)≤16:=by omega
               simp [lU,k1,ht,hy,hs,H.inl,aB,H.pp,ppB,c2,c3',c5,c7]
           · simp [lU,k1,ht,hy,hs,H.inl,aB,H.pp,ppB,c2,c3]
 · rw [if_neg k1]
   by_cases k5:p.k=5
   · rw [if_pos k5]
     cases T
     · simp [lU,k5,ht,hs,H.inl,aB,H.pp,ppB]
     · cases S
       · simp [lU,k5,ht,hs,H.inl,aB,H.pp,ppB]
       · by_cases c2:p.y=[]
         · by_cases c3:p.x=[]
           · by_cases c4:p.ch=[] <;> simp [lU,k5,ht,hs,H.inl,aB,H.pp,ppB,eq_true c2,eq_true c3,c4]
           · simp [lU,k5,ht,hs,H.inl,aB,H.pp,ppB,eq_true c2,c3]
         · simp [lU,k5,ht,hs,H.inl,aB,H.pp,ppB,c2]
   · rw [if_neg k5]
     by_cases k2:p.k=2
     · rw [if_pos k2]
       cases X
       · simp [lU,k2,hx,H.inl,aB,H.pp,ppB]
       · by_cases c1:p.t=[]
         · by_cases c2:p.y=[]
           · simp (disch:=omega) [lU,k2,hx,H.inl,aB,H.pp,ppB,eq_true c1,eq_true c2,hz]
           · simp [lU,k2,hx,H.inl,aB,H.pp,ppB,eq_true c1,c2]
         · simp [lU,k2,hx,H.inl,aB,H.pp,ppB,c1]
     · rw [if_neg k2]
       by_cases k34:p.k=3∨p.k=4
       · have rest:FnW C 586 [.agg p.c]=some (.bool (decide (p.t=[])&&decide (p.y=[])&&decide (p.x=[])&&decide (p.s=[])&&decide (p.ch=[]))):=by
          rw [aF H.YW rfl]
          by_cases c0:p.x=[]
          · by_cases c1:p.t=[]
            · by_cases c2:p.y=[]
              · rcases k34 with k3 | k3 <;> simp (disch:=omega) [lU,k3,H.inl,aB,H.pp,ppB,eq_true c0,eq_true c1,eq_true c2,hz]
              · rcases k34 with k3 | k3 <;> simp [lU,k3,H.inl,aB,H.pp,ppB,eq_true c0,eq_true c1,c2]
            · rcases k34 with k3 | k3 <;> simp [lU,k3,H.inl,aB,H.pp,ppB,eq_true c0,c1]
          · rcases k34 with k3 | k3 <;> simp [lU,k3,H.inl,aB,H.pp,ppB,c0]
         rw [aF H.YW rfl] at rest
         rw [rest]
         simp [k34]
       · have k3:¬ p.k=3:=fun q=>k34 (.inl q)
         have k4:¬ p.k=4:=fun q=>k34 (.inr q)
         simp [lU,k1,k2,k3,k4,k5,H.inl,aB,H.pp,ppB]
inductive fH:Pt→Prop
 | mk (p:Pt) (h:Fits p) (hm:∀ m ∈ p.ch,fH m):fH p
mutual
/-- The specification's count, with so many levels. -/
def trc:Pt→Nat→Nat
 | _,0=>1000
 | ⟨k,t,y,s,se,x,ch,ce⟩,lv+1=>if oN ⟨k,t,y,s,se,x,ch,ce⟩=true then tu ch lv 1 else 1000
def tu:List Pt→Nat→Nat→Nat
 | [],_,c=>c
 | m::r,lv,c=>if c≤64 then tu r lv (c+trc m lv) else c
end
theorem afJ (n:Pt):trc n 0=1000:=by cases n;rw [trc]
theorem afN (n:Pt) (lv:Nat):trc n (lv+1)=if oN n=true then tu n.ch lv 1 else 1000:=by cases n;rw [trc]
theorem Lr:∀ (l:List Pt) (lv c:Nat),c≤tu l lv c
 | [],lv,c=>by rw [tu];exact Nat.le_refl _
 | m::r,lv,c=>by
  rw [tu]
  split
  · have:=Lr r lv (c+trc m lv);omega
  · exact Nat.le_refl _
theorem ahA (n:Pt) (lv:Nat):1≤trc n lv:=by
 cases lv with
 | zero=>rw [afJ];omega
 | succ lv =>
  rw [afN]
  split
  · exact Lr _ _ _
  · omega
mutual
theorem aaK:∀ (n:Pt) (lv:Nat),trc n lv≤1000+64 * lv
 | ⟨k,t,y,s,se,x,ch,ce⟩,0=>by rw [trc];omega
 | ⟨k,t,y,s,se,x,ch,ce⟩,lv+1=>by
  rw [trc]
  split
  · have:=Vb ch lv 1 (by omega);omega
  · omega
theorem Vb:∀ (l:List Pt) (lv c:Nat),c≤1064+64 * lv→tu l lv c≤1064+64 * lv
 | [],lv,c,h=>by rw [tu];exact h
 | m::r,lv,c,h=>by
  rw [tu]
  split
  · have h2:=aaK m lv
    exact Vb r lv _ (by omega)
  · exact h
end
mutual
theorem agu:∀ (n:Pt) (lv L c:Nat),lv+L=7→c≤64→((tk n L c).1=true→(tk n L c).2=c+trc n lv∧c+trc n lv≤64)∧((tk n L c).1=false→64 < c+trc n lv)
 | ⟨k,t,y,s,se,x,ch,ce⟩,lv,L,c,h1,h2=>by
  have hge:=ahA ⟨k,t,y,s,se,x,ch,ce⟩ lv
  rw [tk]
  by_cases q:6 < L∨64 < c+1∨oN ⟨k,t,y,s,se,x,ch,ce⟩=false
  · rw [if_pos q]
    refine ⟨fun r=>by simp at r,fun _=>?_⟩
    rcases q with q | q | q
    · have:lv=0:=by omega
      subst this
      rw [trc];omega
    · omega
    · cases lv with
      | zero=>rw [trc];omega
      | succ lv=>rw [trc,if_neg (by simp [q])];omega
  · rw [if_neg q]
    cases lv with
    | zero=>omega
    | succ lv =>
     rw [trc,if_pos (by simpa using fun r=>q (.inr (.inr r)))]
     exact abq ch lv (L+1) c 1 (by omega) (by omega)
theorem abq:∀ (l:List Pt) (lv L g c:Nat),lv+L=7→g+c≤64→((tks l L (g+c)).1=true→(tks l L (g+c)).2=g+tu l lv c∧g+tu l lv c≤64)∧((tks l L (g+c)).1=false→64 < g+tu l lv c)
 | [],lv,L,g,c,h1,h2=>by
  rw [tks,tu];exact ⟨fun _=>⟨rfl,h2⟩,fun r=>by simp at r⟩
 | m::r,lv,L,g,c,h1,h2=>by
  have hm:=agu m lv L (g+c) h1 h2
  have hr:tu (m::r) lv c=tu r lv (c+trc m lv):=by rw [tu,if_pos (by omega)]
  rw [tks,hr]
  generalize tk m L (g+c)=R at *
  obtain ⟨b,c'⟩:=R
  cases b with
  | true =>
   obtain ⟨e1,e2⟩:=hm.1 rfl
   rw [if_pos rfl]
   simp only at e1
   rw [e1,Nat.add_assoc]
   exact abq r lv L g (c+trc m lv) h1 (by omega)
  | false =>
   have e:=hm.2 rfl
   rw [if_neg (by simp)]
   refine ⟨fun q=>by simp at q,fun _=>?_⟩
   have:=Lr r lv (c+trc m lv)
   omega
end
theorem ad5 (p:Pt):oO p=if p.k≠1∨64 < trc p 6 then 0 else trc p 6:=by
 have h:=agu p 6 1 0 rfl (by omega)
 unfold oO
 generalize tk p 1 0=R at *
 obtain ⟨b,c⟩:=R
 by_cases k1:p.k=1
 · cases b with
   | true =>
    obtain ⟨e1,e2⟩:=h.1 rfl
    simp only at e1
    rw [if_pos ⟨k1,rfl⟩,if_neg (by intro q;rcases q with q | q;exact q k1;omega)];simp only;omega
   | false =>
    have e:=h.2 rfl
    rw [if_neg (by simp),if_pos (.inr (by omega))]
 · rw [if_neg (fun q=>k1 q.1),if_pos (.inl k1)]
abbrev hpP (p:Pt):aJ:=[(0,.cells 6 [p.c] true true)]
theorem MI (H:L6 C) (n:Pt) (lv:Nat) (hlv:lv≤5) (hl:n.ch.length≤16) (ih:∀ m ∈ n.ch,FnW C 550 [.agg m.c,.int .i64 lv]=some (.int .i64 (trc m lv))):∀ j i,j+i=n.ch.length→∀ c,c≤1064+64 * lv →
 Ad C ⟨[(6,.int .i64 i),(5,.int .i64 c),(2,.ptr 0 0 0),(1,.int .i64 (lv+1:Nat))],hpP n,1⟩=some (.int .i64 (tu (n.ch.drop i) lv c)):=by
 intro j
 induction j with
 | zero =>
  intro i hi c hc
  simp only [Ad];rw [aj wH.eq_1]
  have h1:n.ch.drop i=[]:=List.drop_eq_nil_of_le (by omega)
  have h3:¬ i < n.ch.length:=by omega
  rw [h1,tu]
  simp [aj D5.eq_1,h3]
 | succ j ihj =>
  intro i hi c hc
  have h1:i < n.ch.length:=by omega
  have hm:=ih _ (List.getElem_mem h1)
  have hle:=aaK n.ch[i] lv
  rw [drop_cons h1,tu]
  by_cases c1:c≤64
  · have:=ihj (i+1) (by omega) (c+trc n.ch[i] lv) (by omega)
    rw [if_pos c1]
    have c2:(c:Int)≤64:=by omega
    simp only [Ad] at this ⊢;rw [aj wH.eq_1]
    simp at this
    simp (disch:=omega) [h1,c1,c2,aI,hm,H.inl,aB,H.pp,ppB,this]
  · rw [if_neg c1]
    have c2:¬ (c:Int)≤64:=by omega
    simp only [Ad];rw [aj wH.eq_1]
    simp (disch:=omega) [aj D5.eq_1,h1,c1,c2]
theorem KO (H:L6 C) (n:Pt) (hf:Fits n) (ih:∀ m ∈ n.ch,∀ lv:Nat,lv≤6→FnW C 550 [.agg m.c,.int .i64 lv]=some (.int .i64 (trc m lv))) (lv:Nat) (hlv:lv≤6):FnW C 550 [.agg n.c,.int .i64 lv]=some (.int .i64 (trc n lv)):=by
 have ho:=afv H n hf
 rw [aF H.aiw rfl]
 cases lv with
 | zero=>rw [afJ];simp [Xy]
 | succ lv =>
  rw [afN]
  have c1:¬ (lv:Int)+1 < 1:=by omega
  cases ha:oN n with
  | false=>rw [ha] at ho;simp [Xy,c1,ho,H.inl,aB,H.pp,ppB]
  | true =>
   rw [ha] at ho
   have hr:=MI H n lv (by omega) (yX ha) (fun m hm=>ih m hm lv (by omega)) n.ch.length 0 (by simp) 1 (by omega)
   rw [List.drop_zero] at hr
   simp only [Ad] at hr
   simp at hr
   simp [Xy,c1,ho,H.inl,aB,H.pp,ppB,hr]
theorem Q5 (H:L6 C) (p:Pt) (hf:fH p):∀ lv:Nat,lv≤6→FnW C 550 [.agg p.c,.int .i64 lv]=some (.int .i64 (trc p lv)):=by
 induction hf with
 | mk p h hm ih=>exact fun lv hlv=>KO H p h (fun m hm lv hlv=>ih m hm lv hlv) lv hlv
theorem RD (H:L6 C) (p:Pt) (hf:fH p):FnW C 505 [.agg p.c]=some (.int .i64 (oO p)):=by
 have h:=Q5 H p hf 6 (by omega)
 rw [aF H.ah2 rfl,ad5]
 generalize trc p 6=R at *
 simp at h
 by_cases k1:p.k=1
 · by_cases c:64 < R
   · have c1:64 < (R:Int):=by omega
     simp [XD,H.inl,aB,H.pp,ppB,h,c,c1,k1]
   · have c1:¬ 64 < (R:Int):=by omega
     simp [XD,H.inl,aB,H.pp,ppB,h,c,c1,k1]
 · simp [XD,H.inl,aB,H.pp,ppB,h,k1]
theorem TN (H:L6 C) (p:Pt) (hf:fH p):FnW C 408 [.agg p.c]=some (.int .i64 (if oO p=0 then 14 else 0)):=by
 have h:=RD H p hf
 rw [aF H.aht rfl]
 by_cases c:oO p=0
 · simp [ZX,H.inl,aB,H.pp,ppB,h,c]
 · simp [ZX,H.inl,aB,H.pp,ppB,h,c]
end Go.D
end
section
namespace Go.D
open Go Go.Pav Go.Pw P
attribute [-simp] List.getElem_cons_drop
variable {C:aG}
structure abH (C:aG):Prop extends L6 C,OL C where
 agE:C.fns.get 546=some RN
 aiS:C.fns.get 580=some ado
 agR:C.fns.get 512=some TP
def zK (i:It):Bool:=decide (i.k≠0)&&isText i.x&&(decide (i.m.length≤8)&&i.m.all isName)
theorem aeB (H:abH C):U5 C 580 isName where
 ok s:=by
  have:=wG H.toDJ s
  rw [aF H.aiS rfl]
  simp [ado,H.inl,aB,H.pp,ppB,this]
 ne:=by rfl
 ni:=by rfl
theorem Ym (H:abH C) (i:It):FnW C 546 [eIt i]=some (.int .i64 (if zK i=true then 0 else 6)):=by
 have hx:=BA H.toDJ i.x
 rw [aF H.agE rfl]
 unfold zK
 generalize isText i.x=X at *
 by_cases c1:i.k=0
 · simp [RN,eq_true c1]
 · cases X
   · simp [RN,c1,hx,H.inl,aB,H.pp,ppB]
   · by_cases c2:i.m.length≤8
     · have c3:¬ 8 < (i.m.length:Int):=by omega
       have hm:=AY H.toOL (aeB H) i.m i.e (by omega)
       generalize i.m.all isName=M at *
       cases M <;> simp at hm <;> simp [RN,c1,hx,c2,c3,hm,H.inl,aB,H.pp,ppB]
     · have c3:8 < (i.m.length:Int):=by omega
       simp [RN,c1,hx,c2,c3,H.inl,aB,H.pp,ppB]
theorem SC (H:abH C) (k t:Int) (x:Bs) (m:List Bs) (e:Bool) (hl:m.length≤8):∀ n i,n+i=m.length →
 D7 C ⟨[(3,.int .i64 i),(1,.ptr 0 0 0)],[(0,.cells 4 [[.int .u64 k,.int .u8 t,.str x,.ro 1 (m.map eS) e]] true true)],1⟩ =
  some (.int .i64 (if (m.drop i).all isName=true then 0 else 6)):=by
 intro n
 induction n with
 | zero =>
  intro i hi
  simp only [D7];rw [aj Ak.eq_1]
  have h1:m.drop i=[]:=List.drop_eq_nil_of_le (by omega)
  have h3:¬ i < m.length:=by omega
  simp [aj Lh.eq_1,h1,h3]
 | succ n ih =>
  intro i hi
  have h1:i < m.length:=by omega
  have:=ih (i+1) (by omega)
  have hb:=oh H.tooG m[i]
  rw [drop_cons h1]
  generalize hX:(m.drop (i+1)).all isName=X at *
  rw [List.all_cons,hX]
  simp only [D7] at this ⊢;rw [aj Ak.eq_1]
  cases hn:isName m[i]
  · rw [hn] at hb
    simp (disch:=omega) [h1,aI,hb,H.inl,aB,H.pp,ppB]
  · rw [hn] at hb
    simp at this
    simp (disch:=omega) [h1,aI,hb,H.inl,aB,H.pp,ppB,this]
theorem aby (H:abH C) (i:It):FnW C 512 [eIt i]=some (.int .i64 (if zK i=true then 0 else 6)):=by
 have hx:=Ai H.tooG i.x
 rw [aF H.agR rfl]
 unfold zK
 generalize isText i.x=X at *
 by_cases c1:i.k=0
 · simp [TP,eq_true c1]
 · cases X
   · simp [TP,c1,hx,H.inl,aB,H.pp,ppB]
   · by_cases c2:i.m.length≤8
     · have c3:¬ 8 < (i.m.length:Int):=by omega
       have hm:=SC H i.k i.t i.x i.m i.e c2 i.m.length 0 (by simp)
       rw [List.drop_zero] at hm
       generalize i.m.all isName=M at *
       simp only [D7] at hm
       simp at hm
       simp [TP,c1,hx,c2,c3,hm,H.inl,aB,H.pp,ppB]
     · have c3:8 < (i.m.length:Int):=by omega
       simp [TP,c1,hx,c2,c3,H.inl,aB,H.pp,ppB]
def dec (n:Nat):Bs:=if h:n < 10 then [UInt8.ofNat (48+n)] else dec (n / 10)++[UInt8.ofNat (48+n % 10)]
termination_by n
theorem UN:∀ (k n:Nat),n < 10 ^ (k+1)→(dec n).length≤k+1
 | 0,n,h=>by unfold dec;rw [dif_pos (by simpa using h)];simp
 | k+1,n,h=>by
  unfold dec
  split
  · simp
  · have:=UN k (n / 10) (by rw [Nat.pow_succ] at h;omega)
    simp;omega
structure YT (C:aG):Prop extends abH C where
 ahm:C.fns.get 584=some afb
 adE:C.fns.get 558=some YU
theorem Uu (n:Nat) (h:n < 10):dec n=[UInt8.ofNat (48+n)]:=by unfold dec;rw [dif_pos h]
theorem UY (H:YT C) (n:Nat) (h:n < 10):FnW C 558 [.int .u64 n]=some (.str (dec n)):=by
 rw [aF H.adE rfl,Uu n h]
 obtain rfl | rfl | rfl | rfl | rfl | rfl | rfl | rfl | rfl | rfl:n=0∨n=1∨n=2∨n=3∨n=4∨n=5∨n=6∨n=7∨n=8∨n=9:=by omega
 all_goals (simp (disch:=omega) [YU,sG];try rfl)
theorem VN (H:YT C) (n:Nat) (h:n < 18446744073709551616) (ih:∀ m < n,FnW C 558 [.int .u64 m]=some (.str (dec m))):FnW C 558 [.int .u64 n]=some (.str (dec n)):=by
 by_cases c:n < 10
 · exact UY H n c
 · have h1:=ih (n / 10) (by omega)
   have h2:=UY H (n % 10) (by omega)
   have hl:=UN 19 (n / 10) (by omega)
   rw [Uu _ (by omega)] at h2
   rw [aF H.adE rfl]
   rw [dec,dif_neg c]
   have e1:(n:Int).tdiv 10=((n / 10:Nat):Int):=by rw [Int.tdiv_eq_ediv_of_nonneg (by omega)];omega
   have e2:(n:Int).tmod 10=((n % 10:Nat):Int):=by rw [Int.tmod_eq_emod_of_nonneg (by omega)];omega
   have c2:¬ (n:Int) < 10:=by omega
   have hm:(dec (n / 10)).length+1≤maxStr:=by unfold maxStr;omega
   have b1:n / 10≤n:=by omega
   have b2:n % 10≤n:=by omega
   generalize dec (n / 10)=D at *
   generalize UInt8.ofNat (48+n % 10)=dg at *
   generalize n / 10=q at *
   generalize n % 10=r at *
   simp (disch:=omega) [YU,sG,c2,e1,e2,h1,h2,hm,H.inl,aB,H.pp,ppB]
theorem KP (H:YT C) (n:Nat):n < 18446744073709551616→FnW C 558 [.int .u64 n]=some (.str (dec n)):=by
 induction n using Nat.strongRecOn with
 | ind n ih=>exact fun h=>VN H n h (fun m hm=>ih m hm (by omega))
theorem bytesOf_map:∀ l:List UInt8,bytesOf (l.map fun b=>[AV.int .u8 b.toNat])=some l
 | []=>rfl
 | b::r=>by
  rw [List.map_cons,bytesOf,bytesOf_map r]
  simp
theorem aa0 (r:Nat) (h:r < 10):([48,49,50,51,52,53,54,55,56,57]:List UInt8)[r]'(by simpa using h)=UInt8.ofNat (48+r):=by
 obtain rfl | rfl | rfl | rfl | rfl | rfl | rfl | rfl | rfl | rfl:r=0∨r=1∨r=2∨r=3∨r=4∨r=5∨r=6∨r=7∨r=8∨r=9:=by omega
 all_goals rfl
theorem abW:∀ (i n:Nat) (acc:List UInt8),acc.length+i=19→n < 10 ^ (i+1)→n < 18446744073709551616 →
 Ey C ⟨[(4,.int .i64 (i+1:Nat)),(3,.ptr 0 0 0),(0,.int .u64 n)],[(0,.cells 20 [List.replicate i (AV.int .u8 0)++AV.int .u8 0::acc.map fun b=>AV.int .u8 b.toNat] true true)],1⟩=some (.str (dec n++acc)):=by
 intro i
 induction i with
 | zero =>
  intro n acc ha hn hb
  have e1:(n:Int).tdiv 10=0:=by rw [Int.tdiv_eq_ediv_of_nonneg (by omega)];omega
  have e2:(n:Int).tmod 10=n:=by rw [Int.tmod_eq_emod_of_nonneg (by omega)];omega
  have hr:n < 10:=by simpa using hn
  have hd:=aa0 n hr
  have h19:19≤acc.length:=by omega
  rw [Uu n hr]
  generalize UInt8.ofNat (48+n)=dg at *
  have hm:bytesOf ([AV.int .u8 dg.toNat]::List.map ((fun x=>[x]) ∘ fun b:UInt8=>AV.int .u8 b.toNat) acc)=some (dg::acc):=bytesOf_map (dg::acc)
  simp only [Ey];rw [aj zF.eq_1]
  simp (disch:=(first | omega | (simp;done) | (simp;omega))) [aI,sG,e1,e2,hr,hd,h19,hm,List.take_of_length_le,Qi]
 | succ i ih =>
  intro n acc ha hn hb
  have e1:(n:Int).tdiv 10=((n / 10:Nat):Int):=by rw [Int.tdiv_eq_ediv_of_nonneg (by omega)];omega
  have e2:(n:Int).tmod 10=((n % 10:Nat):Int):=by rw [Int.tmod_eq_emod_of_nonneg (by omega)];omega
  have hr:n % 10 < 10:=by omega
  have hq:n / 10 < 10 ^ (i+1):=by rw [Nat.pow_succ] at hn;omega
  have hqb:n / 10≤n:=by omega
  have h18:acc.length+i=18:=by omega
  have hi:i+1 < 20:=by omega
  have h20:20≤i+1+(acc.length+1):=by omega
  have hi19:i≤19:=by omega
  have hd:=aa0 (n % 10) hr
  have ih':=fun dg=>ih (n / 10) (dg::acc) (by simp;omega) hq (by omega)
  have hdec:dec n=(if n / 10=0 then [] else dec (n / 10))++[UInt8.ofNat (48+n % 10)]:=by
   by_cases c:n < 10
   · have:n / 10=0:=by omega
     have h2:n % 10=n:=by omega
     rw [Uu n c,this,h2];simp
   · rw [dec,dif_neg c,if_neg (by omega)]
  rw [hdec]
  have t1:∀ (z:AV) (L:List AV),List.take (i+1) (List.replicate (i+1) z++L)=List.replicate (i+1) z:=fun z L=>List.take_left' (by simp)
  have t2:∀ (z y:AV) (L:List AV),List.drop (i+1+1) (List.replicate (i+1) z++y::L)=L:=fun z y L=>by
   rw [List.append_cons];exact List.drop_left' (by simp)
  have t3:∀ (z:AV) (X:List AV),List.replicate i z++z::X=List.replicate (i+1) z++X:=fun z X=>by rw [List.replicate_succ'];simp
  generalize dec (n / 10)=D at *
  generalize UInt8.ofNat (48+n % 10)=dg at *
  have hm:bytesOf ([AV.int .u8 dg.toNat]::List.map ((fun x=>[x]) ∘ fun b:UInt8=>AV.int .u8 b.toNat) acc)=some (dg::acc):=bytesOf_map (dg::acc)
  have ih2:=ih' dg
  rw [t3] at ih2
  generalize n / 10=q at *
  generalize n % 10=r at *
  simp only [Ey] at ih2 ⊢;rw [aj zF.eq_1]
  simp at ih2
  by_cases c:q=0
  · simp (disch:=(first | omega | (simp;done) | (simp;omega))) [aI,sG,e1,e2,hr,hd,hi,h20,hi19,hm,t1,t2,c,List.take_of_length_le,Qi]
  · simp (disch:=(first | omega | (simp;done) | (simp;omega))) [aI,sG,e1,e2,hr,hd,hi,t1,t2,c,ih2]
theorem KD (H:YT C) (n:Nat) (h:n < 18446744073709551616):FnW C 584 [.int .u64 n]=some (.str (dec n)):=by
 have hl:=abW (C:=C) 19 n [] rfl (by omega) h
 have e:List.replicate 19 (AV.int .u8 0)++AV.int .u8 0::List.map (fun b:UInt8=>AV.int .u8 b.toNat) []=rep 20 (AV.int .u8 0):=rfl
 rw [e] at hl
 simp only [Ey] at hl
 simp at hl
 rw [aF H.ahm rfl]
 simp [afb,hl]
def bg (x:It) (s:Sl):Bs × Bs:=(s.n,if s.f=1 then x.x else if s.f=2 then dec x.k.toNat else if s.f=3 then dec x.m.length else s.v)
structure Zt (C:aG):Prop extends YT C where
 agC:C.fns.get 559=some ad8
 aiZ:C.fns.get 592=some aaH
theorem QD (H:Zt C) (x:It) (hk:0≤x.k∧x.k < 18446744073709551616) (hm:x.m.length≤1000000) (l:List Sl) (e:Bool) (hl:l.length≤8):∀ n i,n+i=l.length→∀ G:List (Bs × Bs),G.length=i →
 ET C ⟨[(6,.int .i64 i),(5,.sl 0 2 0 G.length G.length false),(3,.ptr 1 0 0),(0,.ro 3 (l.map eSl) e)],[(0,.cells 2 (G.map eA) true true),(1,.cells 4 [[.int .u64 x.k,.int .u8 x.t,.str x.x,.ro 1 (x.m.map eS) x.e]] true true)],2⟩ =
  some (.ro 2 ((G++(l.drop i).map (bg x)).map eA) false):=by
 intro n
 induction n with
 | zero =>
  intro i hi G hG
  have h1:l.drop i=[]:=List.drop_eq_nil_of_le (by omega)
  have h3:¬ i < l.length:=by omega
  simp only [ET];rw [aj AB.eq_1]
  cases G with
  | nil=>simp [aj EZ.eq_1,h1,h3]
  | cons g G=>simp (disch:=(first | omega | (simp;done) | (simp;omega))) [aj EZ.eq_1,h1,h3,List.take_of_length_le]
 | succ n ih =>
  intro i hi G hG
  have h1:i < l.length:=by omega
  obtain ⟨k,hk2⟩:∃ k:Nat,x.k=k:=⟨x.k.toNat,by omega⟩
  have d1:=KP H.toYT k (by omega)
  have d2:=KP H.toYT x.m.length (by omega)
  have ih':=ih (i+1) (by omega) (G++[bg x l[i]]) (by simp [hG])
  have hfit:(G.length+1) * 33≤35184372088832:=by omega
  rw [drop_cons h1]
  simp only [ET] at ih' ⊢;rw [aj AB.eq_1]
  simp at ih'
  unfold bg at ih' ⊢
  rw [hk2] at ih' ⊢
  by_cases f1:l[i].f=1
  · simp [f1] at ih'
    simp (disch:=omega) [h1,f1,aI,hfit,ih',H.inl,aB,H.pp,ppB]
  · by_cases f2:l[i].f=2
    · simp [f2] at ih'
      simp (disch:=omega) [h1,f2,aI,hfit,d1,ih',H.inl,aB,H.pp,ppB]
    · by_cases f3:l[i].f=3
      · simp [f3] at ih'
        simp (disch:=omega) [h1,f3,aI,sG,hfit,d2,ih',H.inl,aB,H.pp,ppB]
      · simp [f1,f2,f3] at ih'
        simp (disch:=omega) [h1,f1,f2,f3,aI,hfit,ih',H.inl,aB,H.pp,ppB]
theorem jq (H:Zt C) (x:It) (hk:0≤x.k∧x.k < 18446744073709551616) (hm:x.m.length≤1000000) (l:List Sl) (e:Bool) (hl:l.length≤8) :
 FnW C 559 [.ro 3 (l.map eSl) e,eIt x]=some (.ro 2 ((l.map (bg x)).map eA) false):=by
 have h:=QD H x hk hm l e hl l.length 0 (by simp) [] rfl
 simp only [ET] at h
 simp at h
 rw [aF H.agC rfl]
 simp [ad8,h]
theorem OI (H:Zt C) (x:It) (hk:0≤x.k∧x.k < 18446744073709551616) (hm:x.m.length≤1000000) (l:List Sl) (e:Bool) (hl:l.length≤8) (hf:∀ s ∈ l,0≤s.f∧s.f≤3):∀ n i,n+i=l.length→∀ G:List (Bs × Bs),G.length=i →
 DX C ⟨[(13,.int .i64 i),(12,.int .i64 l.length),(11,.ro 3 (l.map eSl) e),(5,.sl 0 2 0 l.length l.length true),(2,.ptr 1 0 0)],[(0,.cells 2 (G.map eA++List.replicate n [.str [],.str []]) true true),(1,.cells 4 [[.int .u64 x.k,.int .u8 x.t,.str x.x,.ro 1 (x.m.map eS) x.e]] true true)],2⟩ =
  some (.ro 2 ((G++(l.drop i).map (bg x)).map eA) true):=by
 intro n
 induction n with
 | zero =>
  intro i hi G hG
  have h1:l.drop i=[]:=List.drop_eq_nil_of_le (by omega)
  have h3:¬ i < l.length:=by omega
  have h5:G.length=l.length:=by omega
  have h6:List.take l.length (List.map eA G)=List.map eA G:=List.take_of_length_le (by simp [h5])
  simp only [DX];rw [aj vO.eq_1]
  simp [aj Ej.eq_1,h1,h3,h5,h6]
 | succ n ih =>
  intro i hi G hG
  have h1:i < l.length:=by omega
  obtain ⟨k,hk2⟩:∃ k:Nat,x.k=k:=⟨x.k.toNat,by omega⟩
  have d1:=KD H.toYT k (by omega)
  have d2:=KD H.toYT x.m.length (by omega)
  have ih':=ih (i+1) (by omega) (G++[bg x l[i]]) (by simp [hG])
  have h0:=hf _ (List.getElem_mem h1)
  rw [drop_cons h1]
  simp only [DX] at ih' ⊢;rw [aj vO.eq_1]
  simp at ih'
  unfold bg at ih' ⊢
  rw [hk2] at ih' ⊢
  have f0123:l[i].f=0∨l[i].f=1∨l[i].f=2∨l[i].f=3:=by omega
  rcases f0123 with f | f | f | f
  all_goals
   simp [f] at ih'
   simp (disch:=omega) [h1,f,aI,sG,d1,d2,Fp,F6,H.inl,aB,H.pp,ppB,ih']
theorem Xz (H:Zt C) (x:It) (hk:0≤x.k∧x.k < 18446744073709551616) (hm:x.m.length≤1000000) (l:List Sl) (e:Bool) (hl:l.length≤8) (hf:∀ s ∈ l,0≤s.f∧s.f≤3) :
 FnW C 592 [eIt x,.ro 3 (l.map eSl) e]=some (.ro 2 ((l.map (bg x)).map eA) true):=by
 rw [aF H.aiZ rfl]
 by_cases hne:l=[]
 · subst hne
   simp (disch:=omega) [aaH,aj vO.eq_1,aj Ej.eq_1]
 · have h:=OI H x hk hm l e hl hf l.length 0 (by simp) [] rfl
   simp only [DX] at h
   simp at h
   simp (disch:=omega) [aaH,fits,hne,h]
structure aek (C:aG):Prop extends Zt C where
 aij:C.fns.get 582=some ac9
 ahO:C.fns.get 583=some acd
 ais:C.fns.get 593=some adN
def bJ (s:Bs):Nd:=⟨2,[],[],[],true,s,[],true⟩
theorem vJ (H:aek C) (s:Bs):FnW C 583 [.str s]=some (.agg (bJ s).c):=by
 rw [aF H.ahO rfl,Nd.dD]
 simp [acd,bJ]
theorem ael (H:aek C) (l:List Nd) (e:Bool):FnW C 593 [.ro 6 (l.map Nd.c) e]=some (.ro 6 (l.map Nd.c) true):=by
 have h:List.take l.length (List.map Nd.c l)=List.map Nd.c l:=List.take_of_length_le (by simp)
 rw [aF H.ais rfl]
 simp [adN,h]
def xW (x:It) (p:Pt) (key:Bs) (ch:List Nd):Nd:=⟨1,p.t,key,p.s.map (bg x),true,[],ch,true⟩
theorem G6 (H:aek C) (x:It) (hk:0≤x.k∧x.k < 18446744073709551616) (hm:x.m.length≤1000000) (p:Pt) (hl:p.s.length≤8) (hf:∀ s ∈ p.s,0≤s.f∧s.f≤3) (key:Bs) (ch:List Nd) (e:Bool) :
 FnW C 582 [eIt x,.agg p.c,.str key,.ro 6 (ch.map Nd.c) e]=some (.agg (xW x p key ch).c):=by
 have h1:=Xz H.toZt x hk hm p.s p.se hl hf
 have h2:=ael H ch e
 rw [aF H.aij rfl,Nd.dD]
 simp only [xW]
 simp [ac9,h1,h2,H.inl,aB,H.pp,ppB]
end Go.D
end
section
namespace Go.D
open Go Go.Pav Go.Pw P
mutual
/-- A tree without what is known of its memory. -/
def Nd.z:Nd→Nd
 | ⟨k,t,y,a,ae,x,ch,ce⟩=>⟨k,t,y,a,true,x,Nd.zs ch,true⟩
def Nd.zs:List Nd→List Nd
 | []=>[]
 | n::r=>n.z::Nd.zs r
end
theorem Nd.agd:∀ l:List Nd,Nd.zs l=l.map Nd.z
 | []=>rfl
 | n::r=>by rw [Nd.zs,Nd.agd r];rfl
theorem Nd.ad3 (n:Nd):n.z=⟨n.k,n.t,n.y,n.a,true,n.x,n.ch.map Nd.z,true⟩:=by cases n;rw [Nd.z,Nd.agd]
theorem Nd.z_y (n:Nd):n.z.y=n.y:=by rw [Nd.ad3]
theorem acz (n:Nd):alone n.z=alone n:=by
 have h:(n.ch.map Nd.z).map Nd.y=n.ch.map Nd.y:=by rw [List.map_map];exact List.map_congr_left fun m _=>m.z_y
 rw [Nd.ad3]
 unfold alone
 simp only [h,List.length_map,List.map_eq_nil_iff]
mutual
theorem akq:∀ (n:Nd) (lv:Nat) (s:Nat × Nat),wk n.z lv s=wk n lv s
 | ⟨k,t,y,a,ae,x,ch,ce⟩,lv,(c,d)=>by
  have h:=acz ⟨k,t,y,a,ae,x,ch,ce⟩
  rw [Yl,Yl,h]
  have e:(Nd.z ⟨k,t,y,a,ae,x,ch,ce⟩).ch=Nd.zs ch:=by rw [Nd.z]
  rw [e,agb ch (lv+1) (c+1,max d lv)]
theorem agb:∀ (l:List Nd) (lv:Nat) (s:Nat × Nat),wks (Nd.zs l) lv s=wks l lv s
 | [],lv,s=>by rw [Nd.zs]
 | m::r,lv,s=>by
  rw [Nd.zs,wks,wks,akq m lv s]
  split
  · exact agb r lv _
  · rfl
end
theorem UK (n:Nd):cnt n.z=cnt n:=by unfold cnt;rw [akq]
end Go.D
end
section
namespace Go.D
open Go Go.Pav Go.Pw P
inductive Okp:Pt→Prop
 | mk (p:Pt) (h:oN p=true) (hf:Fits p) (hm:∀ m ∈ p.ch,Okp m):Okp p
mutual
theorem aa2:∀ (p:Pt),fH p→∀ (lv c:Nat),(tk p lv c).1=true→Okp p
 | ⟨k,t,y,s,se,x,ch,ce⟩,hf,lv,c,h=>by
  rw [agf] at h
  split at h
  · cases h
  · rename_i q
    cases hf with
    | mk _ h1 hm =>
     exact .mk _ (by simpa using fun e=>q (.inr (.inr e))) h1 (U4 ch hm _ _ h)
theorem U4:∀ (l:List Pt),(∀ m ∈ l,fH m)→∀ (lv c:Nat),(tks l lv c).1=true→∀ m ∈ l,Okp m
 | [],_,_,_,_=>by simp
 | m::r,hf,lv,c,h=>by
  rw [tks] at h
  split at h
  · rename_i q
    intro a ha
    have h0:=aa2 m (hf m (by simp)) lv c q
    have h2:=U4 r (fun b hb=>hf b (by simp [hb])) lv _ h
    rcases List.mem_cons.1 ha with e | ha
    · exact e ▸ h0
    · exact h2 a ha
  · cases h
end
theorem Gg {p:Pt} (hf:fH p) (h:oO p≠0):Okp p:=by
 unfold oO at h
 split at h
 · rename_i q;exact aa2 p hf 1 0 q.2
 · exact absurd rfl h
theorem abt {p:Pt} (h:oO p≠0):p.k=1:=by
 unfold oO at h
 split at h
 · rename_i q;exact q.1
 · exact absurd rfl h
theorem NJ:∀ (l:List Sl) (p:Option Bs),kU p l=true→∀ s ∈ l,s.f≤3
 | [],_,_=>by simp
 | s::r,p,h=>by
  rw [kU] at h
  simp at h
  intro a ha
  rcases List.mem_cons.1 ha with rfl | ha
  · exact h.1.1.1.1.2
  · exact NJ r _ h.2 a ha
theorem Uh {p:Pt} (h:oN p=true):p.s.length≤8∧∀ s ∈ p.s,s.f≤3:=by
 unfold oN at h
 split at h
 · simp at h;exact ⟨h.1.2.1,NJ _ _ h.1.2.2⟩
 · split at h
   · simp at h;exact ⟨h.1.1.1.2.1,NJ _ _ h.1.1.1.2.2⟩
   · split at h
     · simp at h;rw [h.1.2];simp
     · simp at h;rw [h.1.2];simp
theorem Rl {p:Pt} (h:oN p=true):p.k=1∨p.k=2∨p.k=3∨p.k=4∨p.k=5:=by
 unfold oN at h
 split at h
 · exact .inl ‹_›
 · split at h
   · exact .inr (.inr (.inr (.inr ‹_›)))
   · split at h
     · exact .inr (.inl ‹_›)
     · simp at h
       rcases h.1.1.1.1.1 with q | q
       · exact .inr (.inr (.inl q))
       · exact .inr (.inr (.inr (.inl q)))
mutual
/-- What a part makes. -/
def mk (x:It):Pt→List Nd
 | ⟨k,t,y,s,se,tx,ch,ce⟩ =>
  if k=1 then [⟨1,t,y,s.map (bg x),true,[],mks x ch,true⟩]
  else if k=2 then [bJ tx] else if k=3 then [bJ x.x] else if k=4 then [bJ (dec x.k.toNat)]
  else if k=5 then x.m.map fun m=>⟨1,t,m,s.map (bg x),true,[],[bJ m],true⟩ else []
def mks (x:It):List Pt→List Nd
 | []=>[]
 | p::r=>mk x p++mks x r
end
theorem mk_eq (x:It) (p:Pt):mk x p=if p.k=1 then [xW x p p.y (mks x p.ch)]
 else if p.k=2 then [bJ p.x] else if p.k=3 then [bJ x.x] else if p.k=4 then [bJ (dec x.k.toNat)]
 else if p.k=5 then x.m.map fun m=>xW x p m [bJ m] else []:=by cases p;rw [mk];rfl
mutual
/-- What the specification's part makes. -/
def md (x:It):Pt→List Nd
 | ⟨k,t,y,s,se,tx,ch,ce⟩ =>
  if k=2 then [bJ tx] else if k=3 then [bJ x.x] else if k=4 then [bJ (dec x.k.toNat)]
  else if k=5 then x.m.map fun m=>⟨1,t,m,s.map (bg x),false,[],[bJ m],true⟩
  else [⟨1,t,y,s.map (bg x),false,[],mds x ch,(mds x ch).isEmpty⟩]
def mds (x:It):List Pt→List Nd
 | []=>[]
 | p::r=>md x p++mds x r
end
def iV (x:It) (p:Pt) (key:Bs) (ch:List Nd) (e:Bool):Nd:=⟨1,p.t,key,p.s.map (bg x),false,[],ch,e⟩
theorem ab1 (x:It) (p:Pt):md x p=if p.k=2 then [bJ p.x] else if p.k=3 then [bJ x.x] else if p.k=4 then [bJ (dec x.k.toNat)]
 else if p.k=5 then x.m.map fun m=>iV x p m [bJ m] true else [iV x p p.y (mds x p.ch) (mds x p.ch).isEmpty]:=by cases p;rw [md];rfl
mutual
theorem af9 (x:It):∀ (p:Pt),Okp p→(mk x p).map Nd.z=(md x p).map Nd.z
 | ⟨k,t,y,s,se,tx,ch,ce⟩,h=>by
  have hk:=Rl (by cases h;assumption:oN ⟨k,t,y,s,se,tx,ch,ce⟩=true)
  have hm:∀ m ∈ ch,Okp m:=by cases h;assumption
  have ih:=Vz x ch hm
  rw [mk,md]
  simp only at hk
  rcases hk with rfl | rfl | rfl | rfl | rfl
  · simp [Nd.ad3,ih]
  · simp
  · simp
  · simp
  · simp [Nd.ad3]
theorem Vz (x:It):∀ (l:List Pt),(∀ m ∈ l,Okp m)→(mks x l).map Nd.z=(mds x l).map Nd.z
 | [],_=>by rw [mks,mds]
 | p::r,h=>by
  rw [mks,mds,List.map_append,List.map_append,af9 x p (h p (by simp)),Vz x r fun m hm=>h m (by simp [hm])]
end
theorem abY (x:It) (hx:x.m.length≤8) (p:Pt):(md x p).length≤8:=by
 rw [ab1];split <;> (try split) <;> (try split) <;> (try split) <;> (try split) <;> simp <;> omega
def zN:Nd:=⟨0,[],[],[],true,[],[],true⟩
def mkN (x:It) (p:Pt):Nd:=(mk x p).headD zN
def mdN (x:It) (p:Pt):Nd:=(md x p).headD zN
theorem afD (x:It) (p:Pt) (h:Okp p):(mkN x p).z=(mdN x p).z:=by
 have:=af9 x p h
 unfold mkN mdN
 cases h1:mk x p <;> cases h2:md x p <;> rw [h1,h2] at this <;> simp at this ⊢
 exact this.1
def lK (p:Pt) (x:It) (most:Int):Int :=
 if most < 1∨64 < most then 1 else if oO p=0 then 14 else if zK x=false then 6 else if cnt (mkN x p)=0∨most < cnt (mkN x p) then 14 else 0
def BK (p:Pt) (x:It) (most:Int):Nd:=if lK p x most=0 then mkN x p else zN
def OT (p:Pt) (x:It) (most:Int):Nd:=if lK p x most=0 then mdN x p else zN
theorem aad {p:Pt} (hf:fH p) {x:It} {most:Int} (h:lK p x most=0):Okp p:=by
 unfold lK at h
 refine Gg hf fun q=>?_
 rw [if_pos q] at h
 split at h <;> cases h
theorem afS (p:Pt) (hf:fH p) (x:It) (most:Int):(BK p x most).z=(OT p x most).z:=by
 unfold BK OT
 split
 · exact afD x p (aad hf ‹_›)
 · rfl
end Go.D
end
section
namespace Go.D
open Go Go.Pav Go.Pw P
attribute [-simp] List.getElem_cons_drop
variable {C:aG}
structure qA (C:aG):Prop extends aek C,OC C where
 aiE:C.fns.get 547=some adY
 air:C.fns.get 513=some PL
 ahK:C.fns.get 501=some Hz
 aic:C.fns.get 425=some H7
@[simp] theorem Nd.akK (n:Nd) (k:Nat):n.c.any (cZ (k+1))=true:=by rw [Nd.dD];rfl
@[simp] theorem Nd.ajn (n:Nd) (k:Nat):(∃ x,x ∈ n.c∧cZ (k+1) x=true)=True:=by
 refine eq_true ⟨.ro 2 (n.a.map eA) n.ae,?_,rfl⟩
 rw [Nd.dD];simp
theorem ad7 (H:qA C) (x:It) (hk:0≤x.k∧x.k < 18446744073709551616) (hm:x.m.length≤8) (l:List Pt) (e:Bool) (hl:l.length≤16) (p:Pt) (hp:oN p=true∧Fits p) (hk5:p.k=5) (i:Nat) (hi:i < l.length)
 (hnext:∀ G:List Nd,G.length≤8 * (i+1)→jQ C ⟨[(12,.int .i64 ((i:Int)+1)),(11,.int .i64 l.length),(10,.ro 6 (l.map Pt.c) e),(5,.sl 0 6 0 G.length G.length false),(2,.ptr 1 0 0)],[(0,.cells 6 (G.map Nd.c) true true),(1,.cells 4 [[.int .u64 x.k,.int .u8 x.t,.str x.x,.ro 1 (x.m.map eS) x.e]] true true)],2⟩ =
  some (.ro 6 ((G++mks x (l.drop (i+1))).map Nd.c) false)):∀ n k,n+k=x.m.length→∀ G:List Nd,G.length≤8 * i+k →
 Es C ⟨[(65,.int .i64 k),(64,.int .i64 x.m.length),(63,.ro 1 (x.m.map eS) x.e),(12,.int .i64 i),(11,.int .i64 l.length),(10,.ro 6 (l.map Pt.c) e),(7,.ptr 0 0 0),(5,.sl 1 6 0 G.length G.length false),(2,.ptr 2 0 0)],[(0,.cells 6 [p.c] true true),(1,.cells 6 (G.map Nd.c) true true),(2,.cells 4 [[.int .u64 x.k,.int .u8 x.t,.str x.x,.ro 1 (x.m.map eS) x.e]] true true)],3⟩ =
  some (.ro 6 ((G++(x.m.drop k).map (fun m=>xW x p m [bJ m])++mks x (l.drop (i+1))).map Nd.c) false):=by
 intro n
 induction n with
 | zero =>
  intro k hk2 G hG
  have h1:x.m.drop k=[]:=List.drop_eq_nil_of_le (by omega)
  have h3:¬ k < x.m.length:=by omega
  have:=hnext G (by omega)
  simp only [jQ] at this
  simp at this
  simp only [Es];rw [aj zh.eq_1]
  simp (disch:=omega) [aj ql.eq_1,h1,h3,aI,this]
 | succ n ih =>
  intro k hk2 G hG
  have h1:k < x.m.length:=by omega
  have hs:=Uh hp.1
  have he:=G6 H.toaek x hk (by omega) p hs.1 (fun s q=>⟨hp.2.f s q,hs.2 s q⟩) x.m[k] [bJ x.m[k]] true
  have hw:=vJ H.toaek x.m[k]
  have:=ih (k+1) (by omega) (G++[xW x p x.m[k] [bJ x.m[k]]]) (by simp;omega)
  have hfit:(G.length+1) * 105≤35184372088832:=by omega
  rw [drop_cons h1]
  simp only [Es] at this ⊢;rw [aj zh.eq_1]
  simp at this
  simp at he
  simp (disch:=omega) [h1,aI,hfit,hw,he,H.inl,aB,H.pp,ppB,this]
theorem XY (H:qA C) (x:It) (hk:0≤x.k∧x.k < 18446744073709551616) (hm:x.m.length≤8) (l:List Pt) (e:Bool) (hl:l.length≤16) (ho:∀ p ∈ l,Okp p)
 (ih:∀ p ∈ l,FnW C 547 [eIt x,.ro 6 (p.ch.map Pt.c) p.ce]=some (.ro 6 ((mks x p.ch).map Nd.c) false)):∀ n i,n+i=l.length→∀ G:List Nd,G.length≤8 * i →
 jQ C ⟨[(12,.int .i64 i),(11,.int .i64 l.length),(10,.ro 6 (l.map Pt.c) e),(5,.sl 0 6 0 G.length G.length false),(2,.ptr 1 0 0)],[(0,.cells 6 (G.map Nd.c) true true),(1,.cells 4 [[.int .u64 x.k,.int .u8 x.t,.str x.x,.ro 1 (x.m.map eS) x.e]] true true)],2⟩ =
  some (.ro 6 ((G++mks x (l.drop i)).map Nd.c) false):=by
 intro n
 induction n with
 | zero =>
  intro i hi G hG
  have h1:l.drop i=[]:=List.drop_eq_nil_of_le (by omega)
  have h3:¬ i < l.length:=by omega
  simp only [jQ];rw [aj nM.eq_1]
  cases G with
  | nil=>simp [aj zL.eq_1,h1,h3,mks]
  | cons g G=>simp (disch:=(first | omega | (simp;done) | (simp;omega))) [aj zL.eq_1,h1,h3,mks,List.take_of_length_le]
 | succ n ihn =>
  intro i hi G hG
  have h1:i < l.length:=by omega
  have hp:=ho _ (List.getElem_mem h1)
  have hpo:oN l[i]=true:=by cases hp;assumption
  have hpf:Fits l[i]:=by cases hp;assumption
  have hs:=Uh hpo
  have hnext:∀ G:List Nd,G.length≤8 * (i+1)→jQ C ⟨[(12,.int .i64 ((i:Int)+1)),(11,.int .i64 l.length),(10,.ro 6 (l.map Pt.c) e),(5,.sl 0 6 0 G.length G.length false),(2,.ptr 1 0 0)],[(0,.cells 6 (G.map Nd.c) true true),(1,.cells 4 [[.int .u64 x.k,.int .u8 x.t,.str x.x,.ro 1 (x.m.map eS) x.e]] true true)],2⟩ =
   some (.ro 6 ((G++mks x (l.drop (i+1))).map Nd.c) false):=fun G q=>by
    have:=ihn (i+1) (by omega) G q
    simpa using this
  have hfit:(G.length+1) * 105≤35184372088832:=by omega
  rw [drop_cons h1,mks]
  have step:∀ N:Nd,jQ C ⟨[(12,.int .i64 ((i:Int)+1)),(11,.int .i64 l.length),(10,.ro 6 (l.map Pt.c) e),(5,.sl 0 6 0 (G.length+1) (G.length+1) false),(2,.ptr 1 0 0)],[(0,.cells 6 (G.map Nd.c++[N.c]) true true),(1,.cells 4 [[.int .u64 x.k,.int .u8 x.t,.str x.x,.ro 1 (x.m.map eS) x.e]] true true)],2⟩ =
   some (.ro 6 ((G++([N]++mks x (l.drop (i+1)))).map Nd.c) false):=fun N=>by
    have:=hnext (G++[N]) (by simp;omega)
    simpa using this
  rcases Rl hpo with k1 | k1 | k1 | k1 | k1
  · have he:=G6 H.toaek x hk (by omega) l[i] hs.1 (fun s q=>⟨hpf.f s q,hs.2 s q⟩) l[i].y (mks x l[i].ch) false
    have hr:=ih _ (List.getElem_mem h1)
    have:=step (xW x l[i] l[i].y (mks x l[i].ch))
    have hq:mk x l[i]=[xW x l[i] l[i].y (mks x l[i].ch)]:=by rw [mk_eq,if_pos k1]
    rw [hq]
    simp only [jQ] at this ⊢;rw [aj nM.eq_1]
    simp at this
    simp (disch:=omega) [aj ql.eq_1,h1,k1,aI,hfit,he,hr,H.inl,aB,H.pp,ppB,this]
  · have hw:=vJ H.toaek l[i].x
    have:=step (bJ l[i].x)
    have hq:mk x l[i]=[bJ l[i].x]:=by rw [mk_eq,if_neg (by omega),if_pos k1]
    rw [hq]
    simp only [jQ] at this ⊢;rw [aj nM.eq_1]
    simp at this
    simp (disch:=omega) [aj ql.eq_1,h1,k1,aI,hfit,hw,H.inl,aB,H.pp,ppB,this]
  · have hw:=vJ H.toaek x.x
    have:=step (bJ x.x)
    have hq:mk x l[i]=[bJ x.x]:=by rw [mk_eq,if_neg (by omega),if_neg (by omega),if_pos k1]
    rw [hq]
    simp only [jQ] at this ⊢;rw [aj nM.eq_1]
    simp at this
    simp (disch:=omega) [aj ql.eq_1,h1,k1,aI,hfit,hw,H.inl,aB,H.pp,ppB,this]
  · obtain ⟨k,hk2⟩:∃ k:Nat,x.k=k:=⟨x.k.toNat,by omega⟩
    have hd:=KD H.toYT k (by omega)
    have hw:=vJ H.toaek (dec x.k.toNat)
    have:=step (bJ (dec x.k.toNat))
    have hq:mk x l[i]=[bJ (dec x.k.toNat)]:=by rw [mk_eq,if_neg (by omega),if_neg (by omega),if_neg (by omega),if_pos k1]
    rw [hq]
    rw [hk2] at this hw ⊢
    simp only [jQ] at this ⊢;rw [aj nM.eq_1]
    simp at this hw
    simp (disch:=omega) [aj ql.eq_1,h1,k1,aI,hfit,hd,hw,H.inl,aB,H.pp,ppB,this]
  · have:=ad7 H x hk hm l e hl l[i] ⟨hpo,hpf⟩ k1 i h1 hnext x.m.length 0 (by simp) G (by omega)
    have hq:mk x l[i]=x.m.map fun m=>xW x l[i] m [bJ m]:=by rw [mk_eq,if_neg (by omega),if_neg (by omega),if_neg (by omega),if_neg (by omega),if_pos k1]
    rw [hq,← List.append_assoc]
    rw [List.drop_zero] at this
    generalize G++List.map (fun m=>xW x l[i] m [bJ m]) x.m++mks x (l.drop (i+1))=R at *
    simp only [jQ]
    simp only [Es] at this
    rw [aj nM.eq_1]
    simp at this
    simp (disch:=omega) [aj ql.eq_1,h1,k1,aI,H.inl,aB,H.pp,ppB,this]
theorem IJ (H:qA C) (x:It) (hk:0≤x.k∧x.k < 18446744073709551616) (hm:x.m.length≤8) (l:List Pt) (e:Bool) (hl:l.length≤16) (ho:∀ p ∈ l,Okp p)
 (ih:∀ p ∈ l,FnW C 547 [eIt x,.ro 6 (p.ch.map Pt.c) p.ce]=some (.ro 6 ((mks x p.ch).map Nd.c) false)):FnW C 547 [eIt x,.ro 6 (l.map Pt.c) e]=some (.ro 6 ((mks x l).map Nd.c) false):=by
 have h:=XY H x hk hm l e hl ho ih l.length 0 (by simp) [] (by simp)
 simp only [jQ] at h
 simp at h
 rw [aF H.aiE rfl]
 simp [adY,h]
theorem OH (H:qA C) (x:It) (hk:0≤x.k∧x.k < 18446744073709551616) (hm:x.m.length≤8) (p:Pt) (hp:Okp p):FnW C 547 [eIt x,.ro 6 (p.ch.map Pt.c) p.ce]=some (.ro 6 ((mks x p.ch).map Nd.c) false):=by
 have ho:∀ m ∈ p.ch,Okp m:=by cases hp;assumption
 have hl:p.ch.length≤16:=yX (by cases hp;assumption)
 exact IJ H x hk hm p.ch p.ce hl ho fun m q=>OH H x hk hm m (ho m q)
termination_by SizeOf.sizeOf p
decreasing_by
 have:=List.sizeOf_lt_of_mem q
 have:=Pt.xw p
 omega
theorem adJ (H:qA C) (x:It) (hk:0≤x.k∧x.k < 18446744073709551616) (hm:x.m.length≤8) (l:List Pt) (e:Bool) (hl:l.length≤16) (ho:∀ p ∈ l,Okp p) :
 FnW C 547 [eIt x,.ro 6 (l.map Pt.c) e]=some (.ro 6 ((mks x l).map Nd.c) false) :=
 IJ H x hk hm l e hl ho fun m q=>OH H x hk hm m (ho m q)
theorem dF (x:It) (p:Pt) (m:Bs):(iV x p m [bJ m] true).c=[.int .u8 1,.str p.t,.str m,.ro 2 ((p.s.map (bg x)).map eA) false,.str [],.ro 6 [[.int .u8 2,.str [],.str [],.ro 2 [] true,.str m,.ro 6 [] true]] true]:=by
 rw [Nd.dD];simp only [iV,List.map_cons,List.map_nil];rw [Nd.dD];simp [bJ]
theorem afw (H:qA C) (x:It) (hk:0≤x.k∧x.k < 18446744073709551616) (hl8:x.m.length≤8) (p:Pt) (hl:p.s.length≤8) (m1 m2 m3 m4 m5 m6 m7 m8:Bs) (r:List Bs) (hm:x.m=[m1,m2,m3,m4,m5,m6,m7,m8]++r) :
 dh C ⟨[(6,.int .i64 8),(5,.sl 0 6 0 8 8 false),(3,.ptr 9 0 0),(2,.ptr 10 0 0)],[(0,.cells 6 [[.int .u8 1,.str p.t,.str m1,.ro 2 ((p.s.map (bg x)).map eA) false,.str [],.sl 1 6 0 1 1 true],[.int .u8 1,.str p.t,.str m2,.ro 2 ((p.s.map (bg x)).map eA) false,.str [],.sl 2 6 0 1 1 true],[.int .u8 1,.str p.t,.str m3,.ro 2 ((p.s.map (bg x)).map eA) false,.str [],.sl 3 6 0 1 1 true],[.int .u8 1,.str p.t,.str m4,.ro 2 ((p.s.map (bg x)).map eA) false,.str [],.sl 4 6 0 1 1 true],[.int .u8 1,.str p.t,.str m5,.ro 2 ((p.s.map (bg x)).map eA) false,.str [],.sl 5 6 0 1 1 true],[.int .u8 1,.str p.t,.str m6,.ro 2 ((p.s.map (bg x)).map eA) false,.str [],.sl 6 6 0 1 1 true],[.int .u8 1,.str p.t,.str m7,.ro 2 ((p.s.map (bg x)).map eA) false,.str [],.sl 7 6 0 1 1 true],[.int .u8 1,.str p.t,.str m8,.ro 2 ((p.s.map (bg x)).map eA) false,.str [],.sl 8 6 0 1 1 true]] true false),(1,.cells 6 [[.int .u8 2,.str [],.str [],.ro 2 [] true,.str m1,.ro 6 [] true]] true true),(2,.cells 6 [[.int .u8 2,.str [],.str [],.ro 2 [] true,.str m2,.ro 6 [] true]] true true),(3,.cells 6 [[.int .u8 2,.str [],.str [],.ro 2 [] true,.str m3,.ro 6 [] true]] true true),(4,.cells 6 [[.int .u8 2,.str [],.str [],.ro 2 [] true,.str m4,.ro 6 [] true]] true true),(5,.cells 6 [[.int .u8 2,.str [],.str [],.ro 2 [] true,.str m5,.ro 6 [] true]] true true),(6,.cells 6 [[.int .u8 2,.str [],.str [],.ro 2 [] true,.str m6,.ro 6 [] true]] true true),(7,.cells 6 [[.int .u8 2,.str [],.str [],.ro 2 [] true,.str m7,.ro 6 [] true]] true true),(8,.cells 6 [[.int .u8 2,.str [],.str [],.ro 2 [] true,.str m8,.ro 6 [] true]] true true),(9,.cells 4 [[.int .u64 x.k,.int .u8 x.t,.str x.x,.ro 1 (x.m.map eS) x.e]] true true),(10,.cells 6 [p.c] true true)],11⟩ =
  some (.ro 6 (([m1,m2,m3,m4,m5,m6,m7,m8]++r).map fun m=>(iV x p m [bJ m] true).c) false):=by
 simp only [dh];rw [aj jS.eq_1]
 have hxl:x.m.length=8+r.length:=by rw [hm];simp;omega
 cases r with
 | nil =>
  simp at hxl
  simp [aj kR.eq_1,hxl,dF]
 | cons m9 r=>simp at hxl;omega
theorem aeU (H:qA C) (x:It) (hk:0≤x.k∧x.k < 18446744073709551616) (hl8:x.m.length≤8) (p:Pt) (hl:p.s.length≤8) (m1 m2 m3 m4 m5 m6 m7:Bs) (r:List Bs) (hm:x.m=[m1,m2,m3,m4,m5,m6,m7]++r) :
 dh C ⟨[(6,.int .i64 7),(5,.sl 0 6 0 7 7 false),(3,.ptr 8 0 0),(2,.ptr 9 0 0)],[(0,.cells 6 [[.int .u8 1,.str p.t,.str m1,.ro 2 ((p.s.map (bg x)).map eA) false,.str [],.sl 1 6 0 1 1 true],[.int .u8 1,.str p.t,.str m2,.ro 2 ((p.s.map (bg x)).map eA) false,.str [],.sl 2 6 0 1 1 true],[.int .u8 1,.str p.t,.str m3,.ro 2 ((p.s.map (bg x)).map eA) false,.str [],.sl 3 6 0 1 1 true],[.int .u8 1,.str p.t,.str m4,.ro 2 ((p.s.map (bg x)).map eA) false,.str [],.sl 4 6 0 1 1 true],[.int .u8 1,.str p.t,.str m5,.ro 2 ((p.s.map (bg x)).map eA) false,.str [],.sl 5 6 0 1 1 true],[.int .u8 1,.str p.t,.str m6,.ro 2 ((p.s.map (bg x)).map eA) false,.str [],.sl 6 6 0 1 1 true],[.int .u8 1,.str p.t,.str m7,.ro 2 ((p.s.map (bg x)).map eA) false,.str [],.sl 7 6 0 1 1 true]] true false),(1,.cells 6 [[.int .u8 2,.str [],.str [],.ro 2 [] true,.str m1,.ro 6 [] true]] true true),(2,.cells 6 [[.int .u8 2,.str [],.str [],.ro 2 [] true,.str m2,.ro 6 [] true]] true true),(3,.cells 6 [[.int .u8 2,.str [],.str [],.ro 2 [] true,.str m3,.ro 6 [] true]] true true),(4,.cells 6 [[.int .u8 2,.str [],.str [],.ro 2 [] true,.str m4,.ro 6 [] true]] true true),(5,.cells 6 [[.int .u8 2,.str [],.str [],.ro 2 [] true,.str m5,.ro 6 [] true]] true true),(6,.cells 6 [[.int .u8 2,.str [],.str [],.ro 2 [] true,.str m6,.ro 6 [] true]] true true),(7,.cells 6 [[.int .u8 2,.str [],.str [],.ro 2 [] true,.str m7,.ro 6 [] true]] true true),(8,.cells 4 [[.int .u64 x.k,.int .u8 x.t,.str x.x,.ro 1 (x.m.map eS) x.e]] true true),(9,.cells 6 [p.c] true true)],10⟩ =
  some (.ro 6 (([m1,m2,m3,m4,m5,m6,m7]++r).map fun m=>(iV x p m [bJ m] true).c) false):=by
 simp only [dh];rw [aj jS.eq_1]
 have hxl:x.m.length=7+r.length:=by rw [hm];simp;omega
 cases r with
 | nil =>
  simp at hxl
  simp [aj kR.eq_1,hxl,dF]
 | cons m8 r =>
  have h1:7 < x.m.length:=by rw [hxl];simp
  have hg:x.m[7]=m8:=by
   have q:x.m[7]?=some m8:=by rw [hm];simp
   rw [List.getElem?_eq_getElem h1] at q
   exact Option.some.inj q
  have ha:=jq H.toZt x hk (by omega) p.s p.se hl
  have this:=afw H x hk hl8 p hl m1 m2 m3 m4 m5 m6 m7 m8 r (by rw [hm];simp)
  simp only [dh] at this
  simp [dF] at this
  have h2:(7:Int) < x.m.length:=by omega
  simp (disch:=omega) [h1,h2,hg,aI,dF,ha,H.inl,aB,H.pp,ppB,this]
theorem acE (H:qA C) (x:It) (hk:0≤x.k∧x.k < 18446744073709551616) (hl8:x.m.length≤8) (p:Pt) (hl:p.s.length≤8) (m1 m2 m3 m4 m5 m6:Bs) (r:List Bs) (hm:x.m=[m1,m2,m3,m4,m5,m6]++r) :
 dh C ⟨[(6,.int .i64 6),(5,.sl 0 6 0 6 6 false),(3,.ptr 7 0 0),(2,.ptr 8 0 0)],[(0,.cells 6 [[.int .u8 1,.str p.t,.str m1,.ro 2 ((p.s.map (bg x)).map eA) false,.str [],.sl 1 6 0 1 1 true],[.int .u8 1,.str p.t,.str m2,.ro 2 ((p.s.map (bg x)).map eA) false,.str [],.sl 2 6 0 1 1 true],[.int .u8 1,.str p.t,.str m3,.ro 2 ((p.s.map (bg x)).map eA) false,.str [],.sl 3 6 0 1 1 true],[.int .u8 1,.str p.t,.str m4,.ro 2 ((p.s.map (bg x)).map eA) false,.str [],.sl 4 6 0 1 1 true],[.int .u8 1,.str p.t,.str m5,.ro 2 ((p.s.map (bg x)).map eA) false,.str [],.sl 5 6 0 1 1 true],[.int .u8 1,.str p.t,.str m6,.ro 2 ((p.s.map (bg x)).map eA) false,.str [],.sl 6 6 0 1 1 true]] true false),(1,.cells 6 [[.int .u8 2,.str [],.str [],.ro 2 [] true,.str m1,.ro 6 [] true]] true true),(2,.cells 6 [[.int .u8 2,.str [],.str [],.ro 2 [] true,.str m2,.ro 6 [] true]] true true),(3,.cells 6 [[.int .u8 2,.str [],.str [],.ro 2 [] true,.str m3,.ro 6 [] true]] true true),(4,.cells 6 [[.int .u8 2,.str [],.str [],.ro 2 [] true,.str m4,.ro 6 [] true]] true true),(5,.cells 6 [[.int .u8 2,.str [],.str [],.ro 2 [] true,.str m5,.ro 6 [] true]] true true),(6,.cells 6 [[.int .u8 2,.str [],.str [],.ro 2 [] true,.str m6,.ro 6 [] true]] true true),(7,.cells 4 [[.int .u64 x.k,.int .u8 x.t,.str x.x,.ro 1 (x.m.map eS) x.e]] true true),(8,.cells 6 [p.c] true true)],9⟩ =
  some (.ro 6 (([m1,m2,m3,m4,m5,m6]++r).map fun m=>(iV x p m [bJ m] true).c) false):=by
 simp only [dh];rw [aj jS.eq_1]
 have hxl:x.m.length=6+r.length:=by rw [hm];simp;omega
 cases r with
 | nil =>
  simp at hxl
  simp [aj kR.eq_1,hxl,dF]
 | cons m7 r =>
  have h1:6 < x.m.length:=by rw [hxl];simp
  have hg:x.m[6]=m7:=by
   have q:x.m[6]?=some m7:=by rw [hm];simp
   rw [List.getElem?_eq_getElem h1] at q
   exact Option.some.inj q
  have ha:=jq H.toZt x hk (by omega) p.s p.se hl
  have this:=aeU H x hk hl8 p hl m1 m2 m3 m4 m5 m6 m7 r (by rw [hm];simp)
  simp only [dh] at this
  simp [dF] at this
  have h2:(6:Int) < x.m.length:=by omega
  simp (disch:=omega) [h1,h2,hg,aI,dF,ha,H.inl,aB,H.pp,ppB,this]
theorem ada (H:qA C) (x:It) (hk:0≤x.k∧x.k < 18446744073709551616) (hl8:x.m.length≤8) (p:Pt) (hl:p.s.length≤8) (m1 m2 m3 m4 m5:Bs) (r:List Bs) (hm:x.m=[m1,m2,m3,m4,m5]++r) :
 dh C ⟨[(6,.int .i64 5),(5,.sl 0 6 0 5 5 false),(3,.ptr 6 0 0),(2,.ptr 7 0 0)],[(0,.cells 6 [[.int .u8 1,.str p.t,.str m1,.ro 2 ((p.s.map (bg x)).map eA) false,.str [],.sl 1 6 0 1 1 true],[.int .u8 1,.str p.t,.str m2,.ro 2 ((p.s.map (bg x)).map eA) false,.str [],.sl 2 6 0 1 1 true],[.int .u8 1,.str p.t,.str m3,.ro 2 ((p.s.map (bg x)).map eA) false,.str [],.sl 3 6 0 1 1 true],[.int .u8 1,.str p.t,.str m4,.ro 2 ((p.s.map (bg x)).map eA) false,.str [],.sl 4 6 0 1 1 true],[.int .u8 1,.str p.t,.str m5,.ro 2 ((p.s.map (bg x)).map eA) false,.str [],.sl 5 6 0 1 1 true]] true false),(1,.cells 6 [[.int .u8 2,.str [],.str [],.ro 2 [] true,.str m1,.ro 6 [] true]] true true),(2,.cells 6 [[.int .u8 2,.str [],.str [],.ro 2 [] true,.str m2,.ro 6 [] true]] true true),(3,.cells 6 [[.int .u8 2,.str [],.str [],.ro 2 [] true,.str m3,.ro 6 [] true]] true true),(4,.cells 6 [[.int .u8 2,.str [],.str [],.ro 2 [] true,.str m4,.ro 6 [] true]] true true),(5,.cells 6 [[.int .u8 2,.str [],.str [],.ro 2 [] true,.str m5,.ro 6 [] true]] true true),(6,.cells 4 [[.int .u64 x.k,.int .u8 x.t,.str x.x,.ro 1 (x.m.map eS) x.e]] true true),(7,.cells 6 [p.c] true true)],8⟩ =
  some (.ro 6 (([m1,m2,m3,m4,m5]++r).map fun m=>(iV x p m [bJ m] true).c) false):=by
 simp only [dh];rw [aj jS.eq_1]
 have hxl:x.m.length=5+r.length:=by rw [hm];simp;omega
 cases r with
 | nil =>
  simp at hxl
  simp [aj kR.eq_1,hxl,dF]
 | cons m6 r =>
  have h1:5 < x.m.length:=by rw [hxl];simp
  have hg:x.m[5]=m6:=by
   have q:x.m[5]?=some m6:=by rw [hm];simp
   rw [List.getElem?_eq_getElem h1] at q
   exact Option.some.inj q
  have ha:=jq H.toZt x hk (by omega) p.s p.se hl
  have this:=acE H x hk hl8 p hl m1 m2 m3 m4 m5 m6 r (by rw [hm];simp)
  simp only [dh] at this
  simp [dF] at this
  have h2:(5:Int) < x.m.length:=by omega
  simp (disch:=omega) [h1,h2,hg,aI,dF,ha,H.inl,aB,H.pp,ppB,this]
theorem aeR (H:qA C) (x:It) (hk:0≤x.k∧x.k < 18446744073709551616) (hl8:x.m.length≤8) (p:Pt) (hl:p.s.length≤8) (m1 m2 m3 m4:Bs) (r:List Bs) (hm:x.m=[m1,m2,m3,m4]++r) :
 dh C ⟨[(6,.int .i64 4),(5,.sl 0 6 0 4 4 false),(3,.ptr 5 0 0),(2,.ptr 6 0 0)],[(0,.cells 6 [[.int .u8 1,.str p.t,.str m1,.ro 2 ((p.s.map (bg x)).map eA) false,.str [],.sl 1 6 0 1 1 true],[.int .u8 1,.str p.t,.str m2,.ro 2 ((p.s.map (bg x)).map eA) false,.str [],.sl 2 6 0 1 1 true],[.int .u8 1,.str p.t,.str m3,.ro 2 ((p.s.map (bg x)).map eA) false,.str [],.sl 3 6 0 1 1 true],[.int .u8 1,.str p.t,.str m4,.ro 2 ((p.s.map (bg x)).map eA) false,.str [],.sl 4 6 0 1 1 true]] true false),(1,.cells 6 [[.int .u8 2,.str [],.str [],.ro 2 [] true,.str m1,.ro 6 [] true]] true true),(2,.cells 6 [[.int .u8 2,.str [],.str [],.ro 2 [] true,.str m2,.ro 6 [] true]] true true),(3,.cells 6 [[.int .u8 2,.str [],.str [],.ro 2 [] true,.str m3,.ro 6 [] true]] true true),(4,.cells 6 [[.int .u8 2,.str [],.str [],.ro 2 [] true,.str m4,.ro 6 [] true]] true true),(5,.cells 4 [[.int .u64 x.k,.int .u8 x.t,.str x.x,.ro 1 (x.m.map eS) x.e]] true true),(6,.cells 6 [p.c] true true)],7⟩ =
  some (.ro 6 (([m1,m2,m3,m4]++r).map fun m=>(iV x p m [bJ m] true).c) false):=by
 simp only [dh];rw [aj jS.eq_1]
 have hxl:x.m.length=4+r.length:=by rw [hm];simp;omega
 cases r with
 | nil =>
  simp at hxl
  simp [aj kR.eq_1,hxl,dF]
 | cons m5 r =>
  have h1:4 < x.m.length:=by rw [hxl];simp
  have hg:x.m[4]=m5:=by
   have q:x.m[4]?=some m5:=by rw [hm];simp
   rw [List.getElem?_eq_getElem h1] at q
   exact Option.some.inj q
  have ha:=jq H.toZt x hk (by omega) p.s p.se hl
  have this:=ada H x hk hl8 p hl m1 m2 m3 m4 m5 r (by rw [hm];simp)
  simp only [dh] at this
  simp [dF] at this
  have h2:(4:Int) < x.m.length:=by omega
  simp (disch:=omega) [h1,h2,hg,aI,dF,ha,H.inl,aB,H.pp,ppB,this]
theorem acM (H:qA C) (x:It) (hk:0≤x.k∧x.k < 18446744073709551616) (hl8:x.m.length≤8) (p:Pt) (hl:p.s.length≤8) (m1 m2 m3:Bs) (r:List Bs) (hm:x.m=[m1,m2,m3]++r) :
 dh C ⟨[(6,.int .i64 3),(5,.sl 0 6 0 3 3 false),(3,.ptr 4 0 0),(2,.ptr 5 0 0)],[(0,.cells 6 [[.int .u8 1,.str p.t,.str m1,.ro 2 ((p.s.map (bg x)).map eA) false,.str [],.sl 1 6 0 1 1 true],[.int .u8 1,.str p.t,.str m2,.ro 2 ((p.s.map (bg x)).map eA) false,.str [],.sl 2 6 0 1 1 true],[.int .u8 1,.str p.t,.str m3,.ro 2 ((p.s.map (bg x)).map eA) false,.str [],.sl 3 6 0 1 1 true]] true false),(1,.cells 6 [[.int .u8 2,.str [],.str [],.ro 2 [] true,.str m1,.ro 6 [] true]] true true),(2,.cells 6 [[.int .u8 2,.str [],.str [],.ro 2 [] true,.str m2,.ro 6 [] true]] true true),(3,.cells 6 [[.int .u8 2,.str [],.str [],.ro 2 [] true,.str m3,.ro 6 [] true]] true true),(4,.cells 4 [[.int .u64 x.k,.int .u8 x.t,.str x.x,.ro 1 (x.m.map eS) x.e]] true true),(5,.cells 6 [p.c] true true)],6⟩ =
  some (.ro 6 (([m1,m2,m3]++r).map fun m=>(iV x p m [bJ m] true).c) false):=by
 simp only [dh];rw [aj jS.eq_1]
 have hxl:x.m.length=3+r.length:=by rw [hm];simp;omega
 cases r with
 | nil =>
  simp at hxl
  simp [aj kR.eq_1,hxl,dF]
 | cons m4 r =>
  have h1:3 < x.m.length:=by rw [hxl];simp
  have hg:x.m[3]=m4:=by
   have q:x.m[3]?=some m4:=by rw [hm];simp
   rw [List.getElem?_eq_getElem h1] at q
   exact Option.some.inj q
  have ha:=jq H.toZt x hk (by omega) p.s p.se hl
  have this:=aeR H x hk hl8 p hl m1 m2 m3 m4 r (by rw [hm];simp)
  simp only [dh] at this
  simp [dF] at this
  have h2:(3:Int) < x.m.length:=by omega
  simp (disch:=omega) [h1,h2,hg,aI,dF,ha,H.inl,aB,H.pp,ppB,this]
theorem adw (H:qA C) (x:It) (hk:0≤x.k∧x.k < 18446744073709551616) (hl8:x.m.length≤8) (p:Pt) (hl:p.s.length≤8) (m1 m2:Bs) (r:List Bs) (hm:x.m=[m1,m2]++r) :
 dh C ⟨[(6,.int .i64 2),(5,.sl 0 6 0 2 2 false),(3,.ptr 3 0 0),(2,.ptr 4 0 0)],[(0,.cells 6 [[.int .u8 1,.str p.t,.str m1,.ro 2 ((p.s.map (bg x)).map eA) false,.str [],.sl 1 6 0 1 1 true],[.int .u8 1,.str p.t,.str m2,.ro 2 ((p.s.map (bg x)).map eA) false,.str [],.sl 2 6 0 1 1 true]] true false),(1,.cells 6 [[.int .u8 2,.str [],.str [],.ro 2 [] true,.str m1,.ro 6 [] true]] true true),(2,.cells 6 [[.int .u8 2,.str [],.str [],.ro 2 [] true,.str m2,.ro 6 [] true]] true true),(3,.cells 4 [[.int .u64 x.k,.int .u8 x.t,.str x.x,.ro 1 (x.m.map eS) x.e]] true true),(4,.cells 6 [p.c] true true)],5⟩ =
  some (.ro 6 (([m1,m2]++r).map fun m=>(iV x p m [bJ m] true).c) false):=by
 simp only [dh];rw [aj jS.eq_1]
 have hxl:x.m.length=2+r.length:=by rw [hm];simp;omega
 cases r with
 | nil =>
  simp at hxl
  simp [aj kR.eq_1,hxl,dF]
 | cons m3 r =>
  have h1:2 < x.m.length:=by rw [hxl];simp
  have hg:x.m[2]=m3:=by
   have q:x.m[2]?=some m3:=by rw [hm];simp
   rw [List.getElem?_eq_getElem h1] at q
   exact Option.some.inj q
  have ha:=jq H.toZt x hk (by omega) p.s p.se hl
  have this:=acM H x hk hl8 p hl m1 m2 m3 r (by rw [hm];simp)
  simp only [dh] at this
  simp [dF] at this
  have h2:(2:Int) < x.m.length:=by omega
  simp (disch:=omega) [h1,h2,hg,aI,dF,ha,H.inl,aB,H.pp,ppB,this]
theorem aei (H:qA C) (x:It) (hk:0≤x.k∧x.k < 18446744073709551616) (hl8:x.m.length≤8) (p:Pt) (hl:p.s.length≤8) (m1:Bs) (r:List Bs) (hm:x.m=[m1]++r) :
 dh C ⟨[(6,.int .i64 1),(5,.sl 0 6 0 1 1 false),(3,.ptr 2 0 0),(2,.ptr 3 0 0)],[(0,.cells 6 [[.int .u8 1,.str p.t,.str m1,.ro 2 ((p.s.map (bg x)).map eA) false,.str [],.sl 1 6 0 1 1 true]] true false),(1,.cells 6 [[.int .u8 2,.str [],.str [],.ro 2 [] true,.str m1,.ro 6 [] true]] true true),(2,.cells 4 [[.int .u64 x.k,.int .u8 x.t,.str x.x,.ro 1 (x.m.map eS) x.e]] true true),(3,.cells 6 [p.c] true true)],4⟩ =
  some (.ro 6 (([m1]++r).map fun m=>(iV x p m [bJ m] true).c) false):=by
 simp only [dh];rw [aj jS.eq_1]
 have hxl:x.m.length=1+r.length:=by rw [hm];simp;omega
 cases r with
 | nil =>
  simp at hxl
  simp [aj kR.eq_1,hxl,dF]
 | cons m2 r =>
  have h1:1 < x.m.length:=by rw [hxl];simp
  have hg:x.m[1]=m2:=by
   have q:x.m[1]?=some m2:=by rw [hm];simp
   rw [List.getElem?_eq_getElem h1] at q
   exact Option.some.inj q
  have ha:=jq H.toZt x hk (by omega) p.s p.se hl
  have this:=adw H x hk hl8 p hl m1 m2 r (by rw [hm];simp)
  simp only [dh] at this
  simp [dF] at this
  have h2:(1:Int) < x.m.length:=by omega
  simp (disch:=omega) [h1,h2,hg,aI,dF,ha,H.inl,aB,H.pp,ppB,this]
theorem adt (H:qA C) (x:It) (hk:0≤x.k∧x.k < 18446744073709551616) (hl8:x.m.length≤8) (p:Pt) (hl:p.s.length≤8) (r:List Bs) (hm:x.m=r) :
 dh C ⟨[(6,.int .i64 0),(5,.sl 0 6 0 0 0 false),(3,.ptr 1 0 0),(2,.ptr 2 0 0)],[(0,.cells 6 [] true true),(1,.cells 4 [[.int .u64 x.k,.int .u8 x.t,.str x.x,.ro 1 (x.m.map eS) x.e]] true true),(2,.cells 6 [p.c] true true)],3⟩ =
  some (.ro 6 (r.map fun m=>(iV x p m [bJ m] true).c) false):=by
 simp only [dh];rw [aj jS.eq_1]
 have hxl:x.m.length=0+r.length:=by rw [hm];simp
 cases r with
 | nil =>
  simp at hxl
  simp [aj kR.eq_1,hxl,dF]
 | cons m1 r =>
  have h1:0 < x.m.length:=by rw [hxl];simp
  have hg:x.m[0]=m1:=by
   have q:x.m[0]?=some m1:=by rw [hm];simp
   rw [List.getElem?_eq_getElem h1] at q
   exact Option.some.inj q
  have ha:=jq H.toZt x hk (by omega) p.s p.se hl
  have this:=aei H x hk hl8 p hl  m1 r (by rw [hm];simp)
  simp only [dh] at this
  simp [dF] at this
  have h2:(0:Int) < x.m.length:=by omega
  simp (disch:=omega) [h1,h2,hg,aI,dF,ha,H.inl,aB,H.pp,ppB,this]
def mdF (p:Pt):Bool:=decide (p.k≠5)
theorem aeW (H:qA C) (x:It) (hk:0≤x.k∧x.k < 18446744073709551616) (hm:x.m.length≤8) (p:Pt) (hl:p.ch.length≤16)
 (ih:∀ m ∈ p.ch,FnW C 513 [.agg m.c,eIt x]=some (.ro 6 ((md x m).map Nd.c) (mdF m))):∀ n i,n+i=p.ch.length→∀ G:List Nd,G.length≤8 * i →
 ny C ⟨[(8,.int .i64 i),(7,.ptr 0 0 0),(3,.ptr 2 0 0),(2,.ptr 3 0 0)],[(0,.cells 6 [[.int .u8 1,.str p.t,.str p.y,.ro 2 ((p.s.map (bg x)).map eA) false,.str [],.sl 1 6 0 G.length G.length false]] true false),(1,.cells 6 (G.map Nd.c) true true),(2,.cells 4 [[.int .u64 x.k,.int .u8 x.t,.str x.x,.ro 1 (x.m.map eS) x.e]] true true),(3,.cells 6 [p.c] true true)],4⟩ =
  some (.ro 6 [(iV x p p.y (G++mds x (p.ch.drop i)) false).c] true):=by
 intro n
 induction n with
 | zero =>
  intro i hi G hG
  have h1:p.ch.drop i=[]:=List.drop_eq_nil_of_le (by omega)
  have h3:¬ i < p.ch.length:=by omega
  have h4:List.take G.length (List.map Nd.c G)=List.map Nd.c G:=List.take_of_length_le (by simp)
  have hw:(iV x p p.y G false).c=[.int .u8 1,.str p.t,.str p.y,.ro 2 ((p.s.map (bg x)).map eA) false,.str [],.ro 6 (G.map Nd.c) false]:=by rw [Nd.dD];rfl
  rw [h1,mds,List.append_nil,hw]
  simp only [ny];rw [aj nH.eq_1]
  simp (disch:=omega) [aj Ec.eq_1,h3,h4]
 | succ n ihn =>
  intro i hi G hG
  have h1:i < p.ch.length:=by omega
  have hr:=ih _ (List.getElem_mem h1)
  have hlen:=abY x hm p.ch[i]
  have:=ihn (i+1) (by omega) (G++md x p.ch[i]) (by simp;omega)
  have hfit:(G.length+(md x p.ch[i]).length) * 105≤35184372088832:=by omega
  rw [drop_cons h1,mds,← List.append_assoc]
  generalize (iV x p p.y (G++md x p.ch[i]++mds x (List.drop (i+1) p.ch)) false).c=R at *
  by_cases hE:md x p.ch[i]=[]
  · simp only [ny] at this ⊢;rw [aj nH.eq_1]
    simp [hE] at this
    simp (disch:=omega) [h1,aI,hr,hE,H.inl,aB,H.pp,ppB,this]
  · simp only [ny] at this ⊢;rw [aj nH.eq_1]
    simp at this
    simp (disch:=omega) [h1,aI,hr,hE,isE hE,hfit,H.inl,aB,H.pp,ppB,this]
theorem aaQ (H:qA C) (x:It) (hk:0≤x.k∧x.k < 18446744073709551616) (hm:x.m.length≤8) (p:Pt) (hl:p.ch.length≤16)
 (ih:∀ m ∈ p.ch,FnW C 513 [.agg m.c,eIt x]=some (.ro 6 ((md x m).map Nd.c) (mdF m))):∀ n i,n+i=p.ch.length →
 ny C ⟨[(8,.int .i64 i),(7,.ptr 0 0 0),(3,.ptr 1 0 0),(2,.ptr 2 0 0)],[(0,.cells 6 [[.int .u8 1,.str p.t,.str p.y,.ro 2 ((p.s.map (bg x)).map eA) false,.str [],.ro 6 [] true]] true true),(1,.cells 4 [[.int .u64 x.k,.int .u8 x.t,.str x.x,.ro 1 (x.m.map eS) x.e]] true true),(2,.cells 6 [p.c] true true)],3⟩ =
  some (.ro 6 [(iV x p p.y (mds x (p.ch.drop i)) (mds x (p.ch.drop i)).isEmpty).c] true):=by
 intro n
 induction n with
 | zero =>
  intro i hi
  have h1:p.ch.drop i=[]:=List.drop_eq_nil_of_le (by omega)
  have h3:¬ i < p.ch.length:=by omega
  have hw:(iV x p p.y [] true).c=[.int .u8 1,.str p.t,.str p.y,.ro 2 ((p.s.map (bg x)).map eA) false,.str [],.ro 6 [] true]:=by rw [Nd.dD];rfl
  rw [h1,mds,List.isEmpty_nil,hw]
  simp only [ny];rw [aj nH.eq_1]
  simp (disch:=omega) [aj Ec.eq_1,h3]
 | succ n ihn =>
  intro i hi
  have h1:i < p.ch.length:=by omega
  have hr:=ih _ (List.getElem_mem h1)
  have hlen:=abY x hm p.ch[i]
  have hfit:((md x p.ch[i]).length) * 105≤35184372088832:=by omega
  rw [drop_cons h1,mds]
  by_cases hE:md x p.ch[i]=[]
  · have:=ihn (i+1) (by omega)
    rw [hE,List.nil_append]
    generalize (iV x p p.y (mds x (List.drop (i+1) p.ch)) (mds x (List.drop (i+1) p.ch)).isEmpty).c=R at *
    simp only [ny] at this ⊢;rw [aj nH.eq_1]
    simp at this
    simp (disch:=omega) [h1,aI,hr,hE,H.inl,aB,H.pp,ppB,this]
  · have:=aeW H x hk hm p hl ih n (i+1) (by omega) (md x p.ch[i]) (by omega)
    have he:(md x p.ch[i]++mds x (List.drop (i+1) p.ch)).isEmpty=false:=isE (by simp [hE])
    rw [he]
    generalize (iV x p p.y (md x p.ch[i]++mds x (List.drop (i+1) p.ch)) false).c=R at *
    simp only [ny] at this ⊢;rw [aj nH.eq_1]
    simp at this
    simp (disch:=omega) [h1,aI,hr,hE,isE hE,hfit,H.inl,aB,H.pp,ppB,this]
theorem WV (H:qA C) (x:It) (hk:0≤x.k∧x.k < 18446744073709551616) (hm:x.m.length≤8) (p:Pt) (hp:oN p=true)
 (ih:∀ m ∈ p.ch,FnW C 513 [.agg m.c,eIt x]=some (.ro 6 ((md x m).map Nd.c) (mdF m))):FnW C 513 [.agg p.c,eIt x]=some (.ro 6 ((md x p).map Nd.c) (mdF p)):=by
 have hl:=yX hp
 have hs:=Uh hp
 rw [aF H.air rfl,ab1]
 unfold mdF
 have hw:∀ s:Bs,(bJ s).c=[.int .u8 2,.str [],.str [],.ro 2 [] true,.str s,.ro 6 [] true]:=fun s=>by rw [Nd.dD];rfl
 rcases Rl hp with k1 | k1 | k1 | k1 | k1
 · have h:=aaQ H x hk hm p hl ih p.ch.length 0 (by simp)
   have ha:=jq H.toZt x hk (by omega) p.s p.se hs.1
   rw [if_neg (by omega),if_neg (by omega),if_neg (by omega),if_neg (by omega)]
   rw [List.drop_zero] at h
   simp only [List.map_cons,List.map_nil]
   generalize (iV x p p.y (mds x p.ch) (mds x p.ch).isEmpty).c=R at *
   simp only [ny] at h
   simp at h
   simp [PL,aj MS.eq_1,k1,ha,H.inl,aB,H.pp,ppB,h]
 · simp [PL,k1,hw]
 · simp [PL,k1,hw]
 · obtain ⟨k,hk2⟩:∃ k:Nat,x.k=k:=⟨x.k.toNat,by omega⟩
   have hd:=KP H.toYT k (by omega)
   simp [PL,k1,hw,hk2,hd,H.inl,aB,H.pp,ppB]
 · have h:=adt H x hk hm p hs.1 x.m rfl
   rw [if_neg (by omega),if_neg (by omega),if_neg (by omega),if_pos k1,List.map_map]
   have hq:(Nd.c ∘ fun m=>iV x p m [bJ m] true)=fun m=>(iV x p m [bJ m] true).c:=rfl
   rw [hq]
   generalize List.map (fun m=>(iV x p m [bJ m] true).c) x.m=R at *
   simp only [dh] at h
   simp [PL,k1,h]
theorem UH (H:qA C) (x:It) (hk:0≤x.k∧x.k < 18446744073709551616) (hm:x.m.length≤8) (p:Pt) (hp:Okp p):FnW C 513 [.agg p.c,eIt x]=some (.ro 6 ((md x p).map Nd.c) (mdF p)):=by
 have ho:∀ m ∈ p.ch,Okp m:=by cases hp;assumption
 exact WV H x hk hm p (by cases hp;assumption) fun m q=>UH H x hk hm m (ho m q)
termination_by SizeOf.sizeOf p
decreasing_by
 have:=List.sizeOf_lt_of_mem q
 have:=Pt.xw p
 omega
theorem UF {x:It} (h:zK x=true):x.m.length≤8:=by
 unfold zK at h
 simp at h
 exact h.2.1
theorem Ws (H:qA C) (p:Pt) (hf:fH p) (x:It) (hk:0≤x.k∧x.k < 18446744073709551616) (most:Int) :
 FnW C 501 [.agg p.c,eIt x,.int .i64 most]=some (.tup [.agg (BK p x most).c,.int .i64 (lK p x most)]):=by
 have hz:zN.c=[.int .u8 0,.str [],.str [],.ro 2 [] true,.str [],.ro 6 [] true]:=by rw [Nd.dD];rfl
 have hc:=Jg H.toDJ p
 have hi:=Ym H.toabH x
 rw [aF H.ahK rfl]
 unfold BK lK
 by_cases c1:most < 1
 · simp [Hz,c1,hz]
 · by_cases c2:64 < most
   · simp [Hz,c1,c2,hz]
   · by_cases c3:oO p=0
     · rw [c3] at hc
       simp at hc
       simp [Hz,c1,c2,c3,hc,hz,H.inl,aB,H.pp,ppB]
     · rw [if_neg c3] at hc
       cases c4:zK x
       · rw [c4] at hi
         simp at hi
         simp [Hz,c1,c2,c3,hc,hi,hz,H.inl,aB,H.pp,ppB]
       · rw [c4] at hi
         simp at hi
         have hk1:=abt c3
         have hmk:=adJ H x hk (UF c4) [p] true (by simp) (by simpa using Gg hf c3)
         have hq:mks x [p]=[mkN x p]:=by unfold mkN;rw [mks,mks,mk_eq,if_pos hk1];rfl
         rw [hq] at hmk
         have hn:=Pj H.toQF (mkN x p)
         generalize hN:mkN x p=N at *
         generalize cnt N=K at *
         simp at hmk
         by_cases c5:K=0
         · subst c5
           simp [Hz,c1,c2,c3,hc,hi,hz,hmk,hn,H.inl,aB,H.pp,ppB]
         · by_cases c6:most < K
           · simp [Hz,c1,c2,c3,hc,hi,hz,hmk,hn,c5,c6,H.inl,aB,H.pp,ppB]
           · simp [Hz,c1,c2,c3,hc,hi,hz,hmk,hn,c5,c6,H.inl,aB,H.pp,ppB]
theorem GH (H:qA C) (p:Pt) (hf:fH p) (x:It) (hk:0≤x.k∧x.k < 18446744073709551616) (most:Int) :
 FnW C 425 [.agg p.c,eIt x,.int .i64 most]=some (.tup [.agg (OT p x most).c,.int .i64 (lK p x most)]):=by
 have hz:zN.c=[.int .u8 0,.str [],.str [],.ro 2 [] true,.str [],.ro 6 [] true]:=by rw [Nd.dD];rfl
 have hc:=TN H.toL6 p hf
 have hi:=aby H.toabH x
 rw [aF H.aic rfl]
 unfold OT lK
 by_cases c1:most < 1
 · simp [H7,c1,hz]
 · by_cases c2:64 < most
   · simp [H7,c1,c2,hz]
   · by_cases c3:oO p=0
     · rw [c3] at hc
       simp at hc
       simp [H7,c1,c2,c3,hc,hz,H.inl,aB,H.pp,ppB]
     · rw [if_neg c3] at hc
       cases c4:zK x
       · rw [c4] at hi
         simp at hi
         simp [H7,c1,c2,c3,hc,hi,hz,H.inl,aB,H.pp,ppB]
       · rw [c4] at hi
         simp at hi
         have hk1:=abt c3
         have ho:=Gg hf c3
         have hmk:=UH H x hk (UF c4) p ho
         have hq:md x p=[mdN x p]:=by unfold mdN;rw [ab1,if_neg (by omega),if_neg (by omega),if_neg (by omega),if_neg (by omega)];rfl
         rw [hq] at hmk
         have hn:=IE H.toOC (mdN x p)
         have hn2:=IC H.toOC (mdN x p)
         have hcz:cnt (mkN x p)=cnt (mdN x p):=by rw [← UK,afD x p ho,UK]
         rw [hcz]
         generalize hN:mdN x p=N at *
         generalize cnt N=K at *
         simp at hmk
         by_cases c5:K=0
         · subst c5
           simp at hn2
           simp [H7,c1,c2,c3,hc,hi,hz,hmk,hn,hn2,H.inl,aB,H.pp,ppB]
         · simp [c5] at hn2
           by_cases c6:most < K
           · simp [H7,c1,c2,c3,hc,hi,hz,hmk,hn,hn2,c5,c6,H.inl,aB,H.pp,ppB]
           · simp [H7,c1,c2,c3,hc,hi,hz,hmk,hn,hn2,c5,c6,H.inl,aB,H.pp,ppB]
end Go.D
end
section
namespace Go.D
open Go Go.Pav Go.Pw P
structure Kd where
 p:Pt
 b:Int
 st:Bool
 pl:Int
structure En where
 i:It
 s:Int
 kn:Bool
@[simp] def eKd (k:Kd):List AV:=[.int .u8 k.p.k,.str k.p.t,.str k.p.y,.ro 3 (k.p.s.map eSl) k.p.se,.str k.p.x,.ro 6 (k.p.ch.map Pt.c) k.p.ce,.int .i64 k.b,.bool k.st,.int .i64 k.pl]
@[simp] def cIt (i:It):List AV:=[.int .u64 i.k,.int .u8 i.t,.str i.x,.ro 1 (i.m.map eS) i.e]
@[simp] def eEn (e:En):List AV:=[.int .u64 e.i.k,.int .u8 e.i.t,.str e.i.x,.ro 1 (e.i.m.map eS) e.i.e,.int .i64 e.s,.bool e.kn]
abbrev aR (ks:List Kd) (ke:Bool) (cap:Int):AV:=.agg [.ro 9 (ks.map eKd) ke,.int .i64 cap]
abbrev aL (l:List En) (e:Bool):AV:=.agg [.ro 6 (l.map eEn) e]
abbrev aE (e:En):AV:=.agg (eEn e)
structure QX (i:It):Prop where
 k:0≤i.k∧i.k < 18446744073709551616
 t:0≤i.t∧i.t≤255
 m:i.m.length≤1000000
structure Ie (e:En):Prop where
 i:QX e.i
 s:-9223372036854775808≤e.s∧e.s≤9223372036854775807
structure Ig (ks:List Kd):Prop where
 n:ks.length≤1000000
 f:∀ k ∈ ks,fH k.p
def hOk (n:Int):Bool:=decide (1≤n)&&decide (n≤2305843009213693952)
def O5 (k:Kd):Bool:=hOk k.b&&decide (oO k.p≠0)
def VL (ks:List Kd) (cap:Int):Bool:=decide (1≤ks.length)&&decide (ks.length≤8)&&decide (1≤cap)&&decide (cap≤64)&&ks.all O5
def zP:Pt:=⟨0,[],[],[],true,[],[],true⟩
def jK (ks:List Kd) (t:Int):Kd:=(ks[t.toNat]?).getD ⟨zP,0,false,0⟩
def itE (ks:List Kd) (cap:Int) (x:It) (seen:Bool):Int :=
 if yC ks.length x=false then 6 else if seen=true then 8 else if lK (jK ks x.t).p x cap=0 then 0 else 14
def enE (ks:List Kd) (cap:Int) (e:En) (seen:Bool):Int :=
 if itE ks cap e.i seen≠0 then itE ks cap e.i seen else if hOk e.s=true∧(e.kn=true∨e.s=(jK ks e.i.t).b) then 0 else 12
def chk (ks:List Kd) (cap:Int):List Int→List En→Int
 | _,[]=>0
 | seen,e::r=>if enE ks cap e (seen.contains e.i.k)≠0 then enE ks cap e (seen.contains e.i.k) else chk ks cap (seen++[e.i.k]) r
def yB:Int→List En→Int
 | sum,[]=>sum
 | sum,e::r=>if 4611686018427387904 - sum < imax e.s 0 then 4611686018427387905 else yB (sum+imax e.s 0) r
def tot (l:List En):Int:=yB 0 l
def ovE (l:List En):Int:=if 4611686018427387904 < tot l then 13 else 0
def ckE (ks:List Kd) (cap:Int) (l:List En):Int :=
 if VL ks cap=false then 7 else if 1024 < l.length then 3 else if chk ks cap [] l≠0 then chk ks cap [] l else ovE l
def It.own (i:It):It:={ i with e:=true }
def En.own (e:En):En:={ e with i:=e.i.own }
def fre (ks:List Kd) (x:It):En:=⟨x,(jK ks x.t).b,false⟩
end Go.D
end
section
end
section
namespace Go.D
open Go Go.Pav Go.Pw P
attribute [-simp] List.getElem_cons_drop
variable {C:aG}
structure DI (C:aG):Prop extends oG C where
 f225:C.fns.get 225=some aer
 f111:C.fns.get 111=some acU
 f227:C.fns.get 227=some acH
 aiW:C.fns.get 402=some adn
 ag1:C.fns.get 400=some ZF
 ahc:C.fns.get 504=some ach
 agA:C.fns.get 407=some acA
 f240:C.fns.get 240=some ae7
 ah4:C.fns.get 423=some acB
theorem II (H:DI C) (n:Int):FnW C 225 [.int .i64 n]=some (.bool (hOk n)):=by
 rw [aF H.f225 rfl]
 unfold hOk
 by_cases c1:1≤n <;> by_cases c2:n≤2305843009213693952 <;> simp [aer,c1,c2]
theorem Va (s:Int) (h1:-9223372036854775808≤s) (h2:s≤9223372036854775807):0≤imax s 0∧imax s 0≤9223372036854775807:=by
 unfold imax;split <;> omega
theorem aat (H:DI C) (l:List En) (e:Bool) (hl:l.length≤1000000) (hs:∀ x ∈ l,-9223372036854775808≤x.s∧x.s≤9223372036854775807):∀ n i,n+i=l.length→∀ sum:Int,0≤sum→sum≤4611686018427387904 →
 Bd C ⟨[(10,.int .i64 i),(9,.int .i64 l.length),(8,.ro 6 (l.map eEn) e),(3,.int .i64 sum)],[],0⟩=some (.int .i64 (yB sum (l.drop i))):=by
 intro n
 induction n with
 | zero =>
  intro i hi sum s1 s2
  simp only [Bd];rw [aj wV.eq_1]
  have h1:l.drop i=[]:=List.drop_eq_nil_of_le (by omega)
  have h3:¬ i < l.length:=by omega
  simp [aj LW.eq_1,h1,h3,yB]
 | succ n ih =>
  intro i hi sum s1 s2
  have h1:i < l.length:=by omega
  have hb:=Va l[i].s (hs _ (List.getElem_mem h1)).1 (hs _ (List.getElem_mem h1)).2
  rw [drop_cons h1,yB]
  generalize hM:imax l[i].s 0=M at *
  by_cases c:4611686018427387904 - sum < M
  · rw [if_pos c]
    simp only [Bd];rw [aj wV.eq_1]
    simp (disch:=omega) [h1,aI,hM,c]
  · rw [if_neg c]
    have:=ih (i+1) (by omega) (sum+M) (by omega) (by omega)
    simp only [Bd] at this ⊢;rw [aj wV.eq_1]
    simp at this
    simp (disch:=omega) [h1,aI,hM,c,this]
theorem Ns (H:DI C) (l:List En) (e:Bool) (hl:l.length≤1000000) (hs:∀ x ∈ l,-9223372036854775808≤x.s∧x.s≤9223372036854775807):FnW C 111 [aL l e]=some (.int .i64 (tot l)):=by
 have h:=aat H l e hl hs l.length 0 (by simp) 0 (by omega) (by omega)
 simp only [Bd] at h
 simp at h
 rw [aF H.f111 rfl]
 unfold tot
 simp [acU,h]
theorem Y2 (H:DI C) (l:List En) (e:Bool) (hl:l.length≤1000000) (hs:∀ x ∈ l,Ie x):FnW C 111 [aL l e]=some (.int .i64 (tot l)):=Ns H l e hl fun x hx=>(hs x hx).s
theorem Zw (H:DI C) (l:List En) (e:Bool) (hl:l.length≤1000000) (hs:∀ x ∈ l,Ie x):FnW C 227 [aL l e]=some (.int .i64 (ovE l)):=by
 have h:=Y2 H l e hl hs
 rw [aF H.f227 rfl]
 unfold ovE
 by_cases c:4611686018427387904 < tot l <;> simp [acH,h,H.inl,aB,H.pp,ppB,c]
theorem Xn (H:DI C) (l:List En) (e:Bool) (hl:l.length≤1000000) (hs:∀ x ∈ l,-9223372036854775808≤x.s∧x.s≤9223372036854775807):∀ n i,n+i=l.length→∀ sum:Int,0≤sum→sum≤4611686018427387904 →
 xH C ⟨[(4,.int .i64 i),(3,.int .u64 sum),(0,.ro 6 (l.map eEn) e)],[],0⟩=some (.int .i64 (yB sum (l.drop i))):=by
 intro n
 induction n with
 | zero =>
  intro i hi sum s1 s2
  simp only [xH];rw [aj sD.eq_1]
  have h1:l.drop i=[]:=List.drop_eq_nil_of_le (by omega)
  have h3:¬ i < l.length:=by omega
  simp (disch:=omega) [aj Og.eq_1,h1,h3,yB,aI]
 | succ n ih =>
  intro i hi sum s1 s2
  have h1:i < l.length:=by omega
  have hx:=hs _ (List.getElem_mem h1)
  have hb:=Va l[i].s hx.1 hx.2
  rw [drop_cons h1,yB]
  by_cases p:0 < l[i].s
  · rw [NW (by omega:(0:Int)≤l[i].s)] at *
    by_cases c:4611686018427387904 - sum < l[i].s
    · rw [if_pos c]
      have c':4611686018427387904 < sum+l[i].s:=by omega
      simp only [xH];rw [aj sD.eq_1]
      simp (disch:=omega) [h1,aI,sG,p,c']
    · rw [if_neg c]
      have c':¬ 4611686018427387904 < sum+l[i].s:=by omega
      have:=ih (i+1) (by omega) (sum+l[i].s) (by omega) (by omega)
      simp only [xH] at this ⊢;rw [aj sD.eq_1]
      simp at this
      simp (disch:=omega) [h1,aI,sG,p,c',this]
  · rw [Zm (by omega:l[i].s≤(0:Int)),if_neg (by omega),Int.add_zero]
    have c':¬ 4611686018427387904 < sum:=by omega
    have:=ih (i+1) (by omega) sum (by omega) (by omega)
    simp only [xH] at this ⊢;rw [aj sD.eq_1]
    simp at this
    simp (disch:=omega) [h1,aI,sG,p,c',this]
theorem YI (H:DI C) (l:List En) (e:Bool) (hl:l.length≤1000000) (hs:∀ x ∈ l,-9223372036854775808≤x.s∧x.s≤9223372036854775807):FnW C 504 [.ro 6 (l.map eEn) e]=some (.int .i64 (tot l)):=by
 have h:=Xn H l e hl hs l.length 0 (by simp) 0 (by omega) (by omega)
 simp only [xH] at h
 simp at h
 rw [aF H.ahc rfl]
 unfold tot
 simp [ach,h]
def QB (k:Int):Nat→List It→Int
 | _,[]=>-1
 | i,x::r=>if x.k=k then i else QB k (i+1) r
theorem SH (H:DI C) (l:List It) (e:Bool) (k:Int) (hl:l.length≤1000000):∀ n i,n+i=l.length →
 zT C ⟨[(5,.int .i64 i),(1,.int .u64 k),(0,.ro 4 (l.map cIt) e)],[],0⟩=some (.int .i64 (QB k i (l.drop i))):=by
 intro n
 induction n with
 | zero =>
  intro i hi
  simp only [zT];rw [aj vW.eq_1]
  have h1:l.drop i=[]:=List.drop_eq_nil_of_le (by omega)
  have h3:¬ i < l.length:=by omega
  simp (disch:=omega) [aj NG.eq_1,h1,h3,QB]
 | succ n ih =>
  intro i hi
  have h1:i < l.length:=by omega
  have:=ih (i+1) (by omega)
  rw [drop_cons h1,QB]
  by_cases c:l[i].k=k
  · rw [if_pos c]
    simp only [zT];rw [aj vW.eq_1]
    simp (disch:=omega) [h1,aI,c]
  · rw [if_neg c]
    simp only [zT] at this ⊢;rw [aj vW.eq_1]
    simp at this
    simp (disch:=omega) [h1,aI,c,this]
theorem abR (H:DI C) (l:List It) (e:Bool) (k:Int) (hl:l.length≤1000000):FnW C 423 [.ro 4 (l.map cIt) e,.int .u64 k]=some (.int .i64 (QB k 0 l)):=by
 have h:=SH H l e k hl l.length 0 (by simp)
 simp only [zT] at h
 simp at h
 rw [aF H.ah4 rfl]
 simp [acB,h]
end Go.D
end
section
namespace Go.D
open Go Go.Pav Go.Pw P
attribute [-simp] List.getElem_cons_drop
variable {C:aG}
section
variable {β:Type} {base:Nat} {fin:Ex × WSt→Option β} {K:List Pw.Frame} {a:Ann} {l:List aK} {d:Option Nat} {e:Env} {n:Nat}
end
end Go.D
end
section
namespace Go.D
open Go Go.Pav Go.Pw P
attribute [-simp] List.getElem_cons_drop
variable {C:aG}
structure DL (C:aG):Prop extends qA C,DI C where
 ah3:C.fns.get 399=some aeV
 f230:C.fns.get 230=some XU
 ag5:C.fns.get 405=some afi
 f232:C.fns.get 232=some ab4
 f115:C.fns.get 115=some JQ
 f271:C.fns.get 271=some Uc
 f223:C.fns.get 223=some XC
theorem jf {ks:List Kd} {t:Nat} (h:t < ks.length):jK ks t=ks[t]:=by
 unfold jK;simp [h]
theorem abM {n:Int} {x:It} (h:yC n x=true):x.t < n:=by
 unfold yC at h;simp at h;exact h.1.1.2
theorem FT (H:DL C) (ks:List Kd) (ke:Bool) (cap:Int) (x:It) (hx:QX x) (ht:x.t < ks.length) (hr:Ig ks) :
 FnW C 399 [aR ks ke cap,eIt x]=some (.tup [.agg (BK (jK ks x.t).p x cap).c,.int .i64 (lK (jK ks x.t).p x cap)]):=by
 obtain ⟨t,hT⟩:∃ t:Nat,x.t=t:=⟨x.t.toNat,by have:=hx.t;omega⟩
 have h1:t < ks.length:=by omega
 have h:=Ws H.toqA ks[t].p (hr.f _ (List.getElem_mem h1)) x hx.k cap
 rw [hT,jf h1]
 rw [aF H.ah3 rfl]
 generalize (BK ks[t].p x cap)=N at *
 generalize lK ks[t].p x cap=E at *
 rw [Pt.dD] at h
 simp only [eIt,hT] at h
 simp (disch:=omega) [aeV,hT,h1,h,H.inl,aB,H.pp,ppB]
theorem agy (H:DL C) (k:Kd):FnW C 230 [.agg (eKd k)]=some (.bool (!O5 k)):=by
 have h1:=II H.toDI k.b
 have h2:=Jg H.toDJ k.p
 rw [Pt.dD] at h2
 rw [aF H.f230 rfl]
 unfold O5
 generalize hOk k.b=X at *
 cases X
 · simp [XU,h1,H.inl,aB,H.pp,ppB]
 · by_cases c:oO k.p=0
   · simp [c] at h2
     simp [XU,h1,h2,c,H.inl,aB,H.pp,ppB]
   · simp [c] at h2
     simp [XU,h1,h2,c,H.inl,aB,H.pp,ppB]
theorem Ou (H:DL C) (ks:List Kd) (e:Bool) (hl:ks.length≤1000000):∀ n i,n+i=ks.length →
 ∃ v:Int,yZ C ⟨[(8,.int .i64 i),(7,.int .i64 ks.length),(1,.fn 230 []),(0,.ro 9 (ks.map eKd) e)],[],0⟩=some (.int .i64 v)∧decide (v < 0)=(ks.drop i).all O5:=by
 intro n
 induction n with
 | zero =>
  intro i hi
  simp only [yZ];rw [aj vX.eq_1]
  have h1:ks.drop i=[]:=List.drop_eq_nil_of_le (by omega)
  have h3:¬ i < ks.length:=by omega
  exact ⟨-1,by simp (disch:=omega) [aj LQ.eq_1,h1,h3],by simp [h1]⟩
 | succ n ih =>
  intro i hi
  have h1:i < ks.length:=by omega
  have hb:=agy H ks[i]
  simp only [eKd] at hb
  rw [drop_cons h1]
  cases c:O5 ks[i]
  · refine ⟨i,?_,by simp [c]⟩
    rw [c] at hb
    simp only [yZ];rw [aj vX.eq_1]
    simp (disch:=omega) [h1,hb,H.inl,aB,H.pp,ppB]
  · obtain ⟨v,hv,hq⟩:=ih (i+1) (by omega)
    refine ⟨v,?_,by simp [hq,c]⟩
    rw [c] at hb
    simp only [yZ] at hv ⊢;rw [aj vX.eq_1]
    simp at hv
    simp (disch:=omega) [h1,aI,hb,H.inl,aB,H.pp,ppB,hv]
theorem Nw (H:DL C) (ks:List Kd) (e:Bool) (hl:ks.length≤1000000):FnW C 232 [.ro 9 (ks.map eKd) e,.fn 230 []]=some (.bool (!ks.all O5)):=by
 obtain ⟨v,h,q⟩:=Ou H ks e hl ks.length 0 (by simp)
 simp only [yZ] at h
 simp at h
 have h2:FnW C 405 [.ro 9 (ks.map eKd) e,.fn 230 []]=some (.int .i64 v):=by
  rw [aF H.ag5 rfl]
  simp [afi,h]
 rw [aF H.f232 rfl]
 rw [List.drop_zero] at q
 rw [← q]
 by_cases c:v < 0
 · have c':¬ 0≤v:=by omega
   simp [ab4,H.inl,aB,H.pp,ppB,h2,c,c']
 · have c':0≤v:=by omega
   simp [ab4,H.inl,aB,H.pp,ppB,h2,c,c']
theorem ab5 (H:DL C) (ks:List Kd) (ke:Bool) (cap:Int) (hr:Ig ks):FnW C 115 [aR ks ke cap]=some (.int .i64 (if VL ks cap=true then 0 else 7)):=by
 have h:=Nw H ks ke hr.n
 have hl:=hr.n
 rw [aF H.f115 rfl]
 unfold VL
 by_cases c1:1≤ks.length
 · have c1':¬ ((ks.length:Int) < 1):=by omega
   by_cases c2:ks.length≤8
   · have c2':¬ (8 < (ks.length:Int)):=by omega
     by_cases c3:1≤cap
     · have c3':¬ cap < 1:=by omega
       by_cases c4:cap≤64
       · have c4':¬ 64 < cap:=by omega
         cases c5:ks.all O5
         · rw [c5] at h
           simp [JQ,c1,c1',c2,c2',c3,c3',c4,c4',h,H.inl,aB,H.pp,ppB]
         · rw [c5] at h
           simp [JQ,c1,c1',c2,c2',c3,c3',c4,c4',h,H.inl,aB,H.pp,ppB]
       · have c4':64 < cap:=by omega
         simp [JQ,c1,c1',c2,c2',c3,c3',c4,c4']
     · have c3':cap < 1:=by omega
       simp [JQ,c1,c1',c2,c2',c3,c3']
   · have c2':(8 < (ks.length:Int)):=by omega
     simp [JQ,c1,c1',c2,c2']
 · have c1':((ks.length:Int) < 1):=by omega
   simp [JQ,c1,c1']
theorem Om (H:DL C) (ks:List Kd) (ke:Bool) (cap:Int) (x:It) (hx:QX x) (hr:Ig ks) (seen:Bool) :
 FnW C 271 [aR ks ke cap,eIt x,.int .i64 (if seen=true then 1 else 0)]=some (.int .i64 (itE ks cap x seen)):=by
 have hc:=VP H.toOL x ks.length hx.t hx.m
 rw [aF H.f271 rfl]
 unfold itE
 cases c1:yC ks.length x
 · rw [c1] at hc
   simp at hc
   simp [Uc,hc,H.inl,aB,H.pp,ppB]
 · rw [c1] at hc
   cases seen
   · have ht:=abM c1
     obtain ⟨t,hT⟩:∃ t:Nat,x.t=t:=⟨x.t.toNat,by have:=hx.t;omega⟩
     have h1:t < ks.length:=by omega
     have h:=GH H.toqA ks[t].p (hr.f _ (List.getElem_mem h1)) x hx.k cap
     rw [hT,jf h1]
     have hE:0≤lK ks[t].p x cap:=by unfold lK;repeat (first | omega | split)
     generalize (OT ks[t].p x cap)=N at *
     generalize lK ks[t].p x cap=E at *
     rw [Pt.dD] at h
     simp only [eIt,hT] at h hc
     by_cases c:E=0
     · subst c
       simp at hc
       simp (disch:=omega) [Uc,hc,hT,h1,h,H.inl,aB,H.pp,ppB]
     · have c':0 < E:=by omega
       simp at hc
       simp (disch:=omega) [Uc,hc,hT,h1,h,c,c',H.inl,aB,H.pp,ppB]
   · simp at hc
     simp [Uc,hc,H.inl,aB,H.pp,ppB]
def TY (s:List Int):List (AV × AV):=s.map fun k=>(.int .u64 k,.bool true)
theorem abJ:TY []=[]:=rfl
theorem Oy (k:Int):∀ s:List Int,lI (TY s) (.int .u64 k)=some (if s.contains k=true then some (.bool true) else none)
 | []=>rfl
 | a::r=>by
  have ih:=Oy k r
  unfold TY at ih ⊢
  rw [List.map_cons,lI]
  simp only [iK,if_true,ob]
  by_cases c:k=a
  · subst c;simp
  · simp [c,ih]
theorem Qx (k:Int):∀ s:List Int,s.contains k=false→lT (TY s) (.int .u64 k) (.bool true)=some (TY (s++[k]))
 | [],_=>rfl
 | a::r,h=>by
  simp at h
  have ih:=Qx k r (by simpa using h.2)
  unfold TY at ih ⊢
  rw [List.map_cons,lT]
  simp only [iK,if_true,ob]
  simp [h.1,ih,om]
abbrev jI (l:List En):List Int:=l.map fun e=>e.i.k
theorem QH (H:DL C) (ks:List Kd) (ke:Bool) (cap:Int) (hr:Ig ks) (l:List En) (e:Bool) (hl:l.length≤1000000) (hs:∀ x ∈ l,Ie x):∀ n i,n+i=l.length→∀ seen:List Int,
 lX C ⟨[(25,.int .i64 i),(24,.int .i64 l.length),(23,.ro 6 (l.map eEn) e),(6,.map 0),(3,.ptr 1 0 0),(2,.ptr 2 0 0)],[(0,.map (TY seen)),(1,.cells 1 [[.ro 6 (l.map eEn) e]] true true),(2,.cells 2 [[.ro 9 (ks.map eKd) ke,.int .i64 cap]] true true)],3⟩ =
  some (.int .i64 (if chk ks cap seen (l.drop i)≠0 then chk ks cap seen (l.drop i) else ovE l)):=by
 intro n
 induction n with
 | zero =>
  intro i hi seen
  have ht:=Zw H.toDI l e hl hs
  simp only [lX];rw [aj kN.eq_1]
  have h1:l.drop i=[]:=List.drop_eq_nil_of_le (by omega)
  have h3:¬ i < l.length:=by omega
  simp (disch:=omega) [aj NT.eq_1,h1,h3,chk,ht,H.inl,aB,H.pp,ppB]
 | succ n ih =>
  intro i hi seen
  have h1:i < l.length:=by omega
  have hx:=hs _ (List.getElem_mem h1)
  have hc:=Wu H.toOL l[i].i ks.length hx.i.t
  have hg:=Oy l[i].i.k seen
  rw [drop_cons h1,chk]
  cases c1:yC ks.length l[i].i
  · have hE:enE ks cap l[i] (seen.contains l[i].i.k)=6:=by unfold enE itE;simp [c1]
    rw [hE]
    rw [c1] at hc
    simp at hc
    simp only [lX];rw [aj kN.eq_1]
    simp (disch:=omega) [h1,hc,H.inl,aB,H.pp,ppB]
  · rw [c1] at hc
    simp at hc
    cases c2:seen.contains l[i].i.k
    · have ht:=abM c1
      obtain ⟨t,hT⟩:∃ t:Nat,l[i].i.t=t:=⟨l[i].i.t.toNat,by have:=hx.i.t;omega⟩
      have h2:t < ks.length:=by omega
      have hp:=Qx l[i].i.k seen c2
      have hre:=FT H ks ke cap l[i].i hx.i ht hr
      have hh:=II H.toDI l[i].s
      have this:=ih (i+1) (by omega) (seen++[l[i].i.k])
      rw [c2] at hg
      simp only [aR,eIt] at hre
      have hk:=jf h2
      have hE:enE ks cap l[i] false=if lK ks[t].p l[i].i cap=0 then (if hOk l[i].s=true∧(l[i].kn=true∨l[i].s=ks[t].b) then 0 else 12) else 14:=by
       unfold enE itE
       rw [c1,hT,hk]
       by_cases q:lK ks[t].p l[i].i cap=0 <;> simp [q]
      simp only [eIt,hT,hk] at hc hre
      generalize BK ks[t].p l[i].i cap=N at *
      generalize lK ks[t].p l[i].i cap=E at *
      by_cases c3:E=0
      · subst c3
        cases c4:hOk l[i].s
        · rw [c4] at hh
          have hE':enE ks cap l[i] false=12:=by rw [hE];simp [c4]
          rw [hE']
          simp only [lX];rw [aj kN.eq_1]
          simp (disch:=omega) [h1,h2,hT,hc,hg,hp,hre,hh,H.inl,aB,H.pp,ppB]
        · rw [c4] at hh
          cases c5:l[i].kn
          · by_cases c6:l[i].s=ks[t].b
            · have hE':enE ks cap l[i] false=0:=by rw [hE,if_pos rfl,if_pos ⟨c4,.inr c6⟩]
              rw [hE']
              simp only [lX] at this ⊢;rw [aj kN.eq_1]
              generalize chk ks cap (seen++[l[i].i.k]) (List.drop (i+1) l)=Z at *
              simp at this
              simp (disch:=omega) [h1,h2,hT,hc,hg,hp,hre,hh,c5,eq_true c6,aI,H.inl,aB,H.pp,ppB,this]
            · have hE':enE ks cap l[i] false=12:=by rw [hE];simp [c5,c6]
              rw [hE']
              simp only [lX];rw [aj kN.eq_1]
              simp (disch:=omega) [h1,h2,hT,hc,hg,hp,hre,hh,c5,c6,H.inl,aB,H.pp,ppB]
          · have hE':enE ks cap l[i] false=0:=by rw [hE];simp [c4,c5]
            rw [hE']
            simp only [lX] at this ⊢;rw [aj kN.eq_1]
            generalize chk ks cap (seen++[l[i].i.k]) (List.drop (i+1) l)=Z at *
            simp at this
            simp (disch:=omega) [h1,h2,hT,hc,hg,hp,hre,hh,c5,aI,H.inl,aB,H.pp,ppB,this]
      · have hE':enE ks cap l[i] false=14:=by rw [hE];simp [c3]
        rw [hE']
        simp only [lX];rw [aj kN.eq_1]
        simp (disch:=omega) [h1,h2,hT,hc,hg,hp,hre,c3,H.inl,aB,H.pp,ppB]
    · have hE:enE ks cap l[i] true=8:=by unfold enE itE;simp [c1]
      rw [hE]
      rw [c2] at hg
      simp only [lX];rw [aj kN.eq_1]
      simp (disch:=omega) [h1,hc,hg,H.inl,aB,H.pp,ppB]
theorem xI (H:DL C) (ks:List Kd) (ke:Bool) (cap:Int) (hr:Ig ks) (l:List En) (e:Bool) (hl:l.length≤1000000) (hs:∀ x ∈ l,Ie x) :
 FnW C 223 [aR ks ke cap,aL l e]=some (.int .i64 (ckE ks cap l)):=by
 have hv:=ab5 H ks ke cap hr
 have h:=QH H ks ke cap hr l e hl hs l.length 0 (by simp) []
 rw [List.drop_zero,abJ] at h
 rw [aF H.f223 rfl]
 unfold ckE
 generalize (if chk ks cap [] l≠0 then chk ks cap [] l else ovE l)=R at *
 simp only [lX] at h
 simp at h
 cases c1:VL ks cap
 · rw [c1] at hv
   simp at hv
   simp [XC,hv,H.inl,aB,H.pp,ppB]
 · rw [c1] at hv
   simp at hv
   by_cases c2:1024 < l.length
   · have c2':1024 < (l.length:Int):=by omega
     simp [XC,hv,c2,c2',H.inl,aB,H.pp,ppB]
   · have c2':¬ 1024 < (l.length:Int):=by omega
     simp [XC,hv,c2,c2',h,H.inl,aB,H.pp,ppB]
structure aos (C:aG):Prop extends DL C
theorem Je (H:DL C) (ks:List Kd) (ke:Bool) (cap:Int) (x:It) (hx:QX x) (ht:x.t < ks.length) :
 FnW C 240 [aR ks ke cap,eIt x]=some (aE (fre ks x)):=by
 obtain ⟨t,hT⟩:∃ t:Nat,x.t=t:=⟨x.t.toNat,by have:=hx.t;omega⟩
 have h1:t < ks.length:=by omega
 rw [aF H.f240 rfl]
 unfold fre
 rw [hT,jf h1]
 simp (disch:=omega) [ae7,hT,h1]
theorem Rf (H:DL C) (ks:List Kd) (ke:Bool) (cap:Int) (x:List It) (e:Bool) (hxl:x.length≤1000000) (hx:∀ i ∈ x,QX i∧i.t < ks.length):∀ n i,n+i=x.length→∀ G:List En,G.length=i →
 Ez C ⟨[(13,.int .i64 i),(12,.int .i64 x.length),(11,.ro 4 (x.map cIt) e),(5,.sl 0 6 0 x.length x.length true),(2,.ptr 1 0 0)],[(0,.cells 6 (G.map eEn++List.replicate n [.int .u64 0,.int .u8 0,.str [],.ro 1 [] true,.int .i64 0,.bool false]) true true),(1,.cells 2 [[.ro 9 (ks.map eKd) ke,.int .i64 cap]] true true)],2⟩ =
  some (.ro 6 ((G++(x.drop i).map (fre ks)).map eEn) true):=by
 intro n
 induction n with
 | zero =>
  intro i hi G hG
  have h1:x.drop i=[]:=List.drop_eq_nil_of_le (by omega)
  have h3:¬ i < x.length:=by omega
  have h6:List.take x.length (List.map eEn G)=List.map eEn G:=List.take_of_length_le (by simp;omega)
  have h7:G.length=x.length:=by omega
  simp only [Ez];rw [aj vG.eq_1]
  simp [aj EM.eq_1,h1,h3,h6,h7]
 | succ n ih =>
  intro i hi G hG
  have h1:i < x.length:=by omega
  have hxi:=hx _ (List.getElem_mem h1)
  obtain ⟨t,hT⟩:∃ t:Nat,x[i].t=t:=⟨x[i].t.toNat,by have:=hxi.1.t;omega⟩
  have h2:t < ks.length:=by have:=hxi.2;omega
  have:=ih (i+1) (by omega) (G++[fre ks x[i]]) (by simp [hG])
  rw [drop_cons h1]
  simp only [Ez] at this ⊢;rw [aj vG.eq_1]
  simp [fre,hT,jf h2] at this
  simp (disch:=omega) [h1,h2,hT,aI,Fp,F6,hG,fre,jf h2,this]
theorem Po (H:DL C) (ks:List Kd) (ke:Bool) (cap:Int) (x:List It) (e:Bool) (hxl:x.length≤1000000) (hx:∀ i ∈ x,QX i∧i.t < ks.length) :
 FnW C 400 [aR ks ke cap,.ro 4 (x.map cIt) e]=some (.ro 6 ((x.map (fre ks)).map eEn) true):=by
 rw [aF H.ag1 rfl]
 by_cases hne:x=[]
 · subst hne
   simp (disch:=omega) [ZF,aj vG.eq_1,aj EM.eq_1]
 · have h:=Rf H ks ke cap x e hxl hx x.length 0 (by simp) [] rfl
   have h2:x.length * 73≤35184372088832:=by omega
   simp only [Ez] at h
   simp at h
   simp (disch:=omega) [ZF,hne,h2,h]
def an9 (e:Int):AV:=.tup [aL [] true,.int .i64 e]
def abS (out:List En):AV:=if ovE (out.map En.own)≠0 then an9 (ovE (out.map En.own)) else .tup [aL (out.map En.own) true,.int .i64 0]
structure aoh (C:aG):Prop extends aos C
structure uM (C:aG):Prop extends aoh C where
 ahd:C.fns.get 422=some Hf
 f270:C.fns.get 270=some afm
 f126:C.fns.get 126=some aeF
 f130:C.fns.get 130=some adT
structure Good (i:It):Prop where
 k:1≤i.k∧i.k≤60
 t:0≤i.t∧i.t≤2
 x:isText i.x=true
 l:i.m.length≤8
 m:i.m.all isName=true
def Tz (k t:Int) (x:Bs) (o:Option AV):Prop:=∃ (m:List Bs) (e:Bool),o=some (eIt ⟨k,t,x,m,e⟩)∧m.length≤8∧m.all isName=true
theorem nK (H:uM C) (k t a b c d:Int) (hd:0≤d∧d≤255) (x:Bs) (G:List Bs) (hG:G≠[]) (hl:G.length≤3) (hm:G.all isName=true) :
 Tz k t x (bW C ⟨[(4,.int .i64 3),(3,.ptr 0 0 0),(2,.ptr 2 0 0),(1,.ptr 3 0 0)],[(0,.cells 4 [[.int .u64 k,.int .u8 t,.str x,.sl 1 1 0 G.length G.length false]] true false),(1,.cells 1 (G.map eS) true true),(2,.cells 4 [[.int .u64 0,.int .u8 0,.str [],.ro 1 [] true]] true true),(3,.cells 4 [[.int .u8 a,.int .u8 b,.int .u8 c,.int .u8 d]] true true)],4⟩):=by
 have hfit:(G.length+1) * 17≤35184372088832:=by omega
 have hfit2:(G.length+2) * 17≤35184372088832:=by omega
 have h4:List.take G.length (List.map eS G)=List.map eS G:=List.take_of_length_le (by simp)
 by_cases c1:240≤d
 · refine ⟨G++[[97],[97]],false,?_,by simp;omega,by simp only [List.all_append,hm];decide⟩
   have h5:List.take (G.length+2) (List.map eS G++[[.str [97]],[.str [97]]])=List.map eS G++[[.str [97]],[.str [97]]]:=List.take_of_length_le (by simp)
   simp only [bW];rw [aj jO.eq_1]
   simp (disch:=omega) [aj vT.eq_1,c1,h4,h5,hfit2]
 · refine ⟨G,false,?_,by omega,hm⟩
   simp only [bW];rw [aj jO.eq_1]
   simp (disch:=omega) [aj vT.eq_1,c1,h4]
theorem Fh (H:uM C) (k t a b c d:Int) (hd:0≤d∧d≤255) (x:Bs) :
 Tz k t x (bW C ⟨[(4,.int .i64 3),(3,.ptr 0 0 0),(2,.ptr 1 0 0),(1,.ptr 2 0 0)],[(0,.cells 4 [[.int .u64 k,.int .u8 t,.str x,.ro 1 [] true]] true true),(1,.cells 4 [[.int .u64 0,.int .u8 0,.str [],.ro 1 [] true]] true true),(2,.cells 4 [[.int .u8 a,.int .u8 b,.int .u8 c,.int .u8 d]] true true)],3⟩):=by
 by_cases c1:240≤d
 · refine ⟨[[97],[97]],false,?_,by simp,by decide⟩
   simp only [bW];rw [aj jO.eq_1]
   simp (disch:=omega) [aj vT.eq_1,c1]
 · refine ⟨[],true,?_,by simp,rfl⟩
   simp only [bW];rw [aj jO.eq_1]
   simp (disch:=omega) [aj vT.eq_1,c1]
theorem nD (H:uM C) (k t a b c d:Int) (hd:0≤d∧d≤255) (x:Bs) (G:List Bs) (hG:G≠[]) (hl:G.length≤2) (hm:G.all isName=true) :
 Tz k t x (bW C ⟨[(4,.int .i64 2),(3,.ptr 0 0 0),(2,.ptr 2 0 0),(1,.ptr 3 0 0)],[(0,.cells 4 [[.int .u64 k,.int .u8 t,.str x,.sl 1 1 0 G.length G.length false]] true false),(1,.cells 1 (G.map eS) true true),(2,.cells 4 [[.int .u64 0,.int .u8 0,.str [],.ro 1 [] true]] true true),(3,.cells 4 [[.int .u8 a,.int .u8 b,.int .u8 c,.int .u8 d]] true true)],4⟩):=by
 have hfit:(G.length+1) * 17≤35184372088832:=by omega
 have hfit2:(G.length+2) * 17≤35184372088832:=by omega
 have h4:List.take G.length (List.map eS G)=List.map eS G:=List.take_of_length_le (by simp)
 have h6:d.tdiv 8=d / 8:=Int.tdiv_eq_ediv_of_nonneg (by omega)
 have h5:(2+d / 8).tmod 3=(2+d / 8) % 3:=Int.tmod_eq_emod_of_nonneg (by omega)
 have hJ:(2+d / 8) % 3=0∨(2+d / 8) % 3=1∨(2+d / 8) % 3=2:=by omega
 simp only [bW];rw [aj jO.eq_1]
 rcases hJ with hj | hj | hj
 · simp (disch:=omega) [aI,wU8,h5,h6,hj,h4,hfit]
   split
   · have h:=nK H k t a b c d hd x (G++[[97]]) (by simp) (by simp;omega) (by simp only [List.all_append,hm];decide)
     simp only [bW] at h
     simpa using h
   · exact nK H k t a b c d hd x G hG (by omega) hm
 · simp (disch:=omega) [aI,wU8,h5,h6,hj,h4,hfit]
   split
   · have h:=nK H k t a b c d hd x (G++[[98,50]]) (by simp) (by simp;omega) (by simp only [List.all_append,hm];decide)
     simp only [bW] at h
     simpa using h
   · exact nK H k t a b c d hd x G hG (by omega) hm
 · simp (disch:=omega) [aI,wU8,h5,h6,hj,h4,hfit]
   split
   · have h:=nK H k t a b c d hd x (G++[[107,101,121]]) (by simp) (by simp;omega) (by simp only [List.all_append,hm];decide)
     simp only [bW] at h
     simpa using h
   · exact nK H k t a b c d hd x G hG (by omega) hm
theorem GL (H:uM C) (k t a b c d:Int) (hd:0≤d∧d≤255) (x:Bs) :
 Tz k t x (bW C ⟨[(4,.int .i64 2),(3,.ptr 0 0 0),(2,.ptr 1 0 0),(1,.ptr 2 0 0)],[(0,.cells 4 [[.int .u64 k,.int .u8 t,.str x,.ro 1 [] true]] true true),(1,.cells 4 [[.int .u64 0,.int .u8 0,.str [],.ro 1 [] true]] true true),(2,.cells 4 [[.int .u8 a,.int .u8 b,.int .u8 c,.int .u8 d]] true true)],3⟩):=by
 have h6:d.tdiv 8=d / 8:=Int.tdiv_eq_ediv_of_nonneg (by omega)
 have h5:(2+d / 8).tmod 3=(2+d / 8) % 3:=Int.tmod_eq_emod_of_nonneg (by omega)
 have hJ:(2+d / 8) % 3=0∨(2+d / 8) % 3=1∨(2+d / 8) % 3=2:=by omega
 simp only [bW];rw [aj jO.eq_1]
 rcases hJ with hj | hj | hj
 · simp (disch:=omega) [aI,wU8,h5,h6,hj]
   split
   · exact nK H k t a b c d hd x [[97]] (by simp) (by simp) (by decide)
   · exact Fh H k t a b c d hd x
 · simp (disch:=omega) [aI,wU8,h5,h6,hj]
   split
   · exact nK H k t a b c d hd x [[98,50]] (by simp) (by simp) (by decide)
   · exact Fh H k t a b c d hd x
 · simp (disch:=omega) [aI,wU8,h5,h6,hj]
   split
   · exact nK H k t a b c d hd x [[107,101,121]] (by simp) (by simp) (by decide)
   · exact Fh H k t a b c d hd x
theorem JW (H:uM C) (k t a b c d:Int) (hd:0≤d∧d≤255) (x:Bs) (G:List Bs) (hG:G≠[]) (hl:G.length≤1) (hm:G.all isName=true) :
 Tz k t x (bW C ⟨[(4,.int .i64 1),(3,.ptr 0 0 0),(2,.ptr 2 0 0),(1,.ptr 3 0 0)],[(0,.cells 4 [[.int .u64 k,.int .u8 t,.str x,.sl 1 1 0 G.length G.length false]] true false),(1,.cells 1 (G.map eS) true true),(2,.cells 4 [[.int .u64 0,.int .u8 0,.str [],.ro 1 [] true]] true true),(3,.cells 4 [[.int .u8 a,.int .u8 b,.int .u8 c,.int .u8 d]] true true)],4⟩):=by
 have hfit:(G.length+1) * 17≤35184372088832:=by omega
 have hfit2:(G.length+2) * 17≤35184372088832:=by omega
 have h4:List.take G.length (List.map eS G)=List.map eS G:=List.take_of_length_le (by simp)
 have h6:d.tdiv 8=d / 8:=Int.tdiv_eq_ediv_of_nonneg (by omega)
 have h5:(1+d / 8).tmod 3=(1+d / 8) % 3:=Int.tmod_eq_emod_of_nonneg (by omega)
 have hJ:(1+d / 8) % 3=0∨(1+d / 8) % 3=1∨(1+d / 8) % 3=2:=by omega
 simp only [bW];rw [aj jO.eq_1]
 rcases hJ with hj | hj | hj
 · simp (disch:=omega) [aI,wU8,h5,h6,hj,h4,hfit]
   split
   · have h:=nD H k t a b c d hd x (G++[[97]]) (by simp) (by simp;omega) (by simp only [List.all_append,hm];decide)
     simp only [bW] at h
     simpa using h
   · exact nD H k t a b c d hd x G hG (by omega) hm
 · simp (disch:=omega) [aI,wU8,h5,h6,hj,h4,hfit]
   split
   · have h:=nD H k t a b c d hd x (G++[[98,50]]) (by simp) (by simp;omega) (by simp only [List.all_append,hm];decide)
     simp only [bW] at h
     simpa using h
   · exact nD H k t a b c d hd x G hG (by omega) hm
 · simp (disch:=omega) [aI,wU8,h5,h6,hj,h4,hfit]
   split
   · have h:=nD H k t a b c d hd x (G++[[107,101,121]]) (by simp) (by simp;omega) (by simp only [List.all_append,hm];decide)
     simp only [bW] at h
     simpa using h
   · exact nD H k t a b c d hd x G hG (by omega) hm
theorem FZ (H:uM C) (k t a b c d:Int) (hd:0≤d∧d≤255) (x:Bs) :
 Tz k t x (bW C ⟨[(4,.int .i64 1),(3,.ptr 0 0 0),(2,.ptr 1 0 0),(1,.ptr 2 0 0)],[(0,.cells 4 [[.int .u64 k,.int .u8 t,.str x,.ro 1 [] true]] true true),(1,.cells 4 [[.int .u64 0,.int .u8 0,.str [],.ro 1 [] true]] true true),(2,.cells 4 [[.int .u8 a,.int .u8 b,.int .u8 c,.int .u8 d]] true true)],3⟩):=by
 have h6:d.tdiv 8=d / 8:=Int.tdiv_eq_ediv_of_nonneg (by omega)
 have h5:(1+d / 8).tmod 3=(1+d / 8) % 3:=Int.tmod_eq_emod_of_nonneg (by omega)
 have hJ:(1+d / 8) % 3=0∨(1+d / 8) % 3=1∨(1+d / 8) % 3=2:=by omega
 simp only [bW];rw [aj jO.eq_1]
 rcases hJ with hj | hj | hj
 · simp (disch:=omega) [aI,wU8,h5,h6,hj]
   split
   · exact nD H k t a b c d hd x [[97]] (by simp) (by simp) (by decide)
   · exact GL H k t a b c d hd x
 · simp (disch:=omega) [aI,wU8,h5,h6,hj]
   split
   · exact nD H k t a b c d hd x [[98,50]] (by simp) (by simp) (by decide)
   · exact GL H k t a b c d hd x
 · simp (disch:=omega) [aI,wU8,h5,h6,hj]
   split
   · exact nD H k t a b c d hd x [[107,101,121]] (by simp) (by simp) (by decide)
   · exact GL H k t a b c d hd x
theorem aaX (H:uM C) (k t a b c d:Int) (hd:0≤d∧d≤255) (x:Bs) :
 Tz k t x (bW C ⟨[(4,.int .i64 0),(3,.ptr 0 0 0),(2,.ptr 1 0 0),(1,.ptr 2 0 0)],[(0,.cells 4 [[.int .u64 k,.int .u8 t,.str x,.ro 1 [] true]] true true),(1,.cells 4 [[.int .u64 0,.int .u8 0,.str [],.ro 1 [] true]] true true),(2,.cells 4 [[.int .u8 a,.int .u8 b,.int .u8 c,.int .u8 d]] true true)],3⟩):=by
 have h6:d.tdiv 8=d / 8:=Int.tdiv_eq_ediv_of_nonneg (by omega)
 have h5:(0+d / 8).tmod 3=(0+d / 8) % 3:=Int.tmod_eq_emod_of_nonneg (by omega)
 have hJ:(0+d / 8) % 3=0∨(0+d / 8) % 3=1∨(0+d / 8) % 3=2:=by omega
 simp only [bW];rw [aj jO.eq_1]
 simp only [Int.zero_add] at h5 hJ
 rcases hJ with hj | hj | hj
 · simp (disch:=omega) [aI,wU8,h5,h6,hj]
   split
   · exact JW H k t a b c d hd x [[97]] (by simp) (by simp) (by decide)
   · exact FZ H k t a b c d hd x
 · simp (disch:=omega) [aI,wU8,h5,h6,hj]
   split
   · exact JW H k t a b c d hd x [[98,50]] (by simp) (by simp) (by decide)
   · exact FZ H k t a b c d hd x
 · simp (disch:=omega) [aI,wU8,h5,h6,hj]
   split
   · exact JW H k t a b c d hd x [[107,101,121]] (by simp) (by simp) (by decide)
   · exact FZ H k t a b c d hd x
structure Q4 where
 (a b c d:Int)
@[simp] def eQ (q:Q4):List AV:=[.int .u8 q.a,.int .u8 q.b,.int .u8 q.c,.int .u8 q.d]
structure QIn (q:Q4):Prop where
 a:0≤q.a∧q.a≤255
 b:0≤q.b∧q.b≤255
 c:0≤q.c∧q.c≤255
 d:0≤q.d∧q.d≤255
theorem YV (H:uM C) (q:Q4) (hq:QIn q):∃ i:It,FnW C 422 [.agg (eQ q)]=some (eIt i)∧Good i:=by
 obtain ⟨a,b,c,d⟩:=q
 obtain ⟨ha,hb,hc,hd⟩:=hq
 simp only at ha hb hc hd
 have h1:a.tmod 60=a % 60:=Int.tmod_eq_emod_of_nonneg (by omega)
 have h2:b.tmod 3=b % 3:=Int.tmod_eq_emod_of_nonneg (by omega)
 have h3:c.tmod 8=c % 8:=Int.tmod_eq_emod_of_nonneg (by omega)
 have hx:∀ x:Bs,isText x=true→∃ i:It,bW C ⟨[(4,.int .i64 0),(3,.ptr 0 0 0),(2,.ptr 1 0 0),(1,.ptr 2 0 0)],[(0,.cells 4 [[.int .u64 (1+a % 60),.int .u8 (b % 3),.str x,.ro 1 [] true]] true true),(1,.cells 4 [[.int .u64 0,.int .u8 0,.str [],.ro 1 [] true]] true true),(2,.cells 4 [[.int .u8 a,.int .u8 b,.int .u8 c,.int .u8 d]] true true)],3⟩=some (eIt i)∧Good i:=by
  intro x hx
  obtain ⟨m,e,h,r1,r2⟩:=aaX H (1+a % 60) (b % 3) a b c d hd x
  exact ⟨_,h,⟨by simp only;omega,by simp only;omega,hx,r1,r2⟩⟩
 rw [aF H.ahd rfl]
 have hJ:c % 8=0∨c % 8=1∨c % 8=2∨c % 8=3∨c % 8=4∨c % 8=5∨c % 8=6∨c % 8=7:=by omega
 rcases hJ with hj | hj | hj | hj | hj | hj | hj | hj
 · obtain ⟨i,h,g⟩:=hx [] (by decide)
   refine ⟨i,?_,g⟩
   simp only [bW] at h
   simp (disch:=omega) [Hf,h1,h2,h3,hj,aI,wU8,sG,h]
 · obtain ⟨i,h,g⟩:=hx [97] (by decide)
   refine ⟨i,?_,g⟩
   simp only [bW] at h
   simp (disch:=omega) [Hf,h1,h2,h3,hj,aI,wU8,sG,h]
 · obtain ⟨i,h,g⟩:=hx [114,111,119] (by decide)
   refine ⟨i,?_,g⟩
   simp only [bW] at h
   simp (disch:=omega) [Hf,h1,h2,h3,hj,aI,wU8,sG,h]
 · obtain ⟨i,h,g⟩:=hx [116,119,111,32,119,111,114,100,115] (by decide)
   refine ⟨i,?_,g⟩
   simp only [bW] at h
   simp (disch:=omega) [Hf,h1,h2,h3,hj,aI,wU8,sG,h]
 · obtain ⟨i,h,g⟩:=hx [32,32] (by decide)
   refine ⟨i,?_,g⟩
   simp only [bW] at h
   simp (disch:=omega) [Hf,h1,h2,h3,hj,aI,wU8,sG,h]
 · obtain ⟨i,h,g⟩:=hx [126,33,45,44] (by decide)
   refine ⟨i,?_,g⟩
   simp only [bW] at h
   simp (disch:=omega) [Hf,h1,h2,h3,hj,aI,wU8,sG,h]
 · obtain ⟨i,h,g⟩:=hx [97,32,108,111,110,103,101,114,32,116,101,120,116,32,111,102,32,116,104,105,115,32,107,105,110,100] (by decide)
   refine ⟨i,?_,g⟩
   simp only [bW] at h
   simp (disch:=omega) [Hf,h1,h2,h3,hj,aI,wU8,sG,h]
 · obtain ⟨i,h,g⟩:=hx [57] (by decide)
   refine ⟨i,?_,g⟩
   simp only [bW] at h
   simp (disch:=omega) [Hf,h1,h2,h3,hj,aI,wU8,sG,h]
theorem Good.it {i:It} (h:Good i):QX i:=⟨by have:=h.k;omega,by have:=h.t;omega,by have:=h.l;omega⟩
theorem Good.ok {i:It} (h:Good i):yC 3 i=true:=by
 have h1:=h.k;have h2:=h.t;have h3:=h.x;have h4:=h.l;have h5:=h.m
 unfold yC
 simp only [Bool.and_eq_true,decide_eq_true_eq]
 exact ⟨⟨⟨by omega,by omega⟩,h3⟩,h4,h5⟩
theorem Vt {k:Int}:∀ (l:List It) (i:Nat),QB k i l < 0→∀ x ∈ l,x.k≠k
 | [],_,_=>by simp
 | e::r,i,h=>by
  rw [QB] at h
  split at h
  · omega
  · rename_i c
    intro x hx
    rcases List.mem_cons.1 hx with rfl | hx
    · exact c
    · exact Vt r (i+1) h x hx
theorem Ul (H:uM C) (hone:∀ q:Q4,QIn q→∃ i:It,FnW C 422 [.agg (eQ q)]=some (eIt i)∧Good i) (l:List Q4) (e:Bool) (hq:∀ q ∈ l,QIn q):∀ n i,n+i=min l.length 12→∀ G:List It,G.length≤i→(∀ x ∈ G,Good x)→(G.map It.k).Nodup →
 ∃ R:List It,zV C ⟨[(4,.int .i64 i),(3,.sl 0 4 0 G.length G.length false),(1,.ptr 1 0 0)],[(0,.cells 4 (G.map cIt) true true),(1,.cells 1 [[.ro 4 (l.map eQ) e]] true true)],2⟩=some (.ro 4 (R.map cIt) false) ∧
  R.length≤12∧(∀ x ∈ R,Good x)∧(R.map It.k).Nodup:=by
 intro n
 induction n with
 | zero =>
  intro i hi G hG hg hn
  refine ⟨G,?_,by omega,hg,hn⟩
  simp only [zV];rw [aj wZ.eq_1]
  have h6:List.take G.length (List.map cIt G)=List.map cIt G:=List.take_of_length_le (by simp)
  by_cases h3:i < l.length
  · have h4:¬ (i:Int) < 12:=by omega
    simp [aj EF.eq_1,h3,h4,h6]
  · simp [aj EF.eq_1,h3,h6]
 | succ n ih =>
  intro i hi G hG hg hn
  have h1:i < l.length:=by omega
  have h2:(i:Int) < 12:=by omega
  obtain ⟨x,hx,gx⟩:=hone l[i] (hq _ (List.getElem_mem h1))
  have hf:=abR H.toDI G false x.k (by omega)
  have h6:List.take G.length (List.map cIt G)=List.map cIt G:=List.take_of_length_le (by simp)
  have hfit:(G.length+1) * 57≤35184372088832:=by omega
  simp only [eQ] at hx
  by_cases c:QB x.k 0 G < 0
  · have hno:=Vt G 0 c
    obtain ⟨R,this,r1,r2,r3⟩:=ih (i+1) (by omega) (G++[x]) (by simp;omega) (by
     intro y hy
     rcases List.mem_append.1 hy with q | q
     · exact hg y q
     · simp at q;rw [q];exact gx) (by
     rw [List.map_append,List.nodup_append]
     refine ⟨hn,by simp,?_⟩
     intro a ha b hb
     simp at hb
     obtain ⟨y,hy,rfl⟩:=List.mem_map.1 ha
     rw [hb];exact hno y hy)
    refine ⟨R,?_,r1,r2,r3⟩
    simp only [zV] at this ⊢;rw [aj wZ.eq_1]
    simp at this
    simp (disch:=omega) [h1,h2,hx,hf,h6,c,hfit,aI,H.inl,aB,H.pp,ppB,this]
  · obtain ⟨R,this,r1,r2,r3⟩:=ih (i+1) (by omega) G (by omega) hg hn
    refine ⟨R,?_,r1,r2,r3⟩
    simp only [zV] at this ⊢;rw [aj wZ.eq_1]
    simp at this
    simp (disch:=omega) [h1,h2,hx,hf,h6,c,aI,H.inl,aB,H.pp,ppB,this]
theorem YG (H:uM C) (hone:∀ q:Q4,QIn q→∃ i:It,FnW C 422 [.agg (eQ q)]=some (eIt i)∧Good i) (l:List Q4) (e:Bool) (hq:∀ q ∈ l,QIn q) :
 ∃ R:List It,FnW C 270 [.agg [.ro 4 (l.map eQ) e]]=some (.ro 4 (R.map cIt) false)∧R.length≤12∧(∀ x ∈ R,Good x)∧(R.map It.k).Nodup:=by
 obtain ⟨R,h,r⟩:=Ul H hone l e hq (min l.length 12) 0 (by simp) [] (by simp) (by simp) (by simp)
 refine ⟨R,?_,r⟩
 simp only [zV] at h
 simp at h
 rw [aF H.f270 rfl]
 simp [afm,h]
def yj (k:Int) (t:Bs):Pt:=⟨k,[],[],[],true,t,[],true⟩
def Dn:Pt:=⟨1,[114,111,119],[],[⟨[110],3,[]⟩,⟨[116,101,120,116],1,[]⟩],true,[],[yj 3 []],true⟩
def uS:Pt:=⟨1,[104,101,97,100],[104],[⟨[105,100],2,[]⟩],true,[],[yj 2 [35],yj 4 []],true⟩
def uQ:Pt:=⟨1,[114,111,119],[],[],true,[],[⟨1,[98],[98,50],[],true,[],[yj 3 []],true⟩,⟨5,[116,97,103],[],[⟨[111,102],2,[]⟩],true,[],[],true⟩],true⟩
def ak (n:Int):List Kd:=[⟨Dn,10+n % 7,false,n % 4⟩,⟨uS,6+n % 3,true,n / 4 % 3⟩,⟨uQ,20,decide (n % 16=15),n / 8 % 3⟩]
theorem Qv (H:uM C) (n:Int) (hn:0≤n∧n≤255):FnW C 126 [.int .u8 n]=some (.ro 9 ((ak n).map eKd) true):=by
 rw [aF H.f126 rfl]
 have h1:n.tmod 7=n % 7:=Int.tmod_eq_emod_of_nonneg (by omega)
 have h2:n.tmod 4=n % 4:=Int.tmod_eq_emod_of_nonneg (by omega)
 have h3:n.tmod 3=n % 3:=Int.tmod_eq_emod_of_nonneg (by omega)
 have h4:n.tdiv 4=n / 4:=Int.tdiv_eq_ediv_of_nonneg (by omega)
 have h5:n.tdiv 8=n / 8:=Int.tdiv_eq_ediv_of_nonneg (by omega)
 have h6:(n / 4).tmod 3=n / 4 % 3:=Int.tmod_eq_emod_of_nonneg (by omega)
 have h7:(n / 8).tmod 3=n / 8 % 3:=Int.tmod_eq_emod_of_nonneg (by omega)
 have h8:n.tmod 16=n % 16:=Int.tmod_eq_emod_of_nonneg (by omega)
 simp (disch:=omega) [aeF,ak,Dn,uS,uQ,yj,h1,h2,h3,h4,h5,h6,h7,h8,aI,wU8,Pt.dD]
 rfl
theorem Cb (k:Int) (t:Bs):fH (yj k t):=.mk _ ⟨by simp [yj],by simp [yj],by simp [yj]⟩ (by simp [yj])
theorem aa4:fH Dn:=.mk _ ⟨by simp [Dn],by simp [Dn],by simp [Dn]⟩ (by simp only [Dn,List.mem_cons,List.not_mem_nil,or_false];rintro m rfl;exact Cb _ _)
theorem Yb:fH uS:=.mk _ ⟨by simp [uS],by simp [uS],by simp [uS]⟩ (by simp only [uS,List.mem_cons,List.not_mem_nil,or_false];rintro m (rfl | rfl) <;> exact Cb _ _)
theorem XV:fH uQ:=.mk _ ⟨by simp [uQ],by simp [uQ],by simp [uQ]⟩ (by
 simp only [uQ,List.mem_cons,List.not_mem_nil,or_false]
 rintro m (rfl | rfl)
 · exact .mk _ ⟨by simp,by simp,by simp⟩ (by simp only [List.mem_cons,List.not_mem_nil,or_false];rintro m rfl;exact Cb _ _)
 · exact .mk _ ⟨by simp,by simp,by simp⟩ (by simp))
theorem CS (n:Int):Ig (ak n):=⟨by simp [ak],by
 simp only [ak,List.mem_cons,List.not_mem_nil,or_false]
 rintro k (rfl | rfl | rfl)
 · exact aa4
 · exact Yb
 · exact XV⟩
theorem aho:oO Dn≠0:=by decide +kernel
theorem ads:oO uS≠0:=by decide +kernel
theorem adF:oO uQ≠0:=by decide +kernel
theorem aj6 (n:Int) (hn:0≤n∧n≤255):VL (ak n) 12=true:=by
 have e1:(1:Int)≤10+n % 7∧10+n % 7≤2305843009213693952:=by omega
 have e2:(1:Int)≤6+n % 3∧6+n % 3≤2305843009213693952:=by omega
 simp [VL,O5,hOk,ak,aho,ads,adF,e1,e2]
theorem Vw (n:Int) (hn:0≤n∧n≤255) (t:Int) (ht:0≤t∧t≤2):1≤(jK (ak n) t).b∧(jK (ak n) t).b≤30:=by
 have:t=0∨t=1∨t=2:=by omega
 rcases this with rfl | rfl | rfl <;> simp [jK,ak] <;> omega
structure lD (ks:List Kd) (e:En):Prop where
 i:Good e.i
 ok:itE ks 12 e.i false=0
 s:1≤e.s∧e.s≤40
 b:e.kn=true∨e.s=(jK ks e.i.t).b
structure ah6 (ks:List Kd):Prop where
 r:Ig ks
 l:ks.length=3
 b:∀ t:Int,0≤t→t≤2→1≤(jK ks t).b∧(jK ks t).b≤30
theorem afZ (n:Int) (hn:0≤n∧n≤255):ah6 (ak n):=⟨CS n,rfl,fun t h1 h2=>Vw n hn t ⟨h1,h2⟩⟩
theorem ait (H:uM C) (ks:List Kd) (hks:ah6 ks) (l:List It) (le:Bool) (hl:l.length≤12) (hg:∀ x ∈ l,Good x) (q:List Q4) (qe:Bool) (z:List Int) (ze:Bool) (hz:∀ s ∈ z,0≤s∧s≤255) (hzl:z.length < 9223372036854775808) (r:Int):∀ n i,n+i=l.length →
 ∀ G:List En,G≠[]→G.length≤i→(∀ x ∈ G,lD ks x)→(jI G++(l.drop i).map It.k).Nodup →
 ∃ (R:List En) (f:Bool),iF C ⟨[(7,.int .i64 i),(6,.ptr 0 0 0),(5,.ro 4 (l.map cIt) le),(4,.ptr 2 0 0),(3,.ptr 3 0 0),(2,.ptr 4 0 0),(1,.ptr 5 0 0)],[(0,.cells 1 [[.sl 1 6 0 G.length G.length false]] true false),(1,.cells 6 (G.map eEn) true true),(2,.cells 2 [[.ro 9 (ks.map eKd) true,.int .i64 12]] true true),(3,.cells 1 [[.ro 6 [] true]] true true),(4,.cells 2 [[.ro 9 [] true,.int .i64 0]] true true),(5,.cells 3 [[.ro 4 (q.map eQ) qe,.ro 1 (z.map eU8) ze,.int .u8 r]] true true)],6⟩=some (.tup [aR ks true 12,aL R f])∧R.length≤12∧(∀ e ∈ R,lD ks e)∧(jI R).Nodup:=by
 intro n
 induction n with
 | zero =>
  intro i hi G hne hG hge hn
  have h1:l.drop i=[]:=List.drop_eq_nil_of_le (by omega)
  have h3:¬ i < l.length:=by omega
  have h6:List.take G.length (List.map eEn G)=List.map eEn G:=List.take_of_length_le (by simp)
  refine ⟨G,false,?_,by omega,hge,by rw [h1] at hn;simpa using hn⟩
  simp only [iF];rw [aj jv.eq_1]
  simp [aj D6.eq_1,h3,h6]
 | succ n ih =>
  intro i hi G hne hG hge hn
  have h1:i < l.length:=by omega
  have gx:=hg _ (List.getElem_mem h1)
  have hii:=Om H.toDL ks true 12 l[i] gx.it hks.r false
  have hfr:=Je H.toDL ks true 12 l[i] gx.it (by have:=gx.t;have:=hks.l;omega)
  have hbase:=hks.b l[i].t gx.t.1 gx.t.2
  rw [drop_cons h1,List.map_cons] at hn
  have hfit:(G.length+1) * 73≤35184372088832:=by omega
  simp only [aR,eIt,Bool.false_eq_true,if_false] at hii
  simp only [aR,eIt,aE,eEn,fre] at hfr
  have hE0:0≤itE ks 12 l[i] false:=by unfold itE;repeat (first | omega | split)
  by_cases c1:itE ks 12 l[i] false=0
  · have step:∀ e:En,e.i=l[i]→lD ks e→∃ (R:List En) (f:Bool),iF C ⟨[(7,.int .i64 ((i:Int)+1)),(6,.ptr 0 0 0),(5,.ro 4 (l.map cIt) le),(4,.ptr 2 0 0),(3,.ptr 3 0 0),(2,.ptr 4 0 0),(1,.ptr 5 0 0)],[(0,.cells 1 [[.sl 1 6 0 (G.length+1) (G.length+1) false]] true false),(1,.cells 6 (G.map eEn++[eEn e]) true true),(2,.cells 2 [[.ro 9 (ks.map eKd) true,.int .i64 12]] true true),(3,.cells 1 [[.ro 6 [] true]] true true),(4,.cells 2 [[.ro 9 [] true,.int .i64 0]] true true),(5,.cells 3 [[.ro 4 (q.map eQ) qe,.ro 1 (z.map eU8) ze,.int .u8 r]] true true)],6⟩=some (.tup [aR ks true 12,aL R f])∧R.length≤12∧(∀ e ∈ R,lD ks e)∧(jI R).Nodup:=by
     intro e he hge2
     have:=ih (i+1) (by omega) (G++[e]) (by simp) (by simp;omega) (by
      intro y hy
      rcases List.mem_append.1 hy with q | q
      · exact hge y q
      · simp at q;rw [q];exact hge2) (by simpa [jI,he] using hn)
     simpa using this
    by_cases c2:G.length < z.length
    · by_cases c3:(0:Int) < z[G.length]
      · have hzz:=hz _ (List.getElem_mem c2)
        have hm:z[G.length].tmod 40=z[G.length] % 40:=Int.tmod_eq_emod_of_nonneg hzz.1
        have hm1:(0:Int)≤z[G.length] % 40:=Int.emod_nonneg _ (by omega)
        have hm2:z[G.length] % 40 < 40:=Int.emod_lt_of_pos _ (by omega)
        obtain ⟨R,f,this,hR⟩:=step ⟨l[i],1+z[G.length] % 40,true⟩ rfl ⟨gx,c1,by simp only;omega,.inl rfl⟩
        refine ⟨R,f,?_,hR⟩
        rw [c1] at hii
        generalize z[G.length] % 40=M at *
        simp only [iF] at this ⊢;rw [aj jv.eq_1]
        simp at this
        simp (disch:=omega) [h1,c2,c3,hm,hii,hfr,hfit,aI,wU8,H.inl,aB,H.pp,ppB,this]
      · obtain ⟨R,f,this,hR⟩:=step (fre ks l[i]) rfl ⟨gx,c1,by unfold fre;simp only;omega,.inr rfl⟩
        refine ⟨R,f,?_,hR⟩
        rw [c1] at hii
        simp only [fre] at this
        simp only [iF] at this ⊢;rw [aj jv.eq_1]
        simp at this
        simp (disch:=omega) [h1,c2,c3,hii,hfr,hfit,aI,wU8,H.inl,aB,H.pp,ppB,this]
    · obtain ⟨R,f,this,hR⟩:=step (fre ks l[i]) rfl ⟨gx,c1,by unfold fre;simp only;omega,.inr rfl⟩
      refine ⟨R,f,?_,hR⟩
      rw [c1] at hii
      simp only [fre] at this
      simp only [iF] at this ⊢;rw [aj jv.eq_1]
      simp at this
      simp (disch:=omega) [h1,c2,hii,hfr,hfit,aI,wU8,H.inl,aB,H.pp,ppB,this]
  · have c1':0 < itE ks 12 l[i] false:=by omega
    obtain ⟨R,f,this,hR⟩:=ih (i+1) (by omega) G hne (by omega) hge (by
     refine List.Nodup.sublist ?_ hn;exact List.Sublist.append (List.Sublist.refl _) (List.sublist_cons_self _ _))
    refine ⟨R,f,?_,hR⟩
    generalize itE ks 12 l[i] false=E at *
    simp only [iF] at this ⊢;rw [aj jv.eq_1]
    simp at this
    simp (disch:=omega) [h1,c1',hii,aI,H.inl,aB,H.pp,ppB,this]
theorem ac7 (H:uM C) (ks:List Kd) (hks:ah6 ks) (l:List It) (le:Bool) (hl:l.length≤12) (hg:∀ x ∈ l,Good x) (q:List Q4) (qe:Bool) (z:List Int) (ze:Bool) (hz:∀ s ∈ z,0≤s∧s≤255) (hzl:z.length < 9223372036854775808) (r:Int):∀ n i,n+i=l.length →
 (jI []++(l.drop i).map It.k).Nodup →
 ∃ (R:List En) (f:Bool),iF C ⟨[(7,.int .i64 i),(6,.ptr 0 0 0),(5,.ro 4 (l.map cIt) le),(4,.ptr 1 0 0),(3,.ptr 2 0 0),(2,.ptr 3 0 0),(1,.ptr 4 0 0)],[(0,.cells 1 [[.ro 6 [] true]] true true),(1,.cells 2 [[.ro 9 (ks.map eKd) true,.int .i64 12]] true true),(2,.cells 1 [[.ro 6 [] true]] true true),(3,.cells 2 [[.ro 9 [] true,.int .i64 0]] true true),(4,.cells 3 [[.ro 4 (q.map eQ) qe,.ro 1 (z.map eU8) ze,.int .u8 r]] true true)],5⟩=some (.tup [aR ks true 12,aL R f])∧R.length≤12∧(∀ e ∈ R,lD ks e)∧(jI R).Nodup:=by
 intro n
 induction n with
 | zero =>
  intro i hi  hn
  have h1:l.drop i=[]:=List.drop_eq_nil_of_le (by omega)
  have h3:¬ i < l.length:=by omega
  refine ⟨[],true,?_,by simp,by simp,by simp⟩
  simp only [iF];rw [aj jv.eq_1]
  simp [aj D6.eq_1,h3]
 | succ n ih =>
  intro i hi  hn
  have h1:i < l.length:=by omega
  have gx:=hg _ (List.getElem_mem h1)
  have hii:=Om H.toDL ks true 12 l[i] gx.it hks.r false
  have hfr:=Je H.toDL ks true 12 l[i] gx.it (by have:=gx.t;have:=hks.l;omega)
  have hbase:=hks.b l[i].t gx.t.1 gx.t.2
  rw [drop_cons h1,List.map_cons] at hn
  simp only [aR,eIt,Bool.false_eq_true,if_false] at hii
  simp only [aR,eIt,aE,eEn,fre] at hfr
  have hE0:0≤itE ks 12 l[i] false:=by unfold itE;repeat (first | omega | split)
  by_cases c1:itE ks 12 l[i] false=0
  · have step:∀ e:En,e.i=l[i]→lD ks e→∃ (R:List En) (f:Bool),iF C ⟨[(7,.int .i64 ((i:Int)+1)),(6,.ptr 0 0 0),(5,.ro 4 (l.map cIt) le),(4,.ptr 2 0 0),(3,.ptr 3 0 0),(2,.ptr 4 0 0),(1,.ptr 5 0 0)],[(0,.cells 1 [[.sl 1 6 0 1 1 false]] true false),(1,.cells 6 [eEn e] true true),(2,.cells 2 [[.ro 9 (ks.map eKd) true,.int .i64 12]] true true),(3,.cells 1 [[.ro 6 [] true]] true true),(4,.cells 2 [[.ro 9 [] true,.int .i64 0]] true true),(5,.cells 3 [[.ro 4 (q.map eQ) qe,.ro 1 (z.map eU8) ze,.int .u8 r]] true true)],6⟩=some (.tup [aR ks true 12,aL R f])∧R.length≤12∧(∀ e ∈ R,lD ks e)∧(jI R).Nodup:=by
     intro e he hge2
     have:=ait H ks hks l le hl hg q qe z ze hz hzl r n (i+1) (by omega) [e] (by simp) (by simp) (by simpa using hge2) (by simpa [jI,he] using hn)
     simpa using this
    by_cases c2:0 < z.length
    · by_cases c3:(0:Int) < z[0]
      · have hzz:=hz _ (List.getElem_mem c2)
        have hm:z[0].tmod 40=z[0] % 40:=Int.tmod_eq_emod_of_nonneg hzz.1
        have hm1:(0:Int)≤z[0] % 40:=Int.emod_nonneg _ (by omega)
        have hm2:z[0] % 40 < 40:=Int.emod_lt_of_pos _ (by omega)
        obtain ⟨R,f,this,hR⟩:=step ⟨l[i],1+z[0] % 40,true⟩ rfl ⟨gx,c1,by simp only;omega,.inl rfl⟩
        refine ⟨R,f,?_,hR⟩
        rw [c1] at hii
        generalize z[0] % 40=M at *
        simp only [iF] at this ⊢;rw [aj jv.eq_1]
        simp at this
        simp (disch:=omega) [h1,c2,c3,hm,hii,hfr,aI,wU8,H.inl,aB,H.pp,ppB,this]
      · obtain ⟨R,f,this,hR⟩:=step (fre ks l[i]) rfl ⟨gx,c1,by unfold fre;simp only;omega,.inr rfl⟩
        refine ⟨R,f,?_,hR⟩
        rw [c1] at hii
        simp only [fre] at this
        simp only [iF] at this ⊢;rw [aj jv.eq_1]
        simp at this
        simp (disch:=omega) [h1,c2,c3,hii,hfr,aI,wU8,H.inl,aB,H.pp,ppB,this]
    · obtain ⟨R,f,this,hR⟩:=step (fre ks l[i]) rfl ⟨gx,c1,by unfold fre;simp only;omega,.inr rfl⟩
      refine ⟨R,f,?_,hR⟩
      rw [c1] at hii
      simp only [fre] at this
      simp only [iF] at this ⊢;rw [aj jv.eq_1]
      simp at this
      simp (disch:=omega) [h1,c2,hii,hfr,aI,wU8,H.inl,aB,H.pp,ppB,this]
  · have c1':0 < itE ks 12 l[i] false:=by omega
    obtain ⟨R,f,this,hR⟩:=ih (i+1) (by omega) (by
     simp only [jI,List.map_nil,List.nil_append] at hn ⊢;exact (List.nodup_cons.1 hn).2)
    refine ⟨R,f,?_,hR⟩
    generalize itE ks 12 l[i] false=E at *
    simp only [iF] at this ⊢;rw [aj jv.eq_1]
    simp at this
    simp (disch:=omega) [h1,c1',hii,aI,H.inl,aB,H.pp,ppB,this]
theorem agZ (H:uM C) (hone:∀ q:Q4,QIn q→∃ i:It,FnW C 422 [.agg (eQ q)]=some (eIt i)∧Good i) (q:List Q4) (qe:Bool) (hq:∀ x ∈ q,QIn x) (z:List Int) (ze:Bool) (hz:∀ s ∈ z,0≤s∧s≤255) (hzl:z.length < 9223372036854775808) (r:Int) (hr:0≤r∧r≤255) :
 ∃ (R:List En) (f:Bool),FnW C 130 [.agg [.ro 4 (q.map eQ) qe,.ro 1 (z.map eU8) ze,.int .u8 r]]=some (.tup [aR (ak r) true 12,aL R f])∧R.length≤12∧(∀ e ∈ R,lD (ak r) e)∧(jI R).Nodup:=by
 obtain ⟨I,hI,l1,l2,l3⟩:=YG H hone q qe hq
 have hk:=Qv H r hr
 obtain ⟨R,f,h,hR⟩:=ac7 H (ak r) (afZ r hr) I false l1 l2 q qe z ze hz hzl r I.length 0 (by simp) (by simpa [jI] using l3)
 refine ⟨R,f,?_,hR⟩
 rw [aF H.f130 rfl]
 generalize ak r=ks at *
 simp only [iF] at h
 simp at h
 simp [adT,hI,hk,h,H.inl,aB,H.pp,ppB]
mutual
theorem aa6 (i:It):∀ p:Pt,mk i.own p=mk i p
 | ⟨k,t,y,s,se,tx,ch,ce⟩=>by rw [mk,mk,UG i ch];rfl
theorem UG (i:It):∀ l:List Pt,mks i.own l=mks i l
 | []=>rfl
 | p::r=>by rw [mks,mks,aa6 i p,UG i r]
end
theorem OZ (ks:List Kd) (hb:∀ t:Int,0≤t→t≤2→1≤(jK ks t).b∧(jK ks t).b≤30):∀ (l:List En) (s:List Int),(∀ e ∈ l,lD ks e)→(s++jI l).Nodup→chk ks 12 s l=0
 | [],_,_,_=>rfl
 | e::r,s,hg,hn=>by
  have h1:=hg e (by simp)
  have h2:s.contains e.i.k=false:=by
   simp only [jI,List.map_cons] at hn
   have:=(List.nodup_append.1 hn).2.2
   simp only [List.contains_eq_mem,decide_eq_false_iff_not]
   intro q
   exact this _ q _ (by simp) rfl
  have h3:enE ks 12 e false=0:=by
   unfold enE
   rw [h1.ok]
   have hh:hOk e.s=true:=by unfold hOk;have:=h1.s;simp;omega
   simp [hh,h1.b]
  rw [chk,h2,h3]
  simp only [ne_eq,not_true_eq_false,if_false]
  refine OZ ks hb r _ (fun x hx=>hg x (by simp [hx])) ?_
  simpa [jI] using hn
theorem Qr (ks:List Kd):∀ (l:List En) (s:Int),(∀ e ∈ l,lD ks e)→0≤s→s+40 * l.length≤4611686018427387904→yB s l≤s+40 * l.length
 | [],s,_,_,_=>by simp [yB]
 | e::r,s,hg,h0,h=>by
  have h1:=(hg e (by simp)).s
  have h2:imax e.s 0=e.s:=NW (by omega)
  simp only [List.length_cons] at h ⊢
  rw [yB,h2,if_neg (by omega)]
  have:=Qr ks r (s+e.s) (fun x hx=>hg x (by simp [hx])) (by omega) (by omega)
  omega
theorem Ux (r:Int) (hr:0≤r∧r≤255) (l:List En) (hl:l.length≤1024) (hg:∀ e ∈ l,lD (ak r) e) (hn:(jI l).Nodup):ckE (ak r) 12 l=0:=by
 have h1:=OZ (ak r) (fun t a b=>Vw r hr t ⟨a,b⟩) l [] hg (by simpa using hn)
 have h2:=Qr (ak r) l 0 hg (by omega) (by omega)
 have h3:ovE l=0:=by unfold ovE tot;rw [if_neg (by omega)]
 unfold ckE
 rw [aj6 r hr,h1,if_neg (by simp),if_neg (by omega),if_neg (by simp),h3]
theorem lD.en {ks:List Kd} {e:En} (h:lD ks e):Ie e:=⟨h.i.it,by have:=h.s;omega⟩
theorem lD.ow {ks:List Kd} {e:En} (h:lD ks e):lD ks e.own:=by
 refine ⟨⟨h.i.k,h.i.t,h.i.x,h.i.l,h.i.m⟩,?_,h.s,h.b⟩
 have h1:=h.ok
 have e1:∀ i:It,yC ks.length i.own=yC ks.length i:=fun i=>rfl
 have e2:∀ (i:It) (p:Pt),lK p i.own 12=lK p i 12:=by
  intro i p
  have:mkN i.own p=mkN i p:=by
   have m1:∀ p,Go.D.mk i.own p=Go.D.mk i p:=by
    intro p
    exact (aa6 i p)
   unfold mkN;rw [m1]
  unfold lK;rw [this];rfl
 unfold itE at h1 ⊢
 simp only [En.own,e1,e2]
 exact h1
end Go.D
end
section
end
section
namespace Go.D
open Go Go.Pav Go.Pw P
def sm:List En→Int
 | []=>0
 | e::r=>e.s+sm r
def top (l:List En) (i:Nat):Int:=sm (l.take i)
theorem IY (l:List En):top l 0=0:=rfl
theorem Yv:∀ (a b:List En),sm (a++b)=sm a+sm b
 | [],b=>by simp [sm]
 | e::r,b=>by simp only [List.cons_append,sm];rw [Yv r b];omega
theorem qU {l:List En} {i:Nat} (h:i < l.length):top l (i+1)=top l i+l[i].s:=by
 unfold top
 rw [List.take_add_one,List.getElem?_eq_getElem h,Yv]
 simp [sm]
theorem kF (l:List En):top l l.length=sm l:=by unfold top;rw [List.take_length]
theorem aiX {l:List En} {i:Nat} (h:l.length≤i):top l i=sm l:=by unfold top;rw [List.take_of_length_le h]
def szE (l:List En):Int:=if 1024 < l.length then 3 else if l.any (fun e=>!hOk e.s) then 12 else ovE l
structure Szd (l:List En):Prop where
 n:l.length≤1024
 s:∀ x ∈ l,1≤x.s∧x.s≤2305843009213693952
 t:sm l≤4611686018427387904
theorem YH:∀ (l:List En),(∀ x ∈ l,1≤x.s)→0≤sm l
 | [],_=>by simp [sm]
 | e::r,h=>by
  have h1:=h e (by simp)
  have h2:=YH r fun x hx=>h x (by simp [hx])
  rw [sm];omega
theorem Lp:∀ (l:List En) (s:Int),(∀ x ∈ l,1≤x.s)→s≤4611686018427387904 →
 (s+sm l≤4611686018427387904∧yB s l=s+sm l)∨(4611686018427387904 < s+sm l∧yB s l=4611686018427387905)
 | [],s,_,h=>by left;simp [sm,yB,h]
 | e::r,s,hs,h=>by
  have h1:=hs e (by simp)
  have h2:=YH r fun x hx=>hs x (by simp [hx])
  have h3:imax e.s 0=e.s:=NW (by omega)
  rw [yB,sm,h3]
  by_cases c:4611686018427387904 - s < e.s
  · right;rw [if_pos c];omega
  · rw [if_neg c]
    have:=Lp r (s+e.s) (fun x hx=>hs x (by simp [hx])) (by omega)
    rw [← Int.add_assoc];exact this
theorem U7 (n:Int):hOk n=true↔1≤n∧n≤2305843009213693952:=by unfold hOk;simp
theorem yI {l:List En} (h:szE l=0):Szd l:=by
 unfold szE at h
 by_cases c1:1024 < l.length
 · rw [if_pos c1] at h;omega
 · rw [if_neg c1] at h
   by_cases c2:l.any (fun e=>!hOk e.s)=true
   · rw [if_pos c2] at h;omega
   · rw [if_neg c2] at h
     have hs:∀ x ∈ l,1≤x.s∧x.s≤2305843009213693952:=by
      intro x hx
      rw [← U7]
      simp only [List.any_eq_true,not_exists,not_and] at c2
      simpa using c2 x hx
     refine ⟨by omega,hs,?_⟩
     rcases Lp l 0 (fun x hx=>(hs x hx).1) (by omega) with q | q
     · omega
     · unfold ovE tot at h
       rw [q.2] at h
       simp at h
theorem Szd.tot {l:List En} (h:Szd l):tot l=sm l:=by
 unfold Go.D.tot
 have h2:=h.t
 rcases Lp l 0 (fun x hx=>(h.s x hx).1) (by omega) with q | q
 · omega
 · omega
theorem Ri {l:List En} (h:Szd l):szE l=0:=by
 have h1:=h.n
 have h2:=h.t
 have h3:ovE l=0:=by unfold ovE;rw [h.tot,if_neg (by omega)]
 unfold szE
 rw [if_neg (by omega),h3,if_neg]
 intro c
 obtain ⟨x,hx,c⟩:=List.any_eq_true.1 c
 have:=(U7 x.s).2 (h.s x hx)
 rw [this] at c
 cases c
theorem Szd.nn {l:List En} (h:Szd l):0≤sm l:=YH l fun x hx=>(h.s x hx).1
theorem Szd.lt {l:List En} (h:Szd l) {i:Nat} (hi:i < l.length):top l i+1≤top l (i+1):=by
 rw [qU hi]
 have:=(h.s _ (List.getElem_mem hi)).1
 omega
theorem Szd.mono {l:List En} (h:Szd l) {i:Nat}:∀ {j:Nat},i≤j→j≤l.length→top l i+((j:Int) - i)≤top l j:=by
 intro j hij
 induction j with
 | zero =>
  intro _;have:i=0:=by omega
  subst this;simp
 | succ j ih =>
  intro hj
  by_cases c:i=j+1
  · subst c;omega
  · have h1:=ih (by omega) (by omega)
    have h2:=h.lt (i:=j) (by omega)
    omega
theorem Szd.rng {l:List En} (h:Szd l) (i:Nat):0≤top l i∧top l i≤sm l:=by
 by_cases c:i≤l.length
 · have h1:=h.mono (i:=0) (j:=i) (by omega) c
   have h2:=h.mono (i:=i) (j:=l.length) c (by omega)
   rw [IY] at h1
   rw [kF] at h2
   omega
 · rw [aiX (by omega)];have:=h.nn;omega
theorem Szd.small {l:List En} (h:Szd l) (i:Nat):-9223372036854775808≤top l i∧top l i≤4611686018427387904:=by
 have:=h.rng i
 have:=h.t
 omega
def G5 (l:List En) (x:Int):Nat→Nat→Int
 | 0,_=>-1
 | n+1,i=>if top l i≤x∧x < top l (i+1) then i else G5 l x n (i+1)
def rowA (l:List En) (x:Int):Int:=G5 l x l.length 0
theorem Szd.ae5 {l:List En} (h:Szd l) {x:Int} {p:Nat} (hp:p < l.length) (h1:top l p≤x) (h2:x < top l (p+1)):∀ n i,n+i=l.length→i≤p→G5 l x n i=p:=by
 intro n
 induction n with
 | zero=>intro i hi hip;omega
 | succ n ih =>
  intro i hi hip
  rw [G5]
  by_cases c:i=p
  · subst c;rw [if_pos ⟨h1,h2⟩]
  · have:=h.mono (i:=i+1) (j:=p) (by omega) (by omega)
    rw [if_neg (by omega)]
    exact ih (i+1) (by omega) (by omega)
theorem Szd.nJ {l:List En} (h:Szd l) {x:Int} {p:Nat} (hp:p < l.length) (h1:top l p≤x) (h2:x < top l (p+1)):rowA l x=p:=h.ae5 hp h1 h2 _ _ (by simp) (by omega)
theorem Szd.ae4 {l:List En} (h:Szd l) {x:Int} (hx:x < 0∨sm l≤x):∀ n i,n+i=l.length→G5 l x n i=-1:=by
 intro n
 induction n with
 | zero=>intro i _;rfl
 | succ n ih =>
  intro i hi
  have h1:=h.rng i
  have h2:=h.rng (i+1)
  rw [G5,if_neg (by omega)]
  exact ih (i+1) (by omega)
theorem Szd.acY {l:List En} (h:Szd l) {x:Int} (hx:x < 0∨sm l≤x):rowA l x=-1:=h.ae4 hx _ _ (by simp)
theorem Szd.row {l:List En} (h:Szd l) {x:Int} (h0:0≤x) (h1:x < sm l):∃ p,p < l.length∧top l p≤x∧x < top l (p+1):=by
 have key:∀ n,n≤l.length→top l n≤x∨∃ p,p < n∧top l p≤x∧x < top l (p+1):=by
  intro n
  induction n with
  | zero=>intro _;left;rw [IY];exact h0
  | succ n ih =>
   intro hn
   rcases ih (by omega) with q | ⟨p,q1,q2⟩
   · by_cases c:top l (n+1)≤x
     · exact .inl c
     · exact .inr ⟨n,by omega,q,by omega⟩
   · exact .inr ⟨p,by omega,q2⟩
 rcases key l.length (by omega) with q | ⟨p,q⟩
 · rw [kF] at q;omega
 · exact ⟨p,q⟩
def jc (l:List En) (v:Int):Int:=if sm l < v then 0 else sm l - v
def vpE (l:List En) (s v:Int):Int:=if szE l≠0 then szE l else if v < 1∨2147483648 < v then 1 else if s < 0∨jc l v < s then 4 else 0
def yx (l:List En) (s v:Int):Int:=if l.length=0 then 0 else rowA l s
def yA (l:List En) (s v:Int):Int:=if l.length=0 then 0 else rowA l (qV (s+v) (sm l) - 1)+1
structure Vp (l:List En) (o v:Int):Prop extends Szd l where
 v0:1≤v∧v≤2147483648
 s0:0≤o∧o≤jc l v
theorem af4 {l:List En} {s v:Int} (h:vpE l s v=0):Vp l s v:=by
 unfold vpE at h
 by_cases c1:szE l=0
 · rw [if_neg (by simpa using c1)] at h
   by_cases c2:v < 1∨2147483648 < v
   · rw [if_pos c2] at h;omega
   · rw [if_neg c2] at h
     by_cases c3:s < 0∨jc l v < s
     · rw [if_pos c3] at h;omega
     · exact ⟨yI c1,by omega,by omega⟩
 · rw [if_pos c1] at h;exact absurd h c1
theorem abk {l:List En} {s v:Int} (h:Vp l s v):vpE l s v=0:=by
 have:=h.v0
 have:=h.s0
 unfold vpE
 rw [Ri h.toSzd,if_neg (by simp),if_neg (by omega),if_neg (by omega)]
theorem Vp.ends {l:List En} {s v:Int} (h:Vp l s v) (hl:0 < l.length):∃ p q:Nat,p < l.length∧q < l.length∧p≤q∧(top l p≤s∧s < top l (p+1))∧(top l q≤qV (s+v) (sm l) - 1∧qV (s+v) (sm l) - 1 < top l (q+1)):=by
 have h1:=h.v0
 have h2:=h.s0
 have h3:1≤sm l:=by
  have:=h.mono (i:=0) (j:=l.length) (by omega) (by omega)
  rw [IY,kF] at this;omega
 have h4:s < sm l:=by unfold jc at h2;split at h2 <;> omega
 have h5:s+1≤qV (s+v) (sm l)∧qV (s+v) (sm l)≤sm l:=by unfold qV;split <;> omega
 obtain ⟨p,p1,p2,p3⟩:=h.row h2.1 h4
 obtain ⟨q,q1,q2,q3⟩:=h.row (x:=qV (s+v) (sm l) - 1) (by omega) (by omega)
 refine ⟨p,q,p1,q1,?_,⟨p2,p3⟩,q2,q3⟩
 by_cases c:p≤q
 · exact c
 · have:=h.mono (i:=q+1) (j:=p) (by omega) (by omega)
   omega
theorem Vp.seen {l:List En} {s v:Int} (h:Vp l s v) {p q:Nat} (hp:p < l.length) (hq:q < l.length) (h1:top l p≤s∧s < top l (p+1)) (h2:top l q≤qV (s+v) (sm l) - 1∧qV (s+v) (sm l) - 1 < top l (q+1)) {i:Nat} (hi:i < l.length) :
 (top l i < s+v∧s < top l (i+1))↔(p≤i∧i≤q):=by
 have e1:qV (s+v) (sm l)≤s+v:=by unfold qV;split <;> omega
 have hm:=h.rng (i+1)
 have hlt:=h.lt hi
 constructor
 · rintro ⟨a,b⟩
   constructor
   · by_cases c:p≤i
     · exact c
     · have:=h.mono (i:=i+1) (j:=p) (by omega) (by omega);omega
   · by_cases c:i≤q
     · exact c
     · have:=h.mono (i:=q+1) (j:=i) (by omega) (by omega)
       have e2:s+v≤top l i:=by
        unfold qV at h2;split at h2 <;> omega
       omega
 · rintro ⟨a,b⟩
   have m1:=h.mono (i:=i) (j:=q) b (by omega)
   have m2:=h.mono (i:=p+1) (j:=i+1) (by omega) (by omega)
   omega
end Go.D
end
section
namespace Go.D
open Go Go.Pav Go.Pw P
attribute [-simp] List.getElem_cons_drop
variable {C:aG}
structure fU (C:aG):Prop extends DI C where
 f122:C.fns.get 122=some Wj
 f249:C.fns.get 249=some ae6
 f250:C.fns.get 250=some WU
 f246:C.fns.get 246=some abu
 f247:C.fns.get 247=some afe
 ajS:C.fns.get 411=some ab9
 akS:C.fns.get 412=some afc
 f120:C.fns.get 120=some Ue
 f248:C.fns.get 248=some MX
 f121:C.fns.get 121=some WY
 f251:C.fns.get 251=some Ze
 f252:C.fns.get 252=some Ju
 f253:C.fns.get 253=some aeX
 f254:C.fns.get 254=some ade
 f255:C.fns.get 255=some ZI
 f272:C.fns.get 272=some X0
 f327:C.fns.get 327=some aac
def SzB (l:List En):Prop:=∀ x ∈ l,-9223372036854775808≤x.s∧x.s≤9223372036854775807
def szF:Nat→List En→Int
 | _,[]=>-1
 | i,e::r=>if hOk e.s=true then szF (i+1) r else i
theorem Vg:∀ (l:List En) (i:Nat),decide (0≤szF i l)=l.any (fun e=>!hOk e.s)
 | [],i=>by simp [szF]
 | e::r,i=>by
  rw [szF,List.any_cons]
  cases c:hOk e.s
  · simp
  · simp [Vg r (i+1)]
theorem Yw (H:fU C) (x:En):FnW C 250 [aE x]=some (.bool (!hOk x.s)):=by
 rw [aF H.f250 rfl]
 unfold hOk
 by_cases c1:1≤x.s
 · have c1':¬ x.s < 1:=by omega
   by_cases c2:x.s≤2305843009213693952
   · have c2':¬ 2305843009213693952 < x.s:=by omega
     simp [WU,c1,c1',c2,c2']
   · have c2':2305843009213693952 < x.s:=by omega
     simp [WU,c1,c1',c2,c2']
 · have c1':x.s < 1:=by omega
   simp [WU,c1,c1']
theorem Sm (H:fU C) (l:List En) (e:Bool) (hl:l.length≤1000000):∀ n i,n+i=l.length →
 Ap C ⟨[(8,.int .i64 i),(7,.int .i64 l.length),(1,.fn 250 []),(0,.ro 6 (l.map eEn) e)],[],0⟩=some (.int .i64 (szF i (l.drop i))):=by
 intro n
 induction n with
 | zero =>
  intro i hi
  simp only [Ap];rw [aj xM.eq_1]
  have h1:l.drop i=[]:=List.drop_eq_nil_of_le (by omega)
  have h3:¬ i < l.length:=by omega
  simp (disch:=omega) [aj J4.eq_1,h1,h3,szF]
 | succ n ih =>
  intro i hi
  have h1:i < l.length:=by omega
  have hf:=Yw H l[i]
  have:=ih (i+1) (by omega)
  rw [drop_cons h1,szF]
  simp only [aE,eEn] at hf
  cases c:hOk l[i].s
  · rw [if_neg (by simp)]
    simp [c] at hf
    simp only [Ap];rw [aj xM.eq_1]
    simp (disch:=omega) [h1,aI,hf,H.inl,aB,H.pp,ppB]
  · rw [if_pos rfl]
    simp [c] at hf
    simp only [Ap] at this ⊢;rw [aj xM.eq_1]
    simp at this
    simp (disch:=omega) [h1,aI,hf,H.inl,aB,H.pp,ppB,this]
theorem Yd (H:fU C) (l:List En) (e:Bool) (hl:l.length≤1000000):FnW C 249 [.ro 6 (l.map eEn) e,.fn 250 []]=some (.bool (l.any fun e=>!hOk e.s)):=by
 have h:=Sm H l e hl l.length 0 (by simp)
 have key:FnW C 402 [.ro 6 (l.map eEn) e,.fn 250 []]=some (.int .i64 (szF 0 l)):=by
  simp only [Ap] at h
  simp at h
  rw [aF H.aiW rfl]
  simp [adn,h]
 have h2:=Vg l 0
 rw [aF H.f249 rfl,← h2]
 simp [ae6,key,H.inl,aB,H.pp,ppB]
theorem oC (H:fU C) (l:List En) (e:Bool) (hl:l.length≤1000000) (hs:SzB l):FnW C 122 [aL l e]=some (.int .i64 (szE l)):=by
 have h1:=Yd H l e hl
 have h2:=Ns H.toDI l e hl hs
 rw [aF H.f122 rfl]
 unfold szE ovE
 generalize tot l=T at *
 by_cases c1:1024 < l.length
 · simp [Wj,c1]
 · cases c2:l.any fun e=>!hOk e.s
   · rw [c2] at h1
     by_cases c3:4611686018427387904 < T <;> simp [Wj,c1,h1,h2,c3,H.inl,aB,H.pp,ppB]
   · rw [c2] at h1
     simp [Wj,c1,h1,h2,H.inl,aB,H.pp,ppB]
theorem XF (H:DI C) (l:List En) (e:Bool) (hl:l.length≤1000000) (hs:SzB l):FnW C 407 [.ro 6 (l.map eEn) e]=some (.int .i64 (ovE l)):=by
 have h:=YI H l e hl hs
 rw [aF H.agA rfl]
 unfold ovE
 by_cases c:4611686018427387904 < tot l <;> simp [acA,h,H.inl,aB,H.pp,ppB,c]
theorem Px (H:fU C) (l:List En) (e:Bool) (hl:l.length≤1000000) (hs:SzB l):∀ n i,n+i=l.length →
 wW C ⟨[(3,.int .i64 i),(0,.ro 6 (l.map eEn) e)],[],0⟩=some (.int .i64 (if (l.drop i).any (fun e=>!hOk e.s) then 12 else ovE l)):=by
 intro n
 induction n with
 | zero =>
  intro i hi
  have h1:l.drop i=[]:=List.drop_eq_nil_of_le (by omega)
  have h3:¬ i < l.length:=by omega
  have ht:=XF H.toDI l e hl hs
  simp only [wW];rw [aj sJ.eq_1]
  simp (disch:=omega) [aj Nb.eq_1,h1,h3,ht,H.inl,aB,H.pp,ppB]
 | succ n ih =>
  intro i hi
  have h1:i < l.length:=by omega
  have:=ih (i+1) (by omega)
  rw [drop_cons h1,List.any_cons]
  generalize (l.drop (i+1)).any (fun e=>!hOk e.s)=X at *
  unfold hOk
  by_cases c1:1≤l[i].s
  · have c1':¬ l[i].s < 1:=by omega
    by_cases c2:l[i].s≤2305843009213693952
    · have c2':¬ 2305843009213693952 < l[i].s:=by omega
      simp only [wW] at this ⊢;rw [aj sJ.eq_1]
      simp at this
      simp (disch:=omega) [h1,aI,c1,c1',c2,c2',this]
    · have c2':2305843009213693952 < l[i].s:=by omega
      simp only [wW];rw [aj sJ.eq_1]
      simp (disch:=omega) [h1,aI,c1,c1',c2,c2']
  · have c1':l[i].s < 1:=by omega
    simp only [wW];rw [aj sJ.eq_1]
    simp (disch:=omega) [h1,aI,c1,c1']
theorem IQ (H:fU C) (l:List En) (e:Bool) (hl:l.length≤1000000) (hs:SzB l):FnW C 251 [.ro 6 (l.map eEn) e]=some (.int .i64 (szE l)):=by
 have h:=Px H l e hl hs l.length 0 (by simp)
 rw [List.drop_zero] at h
 rw [aF H.f251 rfl]
 unfold szE
 by_cases c1:1024 < l.length
 · simp [Ze,c1]
 · generalize l.any (fun e=>!hOk e.s)=X at *
   simp only [wW] at h
   simp at h
   simp [Ze,c1,h]
def tps (l:List En):List Int:=(List.range (l.length+1)).map (top l)
theorem fJ (l:List En):(tps l).length=l.length+1:=by simp [tps]
theorem A8 (l:List En) {i:Nat} (h:i < (tps l).length):(tps l)[i]=top l i:=by simp [tps]
theorem Xq (H:fU C) (l:List En) (e:Bool) (hz:Szd l):∀ n i,n+i=l.length→∀ G:List Int,G=(List.range (i+1)).map (top l)→G.length=i+1 →
 Eb C ⟨[(20,.int .i64 i),(19,.int .i64 l.length),(5,.sl 0 1 0 (l.length+1) (l.length+1) true),(1,.ptr 1 0 0)],[(0,.cells 1 (G.map eI++List.replicate n [.int .i64 0]) true true),(1,.cells 1 [[.ro 6 (l.map eEn) e]] true true)],2⟩ =
  some (.tup [.ro 1 ((tps l).map eI) true,.int .i64 0]):=by
 intro n
 induction n with
 | zero =>
  intro i hi G hG hGl
  have h3:¬ i < l.length:=by omega
  have h6:List.take (l.length+1) (List.map eI G)=List.map eI G:=List.take_of_length_le (by simp;omega)
  have h7:G.length=l.length+1:=by omega
  have h8:tps l=G:=by rw [hG];unfold tps;rw [show i=l.length by omega]
  rw [h8]
  simp only [Eb];rw [aj Ar.eq_1]
  simp [aj KC.eq_1,h3,h6,h7]
 | succ n ih =>
  intro i hi G hG hGl
  have hn:=hz.n
  have h1:i < l.length:=by omega
  have hr:=hz.small i
  have hr2:=hz.small (i+1)
  have this:=ih (i+1) (by omega) (G++[top l (i+1)]) (by rw [List.range_succ,List.map_append,← hG];rfl) (by simp [hGl])
  have hg:(G.map eI++List.replicate (n+1) [AV.int .i64 0])[i]?=some (eI (top l i)):=by
   rw [List.getElem?_append_left (by simp;omega),List.getElem?_map,hG]
   simp
  have h1b:i < l.length+1:=by omega
  rw [qU h1] at hr2 this
  simp only [Eb] at this ⊢;rw [aj Ar.eq_1]
  simp at this
  simp (disch:=omega) [h1,h1b,aI,hg,Fp,F6,hGl,this]
theorem Ba (H:fU C) (l:List En) (e:Bool) (hz:Szd l):FnW C 246 [aL l e]=some (.tup [.ro 1 ((tps l).map eI) true,.int .i64 0]):=by
 have hn:=hz.n
 have h1:=oC H l e (by omega) (fun x hx=>by have:=hz.s x hx;omega)
 rw [Ri hz] at h1
 have h:=Xq H l e hz l.length 0 (by simp) [0] (by simp [IY]) rfl
 have h2:(l.length+1) * 9≤35184372088832:=by omega
 have h3:(l.length:Int)+1=((l.length+1:Nat):Int):=by omega
 rw [aF H.f246 rfl]
 simp only [Eb] at h
 simp at h
 simp (disch:=omega) [abu,h1,h2,aI,List.replicate_succ,h,H.inl,aB,H.pp,ppB]
theorem PZ (H:fU C) (l:List En) (e:Bool) (hl:l.length≤1000000) (hs:SzB l) (hz:szE l≠0):FnW C 246 [aL l e]=some (.tup [.ro 1 [] true,.int .i64 (szE l)]):=by
 have h1:=oC H l e hl hs
 rw [aF H.f246 rfl]
 generalize szE l=E at *
 simp (disch:=omega) [abu,h1,hz,H.inl,aB,H.pp,ppB]
theorem aal (H:fU C) (l:List En) (x:Int) (k:Nat) (hk:k < l.length) (hn:l.length≤1024) :
 FnW C 412 [.int .i64 k,.rop [.ro 1 ((tps l).map eI) true],.rop [.int .i64 x]]=some (.bool (decide (x < top l (k+1)))):=by
 have h1:k+1 < (tps l).length:=by rw [fJ];omega
 have h2:=A8 l h1
 rw [aF H.akS rfl]
 simp (disch:=omega) [afc,aI,h1,h2]
theorem PX (H:fU C) (l:List En) (x:Int) (hz:Szd l) (p:Nat) (hp:p < l.length) (hp1:top l p≤x) (hp2:x < top l (p+1)):∀ (n i j:Nat),j - i≤n→i≤p→p≤j→j≤l.length →
 vI C ⟨[(6,.int .i64 j),(5,.int .i64 i),(1,.fn 412 [.rop [.ro 1 ((tps l).map eI) true],.rop [.int .i64 x]])],[],0⟩=some (.int .i64 p):=by
 intro n
 induction n with
 | zero =>
  intro i j h1 h2 h3 h4
  have h5:i=p:=by omega
  have h6:j=p:=by omega
  subst h5
  subst h6
  simp only [vI];rw [aj sW.eq_1]
  simp (disch:=omega) [aj Et.eq_1]
 | succ n ih =>
  intro i j h1 h2 h3 h4
  have hn:=hz.n
  by_cases c:i < j
  · obtain ⟨m,hm⟩:∃ m,m=(i+j) / 2:=⟨_,rfl⟩
    have hk:m < l.length:=by omega
    have hf:=aal H l x m hk hn
    have hw:IntKind.i64.wrap ((IntKind.u64.wrap ((i:Int)+j)).fdiv (2 ^ min 1 IntKind.u64.bits))=m:=by
     have e1:(2:Int) ^ min 1 IntKind.u64.bits=2:=by decide
     rw [sG (by omega) (by omega),e1,Int.fdiv_eq_ediv_of_nonneg _ (by omega)]
     have e2:((i:Int)+j) / 2=m:=by omega
     rw [e2,aI (by omega) (by omega)]
    by_cases c2:x < top l (m+1)
    · have h7:p≤m:=by
       by_cases d:p≤m
       · exact d
       · have:=hz.mono (i:=m+1) (j:=p) (by omega) (by omega);omega
      have this:=ih i m (by omega) h2 h7 (by omega)
      rw [decide_eq_true c2] at hf
      simp only [vI] at this ⊢;rw [aj sW.eq_1]
      try simp at this
      simp (disch:=omega) [c,aI,hw,hf,this,H.inl,aB,H.pp,ppB]
    · have h7:m+1≤p:=by
       by_cases d:m+1≤p
       · exact d
       · have:=hz.mono (i:=p+1) (j:=m+1) (by omega) (by omega);omega
      have this:=ih (m+1) j (by omega) h7 h3 h4
      rw [decide_eq_false c2] at hf
      simp only [vI] at this ⊢;rw [aj sW.eq_1]
      try simp at this
      simp (disch:=omega) [c,aI,hw,hf,this,H.inl,aB,H.pp,ppB]
  · have h5:i=p:=by omega
    have h6:j=p:=by omega
    subst h5
    subst h6
    simp only [vI];rw [aj sW.eq_1]
    simp (disch:=omega) [aj Et.eq_1]
theorem Gj (H:fU C) (l:List En) (x:Int) (hz:Szd l) (p:Nat) (hp:p < l.length) (hp1:top l p≤x) (hp2:x < top l (p+1)):FnW C 247 [.ro 1 ((tps l).map eI) true,.int .i64 x]=some (.int .i64 p):=by
 have hn:=hz.n
 have h:=PX H l x hz p hp hp1 hp2 l.length 0 l.length (by omega) (by omega) (by omega) (by omega)
 have key:FnW C 411 [.int .i64 l.length,.fn 412 [.rop [.ro 1 ((tps l).map eI) true],.rop [.int .i64 x]]]=some (.int .i64 p):=by
  rw [aF H.ajS rfl]
  simp only [vI] at h
  simp at h
  simp [ab9,h]
 have h3:((l.length:Int)+1) - 1=l.length:=by omega
 rw [aF H.f247 rfl]
 simp (disch:=omega) [afe,fJ,aI,h3,key,H.inl,aB,H.pp,ppB]
theorem Qy (l:List En) (h:l.length < (tps l).length):(tps l)[l.length]=sm l:=by
 rw [A8,kF]
def atR (l:List En) (x:Int):AV:=if szE l≠0 then .tup [.int .i64 0,.int .i64 (szE l)] else if x < 0∨sm l≤x then .tup [.int .i64 0,.int .i64 4] else .tup [.int .i64 (rowA l x),.int .i64 0]
theorem agm (H:fU C) (l:List En) (e:Bool) (hl:l.length≤1000000) (hs:SzB l) (x:Int):FnW C 120 [aL l e,.int .i64 x]=some (atR l x):=by
 unfold atR
 by_cases hz0:szE l=0
 · rw [if_neg (by simpa using hz0)]
   have hz:=yI hz0
   have hn:=hz.n
   have h1:=Ba H l e hz
   have h3:((l.length:Int)+1) - 1=l.length:=by omega
   have h4:=Qy l
   have h5':l.length < (tps l).length:=by rw [fJ];omega
   have h5:l.length < (tps l).length:=by rw [fJ];omega
   rw [aF H.f120 rfl]
   by_cases c1:x < 0
   · rw [if_pos (.inl c1)]
     simp (disch:=omega) [Ue,h1,c1,H.inl,aB,H.pp,ppB]
   · by_cases c2:sm l≤x
     · rw [if_pos (.inr c2)]
       simp (disch:=omega) [Ue,h1,c1,c2,fJ,h3,h4,h5',aI,H.inl,aB,H.pp,ppB]
     · rw [if_neg (by omega)]
       obtain ⟨p,p1,p2,p3⟩:=hz.row (by omega:0≤x) (by omega)
       have h6:=Gj H l x hz p p1 p2 p3
       rw [hz.nJ p1 p2 p3]
       simp (disch:=omega) [Ue,h1,c1,c2,fJ,h3,h4,h5',h6,aI,H.inl,aB,H.pp,ppB]
 · rw [if_pos hz0]
   have h1:=PZ H l e hl hs hz0
   rw [aF H.f120 rfl]
   generalize szE l=E at *
   simp (disch:=omega) [Ue,h1,hz0,H.inl,aB,H.pp,ppB]
theorem Dt (H:fU C) (l:List En) (e:Bool) (hl:l.length≤1000000) (hs:SzB l) (o v:Int) (ho:-9223372036854775808≤o∧o≤9223372036854775807) (hv:-9223372036854775808≤v∧v≤9223372036854775807) :
 FnW C 248 [aL l e,.int .i64 o,.int .i64 v]=some (.int .i64 (vpE l o v)):=by
 have h1:=oC H l e hl hs
 rw [aF H.f248 rfl]
 unfold vpE
 by_cases hz0:szE l=0
 · rw [hz0] at h1 ⊢
   have hz:=yI hz0
   have h2:=Ns H.toDI l e hl hs
   have h3:=hz.nn
   have h4:=hz.t
   rw [hz.tot] at h2
   rw [if_neg (by simp)]
   by_cases c1:v < 1
   · simp (disch:=omega) [MX,h1,c1,H.inl,aB,H.pp,ppB]
   · by_cases c2:2147483648 < v
     · simp (disch:=omega) [MX,h1,c1,c2,H.inl,aB,H.pp,ppB]
     · rw [if_neg (by omega)]
       by_cases c3:o < 0
       · simp (disch:=omega) [MX,h1,c1,c2,c3,H.inl,aB,H.pp,ppB]
       · have h5:(if v < sm l then sm l - v else 0)=jc l v:=by unfold jc;split <;> split <;> omega
         by_cases c4:jc l v < o
         · simp (disch:=omega) [MX,h1,c1,c2,c3,c4,h2,h5,aI,imax,H.inl,aB,H.pp,ppB]
         · simp (disch:=omega) [MX,h1,c1,c2,c3,c4,h2,h5,aI,imax,H.inl,aB,H.pp,ppB]
 · rw [if_pos hz0]
   generalize szE l=E at *
   simp (disch:=omega) [MX,h1,hz0,H.inl,aB,H.pp,ppB]
theorem lW (H:fU C) (l:List En) (e:Bool) (hl:l.length≤1000000) (hs:SzB l) (o v:Int) (ho:-9223372036854775808≤o∧o≤9223372036854775807) (hv:-9223372036854775808≤v∧v≤9223372036854775807) :
 FnW C 121 [aL l e,.int .i64 o,.int .i64 v]=some (if vpE l o v≠0 then .tup [.int .i64 0,.int .i64 0,.int .i64 (vpE l o v)] else .tup [.int .i64 (yx l o v),.int .i64 (yA l o v),.int .i64 0]):=by
 have h1:=Dt H l e hl hs o v ho hv
 rw [aF H.f121 rfl]
 by_cases c0:vpE l o v=0
 · rw [if_neg (by simpa using c0)]
   have hp:=af4 c0
   have hn:=hp.n
   rw [c0] at h1
   have h2:=Ba H l e hp.toSzd
   have h4:=Qy l
   have h5':l.length < (tps l).length:=by rw [fJ];omega
   have h3:((l.length:Int)+1) - 1=l.length:=by omega
   have hv0:=hp.v0
   have hs0:=hp.s0
   have ht:=hp.t
   have hnn:=hp.nn
   unfold yx yA
   by_cases c1:l.length=0
   · simp (disch:=omega) [WY,h1,h2,c1,fJ,aI,H.inl,aB,H.pp,ppB]
   · rw [if_neg c1,if_neg c1]
     obtain ⟨p,q,p1,q1,hpq,a,b⟩:=hp.ends (by omega)
     have hm:qV (o+v) (sm l)≤sm l:=by unfold qV;split <;> omega
     have hlo:jc l v≤sm l:=by unfold jc;split <;> omega
     have h5:=Gj H l o hp.toSzd p p1 a.1 a.2
     have h6:=Gj H l _ hp.toSzd q q1 b.1 b.2
     have hq:=hp.rng q
     rw [hp.nJ p1 a.1 a.2,hp.nJ q1 b.1 b.2]
     have c1':¬ ((l.length:Int)+1=1):=by omega
     generalize hM:qV (o+v) (sm l)=M at *
     simp (disch:=omega) [WY,h1,h2,c1',fJ,h3,h4,h5',h5,h6,hM,aI,H.inl,aB,H.pp,ppB]
 · rw [if_pos c0]
   generalize vpE l o v=E at *
   simp (disch:=omega) [WY,h1,c0,H.inl,aB,H.pp,ppB]
theorem VQ (H:fU C) (l:List En) (e:Bool) (hz:Szd l) (j:Nat) (hj:j≤l.length):∀ n i,n+i=j →
 D8 C ⟨[(6,.int .i64 i),(5,.int .i64 (top l i)),(1,.int .i64 j),(0,.ro 6 (l.map eEn) e)],[],0⟩=some (.int .i64 (top l j)):=by
 intro n
 induction n with
 | zero =>
  intro i hi
  have h1:i=j:=by omega
  subst h1
  simp only [D8];rw [aj AA.eq_1]
  simp (disch:=omega) [aj MQ.eq_1]
 | succ n ih =>
  intro i hi
  have h1:i < l.length:=by omega
  have h2:i < j:=by omega
  have hn:=hz.n
  have hr:=hz.small (i+1)
  have this:=ih (i+1) (by omega)
  rw [qU h1] at this hr
  simp only [D8] at this ⊢;rw [aj AA.eq_1]
  simp at this
  simp (disch:=omega) [h1,h2,aI,this]
theorem pF (H:fU C) (l:List En) (e:Bool) (hz:Szd l) (j:Nat) (hj:j≤l.length):FnW C 253 [.ro 6 (l.map eEn) e,.int .i64 j]=some (.int .i64 (top l j)):=by
 have h:=VQ H l e hz j hj j 0 (by simp)
 rw [IY] at h
 rw [aF H.f253 rfl]
 simp only [D8] at h
 try simp at h
 simp [aeX,h]
theorem QC (H:fU C) (l:List En) (e:Bool) (hz:Szd l) (j:Nat) (hj:j < l.length):FnW C 253 [.ro 6 (l.map eEn) e,.int .i64 ((j:Int)+1)]=some (.int .i64 (top l (j+1))):=pF H l e hz (j+1) hj
theorem YN (H:fU C) (l:List En) (e:Bool) (hz:Szd l) (x:Int):∀ n i,n+i=l.length →
 wu C ⟨[(5,.int .i64 i),(1,.int .i64 x),(0,.ro 6 (l.map eEn) e)],[],0⟩=some (.int .i64 (G5 l x n i)):=by
 intro n
 induction n with
 | zero =>
  intro i hi
  have h3:¬ i < l.length:=by omega
  simp only [wu];rw [aj tX.eq_1]
  simp (disch:=omega) [aj MN.eq_1,h3,G5]
 | succ n ih =>
  intro i hi
  have h1:i < l.length:=by omega
  have hn:=hz.n
  have this:=ih (i+1) (by omega)
  have q1:=pF H l e hz i (by omega)
  have q2:=QC H l e hz i h1
  rw [G5]
  generalize G5 l x n (i+1)=R at *
  by_cases c1:top l i≤x
  · by_cases c2:x < top l (i+1)
    · rw [if_pos ⟨c1,c2⟩]
      simp only [wu];rw [aj tX.eq_1]
      simp (disch:=omega) [h1,aI,q1,q2,c1,c2,H.inl,aB,H.pp,ppB]
    · rw [if_neg (fun q=>c2 q.2)]
      simp only [wu] at this ⊢;rw [aj tX.eq_1]
      simp at this
      simp (disch:=omega) [h1,aI,q1,q2,c1,c2,H.inl,aB,H.pp,ppB,this]
  · rw [if_neg (fun q=>c1 q.1)]
    simp only [wu] at this ⊢;rw [aj tX.eq_1]
    simp at this
    simp (disch:=omega) [h1,aI,q1,q2,c1,H.inl,aB,H.pp,ppB,this]
theorem aiM (H:fU C) (l:List En) (e:Bool) (hz:Szd l) (x:Int):FnW C 254 [.ro 6 (l.map eEn) e,.int .i64 x]=some (.int .i64 (rowA l x)):=by
 have h:=YN H l e hz x l.length 0 (by simp)
 rw [aF H.f254 rfl]
 unfold rowA
 generalize G5 l x l.length 0=R at *
 simp only [wu] at h
 simp at h
 simp [ade,h]
theorem Oq (H:fU C) (l:List En) (e:Bool) (hz:Szd l) (v:Int) (hv:-9223372036854775808≤sm l - v∧sm l - v≤9223372036854775807):FnW C 327 [.ro 6 (l.map eEn) e,.int .i64 v]=some (.int .i64 (jc l v)):=by
 have h:=pF H l e hz l.length (Nat.le_refl _)
 rw [kF] at h
 rw [aF H.f327 rfl]
 unfold jc
 by_cases c:sm l < v
 · simp (disch:=omega) [aac,h,c,aI,H.inl,aB,H.pp,ppB]
 · simp (disch:=omega) [aac,h,c,aI,H.inl,aB,H.pp,ppB]
theorem MV (H:fU C) (l:List En) (e:Bool) (hl:l.length≤1000000) (hs:SzB l) (o v:Int) (ho:-9223372036854775808≤o∧o≤9223372036854775807) (hv:-9223372036854775808≤v∧v≤9223372036854775807) :
 FnW C 252 [.ro 6 (l.map eEn) e,.int .i64 o,.int .i64 v]=some (.int .i64 (vpE l o v)):=by
 have h1:=IQ H l e hl hs
 rw [aF H.f252 rfl]
 unfold vpE
 by_cases hz0:szE l=0
 · rw [hz0] at h1 ⊢
   have hz:=yI hz0
   have h3:=hz.nn
   have h4:=hz.t
   rw [if_neg (by simp)]
   by_cases c1:v < 1
   · simp (disch:=omega) [Ju,h1,c1,H.inl,aB,H.pp,ppB]
   · by_cases c2:2147483648 < v
     · simp (disch:=omega) [Ju,h1,c1,c2,H.inl,aB,H.pp,ppB]
     · rw [if_neg (by omega)]
       have h2:=Oq H l e hz v (by omega)
       by_cases c3:o < 0
       · simp (disch:=omega) [Ju,h1,c1,c2,c3,H.inl,aB,H.pp,ppB]
       · by_cases c4:jc l v < o
         · simp (disch:=omega) [Ju,h1,c1,c2,c3,c4,h2,aI,H.inl,aB,H.pp,ppB]
         · simp (disch:=omega) [Ju,h1,c1,c2,c3,c4,h2,aI,H.inl,aB,H.pp,ppB]
 · rw [if_pos hz0]
   have hp:0 < szE l:=by
    have:0≤szE l:=by unfold szE ovE;repeat (first | omega | split)
    omega
   generalize szE l=E at *
   simp (disch:=omega) [Ju,h1,hz0,hp,H.inl,aB,H.pp,ppB]
theorem FP (H:fU C) (l:List En) (e:Bool) (o v:Int) (hp:Vp l o v) (i:Nat) (hi:i < l.length):FnW C 272 [.ro 6 (l.map eEn) e,.int .i64 o,.int .i64 v,.int .i64 i]=some (.int .i64 (if top l i < o+v∧o < top l (i+1) then 1 else 0)):=by
 have hn:=hp.n
 have hv:=hp.v0
 have ho:=hp.s0
 have ht:=hp.t
 have hnn:=hp.nn
 have hlo:jc l v≤sm l:=by unfold jc;split <;> omega
 have q1:=pF H l e hp.toSzd i (by omega)
 have q2:=QC H l e hp.toSzd i hi
 rw [aF H.f272 rfl]
 by_cases c1:top l i < o+v
 · by_cases c2:o < top l (i+1)
   · rw [if_pos ⟨c1,c2⟩]
     simp (disch:=omega) [X0,q1,q2,c1,c2,aI,H.inl,aB,H.pp,ppB]
   · rw [if_neg (fun q=>c2 q.2)]
     simp (disch:=omega) [X0,q1,q2,c1,c2,aI,H.inl,aB,H.pp,ppB]
 · rw [if_neg (fun q=>c1 q.1)]
   simp (disch:=omega) [X0,q1,q2,c1,aI,H.inl,aB,H.pp,ppB]
theorem XZ (H:fU C) (l:List En) (e:Bool) (o v:Int) (hp:Vp l o v) (p q:Nat) (hpl:p < l.length) (hql:q < l.length) (hpq:p≤q)
 (hseen:∀ i,i < l.length→((top l i < o+v∧o < top l (i+1))↔(p≤i∧i≤q))):∀ n:Nat,n≤l.length →
 wE C ⟨[(10,.int .i64 ((n:Int) - 1)),(9,.int .i64 (if q < n then 0 else if p < n then (q:Int)+1 - n else (q:Int)+1 - p)),(8,.int .i64 (if q < n then 0 else if p < n then (n:Int) else p)),(2,.int .i64 v),(1,.int .i64 o),(0,.ro 6 (l.map eEn) e)],[],0⟩ =
  some (.tup [.int .i64 p,.int .i64 ((q:Int)+1)]):=by
 intro n
 induction n with
 | zero =>
  intro _
  have hn:=hp.n
  rw [if_neg (by omega),if_neg (by omega),if_neg (by omega),if_neg (by omega)]
  have e1:(p:Int)+((q:Int)+1 - p)=(q:Int)+1:=by omega
  simp only [wE];rw [aj qj.eq_1]
  simp (disch:=omega) [aj EH.eq_1,aI,e1]
 | succ n ih =>
  intro hn1
  have hn:=hp.n
  have hi:n < l.length:=by omega
  have this:=ih (by omega)
  have hsn:=FP H l e o v hp n hi
  have e1:((n+1:Nat):Int) - 1=n:=by omega
  rw [e1]
  by_cases c1:q < n
  · rw [if_neg (fun w=>by have:=(hseen n hi).1 w;omega)] at hsn
    rw [if_pos c1,if_pos c1] at this
    rw [if_pos (by omega),if_pos (by omega)]
    simp only [wE] at this ⊢;rw [aj qj.eq_1]
    try simp at this
    simp (disch:=omega) [aI,hsn,H.inl,aB,H.pp,ppB,this]
  · rw [if_neg c1,if_neg c1] at this
    by_cases c2:p≤n
    · rw [if_pos ((hseen n hi).2 ⟨c2,by omega⟩)] at hsn
      have e2:(if q < n+1 then (0:Int) else if p < n+1 then (q:Int)+1 - ((n+1:Nat):Int) else (q:Int)+1 - p)=(q:Int) - n:=by
       split
       · omega
       · rw [if_pos (by omega)];omega
      have e3:(if p < n then (q:Int)+1 - n else (q:Int)+1 - p)=(q:Int)+1 - n:=by split <;> omega
      have e4:(if p < n then (n:Int) else p)=n:=by split <;> omega
      have e5:(q:Int) - n+1=(q:Int)+1 - n:=by omega
      rw [e2]
      rw [e3,e4] at this
      generalize (if q < n+1 then (0:Int) else if p < n+1 then ((n+1:Nat):Int) else p)=Z at *
      simp only [wE] at this ⊢;rw [aj qj.eq_1]
      try simp at this
      simp (disch:=omega) [aI,hsn,e5,H.inl,aB,H.pp,ppB,this]
    · rw [if_neg (fun w=>by have:=(hseen n hi).1 w;omega)] at hsn
      rw [if_neg (by omega),if_neg (by omega)] at this
      rw [if_neg (by omega),if_neg (by omega),if_neg (by omega),if_neg (by omega)]
      simp only [wE] at this ⊢;rw [aj qj.eq_1]
      try simp at this
      simp (disch:=omega) [aI,hsn,H.inl,aB,H.pp,ppB,this]
theorem O9 (H:fU C) (l:List En) (e:Bool) (o v:Int) (hp:Vp l o v):FnW C 255 [.ro 6 (l.map eEn) e,.int .i64 o,.int .i64 v]=some (.tup [.int .i64 (yx l o v),.int .i64 (yA l o v)]):=by
 have hn:=hp.n
 rw [aF H.f255 rfl]
 unfold yx yA
 by_cases c1:l.length=0
 · have hnil:l=[]:=List.length_eq_zero_iff.1 c1
   subst hnil
   simp (disch:=omega) [ZI,aj qj.eq_1,aj EH.eq_1,aI]
 · rw [if_neg c1,if_neg c1]
   obtain ⟨p,q,p1,q1,hpq,a,b⟩:=hp.ends (by omega)
   have h:=XZ H l e o v hp p q p1 q1 hpq (fun i hi=>hp.seen p1 q1 a b hi) l.length (Nat.le_refl _)
   rw [if_pos q1,if_pos q1] at h
   rw [hp.nJ p1 a.1 a.2,hp.nJ q1 b.1 b.2]
   simp only [wE] at h
   try simp at h
   simp (disch:=omega) [ZI,aI,h]
end Go.D
end
