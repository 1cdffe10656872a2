/- Part of the theory that the claims of this work use: D07, D08, D09, D10, D11, D12, D13, D14, D15, D16, D17, D18, D19, D20, D21, D22, D23, V600, D24, D25, D26, D27, D28, D29, D32, D34, D35, D36, GTy, V27, E01, E02, E03, E04. No conditions of its own. -/
import Derived.Test.YtlkfpgggbjlfgaaGreatT5
set_option linter.unusedVariables false
set_option linter.unusedSimpArgs false
set_option maxHeartbeats 4000000
set_option maxRecDepth 10000
section
namespace Go.D
open Go Go.Pav Go.Pw P
attribute [-simp] List.getElem_cons_drop
variable {C:aI}
structure Sl where
 n:Bs
 f:Int
 v:Bs
@[simp] def eSl (s:Sl):List AV:=[.str s.n,.int .u8 s.f,.str s.v]
structure Pt where
 k:Int
 t:Bs
 y:Bs
 s:List Sl
 se:Bool
 x:Bs
 ch:List Pt
 ce:Bool
mutual
def Pt.c:Pt→List AV
 | ⟨k,t,y,s,se,x,ch,ce⟩=>[.int .u8 k,.str t,.str y,.ro 3 (s.map eSl) se,.str x,.ro 6 (Pt.cs ch) ce]
def Pt.cs:List Pt→List (List AV)
 | []=>[]
 | n::r=>n.c::Pt.cs r
end
theorem Pt.PW:∀ l:List Pt,Pt.cs l=l.map Pt.c
 | []=>rfl
 | n::r=>by rw [Pt.cs,Pt.PW r];rfl
theorem Pt.fA (n:Pt):n.c=[.int .u8 n.k,.str n.t,.str n.y,.ro 3 (n.s.map eSl) n.se,.str n.x,.ro 6 (n.ch.map Pt.c) n.ce]:=by
 cases n;rw [Pt.c,Pt.PW]
@[simp] theorem Pt.akm (n:Pt):n.c.length=6:=by rw [Pt.fA];rfl
@[simp] theorem Pt.ahl (n:Pt):n.c.take 6=n.c:=List.take_of_length_le (by simp)
@[simp] theorem Pt.c0 (n:Pt):n.c[0]?=some (.int .u8 n.k):=by rw [Pt.fA];rfl
@[simp] theorem Pt.c1 (n:Pt):n.c[1]?=some (.str n.t):=by rw [Pt.fA];rfl
@[simp] theorem Pt.c2 (n:Pt):n.c[2]?=some (.str n.y):=by rw [Pt.fA];rfl
@[simp] theorem Pt.c3 (n:Pt):n.c[3]?=some (.ro 3 (n.s.map eSl) n.se):=by rw [Pt.fA];rfl
@[simp] theorem Pt.c4 (n:Pt):n.c[4]?=some (.str n.x):=by rw [Pt.fA];rfl
@[simp] theorem Pt.c5 (n:Pt):n.c[5]?=some (.ro 6 (n.ch.map Pt.c) n.ce):=by rw [Pt.fA];rfl
@[simp] theorem Pt.g0 (n:Pt) (h:0 < n.c.length):n.c[0]=.int .u8 n.k:=Option.some.inj ((List.getElem?_eq_getElem h).symm.trans n.c0)
@[simp] theorem Pt.g1 (n:Pt) (h:1 < n.c.length):n.c[1]=.str n.t:=Option.some.inj ((List.getElem?_eq_getElem h).symm.trans n.c1)
@[simp] theorem Pt.g2 (n:Pt) (h:2 < n.c.length):n.c[2]=.str n.y:=Option.some.inj ((List.getElem?_eq_getElem h).symm.trans n.c2)
@[simp] theorem Pt.g3 (n:Pt) (h:3 < n.c.length):n.c[3]=.ro 3 (n.s.map eSl) n.se:=Option.some.inj ((List.getElem?_eq_getElem h).symm.trans n.c3)
@[simp] theorem Pt.g4 (n:Pt) (h:4 < n.c.length):n.c[4]=.str n.x:=Option.some.inj ((List.getElem?_eq_getElem h).symm.trans n.c4)
@[simp] theorem Pt.g5 (n:Pt) (h:5 < n.c.length):n.c[5]=.ro 6 (n.ch.map Pt.c) n.ce:=Option.some.inj ((List.getElem?_eq_getElem h).symm.trans n.c5)
@[simp] theorem Pt.hd (n:Pt):n.c.head?=some (.int .u8 n.k):=by rw [Pt.fA];rfl
@[simp] theorem Pt.akK (n:Pt):bP n.c=false:=by rw [Pt.fA];rfl
@[simp] theorem Pt.akO (n:Pt) (h:aJ) (k:Nat):bg (bM h (k+1)) n.c=some n.c:=by rw [Pt.fA];rfl
@[simp] theorem Pt.acy (n:Pt) (h:aJ) (k:Nat):n.c.flatMap (aK h (k+1))=[]:=by rw [Pt.fA];rfl
@[simp] theorem Pt.akD (n:Pt) (π:Nat→Option Nat):lF π n.c=some n.c:=by rw [Pt.fA];rfl
@[simp] theorem Pt.ag6 (n:Pt):Dh n.c=[]:=by rw [Pt.fA];rfl
@[simp] theorem Pt.akM (n:Pt):n.c.all isC=true:=by rw [Pt.fA];rfl
@[simp] theorem Pt.ail (n:Pt):n.c.all AV.cell=true:=by rw [Pt.fA];rfl
theorem Pt.xg (n:Pt):SizeOf.sizeOf n.ch < SizeOf.sizeOf n:=by cases n;simp;omega
def kJ:Option Bs→List Sl→Bool
 | _,[]=>true
 | p,s::r=>isName s.n&&decide (s.f≤3)&&isText s.v&&(decide (s.f≤0)||decide (s.v=[]))&&after p s.n&&kJ (some s.n) r
def o7 (p:Pt):Bool :=
 if p.k=1 then (decide (p.y=[])||isName p.y)&&decide (p.ch.length≤16)&&isName p.t&&(decide (p.s.length≤8)&&kJ none p.s)&&decide (p.x=[])
 else if p.k=5 then isName p.t&&(decide (p.s.length≤8)&&kJ none p.s)&&decide (p.y=[])&&decide (p.x=[])&&decide (p.ch=[])
 else if p.k=2 then isText p.x&&decide (p.t=[])&&decide (p.y=[])&&decide (p.s=[])&&decide (p.ch=[])
 else decide (p.k=3∨p.k=4)&&decide (p.t=[])&&decide (p.y=[])&&decide (p.x=[])&&decide (p.s=[])&&decide (p.ch=[])
structure Du (C:aI):Prop extends O7 C where
 ahD:C.fns.get 581=some afq
 ahp:C.fns.get 579=some afw
 ahh:C.fns.get 585=some aaR
 ag2:C.fns.get 549=some iU
 aij:C.fns.get 502=some Zp
 ah4:C.fns.get 503=some acF
 aip:C.fns.get 548=some QY
 aiF:C.fns.get 404=some aex
 f231:C.fns.get 231=some aaD
theorem OD (n:Nd) (h:n.ch=[]):cnt n=if alone n=true then 1 else 0:=by
 rw [abY,ahA,h,rcs]
 cases alone n <;> simp
theorem wB (H:Du C) (s:Bs):FnW C 581 [.str s]=some (.bool (isName s)):=by
 have h:FnW C 439 [.agg [.int .u8 1,.str s,.str [],.ro 2 [] true,.str [],.ro 6 [] true]]=_:=Pm H.toO7 ⟨1,s,[],[],true,[],[],true⟩
 rw [OD _ rfl] at h
 have e:alone ⟨1,s,[],[],true,[],[],true⟩=isName s:=by unfold alone;simp [atOk,iF]
 rw [e] at h
 rw [aF H.ahD rfl]
 cases q:isName s <;> rw [q] at h <;> simp at h <;> simp [afq,H.inl,ay,H.pp,ppB,h]
theorem BL (H:Du C) (s:Bs):FnW C 579 [.str s]=some (.bool (isText s)):=by
 have h:FnW C 439 [.agg [.int .u8 2,.str [],.str [],.ro 2 [] true,.str s,.ro 6 [] true]]=_:=Pm H.toO7 ⟨2,[],[],[],true,s,[],true⟩
 rw [OD _ rfl] at h
 have e:alone ⟨2,[],[],[],true,s,[],true⟩=isText s:=by unfold alone;simp
 rw [e] at h
 rw [aF H.ahp rfl]
 cases q:isText s <;> rw [q] at h <;> simp at h <;> simp [afw,H.inl,ay,H.pp,ppB,h]
theorem QM (H:Du C) (l:List Sl) (e:Bool) (hl:l.length≤1000000):∀ n i,n+i=l.length →
 ER C ⟨[(10,.int .i64 i),(9,.int .i64 l.length),(8,.ro 3 (l.map eSl) e),(0,.ro 3 (l.map eSl) e)],[],0⟩ =
  some (.bool (kJ (if i=0 then none else (l[i - 1]?).map Sl.n) (l.drop i))):=by
 intro n
 induction n with
 | zero =>
  intro i hi
  simp only [ER];rw [aj A8.eq_1]
  have h1:l.drop i=[]:=List.drop_eq_nil_of_le (by omega)
  have h3:¬ i < l.length:=by omega
  simp [aj LD.eq_1,h1,h3,kJ]
 | succ n ih =>
  intro i hi
  have h1:i < l.length:=by omega
  have hb:=wB H l[i].n
  have hc:=BL H l[i].v
  have:=ih (i+1) (by omega)
  rw [if_neg (by omega),show i+1 - 1=i from rfl,List.getElem?_eq_getElem h1] at this
  rw [drop_cons h1,kJ]
  simp only [ER] at this ⊢;rw [aj A8.eq_1]
  simp only [Option.map_some] at this
  generalize kJ (some l[i].n) (l.drop (i+1))=R at *
  cases q1:isName l[i].n
  · rw [q1] at hb
    simp (disch:=omega) [h1,aG,hb,H.inl,ay,H.pp,ppB]
  · rw [q1] at hb
    by_cases f3:l[i].f≤3
    · have f3':¬ 3 < l[i].f:=by omega
      cases q2:isText l[i].v
      · rw [q2] at hc
        simp (disch:=omega) [h1,aG,hb,hc,H.inl,ay,H.pp,ppB,f3,f3']
      · rw [q2] at hc
        by_cases f0:0 < l[i].f∧¬ l[i].v=[]
        · have f1:¬ l[i].f≤0:=by omega
          simp (disch:=omega) [h1,aG,hb,hc,H.inl,ay,H.pp,ppB,f3,f3',f0.1,f0.2,f1]
        · have key:(0 < l[i].f∧l[i].v=[])∨¬ 0 < l[i].f:=by
           by_cases a:0 < l[i].f
           · exact .inl ⟨a,Classical.byContradiction fun b=>f0 ⟨a,b⟩⟩
           · exact .inr a
          cases i with
          | zero =>
           simp at this
           rcases key with ⟨a,b⟩ | a
           · have b':=eq_true b
             simp (disch:=omega) [h1,aG,hb,hc,H.inl,ay,H.pp,ppB,f3,f3',a,b',this,after]
           · have a':l[0].f≤0:=by omega
             simp (disch:=omega) [h1,aG,hb,hc,H.inl,ay,H.pp,ppB,f3,f3',a,a',this,after]
          | succ i =>
           have h4:i < l.length:=by omega
           have h5:(i:Int)+1 < l.length:=by omega
           simp at this
           by_cases q3:l[i].n < l[i+1].n
           · have q4:¬ l[i+1].n≤l[i].n:=List.not_le.2 q3
             rcases key with ⟨a,b⟩ | a
             · have b':=eq_true b
               simp (disch:=omega) [h1,h4,h5,aG,hb,hc,H.inl,ay,H.pp,ppB,f3,f3',a,b',this,after,BN,q3,q4]
             · have a':l[i+1].f≤0:=by omega
               simp (disch:=omega) [h1,h4,h5,aG,hb,hc,H.inl,ay,H.pp,ppB,f3,f3',a,a',this,after,BN,q3,q4]
           · have q4:l[i+1].n≤l[i].n:=List.not_lt.1 q3
             rcases key with ⟨a,b⟩ | a
             · have b':=eq_true b
               simp (disch:=omega) [h1,h4,h5,aG,hb,hc,H.inl,ay,H.pp,ppB,f3,f3',a,b',this,after,BN,q3,q4]
             · have a':l[i+1].f≤0:=by omega
               simp (disch:=omega) [h1,h4,h5,aG,hb,hc,H.inl,ay,H.pp,ppB,f3,f3',a,a',this,after,BN,q3,q4]
    · have f3':3 < l[i].f:=by omega
      simp (disch:=omega) [h1,aG,hb,H.inl,ay,H.pp,ppB,f3,f3']
theorem YM (H:Du C) (l:List Sl) (e:Bool):FnW C 585 [.ro 3 (l.map eSl) e]=some (.bool (decide (l.length≤8)&&kJ none l)):=by
 rw [aF H.ahh rfl]
 by_cases c:l.length≤8
 · have c1:¬ 8 < (l.length:Int):=by omega
   have h:=QM H l e (by omega) l.length 0 (by simp)
   rw [List.drop_zero,if_pos rfl] at h
   generalize kJ none l=R at *
   simp only [ER] at h
   simp at h
   simp [aaR,c,c1,h]
 · have c1:8 < (l.length:Int):=by omega
   simp [aaR,c,c1]
end Go.D
end
section
namespace Go.D
open Go Go.Pav Go.Pw P
attribute [-simp] List.getElem_cons_drop
variable {C:aI}
theorem Vr (H:Du C) (p:Pt):FnW C 549 [.rop p.c]=some (.bool (o7 p)):=by
 obtain ⟨k,t,y,s,se,x,ch,ce⟩:=p
 rw [aF H.ag2 rfl,Pt.fA]
 simp only []
 unfold o7
 simp only []
 have ht:=wB H t
 have hy:=wB H y
 have hx:=BL H x
 have hs:=YM H s se
 generalize isName t=T at *
 generalize isText x=X at *
 generalize (decide (s.length≤8)&&kJ none s)=S at *
 by_cases k1:k=1
 · rw [if_pos k1]
   by_cases c2:y=[]
   · subst c2
     by_cases c5:ch.length≤16
     · have c7:¬ 16 < (ch.length:Int):=by omega
       cases T
       · simp [iU,k1,ht,hs,H.inl,ay,H.pp,ppB,c5,c7]
       · cases S
         · simp [iU,k1,ht,hs,H.inl,ay,H.pp,ppB,c5,c7]
         · by_cases c3:x=[] <;> simp [iU,k1,ht,hs,H.inl,ay,H.pp,ppB,c3,c5,c7]
     · have c7:16 < (ch.length:Int):=by omega
       simp [iU,k1,ht,hs,H.inl,ay,H.pp,ppB,c5,c7]
   · cases q2:isName y
     · rw [q2] at hy;simp [iU,k1,hy,H.inl,ay,H.pp,ppB,c2]
     · rw [q2] at hy
       by_cases c5:ch.length≤16
       · have c7:¬ 16 < (ch.length:Int):=by omega
         cases T
         · simp [iU,k1,ht,hy,hs,H.inl,ay,H.pp,ppB,c2,c5,c7]
         · cases S
           · simp [iU,k1,ht,hy,hs,H.inl,ay,H.pp,ppB,c2,c5,c7]
           · by_cases c3:x=[] <;> simp [iU,k1,ht,hy,hs,H.inl,ay,H.pp,ppB,c2,c3,c5,c7]
       · have c7:16 < (ch.length:Int):=by omega
         simp [iU,k1,ht,hy,hs,H.inl,ay,H.pp,ppB,c2,c5,c7]
 · rw [if_neg k1]
   by_cases k5:k=5
   · rw [if_pos k5]
     cases T
     · simp [iU,k5,ht,hs,H.inl,ay,H.pp,ppB]
     · cases S
       · simp [iU,k5,ht,hs,H.inl,ay,H.pp,ppB]
       · by_cases c2:y=[]
         · by_cases c3:x=[]
           · by_cases c4:ch=[]
             · simp [iU,k5,ht,hs,H.inl,ay,H.pp,ppB,c2,c3,c4]
             · simp [iU,k5,ht,hs,H.inl,ay,H.pp,ppB,c2,c3,c4]
           · simp [iU,k5,ht,hs,H.inl,ay,H.pp,ppB,c2,c3]
         · simp [iU,k5,ht,hs,H.inl,ay,H.pp,ppB,c2]
   · rw [if_neg k5]
     by_cases k2:k=2
     · rw [if_pos k2]
       cases X
       · simp [iU,k2,hx,H.inl,ay,H.pp,ppB]
       · by_cases c1:t=[]
         · by_cases c2:y=[]
           · by_cases c3:s=[]
             · by_cases c4:ch=[]
               · simp [iU,k2,hx,H.inl,ay,H.pp,ppB,c1,c2,c3,c4]
               · simp [iU,k2,hx,H.inl,ay,H.pp,ppB,c1,c2,c3,c4]
             · simp [iU,k2,hx,H.inl,ay,H.pp,ppB,c1,c2,c3]
           · simp [iU,k2,hx,H.inl,ay,H.pp,ppB,c1,c2]
         · simp [iU,k2,hx,H.inl,ay,H.pp,ppB,c1]
     · rw [if_neg k2]
       by_cases k34:k=3∨k=4
       · rcases k34 with k3 | k4
         · by_cases c1:t=[]
           · by_cases c2:y=[]
             · by_cases c0:x=[]
               · by_cases c3:s=[]
                 · by_cases c4:ch=[]
                   · simp [iU,k3,H.inl,ay,H.pp,ppB,c1,c2,c0,c3,c4]
                   · simp [iU,k3,H.inl,ay,H.pp,ppB,c1,c2,c0,c3,c4]
                 · simp [iU,k3,H.inl,ay,H.pp,ppB,c1,c2,c0,c3]
               · simp [iU,k3,H.inl,ay,H.pp,ppB,c1,c2,c0]
             · simp [iU,k3,H.inl,ay,H.pp,ppB,c1,c2]
           · simp [iU,k3,H.inl,ay,H.pp,ppB,c1]
         · by_cases c1:t=[]
           · by_cases c2:y=[]
             · by_cases c0:x=[]
               · by_cases c3:s=[]
                 · by_cases c4:ch=[]
                   · simp [iU,k4,H.inl,ay,H.pp,ppB,c1,c2,c0,c3,c4]
                   · simp [iU,k4,H.inl,ay,H.pp,ppB,c1,c2,c0,c3,c4]
                 · simp [iU,k4,H.inl,ay,H.pp,ppB,c1,c2,c0,c3]
               · simp [iU,k4,H.inl,ay,H.pp,ppB,c1,c2,c0]
             · simp [iU,k4,H.inl,ay,H.pp,ppB,c1,c2]
           · simp [iU,k4,H.inl,ay,H.pp,ppB,c1]
       · have k3:¬ k=3:=fun q=>k34 (.inl q)
         have k4:¬ k=4:=fun q=>k34 (.inr q)
         simp [iU,k1,k2,k3,k4,k5,H.inl,ay,H.pp,ppB]
mutual
/-- The walk below a part: whether it ends well, how many parts. -/
def tk:Pt→Nat→Nat→Bool × Nat
 | ⟨k,t,y,s,se,x,ch,ce⟩,lv,c=>if 6 < lv∨64 < c+1∨o7 ⟨k,t,y,s,se,x,ch,ce⟩=false then (false,c+1) else tks ch (lv+1) (c+1)
def tks:List Pt→Nat→Nat→Bool × Nat
 | [],_,c=>(true,c)
 | m::r,lv,c=>if (tk m lv c).1=true then tks r lv (tk m lv c).2 else (false,(tk m lv c).2)
end
theorem agd (p:Pt) (lv c:Nat):tk p lv c=if 6 < lv∨64 < c+1∨o7 p=false then (false,c+1) else tks p.ch (lv+1) (c+1):=by cases p;rw [tk]
mutual
theorem agp:∀ (p:Pt) (lv c:Nat),lv≤7→c≤64→(tk p lv c).1=true→(tk p lv c).2≤64
 | ⟨k,t,y,s,se,x,ch,ce⟩,lv,c,h1,h2=>by
  rw [tk]
  split
  · exact fun q=>by simp at q
  · rename_i h
    exact aaX ch (lv+1) (c+1) (by omega) (by omega)
theorem aaX:∀ (l:List Pt) (lv c:Nat),lv≤7→c≤64→(tks l lv c).1=true→(tks l lv c).2≤64
 | [],lv,c,h1,h2=>by rw [tks];exact fun _=>h2
 | m::r,lv,c,h1,h2=>by
  have h4:=agp m lv c h1 h2
  rw [tks]
  split
  · rename_i h
    exact aaX r lv _ h1 (h4 h)
  · exact fun q=>by simp at q
end
abbrev hpT (c:Nat):aJ:=[(0,.cells 1 [[.fn 503 []]] true true),(7,.cells 1 [[.int .i64 c]] true true),(9,.cells 1 [[.fn 548 [.ptr 7 0 0,.ptr 0 0 0,.ptr 9 0 0]]] true false)]
def U7 (C:aI) (p:Pt):Prop:=∀ (lv c n:Nat),10≤n→c≤64→lv≤7 →
 ∃ n',RnW C 548 [.rop p.c,.int .i64 lv,.ptr 7 0 0,.ptr 0 0 0,.ptr 9 0 0] (hpT c) n=some (.bool (tk p lv c).1,hpT (tk p lv c).2,n')
theorem Qv (H:Du C) (p:Pt) (lv n:Nat) (hn:10≤n) (hlv:lv≤6) (hl:p.ch.length≤16) (ih:∀ m ∈ p.ch,U7 C m):∀ j i,j+i=p.ch.length→∀ c,c≤64 →
 ∃ n',CK C n (oK [.tmp 7]) [.sq Kz,.bk 0 ⟨true,[],[]⟩,.sq Jq] vM ⟨[(30,.int .i64 i),(29,.int .i64 p.ch.length),(4,.ptr 9 0 0),(1,.int .i64 lv),(0,.rop p.c)],hpT c,n⟩ =
  some (.bool (tks (p.ch.drop i) (lv+1) c).1,hpT (tks (p.ch.drop i) (lv+1) c).2,n'):=by
 have n0:0 < n:=by omega
 have n1:7 < n:=by omega
 have n2:9 < n:=by omega
 intro j
 induction j with
 | zero =>
  intro i hi c hc
  have h1:p.ch.drop i=[]:=List.drop_eq_nil_of_le (by omega)
  have h3:¬ i < p.ch.length:=by omega
  rw [h1,tks,aj vM.eq_1]
  refine ⟨?_,?_⟩
  rotate_left
  · simp (disch:=omega) [aj Jq.eq_1,n0,n1,n2,h3]
    rfl
 | succ j ihj =>
  intro i hi c hc
  have h1:i < p.ch.length:=by omega
  obtain ⟨n',hw⟩:=ih _ (List.getElem_mem h1) (lv+1) c (n+1+1+1+11) (by omega) hc (by omega)
  have hb:=agp p.ch[i] (lv+1) c (by omega) hc
  rw [drop_cons h1,tks]
  generalize hR:tk p.ch[i] (lv+1) c=R at *
  obtain ⟨r,c'⟩:=R
  cases r with
  | true =>
   obtain ⟨n2',hw2⟩:=ihj (i+1) (by omega) c' (hb rfl)
   refine ⟨n2',?_⟩
   rw [if_pos rfl]
   rw [aj vM.eq_1]
   simp at hw hw2
   simp (disch:=omega) [aG,H.inl,ay,H.pp,ppB,n0,n1,n2,h1,hw,hw2]
  | false =>
   rw [if_neg (by simp)]
   rw [aj vM.eq_1]
   simp at hw
   refine ⟨?_,?_⟩
   rotate_left
   · simp (disch:=omega) [aG,H.inl,ay,H.pp,ppB,n0,n1,n2,h1,hw]
     rfl
theorem yR {p:Pt} (h:o7 p=true):p.ch.length≤16:=by
 unfold o7 at h
 split at h
 · simp at h;omega
 · split at h
   · simp at h;rw [h.2];simp
   · split at h
     · simp at h;rw [h.2];simp
     · simp at h;rw [h.2];simp
theorem Qm (H:Du C) (p:Pt) (ih:∀ m ∈ p.ch,U7 C m):U7 C p:=by
 intro lv c n hn hc hlv
 rw [rF (args:=[.rop p.c,.int .i64 lv,.ptr 7 0 0,.ptr 0 0 0,.ptr 9 0 0]) H.aip rfl (hpT c) n,agd]
 have ha:=Vr H p
 have hu:FnW C 503 [.rop p.c]=some (.tup []):=by rw [aF H.ah4 rfl];simp [acF]
 have n0:0 < n:=by omega
 have n1:7 < n:=by omega
 have n2:9 < n:=by omega
 by_cases b1:6 < lv
 · rw [if_pos (.inl b1)]
   refine ⟨?_,?_⟩
   rotate_left
   · simp (disch:=omega) [QY,aG,H.inl,ay,H.pp,ppB,b1,n0,n1,n2]
     rfl
 · by_cases b2:64 < c+1
   · rw [if_pos (.inr (.inl b2))]
     have b2':64 < (c:Int)+1:=by omega
     refine ⟨?_,?_⟩
     rotate_left
     · simp (disch:=omega) [QY,aG,H.inl,ay,H.pp,ppB,b1,b2',n0,n1,n2]
       rfl
   · have b2':¬ 64 < (c:Int)+1:=by omega
     cases b3:o7 p with
     | false =>
      rw [if_pos (.inr (.inr rfl))]
      rw [b3] at ha
      refine ⟨?_,?_⟩
      rotate_left
      · simp (disch:=omega) [QY,aG,H.inl,ay,H.pp,ppB,b1,b2',ha,n0,n1,n2]
        rfl
     | true =>
      rw [if_neg (by simp;omega)]
      have hl:=yR b3
      rw [b3] at ha
      obtain ⟨n',hw⟩:=Qv H p lv n hn (by omega) hl ih p.ch.length 0 (by simp) (c+1) (by omega)
      refine ⟨n',?_⟩
      rw [List.drop_zero] at hw
      generalize tks p.ch (lv+1) (c+1)=R at *
      simp only [hpT] at hw ⊢
      simp at hw
      simp (disch:=omega) [QY,aG,H.inl,ay,H.pp,ppB,b1,b2',ha,hu,n0,n1,n2,hw]
theorem aby (H:Du C) (p:Pt):U7 C p :=
 Qm H p (fun m hm=>aby H m)
termination_by SizeOf.sizeOf p
decreasing_by
 have:=List.sizeOf_lt_of_mem hm
 have:=p.xg
 omega
def oV (p:Pt):Nat:=if p.k=1∧(tk p 1 0).1=true then (tk p 1 0).2 else 0
theorem YQ (H:Du C) (p:Pt):FnW C 502 [.rop p.c,.fn 503 []]=some (.int .i64 (oV p)):=by
 rw [aF H.aij rfl]
 obtain ⟨n',h⟩:=aby H p 1 0 15 (by omega) (by omega) (by omega)
 unfold oV
 generalize tk p 1 0=R at *
 obtain ⟨r,c⟩:=R
 simp only [hpT] at h
 simp at h
 by_cases k1:p.k=1
 · cases r <;> simp [Zp,H.inl,ay,H.pp,ppB,k1,h]
 · simp [Zp,H.inl,ay,H.pp,ppB,k1]
theorem V7 (H:Du C) (p:Pt):FnW C 404 [.agg p.c]=some (.int .i64 (oV p)):=by
 have h:=YQ H p
 rw [aF H.aiF rfl]
 simp [aex,H.inl,ay,H.pp,ppB,h]
theorem Ii (H:Du C) (p:Pt):FnW C 231 [.agg p.c]=some (.int .i64 (if oV p=0 then 14 else 0)):=by
 have h:=V7 H p
 rw [aF H.f231 rfl]
 by_cases c:oV p=0
 · simp [aaD,H.inl,ay,H.pp,ppB,h,c]
 · simp [aaD,H.inl,ay,H.pp,ppB,h,c]
end Go.D
end
section
namespace Go.D
open Go Go.Pav Go.Pw P
attribute [-simp] List.getElem_cons_drop
variable {C:aI}
structure Nz (C:aI):Prop extends Du C where
 aiW:C.fns.get 594=some abn
 aay:C.fns.get 586=some lJ
 ajh:C.fns.get 550=some XJ
 aii:C.fns.get 505=some VX
 aiY:C.fns.get 408=some Ym
theorem O9 (H:Nz C) (l:List Sl) (e:Bool) (hl:l.length≤1000000) (hf:∀ s ∈ l,0≤s.f):∀ n i,n+i=l.length →
 Ey C ⟨[(3,.int .i64 i),(0,.ro 3 (l.map eSl) e)],[],0⟩ =
  some (.bool (kJ (if i=0 then none else (l[i - 1]?).map Sl.n) (l.drop i))):=by
 intro n
 induction n with
 | zero =>
  intro i hi
  simp only [Ey];rw [aj yE.eq_1]
  have h1:l.drop i=[]:=List.drop_eq_nil_of_le (by omega)
  have h3:¬ i < l.length:=by omega
  simp [aj KP.eq_1,h1,h3,kJ]
 | succ n ih =>
  intro i hi
  have h1:i < l.length:=by omega
  have hb:=oH H.tooZ l[i].n
  have hc:=AP H.tooZ l[i].v
  have h0:=hf _ (List.getElem_mem h1)
  have:=ih (i+1) (by omega)
  rw [if_neg (by omega),show i+1 - 1=i from rfl,List.getElem?_eq_getElem h1] at this
  rw [drop_cons h1,kJ]
  simp only [Ey] at this ⊢;rw [aj yE.eq_1]
  simp only [Option.map_some] at this
  generalize kJ (some l[i].n) (l.drop (i+1))=R at *
  cases q1:isName l[i].n
  · rw [q1] at hb
    simp (disch:=omega) [h1,aG,hb,H.inl,ay,H.pp,ppB]
  · rw [q1] at hb
    by_cases f3:l[i].f≤3
    · have f3':¬ 3 < l[i].f:=by omega
      cases q2:isText l[i].v
      · rw [q2] at hc
        simp (disch:=omega) [h1,aG,hb,hc,H.inl,ay,H.pp,ppB,f3,f3']
      · rw [q2] at hc
        by_cases f0:¬ l[i].f=0∧¬ l[i].v=[]
        · have f1:¬ l[i].f≤0:=by have:=f0.1;omega
          simp (disch:=omega) [h1,aG,hb,hc,H.inl,ay,H.pp,ppB,f3,f3',f0.1,f0.2,f1]
        · have key:(¬ l[i].f=0∧l[i].v=[])∨l[i].f=0:=by
           by_cases a:l[i].f=0
           · exact .inr a
           · exact .inl ⟨a,Classical.byContradiction fun b=>f0 ⟨a,b⟩⟩
          cases i with
          | zero =>
           simp at this
           rcases key with ⟨a,b⟩ | a
           · have b':=eq_true b
             simp (disch:=omega) [h1,aG,hb,hc,H.inl,ay,H.pp,ppB,f3,f3',a,b',this,after]
           · have a':l[0].f≤0:=by omega
             simp (disch:=omega) [h1,aG,hb,hc,H.inl,ay,H.pp,ppB,f3,f3',eq_true a,a',this,after]
          | succ i =>
           have h4:i < l.length:=by omega
           have h5:(i:Int)+1 < l.length:=by omega
           simp at this
           by_cases q3:l[i].n < l[i+1].n
           · have q4:¬ l[i+1].n≤l[i].n:=List.not_le.2 q3
             rcases key with ⟨a,b⟩ | a
             · have b':=eq_true b
               simp (disch:=omega) [h1,h4,h5,aG,hb,hc,H.inl,ay,H.pp,ppB,f3,f3',a,b',this,after,blt_eq,q3,q4]
             · have a':l[i+1].f≤0:=by omega
               simp (disch:=omega) [h1,h4,h5,aG,hb,hc,H.inl,ay,H.pp,ppB,f3,f3',eq_true a,a',this,after,blt_eq,q3,q4]
           · have q4:l[i+1].n≤l[i].n:=List.not_lt.1 q3
             rcases key with ⟨a,b⟩ | a
             · have b':=eq_true b
               simp (disch:=omega) [h1,h4,h5,aG,hb,hc,H.inl,ay,H.pp,ppB,f3,f3',a,b',this,after,blt_eq,q3,q4]
             · have a':l[i+1].f≤0:=by omega
               simp (disch:=omega) [h1,h4,h5,aG,hb,hc,H.inl,ay,H.pp,ppB,f3,f3',eq_true a,a',this,after,blt_eq,q3,q4]
    · have f3':3 < l[i].f:=by omega
      simp (disch:=omega) [h1,aG,hb,H.inl,ay,H.pp,ppB,f3,f3']
theorem Xn (H:Nz C) (l:List Sl) (e:Bool) (hf:∀ s ∈ l,0≤s.f):FnW C 594 [.ro 3 (l.map eSl) e]=some (.bool (decide (l.length≤8)&&kJ none l)):=by
 rw [aF H.aiW rfl]
 by_cases c:l.length≤8
 · have c1:¬ 8 < (l.length:Int):=by omega
   have h:=O9 H l e (by omega) hf l.length 0 (by simp)
   rw [List.drop_zero,if_pos rfl] at h
   generalize kJ none l=R at *
   simp only [Ey] at h
   simp at h
   simp [abn,c,c1,h]
 · have c1:8 < (l.length:Int):=by omega
   simp [abn,c,c1]
structure Fits (p:Pt):Prop where
 f:∀ s ∈ p.s,0≤s.f
 s:p.s.length≤9223372036854775807
 c:p.ch.length≤9223372036854775807
theorem aqb {α β:Type} (a:List α) (b:List β) [Decidable (a=[])] [Decidable (b=[])]:((a.length:Int)+(b.length:Int) == 0)=(decide (a=[])&&decide (b=[])):=by
 cases a <;> cases b <;> simp <;> omega
theorem ajQ {α β:Type} (a:List α) (b:List β) (ha:a.length≤9223372036854775807) (hb:b.length≤9223372036854775807) [Decidable (a=[])] [Decidable (b=[])]:(IntKind.i64.wrap ((a.length:Int)+(b.length:Int)) == 0)=(decide (a=[])&&decide (b=[])):=by
 have h:(IntKind.i64.wrap ((a.length:Int)+(b.length:Int)) == 0)=((a.length:Int)+(b.length:Int) == 0):=by
  rw [Bool.eq_iff_iff]
  show ((if (true&&decide (((a.length:Int)+b.length) % 18446744073709551616 ≥ 9223372036854775808))=true then ((a.length:Int)+b.length) % 18446744073709551616 - 18446744073709551616 else ((a.length:Int)+b.length) % 18446744073709551616) == 0)=true↔_
  simp only [Bool.true_and,decide_eq_true_eq,beq_iff_eq]
  split <;> omega
 rw [h,aqb]
theorem aey (H:Nz C) (p:Pt) (hp:Fits p):FnW C 586 [.agg p.c]=some (.bool (o7 p)):=by
 rw [aF H.aay rfl]
 unfold o7
 have ht:=oH H.tooZ p.t
 have hy:=oH H.tooZ p.y
 have hx:=AP H.tooZ p.x
 have hs:=Xn H p.s p.se hp.f
 have hl1:=hp.s
 have hl2:=hp.c
 have hz:(IntKind.i64.wrap ((p.s.length:Int)+(p.ch.length:Int)) == 0)=(decide (p.s=[])&&decide (p.ch=[])):=ajQ _ _ hl1 hl2
 generalize isName p.t=T at *
 generalize isText p.x=X at *
 generalize (decide (p.s.length≤8)&&kJ none p.s)=S at *
 by_cases k1:p.k=1
 · rw [if_pos k1]
   cases T
   · simp [lJ,k1,ht,H.inl,ay,H.pp,ppB]
   · by_cases c2:p.y=[]
     · have c2':=eq_true c2
       cases S
       · simp [lJ,k1,ht,hs,H.inl,ay,H.pp,ppB,c2']
       · by_cases c3:p.x=[]
         · have c3':=eq_true c3
           by_cases c5:p.ch.length≤16
           · have c7:(p.ch.length:Int)≤16:=by omega
             simp [lJ,k1,ht,hs,H.inl,ay,H.pp,ppB,c2',c3',c5,c7]
           · have c7:¬ (p.ch.length:Int)≤16:=by omega
             simp [lJ,k1,ht,hs,H.inl,ay,H.pp,ppB,c2',c3',c5,c7]
         · simp [lJ,k1,ht,hs,H.inl,ay,H.pp,ppB,c2',c3]
     · cases q2:isName p.y
       · rw [q2] at hy;simp [lJ,k1,ht,hy,H.inl,ay,H.pp,ppB,c2]
       · rw [q2] at hy
         cases S
         · simp [lJ,k1,ht,hy,hs,H.inl,ay,H.pp,ppB,c2]
         · by_cases c3:p.x=[]
           · have c3':=eq_true c3
             by_cases c5:p.ch.length≤16
             · have c7:(p.ch.length:Int)≤16:=by omega
               simp [lJ,k1,ht,hy,hs,H.inl,ay,H.pp,ppB,c2,c3',c5,c7]
             · have c7:¬ (p.ch.length:Int)≤16:=by omega
               simp [lJ,k1,ht,hy,hs,H.inl,ay,H.pp,ppB,c2,c3',c5,c7]
           · simp [lJ,k1,ht,hy,hs,H.inl,ay,H.pp,ppB,c2,c3]
 · rw [if_neg k1]
   by_cases k5:p.k=5
   · rw [if_pos k5]
     cases T
     · simp [lJ,k5,ht,hs,H.inl,ay,H.pp,ppB]
     · cases S
       · simp [lJ,k5,ht,hs,H.inl,ay,H.pp,ppB]
       · by_cases c2:p.y=[]
         · by_cases c3:p.x=[]
           · by_cases c4:p.ch=[] <;> simp [lJ,k5,ht,hs,H.inl,ay,H.pp,ppB,eq_true c2,eq_true c3,c4]
           · simp [lJ,k5,ht,hs,H.inl,ay,H.pp,ppB,eq_true c2,c3]
         · simp [lJ,k5,ht,hs,H.inl,ay,H.pp,ppB,c2]
   · rw [if_neg k5]
     by_cases k2:p.k=2
     · rw [if_pos k2]
       cases X
       · simp [lJ,k2,hx,H.inl,ay,H.pp,ppB]
       · by_cases c1:p.t=[]
         · by_cases c2:p.y=[]
           · simp (disch:=omega) [lJ,k2,hx,H.inl,ay,H.pp,ppB,eq_true c1,eq_true c2,hz]
           · simp [lJ,k2,hx,H.inl,ay,H.pp,ppB,eq_true c1,c2]
         · simp [lJ,k2,hx,H.inl,ay,H.pp,ppB,c1]
     · rw [if_neg k2]
       by_cases k34:p.k=3∨p.k=4
       · have rest:FnW C 586 [.agg p.c]=some (.bool (decide (p.t=[])&&decide (p.y=[])&&decide (p.x=[])&&decide (p.s=[])&&decide (p.ch=[]))):=by
          rw [aF H.aay rfl]
          by_cases c0:p.x=[]
          · by_cases c1:p.t=[]
            · by_cases c2:p.y=[]
              · rcases k34 with k3 | k3 <;> simp (disch:=omega) [lJ,k3,H.inl,ay,H.pp,ppB,eq_true c0,eq_true c1,eq_true c2,hz]
              · rcases k34 with k3 | k3 <;> simp [lJ,k3,H.inl,ay,H.pp,ppB,eq_true c0,eq_true c1,c2]
            · rcases k34 with k3 | k3 <;> simp [lJ,k3,H.inl,ay,H.pp,ppB,eq_true c0,c1]
          · rcases k34 with k3 | k3 <;> simp [lJ,k3,H.inl,ay,H.pp,ppB,c0]
         rw [aF H.aay rfl] at rest
         rw [rest]
         simp [k34]
       · have k3:¬ p.k=3:=fun q=>k34 (.inl q)
         have k4:¬ p.k=4:=fun q=>k34 (.inr q)
         simp [lJ,k1,k2,k3,k4,k5,H.inl,ay,H.pp,ppB]
inductive iE:Pt→Prop
 | mk (p:Pt) (h:Fits p) (hm:∀ m ∈ p.ch,iE m):iE p
mutual
/-- The specification's count, with so many levels. -/
def trc:Pt→Nat→Nat
 | _,0=>1000
 | ⟨k,t,y,s,se,x,ch,ce⟩,lv+1=>if o7 ⟨k,t,y,s,se,x,ch,ce⟩=true then rU ch lv 1 else 1000
def rU:List Pt→Nat→Nat→Nat
 | [],_,c=>c
 | m::r,lv,c=>if c≤64 then rU r lv (c+trc m lv) else c
end
theorem af8 (n:Pt):trc n 0=1000:=by cases n;rw [trc]
theorem af7 (n:Pt) (lv:Nat):trc n (lv+1)=if o7 n=true then rU n.ch lv 1 else 1000:=by cases n;rw [trc]
theorem Kw:∀ (l:List Pt) (lv c:Nat),c≤rU l lv c
 | [],lv,c=>by rw [rU];exact Nat.le_refl _
 | m::r,lv,c=>by
  rw [rU]
  split
  · have:=Kw r lv (c+trc m lv);omega
  · exact Nat.le_refl _
theorem aiV (n:Pt) (lv:Nat):1≤trc n lv:=by
 cases lv with
 | zero=>rw [af8];omega
 | succ lv =>
  rw [af7]
  split
  · exact Kw _ _ _
  · omega
mutual
theorem abE:∀ (n:Pt) (lv:Nat),trc n lv≤1000+64 * lv
 | ⟨k,t,y,s,se,x,ch,ce⟩,0=>by rw [trc];omega
 | ⟨k,t,y,s,se,x,ch,ce⟩,lv+1=>by
  rw [trc]
  split
  · have:=UR ch lv 1 (by omega);omega
  · omega
theorem UR:∀ (l:List Pt) (lv c:Nat),c≤1064+64 * lv→rU l lv c≤1064+64 * lv
 | [],lv,c,h=>by rw [rU];exact h
 | m::r,lv,c,h=>by
  rw [rU]
  split
  · have h2:=abE m lv
    exact UR r lv _ (by omega)
  · exact h
end
mutual
theorem agz:∀ (n:Pt) (lv L c:Nat),lv+L=7→c≤64→((tk n L c).1=true→(tk n L c).2=c+trc n lv∧c+trc n lv≤64)∧((tk n L c).1=false→64 < c+trc n lv)
 | ⟨k,t,y,s,se,x,ch,ce⟩,lv,L,c,h1,h2=>by
  have hge:=aiV ⟨k,t,y,s,se,x,ch,ce⟩ lv
  rw [tk]
  by_cases q:6 < L∨64 < c+1∨o7 ⟨k,t,y,s,se,x,ch,ce⟩=false
  · rw [if_pos q]
    refine ⟨fun r=>by simp at r,fun _=>?_⟩
    rcases q with q | q | q
    · have:lv=0:=by omega
      subst this
      rw [trc];omega
    · omega
    · cases lv with
      | zero=>rw [trc];omega
      | succ lv=>rw [trc,if_neg (by simp [q])];omega
  · rw [if_neg q]
    cases lv with
    | zero=>omega
    | succ lv =>
     rw [trc,if_pos (by simpa using fun r=>q (.inr (.inr r)))]
     exact aal ch lv (L+1) c 1 (by omega) (by omega)
theorem aal:∀ (l:List Pt) (lv L g c:Nat),lv+L=7→g+c≤64→((tks l L (g+c)).1=true→(tks l L (g+c)).2=g+rU l lv c∧g+rU l lv c≤64)∧((tks l L (g+c)).1=false→64 < g+rU l lv c)
 | [],lv,L,g,c,h1,h2=>by
  rw [tks,rU];exact ⟨fun _=>⟨rfl,h2⟩,fun r=>by simp at r⟩
 | m::r,lv,L,g,c,h1,h2=>by
  have hm:=agz m lv L (g+c) h1 h2
  have hr:rU (m::r) lv c=rU r lv (c+trc m lv):=by rw [rU,if_pos (by omega)]
  rw [tks,hr]
  generalize tk m L (g+c)=R at *
  obtain ⟨b,c'⟩:=R
  cases b with
  | true =>
   obtain ⟨e1,e2⟩:=hm.1 rfl
   rw [if_pos rfl]
   simp only at e1
   rw [e1,Nat.add_assoc]
   exact aal r lv L g (c+trc m lv) h1 (by omega)
  | false =>
   have e:=hm.2 rfl
   rw [if_neg (by simp)]
   refine ⟨fun q=>by simp at q,fun _=>?_⟩
   have:=Kw r lv (c+trc m lv)
   omega
end
theorem adp (p:Pt):oV p=if p.k≠1∨64 < trc p 6 then 0 else trc p 6:=by
 have h:=agz p 6 1 0 rfl (by omega)
 unfold oV
 generalize tk p 1 0=R at *
 obtain ⟨b,c⟩:=R
 by_cases k1:p.k=1
 · cases b with
   | true =>
    obtain ⟨e1,e2⟩:=h.1 rfl
    simp only at e1
    rw [if_pos ⟨k1,rfl⟩,if_neg (by intro q;rcases q with q | q;exact q k1;omega)];simp only;omega
   | false =>
    have e:=h.2 rfl
    rw [if_neg (by simp),if_pos (.inr (by omega))]
 · rw [if_neg (fun q=>k1 q.1),if_pos (.inl k1)]
abbrev hpP (p:Pt):aJ:=[(0,.cells 6 [p.c] true true)]
theorem MX (H:Nz C) (n:Pt) (lv:Nat) (hlv:lv≤5) (hl:n.ch.length≤16) (ih:∀ m ∈ n.ch,FnW C 550 [.agg m.c,.int .i64 lv]=some (.int .i64 (trc m lv))):∀ j i,j+i=n.ch.length→∀ c,c≤1064+64 * lv →
 zi C ⟨[(6,.int .i64 i),(5,.int .i64 c),(2,.ptr 0 0 0),(1,.int .i64 (lv+1:Nat))],hpP n,1⟩=some (.int .i64 (rU (n.ch.drop i) lv c)):=by
 intro j
 induction j with
 | zero =>
  intro i hi c hc
  simp only [zi];rw [aj xk.eq_1]
  have h1:n.ch.drop i=[]:=List.drop_eq_nil_of_le (by omega)
  have h3:¬ i < n.ch.length:=by omega
  rw [h1,rU]
  simp [aj DW.eq_1,h3]
 | succ j ihj =>
  intro i hi c hc
  have h1:i < n.ch.length:=by omega
  have hm:=ih _ (List.getElem_mem h1)
  have hle:=abE n.ch[i] lv
  rw [drop_cons h1,rU]
  by_cases c1:c≤64
  · have:=ihj (i+1) (by omega) (c+trc n.ch[i] lv) (by omega)
    rw [if_pos c1]
    have c2:(c:Int)≤64:=by omega
    simp only [zi] at this ⊢;rw [aj xk.eq_1]
    simp at this
    simp (disch:=omega) [h1,c1,c2,aG,hm,H.inl,ay,H.pp,ppB,this]
  · rw [if_neg c1]
    have c2:¬ (c:Int)≤64:=by omega
    simp only [zi];rw [aj xk.eq_1]
    simp (disch:=omega) [aj DW.eq_1,h1,c1,c2]
theorem Jh (H:Nz C) (n:Pt) (hf:Fits n) (ih:∀ m ∈ n.ch,∀ lv:Nat,lv≤6→FnW C 550 [.agg m.c,.int .i64 lv]=some (.int .i64 (trc m lv))) (lv:Nat) (hlv:lv≤6):FnW C 550 [.agg n.c,.int .i64 lv]=some (.int .i64 (trc n lv)):=by
 have ho:=aey H n hf
 rw [aF H.ajh rfl]
 cases lv with
 | zero=>rw [af8];simp [XJ]
 | succ lv =>
  rw [af7]
  have c1:¬ (lv:Int)+1 < 1:=by omega
  cases ha:o7 n with
  | false=>rw [ha] at ho;simp [XJ,c1,ho,H.inl,ay,H.pp,ppB]
  | true =>
   rw [ha] at ho
   have hr:=MX H n lv (by omega) (yR ha) (fun m hm=>ih m hm lv (by omega)) n.ch.length 0 (by simp) 1 (by omega)
   rw [List.drop_zero] at hr
   simp only [zi] at hr
   simp at hr
   simp [XJ,c1,ho,H.inl,ay,H.pp,ppB,hr]
theorem Tj (H:Nz C) (p:Pt) (hf:iE p):∀ lv:Nat,lv≤6→FnW C 550 [.agg p.c,.int .i64 lv]=some (.int .i64 (trc p lv)):=by
 induction hf with
 | mk p h hm ih=>exact fun lv hlv=>Jh H p h (fun m hm lv hlv=>ih m hm lv hlv) lv hlv
theorem Sj (H:Nz C) (p:Pt) (hf:iE p):FnW C 505 [.agg p.c]=some (.int .i64 (oV p)):=by
 have h:=Tj H p hf 6 (by omega)
 rw [aF H.aii rfl,adp]
 generalize trc p 6=R at *
 simp at h
 by_cases k1:p.k=1
 · by_cases c:64 < R
   · have c1:64 < (R:Int):=by omega
     simp [VX,H.inl,ay,H.pp,ppB,h,c,c1,k1]
   · have c1:¬ 64 < (R:Int):=by omega
     simp [VX,H.inl,ay,H.pp,ppB,h,c,c1,k1]
 · simp [VX,H.inl,ay,H.pp,ppB,h,k1]
theorem SX (H:Nz C) (p:Pt) (hf:iE p):FnW C 408 [.agg p.c]=some (.int .i64 (if oV p=0 then 14 else 0)):=by
 have h:=Sj H p hf
 rw [aF H.aiY rfl]
 by_cases c:oV p=0
 · simp [Ym,H.inl,ay,H.pp,ppB,h,c]
 · simp [Ym,H.inl,ay,H.pp,ppB,h,c]
end Go.D
end
section
namespace Go.D
open Go Go.Pav Go.Pw P
attribute [-simp] List.getElem_cons_drop
variable {C:aI}
structure Zj (C:aI):Prop extends Nz C,Oq C where
 ahg:C.fns.get 546=some RX
 ahw:C.fns.get 580=some aeC
 aiN:C.fns.get 512=some Qu
def oM (i:It):Bool:=decide (i.k≠0)&&isText i.x&&(decide (i.m.length≤8)&&i.m.all isName)
theorem acC (H:Zj C):Uf C 580 isName where
 ok s:=by
  have:=wB H.toDu s
  rw [aF H.ahw rfl]
  simp [aeC,H.inl,ay,H.pp,ppB,this]
 ne:=by rfl
 ni:=by rfl
theorem Yd (H:Zj C) (i:It):FnW C 546 [eIt i]=some (.int .i64 (if oM i=true then 0 else 6)):=by
 have hx:=BL H.toDu i.x
 rw [aF H.ahg rfl]
 unfold oM
 generalize isText i.x=X at *
 by_cases c1:i.k=0
 · simp [RX,eq_true c1]
 · cases X
   · simp [RX,c1,hx,H.inl,ay,H.pp,ppB]
   · by_cases c2:i.m.length≤8
     · have c3:¬ 8 < (i.m.length:Int):=by omega
       have hm:=zX H.toOq (acC H) i.m i.e (by omega)
       generalize i.m.all isName=M at *
       cases M <;> simp at hm <;> simp [RX,c1,hx,c2,c3,hm,H.inl,ay,H.pp,ppB]
     · have c3:8 < (i.m.length:Int):=by omega
       simp [RX,c1,hx,c2,c3,H.inl,ay,H.pp,ppB]
theorem QV (H:Zj C) (k t:Int) (x:Bs) (m:List Bs) (e:Bool) (hl:m.length≤8):∀ n i,n+i=m.length →
 Em C ⟨[(3,.int .i64 i),(1,.ptr 0 0 0)],[(0,.cells 4 [[.int .u64 k,.int .u8 t,.str x,.ro 1 (m.map eS) e]] true true)],1⟩ =
  some (.int .i64 (if (m.drop i).all isName=true then 0 else 6)):=by
 intro n
 induction n with
 | zero =>
  intro i hi
  simp only [Em];rw [aj zJ.eq_1]
  have h1:m.drop i=[]:=List.drop_eq_nil_of_le (by omega)
  have h3:¬ i < m.length:=by omega
  simp [aj Nk.eq_1,h1,h3]
 | succ n ih =>
  intro i hi
  have h1:i < m.length:=by omega
  have:=ih (i+1) (by omega)
  have hb:=oH H.tooZ m[i]
  rw [drop_cons h1]
  generalize hX:(m.drop (i+1)).all isName=X at *
  rw [List.all_cons,hX]
  simp only [Em] at this ⊢;rw [aj zJ.eq_1]
  cases hn:isName m[i]
  · rw [hn] at hb
    simp (disch:=omega) [h1,aG,hb,H.inl,ay,H.pp,ppB]
  · rw [hn] at hb
    simp at this
    simp (disch:=omega) [h1,aG,hb,H.inl,ay,H.pp,ppB,this]
theorem abp (H:Zj C) (i:It):FnW C 512 [eIt i]=some (.int .i64 (if oM i=true then 0 else 6)):=by
 have hx:=AP H.tooZ i.x
 rw [aF H.aiN rfl]
 unfold oM
 generalize isText i.x=X at *
 by_cases c1:i.k=0
 · simp [Qu,eq_true c1]
 · cases X
   · simp [Qu,c1,hx,H.inl,ay,H.pp,ppB]
   · by_cases c2:i.m.length≤8
     · have c3:¬ 8 < (i.m.length:Int):=by omega
       have hm:=QV H i.k i.t i.x i.m i.e c2 i.m.length 0 (by simp)
       rw [List.drop_zero] at hm
       generalize i.m.all isName=M at *
       simp only [Em] at hm
       simp at hm
       simp [Qu,c1,hx,c2,c3,hm,H.inl,ay,H.pp,ppB]
     · have c3:8 < (i.m.length:Int):=by omega
       simp [Qu,c1,hx,c2,c3,H.inl,ay,H.pp,ppB]
def dec (n:Nat):Bs:=if h:n < 10 then [UInt8.ofNat (48+n)] else dec (n / 10)++[UInt8.ofNat (48+n % 10)]
termination_by n
theorem Ue:∀ (k n:Nat),n < 10 ^ (k+1)→(dec n).length≤k+1
 | 0,n,h=>by unfold dec;rw [dif_pos (by simpa using h)];simp
 | k+1,n,h=>by
  unfold dec
  split
  · simp
  · have:=Ue k (n / 10) (by rw [Nat.pow_succ] at h;omega)
    simp;omega
structure XR (C:aI):Prop extends Zj C where
 ajb:C.fns.get 584=some aeF
 aes:C.fns.get 558=some Yc
theorem U3 (n:Nat) (h:n < 10):dec n=[UInt8.ofNat (48+n)]:=by unfold dec;rw [dif_pos h]
theorem TT (H:XR C) (n:Nat) (h:n < 10):FnW C 558 [.int .u64 n]=some (.str (dec n)):=by
 rw [aF H.aes rfl,U3 n h]
 obtain rfl | rfl | rfl | rfl | rfl | rfl | rfl | rfl | rfl | rfl:n=0∨n=1∨n=2∨n=3∨n=4∨n=5∨n=6∨n=7∨n=8∨n=9:=by omega
 all_goals (simp (disch:=omega) [Yc,nI];try rfl)
theorem Wx (H:XR C) (n:Nat) (h:n < 18446744073709551616) (ih:∀ m < n,FnW C 558 [.int .u64 m]=some (.str (dec m))):FnW C 558 [.int .u64 n]=some (.str (dec n)):=by
 by_cases c:n < 10
 · exact TT H n c
 · have h1:=ih (n / 10) (by omega)
   have h2:=TT H (n % 10) (by omega)
   have hl:=Ue 19 (n / 10) (by omega)
   rw [U3 _ (by omega)] at h2
   rw [aF H.aes rfl]
   rw [dec,dif_neg c]
   have e1:(n:Int).tdiv 10=((n / 10:Nat):Int):=by rw [Int.tdiv_eq_ediv_of_nonneg (by omega)];omega
   have e2:(n:Int).tmod 10=((n % 10:Nat):Int):=by rw [Int.tmod_eq_emod_of_nonneg (by omega)];omega
   have c2:¬ (n:Int) < 10:=by omega
   have hm:(dec (n / 10)).length+1≤maxStr:=by unfold maxStr;omega
   have b1:n / 10≤n:=by omega
   have b2:n % 10≤n:=by omega
   generalize dec (n / 10)=D at *
   generalize UInt8.ofNat (48+n % 10)=dg at *
   generalize n / 10=q at *
   generalize n % 10=r at *
   simp (disch:=omega) [Yc,nI,c2,e1,e2,h1,h2,hm,H.inl,ay,H.pp,ppB]
theorem LU (H:XR C) (n:Nat):n < 18446744073709551616→FnW C 558 [.int .u64 n]=some (.str (dec n)):=by
 induction n using Nat.strongRecOn with
 | ind n ih=>exact fun h=>Wx H n h (fun m hm=>ih m hm (by omega))
theorem bytesOf_map:∀ l:List UInt8,bytesOf (l.map fun b=>[AV.int .u8 b.toNat])=some l
 | []=>rfl
 | b::r=>by
  rw [List.map_cons,bytesOf,bytesOf_map r]
  simp
theorem abD (r:Nat) (h:r < 10):([48,49,50,51,52,53,54,55,56,57]:List UInt8)[r]'(by simpa using h)=UInt8.ofNat (48+r):=by
 obtain rfl | rfl | rfl | rfl | rfl | rfl | rfl | rfl | rfl | rfl:r=0∨r=1∨r=2∨r=3∨r=4∨r=5∨r=6∨r=7∨r=8∨r=9:=by omega
 all_goals rfl
theorem aa1:∀ (i n:Nat) (acc:List UInt8),acc.length+i=19→n < 10 ^ (i+1)→n < 18446744073709551616 →
 Ee C ⟨[(4,.int .i64 (i+1:Nat)),(3,.ptr 0 0 0),(0,.int .u64 n)],[(0,.cells 20 [List.replicate i (AV.int .u8 0)++AV.int .u8 0::acc.map fun b=>AV.int .u8 b.toNat] true true)],1⟩=some (.str (dec n++acc)):=by
 intro i
 induction i with
 | zero =>
  intro n acc ha hn hb
  have e1:(n:Int).tdiv 10=0:=by rw [Int.tdiv_eq_ediv_of_nonneg (by omega)];omega
  have e2:(n:Int).tmod 10=n:=by rw [Int.tmod_eq_emod_of_nonneg (by omega)];omega
  have hr:n < 10:=by simpa using hn
  have hd:=abD n hr
  have h19:19≤acc.length:=by omega
  rw [U3 n hr]
  generalize UInt8.ofNat (48+n)=dg at *
  have hm:bytesOf ([AV.int .u8 dg.toNat]::List.map ((fun x=>[x]) ∘ fun b:UInt8=>AV.int .u8 b.toNat) acc)=some (dg::acc):=bytesOf_map (dg::acc)
  simp only [Ee];rw [aj zL.eq_1]
  simp (disch:=(first | omega | (simp;done) | (simp;omega))) [aG,nI,e1,e2,hr,hd,h19,hm,List.take_of_length_le,Oa]
 | succ i ih =>
  intro n acc ha hn hb
  have e1:(n:Int).tdiv 10=((n / 10:Nat):Int):=by rw [Int.tdiv_eq_ediv_of_nonneg (by omega)];omega
  have e2:(n:Int).tmod 10=((n % 10:Nat):Int):=by rw [Int.tmod_eq_emod_of_nonneg (by omega)];omega
  have hr:n % 10 < 10:=by omega
  have hq:n / 10 < 10 ^ (i+1):=by rw [Nat.pow_succ] at hn;omega
  have hqb:n / 10≤n:=by omega
  have h18:acc.length+i=18:=by omega
  have hi:i+1 < 20:=by omega
  have h20:20≤i+1+(acc.length+1):=by omega
  have hi19:i≤19:=by omega
  have hd:=abD (n % 10) hr
  have ih':=fun dg=>ih (n / 10) (dg::acc) (by simp;omega) hq (by omega)
  have hdec:dec n=(if n / 10=0 then [] else dec (n / 10))++[UInt8.ofNat (48+n % 10)]:=by
   by_cases c:n < 10
   · have:n / 10=0:=by omega
     have h2:n % 10=n:=by omega
     rw [U3 n c,this,h2];simp
   · rw [dec,dif_neg c,if_neg (by omega)]
  rw [hdec]
  have t1:∀ (z:AV) (L:List AV),List.take (i+1) (List.replicate (i+1) z++L)=List.replicate (i+1) z:=fun z L=>List.take_left' (by simp)
  have t2:∀ (z y:AV) (L:List AV),List.drop (i+1+1) (List.replicate (i+1) z++y::L)=L:=fun z y L=>by
   rw [List.append_cons];exact List.drop_left' (by simp)
  have t3:∀ (z:AV) (X:List AV),List.replicate i z++z::X=List.replicate (i+1) z++X:=fun z X=>by rw [List.replicate_succ'];simp
  generalize dec (n / 10)=D at *
  generalize UInt8.ofNat (48+n % 10)=dg at *
  have hm:bytesOf ([AV.int .u8 dg.toNat]::List.map ((fun x=>[x]) ∘ fun b:UInt8=>AV.int .u8 b.toNat) acc)=some (dg::acc):=bytesOf_map (dg::acc)
  have ih2:=ih' dg
  rw [t3] at ih2
  generalize n / 10=q at *
  generalize n % 10=r at *
  simp only [Ee] at ih2 ⊢;rw [aj zL.eq_1]
  simp at ih2
  by_cases c:q=0
  · simp (disch:=(first | omega | (simp;done) | (simp;omega))) [aG,nI,e1,e2,hr,hd,hi,h20,hi19,hm,t1,t2,c,List.take_of_length_le,Oa]
  · simp (disch:=(first | omega | (simp;done) | (simp;omega))) [aG,nI,e1,e2,hr,hd,hi,t1,t2,c,ih2]
theorem ML (H:XR C) (n:Nat) (h:n < 18446744073709551616):FnW C 584 [.int .u64 n]=some (.str (dec n)):=by
 have hl:=aa1 (C:=C) 19 n [] rfl (by omega) h
 have e:List.replicate 19 (AV.int .u8 0)++AV.int .u8 0::List.map (fun b:UInt8=>AV.int .u8 b.toNat) []=rep 20 (AV.int .u8 0):=rfl
 rw [e] at hl
 simp only [Ee] at hl
 simp at hl
 rw [aF H.ajb rfl]
 simp [aeF,hl]
def bn (x:It) (s:Sl):Bs × Bs:=(s.n,if s.f=1 then x.x else if s.f=2 then dec x.k.toNat else if s.f=3 then dec x.m.length else s.v)
structure abj (C:aI):Prop extends XR C where
 aho:C.fns.get 559=some acT
 ag3:C.fns.get 592=some Yn
theorem Oc (H:abj C) (x:It) (hk:0≤x.k∧x.k < 18446744073709551616) (hm:x.m.length≤1000000) (l:List Sl) (e:Bool) (hl:l.length≤8):∀ n i,n+i=l.length→∀ G:List (Bs × Bs),G.length=i →
 Ei C ⟨[(6,.int .i64 i),(5,.sl 0 2 0 G.length G.length false),(3,.ptr 1 0 0),(0,.ro 3 (l.map eSl) e)],[(0,.cells 2 (G.map eA) true true),(1,.cells 4 [[.int .u64 x.k,.int .u8 x.t,.str x.x,.ro 1 (x.m.map eS) x.e]] true true)],2⟩ =
  some (.ro 2 ((G++(l.drop i).map (bn x)).map eA) false):=by
 intro n
 induction n with
 | zero =>
  intro i hi G hG
  have h1:l.drop i=[]:=List.drop_eq_nil_of_le (by omega)
  have h3:¬ i < l.length:=by omega
  simp only [Ei];rw [aj Ac.eq_1]
  cases G with
  | nil=>simp [aj D7.eq_1,h1,h3]
  | cons g G=>simp (disch:=(first | omega | (simp;done) | (simp;omega))) [aj D7.eq_1,h1,h3,List.take_of_length_le]
 | succ n ih =>
  intro i hi G hG
  have h1:i < l.length:=by omega
  obtain ⟨k,hk2⟩:∃ k:Nat,x.k=k:=⟨x.k.toNat,by omega⟩
  have d1:=LU H.toXR k (by omega)
  have d2:=LU H.toXR x.m.length (by omega)
  have ih':=ih (i+1) (by omega) (G++[bn x l[i]]) (by simp [hG])
  have hfit:(G.length+1) * 33≤35184372088832:=by omega
  rw [drop_cons h1]
  simp only [Ei] at ih' ⊢;rw [aj Ac.eq_1]
  simp at ih'
  unfold bn at ih' ⊢
  rw [hk2] at ih' ⊢
  by_cases f1:l[i].f=1
  · simp [f1] at ih'
    simp (disch:=omega) [h1,f1,aG,hfit,ih',H.inl,ay,H.pp,ppB]
  · by_cases f2:l[i].f=2
    · simp [f2] at ih'
      simp (disch:=omega) [h1,f2,aG,hfit,d1,ih',H.inl,ay,H.pp,ppB]
    · by_cases f3:l[i].f=3
      · simp [f3] at ih'
        simp (disch:=omega) [h1,f3,aG,nI,hfit,d2,ih',H.inl,ay,H.pp,ppB]
      · simp [f1,f2,f3] at ih'
        simp (disch:=omega) [h1,f1,f2,f3,aG,hfit,ih',H.inl,ay,H.pp,ppB]
theorem jy (H:abj C) (x:It) (hk:0≤x.k∧x.k < 18446744073709551616) (hm:x.m.length≤1000000) (l:List Sl) (e:Bool) (hl:l.length≤8) :
 FnW C 559 [.ro 3 (l.map eSl) e,eIt x]=some (.ro 2 ((l.map (bn x)).map eA) false):=by
 have h:=Oc H x hk hm l e hl l.length 0 (by simp) [] rfl
 simp only [Ei] at h
 simp at h
 rw [aF H.aho rfl]
 simp [acT,h]
theorem Oe (H:abj C) (x:It) (hk:0≤x.k∧x.k < 18446744073709551616) (hm:x.m.length≤1000000) (l:List Sl) (e:Bool) (hl:l.length≤8) (hf:∀ s ∈ l,0≤s.f∧s.f≤3):∀ n i,n+i=l.length→∀ G:List (Bs × Bs),G.length=i →
 EO C ⟨[(13,.int .i64 i),(12,.int .i64 l.length),(11,.ro 3 (l.map eSl) e),(5,.sl 0 2 0 l.length l.length true),(2,.ptr 1 0 0)],[(0,.cells 2 (G.map eA++List.replicate n [.str [],.str []]) true true),(1,.cells 4 [[.int .u64 x.k,.int .u8 x.t,.str x.x,.ro 1 (x.m.map eS) x.e]] true true)],2⟩ =
  some (.ro 2 ((G++(l.drop i).map (bn x)).map eA) true):=by
 intro n
 induction n with
 | zero =>
  intro i hi G hG
  have h1:l.drop i=[]:=List.drop_eq_nil_of_le (by omega)
  have h3:¬ i < l.length:=by omega
  have h5:G.length=l.length:=by omega
  have h6:List.take l.length (List.map eA G)=List.map eA G:=List.take_of_length_le (by simp [h5])
  simp only [EO];rw [aj vS.eq_1]
  simp [aj EJ.eq_1,h1,h3,h5,h6]
 | succ n ih =>
  intro i hi G hG
  have h1:i < l.length:=by omega
  obtain ⟨k,hk2⟩:∃ k:Nat,x.k=k:=⟨x.k.toNat,by omega⟩
  have d1:=ML H.toXR k (by omega)
  have d2:=ML H.toXR x.m.length (by omega)
  have ih':=ih (i+1) (by omega) (G++[bn x l[i]]) (by simp [hG])
  have h0:=hf _ (List.getElem_mem h1)
  rw [drop_cons h1]
  simp only [EO] at ih' ⊢;rw [aj vS.eq_1]
  simp at ih'
  unfold bn at ih' ⊢
  rw [hk2] at ih' ⊢
  have f0123:l[i].f=0∨l[i].f=1∨l[i].f=2∨l[i].f=3:=by omega
  rcases f0123 with f | f | f | f
  all_goals
   simp [f] at ih'
   simp (disch:=omega) [h1,f,aG,nI,d1,d2,Ag,AO,H.inl,ay,H.pp,ppB,ih']
theorem XL (H:abj C) (x:It) (hk:0≤x.k∧x.k < 18446744073709551616) (hm:x.m.length≤1000000) (l:List Sl) (e:Bool) (hl:l.length≤8) (hf:∀ s ∈ l,0≤s.f∧s.f≤3) :
 FnW C 592 [eIt x,.ro 3 (l.map eSl) e]=some (.ro 2 ((l.map (bn x)).map eA) true):=by
 rw [aF H.ag3 rfl]
 by_cases hne:l=[]
 · subst hne
   simp (disch:=omega) [Yn,aj vS.eq_1,aj EJ.eq_1]
 · have h:=Oe H x hk hm l e hl hf l.length 0 (by simp) [] rfl
   simp only [EO] at h
   simp at h
   simp (disch:=omega) [Yn,fits,hne,h]
structure adR (C:aI):Prop extends abj C where
 ahU:C.fns.get 582=some afk
 ag4:C.fns.get 583=some acQ
 agT:C.fns.get 593=some afW
def bK (s:Bs):Nd:=⟨2,[],[],[],true,s,[],true⟩
theorem wI (H:adR C) (s:Bs):FnW C 583 [.str s]=some (.agg (bK s).c):=by
 rw [aF H.ag4 rfl,Nd.fA]
 simp [acQ,bK]
theorem aeD (H:adR C) (l:List Nd) (e:Bool):FnW C 593 [.ro 6 (l.map Nd.c) e]=some (.ro 6 (l.map Nd.c) true):=by
 have h:List.take l.length (List.map Nd.c l)=List.map Nd.c l:=List.take_of_length_le (by simp)
 rw [aF H.agT rfl]
 simp [afW,h]
def xX (x:It) (p:Pt) (key:Bs) (ch:List Nd):Nd:=⟨1,p.t,key,p.s.map (bn x),true,[],ch,true⟩
theorem E5 (H:adR C) (x:It) (hk:0≤x.k∧x.k < 18446744073709551616) (hm:x.m.length≤1000000) (p:Pt) (hl:p.s.length≤8) (hf:∀ s ∈ p.s,0≤s.f∧s.f≤3) (key:Bs) (ch:List Nd) (e:Bool) :
 FnW C 582 [eIt x,.agg p.c,.str key,.ro 6 (ch.map Nd.c) e]=some (.agg (xX x p key ch).c):=by
 have h1:=XL H.toabj x hk hm p.s p.se hl hf
 have h2:=aeD H ch e
 rw [aF H.ahU rfl,Nd.fA]
 simp only [xX]
 simp [afk,h1,h2,H.inl,ay,H.pp,ppB]
end Go.D
end
section
namespace Go.D
open Go Go.Pav Go.Pw P
mutual
/-- A tree without what is known of its memory. -/
def Nd.z:Nd→Nd
 | ⟨k,t,y,a,ae,x,ch,ce⟩=>⟨k,t,y,a,true,x,Nd.zs ch,true⟩
def Nd.zs:List Nd→List Nd
 | []=>[]
 | n::r=>n.z::Nd.zs r
end
theorem Nd.agk:∀ l:List Nd,Nd.zs l=l.map Nd.z
 | []=>rfl
 | n::r=>by rw [Nd.zs,Nd.agk r];rfl
theorem Nd.acM (n:Nd):n.z=⟨n.k,n.t,n.y,n.a,true,n.x,n.ch.map Nd.z,true⟩:=by cases n;rw [Nd.z,Nd.agk]
theorem Nd.z_y (n:Nd):n.z.y=n.y:=by rw [Nd.acM]
theorem ad3 (n:Nd):alone n.z=alone n:=by
 have h:(n.ch.map Nd.z).map Nd.y=n.ch.map Nd.y:=by rw [List.map_map];exact List.map_congr_left fun m _=>m.z_y
 rw [Nd.acM]
 unfold alone
 simp only [h,List.length_map,List.map_eq_nil_iff]
mutual
theorem aj0:∀ (n:Nd) (lv:Nat) (s:Nat × Nat),wk n.z lv s=wk n lv s
 | ⟨k,t,y,a,ae,x,ch,ce⟩,lv,(c,d)=>by
  have h:=ad3 ⟨k,t,y,a,ae,x,ch,ce⟩
  rw [Zz,Zz,h]
  have e:(Nd.z ⟨k,t,y,a,ae,x,ch,ce⟩).ch=Nd.zs ch:=by rw [Nd.z]
  rw [e,agb ch (lv+1) (c+1,max d lv)]
theorem agb:∀ (l:List Nd) (lv:Nat) (s:Nat × Nat),wks (Nd.zs l) lv s=wks l lv s
 | [],lv,s=>by rw [Nd.zs]
 | m::r,lv,s=>by
  rw [Nd.zs,wks,wks,aj0 m lv s]
  split
  · exact agb r lv _
  · rfl
end
theorem agF (n:Nd):cnt n.z=cnt n:=by unfold cnt;rw [aj0]
end Go.D
end
section
namespace Go.D
open Go Go.Pav Go.Pw P
inductive Okp:Pt→Prop
 | mk (p:Pt) (h:o7 p=true) (hf:Fits p) (hm:∀ m ∈ p.ch,Okp m):Okp p
mutual
theorem Y0:∀ (p:Pt),iE p→∀ (lv c:Nat),(tk p lv c).1=true→Okp p
 | ⟨k,t,y,s,se,x,ch,ce⟩,hf,lv,c,h=>by
  rw [agd] at h
  split at h
  · cases h
  · rename_i q
    cases hf with
    | mk _ h1 hm =>
     exact .mk _ (by simpa using fun e=>q (.inr (.inr e))) h1 (Ug ch hm _ _ h)
theorem Ug:∀ (l:List Pt),(∀ m ∈ l,iE m)→∀ (lv c:Nat),(tks l lv c).1=true→∀ m ∈ l,Okp m
 | [],_,_,_,_=>by simp
 | m::r,hf,lv,c,h=>by
  rw [tks] at h
  split at h
  · rename_i q
    intro a ha
    have h0:=Y0 m (hf m (by simp)) lv c q
    have h2:=Ug r (fun b hb=>hf b (by simp [hb])) lv _ h
    rcases List.mem_cons.1 ha with e | ha
    · exact e ▸ h0
    · exact h2 a ha
  · cases h
end
theorem Qd {p:Pt} (hf:iE p) (h:oV p≠0):Okp p:=by
 unfold oV at h
 split at h
 · rename_i q;exact Y0 p hf 1 0 q.2
 · exact absurd rfl h
theorem abL {p:Pt} (h:oV p≠0):p.k=1:=by
 unfold oV at h
 split at h
 · rename_i q;exact q.1
 · exact absurd rfl h
theorem Jt:∀ (l:List Sl) (p:Option Bs),kJ p l=true→∀ s ∈ l,s.f≤3
 | [],_,_=>by simp
 | s::r,p,h=>by
  rw [kJ] at h
  simp at h
  intro a ha
  rcases List.mem_cons.1 ha with rfl | ha
  · exact h.1.1.1.1.2
  · exact Jt r _ h.2 a ha
theorem SH {p:Pt} (h:o7 p=true):p.s.length≤8∧∀ s ∈ p.s,s.f≤3:=by
 unfold o7 at h
 split at h
 · simp at h;exact ⟨h.1.2.1,Jt _ _ h.1.2.2⟩
 · split at h
   · simp at h;exact ⟨h.1.1.1.2.1,Jt _ _ h.1.1.1.2.2⟩
   · split at h
     · simp at h;rw [h.1.2];simp
     · simp at h;rw [h.1.2];simp
theorem QH {p:Pt} (h:o7 p=true):p.k=1∨p.k=2∨p.k=3∨p.k=4∨p.k=5:=by
 unfold o7 at h
 split at h
 · exact .inl ‹_›
 · split at h
   · exact .inr (.inr (.inr (.inr ‹_›)))
   · split at h
     · exact .inr (.inl ‹_›)
     · simp at h
       rcases h.1.1.1.1.1 with q | q
       · exact .inr (.inr (.inl q))
       · exact .inr (.inr (.inr (.inl q)))
mutual
/-- What a part makes. -/
def mk (x:It):Pt→List Nd
 | ⟨k,t,y,s,se,tx,ch,ce⟩ =>
  if k=1 then [⟨1,t,y,s.map (bn x),true,[],mks x ch,true⟩]
  else if k=2 then [bK tx] else if k=3 then [bK x.x] else if k=4 then [bK (dec x.k.toNat)]
  else if k=5 then x.m.map fun m=>⟨1,t,m,s.map (bn x),true,[],[bK m],true⟩ else []
def mks (x:It):List Pt→List Nd
 | []=>[]
 | p::r=>mk x p++mks x r
end
theorem mk_eq (x:It) (p:Pt):mk x p=if p.k=1 then [xX x p p.y (mks x p.ch)]
 else if p.k=2 then [bK p.x] else if p.k=3 then [bK x.x] else if p.k=4 then [bK (dec x.k.toNat)]
 else if p.k=5 then x.m.map fun m=>xX x p m [bK m] else []:=by cases p;rw [mk];rfl
mutual
/-- What the specification's part makes. -/
def md (x:It):Pt→List Nd
 | ⟨k,t,y,s,se,tx,ch,ce⟩ =>
  if k=2 then [bK tx] else if k=3 then [bK x.x] else if k=4 then [bK (dec x.k.toNat)]
  else if k=5 then x.m.map fun m=>⟨1,t,m,s.map (bn x),false,[],[bK m],true⟩
  else [⟨1,t,y,s.map (bn x),false,[],mds x ch,(mds x ch).isEmpty⟩]
def mds (x:It):List Pt→List Nd
 | []=>[]
 | p::r=>md x p++mds x r
end
def iV (x:It) (p:Pt) (key:Bs) (ch:List Nd) (e:Bool):Nd:=⟨1,p.t,key,p.s.map (bn x),false,[],ch,e⟩
theorem abK (x:It) (p:Pt):md x p=if p.k=2 then [bK p.x] else if p.k=3 then [bK x.x] else if p.k=4 then [bK (dec x.k.toNat)]
 else if p.k=5 then x.m.map fun m=>iV x p m [bK m] true else [iV x p p.y (mds x p.ch) (mds x p.ch).isEmpty]:=by cases p;rw [md];rfl
mutual
theorem agH (x:It):∀ (p:Pt),Okp p→(mk x p).map Nd.z=(md x p).map Nd.z
 | ⟨k,t,y,s,se,tx,ch,ce⟩,h=>by
  have hk:=QH (by cases h;assumption:o7 ⟨k,t,y,s,se,tx,ch,ce⟩=true)
  have hm:∀ m ∈ ch,Okp m:=by cases h;assumption
  have ih:=Va x ch hm
  rw [mk,md]
  simp only at hk
  rcases hk with rfl | rfl | rfl | rfl | rfl
  · simp [Nd.acM,ih]
  · simp
  · simp
  · simp
  · simp [Nd.acM]
theorem Va (x:It):∀ (l:List Pt),(∀ m ∈ l,Okp m)→(mks x l).map Nd.z=(mds x l).map Nd.z
 | [],_=>by rw [mks,mds]
 | p::r,h=>by
  rw [mks,mds,List.map_append,List.map_append,agH x p (h p (by simp)),Va x r fun m hm=>h m (by simp [hm])]
end
theorem Y1 (x:It) (hx:x.m.length≤8) (p:Pt):(md x p).length≤8:=by
 rw [abK];split <;> (try split) <;> (try split) <;> (try split) <;> (try split) <;> simp <;> omega
def zN:Nd:=⟨0,[],[],[],true,[],[],true⟩
def mkN (x:It) (p:Pt):Nd:=(mk x p).headD zN
def mdN (x:It) (p:Pt):Nd:=(md x p).headD zN
theorem akg (x:It) (p:Pt) (h:Okp p):(mkN x p).z=(mdN x p).z:=by
 have:=agH x p h
 unfold mkN mdN
 cases h1:mk x p <;> cases h2:md x p <;> rw [h1,h2] at this <;> simp at this ⊢
 exact this.1
def gG (p:Pt) (x:It) (most:Int):Int :=
 if most < 1∨64 < most then 1 else if oV p=0 then 14 else if oM x=false then 6 else if cnt (mkN x p)=0∨most < cnt (mkN x p) then 14 else 0
def PS (p:Pt) (x:It) (most:Int):Nd:=if gG p x most=0 then mkN x p else zN
def ahK (p:Pt) (x:It) (most:Int):Nd:=if gG p x most=0 then mdN x p else zN
end Go.D
end
section
namespace Go.D
open Go Go.Pav Go.Pw P
attribute [-simp] List.getElem_cons_drop
variable {C:aI}
structure qE (C:aI):Prop extends adR C,P6 C where
 ahC:C.fns.get 547=some afn
 ai3:C.fns.get 513=some NZ
 ah1:C.fns.get 501=some Ia
 aji:C.fns.get 425=some Hz
@[simp] theorem Nd.akn (n:Nd) (k:Nat):n.c.any (dn (k+1))=true:=by rw [Nd.fA];rfl
@[simp] theorem Nd.ajt (n:Nd) (k:Nat):(∃ x,x ∈ n.c∧dn (k+1) x=true)=True:=by
 refine eq_true ⟨.ro 2 (n.a.map eA) n.ae,?_,rfl⟩
 rw [Nd.fA];simp
theorem afX (H:qE C) (x:It) (hk:0≤x.k∧x.k < 18446744073709551616) (hm:x.m.length≤8) (l:List Pt) (e:Bool) (hl:l.length≤16) (p:Pt) (hp:o7 p=true∧Fits p) (hk5:p.k=5) (i:Nat) (hi:i < l.length)
 (hnext:∀ G:List Nd,G.length≤8 * (i+1)→jO C ⟨[(12,.int .i64 ((i:Int)+1)),(11,.int .i64 l.length),(10,.ro 6 (l.map Pt.c) e),(5,.sl 0 6 0 G.length G.length false),(2,.ptr 1 0 0)],[(0,.cells 6 (G.map Nd.c) true true),(1,.cells 4 [[.int .u64 x.k,.int .u8 x.t,.str x.x,.ro 1 (x.m.map eS) x.e]] true true)],2⟩ =
  some (.ro 6 ((G++mks x (l.drop (i+1))).map Nd.c) false)):∀ n k,n+k=x.m.length→∀ G:List Nd,G.length≤8 * i+k →
 DY C ⟨[(65,.int .i64 k),(64,.int .i64 x.m.length),(63,.ro 1 (x.m.map eS) x.e),(12,.int .i64 i),(11,.int .i64 l.length),(10,.ro 6 (l.map Pt.c) e),(7,.ptr 0 0 0),(5,.sl 1 6 0 G.length G.length false),(2,.ptr 2 0 0)],[(0,.cells 6 [p.c] true true),(1,.cells 6 (G.map Nd.c) true true),(2,.cells 4 [[.int .u64 x.k,.int .u8 x.t,.str x.x,.ro 1 (x.m.map eS) x.e]] true true)],3⟩ =
  some (.ro 6 ((G++(x.m.drop k).map (fun m=>xX x p m [bK m])++mks x (l.drop (i+1))).map Nd.c) false):=by
 intro n
 induction n with
 | zero =>
  intro k hk2 G hG
  have h1:x.m.drop k=[]:=List.drop_eq_nil_of_le (by omega)
  have h3:¬ k < x.m.length:=by omega
  have:=hnext G (by omega)
  simp only [jO] at this
  simp at this
  simp only [DY];rw [aj y9.eq_1]
  simp (disch:=omega) [aj pI.eq_1,h1,h3,aG,this]
 | succ n ih =>
  intro k hk2 G hG
  have h1:k < x.m.length:=by omega
  have hs:=SH hp.1
  have he:=E5 H.toadR x hk (by omega) p hs.1 (fun s q=>⟨hp.2.f s q,hs.2 s q⟩) x.m[k] [bK x.m[k]] true
  have hw:=wI H.toadR x.m[k]
  have:=ih (k+1) (by omega) (G++[xX x p x.m[k] [bK x.m[k]]]) (by simp;omega)
  have hfit:(G.length+1) * 105≤35184372088832:=by omega
  rw [drop_cons h1]
  simp only [DY] at this ⊢;rw [aj y9.eq_1]
  simp at this
  simp at he
  simp (disch:=omega) [h1,aG,hfit,hw,he,H.inl,ay,H.pp,ppB,this]
theorem VY (H:qE C) (x:It) (hk:0≤x.k∧x.k < 18446744073709551616) (hm:x.m.length≤8) (l:List Pt) (e:Bool) (hl:l.length≤16) (ho:∀ p ∈ l,Okp p)
 (ih:∀ p ∈ l,FnW C 547 [eIt x,.ro 6 (p.ch.map Pt.c) p.ce]=some (.ro 6 ((mks x p.ch).map Nd.c) false)):∀ n i,n+i=l.length→∀ G:List Nd,G.length≤8 * i →
 jO C ⟨[(12,.int .i64 i),(11,.int .i64 l.length),(10,.ro 6 (l.map Pt.c) e),(5,.sl 0 6 0 G.length G.length false),(2,.ptr 1 0 0)],[(0,.cells 6 (G.map Nd.c) true true),(1,.cells 4 [[.int .u64 x.k,.int .u8 x.t,.str x.x,.ro 1 (x.m.map eS) x.e]] true true)],2⟩ =
  some (.ro 6 ((G++mks x (l.drop i)).map Nd.c) false):=by
 intro n
 induction n with
 | zero =>
  intro i hi G hG
  have h1:l.drop i=[]:=List.drop_eq_nil_of_le (by omega)
  have h3:¬ i < l.length:=by omega
  simp only [jO];rw [aj nJ.eq_1]
  cases G with
  | nil=>simp [aj zS.eq_1,h1,h3,mks]
  | cons g G=>simp (disch:=(first | omega | (simp;done) | (simp;omega))) [aj zS.eq_1,h1,h3,mks,List.take_of_length_le]
 | succ n ihn =>
  intro i hi G hG
  have h1:i < l.length:=by omega
  have hp:=ho _ (List.getElem_mem h1)
  have hpo:o7 l[i]=true:=by cases hp;assumption
  have hpf:Fits l[i]:=by cases hp;assumption
  have hs:=SH hpo
  have hnext:∀ G:List Nd,G.length≤8 * (i+1)→jO C ⟨[(12,.int .i64 ((i:Int)+1)),(11,.int .i64 l.length),(10,.ro 6 (l.map Pt.c) e),(5,.sl 0 6 0 G.length G.length false),(2,.ptr 1 0 0)],[(0,.cells 6 (G.map Nd.c) true true),(1,.cells 4 [[.int .u64 x.k,.int .u8 x.t,.str x.x,.ro 1 (x.m.map eS) x.e]] true true)],2⟩ =
   some (.ro 6 ((G++mks x (l.drop (i+1))).map Nd.c) false):=fun G q=>by
    have:=ihn (i+1) (by omega) G q
    simpa using this
  have hfit:(G.length+1) * 105≤35184372088832:=by omega
  rw [drop_cons h1,mks]
  have step:∀ N:Nd,jO C ⟨[(12,.int .i64 ((i:Int)+1)),(11,.int .i64 l.length),(10,.ro 6 (l.map Pt.c) e),(5,.sl 0 6 0 (G.length+1) (G.length+1) false),(2,.ptr 1 0 0)],[(0,.cells 6 (G.map Nd.c++[N.c]) true true),(1,.cells 4 [[.int .u64 x.k,.int .u8 x.t,.str x.x,.ro 1 (x.m.map eS) x.e]] true true)],2⟩ =
   some (.ro 6 ((G++([N]++mks x (l.drop (i+1)))).map Nd.c) false):=fun N=>by
    have:=hnext (G++[N]) (by simp;omega)
    simpa using this
  rcases QH hpo with k1 | k1 | k1 | k1 | k1
  · have he:=E5 H.toadR x hk (by omega) l[i] hs.1 (fun s q=>⟨hpf.f s q,hs.2 s q⟩) l[i].y (mks x l[i].ch) false
    have hr:=ih _ (List.getElem_mem h1)
    have:=step (xX x l[i] l[i].y (mks x l[i].ch))
    have hq:mk x l[i]=[xX x l[i] l[i].y (mks x l[i].ch)]:=by rw [mk_eq,if_pos k1]
    rw [hq]
    simp only [jO] at this ⊢;rw [aj nJ.eq_1]
    simp at this
    simp (disch:=omega) [aj pI.eq_1,h1,k1,aG,hfit,he,hr,H.inl,ay,H.pp,ppB,this]
  · have hw:=wI H.toadR l[i].x
    have:=step (bK l[i].x)
    have hq:mk x l[i]=[bK l[i].x]:=by rw [mk_eq,if_neg (by omega),if_pos k1]
    rw [hq]
    simp only [jO] at this ⊢;rw [aj nJ.eq_1]
    simp at this
    simp (disch:=omega) [aj pI.eq_1,h1,k1,aG,hfit,hw,H.inl,ay,H.pp,ppB,this]
  · have hw:=wI H.toadR x.x
    have:=step (bK x.x)
    have hq:mk x l[i]=[bK x.x]:=by rw [mk_eq,if_neg (by omega),if_neg (by omega),if_pos k1]
    rw [hq]
    simp only [jO] at this ⊢;rw [aj nJ.eq_1]
    simp at this
    simp (disch:=omega) [aj pI.eq_1,h1,k1,aG,hfit,hw,H.inl,ay,H.pp,ppB,this]
  · obtain ⟨k,hk2⟩:∃ k:Nat,x.k=k:=⟨x.k.toNat,by omega⟩
    have hd:=ML H.toXR k (by omega)
    have hw:=wI H.toadR (dec x.k.toNat)
    have:=step (bK (dec x.k.toNat))
    have hq:mk x l[i]=[bK (dec x.k.toNat)]:=by rw [mk_eq,if_neg (by omega),if_neg (by omega),if_neg (by omega),if_pos k1]
    rw [hq]
    rw [hk2] at this hw ⊢
    simp only [jO] at this ⊢;rw [aj nJ.eq_1]
    simp at this hw
    simp (disch:=omega) [aj pI.eq_1,h1,k1,aG,hfit,hd,hw,H.inl,ay,H.pp,ppB,this]
  · have:=afX H x hk hm l e hl l[i] ⟨hpo,hpf⟩ k1 i h1 hnext x.m.length 0 (by simp) G (by omega)
    have hq:mk x l[i]=x.m.map fun m=>xX x l[i] m [bK m]:=by rw [mk_eq,if_neg (by omega),if_neg (by omega),if_neg (by omega),if_neg (by omega),if_pos k1]
    rw [hq,← List.append_assoc]
    rw [List.drop_zero] at this
    generalize G++List.map (fun m=>xX x l[i] m [bK m]) x.m++mks x (l.drop (i+1))=R at *
    simp only [jO]
    simp only [DY] at this
    rw [aj nJ.eq_1]
    simp at this
    simp (disch:=omega) [aj pI.eq_1,h1,k1,aG,H.inl,ay,H.pp,ppB,this]
theorem Ik (H:qE C) (x:It) (hk:0≤x.k∧x.k < 18446744073709551616) (hm:x.m.length≤8) (l:List Pt) (e:Bool) (hl:l.length≤16) (ho:∀ p ∈ l,Okp p)
 (ih:∀ p ∈ l,FnW C 547 [eIt x,.ro 6 (p.ch.map Pt.c) p.ce]=some (.ro 6 ((mks x p.ch).map Nd.c) false)):FnW C 547 [eIt x,.ro 6 (l.map Pt.c) e]=some (.ro 6 ((mks x l).map Nd.c) false):=by
 have h:=VY H x hk hm l e hl ho ih l.length 0 (by simp) [] (by simp)
 simp only [jO] at h
 simp at h
 rw [aF H.ahC rfl]
 simp [afn,h]
theorem Qc (H:qE C) (x:It) (hk:0≤x.k∧x.k < 18446744073709551616) (hm:x.m.length≤8) (p:Pt) (hp:Okp p):FnW C 547 [eIt x,.ro 6 (p.ch.map Pt.c) p.ce]=some (.ro 6 ((mks x p.ch).map Nd.c) false):=by
 have ho:∀ m ∈ p.ch,Okp m:=by cases hp;assumption
 have hl:p.ch.length≤16:=yR (by cases hp;assumption)
 exact Ik H x hk hm p.ch p.ce hl ho fun m q=>Qc H x hk hm m (ho m q)
termination_by SizeOf.sizeOf p
decreasing_by
 have:=List.sizeOf_lt_of_mem q
 have:=Pt.xg p
 omega
theorem acs (H:qE C) (x:It) (hk:0≤x.k∧x.k < 18446744073709551616) (hm:x.m.length≤8) (l:List Pt) (e:Bool) (hl:l.length≤16) (ho:∀ p ∈ l,Okp p) :
 FnW C 547 [eIt x,.ro 6 (l.map Pt.c) e]=some (.ro 6 ((mks x l).map Nd.c) false) :=
 Ik H x hk hm l e hl ho fun m q=>Qc H x hk hm m (ho m q)
theorem dK (x:It) (p:Pt) (m:Bs):(iV x p m [bK m] true).c=[.int .u8 1,.str p.t,.str m,.ro 2 ((p.s.map (bn x)).map eA) false,.str [],.ro 6 [[.int .u8 2,.str [],.str [],.ro 2 [] true,.str m,.ro 6 [] true]] true]:=by
 rw [Nd.fA];simp only [iV,List.map_cons,List.map_nil];rw [Nd.fA];simp [bK]
theorem ads (H:qE C) (x:It) (hk:0≤x.k∧x.k < 18446744073709551616) (hl8:x.m.length≤8) (p:Pt) (hl:p.s.length≤8) (m1 m2 m3 m4 m5 m6 m7 m8:Bs) (r:List Bs) (hm:x.m=[m1,m2,m3,m4,m5,m6,m7,m8]++r) :
 dw C ⟨[(6,.int .i64 8),(5,.sl 0 6 0 8 8 false),(3,.ptr 9 0 0),(2,.ptr 10 0 0)],[(0,.cells 6 [[.int .u8 1,.str p.t,.str m1,.ro 2 ((p.s.map (bn x)).map eA) false,.str [],.sl 1 6 0 1 1 true],[.int .u8 1,.str p.t,.str m2,.ro 2 ((p.s.map (bn x)).map eA) false,.str [],.sl 2 6 0 1 1 true],[.int .u8 1,.str p.t,.str m3,.ro 2 ((p.s.map (bn x)).map eA) false,.str [],.sl 3 6 0 1 1 true],[.int .u8 1,.str p.t,.str m4,.ro 2 ((p.s.map (bn x)).map eA) false,.str [],.sl 4 6 0 1 1 true],[.int .u8 1,.str p.t,.str m5,.ro 2 ((p.s.map (bn x)).map eA) false,.str [],.sl 5 6 0 1 1 true],[.int .u8 1,.str p.t,.str m6,.ro 2 ((p.s.map (bn x)).map eA) false,.str [],.sl 6 6 0 1 1 true],[.int .u8 1,.str p.t,.str m7,.ro 2 ((p.s.map (bn x)).map eA) false,.str [],.sl 7 6 0 1 1 true],[.int .u8 1,.str p.t,.str m8,.ro 2 ((p.s.map (bn x)).map eA) false,.str [],.sl 8 6 0 1 1 true]] true false),(1,.cells 6 [[.int .u8 2,.str [],.str [],.ro 2 [] true,.str m1,.ro 6 [] true]] true true),(2,.cells 6 [[.int .u8 2,.str [],.str [],.ro 2 [] true,.str m2,.ro 6 [] true]] true true),(3,.cells 6 [[.int .u8 2,.str [],.str [],.ro 2 [] true,.str m3,.ro 6 [] true]] true true),(4,.cells 6 [[.int .u8 2,.str [],.str [],.ro 2 [] true,.str m4,.ro 6 [] true]] true true),(5,.cells 6 [[.int .u8 2,.str [],.str [],.ro 2 [] true,.str m5,.ro 6 [] true]] true true),(6,.cells 6 [[.int .u8 2,.str [],.str [],.ro 2 [] true,.str m6,.ro 6 [] true]] true true),(7,.cells 6 [[.int .u8 2,.str [],.str [],.ro 2 [] true,.str m7,.ro 6 [] true]] true true),(8,.cells 6 [[.int .u8 2,.str [],.str [],.ro 2 [] true,.str m8,.ro 6 [] true]] true true),(9,.cells 4 [[.int .u64 x.k,.int .u8 x.t,.str x.x,.ro 1 (x.m.map eS) x.e]] true true),(10,.cells 6 [p.c] true true)],11⟩ =
  some (.ro 6 (([m1,m2,m3,m4,m5,m6,m7,m8]++r).map fun m=>(iV x p m [bK m] true).c) false):=by
 simp only [dw];rw [aj jQ.eq_1]
 have hxl:x.m.length=8+r.length:=by rw [hm];simp;omega
 cases r with
 | nil =>
  simp at hxl
  simp [aj kR.eq_1,hxl,dK]
 | cons m9 r=>simp at hxl;omega
theorem adU (H:qE C) (x:It) (hk:0≤x.k∧x.k < 18446744073709551616) (hl8:x.m.length≤8) (p:Pt) (hl:p.s.length≤8) (m1 m2 m3 m4 m5 m6 m7:Bs) (r:List Bs) (hm:x.m=[m1,m2,m3,m4,m5,m6,m7]++r) :
 dw C ⟨[(6,.int .i64 7),(5,.sl 0 6 0 7 7 false),(3,.ptr 8 0 0),(2,.ptr 9 0 0)],[(0,.cells 6 [[.int .u8 1,.str p.t,.str m1,.ro 2 ((p.s.map (bn x)).map eA) false,.str [],.sl 1 6 0 1 1 true],[.int .u8 1,.str p.t,.str m2,.ro 2 ((p.s.map (bn x)).map eA) false,.str [],.sl 2 6 0 1 1 true],[.int .u8 1,.str p.t,.str m3,.ro 2 ((p.s.map (bn x)).map eA) false,.str [],.sl 3 6 0 1 1 true],[.int .u8 1,.str p.t,.str m4,.ro 2 ((p.s.map (bn x)).map eA) false,.str [],.sl 4 6 0 1 1 true],[.int .u8 1,.str p.t,.str m5,.ro 2 ((p.s.map (bn x)).map eA) false,.str [],.sl 5 6 0 1 1 true],[.int .u8 1,.str p.t,.str m6,.ro 2 ((p.s.map (bn x)).map eA) false,.str [],.sl 6 6 0 1 1 true],[.int .u8 1,.str p.t,.str m7,.ro 2 ((p.s.map (bn x)).map eA) false,.str [],.sl 7 6 0 1 1 true]] true false),(1,.cells 6 [[.int .u8 2,.str [],.str [],.ro 2 [] true,.str m1,.ro 6 [] true]] true true),(2,.cells 6 [[.int .u8 2,.str [],.str [],.ro 2 [] true,.str m2,.ro 6 [] true]] true true),(3,.cells 6 [[.int .u8 2,.str [],.str [],.ro 2 [] true,.str m3,.ro 6 [] true]] true true),(4,.cells 6 [[.int .u8 2,.str [],.str [],.ro 2 [] true,.str m4,.ro 6 [] true]] true true),(5,.cells 6 [[.int .u8 2,.str [],.str [],.ro 2 [] true,.str m5,.ro 6 [] true]] true true),(6,.cells 6 [[.int .u8 2,.str [],.str [],.ro 2 [] true,.str m6,.ro 6 [] true]] true true),(7,.cells 6 [[.int .u8 2,.str [],.str [],.ro 2 [] true,.str m7,.ro 6 [] true]] true true),(8,.cells 4 [[.int .u64 x.k,.int .u8 x.t,.str x.x,.ro 1 (x.m.map eS) x.e]] true true),(9,.cells 6 [p.c] true true)],10⟩ =
  some (.ro 6 (([m1,m2,m3,m4,m5,m6,m7]++r).map fun m=>(iV x p m [bK m] true).c) false):=by
 simp only [dw];rw [aj jQ.eq_1]
 have hxl:x.m.length=7+r.length:=by rw [hm];simp;omega
 cases r with
 | nil =>
  simp at hxl
  simp [aj kR.eq_1,hxl,dK]
 | cons m8 r =>
  have h1:7 < x.m.length:=by rw [hxl];simp
  have hg:x.m[7]=m8:=by
   have q:x.m[7]?=some m8:=by rw [hm];simp
   rw [List.getElem?_eq_getElem h1] at q
   exact Option.some.inj q
  have ha:=jy H.toabj x hk (by omega) p.s p.se hl
  have this:=ads H x hk hl8 p hl m1 m2 m3 m4 m5 m6 m7 m8 r (by rw [hm];simp)
  simp only [dw] at this
  simp [dK] at this
  have h2:(7:Int) < x.m.length:=by omega
  simp (disch:=omega) [h1,h2,hg,aG,dK,ha,H.inl,ay,H.pp,ppB,this]
theorem afr (H:qE C) (x:It) (hk:0≤x.k∧x.k < 18446744073709551616) (hl8:x.m.length≤8) (p:Pt) (hl:p.s.length≤8) (m1 m2 m3 m4 m5 m6:Bs) (r:List Bs) (hm:x.m=[m1,m2,m3,m4,m5,m6]++r) :
 dw C ⟨[(6,.int .i64 6),(5,.sl 0 6 0 6 6 false),(3,.ptr 7 0 0),(2,.ptr 8 0 0)],[(0,.cells 6 [[.int .u8 1,.str p.t,.str m1,.ro 2 ((p.s.map (bn x)).map eA) false,.str [],.sl 1 6 0 1 1 true],[.int .u8 1,.str p.t,.str m2,.ro 2 ((p.s.map (bn x)).map eA) false,.str [],.sl 2 6 0 1 1 true],[.int .u8 1,.str p.t,.str m3,.ro 2 ((p.s.map (bn x)).map eA) false,.str [],.sl 3 6 0 1 1 true],[.int .u8 1,.str p.t,.str m4,.ro 2 ((p.s.map (bn x)).map eA) false,.str [],.sl 4 6 0 1 1 true],[.int .u8 1,.str p.t,.str m5,.ro 2 ((p.s.map (bn x)).map eA) false,.str [],.sl 5 6 0 1 1 true],[.int .u8 1,.str p.t,.str m6,.ro 2 ((p.s.map (bn x)).map eA) false,.str [],.sl 6 6 0 1 1 true]] true false),(1,.cells 6 [[.int .u8 2,.str [],.str [],.ro 2 [] true,.str m1,.ro 6 [] true]] true true),(2,.cells 6 [[.int .u8 2,.str [],.str [],.ro 2 [] true,.str m2,.ro 6 [] true]] true true),(3,.cells 6 [[.int .u8 2,.str [],.str [],.ro 2 [] true,.str m3,.ro 6 [] true]] true true),(4,.cells 6 [[.int .u8 2,.str [],.str [],.ro 2 [] true,.str m4,.ro 6 [] true]] true true),(5,.cells 6 [[.int .u8 2,.str [],.str [],.ro 2 [] true,.str m5,.ro 6 [] true]] true true),(6,.cells 6 [[.int .u8 2,.str [],.str [],.ro 2 [] true,.str m6,.ro 6 [] true]] true true),(7,.cells 4 [[.int .u64 x.k,.int .u8 x.t,.str x.x,.ro 1 (x.m.map eS) x.e]] true true),(8,.cells 6 [p.c] true true)],9⟩ =
  some (.ro 6 (([m1,m2,m3,m4,m5,m6]++r).map fun m=>(iV x p m [bK m] true).c) false):=by
 simp only [dw];rw [aj jQ.eq_1]
 have hxl:x.m.length=6+r.length:=by rw [hm];simp;omega
 cases r with
 | nil =>
  simp at hxl
  simp [aj kR.eq_1,hxl,dK]
 | cons m7 r =>
  have h1:6 < x.m.length:=by rw [hxl];simp
  have hg:x.m[6]=m7:=by
   have q:x.m[6]?=some m7:=by rw [hm];simp
   rw [List.getElem?_eq_getElem h1] at q
   exact Option.some.inj q
  have ha:=jy H.toabj x hk (by omega) p.s p.se hl
  have this:=adU H x hk hl8 p hl m1 m2 m3 m4 m5 m6 m7 r (by rw [hm];simp)
  simp only [dw] at this
  simp [dK] at this
  have h2:(6:Int) < x.m.length:=by omega
  simp (disch:=omega) [h1,h2,hg,aG,dK,ha,H.inl,ay,H.pp,ppB,this]
theorem afa (H:qE C) (x:It) (hk:0≤x.k∧x.k < 18446744073709551616) (hl8:x.m.length≤8) (p:Pt) (hl:p.s.length≤8) (m1 m2 m3 m4 m5:Bs) (r:List Bs) (hm:x.m=[m1,m2,m3,m4,m5]++r) :
 dw C ⟨[(6,.int .i64 5),(5,.sl 0 6 0 5 5 false),(3,.ptr 6 0 0),(2,.ptr 7 0 0)],[(0,.cells 6 [[.int .u8 1,.str p.t,.str m1,.ro 2 ((p.s.map (bn x)).map eA) false,.str [],.sl 1 6 0 1 1 true],[.int .u8 1,.str p.t,.str m2,.ro 2 ((p.s.map (bn x)).map eA) false,.str [],.sl 2 6 0 1 1 true],[.int .u8 1,.str p.t,.str m3,.ro 2 ((p.s.map (bn x)).map eA) false,.str [],.sl 3 6 0 1 1 true],[.int .u8 1,.str p.t,.str m4,.ro 2 ((p.s.map (bn x)).map eA) false,.str [],.sl 4 6 0 1 1 true],[.int .u8 1,.str p.t,.str m5,.ro 2 ((p.s.map (bn x)).map eA) false,.str [],.sl 5 6 0 1 1 true]] true false),(1,.cells 6 [[.int .u8 2,.str [],.str [],.ro 2 [] true,.str m1,.ro 6 [] true]] true true),(2,.cells 6 [[.int .u8 2,.str [],.str [],.ro 2 [] true,.str m2,.ro 6 [] true]] true true),(3,.cells 6 [[.int .u8 2,.str [],.str [],.ro 2 [] true,.str m3,.ro 6 [] true]] true true),(4,.cells 6 [[.int .u8 2,.str [],.str [],.ro 2 [] true,.str m4,.ro 6 [] true]] true true),(5,.cells 6 [[.int .u8 2,.str [],.str [],.ro 2 [] true,.str m5,.ro 6 [] true]] true true),(6,.cells 4 [[.int .u64 x.k,.int .u8 x.t,.str x.x,.ro 1 (x.m.map eS) x.e]] true true),(7,.cells 6 [p.c] true true)],8⟩ =
  some (.ro 6 (([m1,m2,m3,m4,m5]++r).map fun m=>(iV x p m [bK m] true).c) false):=by
 simp only [dw];rw [aj jQ.eq_1]
 have hxl:x.m.length=5+r.length:=by rw [hm];simp;omega
 cases r with
 | nil =>
  simp at hxl
  simp [aj kR.eq_1,hxl,dK]
 | cons m6 r =>
  have h1:5 < x.m.length:=by rw [hxl];simp
  have hg:x.m[5]=m6:=by
   have q:x.m[5]?=some m6:=by rw [hm];simp
   rw [List.getElem?_eq_getElem h1] at q
   exact Option.some.inj q
  have ha:=jy H.toabj x hk (by omega) p.s p.se hl
  have this:=afr H x hk hl8 p hl m1 m2 m3 m4 m5 m6 r (by rw [hm];simp)
  simp only [dw] at this
  simp [dK] at this
  have h2:(5:Int) < x.m.length:=by omega
  simp (disch:=omega) [h1,h2,hg,aG,dK,ha,H.inl,ay,H.pp,ppB,this]
theorem afI (H:qE C) (x:It) (hk:0≤x.k∧x.k < 18446744073709551616) (hl8:x.m.length≤8) (p:Pt) (hl:p.s.length≤8) (m1 m2 m3 m4:Bs) (r:List Bs) (hm:x.m=[m1,m2,m3,m4]++r) :
 dw C ⟨[(6,.int .i64 4),(5,.sl 0 6 0 4 4 false),(3,.ptr 5 0 0),(2,.ptr 6 0 0)],[(0,.cells 6 [[.int .u8 1,.str p.t,.str m1,.ro 2 ((p.s.map (bn x)).map eA) false,.str [],.sl 1 6 0 1 1 true],[.int .u8 1,.str p.t,.str m2,.ro 2 ((p.s.map (bn x)).map eA) false,.str [],.sl 2 6 0 1 1 true],[.int .u8 1,.str p.t,.str m3,.ro 2 ((p.s.map (bn x)).map eA) false,.str [],.sl 3 6 0 1 1 true],[.int .u8 1,.str p.t,.str m4,.ro 2 ((p.s.map (bn x)).map eA) false,.str [],.sl 4 6 0 1 1 true]] true false),(1,.cells 6 [[.int .u8 2,.str [],.str [],.ro 2 [] true,.str m1,.ro 6 [] true]] true true),(2,.cells 6 [[.int .u8 2,.str [],.str [],.ro 2 [] true,.str m2,.ro 6 [] true]] true true),(3,.cells 6 [[.int .u8 2,.str [],.str [],.ro 2 [] true,.str m3,.ro 6 [] true]] true true),(4,.cells 6 [[.int .u8 2,.str [],.str [],.ro 2 [] true,.str m4,.ro 6 [] true]] true true),(5,.cells 4 [[.int .u64 x.k,.int .u8 x.t,.str x.x,.ro 1 (x.m.map eS) x.e]] true true),(6,.cells 6 [p.c] true true)],7⟩ =
  some (.ro 6 (([m1,m2,m3,m4]++r).map fun m=>(iV x p m [bK m] true).c) false):=by
 simp only [dw];rw [aj jQ.eq_1]
 have hxl:x.m.length=4+r.length:=by rw [hm];simp;omega
 cases r with
 | nil =>
  simp at hxl
  simp [aj kR.eq_1,hxl,dK]
 | cons m5 r =>
  have h1:4 < x.m.length:=by rw [hxl];simp
  have hg:x.m[4]=m5:=by
   have q:x.m[4]?=some m5:=by rw [hm];simp
   rw [List.getElem?_eq_getElem h1] at q
   exact Option.some.inj q
  have ha:=jy H.toabj x hk (by omega) p.s p.se hl
  have this:=afa H x hk hl8 p hl m1 m2 m3 m4 m5 r (by rw [hm];simp)
  simp only [dw] at this
  simp [dK] at this
  have h2:(4:Int) < x.m.length:=by omega
  simp (disch:=omega) [h1,h2,hg,aG,dK,ha,H.inl,ay,H.pp,ppB,this]
theorem acW (H:qE C) (x:It) (hk:0≤x.k∧x.k < 18446744073709551616) (hl8:x.m.length≤8) (p:Pt) (hl:p.s.length≤8) (m1 m2 m3:Bs) (r:List Bs) (hm:x.m=[m1,m2,m3]++r) :
 dw C ⟨[(6,.int .i64 3),(5,.sl 0 6 0 3 3 false),(3,.ptr 4 0 0),(2,.ptr 5 0 0)],[(0,.cells 6 [[.int .u8 1,.str p.t,.str m1,.ro 2 ((p.s.map (bn x)).map eA) false,.str [],.sl 1 6 0 1 1 true],[.int .u8 1,.str p.t,.str m2,.ro 2 ((p.s.map (bn x)).map eA) false,.str [],.sl 2 6 0 1 1 true],[.int .u8 1,.str p.t,.str m3,.ro 2 ((p.s.map (bn x)).map eA) false,.str [],.sl 3 6 0 1 1 true]] true false),(1,.cells 6 [[.int .u8 2,.str [],.str [],.ro 2 [] true,.str m1,.ro 6 [] true]] true true),(2,.cells 6 [[.int .u8 2,.str [],.str [],.ro 2 [] true,.str m2,.ro 6 [] true]] true true),(3,.cells 6 [[.int .u8 2,.str [],.str [],.ro 2 [] true,.str m3,.ro 6 [] true]] true true),(4,.cells 4 [[.int .u64 x.k,.int .u8 x.t,.str x.x,.ro 1 (x.m.map eS) x.e]] true true),(5,.cells 6 [p.c] true true)],6⟩ =
  some (.ro 6 (([m1,m2,m3]++r).map fun m=>(iV x p m [bK m] true).c) false):=by
 simp only [dw];rw [aj jQ.eq_1]
 have hxl:x.m.length=3+r.length:=by rw [hm];simp;omega
 cases r with
 | nil =>
  simp at hxl
  simp [aj kR.eq_1,hxl,dK]
 | cons m4 r =>
  have h1:3 < x.m.length:=by rw [hxl];simp
  have hg:x.m[3]=m4:=by
   have q:x.m[3]?=some m4:=by rw [hm];simp
   rw [List.getElem?_eq_getElem h1] at q
   exact Option.some.inj q
  have ha:=jy H.toabj x hk (by omega) p.s p.se hl
  have this:=afI H x hk hl8 p hl m1 m2 m3 m4 r (by rw [hm];simp)
  simp only [dw] at this
  simp [dK] at this
  have h2:(3:Int) < x.m.length:=by omega
  simp (disch:=omega) [h1,h2,hg,aG,dK,ha,H.inl,ay,H.pp,ppB,this]
theorem acG (H:qE C) (x:It) (hk:0≤x.k∧x.k < 18446744073709551616) (hl8:x.m.length≤8) (p:Pt) (hl:p.s.length≤8) (m1 m2:Bs) (r:List Bs) (hm:x.m=[m1,m2]++r) :
 dw C ⟨[(6,.int .i64 2),(5,.sl 0 6 0 2 2 false),(3,.ptr 3 0 0),(2,.ptr 4 0 0)],[(0,.cells 6 [[.int .u8 1,.str p.t,.str m1,.ro 2 ((p.s.map (bn x)).map eA) false,.str [],.sl 1 6 0 1 1 true],[.int .u8 1,.str p.t,.str m2,.ro 2 ((p.s.map (bn x)).map eA) false,.str [],.sl 2 6 0 1 1 true]] true false),(1,.cells 6 [[.int .u8 2,.str [],.str [],.ro 2 [] true,.str m1,.ro 6 [] true]] true true),(2,.cells 6 [[.int .u8 2,.str [],.str [],.ro 2 [] true,.str m2,.ro 6 [] true]] true true),(3,.cells 4 [[.int .u64 x.k,.int .u8 x.t,.str x.x,.ro 1 (x.m.map eS) x.e]] true true),(4,.cells 6 [p.c] true true)],5⟩ =
  some (.ro 6 (([m1,m2]++r).map fun m=>(iV x p m [bK m] true).c) false):=by
 simp only [dw];rw [aj jQ.eq_1]
 have hxl:x.m.length=2+r.length:=by rw [hm];simp;omega
 cases r with
 | nil =>
  simp at hxl
  simp [aj kR.eq_1,hxl,dK]
 | cons m3 r =>
  have h1:2 < x.m.length:=by rw [hxl];simp
  have hg:x.m[2]=m3:=by
   have q:x.m[2]?=some m3:=by rw [hm];simp
   rw [List.getElem?_eq_getElem h1] at q
   exact Option.some.inj q
  have ha:=jy H.toabj x hk (by omega) p.s p.se hl
  have this:=acW H x hk hl8 p hl m1 m2 m3 r (by rw [hm];simp)
  simp only [dw] at this
  simp [dK] at this
  have h2:(2:Int) < x.m.length:=by omega
  simp (disch:=omega) [h1,h2,hg,aG,dK,ha,H.inl,ay,H.pp,ppB,this]
theorem aee (H:qE C) (x:It) (hk:0≤x.k∧x.k < 18446744073709551616) (hl8:x.m.length≤8) (p:Pt) (hl:p.s.length≤8) (m1:Bs) (r:List Bs) (hm:x.m=[m1]++r) :
 dw C ⟨[(6,.int .i64 1),(5,.sl 0 6 0 1 1 false),(3,.ptr 2 0 0),(2,.ptr 3 0 0)],[(0,.cells 6 [[.int .u8 1,.str p.t,.str m1,.ro 2 ((p.s.map (bn x)).map eA) false,.str [],.sl 1 6 0 1 1 true]] true false),(1,.cells 6 [[.int .u8 2,.str [],.str [],.ro 2 [] true,.str m1,.ro 6 [] true]] true true),(2,.cells 4 [[.int .u64 x.k,.int .u8 x.t,.str x.x,.ro 1 (x.m.map eS) x.e]] true true),(3,.cells 6 [p.c] true true)],4⟩ =
  some (.ro 6 (([m1]++r).map fun m=>(iV x p m [bK m] true).c) false):=by
 simp only [dw];rw [aj jQ.eq_1]
 have hxl:x.m.length=1+r.length:=by rw [hm];simp;omega
 cases r with
 | nil =>
  simp at hxl
  simp [aj kR.eq_1,hxl,dK]
 | cons m2 r =>
  have h1:1 < x.m.length:=by rw [hxl];simp
  have hg:x.m[1]=m2:=by
   have q:x.m[1]?=some m2:=by rw [hm];simp
   rw [List.getElem?_eq_getElem h1] at q
   exact Option.some.inj q
  have ha:=jy H.toabj x hk (by omega) p.s p.se hl
  have this:=acG H x hk hl8 p hl m1 m2 r (by rw [hm];simp)
  simp only [dw] at this
  simp [dK] at this
  have h2:(1:Int) < x.m.length:=by omega
  simp (disch:=omega) [h1,h2,hg,aG,dK,ha,H.inl,ay,H.pp,ppB,this]
theorem acB (H:qE C) (x:It) (hk:0≤x.k∧x.k < 18446744073709551616) (hl8:x.m.length≤8) (p:Pt) (hl:p.s.length≤8) (r:List Bs) (hm:x.m=r) :
 dw C ⟨[(6,.int .i64 0),(5,.sl 0 6 0 0 0 false),(3,.ptr 1 0 0),(2,.ptr 2 0 0)],[(0,.cells 6 [] true true),(1,.cells 4 [[.int .u64 x.k,.int .u8 x.t,.str x.x,.ro 1 (x.m.map eS) x.e]] true true),(2,.cells 6 [p.c] true true)],3⟩ =
  some (.ro 6 (r.map fun m=>(iV x p m [bK m] true).c) false):=by
 simp only [dw];rw [aj jQ.eq_1]
 have hxl:x.m.length=0+r.length:=by rw [hm];simp
 cases r with
 | nil =>
  simp at hxl
  simp [aj kR.eq_1,hxl,dK]
 | cons m1 r =>
  have h1:0 < x.m.length:=by rw [hxl];simp
  have hg:x.m[0]=m1:=by
   have q:x.m[0]?=some m1:=by rw [hm];simp
   rw [List.getElem?_eq_getElem h1] at q
   exact Option.some.inj q
  have ha:=jy H.toabj x hk (by omega) p.s p.se hl
  have this:=aee H x hk hl8 p hl  m1 r (by rw [hm];simp)
  simp only [dw] at this
  simp [dK] at this
  have h2:(0:Int) < x.m.length:=by omega
  simp (disch:=omega) [h1,h2,hg,aG,dK,ha,H.inl,ay,H.pp,ppB,this]
def mdF (p:Pt):Bool:=decide (p.k≠5)
theorem ae1 (H:qE C) (x:It) (hk:0≤x.k∧x.k < 18446744073709551616) (hm:x.m.length≤8) (p:Pt) (hl:p.ch.length≤16)
 (ih:∀ m ∈ p.ch,FnW C 513 [.agg m.c,eIt x]=some (.ro 6 ((md x m).map Nd.c) (mdF m))):∀ n i,n+i=p.ch.length→∀ G:List Nd,G.length≤8 * i →
 nO C ⟨[(8,.int .i64 i),(7,.ptr 0 0 0),(3,.ptr 2 0 0),(2,.ptr 3 0 0)],[(0,.cells 6 [[.int .u8 1,.str p.t,.str p.y,.ro 2 ((p.s.map (bn x)).map eA) false,.str [],.sl 1 6 0 G.length G.length false]] true false),(1,.cells 6 (G.map Nd.c) true true),(2,.cells 4 [[.int .u64 x.k,.int .u8 x.t,.str x.x,.ro 1 (x.m.map eS) x.e]] true true),(3,.cells 6 [p.c] true true)],4⟩ =
  some (.ro 6 [(iV x p p.y (G++mds x (p.ch.drop i)) false).c] true):=by
 intro n
 induction n with
 | zero =>
  intro i hi G hG
  have h1:p.ch.drop i=[]:=List.drop_eq_nil_of_le (by omega)
  have h3:¬ i < p.ch.length:=by omega
  have h4:List.take G.length (List.map Nd.c G)=List.map Nd.c G:=List.take_of_length_le (by simp)
  have hw:(iV x p p.y G false).c=[.int .u8 1,.str p.t,.str p.y,.ro 2 ((p.s.map (bn x)).map eA) false,.str [],.ro 6 (G.map Nd.c) false]:=by rw [Nd.fA];rfl
  rw [h1,mds,List.append_nil,hw]
  simp only [nO];rw [aj nH.eq_1]
  simp (disch:=omega) [aj Eu.eq_1,h3,h4]
 | succ n ihn =>
  intro i hi G hG
  have h1:i < p.ch.length:=by omega
  have hr:=ih _ (List.getElem_mem h1)
  have hlen:=Y1 x hm p.ch[i]
  have:=ihn (i+1) (by omega) (G++md x p.ch[i]) (by simp;omega)
  have hfit:(G.length+(md x p.ch[i]).length) * 105≤35184372088832:=by omega
  rw [drop_cons h1,mds,← List.append_assoc]
  generalize (iV x p p.y (G++md x p.ch[i]++mds x (List.drop (i+1) p.ch)) false).c=R at *
  by_cases hE:md x p.ch[i]=[]
  · simp only [nO] at this ⊢;rw [aj nH.eq_1]
    simp [hE] at this
    simp (disch:=omega) [h1,aG,hr,hE,H.inl,ay,H.pp,ppB,this]
  · simp only [nO] at this ⊢;rw [aj nH.eq_1]
    simp at this
    simp (disch:=omega) [h1,aG,hr,hE,isE hE,hfit,H.inl,ay,H.pp,ppB,this]
theorem aa3 (H:qE C) (x:It) (hk:0≤x.k∧x.k < 18446744073709551616) (hm:x.m.length≤8) (p:Pt) (hl:p.ch.length≤16)
 (ih:∀ m ∈ p.ch,FnW C 513 [.agg m.c,eIt x]=some (.ro 6 ((md x m).map Nd.c) (mdF m))):∀ n i,n+i=p.ch.length →
 nO C ⟨[(8,.int .i64 i),(7,.ptr 0 0 0),(3,.ptr 1 0 0),(2,.ptr 2 0 0)],[(0,.cells 6 [[.int .u8 1,.str p.t,.str p.y,.ro 2 ((p.s.map (bn x)).map eA) false,.str [],.ro 6 [] true]] true true),(1,.cells 4 [[.int .u64 x.k,.int .u8 x.t,.str x.x,.ro 1 (x.m.map eS) x.e]] true true),(2,.cells 6 [p.c] true true)],3⟩ =
  some (.ro 6 [(iV x p p.y (mds x (p.ch.drop i)) (mds x (p.ch.drop i)).isEmpty).c] true):=by
 intro n
 induction n with
 | zero =>
  intro i hi
  have h1:p.ch.drop i=[]:=List.drop_eq_nil_of_le (by omega)
  have h3:¬ i < p.ch.length:=by omega
  have hw:(iV x p p.y [] true).c=[.int .u8 1,.str p.t,.str p.y,.ro 2 ((p.s.map (bn x)).map eA) false,.str [],.ro 6 [] true]:=by rw [Nd.fA];rfl
  rw [h1,mds,List.isEmpty_nil,hw]
  simp only [nO];rw [aj nH.eq_1]
  simp (disch:=omega) [aj Eu.eq_1,h3]
 | succ n ihn =>
  intro i hi
  have h1:i < p.ch.length:=by omega
  have hr:=ih _ (List.getElem_mem h1)
  have hlen:=Y1 x hm p.ch[i]
  have hfit:((md x p.ch[i]).length) * 105≤35184372088832:=by omega
  rw [drop_cons h1,mds]
  by_cases hE:md x p.ch[i]=[]
  · have:=ihn (i+1) (by omega)
    rw [hE,List.nil_append]
    generalize (iV x p p.y (mds x (List.drop (i+1) p.ch)) (mds x (List.drop (i+1) p.ch)).isEmpty).c=R at *
    simp only [nO] at this ⊢;rw [aj nH.eq_1]
    simp at this
    simp (disch:=omega) [h1,aG,hr,hE,H.inl,ay,H.pp,ppB,this]
  · have:=ae1 H x hk hm p hl ih n (i+1) (by omega) (md x p.ch[i]) (by omega)
    have he:(md x p.ch[i]++mds x (List.drop (i+1) p.ch)).isEmpty=false:=isE (by simp [hE])
    rw [he]
    generalize (iV x p p.y (md x p.ch[i]++mds x (List.drop (i+1) p.ch)) false).c=R at *
    simp only [nO] at this ⊢;rw [aj nH.eq_1]
    simp at this
    simp (disch:=omega) [h1,aG,hr,hE,isE hE,hfit,H.inl,ay,H.pp,ppB,this]
theorem VQ (H:qE C) (x:It) (hk:0≤x.k∧x.k < 18446744073709551616) (hm:x.m.length≤8) (p:Pt) (hp:o7 p=true)
 (ih:∀ m ∈ p.ch,FnW C 513 [.agg m.c,eIt x]=some (.ro 6 ((md x m).map Nd.c) (mdF m))):FnW C 513 [.agg p.c,eIt x]=some (.ro 6 ((md x p).map Nd.c) (mdF p)):=by
 have hl:=yR hp
 have hs:=SH hp
 rw [aF H.ai3 rfl,abK]
 unfold mdF
 have hw:∀ s:Bs,(bK s).c=[.int .u8 2,.str [],.str [],.ro 2 [] true,.str s,.ro 6 [] true]:=fun s=>by rw [Nd.fA];rfl
 rcases QH hp with k1 | k1 | k1 | k1 | k1
 · have h:=aa3 H x hk hm p hl ih p.ch.length 0 (by simp)
   have ha:=jy H.toabj x hk (by omega) p.s p.se hs.1
   rw [if_neg (by omega),if_neg (by omega),if_neg (by omega),if_neg (by omega)]
   rw [List.drop_zero] at h
   simp only [List.map_cons,List.map_nil]
   generalize (iV x p p.y (mds x p.ch) (mds x p.ch).isEmpty).c=R at *
   simp only [nO] at h
   simp at h
   simp [NZ,aj Na.eq_1,k1,ha,H.inl,ay,H.pp,ppB,h]
 · simp [NZ,k1,hw]
 · simp [NZ,k1,hw]
 · obtain ⟨k,hk2⟩:∃ k:Nat,x.k=k:=⟨x.k.toNat,by omega⟩
   have hd:=LU H.toXR k (by omega)
   simp [NZ,k1,hw,hk2,hd,H.inl,ay,H.pp,ppB]
 · have h:=acB H x hk hm p hs.1 x.m rfl
   rw [if_neg (by omega),if_neg (by omega),if_neg (by omega),if_pos k1,List.map_map]
   have hq:(Nd.c ∘ fun m=>iV x p m [bK m] true)=fun m=>(iV x p m [bK m] true).c:=rfl
   rw [hq]
   generalize List.map (fun m=>(iV x p m [bK m] true).c) x.m=R at *
   simp only [dw] at h
   simp [NZ,k1,h]
theorem Ub (H:qE C) (x:It) (hk:0≤x.k∧x.k < 18446744073709551616) (hm:x.m.length≤8) (p:Pt) (hp:Okp p):FnW C 513 [.agg p.c,eIt x]=some (.ro 6 ((md x p).map Nd.c) (mdF p)):=by
 have ho:∀ m ∈ p.ch,Okp m:=by cases hp;assumption
 exact VQ H x hk hm p (by cases hp;assumption) fun m q=>Ub H x hk hm m (ho m q)
termination_by SizeOf.sizeOf p
decreasing_by
 have:=List.sizeOf_lt_of_mem q
 have:=Pt.xg p
 omega
theorem UK {x:It} (h:oM x=true):x.m.length≤8:=by
 unfold oM at h
 simp at h
 exact h.2.1
theorem VE (H:qE C) (p:Pt) (hf:iE p) (x:It) (hk:0≤x.k∧x.k < 18446744073709551616) (most:Int) :
 FnW C 501 [.agg p.c,eIt x,.int .i64 most]=some (.tup [.agg (PS p x most).c,.int .i64 (gG p x most)]):=by
 have hz:zN.c=[.int .u8 0,.str [],.str [],.ro 2 [] true,.str [],.ro 6 [] true]:=by rw [Nd.fA];rfl
 have hc:=Ii H.toDu p
 have hi:=Yd H.toZj x
 rw [aF H.ah1 rfl]
 unfold PS gG
 by_cases c1:most < 1
 · simp [Ia,c1,hz]
 · by_cases c2:64 < most
   · simp [Ia,c1,c2,hz]
   · by_cases c3:oV p=0
     · rw [c3] at hc
       simp at hc
       simp [Ia,c1,c2,c3,hc,hz,H.inl,ay,H.pp,ppB]
     · rw [if_neg c3] at hc
       cases c4:oM x
       · rw [c4] at hi
         simp at hi
         simp [Ia,c1,c2,c3,hc,hi,hz,H.inl,ay,H.pp,ppB]
       · rw [c4] at hi
         simp at hi
         have hk1:=abL c3
         have hmk:=acs H x hk (UK c4) [p] true (by simp) (by simpa using Qd hf c3)
         have hq:mks x [p]=[mkN x p]:=by unfold mkN;rw [mks,mks,mk_eq,if_pos hk1];rfl
         rw [hq] at hmk
         have hn:=Px H.toO7 (mkN x p)
         generalize hN:mkN x p=N at *
         generalize cnt N=K at *
         simp at hmk
         by_cases c5:K=0
         · subst c5
           simp [Ia,c1,c2,c3,hc,hi,hz,hmk,hn,H.inl,ay,H.pp,ppB]
         · by_cases c6:most < K
           · simp [Ia,c1,c2,c3,hc,hi,hz,hmk,hn,c5,c6,H.inl,ay,H.pp,ppB]
           · simp [Ia,c1,c2,c3,hc,hi,hz,hmk,hn,c5,c6,H.inl,ay,H.pp,ppB]
theorem Rj (H:qE C) (p:Pt) (hf:iE p) (x:It) (hk:0≤x.k∧x.k < 18446744073709551616) (most:Int) :
 FnW C 425 [.agg p.c,eIt x,.int .i64 most]=some (.tup [.agg (ahK p x most).c,.int .i64 (gG p x most)]):=by
 have hz:zN.c=[.int .u8 0,.str [],.str [],.ro 2 [] true,.str [],.ro 6 [] true]:=by rw [Nd.fA];rfl
 have hc:=SX H.toNz p hf
 have hi:=abp H.toZj x
 rw [aF H.aji rfl]
 unfold ahK gG
 by_cases c1:most < 1
 · simp [Hz,c1,hz]
 · by_cases c2:64 < most
   · simp [Hz,c1,c2,hz]
   · by_cases c3:oV p=0
     · rw [c3] at hc
       simp at hc
       simp [Hz,c1,c2,c3,hc,hz,H.inl,ay,H.pp,ppB]
     · rw [if_neg c3] at hc
       cases c4:oM x
       · rw [c4] at hi
         simp at hi
         simp [Hz,c1,c2,c3,hc,hi,hz,H.inl,ay,H.pp,ppB]
       · rw [c4] at hi
         simp at hi
         have hk1:=abL c3
         have ho:=Qd hf c3
         have hmk:=Ub H x hk (UK c4) p ho
         have hq:md x p=[mdN x p]:=by unfold mdN;rw [abK,if_neg (by omega),if_neg (by omega),if_neg (by omega),if_neg (by omega)];rfl
         rw [hq] at hmk
         have hn:=II H.toP6 (mdN x p)
         have hn2:=WZ H.toP6 (mdN x p)
         have hcz:cnt (mkN x p)=cnt (mdN x p):=by rw [← agF,akg x p ho,agF]
         rw [hcz]
         generalize hN:mdN x p=N at *
         generalize cnt N=K at *
         simp at hmk
         by_cases c5:K=0
         · subst c5
           simp at hn2
           simp [Hz,c1,c2,c3,hc,hi,hz,hmk,hn,hn2,H.inl,ay,H.pp,ppB]
         · simp [c5] at hn2
           by_cases c6:most < K
           · simp [Hz,c1,c2,c3,hc,hi,hz,hmk,hn,hn2,c5,c6,H.inl,ay,H.pp,ppB]
           · simp [Hz,c1,c2,c3,hc,hi,hz,hmk,hn,hn2,c5,c6,H.inl,ay,H.pp,ppB]
end Go.D
end
section
namespace Go.D
open Go Go.Pav Go.Pw P
structure Kd where
 p:Pt
 b:Int
 st:Bool
 pl:Int
structure En where
 i:It
 s:Int
 kn:Bool
@[simp] def eKd (k:Kd):List AV:=[.int .u8 k.p.k,.str k.p.t,.str k.p.y,.ro 3 (k.p.s.map eSl) k.p.se,.str k.p.x,.ro 6 (k.p.ch.map Pt.c) k.p.ce,.int .i64 k.b,.bool k.st,.int .i64 k.pl]
@[simp] def cIt (i:It):List AV:=[.int .u64 i.k,.int .u8 i.t,.str i.x,.ro 1 (i.m.map eS) i.e]
@[simp] def eEn (e:En):List AV:=[.int .u64 e.i.k,.int .u8 e.i.t,.str e.i.x,.ro 1 (e.i.m.map eS) e.i.e,.int .i64 e.s,.bool e.kn]
abbrev aR (ks:List Kd) (ke:Bool) (cap:Int):AV:=.agg [.ro 9 (ks.map eKd) ke,.int .i64 cap]
abbrev aL (l:List En) (e:Bool):AV:=.agg [.ro 6 (l.map eEn) e]
abbrev aE (e:En):AV:=.agg (eEn e)
structure jq (i:It):Prop where
 k:0≤i.k∧i.k < 18446744073709551616
 t:0≤i.t∧i.t≤255
 m:i.m.length≤1000000
structure dX (e:En):Prop where
 i:jq e.i
 s:-9223372036854775808≤e.s∧e.s≤9223372036854775807
structure kG (ks:List Kd):Prop where
 n:ks.length≤1000000
 f:∀ k ∈ ks,iE k.p
def hOk (n:Int):Bool:=decide (1≤n)&&decide (n≤2305843009213693952)
def JV (k:Kd):Bool:=hOk k.b&&decide (oV k.p≠0)
def qI (ks:List Kd) (cap:Int):Bool:=decide (1≤ks.length)&&decide (ks.length≤8)&&decide (1≤cap)&&decide (cap≤64)&&ks.all JV
def zP:Pt:=⟨0,[],[],[],true,[],[],true⟩
def dF (ks:List Kd) (t:Int):Kd:=(ks[t.toNat]?).getD ⟨zP,0,false,0⟩
def itE (ks:List Kd) (cap:Int) (x:It) (seen:Bool):Int :=
 if fC ks.length x=false then 6 else if seen=true then 8 else if gG (dF ks x.t).p x cap=0 then 0 else 14
def enE (ks:List Kd) (cap:Int) (e:En) (seen:Bool):Int :=
 if itE ks cap e.i seen≠0 then itE ks cap e.i seen else if hOk e.s=true∧(e.kn=true∨e.s=(dF ks e.i.t).b) then 0 else 12
def chk (ks:List Kd) (cap:Int):List Int→List En→Int
 | _,[]=>0
 | seen,e::r=>if enE ks cap e (seen.contains e.i.k)≠0 then enE ks cap e (seen.contains e.i.k) else chk ks cap (seen++[e.i.k]) r
def o8:Int→List En→Int
 | sum,[]=>sum
 | sum,e::r=>if 4611686018427387904 - sum < imax e.s 0 then 4611686018427387905 else o8 (sum+imax e.s 0) r
def tot (l:List En):Int:=o8 0 l
def ovE (l:List En):Int:=if 4611686018427387904 < tot l then 13 else 0
def ckE (ks:List Kd) (cap:Int) (l:List En):Int :=
 if qI ks cap=false then 7 else if 1024 < l.length then 3 else if chk ks cap [] l≠0 then chk ks cap [] l else ovE l
def fnd (k:Int):List En→Option Nat
 | []=>none
 | e::r=>if e.i.k=k then some 0 else (fnd k r).map (·+1)
def It.own (i:It):It:={ i with e:=true }
def En.own (e:En):En:={ e with i:=e.i.own }
def fre (ks:List Kd) (x:It):En:=⟨x,(dF ks x.t).b,false⟩
def spl {α:Type} (l:List α) (at_ count:Nat) (x:List α):List α:=l.take at_++x++l.drop (at_+count)
end Go.D
end
section
end
section
namespace Go.D
open Go Go.Pav Go.Pw P
attribute [-simp] List.getElem_cons_drop
variable {C:aI}
structure jU (C:aI):Prop extends oZ C where
 f225:C.fns.get 225=some afu
 f111:C.fns.get 111=some adN
 f227:C.fns.get 227=some acL
 ah3:C.fns.get 403=some afO
 adq:C.fns.get 402=some abG
 f224:C.fns.get 224=some ac9
 aiU:C.fns.get 460=some aav
 ahc:C.fns.get 459=some acZ
 f340:C.fns.get 340=some adw
 f226:C.fns.get 226=some aa0
 f221:C.fns.get 221=some adv
 aiH:C.fns.get 400=some abu
 f219:C.fns.get 219=some Y7
 ahO:C.fns.get 504=some aeu
 ag0:C.fns.get 407=some aeL
 f239:C.fns.get 239=some acw
 aiR:C.fns.get 406=some ab9
 f240:C.fns.get 240=some ad6
 aht:C.fns.get 410=some abf
 ahb:C.fns.get 423=some ac7
theorem Iu (H:jU C) (n:Int):FnW C 225 [.int .i64 n]=some (.bool (hOk n)):=by
 rw [aF H.f225 rfl]
 unfold hOk
 by_cases c1:1≤n <;> by_cases c2:n≤2305843009213693952 <;> simp [afu,c1,c2]
theorem U0 (s:Int) (h1:-9223372036854775808≤s) (h2:s≤9223372036854775807):0≤imax s 0∧imax s 0≤9223372036854775807:=by
 unfold imax;split <;> omega
theorem aas (H:jU C) (l:List En) (e:Bool) (hl:l.length≤1000000) (hs:∀ x ∈ l,-9223372036854775808≤x.s∧x.s≤9223372036854775807):∀ n i,n+i=l.length→∀ sum:Int,0≤sum→sum≤4611686018427387904 →
 AU C ⟨[(10,.int .i64 i),(9,.int .i64 l.length),(8,.ro 6 (l.map eEn) e),(3,.int .i64 sum)],[],0⟩=some (.int .i64 (o8 sum (l.drop i))):=by
 intro n
 induction n with
 | zero =>
  intro i hi sum s1 s2
  simp only [AU];rw [aj xA.eq_1]
  have h1:l.drop i=[]:=List.drop_eq_nil_of_le (by omega)
  have h3:¬ i < l.length:=by omega
  simp [aj KF.eq_1,h1,h3,o8]
 | succ n ih =>
  intro i hi sum s1 s2
  have h1:i < l.length:=by omega
  have hb:=U0 l[i].s (hs _ (List.getElem_mem h1)).1 (hs _ (List.getElem_mem h1)).2
  rw [drop_cons h1,o8]
  generalize hM:imax l[i].s 0=M at *
  by_cases c:4611686018427387904 - sum < M
  · rw [if_pos c]
    simp only [AU];rw [aj xA.eq_1]
    simp (disch:=omega) [h1,aG,hM,c]
  · rw [if_neg c]
    have:=ih (i+1) (by omega) (sum+M) (by omega) (by omega)
    simp only [AU] at this ⊢;rw [aj xA.eq_1]
    simp at this
    simp (disch:=omega) [h1,aG,hM,c,this]
theorem Ap (H:jU C) (l:List En) (e:Bool) (hl:l.length≤1000000) (hs:∀ x ∈ l,-9223372036854775808≤x.s∧x.s≤9223372036854775807):FnW C 111 [aL l e]=some (.int .i64 (tot l)):=by
 have h:=aas H l e hl hs l.length 0 (by simp) 0 (by omega) (by omega)
 simp only [AU] at h
 simp at h
 rw [aF H.f111 rfl]
 unfold tot
 simp [adN,h]
theorem aiO (H:jU C) (l:List En) (e:Bool) (hl:l.length≤1000000) (hs:∀ x ∈ l,dX x):FnW C 111 [aL l e]=some (.int .i64 (tot l)):=Ap H l e hl fun x hx=>(hs x hx).s
theorem qV (H:jU C) (l:List En) (e:Bool) (hl:l.length≤1000000) (hs:∀ x ∈ l,dX x):FnW C 227 [aL l e]=some (.int .i64 (ovE l)):=by
 have h:=aiO H l e hl hs
 rw [aF H.f227 rfl]
 unfold ovE
 by_cases c:4611686018427387904 < tot l <;> simp [acL,h,H.inl,ay,H.pp,ppB,c]
theorem WX (H:jU C) (l:List En) (e:Bool) (hl:l.length≤1000000) (hs:∀ x ∈ l,-9223372036854775808≤x.s∧x.s≤9223372036854775807):∀ n i,n+i=l.length→∀ sum:Int,0≤sum→sum≤4611686018427387904 →
 vV C ⟨[(4,.int .i64 i),(3,.int .u64 sum),(0,.ro 6 (l.map eEn) e)],[],0⟩=some (.int .i64 (o8 sum (l.drop i))):=by
 intro n
 induction n with
 | zero =>
  intro i hi sum s1 s2
  simp only [vV];rw [aj tu.eq_1]
  have h1:l.drop i=[]:=List.drop_eq_nil_of_le (by omega)
  have h3:¬ i < l.length:=by omega
  simp (disch:=omega) [aj KH.eq_1,h1,h3,o8,aG]
 | succ n ih =>
  intro i hi sum s1 s2
  have h1:i < l.length:=by omega
  have hx:=hs _ (List.getElem_mem h1)
  have hb:=U0 l[i].s hx.1 hx.2
  rw [drop_cons h1,o8]
  by_cases p:0 < l[i].s
  · rw [KN (by omega:(0:Int)≤l[i].s)] at *
    by_cases c:4611686018427387904 - sum < l[i].s
    · rw [if_pos c]
      have c':4611686018427387904 < sum+l[i].s:=by omega
      simp only [vV];rw [aj tu.eq_1]
      simp (disch:=omega) [h1,aG,nI,p,c']
    · rw [if_neg c]
      have c':¬ 4611686018427387904 < sum+l[i].s:=by omega
      have:=ih (i+1) (by omega) (sum+l[i].s) (by omega) (by omega)
      simp only [vV] at this ⊢;rw [aj tu.eq_1]
      simp at this
      simp (disch:=omega) [h1,aG,nI,p,c',this]
  · rw [XY (by omega:l[i].s≤(0:Int)),if_neg (by omega),Int.add_zero]
    have c':¬ 4611686018427387904 < sum:=by omega
    have:=ih (i+1) (by omega) sum (by omega) (by omega)
    simp only [vV] at this ⊢;rw [aj tu.eq_1]
    simp at this
    simp (disch:=omega) [h1,aG,nI,p,c',this]
theorem Zb (H:jU C) (l:List En) (e:Bool) (hl:l.length≤1000000) (hs:∀ x ∈ l,-9223372036854775808≤x.s∧x.s≤9223372036854775807):FnW C 504 [.ro 6 (l.map eEn) e]=some (.int .i64 (tot l)):=by
 have h:=WX H l e hl hs l.length 0 (by simp) 0 (by omega) (by omega)
 simp only [vV] at h
 simp at h
 rw [aF H.ahO rfl]
 unfold tot
 simp [aeu,h]
theorem aeI (H:jU C) (l:List En) (e:Bool) (hl:l.length≤1000000) (hs:∀ x ∈ l,dX x):FnW C 504 [.ro 6 (l.map eEn) e]=some (.int .i64 (tot l)):=Zb H l e hl fun x hx=>(hs x hx).s
theorem Ov (H:jU C) (l:List En) (e:Bool) (hl:l.length≤1000000) (hs:∀ x ∈ l,dX x):FnW C 407 [.ro 6 (l.map eEn) e]=some (.int .i64 (ovE l)):=by
 have h:=aeI H l e hl hs
 rw [aF H.ag0 rfl]
 unfold ovE
 by_cases c:4611686018427387904 < tot l <;> simp [aeL,h,H.inl,ay,H.pp,ppB,c]
def fP (k:Int):Nat→List En→Int
 | _,[]=>-1
 | i,e::r=>if e.i.k=k then i else fP k (i+1) r
def Dx (k:Int):Nat→List It→Int
 | _,[]=>-1
 | i,x::r=>if x.k=k then i else Dx k (i+1) r
theorem XU (H:jU C) (x:En) (k:Int):FnW C 403 [aE x,.rop [.int .u64 k]]=some (.bool (decide (x.i.k=k))):=by
 rw [aF H.ah3 rfl]
 by_cases c:x.i.k=k <;> simp [afO,c]
theorem NJ (H:jU C) (l:List En) (e:Bool) (k:Int) (hl:l.length≤1000000):∀ n i,n+i=l.length →
 mD C ⟨[(8,.int .i64 i),(7,.int .i64 l.length),(1,.fn 403 [.rop [.int .u64 k]]),(0,.ro 6 (l.map eEn) e)],[],0⟩=some (.int .i64 (fP k i (l.drop i))):=by
 intro n
 induction n with
 | zero =>
  intro i hi
  simp only [mD];rw [aj nT.eq_1]
  have h1:l.drop i=[]:=List.drop_eq_nil_of_le (by omega)
  have h3:¬ i < l.length:=by omega
  simp (disch:=omega) [aj D9.eq_1,h1,h3,fP]
 | succ n ih =>
  intro i hi
  have h1:i < l.length:=by omega
  have hf:=XU H l[i] k
  have:=ih (i+1) (by omega)
  rw [drop_cons h1,fP]
  simp only [aE,eEn] at hf
  by_cases c:l[i].i.k=k
  · rw [if_pos c]
    simp [c] at hf
    simp only [mD];rw [aj nT.eq_1]
    simp (disch:=omega) [h1,aG,hf,H.inl,ay,H.pp,ppB,c]
  · rw [if_neg c]
    simp [c] at hf
    simp only [mD] at this ⊢;rw [aj nT.eq_1]
    simp at this
    simp (disch:=omega) [h1,aG,hf,H.inl,ay,H.pp,ppB,c,this]
theorem Wh (H:jU C) (l:List En) (e:Bool) (k:Int) (hl:l.length≤1000000):FnW C 402 [.ro 6 (l.map eEn) e,.fn 403 [.rop [.int .u64 k]]]=some (.int .i64 (fP k 0 l)):=by
 have h:=NJ H l e k hl l.length 0 (by simp)
 simp only [mD] at h
 simp at h
 rw [aF H.adq rfl]
 simp [abG,h]
theorem find_ok (H:jU C) (l:List En) (e:Bool) (k:Int) (hl:l.length≤1000000):FnW C 224 [aL l e,.int .u64 k]=some (.tup [.int .i64 (imax (fP k 0 l) 0),.bool (decide (0≤fP k 0 l))]):=by
 have h:=Wh H l e k hl
 rw [aF H.f224 rfl]
 simp [ac9,h,H.inl,ay,H.pp,ppB]
theorem QX (H:jU C) (l:List En) (e:Bool) (k:Int) (hl:l.length≤1000000):∀ n i,n+i=l.length →
 yU C ⟨[(5,.int .i64 i),(1,.int .u64 k),(0,.ro 6 (l.map eEn) e)],[],0⟩=some (.int .i64 (fP k i (l.drop i))):=by
 intro n
 induction n with
 | zero =>
  intro i hi
  simp only [yU];rw [aj wF.eq_1]
  have h1:l.drop i=[]:=List.drop_eq_nil_of_le (by omega)
  have h3:¬ i < l.length:=by omega
  simp (disch:=omega) [aj MJ.eq_1,h1,h3,fP]
 | succ n ih =>
  intro i hi
  have h1:i < l.length:=by omega
  have:=ih (i+1) (by omega)
  rw [drop_cons h1,fP]
  by_cases c:l[i].i.k=k
  · rw [if_pos c]
    simp only [yU];rw [aj wF.eq_1]
    simp (disch:=omega) [h1,aG,c]
  · rw [if_neg c]
    simp only [yU] at this ⊢;rw [aj wF.eq_1]
    simp at this
    simp (disch:=omega) [h1,aG,c,this]
theorem Qi (H:jU C) (l:List En) (e:Bool) (k:Int) (hl:l.length≤1000000):FnW C 239 [.ro 6 (l.map eEn) e,.int .u64 k]=some (.int .i64 (fP k 0 l)):=by
 have h:=QX H l e k hl l.length 0 (by simp)
 simp only [yU] at h
 simp at h
 rw [aF H.f239 rfl]
 simp [acw,h]
theorem S9 (H:jU C) (l:List It) (e:Bool) (k:Int) (hl:l.length≤1000000):∀ n i,n+i=l.length →
 yY C ⟨[(5,.int .i64 i),(1,.int .u64 k),(0,.ro 4 (l.map cIt) e)],[],0⟩=some (.int .i64 (Dx k i (l.drop i))):=by
 intro n
 induction n with
 | zero =>
  intro i hi
  simp only [yY];rw [aj xu.eq_1]
  have h1:l.drop i=[]:=List.drop_eq_nil_of_le (by omega)
  have h3:¬ i < l.length:=by omega
  simp (disch:=omega) [aj MO.eq_1,h1,h3,Dx]
 | succ n ih =>
  intro i hi
  have h1:i < l.length:=by omega
  have:=ih (i+1) (by omega)
  rw [drop_cons h1,Dx]
  by_cases c:l[i].k=k
  · rw [if_pos c]
    simp only [yY];rw [aj xu.eq_1]
    simp (disch:=omega) [h1,aG,c]
  · rw [if_neg c]
    simp only [yY] at this ⊢;rw [aj xu.eq_1]
    simp at this
    simp (disch:=omega) [h1,aG,c,this]
theorem OX (H:jU C) (l:List It) (e:Bool) (k:Int) (hl:l.length≤1000000):FnW C 423 [.ro 4 (l.map cIt) e,.int .u64 k]=some (.int .i64 (Dx k 0 l)):=by
 have h:=S9 H l e k hl l.length 0 (by simp)
 simp only [yY] at h
 simp at h
 rw [aF H.ahb rfl]
 simp [ac7,h]
theorem aaK (H:jU C) (b:Bool):FnW C 406 [.bool b]=some (.int .i64 (if b=true then 1 else 0)):=by
 rw [aF H.aiR rfl]
 cases b <;> simp [ab9]
def inR (a c n:Int):Bool:=decide (0≤a)&&decide (a≤n)&&decide (0≤c)&&decide (c≤n - a)
theorem qP (H:jU C) (a c n:Int) (hn:0≤n∧n≤1000000):FnW C 219 [.int .i64 a,.int .i64 c,.int .i64 n]=some (.bool (inR a c n)):=by
 rw [aF H.f219 rfl]
 unfold inR
 by_cases c1:0≤a <;> by_cases c2:a≤n <;> by_cases c3:0≤c <;> by_cases c4:c≤n - a <;> first
  | (simp (disch:=omega) [Y7,c1,c2,c3,c4,aG];done)
  | (simp (disch:=omega) [Y7,c1,c2,c3,c4,aG];omega)
theorem vC (H:jU C) (a c n:Int) (hn:0≤n∧n≤1000000):FnW C 410 [.int .i64 a,.int .i64 c,.int .i64 n]=some (.int .i64 (if inR a c n=true then 1 else 0)):=by
 have ht:=aaK H true
 have hf:=aaK H false
 rw [aF H.aht rfl]
 unfold inR
 by_cases c1:0≤a <;> by_cases c2:a≤n <;> by_cases c3:0≤c <;> by_cases c4:c≤n - a <;> first
  | (simp (disch:=omega) [abf,c1,c2,c3,c4,aG,ht,hf,H.inl,ay,H.pp,ppB];done)
  | (simp (disch:=omega) [abf,c1,c2,c3,c4,aG,ht,hf,H.inl,ay,H.pp,ppB];omega)
end Go.D
end
section
namespace Go.D
open Go Go.Pav Go.Pw P
attribute [-simp] List.getElem_cons_drop
variable {C:aI}
theorem WQ (H:jU C) (m:List Bs) (e:Bool) (hl:m.length≤1000000):FnW C 460 [.ro 1 (m.map eS) e]=some (.ro 1 (m.map eS) true):=by
 rw [aF H.aiU rfl]
 by_cases h:m=[]
 · subst h;simp [aav]
 · have h2:m.length * 17≤35184372088832:=by omega
   have hT:List.take m.length (List.map eS m)=List.map eS m:=List.take_of_length_le (by simp)
   simp (disch:=omega) [aav,h,h2,isE,hT]
theorem aaO (H:jU C) (x:It) (e:Bool) (hl:x.m.length≤1000000):FnW C 340 [.ro 4 [cIt x] e]=some (.ro 4 [cIt x.own] true):=by
 have hg:=fun a h n=>rF (args:=[a]) H.ahc rfl h n
 have he:=WQ H x.m x.e hl
 rw [aF H.f340 rfl]
 simp (disch:=omega) [adw,aj LQ.eq_1,aj Ux.eq_1,hg,acZ,he,H.inl,ay,H.pp,ppB,It.own,aG]
theorem YS (H:jU C) (l:List En) (e:Bool) (hl:l.length≤1000000) (hm:∀ x ∈ l,x.i.m.length≤1000000):∀ n i,n+i=l.length→∀ G:List En,G.length=i →
 Dz C ⟨[(15,.int .i64 i),(14,.int .i64 l.length),(13,.ro 6 (l.map eEn) e),(3,.sl 0 6 0 l.length l.length true),(2,.ptr 1 0 0)],[(0,.cells 6 (G.map eEn++List.replicate n [.int .u64 0,.int .u8 0,.str [],.ro 1 [] true,.int .i64 0,.bool false]) true true),(1,.cells 1 [[.ro 6 [] true]] true true)],2⟩ =
  some (aL (G++(l.drop i).map En.own) true):=by
 intro n
 induction n with
 | zero =>
  intro i hi G hG
  have h1:l.drop i=[]:=List.drop_eq_nil_of_le (by omega)
  have h3:¬ i < l.length:=by omega
  have h6:List.take l.length (List.map eEn G)=List.map eEn G:=List.take_of_length_le (by simp;omega)
  have h7:G.length=l.length:=by omega
  simp only [Dz];rw [aj yV.eq_1]
  simp [aj JA.eq_1,h1,h3,h6,h7]
 | succ n ih =>
  intro i hi G hG
  have h1:i < l.length:=by omega
  have hc:=aaO H l[i].i true (hm _ (List.getElem_mem h1))
  have:=ih (i+1) (by omega) (G++[l[i].own]) (by simp [hG])
  rw [drop_cons h1]
  simp only [Dz] at this ⊢;rw [aj yV.eq_1]
  simp [It.own] at hc
  simp [En.own,It.own] at this
  simp (disch:=omega) [h1,aG,hc,Ag,AO,hG,H.inl,ay,H.pp,ppB,En.own,It.own,this]
theorem Fg (H:jU C) (l:List En) (e:Bool) (hl:l.length≤1000000) (hm:∀ x ∈ l,x.i.m.length≤1000000):FnW C 226 [.ro 6 (l.map eEn) e]=some (aL (l.map En.own) true):=by
 rw [aF H.f226 rfl]
 by_cases hne:l=[]
 · subst hne;simp [aa0]
 · have h:=YS H l e hl hm l.length 0 (by simp) [] rfl
   have h2:l.length * 73≤35184372088832:=by omega
   simp only [Dz] at h
   simp at h
   simp (disch:=omega) [aa0,hne,h2,h]
section
variable {β:Type} {base:Nat} {fin:Ex × WSt→Option β} {K:List Pw.Frame} {a:Ann} {l:List aX} {d:Option Nat} {e:Env} {n:Nat}
theorem ab4 {z bytes N nid:Nat} {zz:List AV} {xs:List (List AV)} {ex:Bool} (h:xs.length≤N) :
 SK C base fin K a l d e [(0,.cells z (List.replicate N zz) true true)] n (iR [(0,.cells z (List.replicate N zz) true true)] nid z bytes (.sl 0 z 0 0 N ex) xs true) =
  OK C base fin K a l ⟨dW e d (.sl 0 z 0 xs.length N ex),[(0,.cells z (xs++List.replicate (N - xs.length) zz) true true)],n⟩:=by
 by_cases c:xs=[]
 · subst c;simp [Aw]
 · simp [isE c,h,Aw]
theorem Z8 {z bytes N nid k m:Nat} {zz:List AV} {A xs:List (List AV)} {ex:Bool} (hA:A.length=k) (hm:k+m=N) (h:xs.length≤m) :
 SK C base fin K a l d e [(0,.cells z (A++List.replicate m zz) true true)] n (iR [(0,.cells z (A++List.replicate m zz) true true)] nid z bytes (.sl 0 z 0 k N ex) xs true) =
  OK C base fin K a l ⟨dW e d (.sl 0 z 0 (k+xs.length) N ex),[(0,.cells z (A++(xs++List.replicate (m - xs.length) zz)) true true)],n⟩:=by
 have h1:k+xs.length≤N:=by omega
 have h2:List.take k A=A:=List.take_of_length_le (by omega)
 have h3:List.drop (k+xs.length) A=[]:=List.drop_eq_nil_of_le (by omega)
 by_cases c:xs=[]
 · subst c;simp [Aw]
 · simp (disch:=omega) [isE c,hA,hm,h1,h2,h3,Aw,List.take_append,List.drop_append]
theorem ad5 {z bytes N nid k m:Nat} {zz:List AV} {A B xs:List (List AV)} {ex:Bool} (hA:A.length+B.length=k) (hm:k+m=N) (h:xs.length≤m) :
 SK C base fin K a l d e [(0,.cells z (A++(B++List.replicate m zz)) true true)] n (iR [(0,.cells z (A++(B++List.replicate m zz)) true true)] nid z bytes (.sl 0 z 0 k N ex) xs true) =
  OK C base fin K a l ⟨dW e d (.sl 0 z 0 (k+xs.length) N ex),[(0,.cells z (A++(B++(xs++List.replicate (m - xs.length) zz))) true true)],n⟩:=by
 have:=Z8 (C:=C) (base:=base) (fin:=fin) (K:=K) (a:=a) (l:=l) (d:=d) (e:=e) (n:=n) (z:=z) (bytes:=bytes) (N:=N) (nid:=nid) (k:=k) (m:=m) (zz:=zz) (A:=A++B) (xs:=xs) (ex:=ex) (by simpa using hA) hm h
 simpa only [List.append_assoc] using this
end
theorem sG {α:Type} (l x:List α) (a c:Nat) (h:a+c≤l.length):(spl l a c x).length=l.length - c+x.length:=by
 unfold spl;simp;omega
theorem rD (H:jU C) (l x:List En) (e e2:Bool) (a c:Nat) (hl:l.length≤1000000) (hx:x.length≤1000000) (hac:a+c≤l.length) :
 FnW C 221 [.ro 6 (l.map eEn) e,.int .i64 a,.int .i64 c,.ro 6 (x.map eEn) e2]=some (.ro 6 ((spl l a c x).map eEn) true):=by
 rw [aF H.f221 rfl]
 obtain ⟨N,hN,hN2⟩:∃ N:Nat,(l.length:Int) - c+x.length=N∧N=l.length - c+x.length:=⟨_,by omega,rfl⟩
 have h1:(c:Int)≤l.length:=by omega
 have h2:N * 73≤35184372088832:=by omega
 have hA:min a l.length=a:=by omega
 have h3:a≤N:=by omega
 have h4:a+x.length≤N:=by omega
 have h5:a+x.length+(l.length - (a+c))=N:=by omega
 have h6:a≤l.length:=by omega
 have hT:List.take l.length (List.map eEn l)=List.map eEn l:=List.take_of_length_le (by simp)
 have h9:a+(x.length+(l.length - (a+c)))=N:=by omega
 have h7:N - a - x.length=l.length - (a+c):=by omega
 have h8:List.take N (List.map eEn (spl l a c x))=List.map eEn (spl l a c x):=List.take_of_length_le (by simp [spl];omega)
 simp only [spl] at h8 ⊢
 simp at h8
 simp (disch:=first | omega | (simp;done) | (simp;omega)) [adv,aG,h1,hN,h2,hA,h3,h4,h5,h6,hac,-Xw,ab4,Z8,ad5,hT,h7,h8,h9]
end Go.D
end
section
namespace Go.D
open Go Go.Pav Go.Pw P
attribute [-simp] List.getElem_cons_drop
variable {C:aI}
structure Ad (C:aI):Prop extends qE C,jU C where
 ag1:C.fns.get 399=some acP
 f230:C.fns.get 230=some WA
 aha:C.fns.get 405=some adz
 f232:C.fns.get 232=some aam
 f115:C.fns.get 115=some Lh
 f271:C.fns.get 271=some Td
 f223:C.fns.get 223=some Vu
 agX:C.fns.get 532=some aen
theorem qN {ks:List Kd} {t:Nat} (h:t < ks.length):dF ks t=ks[t]:=by
 unfold dF;simp [h]
theorem mY {n:Int} {x:It} (h:fC n x=true):x.t < n:=by
 unfold fC at h;simp at h;exact h.1.1.2
theorem sW (H:Ad C) (ks:List Kd) (ke:Bool) (cap:Int) (x:It) (hx:jq x) (ht:x.t < ks.length) (hr:kG ks) :
 FnW C 399 [aR ks ke cap,eIt x]=some (.tup [.agg (PS (dF ks x.t).p x cap).c,.int .i64 (gG (dF ks x.t).p x cap)]):=by
 obtain ⟨t,hT⟩:∃ t:Nat,x.t=t:=⟨x.t.toNat,by have:=hx.t;omega⟩
 have h1:t < ks.length:=by omega
 have h:=VE H.toqE ks[t].p (hr.f _ (List.getElem_mem h1)) x hx.k cap
 rw [hT,qN h1]
 rw [aF H.ag1 rfl]
 generalize (PS ks[t].p x cap)=N at *
 generalize gG ks[t].p x cap=E at *
 rw [Pt.fA] at h
 simp only [eIt,hT] at h
 simp (disch:=omega) [acP,hT,h1,h,H.inl,ay,H.pp,ppB]
theorem ahe (H:Ad C) (k:Kd):FnW C 230 [.agg (eKd k)]=some (.bool (!JV k)):=by
 have h1:=Iu H.tojU k.b
 have h2:=Ii H.toDu k.p
 rw [Pt.fA] at h2
 rw [aF H.f230 rfl]
 unfold JV
 generalize hOk k.b=X at *
 cases X
 · simp [WA,h1,H.inl,ay,H.pp,ppB]
 · by_cases c:oV k.p=0
   · simp [c] at h2
     simp [WA,h1,h2,c,H.inl,ay,H.pp,ppB]
   · simp [c] at h2
     simp [WA,h1,h2,c,H.inl,ay,H.pp,ppB]
theorem OG (H:Ad C) (ks:List Kd) (e:Bool) (hl:ks.length≤1000000):∀ n i,n+i=ks.length →
 ∃ v:Int,yG C ⟨[(8,.int .i64 i),(7,.int .i64 ks.length),(1,.fn 230 []),(0,.ro 9 (ks.map eKd) e)],[],0⟩=some (.int .i64 v)∧decide (v < 0)=(ks.drop i).all JV:=by
 intro n
 induction n with
 | zero =>
  intro i hi
  simp only [yG];rw [aj xH.eq_1]
  have h1:ks.drop i=[]:=List.drop_eq_nil_of_le (by omega)
  have h3:¬ i < ks.length:=by omega
  exact ⟨-1,by simp (disch:=omega) [aj Mc.eq_1,h1,h3],by simp [h1]⟩
 | succ n ih =>
  intro i hi
  have h1:i < ks.length:=by omega
  have hb:=ahe H ks[i]
  simp only [eKd] at hb
  rw [drop_cons h1]
  cases c:JV ks[i]
  · refine ⟨i,?_,by simp [c]⟩
    rw [c] at hb
    simp only [yG];rw [aj xH.eq_1]
    simp (disch:=omega) [h1,hb,H.inl,ay,H.pp,ppB]
  · obtain ⟨v,hv,hq⟩:=ih (i+1) (by omega)
    refine ⟨v,?_,by simp [hq,c]⟩
    rw [c] at hb
    simp only [yG] at hv ⊢;rw [aj xH.eq_1]
    simp at hv
    simp (disch:=omega) [h1,aG,hb,H.inl,ay,H.pp,ppB,hv]
theorem JR (H:Ad C) (ks:List Kd) (e:Bool) (hl:ks.length≤1000000):FnW C 232 [.ro 9 (ks.map eKd) e,.fn 230 []]=some (.bool (!ks.all JV)):=by
 obtain ⟨v,h,q⟩:=OG H ks e hl ks.length 0 (by simp)
 simp only [yG] at h
 simp at h
 have h2:FnW C 405 [.ro 9 (ks.map eKd) e,.fn 230 []]=some (.int .i64 v):=by
  rw [aF H.aha rfl]
  simp [adz,h]
 rw [aF H.f232 rfl]
 rw [List.drop_zero] at q
 rw [← q]
 by_cases c:v < 0
 · have c':¬ 0≤v:=by omega
   simp [aam,H.inl,ay,H.pp,ppB,h2,c,c']
 · have c':0≤v:=by omega
   simp [aam,H.inl,ay,H.pp,ppB,h2,c,c']
theorem aaT (H:Ad C) (ks:List Kd) (ke:Bool) (cap:Int) (hr:kG ks):FnW C 115 [aR ks ke cap]=some (.int .i64 (if qI ks cap=true then 0 else 7)):=by
 have h:=JR H ks ke hr.n
 have hl:=hr.n
 rw [aF H.f115 rfl]
 unfold qI
 by_cases c1:1≤ks.length
 · have c1':¬ ((ks.length:Int) < 1):=by omega
   by_cases c2:ks.length≤8
   · have c2':¬ (8 < (ks.length:Int)):=by omega
     by_cases c3:1≤cap
     · have c3':¬ cap < 1:=by omega
       by_cases c4:cap≤64
       · have c4':¬ 64 < cap:=by omega
         cases c5:ks.all JV
         · rw [c5] at h
           simp [Lh,c1,c1',c2,c2',c3,c3',c4,c4',h,H.inl,ay,H.pp,ppB]
         · rw [c5] at h
           simp [Lh,c1,c1',c2,c2',c3,c3',c4,c4',h,H.inl,ay,H.pp,ppB]
       · have c4':64 < cap:=by omega
         simp [Lh,c1,c1',c2,c2',c3,c3',c4,c4']
     · have c3':cap < 1:=by omega
       simp [Lh,c1,c1',c2,c2',c3,c3']
   · have c2':(8 < (ks.length:Int)):=by omega
     simp [Lh,c1,c1',c2,c2']
 · have c1':((ks.length:Int) < 1):=by omega
   simp [Lh,c1,c1']
theorem yZ (H:Ad C) (ks:List Kd) (ke:Bool) (cap:Int) (x:It) (hx:jq x) (hr:kG ks) (seen:Bool) :
 FnW C 271 [aR ks ke cap,eIt x,.int .i64 (if seen=true then 1 else 0)]=some (.int .i64 (itE ks cap x seen)):=by
 have hc:=Xc H.toOq x ks.length hx.t hx.m
 rw [aF H.f271 rfl]
 unfold itE
 cases c1:fC ks.length x
 · rw [c1] at hc
   simp at hc
   simp [Td,hc,H.inl,ay,H.pp,ppB]
 · rw [c1] at hc
   cases seen
   · have ht:=mY c1
     obtain ⟨t,hT⟩:∃ t:Nat,x.t=t:=⟨x.t.toNat,by have:=hx.t;omega⟩
     have h1:t < ks.length:=by omega
     have h:=Rj H.toqE ks[t].p (hr.f _ (List.getElem_mem h1)) x hx.k cap
     rw [hT,qN h1]
     have hE:0≤gG ks[t].p x cap:=by unfold gG;repeat (first | omega | split)
     generalize (ahK ks[t].p x cap)=N at *
     generalize gG ks[t].p x cap=E at *
     rw [Pt.fA] at h
     simp only [eIt,hT] at h hc
     by_cases c:E=0
     · subst c
       simp at hc
       simp (disch:=omega) [Td,hc,hT,h1,h,H.inl,ay,H.pp,ppB]
     · have c':0 < E:=by omega
       simp at hc
       simp (disch:=omega) [Td,hc,hT,h1,h,c,c',H.inl,ay,H.pp,ppB]
   · simp at hc
     simp [Td,hc,H.inl,ay,H.pp,ppB]
def o9 (s:List Int):List (AV × AV):=s.map fun k=>(.int .u64 k,.bool true)
theorem GR:o9 []=[]:=rfl
theorem zB (k:Int):∀ s:List Int,lG (o9 s) (.int .u64 k)=some (if s.contains k=true then some (.bool true) else none)
 | []=>rfl
 | a::r=>by
  have ih:=zB k r
  unfold o9 at ih ⊢
  rw [List.map_cons,lG]
  simp only [iq,if_true,ob]
  by_cases c:k=a
  · subst c;simp
  · simp [c,ih]
theorem uT (k:Int):∀ s:List Int,s.contains k=false→jV (o9 s) (.int .u64 k) (.bool true)=some (o9 (s++[k]))
 | [],_=>rfl
 | a::r,h=>by
  simp at h
  have ih:=uT k r (by simpa using h.2)
  unfold o9 at ih ⊢
  rw [List.map_cons,jV]
  simp only [iq,if_true,ob]
  simp [h.1,ih,om]
theorem Qh (k:Int):∀ (l:List En) (i:Nat),decide (0≤fP k i l)=(l.map fun e=>e.i.k).contains k
 | [],_=>rfl
 | e::r,i=>by
  rw [fP]
  by_cases c:e.i.k=k
  · rw [if_pos c];simp [c]
  · have c':¬ k=e.i.k:=fun q=>c q.symm
    rw [if_neg c,Qh k r (i+1)]
    simp [c']
theorem P9 (k:Int):∀ (l:List It) (i:Nat),decide (0≤Dx k i l)=(l.map fun e=>e.k).contains k
 | [],_=>rfl
 | e::r,i=>by
  rw [Dx]
  by_cases c:e.k=k
  · rw [if_pos c];simp [c]
  · have c':¬ k=e.k:=fun q=>c q.symm
    rw [if_neg c,P9 k r (i+1)]
    simp [c']
abbrev bC (l:List En):List Int:=l.map fun e=>e.i.k
theorem Q7 (H:Ad C) (ks:List Kd) (ke:Bool) (cap:Int) (hr:kG ks) (l:List En) (e:Bool) (hl:l.length≤1000000) (hs:∀ x ∈ l,dX x):∀ n i,n+i=l.length→∀ seen:List Int,
 lW C ⟨[(25,.int .i64 i),(24,.int .i64 l.length),(23,.ro 6 (l.map eEn) e),(6,.map 0),(3,.ptr 1 0 0),(2,.ptr 2 0 0)],[(0,.map (o9 seen)),(1,.cells 1 [[.ro 6 (l.map eEn) e]] true true),(2,.cells 2 [[.ro 9 (ks.map eKd) ke,.int .i64 cap]] true true)],3⟩ =
  some (.int .i64 (if chk ks cap seen (l.drop i)≠0 then chk ks cap seen (l.drop i) else ovE l)):=by
 intro n
 induction n with
 | zero =>
  intro i hi seen
  have ht:=qV H.tojU l e hl hs
  simp only [lW];rw [aj kM.eq_1]
  have h1:l.drop i=[]:=List.drop_eq_nil_of_le (by omega)
  have h3:¬ i < l.length:=by omega
  simp (disch:=omega) [aj LJ.eq_1,h1,h3,chk,ht,H.inl,ay,H.pp,ppB]
 | succ n ih =>
  intro i hi seen
  have h1:i < l.length:=by omega
  have hx:=hs _ (List.getElem_mem h1)
  have hc:=xq H.toOq l[i].i ks.length hx.i.t
  have hg:=zB l[i].i.k seen
  rw [drop_cons h1,chk]
  cases c1:fC ks.length l[i].i
  · have hE:enE ks cap l[i] (seen.contains l[i].i.k)=6:=by unfold enE itE;simp [c1]
    rw [hE]
    rw [c1] at hc
    simp at hc
    simp only [lW];rw [aj kM.eq_1]
    simp (disch:=omega) [h1,hc,H.inl,ay,H.pp,ppB]
  · rw [c1] at hc
    simp at hc
    cases c2:seen.contains l[i].i.k
    · have ht:=mY c1
      obtain ⟨t,hT⟩:∃ t:Nat,l[i].i.t=t:=⟨l[i].i.t.toNat,by have:=hx.i.t;omega⟩
      have h2:t < ks.length:=by omega
      have hp:=uT l[i].i.k seen c2
      have hre:=sW H ks ke cap l[i].i hx.i ht hr
      have hh:=Iu H.tojU l[i].s
      have this:=ih (i+1) (by omega) (seen++[l[i].i.k])
      rw [c2] at hg
      simp only [aR,eIt] at hre
      have hk:=qN h2
      have hE:enE ks cap l[i] false=if gG ks[t].p l[i].i cap=0 then (if hOk l[i].s=true∧(l[i].kn=true∨l[i].s=ks[t].b) then 0 else 12) else 14:=by
       unfold enE itE
       rw [c1,hT,hk]
       by_cases q:gG ks[t].p l[i].i cap=0 <;> simp [q]
      simp only [eIt,hT,hk] at hc hre
      generalize PS ks[t].p l[i].i cap=N at *
      generalize gG ks[t].p l[i].i cap=E at *
      by_cases c3:E=0
      · subst c3
        cases c4:hOk l[i].s
        · rw [c4] at hh
          have hE':enE ks cap l[i] false=12:=by rw [hE];simp [c4]
          rw [hE']
          simp only [lW];rw [aj kM.eq_1]
          simp (disch:=omega) [h1,h2,hT,hc,hg,hp,hre,hh,H.inl,ay,H.pp,ppB]
        · rw [c4] at hh
          cases c5:l[i].kn
          · by_cases c6:l[i].s=ks[t].b
            · have hE':enE ks cap l[i] false=0:=by rw [hE,if_pos rfl,if_pos ⟨c4,.inr c6⟩]
              rw [hE']
              simp only [lW] at this ⊢;rw [aj kM.eq_1]
              generalize chk ks cap (seen++[l[i].i.k]) (List.drop (i+1) l)=Z at *
              simp at this
              simp (disch:=omega) [h1,h2,hT,hc,hg,hp,hre,hh,c5,eq_true c6,aG,H.inl,ay,H.pp,ppB,this]
            · have hE':enE ks cap l[i] false=12:=by rw [hE];simp [c5,c6]
              rw [hE']
              simp only [lW];rw [aj kM.eq_1]
              simp (disch:=omega) [h1,h2,hT,hc,hg,hp,hre,hh,c5,c6,H.inl,ay,H.pp,ppB]
          · have hE':enE ks cap l[i] false=0:=by rw [hE];simp [c4,c5]
            rw [hE']
            simp only [lW] at this ⊢;rw [aj kM.eq_1]
            generalize chk ks cap (seen++[l[i].i.k]) (List.drop (i+1) l)=Z at *
            simp at this
            simp (disch:=omega) [h1,h2,hT,hc,hg,hp,hre,hh,c5,aG,H.inl,ay,H.pp,ppB,this]
      · have hE':enE ks cap l[i] false=14:=by rw [hE];simp [c3]
        rw [hE']
        simp only [lW];rw [aj kM.eq_1]
        simp (disch:=omega) [h1,h2,hT,hc,hg,hp,hre,c3,H.inl,ay,H.pp,ppB]
    · have hE:enE ks cap l[i] true=8:=by unfold enE itE;simp [c1]
      rw [hE]
      rw [c2] at hg
      simp only [lW];rw [aj kM.eq_1]
      simp (disch:=omega) [h1,hc,hg,H.inl,ay,H.pp,ppB]
theorem lS (H:Ad C) (ks:List Kd) (ke:Bool) (cap:Int) (hr:kG ks) (l:List En) (e:Bool) (hl:l.length≤1000000) (hs:∀ x ∈ l,dX x) :
 FnW C 223 [aR ks ke cap,aL l e]=some (.int .i64 (ckE ks cap l)):=by
 have hv:=aaT H ks ke cap hr
 have h:=Q7 H ks ke cap hr l e hl hs l.length 0 (by simp) []
 rw [List.drop_zero,GR] at h
 rw [aF H.f223 rfl]
 unfold ckE
 generalize (if chk ks cap [] l≠0 then chk ks cap [] l else ovE l)=R at *
 simp only [lW] at h
 simp at h
 cases c1:qI ks cap
 · rw [c1] at hv
   simp at hv
   simp [Vu,hv,H.inl,ay,H.pp,ppB]
 · rw [c1] at hv
   simp at hv
   by_cases c2:1024 < l.length
   · have c2':1024 < (l.length:Int):=by omega
     simp [Vu,hv,c2,c2',H.inl,ay,H.pp,ppB]
   · have c2':¬ 1024 < (l.length:Int):=by omega
     simp [Vu,hv,c2,c2',h,H.inl,ay,H.pp,ppB]
def dB (ks:List Kd) (cap:Int):List Int→List It→Int
 | _,[]=>0
 | seen,x::r=>if itE ks cap x (seen.contains x.k)≠0 then itE ks cap x (seen.contains x.k) else dB ks cap (seen++[x.k]) r
theorem HY (H:Ad C) (ks:List Kd) (ke:Bool) (cap:Int) (hr:kG ks) (l:List En) (e:Bool) (hl:l.length≤1000000) (x:List It) (e2:Bool) (hxl:x.length≤1000000) (hs:∀ i ∈ x,jq i):∀ n i,n+i=x.length →
 nP C ⟨[(7,.int .i64 i),(3,.ptr 0 0 0),(2,.ro 4 (x.map cIt) e2),(1,.ro 6 (l.map eEn) e)],[(0,.cells 2 [[.ro 9 (ks.map eKd) ke,.int .i64 cap]] true true)],1⟩ =
  some (.int .i64 (dB ks cap (bC l++(x.take i).map It.k) (x.drop i))):=by
 intro n
 induction n with
 | zero =>
  intro i hi
  simp only [nP];rw [aj lX.eq_1]
  have h1:x.drop i=[]:=List.drop_eq_nil_of_le (by omega)
  have h3:¬ i < x.length:=by omega
  simp (disch:=omega) [aj J9.eq_1,h1,h3,dB]
 | succ n ih =>
  intro i hi
  have h1:i < x.length:=by omega
  have h1':i≤x.length:=by omega
  have hx:=hs _ (List.getElem_mem h1)
  have hf1:=Qi H.tojU l e x[i].k hl
  have hf:=fun e=>OX H.tojU (x.take i) e x[i].k (by rw [List.length_take];omega)
  have hb:=fun b=>aaK H.tojU b
  have hii:=fun b=>yZ H ks ke cap x[i] hx hr b
  have this:=ih (i+1) (by omega)
  rw [show (x.take (i+1)).map It.k=(x.take i).map It.k++[x[i].k] by rw [List.take_succ_eq_append_getElem h1,List.map_append];rfl,← List.append_assoc] at this
  have hC:(bC l++(x.take i).map It.k).contains x[i].k=(decide (0≤fP x[i].k 0 l)||decide (0≤Dx x[i].k 0 (x.take i))):=by
   rw [Qh,P9];simp
  rw [drop_cons h1,dB,hC]
  generalize fP x[i].k 0 l=F at *
  generalize Dx x[i].k 0 (x.take i)=F2 at *
  have hE0:∀ b,0≤itE ks cap x[i] b:=by intro b;unfold itE;repeat (first | omega | split)
  simp only [List.map_take] at hf
  simp only [aR,eIt] at hii
  have b1:=hb true
  have b0:=hb false
  have i1:=hii true
  have i0:=hii false
  have e1:=hE0 true
  have e0:=hE0 false
  simp only [if_true,Bool.false_eq_true,if_false] at b1 b0 i1 i0
  generalize hE1:itE ks cap x[i] true=E1 at *
  generalize hE2:itE ks cap x[i] false=E0 at *
  by_cases c1:0≤F
  · rw [decide_eq_true c1,Bool.true_or,hE1]
    by_cases c3:E1=0
    · subst c3
      simp only [nP] at this ⊢;rw [aj lX.eq_1]
      generalize dB ks cap (bC l++(x.take i).map It.k++[x[i].k]) (List.drop (i+1) x)=Z at *
      simp at this
      simp (disch:=omega) [h1,h1',hf1,hf,b1,i1,c1,aG,H.inl,ay,H.pp,ppB,this]
    · have c3':0 < E1:=by omega
      simp only [nP];rw [aj lX.eq_1]
      simp (disch:=omega) [h1,h1',hf1,hf,b1,i1,c1,c3,c3',H.inl,ay,H.pp,ppB]
  · by_cases c2:0≤F2
    · rw [decide_eq_false c1,decide_eq_true c2,Bool.false_or,hE1]
      by_cases c3:E1=0
      · subst c3
        simp only [nP] at this ⊢;rw [aj lX.eq_1]
        generalize dB ks cap (bC l++(x.take i).map It.k++[x[i].k]) (List.drop (i+1) x)=Z at *
        simp at this
        simp (disch:=omega) [h1,h1',hf1,hf,b1,i1,c1,c2,aG,H.inl,ay,H.pp,ppB,this]
      · have c3':0 < E1:=by omega
        simp only [nP];rw [aj lX.eq_1]
        simp (disch:=omega) [h1,h1',hf1,hf,b1,i1,c1,c2,c3,c3',H.inl,ay,H.pp,ppB]
    · rw [decide_eq_false c1,decide_eq_false c2,Bool.false_or,hE2]
      by_cases c3:E0=0
      · subst c3
        simp only [nP] at this ⊢;rw [aj lX.eq_1]
        generalize dB ks cap (bC l++(x.take i).map It.k++[x[i].k]) (List.drop (i+1) x)=Z at *
        simp at this
        simp (disch:=omega) [h1,h1',hf1,hf,b0,i0,c1,c2,aG,H.inl,ay,H.pp,ppB,this]
      · have c3':0 < E0:=by omega
        simp only [nP];rw [aj lX.eq_1]
        simp (disch:=omega) [h1,h1',hf1,hf,b0,i0,c1,c2,c3,c3',H.inl,ay,H.pp,ppB]
theorem N9 (H:Ad C) (ks:List Kd) (ke:Bool) (cap:Int) (hr:kG ks) (l:List En) (e:Bool) (hl:l.length≤1000000) (x:List It) (e2:Bool) (hxl:x.length≤1000000) (hs:∀ i ∈ x,jq i) :
 FnW C 532 [aR ks ke cap,.ro 6 (l.map eEn) e,.ro 4 (x.map cIt) e2]=some (.int .i64 (dB ks cap (bC l) x)):=by
 have h:=HY H ks ke cap hr l e hl x e2 hxl hs x.length 0 (by simp)
 rw [List.drop_zero,List.take_zero,List.map_nil,List.append_nil] at h
 generalize dB ks cap (bC l) x=R at *
 simp only [nP] at h
 simp at h
 rw [aF H.agX rfl]
 simp [aen,h]
structure Dt (C:aI):Prop extends Ad C where
 f216:C.fns.get 216=some qC
 f222:C.fns.get 222=some acJ
 ajg:C.fns.get 409=some aek
 f228:C.fns.get 228=some Y9
 f229:C.fns.get 229=some aeX
 f110:C.fns.get 110=some acH
 f237:C.fns.get 237=some YV
 f114:C.fns.get 114=some adZ
theorem wo (H:Ad C) (ks:List Kd) (ke:Bool) (cap:Int) (x:It) (hx:jq x) (ht:x.t < ks.length) :
 FnW C 240 [aR ks ke cap,eIt x]=some (aE (fre ks x)):=by
 obtain ⟨t,hT⟩:∃ t:Nat,x.t=t:=⟨x.t.toNat,by have:=hx.t;omega⟩
 have h1:t < ks.length:=by omega
 rw [aF H.f240 rfl]
 unfold fre
 rw [hT,qN h1]
 simp (disch:=omega) [ad6,hT,h1]
theorem SS (H:Ad C) (ks:List Kd) (ke:Bool) (cap:Int) (x:List It) (e:Bool) (hxl:x.length≤1000000) (hx:∀ i ∈ x,jq i∧i.t < ks.length):∀ n i,n+i=x.length→∀ G:List En,G.length=i →
 DT C ⟨[(13,.int .i64 i),(12,.int .i64 x.length),(11,.ro 4 (x.map cIt) e),(5,.sl 0 6 0 x.length x.length true),(2,.ptr 1 0 0)],[(0,.cells 6 (G.map eEn++List.replicate n [.int .u64 0,.int .u8 0,.str [],.ro 1 [] true,.int .i64 0,.bool false]) true true),(1,.cells 2 [[.ro 9 (ks.map eKd) ke,.int .i64 cap]] true true)],2⟩ =
  some (.ro 6 ((G++(x.drop i).map (fre ks)).map eEn) true):=by
 intro n
 induction n with
 | zero =>
  intro i hi G hG
  have h1:x.drop i=[]:=List.drop_eq_nil_of_le (by omega)
  have h3:¬ i < x.length:=by omega
  have h6:List.take x.length (List.map eEn G)=List.map eEn G:=List.take_of_length_le (by simp;omega)
  have h7:G.length=x.length:=by omega
  simp only [DT];rw [aj xE.eq_1]
  simp [aj DV.eq_1,h1,h3,h6,h7]
 | succ n ih =>
  intro i hi G hG
  have h1:i < x.length:=by omega
  have hxi:=hx _ (List.getElem_mem h1)
  obtain ⟨t,hT⟩:∃ t:Nat,x[i].t=t:=⟨x[i].t.toNat,by have:=hxi.1.t;omega⟩
  have h2:t < ks.length:=by have:=hxi.2;omega
  have:=ih (i+1) (by omega) (G++[fre ks x[i]]) (by simp [hG])
  rw [drop_cons h1]
  simp only [DT] at this ⊢;rw [aj xE.eq_1]
  simp [fre,hT,qN h2] at this
  simp (disch:=omega) [h1,h2,hT,aG,Ag,AO,hG,fre,qN h2,this]
theorem oh (H:Ad C) (ks:List Kd) (ke:Bool) (cap:Int) (x:List It) (e:Bool) (hxl:x.length≤1000000) (hx:∀ i ∈ x,jq i∧i.t < ks.length) :
 FnW C 400 [aR ks ke cap,.ro 4 (x.map cIt) e]=some (.ro 6 ((x.map (fre ks)).map eEn) true):=by
 rw [aF H.aiH rfl]
 by_cases hne:x=[]
 · subst hne
   simp (disch:=omega) [abu,aj xE.eq_1,aj DV.eq_1]
 · have h:=SS H ks ke cap x e hxl hx x.length 0 (by simp) [] rfl
   have h2:x.length * 73≤35184372088832:=by omega
   simp only [DT] at h
   simp at h
   simp (disch:=omega) [abu,hne,h2,h]
theorem abC (H:Dt C) (X:AV) (hX:∃ es ex,X=.ro 6 es ex) (l:List En) (e:Bool) (a c:Nat) (hl:l.length≤1000000) (hac:a+c≤l.length) :
 FnW C 222 [X,.rop [.ro 6 (l.map eEn) e],.rop [.int .i64 a],.rop [.int .i64 c]]=some (.ro 6 ((spl l a c []).map eEn) true):=by
 obtain ⟨es,ex,rfl⟩:=hX
 have h:=rD H.tojU l [] e true a c hl (by simp) hac
 simp only [List.map_nil] at h
 rw [aF H.f222 rfl]
 generalize spl l a c []=R at *
 simp [acJ,h,H.inl,ay,H.pp,ppB]
theorem aap (H:Dt C) (x:List En) (ex:Bool) (y:List It) (ye:Bool) (hxl:x.length≤1000000) (hxy:y.length=x.length) (l:List En) (e:Bool) (a:Nat) (hl:l.length≤1000000) (hac:a+x.length≤l.length) :
 FnW C 229 [.ro 6 (x.map eEn) ex,.rop [.ro 6 (l.map eEn) e],.rop [.int .i64 a],.rop [.ro 4 (y.map cIt) ye]]=some (.ro 6 ((spl l a x.length x).map eEn) true):=by
 have h:=rD H.tojU l x e ex a x.length hl hxl hac
 rw [aF H.f229 rfl]
 generalize spl l a x.length x=R at *
 simp [aeX,hxy,h,H.inl,ay,H.pp,ppB]
theorem Yl (H:Dt C) (X:AV) (hX:∃ es ex,X=.ro 6 es ex) (l:List En) (e:Bool) (a c t:Nat) (hl:l.length≤1000000) (hac:a+c≤l.length) (ht:t≤l.length - c) :
 FnW C 409 [X,.rop [.ro 6 (l.map eEn) e],.rop [.int .i64 a],.rop [.int .i64 c],.rop [.int .i64 t]]=some (.ro 6 ((spl (spl l a c []) t 0 ((l.take (a+c)).drop a)).map eEn) true):=by
 obtain ⟨es,ex,rfl⟩:=hX
 have h:=rD H.tojU l [] e true a c hl (by simp) hac
 have hlen:=sG l [] a c hac
 simp only [List.map_nil] at h
 have h2:=fun e2=>rD H.tojU (spl l a c []) ((l.take (a+c)).drop a) true e2 t 0 (by rw [hlen];simp;omega) (by simp;omega) (by rw [hlen];simp;omega)
 have h3:a≤l.length:=by omega
 have h5:a≤a+c:=by omega
 simp only [List.map_drop,List.map_take,show ((0:Nat):Int)=0 from rfl] at h2
 rw [aF H.ajg rfl]
 generalize spl (spl l a c []) t 0 ((l.take (a+c)).drop a)=R2 at *
 generalize spl l a c []=R at *
 simp (disch:=omega) [aek,aG,h,h2,h3,hac,h5,H.inl,ay,H.pp,ppB]
theorem Wv (H:Dt C) (i:Nat) (x:It) (l:List En) (e:Bool) (a j:Nat) (hj:j=a+i) (hl:l.length≤1000000) (hi:j < l.length) :
 FnW C 228 [.int .i64 i,eIt x,.rop [.ro 6 (l.map eEn) e],.rop [.int .i64 a]]=some (.int .i64 (if l[j].i.k=x.k then 0 else 9)):=by
 rw [aF H.f228 rfl]
 have hj2:(a:Int)+(i:Int)=j:=by omega
 by_cases c:l[j].i.k=x.k
 · simp (disch:=omega) [Y9,aG,hj2,hi,c]
 · simp (disch:=omega) [Y9,aG,hj2,hi,c]
def bY (e:Int):AV:=.tup [aL [] true,.int .i64 e]
def gZ (out:List En):AV:=if ovE (out.map En.own)≠0 then bY (ovE (out.map En.own)) else .tup [aL (out.map En.own) true,.int .i64 0]
theorem VZ (H:Dt C) (ks:List Kd) (ke:Bool) (cap:Int) (hr:kG ks) (l:List En) (e:Bool) (hl:l.length≤1000000) (hs:∀ x ∈ l,dX x) (ins:Bool) (a c:Int) (hin:ins=true→inR a c l.length=true) :
 FnW C 216 [aR ks ke cap,aL l e,.agg [.bool ins,.int .i64 0,.ro 4 [] true,.bI,.fn 222 [.rop [.ro 6 (l.map eEn) e],.rop [.int .i64 a],.rop [.int .i64 c]]]] =
  some (if ckE ks cap l≠0 then bY (ckE ks cap l) else if ins=false then bY 4 else gZ (spl l a.toNat c.toNat [])):=by
 have hc:=lS H.toAd ks ke cap hr l e hl hs
 rw [aF H.f216 rfl]
 unfold bY
 by_cases c1:ckE ks cap l=0
 · rw [if_neg (by simpa using c1)]
   rw [c1] at hc
   cases ins
   · simp [qC,hc,H.inl,ay,H.pp,ppB]
   · rw [if_neg (by simp)]
     have hq:=hin rfl
     unfold inR at hq
     simp at hq
     obtain ⟨a',rfl⟩:∃ a':Nat,a=a':=⟨a.toNat,by omega⟩
     obtain ⟨c',rfl⟩:∃ c':Nat,c=c':=⟨c.toNat,by omega⟩
     have hac:a'+c'≤l.length:=by omega
     have hf:=oh H.toAd ks ke cap [] true (by simp) (by simp)
     have hm:=abC H (.ro 6 [] true) ⟨_,_,rfl⟩ l e a' c' hl hac
     have hm2:∀ x ∈ spl l a' c' [],dX x:=fun x q=>by
      simp only [spl,List.append_nil,List.mem_append] at q
      rcases q with q | q
      · exact hs x (List.mem_of_mem_take q)
      · exact hs x (List.mem_of_mem_drop q)
     have hlen:=sG l [] a' c' hac
     simp only [Int.toNat_natCast]
     have hlen2:(spl l a' c' []).length≤1000000:=by rw [hlen];simp;omega
     generalize spl l a' c' []=R at *
     have ho:=Fg H.tojU R true hlen2 (fun x q=>(hm2 x q).i.m)
     have ht:=qV H.tojU (R.map En.own) true (by simpa using hlen2) (fun x q=>by
      obtain ⟨y,hy,rfl⟩:=List.mem_map.1 q
      exact ⟨⟨(hm2 y hy).i.k,(hm2 y hy).i.t,(hm2 y hy).i.m⟩,(hm2 y hy).s⟩)
     unfold gZ bY
     generalize R.map En.own=R' at *
     simp only [List.map_nil] at hf
     by_cases c2:ovE R'=0
     · rw [c2] at ht
       simp [qC,aj dH.eq_1,aj jc.eq_1,hc,hf,hm,ho,ht,c2,H.inl,ay,H.pp,ppB]
     · simp [qC,aj dH.eq_1,aj jc.eq_1,hc,hf,hm,ho,ht,c2,H.inl,ay,H.pp,ppB]
 · rw [if_pos c1]
   simp [qC,hc,c1,H.inl,ay,H.pp,ppB]
structure afL (C:aI):Prop extends Dt C where
 f241:C.fns.get 241=some YF
 f242:C.fns.get 242=some VU
def rmF {α:Type} (a c:Nat):Nat→List α→List α
 | _,[]=>[]
 | i,e::r=>if i < a∨a+c≤i then e::rmF a c (i+1) r else rmF a c (i+1) r
theorem YL {α:Type} (a c:Nat):∀ (l:List α) (i:Nat),rmF a c i l=l.take (a - i)++l.drop (a+c - i)
 | [],i=>by simp [rmF]
 | e::r,i=>by
  rw [rmF,YL a c r (i+1)]
  by_cases h1:i < a
  · rw [if_pos (.inl h1),show a - i=(a - (i+1))+1 by omega,show a+c - i=(a+c - (i+1))+1 by omega]
    rfl
  · by_cases h2:a+c≤i
    · rw [if_pos (.inr h2),show a - i=0 by omega,show a - (i+1)=0 by omega,show a+c - i=0 by omega,show a+c - (i+1)=0 by omega]
      simp
    · rw [if_neg (by omega),show a - i=0 by omega,show a - (i+1)=0 by omega,show a+c - i=(a+c - (i+1))+1 by omega]
      simp
theorem adr {α:Type} (a c:Nat) (l:List α):rmF a c 0 l=spl l a c []:=by
 rw [YL];unfold spl;simp
theorem Nu (H:jU C) (l:List En) (e:Bool) (hl:l.length≤1000000) (a c:Nat) (hac:a+c≤l.length):∀ n i,n+i=l.length→∀ G:List En,G.length≤i →
 xB C ⟨[(9,.int .i64 i),(8,.sl 0 6 0 G.length G.length false),(2,.int .i64 c),(1,.int .i64 a),(0,.ro 6 (l.map eEn) e)],[(0,.cells 6 (G.map eEn) true true)],1⟩ =
  some (.tup [.ro 6 ((G++rmF a c i (l.drop i)).map eEn) false,.int .i64 0]):=by
 intro n
 induction n with
 | zero =>
  intro i hi G hG
  have h1:l.drop i=[]:=List.drop_eq_nil_of_le (by omega)
  have h3:¬ i < l.length:=by omega
  simp only [xB];rw [aj uh.eq_1]
  cases G with
  | nil=>simp [aj Ez.eq_1,h1,h3,rmF]
  | cons g G=>simp (disch:=(first | omega | (simp;done) | (simp;omega))) [aj Ez.eq_1,h1,h3,rmF,List.take_of_length_le]
 | succ n ih =>
  intro i hi G hG
  have h1:i < l.length:=by omega
  have hfit:(G.length+1) * 73≤35184372088832:=by omega
  rw [drop_cons h1,rmF]
  have w1:(a:Int)+(c:Int)=((a+c:Nat):Int):=by omega
  by_cases c1:i < a
  · have this:=ih (i+1) (by omega) (G++[l[i]]) (by simp;omega)
    rw [if_pos (.inl c1)]
    simp only [xB] at this ⊢;rw [aj uh.eq_1]
    simp at this
    simp (disch:=omega) [h1,c1,hfit,aG,this]
  · by_cases c2:a+c≤i
    · have this:=ih (i+1) (by omega) (G++[l[i]]) (by simp;omega)
      have c2':(a:Int)+(c:Int)≤i:=by omega
      rw [if_pos (.inr c2)]
      simp only [xB] at this ⊢;rw [aj uh.eq_1]
      simp at this
      simp (disch:=omega) [h1,c1,c2',hfit,aG,this]
    · have this:=ih (i+1) (by omega) G (by omega)
      have c2':¬ (a:Int)+(c:Int)≤i:=by omega
      rw [if_neg (by omega)]
      simp only [xB] at this ⊢;rw [aj uh.eq_1]
      simp at this
      simp (disch:=omega) [h1,c1,c2',hfit,aG,this]
theorem Gp (H:afL C) (l:List En) (e:Bool) (hl:l.length≤1000000) (a c:Int) :
 FnW C 241 [.ro 6 (l.map eEn) e,.int .i64 a,.int .i64 c]=some (if inR a c l.length=true then .tup [.ro 6 ((spl l a.toNat c.toNat []).map eEn) false,.int .i64 0] else .tup [.ro 6 [] true,.int .i64 4]):=by
 have hw:=vC H.tojU a c l.length (by omega)
 rw [aF H.f241 rfl]
 cases c1:inR a c l.length
 · rw [c1] at hw
   simp at hw
   simp [YF,hw,H.inl,ay,H.pp,ppB]
 · have hq:=c1
   unfold inR at hq
   simp at hq
   rw [c1] at hw
   simp at hw
   obtain ⟨a',rfl⟩:∃ a':Nat,a=a':=⟨a.toNat,by omega⟩
   obtain ⟨c',rfl⟩:∃ c':Nat,c=c':=⟨c.toNat,by omega⟩
   have h:=Nu H.tojU l e hl a' c' (by omega) l.length 0 (by simp) [] (by simp)
   rw [List.drop_zero,List.nil_append,adr] at h
   simp only [Int.toNat_natCast]
   generalize spl l a' c' []=R at *
   simp only [xB] at h
   simp at h
   simp [YF,hw,h,H.inl,ay,H.pp,ppB]
structure uS (C:aI):Prop extends afL C where
 aiy:C.fns.get 422=some Gi
 f270:C.fns.get 270=some aec
 f126:C.fns.get 126=some afS
 f130:C.fns.get 130=some acS
structure Good (i:It):Prop where
 k:1≤i.k∧i.k≤60
 t:0≤i.t∧i.t≤2
 x:isText i.x=true
 l:i.m.length≤8
 m:i.m.all isName=true
def TP (k t:Int) (x:Bs) (o:Option AV):Prop:=∃ (m:List Bs) (e:Bool),o=some (eIt ⟨k,t,x,m,e⟩)∧m.length≤8∧m.all isName=true
theorem nU (H:uS C) (k t a b c d:Int) (hd:0≤d∧d≤255) (x:Bs) (G:List Bs) (hG:G≠[]) (hl:G.length≤3) (hm:G.all isName=true) :
 TP k t x (bZ C ⟨[(4,.int .i64 3),(3,.ptr 0 0 0),(2,.ptr 2 0 0),(1,.ptr 3 0 0)],[(0,.cells 4 [[.int .u64 k,.int .u8 t,.str x,.sl 1 1 0 G.length G.length false]] true false),(1,.cells 1 (G.map eS) true true),(2,.cells 4 [[.int .u64 0,.int .u8 0,.str [],.ro 1 [] true]] true true),(3,.cells 4 [[.int .u8 a,.int .u8 b,.int .u8 c,.int .u8 d]] true true)],4⟩):=by
 have hfit:(G.length+1) * 17≤35184372088832:=by omega
 have hfit2:(G.length+2) * 17≤35184372088832:=by omega
 have h4:List.take G.length (List.map eS G)=List.map eS G:=List.take_of_length_le (by simp)
 by_cases c1:240≤d
 · refine ⟨G++[[97],[97]],false,?_,by simp;omega,by simp only [List.all_append,hm];decide⟩
   have h5:List.take (G.length+2) (List.map eS G++[[.str [97]],[.str [97]]])=List.map eS G++[[.str [97]],[.str [97]]]:=List.take_of_length_le (by simp)
   simp only [bZ];rw [aj jP.eq_1]
   simp (disch:=omega) [aj xI.eq_1,c1,h4,h5,hfit2]
 · refine ⟨G,false,?_,by omega,hm⟩
   simp only [bZ];rw [aj jP.eq_1]
   simp (disch:=omega) [aj xI.eq_1,c1,h4]
theorem F5 (H:uS C) (k t a b c d:Int) (hd:0≤d∧d≤255) (x:Bs) :
 TP k t x (bZ C ⟨[(4,.int .i64 3),(3,.ptr 0 0 0),(2,.ptr 1 0 0),(1,.ptr 2 0 0)],[(0,.cells 4 [[.int .u64 k,.int .u8 t,.str x,.ro 1 [] true]] true true),(1,.cells 4 [[.int .u64 0,.int .u8 0,.str [],.ro 1 [] true]] true true),(2,.cells 4 [[.int .u8 a,.int .u8 b,.int .u8 c,.int .u8 d]] true true)],3⟩):=by
 by_cases c1:240≤d
 · refine ⟨[[97],[97]],false,?_,by simp,by decide⟩
   simp only [bZ];rw [aj jP.eq_1]
   simp (disch:=omega) [aj xI.eq_1,c1]
 · refine ⟨[],true,?_,by simp,rfl⟩
   simp only [bZ];rw [aj jP.eq_1]
   simp (disch:=omega) [aj xI.eq_1,c1]
theorem nX (H:uS C) (k t a b c d:Int) (hd:0≤d∧d≤255) (x:Bs) (G:List Bs) (hG:G≠[]) (hl:G.length≤2) (hm:G.all isName=true) :
 TP k t x (bZ C ⟨[(4,.int .i64 2),(3,.ptr 0 0 0),(2,.ptr 2 0 0),(1,.ptr 3 0 0)],[(0,.cells 4 [[.int .u64 k,.int .u8 t,.str x,.sl 1 1 0 G.length G.length false]] true false),(1,.cells 1 (G.map eS) true true),(2,.cells 4 [[.int .u64 0,.int .u8 0,.str [],.ro 1 [] true]] true true),(3,.cells 4 [[.int .u8 a,.int .u8 b,.int .u8 c,.int .u8 d]] true true)],4⟩):=by
 have hfit:(G.length+1) * 17≤35184372088832:=by omega
 have hfit2:(G.length+2) * 17≤35184372088832:=by omega
 have h4:List.take G.length (List.map eS G)=List.map eS G:=List.take_of_length_le (by simp)
 have h6:d.tdiv 8=d / 8:=Int.tdiv_eq_ediv_of_nonneg (by omega)
 have h5:(2+d / 8).tmod 3=(2+d / 8) % 3:=Int.tmod_eq_emod_of_nonneg (by omega)
 have hJ:(2+d / 8) % 3=0∨(2+d / 8) % 3=1∨(2+d / 8) % 3=2:=by omega
 simp only [bZ];rw [aj jP.eq_1]
 rcases hJ with hj | hj | hj
 · simp (disch:=omega) [aG,wU8,h5,h6,hj,h4,hfit]
   split
   · have h:=nU H k t a b c d hd x (G++[[97]]) (by simp) (by simp;omega) (by simp only [List.all_append,hm];decide)
     simp only [bZ] at h
     simpa using h
   · exact nU H k t a b c d hd x G hG (by omega) hm
 · simp (disch:=omega) [aG,wU8,h5,h6,hj,h4,hfit]
   split
   · have h:=nU H k t a b c d hd x (G++[[98,50]]) (by simp) (by simp;omega) (by simp only [List.all_append,hm];decide)
     simp only [bZ] at h
     simpa using h
   · exact nU H k t a b c d hd x G hG (by omega) hm
 · simp (disch:=omega) [aG,wU8,h5,h6,hj,h4,hfit]
   split
   · have h:=nU H k t a b c d hd x (G++[[107,101,121]]) (by simp) (by simp;omega) (by simp only [List.all_append,hm];decide)
     simp only [bZ] at h
     simpa using h
   · exact nU H k t a b c d hd x G hG (by omega) hm
theorem F8 (H:uS C) (k t a b c d:Int) (hd:0≤d∧d≤255) (x:Bs) :
 TP k t x (bZ C ⟨[(4,.int .i64 2),(3,.ptr 0 0 0),(2,.ptr 1 0 0),(1,.ptr 2 0 0)],[(0,.cells 4 [[.int .u64 k,.int .u8 t,.str x,.ro 1 [] true]] true true),(1,.cells 4 [[.int .u64 0,.int .u8 0,.str [],.ro 1 [] true]] true true),(2,.cells 4 [[.int .u8 a,.int .u8 b,.int .u8 c,.int .u8 d]] true true)],3⟩):=by
 have h6:d.tdiv 8=d / 8:=Int.tdiv_eq_ediv_of_nonneg (by omega)
 have h5:(2+d / 8).tmod 3=(2+d / 8) % 3:=Int.tmod_eq_emod_of_nonneg (by omega)
 have hJ:(2+d / 8) % 3=0∨(2+d / 8) % 3=1∨(2+d / 8) % 3=2:=by omega
 simp only [bZ];rw [aj jP.eq_1]
 rcases hJ with hj | hj | hj
 · simp (disch:=omega) [aG,wU8,h5,h6,hj]
   split
   · exact nU H k t a b c d hd x [[97]] (by simp) (by simp) (by decide)
   · exact F5 H k t a b c d hd x
 · simp (disch:=omega) [aG,wU8,h5,h6,hj]
   split
   · exact nU H k t a b c d hd x [[98,50]] (by simp) (by simp) (by decide)
   · exact F5 H k t a b c d hd x
 · simp (disch:=omega) [aG,wU8,h5,h6,hj]
   split
   · exact nU H k t a b c d hd x [[107,101,121]] (by simp) (by simp) (by decide)
   · exact F5 H k t a b c d hd x
theorem KL (H:uS C) (k t a b c d:Int) (hd:0≤d∧d≤255) (x:Bs) (G:List Bs) (hG:G≠[]) (hl:G.length≤1) (hm:G.all isName=true) :
 TP k t x (bZ C ⟨[(4,.int .i64 1),(3,.ptr 0 0 0),(2,.ptr 2 0 0),(1,.ptr 3 0 0)],[(0,.cells 4 [[.int .u64 k,.int .u8 t,.str x,.sl 1 1 0 G.length G.length false]] true false),(1,.cells 1 (G.map eS) true true),(2,.cells 4 [[.int .u64 0,.int .u8 0,.str [],.ro 1 [] true]] true true),(3,.cells 4 [[.int .u8 a,.int .u8 b,.int .u8 c,.int .u8 d]] true true)],4⟩):=by
 have hfit:(G.length+1) * 17≤35184372088832:=by omega
 have hfit2:(G.length+2) * 17≤35184372088832:=by omega
 have h4:List.take G.length (List.map eS G)=List.map eS G:=List.take_of_length_le (by simp)
 have h6:d.tdiv 8=d / 8:=Int.tdiv_eq_ediv_of_nonneg (by omega)
 have h5:(1+d / 8).tmod 3=(1+d / 8) % 3:=Int.tmod_eq_emod_of_nonneg (by omega)
 have hJ:(1+d / 8) % 3=0∨(1+d / 8) % 3=1∨(1+d / 8) % 3=2:=by omega
 simp only [bZ];rw [aj jP.eq_1]
 rcases hJ with hj | hj | hj
 · simp (disch:=omega) [aG,wU8,h5,h6,hj,h4,hfit]
   split
   · have h:=nX H k t a b c d hd x (G++[[97]]) (by simp) (by simp;omega) (by simp only [List.all_append,hm];decide)
     simp only [bZ] at h
     simpa using h
   · exact nX H k t a b c d hd x G hG (by omega) hm
 · simp (disch:=omega) [aG,wU8,h5,h6,hj,h4,hfit]
   split
   · have h:=nX H k t a b c d hd x (G++[[98,50]]) (by simp) (by simp;omega) (by simp only [List.all_append,hm];decide)
     simp only [bZ] at h
     simpa using h
   · exact nX H k t a b c d hd x G hG (by omega) hm
 · simp (disch:=omega) [aG,wU8,h5,h6,hj,h4,hfit]
   split
   · have h:=nX H k t a b c d hd x (G++[[107,101,121]]) (by simp) (by simp;omega) (by simp only [List.all_append,hm];decide)
     simp only [bZ] at h
     simpa using h
   · exact nX H k t a b c d hd x G hG (by omega) hm
theorem Gn (H:uS C) (k t a b c d:Int) (hd:0≤d∧d≤255) (x:Bs) :
 TP k t x (bZ C ⟨[(4,.int .i64 1),(3,.ptr 0 0 0),(2,.ptr 1 0 0),(1,.ptr 2 0 0)],[(0,.cells 4 [[.int .u64 k,.int .u8 t,.str x,.ro 1 [] true]] true true),(1,.cells 4 [[.int .u64 0,.int .u8 0,.str [],.ro 1 [] true]] true true),(2,.cells 4 [[.int .u8 a,.int .u8 b,.int .u8 c,.int .u8 d]] true true)],3⟩):=by
 have h6:d.tdiv 8=d / 8:=Int.tdiv_eq_ediv_of_nonneg (by omega)
 have h5:(1+d / 8).tmod 3=(1+d / 8) % 3:=Int.tmod_eq_emod_of_nonneg (by omega)
 have hJ:(1+d / 8) % 3=0∨(1+d / 8) % 3=1∨(1+d / 8) % 3=2:=by omega
 simp only [bZ];rw [aj jP.eq_1]
 rcases hJ with hj | hj | hj
 · simp (disch:=omega) [aG,wU8,h5,h6,hj]
   split
   · exact nX H k t a b c d hd x [[97]] (by simp) (by simp) (by decide)
   · exact F8 H k t a b c d hd x
 · simp (disch:=omega) [aG,wU8,h5,h6,hj]
   split
   · exact nX H k t a b c d hd x [[98,50]] (by simp) (by simp) (by decide)
   · exact F8 H k t a b c d hd x
 · simp (disch:=omega) [aG,wU8,h5,h6,hj]
   split
   · exact nX H k t a b c d hd x [[107,101,121]] (by simp) (by simp) (by decide)
   · exact F8 H k t a b c d hd x
theorem Yu (H:uS C) (k t a b c d:Int) (hd:0≤d∧d≤255) (x:Bs) :
 TP k t x (bZ C ⟨[(4,.int .i64 0),(3,.ptr 0 0 0),(2,.ptr 1 0 0),(1,.ptr 2 0 0)],[(0,.cells 4 [[.int .u64 k,.int .u8 t,.str x,.ro 1 [] true]] true true),(1,.cells 4 [[.int .u64 0,.int .u8 0,.str [],.ro 1 [] true]] true true),(2,.cells 4 [[.int .u8 a,.int .u8 b,.int .u8 c,.int .u8 d]] true true)],3⟩):=by
 have h6:d.tdiv 8=d / 8:=Int.tdiv_eq_ediv_of_nonneg (by omega)
 have h5:(0+d / 8).tmod 3=(0+d / 8) % 3:=Int.tmod_eq_emod_of_nonneg (by omega)
 have hJ:(0+d / 8) % 3=0∨(0+d / 8) % 3=1∨(0+d / 8) % 3=2:=by omega
 simp only [bZ];rw [aj jP.eq_1]
 simp only [Int.zero_add] at h5 hJ
 rcases hJ with hj | hj | hj
 · simp (disch:=omega) [aG,wU8,h5,h6,hj]
   split
   · exact KL H k t a b c d hd x [[97]] (by simp) (by simp) (by decide)
   · exact Gn H k t a b c d hd x
 · simp (disch:=omega) [aG,wU8,h5,h6,hj]
   split
   · exact KL H k t a b c d hd x [[98,50]] (by simp) (by simp) (by decide)
   · exact Gn H k t a b c d hd x
 · simp (disch:=omega) [aG,wU8,h5,h6,hj]
   split
   · exact KL H k t a b c d hd x [[107,101,121]] (by simp) (by simp) (by decide)
   · exact Gn H k t a b c d hd x
structure Q4 where
 (a b c d:Int)
@[simp] def eQ (q:Q4):List AV:=[.int .u8 q.a,.int .u8 q.b,.int .u8 q.c,.int .u8 q.d]
structure QIn (q:Q4):Prop where
 a:0≤q.a∧q.a≤255
 b:0≤q.b∧q.b≤255
 c:0≤q.c∧q.c≤255
 d:0≤q.d∧q.d≤255
theorem qO (H:uS C) (q:Q4) (hq:QIn q):∃ i:It,FnW C 422 [.agg (eQ q)]=some (eIt i)∧Good i:=by
 obtain ⟨a,b,c,d⟩:=q
 obtain ⟨ha,hb,hc,hd⟩:=hq
 simp only at ha hb hc hd
 have h1:a.tmod 60=a % 60:=Int.tmod_eq_emod_of_nonneg (by omega)
 have h2:b.tmod 3=b % 3:=Int.tmod_eq_emod_of_nonneg (by omega)
 have h3:c.tmod 8=c % 8:=Int.tmod_eq_emod_of_nonneg (by omega)
 have hx:∀ x:Bs,isText x=true→∃ i:It,bZ C ⟨[(4,.int .i64 0),(3,.ptr 0 0 0),(2,.ptr 1 0 0),(1,.ptr 2 0 0)],[(0,.cells 4 [[.int .u64 (1+a % 60),.int .u8 (b % 3),.str x,.ro 1 [] true]] true true),(1,.cells 4 [[.int .u64 0,.int .u8 0,.str [],.ro 1 [] true]] true true),(2,.cells 4 [[.int .u8 a,.int .u8 b,.int .u8 c,.int .u8 d]] true true)],3⟩=some (eIt i)∧Good i:=by
  intro x hx
  obtain ⟨m,e,h,r1,r2⟩:=Yu H (1+a % 60) (b % 3) a b c d hd x
  exact ⟨_,h,⟨by simp only;omega,by simp only;omega,hx,r1,r2⟩⟩
 rw [aF H.aiy rfl]
 have hJ:c % 8=0∨c % 8=1∨c % 8=2∨c % 8=3∨c % 8=4∨c % 8=5∨c % 8=6∨c % 8=7:=by omega
 rcases hJ with hj | hj | hj | hj | hj | hj | hj | hj
 · obtain ⟨i,h,g⟩:=hx [] (by decide)
   refine ⟨i,?_,g⟩
   simp only [bZ] at h
   simp (disch:=omega) [Gi,h1,h2,h3,hj,aG,wU8,nI,h]
 · obtain ⟨i,h,g⟩:=hx [97] (by decide)
   refine ⟨i,?_,g⟩
   simp only [bZ] at h
   simp (disch:=omega) [Gi,h1,h2,h3,hj,aG,wU8,nI,h]
 · obtain ⟨i,h,g⟩:=hx [114,111,119] (by decide)
   refine ⟨i,?_,g⟩
   simp only [bZ] at h
   simp (disch:=omega) [Gi,h1,h2,h3,hj,aG,wU8,nI,h]
 · obtain ⟨i,h,g⟩:=hx [116,119,111,32,119,111,114,100,115] (by decide)
   refine ⟨i,?_,g⟩
   simp only [bZ] at h
   simp (disch:=omega) [Gi,h1,h2,h3,hj,aG,wU8,nI,h]
 · obtain ⟨i,h,g⟩:=hx [32,32] (by decide)
   refine ⟨i,?_,g⟩
   simp only [bZ] at h
   simp (disch:=omega) [Gi,h1,h2,h3,hj,aG,wU8,nI,h]
 · obtain ⟨i,h,g⟩:=hx [126,33,45,44] (by decide)
   refine ⟨i,?_,g⟩
   simp only [bZ] at h
   simp (disch:=omega) [Gi,h1,h2,h3,hj,aG,wU8,nI,h]
 · obtain ⟨i,h,g⟩:=hx [97,32,108,111,110,103,101,114,32,116,101,120,116,32,111,102,32,116,104,105,115,32,107,105,110,100] (by decide)
   refine ⟨i,?_,g⟩
   simp only [bZ] at h
   simp (disch:=omega) [Gi,h1,h2,h3,hj,aG,wU8,nI,h]
 · obtain ⟨i,h,g⟩:=hx [57] (by decide)
   refine ⟨i,?_,g⟩
   simp only [bZ] at h
   simp (disch:=omega) [Gi,h1,h2,h3,hj,aG,wU8,nI,h]
theorem Good.it {i:It} (h:Good i):jq i:=⟨by have:=h.k;omega,by have:=h.t;omega,by have:=h.l;omega⟩
theorem Good.ok {i:It} (h:Good i):fC 3 i=true:=by
 have h1:=h.k;have h2:=h.t;have h3:=h.x;have h4:=h.l;have h5:=h.m
 unfold fC
 simp only [Bool.and_eq_true,decide_eq_true_eq]
 exact ⟨⟨⟨by omega,by omega⟩,h3⟩,h4,h5⟩
theorem Uy {k:Int}:∀ (l:List It) (i:Nat),Dx k i l < 0→∀ x ∈ l,x.k≠k
 | [],_,_=>by simp
 | e::r,i,h=>by
  rw [Dx] at h
  split at h
  · omega
  · rename_i c
    intro x hx
    rcases List.mem_cons.1 hx with rfl | hx
    · exact c
    · exact Uy r (i+1) h x hx
theorem SV (H:uS C) (hone:∀ q:Q4,QIn q→∃ i:It,FnW C 422 [.agg (eQ q)]=some (eIt i)∧Good i) (l:List Q4) (e:Bool) (hq:∀ q ∈ l,QIn q):∀ n i,n+i=min l.length 12→∀ G:List It,G.length≤i→(∀ x ∈ G,Good x)→(G.map It.k).Nodup →
 ∃ R:List It,zy C ⟨[(4,.int .i64 i),(3,.sl 0 4 0 G.length G.length false),(1,.ptr 1 0 0)],[(0,.cells 4 (G.map cIt) true true),(1,.cells 1 [[.ro 4 (l.map eQ) e]] true true)],2⟩=some (.ro 4 (R.map cIt) false) ∧
  R.length≤12∧(∀ x ∈ R,Good x)∧(R.map It.k).Nodup:=by
 intro n
 induction n with
 | zero =>
  intro i hi G hG hg hn
  refine ⟨G,?_,by omega,hg,hn⟩
  simp only [zy];rw [aj wE.eq_1]
  have h6:List.take G.length (List.map cIt G)=List.map cIt G:=List.take_of_length_le (by simp)
  by_cases h3:i < l.length
  · have h4:¬ (i:Int) < 12:=by omega
    simp [aj EY.eq_1,h3,h4,h6]
  · simp [aj EY.eq_1,h3,h6]
 | succ n ih =>
  intro i hi G hG hg hn
  have h1:i < l.length:=by omega
  have h2:(i:Int) < 12:=by omega
  obtain ⟨x,hx,gx⟩:=hone l[i] (hq _ (List.getElem_mem h1))
  have hf:=OX H.tojU G false x.k (by omega)
  have h6:List.take G.length (List.map cIt G)=List.map cIt G:=List.take_of_length_le (by simp)
  have hfit:(G.length+1) * 57≤35184372088832:=by omega
  simp only [eQ] at hx
  by_cases c:Dx x.k 0 G < 0
  · have hno:=Uy G 0 c
    obtain ⟨R,this,r1,r2,r3⟩:=ih (i+1) (by omega) (G++[x]) (by simp;omega) (by
     intro y hy
     rcases List.mem_append.1 hy with q | q
     · exact hg y q
     · simp at q;rw [q];exact gx) (by
     rw [List.map_append,List.nodup_append]
     refine ⟨hn,by simp,?_⟩
     intro a ha b hb
     simp at hb
     obtain ⟨y,hy,rfl⟩:=List.mem_map.1 ha
     rw [hb];exact hno y hy)
    refine ⟨R,?_,r1,r2,r3⟩
    simp only [zy] at this ⊢;rw [aj wE.eq_1]
    simp at this
    simp (disch:=omega) [h1,h2,hx,hf,h6,c,hfit,aG,H.inl,ay,H.pp,ppB,this]
  · obtain ⟨R,this,r1,r2,r3⟩:=ih (i+1) (by omega) G (by omega) hg hn
    refine ⟨R,?_,r1,r2,r3⟩
    simp only [zy] at this ⊢;rw [aj wE.eq_1]
    simp at this
    simp (disch:=omega) [h1,h2,hx,hf,h6,c,aG,H.inl,ay,H.pp,ppB,this]
theorem Ze (H:uS C) (hone:∀ q:Q4,QIn q→∃ i:It,FnW C 422 [.agg (eQ q)]=some (eIt i)∧Good i) (l:List Q4) (e:Bool) (hq:∀ q ∈ l,QIn q) :
 ∃ R:List It,FnW C 270 [.agg [.ro 4 (l.map eQ) e]]=some (.ro 4 (R.map cIt) false)∧R.length≤12∧(∀ x ∈ R,Good x)∧(R.map It.k).Nodup:=by
 obtain ⟨R,h,r⟩:=SV H hone l e hq (min l.length 12) 0 (by simp) [] (by simp) (by simp) (by simp)
 refine ⟨R,?_,r⟩
 simp only [zy] at h
 simp at h
 rw [aF H.f270 rfl]
 simp [aec,h]
def xR (k:Int) (t:Bs):Pt:=⟨k,[],[],[],true,t,[],true⟩
def Di:Pt:=⟨1,[114,111,119],[],[⟨[110],3,[]⟩,⟨[116,101,120,116],1,[]⟩],true,[],[xR 3 []],true⟩
def uX:Pt:=⟨1,[104,101,97,100],[104],[⟨[105,100],2,[]⟩],true,[],[xR 2 [35],xR 4 []],true⟩
def uD:Pt:=⟨1,[114,111,119],[],[],true,[],[⟨1,[98],[98,50],[],true,[],[xR 3 []],true⟩,⟨5,[116,97,103],[],[⟨[111,102],2,[]⟩],true,[],[],true⟩],true⟩
def eu (n:Int):List Kd:=[⟨Di,10+n % 7,false,n % 4⟩,⟨uX,6+n % 3,true,n / 4 % 3⟩,⟨uD,20,decide (n % 16=15),n / 8 % 3⟩]
theorem Zr (H:uS C) (n:Int) (hn:0≤n∧n≤255):FnW C 126 [.int .u8 n]=some (.ro 9 ((eu n).map eKd) true):=by
 rw [aF H.f126 rfl]
 have h1:n.tmod 7=n % 7:=Int.tmod_eq_emod_of_nonneg (by omega)
 have h2:n.tmod 4=n % 4:=Int.tmod_eq_emod_of_nonneg (by omega)
 have h3:n.tmod 3=n % 3:=Int.tmod_eq_emod_of_nonneg (by omega)
 have h4:n.tdiv 4=n / 4:=Int.tdiv_eq_ediv_of_nonneg (by omega)
 have h5:n.tdiv 8=n / 8:=Int.tdiv_eq_ediv_of_nonneg (by omega)
 have h6:(n / 4).tmod 3=n / 4 % 3:=Int.tmod_eq_emod_of_nonneg (by omega)
 have h7:(n / 8).tmod 3=n / 8 % 3:=Int.tmod_eq_emod_of_nonneg (by omega)
 have h8:n.tmod 16=n % 16:=Int.tmod_eq_emod_of_nonneg (by omega)
 simp (disch:=omega) [afS,eu,Di,uX,uD,xR,h1,h2,h3,h4,h5,h6,h7,h8,aG,wU8,Pt.fA]
 rfl
theorem BF (k:Int) (t:Bs):iE (xR k t):=.mk _ ⟨by simp [xR],by simp [xR],by simp [xR]⟩ (by simp [xR])
theorem Z5:iE Di:=.mk _ ⟨by simp [Di],by simp [Di],by simp [Di]⟩ (by simp only [Di,List.mem_cons,List.not_mem_nil,or_false];rintro m rfl;exact BF _ _)
theorem VJ:iE uX:=.mk _ ⟨by simp [uX],by simp [uX],by simp [uX]⟩ (by simp only [uX,List.mem_cons,List.not_mem_nil,or_false];rintro m (rfl | rfl) <;> exact BF _ _)
theorem XF:iE uD:=.mk _ ⟨by simp [uD],by simp [uD],by simp [uD]⟩ (by
 simp only [uD,List.mem_cons,List.not_mem_nil,or_false]
 rintro m (rfl | rfl)
 · exact .mk _ ⟨by simp,by simp,by simp⟩ (by simp only [List.mem_cons,List.not_mem_nil,or_false];rintro m rfl;exact BF _ _)
 · exact .mk _ ⟨by simp,by simp,by simp⟩ (by simp))
theorem akC (n:Int):kG (eu n):=⟨by simp [eu],by
 simp only [eu,List.mem_cons,List.not_mem_nil,or_false]
 rintro k (rfl | rfl | rfl)
 · exact Z5
 · exact VJ
 · exact XF⟩
theorem ajf:oV Di≠0:=by decide +kernel
theorem ab5:oV uX≠0:=by decide +kernel
theorem afK:oV uD≠0:=by decide +kernel
theorem ak2 (n:Int) (hn:0≤n∧n≤255):qI (eu n) 12=true:=by
 have e1:(1:Int)≤10+n % 7∧10+n % 7≤2305843009213693952:=by omega
 have e2:(1:Int)≤6+n % 3∧6+n % 3≤2305843009213693952:=by omega
 simp [qI,JV,hOk,eu,ajf,ab5,afK,e1,e2]
theorem UJ (n:Int) (hn:0≤n∧n≤255) (t:Int) (ht:0≤t∧t≤2):1≤(dF (eu n) t).b∧(dF (eu n) t).b≤30:=by
 have:t=0∨t=1∨t=2:=by omega
 rcases this with rfl | rfl | rfl <;> simp [dF,eu] <;> omega
structure mQ (ks:List Kd) (e:En):Prop where
 i:Good e.i
 ok:itE ks 12 e.i false=0
 s:1≤e.s∧e.s≤40
 b:e.kn=true∨e.s=(dF ks e.i.t).b
structure V6 (ks:List Kd):Prop where
 r:kG ks
 l:ks.length=3
 b:∀ t:Int,0≤t→t≤2→1≤(dF ks t).b∧(dF ks t).b≤30
theorem agm (n:Int) (hn:0≤n∧n≤255):V6 (eu n):=⟨akC n,rfl,fun t h1 h2=>UJ n hn t ⟨h1,h2⟩⟩
theorem ajn (H:uS C) (ks:List Kd) (hks:V6 ks) (l:List It) (le:Bool) (hl:l.length≤12) (hg:∀ x ∈ l,Good x) (q:List Q4) (qe:Bool) (z:List Int) (ze:Bool) (hz:∀ s ∈ z,0≤s∧s≤255) (hzl:z.length < 9223372036854775808) (r:Int):∀ n i,n+i=l.length →
 ∀ G:List En,G≠[]→G.length≤i→(∀ x ∈ G,mQ ks x)→(bC G++(l.drop i).map It.k).Nodup →
 ∃ (R:List En) (f:Bool),iD C ⟨[(7,.int .i64 i),(6,.ptr 0 0 0),(5,.ro 4 (l.map cIt) le),(4,.ptr 2 0 0),(3,.ptr 3 0 0),(2,.ptr 4 0 0),(1,.ptr 5 0 0)],[(0,.cells 1 [[.sl 1 6 0 G.length G.length false]] true false),(1,.cells 6 (G.map eEn) true true),(2,.cells 2 [[.ro 9 (ks.map eKd) true,.int .i64 12]] true true),(3,.cells 1 [[.ro 6 [] true]] true true),(4,.cells 2 [[.ro 9 [] true,.int .i64 0]] true true),(5,.cells 3 [[.ro 4 (q.map eQ) qe,.ro 1 (z.map eU8) ze,.int .u8 r]] true true)],6⟩=some (.tup [aR ks true 12,aL R f])∧R.length≤12∧(∀ e ∈ R,mQ ks e)∧(bC R).Nodup:=by
 intro n
 induction n with
 | zero =>
  intro i hi G hne hG hge hn
  have h1:l.drop i=[]:=List.drop_eq_nil_of_le (by omega)
  have h3:¬ i < l.length:=by omega
  have h6:List.take G.length (List.map eEn G)=List.map eEn G:=List.take_of_length_le (by simp)
  refine ⟨G,false,?_,by omega,hge,by rw [h1] at hn;simpa using hn⟩
  simp only [iD];rw [aj jv.eq_1]
  simp [aj EL.eq_1,h3,h6]
 | succ n ih =>
  intro i hi G hne hG hge hn
  have h1:i < l.length:=by omega
  have gx:=hg _ (List.getElem_mem h1)
  have hii:=yZ H.toAd ks true 12 l[i] gx.it hks.r false
  have hfr:=wo H.toAd ks true 12 l[i] gx.it (by have:=gx.t;have:=hks.l;omega)
  have hbase:=hks.b l[i].t gx.t.1 gx.t.2
  rw [drop_cons h1,List.map_cons] at hn
  have hfit:(G.length+1) * 73≤35184372088832:=by omega
  simp only [aR,eIt,Bool.false_eq_true,if_false] at hii
  simp only [aR,eIt,aE,eEn,fre] at hfr
  have hE0:0≤itE ks 12 l[i] false:=by unfold itE;repeat (first | omega | split)
  by_cases c1:itE ks 12 l[i] false=0
  · have step:∀ e:En,e.i=l[i]→mQ ks e→∃ (R:List En) (f:Bool),iD C ⟨[(7,.int .i64 ((i:Int)+1)),(6,.ptr 0 0 0),(5,.ro 4 (l.map cIt) le),(4,.ptr 2 0 0),(3,.ptr 3 0 0),(2,.ptr 4 0 0),(1,.ptr 5 0 0)],[(0,.cells 1 [[.sl 1 6 0 (G.length+1) (G.length+1) false]] true false),(1,.cells 6 (G.map eEn++[eEn e]) true true),(2,.cells 2 [[.ro 9 (ks.map eKd) true,.int .i64 12]] true true),(3,.cells 1 [[.ro 6 [] true]] true true),(4,.cells 2 [[.ro 9 [] true,.int .i64 0]] true true),(5,.cells 3 [[.ro 4 (q.map eQ) qe,.ro 1 (z.map eU8) ze,.int .u8 r]] true true)],6⟩=some (.tup [aR ks true 12,aL R f])∧R.length≤12∧(∀ e ∈ R,mQ ks e)∧(bC R).Nodup:=by
     intro e he hge2
     have:=ih (i+1) (by omega) (G++[e]) (by simp) (by simp;omega) (by
      intro y hy
      rcases List.mem_append.1 hy with q | q
      · exact hge y q
      · simp at q;rw [q];exact hge2) (by simpa [bC,he] using hn)
     simpa using this
    by_cases c2:G.length < z.length
    · by_cases c3:(0:Int) < z[G.length]
      · have hzz:=hz _ (List.getElem_mem c2)
        have hm:z[G.length].tmod 40=z[G.length] % 40:=Int.tmod_eq_emod_of_nonneg hzz.1
        have hm1:(0:Int)≤z[G.length] % 40:=Int.emod_nonneg _ (by omega)
        have hm2:z[G.length] % 40 < 40:=Int.emod_lt_of_pos _ (by omega)
        obtain ⟨R,f,this,hR⟩:=step ⟨l[i],1+z[G.length] % 40,true⟩ rfl ⟨gx,c1,by simp only;omega,.inl rfl⟩
        refine ⟨R,f,?_,hR⟩
        rw [c1] at hii
        generalize z[G.length] % 40=M at *
        simp only [iD] at this ⊢;rw [aj jv.eq_1]
        simp at this
        simp (disch:=omega) [h1,c2,c3,hm,hii,hfr,hfit,aG,wU8,H.inl,ay,H.pp,ppB,this]
      · obtain ⟨R,f,this,hR⟩:=step (fre ks l[i]) rfl ⟨gx,c1,by unfold fre;simp only;omega,.inr rfl⟩
        refine ⟨R,f,?_,hR⟩
        rw [c1] at hii
        simp only [fre] at this
        simp only [iD] at this ⊢;rw [aj jv.eq_1]
        simp at this
        simp (disch:=omega) [h1,c2,c3,hii,hfr,hfit,aG,wU8,H.inl,ay,H.pp,ppB,this]
    · obtain ⟨R,f,this,hR⟩:=step (fre ks l[i]) rfl ⟨gx,c1,by unfold fre;simp only;omega,.inr rfl⟩
      refine ⟨R,f,?_,hR⟩
      rw [c1] at hii
      simp only [fre] at this
      simp only [iD] at this ⊢;rw [aj jv.eq_1]
      simp at this
      simp (disch:=omega) [h1,c2,hii,hfr,hfit,aG,wU8,H.inl,ay,H.pp,ppB,this]
  · have c1':0 < itE ks 12 l[i] false:=by omega
    obtain ⟨R,f,this,hR⟩:=ih (i+1) (by omega) G hne (by omega) hge (by
     refine List.Nodup.sublist ?_ hn;exact List.Sublist.append (List.Sublist.refl _) (List.sublist_cons_self _ _))
    refine ⟨R,f,?_,hR⟩
    generalize itE ks 12 l[i] false=E at *
    simp only [iD] at this ⊢;rw [aj jv.eq_1]
    simp at this
    simp (disch:=omega) [h1,c1',hii,aG,H.inl,ay,H.pp,ppB,this]
theorem acf (H:uS C) (ks:List Kd) (hks:V6 ks) (l:List It) (le:Bool) (hl:l.length≤12) (hg:∀ x ∈ l,Good x) (q:List Q4) (qe:Bool) (z:List Int) (ze:Bool) (hz:∀ s ∈ z,0≤s∧s≤255) (hzl:z.length < 9223372036854775808) (r:Int):∀ n i,n+i=l.length →
 (bC []++(l.drop i).map It.k).Nodup →
 ∃ (R:List En) (f:Bool),iD C ⟨[(7,.int .i64 i),(6,.ptr 0 0 0),(5,.ro 4 (l.map cIt) le),(4,.ptr 1 0 0),(3,.ptr 2 0 0),(2,.ptr 3 0 0),(1,.ptr 4 0 0)],[(0,.cells 1 [[.ro 6 [] true]] true true),(1,.cells 2 [[.ro 9 (ks.map eKd) true,.int .i64 12]] true true),(2,.cells 1 [[.ro 6 [] true]] true true),(3,.cells 2 [[.ro 9 [] true,.int .i64 0]] true true),(4,.cells 3 [[.ro 4 (q.map eQ) qe,.ro 1 (z.map eU8) ze,.int .u8 r]] true true)],5⟩=some (.tup [aR ks true 12,aL R f])∧R.length≤12∧(∀ e ∈ R,mQ ks e)∧(bC R).Nodup:=by
 intro n
 induction n with
 | zero =>
  intro i hi  hn
  have h1:l.drop i=[]:=List.drop_eq_nil_of_le (by omega)
  have h3:¬ i < l.length:=by omega
  refine ⟨[],true,?_,by simp,by simp,by simp⟩
  simp only [iD];rw [aj jv.eq_1]
  simp [aj EL.eq_1,h3]
 | succ n ih =>
  intro i hi  hn
  have h1:i < l.length:=by omega
  have gx:=hg _ (List.getElem_mem h1)
  have hii:=yZ H.toAd ks true 12 l[i] gx.it hks.r false
  have hfr:=wo H.toAd ks true 12 l[i] gx.it (by have:=gx.t;have:=hks.l;omega)
  have hbase:=hks.b l[i].t gx.t.1 gx.t.2
  rw [drop_cons h1,List.map_cons] at hn
  simp only [aR,eIt,Bool.false_eq_true,if_false] at hii
  simp only [aR,eIt,aE,eEn,fre] at hfr
  have hE0:0≤itE ks 12 l[i] false:=by unfold itE;repeat (first | omega | split)
  by_cases c1:itE ks 12 l[i] false=0
  · have step:∀ e:En,e.i=l[i]→mQ ks e→∃ (R:List En) (f:Bool),iD C ⟨[(7,.int .i64 ((i:Int)+1)),(6,.ptr 0 0 0),(5,.ro 4 (l.map cIt) le),(4,.ptr 2 0 0),(3,.ptr 3 0 0),(2,.ptr 4 0 0),(1,.ptr 5 0 0)],[(0,.cells 1 [[.sl 1 6 0 1 1 false]] true false),(1,.cells 6 [eEn e] true true),(2,.cells 2 [[.ro 9 (ks.map eKd) true,.int .i64 12]] true true),(3,.cells 1 [[.ro 6 [] true]] true true),(4,.cells 2 [[.ro 9 [] true,.int .i64 0]] true true),(5,.cells 3 [[.ro 4 (q.map eQ) qe,.ro 1 (z.map eU8) ze,.int .u8 r]] true true)],6⟩=some (.tup [aR ks true 12,aL R f])∧R.length≤12∧(∀ e ∈ R,mQ ks e)∧(bC R).Nodup:=by
     intro e he hge2
     have:=ajn H ks hks l le hl hg q qe z ze hz hzl r n (i+1) (by omega) [e] (by simp) (by simp) (by simpa using hge2) (by simpa [bC,he] using hn)
     simpa using this
    by_cases c2:0 < z.length
    · by_cases c3:(0:Int) < z[0]
      · have hzz:=hz _ (List.getElem_mem c2)
        have hm:z[0].tmod 40=z[0] % 40:=Int.tmod_eq_emod_of_nonneg hzz.1
        have hm1:(0:Int)≤z[0] % 40:=Int.emod_nonneg _ (by omega)
        have hm2:z[0] % 40 < 40:=Int.emod_lt_of_pos _ (by omega)
        obtain ⟨R,f,this,hR⟩:=step ⟨l[i],1+z[0] % 40,true⟩ rfl ⟨gx,c1,by simp only;omega,.inl rfl⟩
        refine ⟨R,f,?_,hR⟩
        rw [c1] at hii
        generalize z[0] % 40=M at *
        simp only [iD] at this ⊢;rw [aj jv.eq_1]
        simp at this
        simp (disch:=omega) [h1,c2,c3,hm,hii,hfr,aG,wU8,H.inl,ay,H.pp,ppB,this]
      · obtain ⟨R,f,this,hR⟩:=step (fre ks l[i]) rfl ⟨gx,c1,by unfold fre;simp only;omega,.inr rfl⟩
        refine ⟨R,f,?_,hR⟩
        rw [c1] at hii
        simp only [fre] at this
        simp only [iD] at this ⊢;rw [aj jv.eq_1]
        simp at this
        simp (disch:=omega) [h1,c2,c3,hii,hfr,aG,wU8,H.inl,ay,H.pp,ppB,this]
    · obtain ⟨R,f,this,hR⟩:=step (fre ks l[i]) rfl ⟨gx,c1,by unfold fre;simp only;omega,.inr rfl⟩
      refine ⟨R,f,?_,hR⟩
      rw [c1] at hii
      simp only [fre] at this
      simp only [iD] at this ⊢;rw [aj jv.eq_1]
      simp at this
      simp (disch:=omega) [h1,c2,hii,hfr,aG,wU8,H.inl,ay,H.pp,ppB,this]
  · have c1':0 < itE ks 12 l[i] false:=by omega
    obtain ⟨R,f,this,hR⟩:=ih (i+1) (by omega) (by
     simp only [bC,List.map_nil,List.nil_append] at hn ⊢;exact (List.nodup_cons.1 hn).2)
    refine ⟨R,f,?_,hR⟩
    generalize itE ks 12 l[i] false=E at *
    simp only [iD] at this ⊢;rw [aj jv.eq_1]
    simp at this
    simp (disch:=omega) [h1,c1',hii,aG,H.inl,ay,H.pp,ppB,this]
theorem aiM (H:uS C) (hone:∀ q:Q4,QIn q→∃ i:It,FnW C 422 [.agg (eQ q)]=some (eIt i)∧Good i) (q:List Q4) (qe:Bool) (hq:∀ x ∈ q,QIn x) (z:List Int) (ze:Bool) (hz:∀ s ∈ z,0≤s∧s≤255) (hzl:z.length < 9223372036854775808) (r:Int) (hr:0≤r∧r≤255) :
 ∃ (R:List En) (f:Bool),FnW C 130 [.agg [.ro 4 (q.map eQ) qe,.ro 1 (z.map eU8) ze,.int .u8 r]]=some (.tup [aR (eu r) true 12,aL R f])∧R.length≤12∧(∀ e ∈ R,mQ (eu r) e)∧(bC R).Nodup:=by
 obtain ⟨I,hI,l1,l2,l3⟩:=Ze H hone q qe hq
 have hk:=Zr H r hr
 obtain ⟨R,f,h,hR⟩:=acf H (eu r) (agm r hr) I false l1 l2 q qe z ze hz hzl r I.length 0 (by simp) (by simpa [bC] using l3)
 refine ⟨R,f,?_,hR⟩
 rw [aF H.f130 rfl]
 generalize eu r=ks at *
 simp only [iD] at h
 simp at h
 simp [acS,hI,hk,h,H.inl,ay,H.pp,ppB]
mutual
theorem QU (i:It):∀ p:Pt,mk i.own p=mk i p
 | ⟨k,t,y,s,se,tx,ch,ce⟩=>by rw [mk,mk,Ur i ch];rfl
theorem Ur (i:It):∀ l:List Pt,mks i.own l=mks i l
 | []=>rfl
 | p::r=>by rw [mks,mks,QU i p,Ur i r]
end
theorem Qb (ks:List Kd) (hb:∀ t:Int,0≤t→t≤2→1≤(dF ks t).b∧(dF ks t).b≤30):∀ (l:List En) (s:List Int),(∀ e ∈ l,mQ ks e)→(s++bC l).Nodup→chk ks 12 s l=0
 | [],_,_,_=>rfl
 | e::r,s,hg,hn=>by
  have h1:=hg e (by simp)
  have h2:s.contains e.i.k=false:=by
   simp only [bC,List.map_cons] at hn
   have:=(List.nodup_append.1 hn).2.2
   simp only [List.contains_eq_mem,decide_eq_false_iff_not]
   intro q
   exact this _ q _ (by simp) rfl
  have h3:enE ks 12 e false=0:=by
   unfold enE
   rw [h1.ok]
   have hh:hOk e.s=true:=by unfold hOk;have:=h1.s;simp;omega
   simp [hh,h1.b]
  rw [chk,h2,h3]
  simp only [ne_eq,not_true_eq_false,if_false]
  refine Qb ks hb r _ (fun x hx=>hg x (by simp [hx])) ?_
  simpa [bC] using hn
theorem OU (ks:List Kd):∀ (l:List En) (s:Int),(∀ e ∈ l,mQ ks e)→0≤s→s+40 * l.length≤4611686018427387904→o8 s l≤s+40 * l.length
 | [],s,_,_,_=>by simp [o8]
 | e::r,s,hg,h0,h=>by
  have h1:=(hg e (by simp)).s
  have h2:imax e.s 0=e.s:=KN (by omega)
  simp only [List.length_cons] at h ⊢
  rw [o8,h2,if_neg (by omega)]
  have:=OU ks r (s+e.s) (fun x hx=>hg x (by simp [hx])) (by omega) (by omega)
  omega
theorem aff (r:Int) (hr:0≤r∧r≤255) (l:List En) (hl:l.length≤1024) (hg:∀ e ∈ l,mQ (eu r) e) (hn:(bC l).Nodup):ckE (eu r) 12 l=0:=by
 have h1:=Qb (eu r) (fun t a b=>UJ r hr t ⟨a,b⟩) l [] hg (by simpa using hn)
 have h2:=OU (eu r) l 0 hg (by omega) (by omega)
 have h3:ovE l=0:=by unfold ovE tot;rw [if_neg (by omega)]
 unfold ckE
 rw [ak2 r hr,h1,if_neg (by simp),if_neg (by omega),if_neg (by simp),h3]
theorem mQ.en {ks:List Kd} {e:En} (h:mQ ks e):dX e:=⟨h.i.it,by have:=h.s;omega⟩
theorem mQ.ow {ks:List Kd} {e:En} (h:mQ ks e):mQ ks e.own:=by
 refine ⟨⟨h.i.k,h.i.t,h.i.x,h.i.l,h.i.m⟩,?_,h.s,h.b⟩
 have h1:=h.ok
 have e1:∀ i:It,fC ks.length i.own=fC ks.length i:=fun i=>rfl
 have e2:∀ (i:It) (p:Pt),gG p i.own 12=gG p i 12:=by
  intro i p
  have:mkN i.own p=mkN i p:=by
   have m1:∀ p,Go.D.mk i.own p=Go.D.mk i p:=by
    intro p
    exact (QU i p)
   unfold mkN;rw [m1]
  unfold gG;rw [this];rfl
 unfold itE at h1 ⊢
 simp only [En.own,e1,e2]
 exact h1
end Go.D
end
section
namespace Go.D
open Go Go.Pav Go.Pw
theorem aiS {v:AV} (h:Ty (.int .u16) v):∃ n:Int,v=.int .u16 n∧0≤n∧n≤65535:=by
 cases h with | int k n h1 h2=>exact ⟨n,rfl,h1,h2⟩
end Go.D
end
section
end
section
namespace Go.D
open Go Go.Pav Go.Pw P
def sm:List En→Int
 | []=>0
 | e::r=>e.s+sm r
def top (l:List En) (i:Nat):Int:=sm (l.take i)
theorem I8 (l:List En):top l 0=0:=rfl
theorem abk:∀ (a b:List En),sm (a++b)=sm a+sm b
 | [],b=>by simp [sm]
 | e::r,b=>by simp only [List.cons_append,sm];rw [abk r b];omega
theorem zk {l:List En} {i:Nat} (h:i < l.length):top l (i+1)=top l i+l[i].s:=by
 unfold top
 rw [List.take_add_one,List.getElem?_eq_getElem h,abk]
 simp [sm]
theorem Ba (l:List En):top l l.length=sm l:=by unfold top;rw [List.take_length]
theorem aiA {l:List En} {i:Nat} (h:l.length≤i):top l i=sm l:=by unfold top;rw [List.take_of_length_le h]
def szE (l:List En):Int:=if 1024 < l.length then 3 else if l.any (fun e=>!hOk e.s) then 12 else ovE l
structure Szd (l:List En):Prop where
 n:l.length≤1024
 s:∀ x ∈ l,1≤x.s∧x.s≤2305843009213693952
 t:sm l≤4611686018427387904
theorem X3:∀ (l:List En),(∀ x ∈ l,1≤x.s)→0≤sm l
 | [],_=>by simp [sm]
 | e::r,h=>by
  have h1:=h e (by simp)
  have h2:=X3 r fun x hx=>h x (by simp [hx])
  rw [sm];omega
theorem NH:∀ (l:List En) (s:Int),(∀ x ∈ l,1≤x.s)→s≤4611686018427387904 →
 (s+sm l≤4611686018427387904∧o8 s l=s+sm l)∨(4611686018427387904 < s+sm l∧o8 s l=4611686018427387905)
 | [],s,_,h=>by left;simp [sm,o8,h]
 | e::r,s,hs,h=>by
  have h1:=hs e (by simp)
  have h2:=X3 r fun x hx=>hs x (by simp [hx])
  have h3:imax e.s 0=e.s:=KN (by omega)
  rw [o8,sm,h3]
  by_cases c:4611686018427387904 - s < e.s
  · right;rw [if_pos c];omega
  · rw [if_neg c]
    have:=NH r (s+e.s) (fun x hx=>hs x (by simp [hx])) (by omega)
    rw [← Int.add_assoc];exact this
theorem U5 (n:Int):hOk n=true↔1≤n∧n≤2305843009213693952:=by unfold hOk;simp
theorem abw {l:List En} (h:szE l=0):Szd l:=by
 unfold szE at h
 by_cases c1:1024 < l.length
 · rw [if_pos c1] at h;omega
 · rw [if_neg c1] at h
   by_cases c2:l.any (fun e=>!hOk e.s)=true
   · rw [if_pos c2] at h;omega
   · rw [if_neg c2] at h
     have hs:∀ x ∈ l,1≤x.s∧x.s≤2305843009213693952:=by
      intro x hx
      rw [← U5]
      simp only [List.any_eq_true,not_exists,not_and] at c2
      simpa using c2 x hx
     refine ⟨by omega,hs,?_⟩
     rcases NH l 0 (fun x hx=>(hs x hx).1) (by omega) with q | q
     · omega
     · unfold ovE tot at h
       rw [q.2] at h
       simp at h
theorem Szd.tot {l:List En} (h:Szd l):tot l=sm l:=by
 unfold Go.D.tot
 have h2:=h.t
 rcases NH l 0 (fun x hx=>(h.s x hx).1) (by omega) with q | q
 · omega
 · omega
theorem KD {l:List En} (h:Szd l):szE l=0:=by
 have h1:=h.n
 have h2:=h.t
 have h3:ovE l=0:=by unfold ovE;rw [h.tot,if_neg (by omega)]
 unfold szE
 rw [if_neg (by omega),h3,if_neg]
 intro c
 obtain ⟨x,hx,c⟩:=List.any_eq_true.1 c
 have:=(U5 x.s).2 (h.s x hx)
 rw [this] at c
 cases c
theorem Szd.nn {l:List En} (h:Szd l):0≤sm l:=X3 l fun x hx=>(h.s x hx).1
theorem Szd.lt {l:List En} (h:Szd l) {i:Nat} (hi:i < l.length):top l i+1≤top l (i+1):=by
 rw [zk hi]
 have:=(h.s _ (List.getElem_mem hi)).1
 omega
theorem Szd.mono {l:List En} (h:Szd l) {i:Nat}:∀ {j:Nat},i≤j→j≤l.length→top l i+((j:Int) - i)≤top l j:=by
 intro j hij
 induction j with
 | zero =>
  intro _;have:i=0:=by omega
  subst this;simp
 | succ j ih =>
  intro hj
  by_cases c:i=j+1
  · subst c;omega
  · have h1:=ih (by omega) (by omega)
    have h2:=h.lt (i:=j) (by omega)
    omega
theorem Szd.rng {l:List En} (h:Szd l) (i:Nat):0≤top l i∧top l i≤sm l:=by
 by_cases c:i≤l.length
 · have h1:=h.mono (i:=0) (j:=i) (by omega) c
   have h2:=h.mono (i:=i) (j:=l.length) c (by omega)
   rw [I8] at h1
   rw [Ba] at h2
   omega
 · rw [aiA (by omega)];have:=h.nn;omega
theorem Szd.small {l:List En} (h:Szd l) (i:Nat):-9223372036854775808≤top l i∧top l i≤4611686018427387904:=by
 have:=h.rng i
 have:=h.t
 omega
def aeo (l:List En) (x:Int):Nat→Nat→Int
 | 0,_=>-1
 | n+1,i=>if top l i≤x∧x < top l (i+1) then i else aeo l x n (i+1)
def rowA (l:List En) (x:Int):Int:=aeo l x l.length 0
theorem Szd.adu {l:List En} (h:Szd l) {x:Int} {p:Nat} (hp:p < l.length) (h1:top l p≤x) (h2:x < top l (p+1)):∀ n i,n+i=l.length→i≤p→aeo l x n i=p:=by
 intro n
 induction n with
 | zero=>intro i hi hip;omega
 | succ n ih =>
  intro i hi hip
  rw [aeo]
  by_cases c:i=p
  · subst c;rw [if_pos ⟨h1,h2⟩]
  · have:=h.mono (i:=i+1) (j:=p) (by omega) (by omega)
    rw [if_neg (by omega)]
    exact ih (i+1) (by omega) (by omega)
theorem Szd.U2 {l:List En} (h:Szd l) {x:Int} {p:Nat} (hp:p < l.length) (h1:top l p≤x) (h2:x < top l (p+1)):rowA l x=p:=h.adu hp h1 h2 _ _ (by simp) (by omega)
theorem Szd.row {l:List En} (h:Szd l) {x:Int} (h0:0≤x) (h1:x < sm l):∃ p,p < l.length∧top l p≤x∧x < top l (p+1):=by
 have key:∀ n,n≤l.length→top l n≤x∨∃ p,p < n∧top l p≤x∧x < top l (p+1):=by
  intro n
  induction n with
  | zero=>intro _;left;rw [I8];exact h0
  | succ n ih =>
   intro hn
   rcases ih (by omega) with q | ⟨p,q1,q2⟩
   · by_cases c:top l (n+1)≤x
     · exact .inl c
     · exact .inr ⟨n,by omega,q,by omega⟩
   · exact .inr ⟨p,by omega,q2⟩
 rcases key l.length (by omega) with q | ⟨p,q⟩
 · rw [Ba] at q;omega
 · exact ⟨p,q⟩
def iI (l:List En) (v:Int):Int:=if sm l < v then 0 else sm l - v
structure Vp (l:List En) (o v:Int):Prop extends Szd l where
 v0:1≤v∧v≤2147483648
 s0:0≤o∧o≤iI l v
theorem Vp.ends {l:List En} {s v:Int} (h:Vp l s v) (hl:0 < l.length):∃ p q:Nat,p < l.length∧q < l.length∧p≤q∧(top l p≤s∧s < top l (p+1))∧(top l q≤qY (s+v) (sm l) - 1∧qY (s+v) (sm l) - 1 < top l (q+1)):=by
 have h1:=h.v0
 have h2:=h.s0
 have h3:1≤sm l:=by
  have:=h.mono (i:=0) (j:=l.length) (by omega) (by omega)
  rw [I8,Ba] at this;omega
 have h4:s < sm l:=by unfold iI at h2;split at h2 <;> omega
 have h5:s+1≤qY (s+v) (sm l)∧qY (s+v) (sm l)≤sm l:=by unfold qY;split <;> omega
 obtain ⟨p,p1,p2,p3⟩:=h.row h2.1 h4
 obtain ⟨q,q1,q2,q3⟩:=h.row (x:=qY (s+v) (sm l) - 1) (by omega) (by omega)
 refine ⟨p,q,p1,q1,?_,⟨p2,p3⟩,q2,q3⟩
 by_cases c:p≤q
 · exact c
 · have:=h.mono (i:=q+1) (j:=p) (by omega) (by omega)
   omega
theorem Vp.seen {l:List En} {s v:Int} (h:Vp l s v) {p q:Nat} (hp:p < l.length) (hq:q < l.length) (h1:top l p≤s∧s < top l (p+1)) (h2:top l q≤qY (s+v) (sm l) - 1∧qY (s+v) (sm l) - 1 < top l (q+1)) {i:Nat} (hi:i < l.length) :
 (top l i < s+v∧s < top l (i+1))↔(p≤i∧i≤q):=by
 have e1:qY (s+v) (sm l)≤s+v:=by unfold qY;split <;> omega
 have hm:=h.rng (i+1)
 have hlt:=h.lt hi
 constructor
 · rintro ⟨a,b⟩
   constructor
   · by_cases c:p≤i
     · exact c
     · have:=h.mono (i:=i+1) (j:=p) (by omega) (by omega);omega
   · by_cases c:i≤q
     · exact c
     · have:=h.mono (i:=q+1) (j:=i) (by omega) (by omega)
       have e2:s+v≤top l i:=by
        unfold qY at h2;split at h2 <;> omega
       omega
 · rintro ⟨a,b⟩
   have m1:=h.mono (i:=i) (j:=q) b (by omega)
   have m2:=h.mono (i:=p+1) (j:=i+1) (by omega) (by omega)
   omega
end Go.D
end
section
namespace Go.D
open Go Go.Pav Go.Pw P
attribute [-simp] List.getElem_cons_drop
variable {C:aI}
structure oz (C:aI):Prop extends jU C where
 f122:C.fns.get 122=some Xd
 f249:C.fns.get 249=some acE
 f250:C.fns.get 250=some Ws
 f246:C.fns.get 246=some Zm
 f247:C.fns.get 247=some ac2
 akI:C.fns.get 411=some adW
 ajU:C.fns.get 412=some acX
 f120:C.fns.get 120=some Qw
 f253:C.fns.get 253=some aeJ
 f327:C.fns.get 327=some Yy
def SzB (l:List En):Prop:=∀ x ∈ l,-9223372036854775808≤x.s∧x.s≤9223372036854775807
def szF:Nat→List En→Int
 | _,[]=>-1
 | i,e::r=>if hOk e.s=true then szF (i+1) r else i
theorem Uj:∀ (l:List En) (i:Nat),decide (0≤szF i l)=l.any (fun e=>!hOk e.s)
 | [],i=>by simp [szF]
 | e::r,i=>by
  rw [szF,List.any_cons]
  cases c:hOk e.s
  · simp
  · simp [Uj r (i+1)]
theorem aax (H:oz C) (x:En):FnW C 250 [aE x]=some (.bool (!hOk x.s)):=by
 rw [aF H.f250 rfl]
 unfold hOk
 by_cases c1:1≤x.s
 · have c1':¬ x.s < 1:=by omega
   by_cases c2:x.s≤2305843009213693952
   · have c2':¬ 2305843009213693952 < x.s:=by omega
     simp [Ws,c1,c1',c2,c2']
   · have c2':2305843009213693952 < x.s:=by omega
     simp [Ws,c1,c1',c2,c2']
 · have c1':x.s < 1:=by omega
   simp [Ws,c1,c1']
theorem Sr (H:oz C) (l:List En) (e:Bool) (hl:l.length≤1000000):∀ n i,n+i=l.length →
 mD C ⟨[(8,.int .i64 i),(7,.int .i64 l.length),(1,.fn 250 []),(0,.ro 6 (l.map eEn) e)],[],0⟩=some (.int .i64 (szF i (l.drop i))):=by
 intro n
 induction n with
 | zero =>
  intro i hi
  simp only [mD];rw [aj nT.eq_1]
  have h1:l.drop i=[]:=List.drop_eq_nil_of_le (by omega)
  have h3:¬ i < l.length:=by omega
  simp (disch:=omega) [aj D9.eq_1,h1,h3,szF]
 | succ n ih =>
  intro i hi
  have h1:i < l.length:=by omega
  have hf:=aax H l[i]
  have:=ih (i+1) (by omega)
  rw [drop_cons h1,szF]
  simp only [aE,eEn] at hf
  cases c:hOk l[i].s
  · rw [if_neg (by simp)]
    simp [c] at hf
    simp only [mD];rw [aj nT.eq_1]
    simp (disch:=omega) [h1,aG,hf,H.inl,ay,H.pp,ppB]
  · rw [if_pos rfl]
    simp [c] at hf
    simp only [mD] at this ⊢;rw [aj nT.eq_1]
    simp at this
    simp (disch:=omega) [h1,aG,hf,H.inl,ay,H.pp,ppB,this]
theorem YE (H:oz C) (l:List En) (e:Bool) (hl:l.length≤1000000):FnW C 249 [.ro 6 (l.map eEn) e,.fn 250 []]=some (.bool (l.any fun e=>!hOk e.s)):=by
 have h:=Sr H l e hl l.length 0 (by simp)
 have key:FnW C 402 [.ro 6 (l.map eEn) e,.fn 250 []]=some (.int .i64 (szF 0 l)):=by
  simp only [mD] at h
  simp at h
  rw [aF H.adq rfl]
  simp [abG,h]
 have h2:=Uj l 0
 rw [aF H.f249 rfl,← h2]
 simp [acE,key,H.inl,ay,H.pp,ppB]
theorem zH (H:oz C) (l:List En) (e:Bool) (hl:l.length≤1000000) (hs:SzB l):FnW C 122 [aL l e]=some (.int .i64 (szE l)):=by
 have h1:=YE H l e hl
 have h2:=Ap H.tojU l e hl hs
 rw [aF H.f122 rfl]
 unfold szE ovE
 generalize tot l=T at *
 by_cases c1:1024 < l.length
 · simp [Xd,c1]
 · cases c2:l.any fun e=>!hOk e.s
   · rw [c2] at h1
     by_cases c3:4611686018427387904 < T <;> simp [Xd,c1,h1,h2,c3,H.inl,ay,H.pp,ppB]
   · rw [c2] at h1
     simp [Xd,c1,h1,h2,H.inl,ay,H.pp,ppB]
def tps (l:List En):List Int:=(List.range (l.length+1)).map (top l)
theorem nK (l:List En):(tps l).length=l.length+1:=by simp [tps]
theorem EX (l:List En) {i:Nat} (h:i < (tps l).length):(tps l)[i]=top l i:=by simp [tps]
theorem VL (H:oz C) (l:List En) (e:Bool) (hz:Szd l):∀ n i,n+i=l.length→∀ G:List Int,G=(List.range (i+1)).map (top l)→G.length=i+1 →
 ES C ⟨[(20,.int .i64 i),(19,.int .i64 l.length),(5,.sl 0 1 0 (l.length+1) (l.length+1) true),(1,.ptr 1 0 0)],[(0,.cells 1 (G.map eI++List.replicate n [.int .i64 0]) true true),(1,.cells 1 [[.ro 6 (l.map eEn) e]] true true)],2⟩ =
  some (.tup [.ro 1 ((tps l).map eI) true,.int .i64 0]):=by
 intro n
 induction n with
 | zero =>
  intro i hi G hG hGl
  have h3:¬ i < l.length:=by omega
  have h6:List.take (l.length+1) (List.map eI G)=List.map eI G:=List.take_of_length_le (by simp;omega)
  have h7:G.length=l.length+1:=by omega
  have h8:tps l=G:=by rw [hG];unfold tps;rw [show i=l.length by omega]
  rw [h8]
  simp only [ES];rw [aj yC.eq_1]
  simp [aj JL.eq_1,h3,h6,h7]
 | succ n ih =>
  intro i hi G hG hGl
  have hn:=hz.n
  have h1:i < l.length:=by omega
  have hr:=hz.small i
  have hr2:=hz.small (i+1)
  have this:=ih (i+1) (by omega) (G++[top l (i+1)]) (by rw [List.range_succ,List.map_append,← hG];rfl) (by simp [hGl])
  have hg:(G.map eI++List.replicate (n+1) [AV.int .i64 0])[i]?=some (eI (top l i)):=by
   rw [List.getElem?_append_left (by simp;omega),List.getElem?_map,hG]
   simp
  have h1b:i < l.length+1:=by omega
  rw [zk h1] at hr2 this
  simp only [ES] at this ⊢;rw [aj yC.eq_1]
  simp at this
  simp (disch:=omega) [h1,h1b,aG,hg,Ag,AO,hGl,this]
theorem EZ (H:oz C) (l:List En) (e:Bool) (hz:Szd l):FnW C 246 [aL l e]=some (.tup [.ro 1 ((tps l).map eI) true,.int .i64 0]):=by
 have hn:=hz.n
 have h1:=zH H l e (by omega) (fun x hx=>by have:=hz.s x hx;omega)
 rw [KD hz] at h1
 have h:=VL H l e hz l.length 0 (by simp) [0] (by simp [I8]) rfl
 have h2:(l.length+1) * 9≤35184372088832:=by omega
 have h3:(l.length:Int)+1=((l.length+1:Nat):Int):=by omega
 rw [aF H.f246 rfl]
 simp only [ES] at h
 simp at h
 simp (disch:=omega) [Zm,h1,h2,aG,List.replicate_succ,h,H.inl,ay,H.pp,ppB]
theorem aaC (H:oz C) (l:List En) (e:Bool) (hl:l.length≤1000000) (hs:SzB l) (hz:szE l≠0):FnW C 246 [aL l e]=some (.tup [.ro 1 [] true,.int .i64 (szE l)]):=by
 have h1:=zH H l e hl hs
 rw [aF H.f246 rfl]
 generalize szE l=E at *
 simp (disch:=omega) [Zm,h1,hz,H.inl,ay,H.pp,ppB]
theorem Y5 (H:oz C) (l:List En) (x:Int) (k:Nat) (hk:k < l.length) (hn:l.length≤1024) :
 FnW C 412 [.int .i64 k,.rop [.ro 1 ((tps l).map eI) true],.rop [.int .i64 x]]=some (.bool (decide (x < top l (k+1)))):=by
 have h1:k+1 < (tps l).length:=by rw [nK];omega
 have h2:=EX l h1
 rw [aF H.ajU rfl]
 simp (disch:=omega) [acX,aG,h1,h2]
theorem OZ (H:oz C) (l:List En) (x:Int) (hz:Szd l) (p:Nat) (hp:p < l.length) (hp1:top l p≤x) (hp2:x < top l (p+1)):∀ (n i j:Nat),j - i≤n→i≤p→p≤j→j≤l.length →
 vZ C ⟨[(6,.int .i64 j),(5,.int .i64 i),(1,.fn 412 [.rop [.ro 1 ((tps l).map eI) true],.rop [.int .i64 x]])],[],0⟩=some (.int .i64 p):=by
 intro n
 induction n with
 | zero =>
  intro i j h1 h2 h3 h4
  have h5:i=p:=by omega
  have h6:j=p:=by omega
  subst h5
  subst h6
  simp only [vZ];rw [aj rW.eq_1]
  simp (disch:=omega) [aj ET.eq_1]
 | succ n ih =>
  intro i j h1 h2 h3 h4
  have hn:=hz.n
  by_cases c:i < j
  · obtain ⟨m,hm⟩:∃ m,m=(i+j) / 2:=⟨_,rfl⟩
    have hk:m < l.length:=by omega
    have hf:=Y5 H l x m hk hn
    have hw:IntKind.i64.wrap ((IntKind.u64.wrap ((i:Int)+j)).fdiv (2 ^ min 1 IntKind.u64.bits))=m:=by
     have e1:(2:Int) ^ min 1 IntKind.u64.bits=2:=by decide
     rw [nI (by omega) (by omega),e1,Int.fdiv_eq_ediv_of_nonneg _ (by omega)]
     have e2:((i:Int)+j) / 2=m:=by omega
     rw [e2,aG (by omega) (by omega)]
    by_cases c2:x < top l (m+1)
    · have h7:p≤m:=by
       by_cases d:p≤m
       · exact d
       · have:=hz.mono (i:=m+1) (j:=p) (by omega) (by omega);omega
      have this:=ih i m (by omega) h2 h7 (by omega)
      rw [decide_eq_true c2] at hf
      simp only [vZ] at this ⊢;rw [aj rW.eq_1]
      try simp at this
      simp (disch:=omega) [c,aG,hw,hf,this,H.inl,ay,H.pp,ppB]
    · have h7:m+1≤p:=by
       by_cases d:m+1≤p
       · exact d
       · have:=hz.mono (i:=p+1) (j:=m+1) (by omega) (by omega);omega
      have this:=ih (m+1) j (by omega) h7 h3 h4
      rw [decide_eq_false c2] at hf
      simp only [vZ] at this ⊢;rw [aj rW.eq_1]
      try simp at this
      simp (disch:=omega) [c,aG,hw,hf,this,H.inl,ay,H.pp,ppB]
  · have h5:i=p:=by omega
    have h6:j=p:=by omega
    subst h5
    subst h6
    simp only [vZ];rw [aj rW.eq_1]
    simp (disch:=omega) [aj ET.eq_1]
theorem Ya (H:oz C) (l:List En) (x:Int) (hz:Szd l) (p:Nat) (hp:p < l.length) (hp1:top l p≤x) (hp2:x < top l (p+1)):FnW C 247 [.ro 1 ((tps l).map eI) true,.int .i64 x]=some (.int .i64 p):=by
 have hn:=hz.n
 have h:=OZ H l x hz p hp hp1 hp2 l.length 0 l.length (by omega) (by omega) (by omega) (by omega)
 have key:FnW C 411 [.int .i64 l.length,.fn 412 [.rop [.ro 1 ((tps l).map eI) true],.rop [.int .i64 x]]]=some (.int .i64 p):=by
  rw [aF H.akI rfl]
  simp only [vZ] at h
  simp at h
  simp [adW,h]
 have h3:((l.length:Int)+1) - 1=l.length:=by omega
 rw [aF H.f247 rfl]
 simp (disch:=omega) [ac2,nK,aG,h3,key,H.inl,ay,H.pp,ppB]
theorem aaq (l:List En) (h:l.length < (tps l).length):(tps l)[l.length]=sm l:=by
 rw [EX,Ba]
def atR (l:List En) (x:Int):AV:=if szE l≠0 then .tup [.int .i64 0,.int .i64 (szE l)] else if x < 0∨sm l≤x then .tup [.int .i64 0,.int .i64 4] else .tup [.int .i64 (rowA l x),.int .i64 0]
theorem ako (H:oz C) (l:List En) (e:Bool) (hl:l.length≤1000000) (hs:SzB l) (x:Int):FnW C 120 [aL l e,.int .i64 x]=some (atR l x):=by
 unfold atR
 by_cases hz0:szE l=0
 · rw [if_neg (by simpa using hz0)]
   have hz:=abw hz0
   have hn:=hz.n
   have h1:=EZ H l e hz
   have h3:((l.length:Int)+1) - 1=l.length:=by omega
   have h4:=aaq l
   have h5':l.length < (tps l).length:=by rw [nK];omega
   have h5:l.length < (tps l).length:=by rw [nK];omega
   rw [aF H.f120 rfl]
   by_cases c1:x < 0
   · rw [if_pos (.inl c1)]
     simp (disch:=omega) [Qw,h1,c1,H.inl,ay,H.pp,ppB]
   · by_cases c2:sm l≤x
     · rw [if_pos (.inr c2)]
       simp (disch:=omega) [Qw,h1,c1,c2,nK,h3,h4,h5',aG,H.inl,ay,H.pp,ppB]
     · rw [if_neg (by omega)]
       obtain ⟨p,p1,p2,p3⟩:=hz.row (by omega:0≤x) (by omega)
       have h6:=Ya H l x hz p p1 p2 p3
       rw [hz.U2 p1 p2 p3]
       simp (disch:=omega) [Qw,h1,c1,c2,nK,h3,h4,h5',h6,aG,H.inl,ay,H.pp,ppB]
 · rw [if_pos hz0]
   have h1:=aaC H l e hl hs hz0
   rw [aF H.f120 rfl]
   generalize szE l=E at *
   simp (disch:=omega) [Qw,h1,hz0,H.inl,ay,H.pp,ppB]
theorem VO (H:oz C) (l:List En) (e:Bool) (hz:Szd l) (j:Nat) (hj:j≤l.length):∀ n i,n+i=j →
 Es C ⟨[(6,.int .i64 i),(5,.int .i64 (top l i)),(1,.int .i64 j),(0,.ro 6 (l.map eEn) e)],[],0⟩=some (.int .i64 (top l j)):=by
 intro n
 induction n with
 | zero =>
  intro i hi
  have h1:i=j:=by omega
  subst h1
  simp only [Es];rw [aj zT.eq_1]
  simp (disch:=omega) [aj JD.eq_1]
 | succ n ih =>
  intro i hi
  have h1:i < l.length:=by omega
  have h2:i < j:=by omega
  have hn:=hz.n
  have hr:=hz.small (i+1)
  have this:=ih (i+1) (by omega)
  rw [zk h1] at this hr
  simp only [Es] at this ⊢;rw [aj zT.eq_1]
  simp at this
  simp (disch:=omega) [h1,h2,aG,this]
theorem acD (H:oz C) (l:List En) (e:Bool) (hz:Szd l) (j:Nat) (hj:j≤l.length):FnW C 253 [.ro 6 (l.map eEn) e,.int .i64 j]=some (.int .i64 (top l j)):=by
 have h:=VO H l e hz j hj j 0 (by simp)
 rw [I8] at h
 rw [aF H.f253 rfl]
 simp only [Es] at h
 try simp at h
 simp [aeJ,h]
theorem NT (H:oz C) (l:List En) (e:Bool) (hz:Szd l) (v:Int) (hv:-9223372036854775808≤sm l - v∧sm l - v≤9223372036854775807):FnW C 327 [.ro 6 (l.map eEn) e,.int .i64 v]=some (.int .i64 (iI l v)):=by
 have h:=acD H l e hz l.length (Nat.le_refl _)
 rw [Ba] at h
 rw [aF H.f327 rfl]
 unfold iI
 by_cases c:sm l < v
 · simp (disch:=omega) [Yy,h,c,aG,H.inl,ay,H.pp,ppB]
 · simp (disch:=omega) [Yy,h,c,aG,H.inl,ay,H.pp,ppB]
end Go.D
end
