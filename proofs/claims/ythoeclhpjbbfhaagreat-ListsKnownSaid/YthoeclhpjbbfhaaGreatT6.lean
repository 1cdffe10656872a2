/- Part of the theory that the claims of this work use: D06, D07, D08, D09, D10, D11, D12, D13, D14, D15, D16, D17, D18, D19, D20, D21, D22, D23, V600, D24, D25, D26, D27, D28, D29, D30, D31, D32, D34, D35, D36. No conditions of its own. -/
import Derived.Test.YthoeclhpjbbfhaaGreatT5
set_option linter.unusedVariables false
set_option linter.unusedSimpArgs false
set_option maxHeartbeats 4000000
set_option maxRecDepth 10000
section
namespace Go.D
open Go Go.Pav Go.Pw P
attribute [-simp] List.getElem_cons_drop
variable {C:WProg}
mutual
/-- The specification's count, with so many levels. -/
def rc:Nd→Nat→Nat
 | _,0=>1000
 | ⟨k,t,y,a,ae,x,ch,ce⟩,lv+1=>if alone ⟨k,t,y,a,ae,x,ch,ce⟩=true then rcs ch lv 1 else 1000
def rcs:List Nd→Nat→Nat→Nat
 | [],_,c=>c
 | m::r,lv,c=>if c≤64 then rcs r lv (c+rc m lv) else c
end
theorem zG (n:Nd):rc n 0=1000:=by cases n;rw [rc]
theorem yS (n:Nd) (lv:Nat):rc n (lv+1)=if alone n=true then rcs n.ch lv 1 else 1000:=by cases n;rw [rc]
theorem kS:∀ (l:List Nd) (lv c:Nat),c≤rcs l lv c
 | [],lv,c=>by rw [rcs];exact Nat.le_refl _
 | m::r,lv,c=>by
  rw [rcs]
  split
  · have:=kS r lv (c+rc m lv);omega
  · exact Nat.le_refl _
theorem yX (n:Nd) (lv:Nat):1≤rc n lv:=by
 cases lv with
 | zero=>rw [zG];omega
 | succ lv =>
  rw [yS]
  split
  · exact kS _ _ _
  · omega
mutual
theorem uV:∀ (n:Nd) (lv:Nat),rc n lv≤1000+64 * lv
 | ⟨k,t,y,a,ae,x,ch,ce⟩,0=>by rw [rc];omega
 | ⟨k,t,y,a,ae,x,ch,ce⟩,lv+1=>by
  rw [rc]
  split
  · have:=pF ch lv 1 (by omega);omega
  · omega
theorem pF:∀ (l:List Nd) (lv c:Nat),c≤1064+64 * lv→rcs l lv c≤1064+64 * lv
 | [],lv,c,h=>by rw [rcs];exact h
 | m::r,lv,c,h=>by
  rw [rcs]
  split
  · have h2:=uV m lv
    exact pF r lv _ (by omega)
  · exact h
end
mutual
theorem vN:∀ (n:Nd) (lv L c d:Nat),lv+L=7→c≤64→((wk n L (c,d)).1=true→(wk n L (c,d)).2.1=c+rc n lv∧c+rc n lv≤64)∧((wk n L (c,d)).1=false→64 < c+rc n lv)
 | ⟨k,t,y,a,ae,x,ch,ce⟩,lv,L,c,d,h1,h2=>by
  have hge:=yX ⟨k,t,y,a,ae,x,ch,ce⟩ lv
  rw [wk]
  by_cases q:6 < L∨64 < c+1∨alone ⟨k,t,y,a,ae,x,ch,ce⟩=false
  · rw [if_pos q]
    refine ⟨fun r=>by simp at r,fun _=>?_⟩
    rcases q with q | q | q
    · have:lv=0:=by omega
      subst this
      rw [rc];omega
    · omega
    · cases lv with
      | zero=>rw [rc];omega
      | succ lv=>rw [rc,if_neg (by simp [q])];omega
  · rw [if_neg q]
    cases lv with
    | zero=>omega
    | succ lv =>
     rw [rc,if_pos (by simpa using fun r=>q (.inr (.inr r)))]
     exact qQ ch lv (L+1) c 1 (max d L) (by omega) (by omega)
theorem qQ:∀ (l:List Nd) (lv L g c d:Nat),lv+L=7→g+c≤64→((wks l L (g+c,d)).1=true→(wks l L (g+c,d)).2.1=g+rcs l lv c∧g+rcs l lv c≤64)∧((wks l L (g+c,d)).1=false→64 < g+rcs l lv c)
 | [],lv,L,g,c,d,h1,h2=>by
  rw [wks,rcs];exact ⟨fun _=>⟨rfl,h2⟩,fun r=>by simp at r⟩
 | m::r,lv,L,g,c,d,h1,h2=>by
  have hm:=vN m lv L (g+c) d h1 h2
  have hr:rcs (m::r) lv c=rcs r lv (c+rc m lv):=by rw [rcs,if_pos (by omega)]
  rw [wks,hr]
  generalize wk m L (g+c,d)=R at *
  obtain ⟨b,c',d'⟩:=R
  cases b with
  | true =>
   obtain ⟨e1,e2⟩:=hm.1 rfl
   rw [if_pos rfl]
   simp only at e1
   rw [e1,Nat.add_assoc]
   exact qQ r lv L g (c+rc m lv) d' h1 (by omega)
  | false =>
   have e:=hm.2 rfl
   rw [if_neg (by simp)]
   refine ⟨fun q=>by simp at q,fun _=>?_⟩
   have:=kS r lv (c+rc m lv)
   omega
end
theorem qI (n:Nd):cnt n=if 64 < rc n 6 then 0 else rc n 6:=by
 have h:=vN n 6 1 0 0 rfl (by omega)
 unfold cnt
 generalize wk n 1 (0,0)=R at *
 obtain ⟨b,c,d⟩:=R
 cases b with
 | true =>
  obtain ⟨e1,e2⟩:=h.1 rfl
  simp only at e1
  rw [if_pos rfl,if_neg (by omega)];simp only;omega
 | false =>
  have e:=h.2 rfl
  rw [if_neg (by simp),if_pos (by omega)]
theorem jk (H:jR C) (n:Nd) (lv:Nat) (hlv:lv≤5) (hl:n.ch.length≤16) (ih:∀ m ∈ n.ch,FnW C 520 [.agg m.c,.int .i64 lv]=some (.int .i64 (rc m lv))):∀ j i,j+i=n.ch.length→∀ c,c≤1064+64 * lv →
 w520_K0 C ⟨[(6,.int .i64 i),(5,.int .i64 c),(2,.ptr 0 0 0),(1,.int .i64 (lv+1:Nat))],hp1 n,1⟩=some (.int .i64 (rcs (n.ch.drop i) lv c)):=by
 intro j
 induction j with
 | zero =>
  intro i hi c hc
  simp only [w520_K0];rw [ck_unf w520_B0.eq_1]
  have h1:n.ch.drop i=[]:=List.drop_eq_nil_of_le (by omega)
  have h3:¬ i < n.ch.length:=by omega
  rw [h1,rcs]
  simp [ck_unf w520_c0.eq_1,h3]
 | succ j ihj =>
  intro i hi c hc
  have h1:i < n.ch.length:=by omega
  have hm:=ih _ (List.getElem_mem h1)
  have hle:=uV n.ch[i] lv
  rw [drop_cons h1,rcs]
  by_cases c1:c≤64
  · have:=ihj (i+1) (by omega) (c+rc n.ch[i] lv) (by omega)
    rw [if_pos c1]
    have c2:(c:Int)≤64:=by omega
    simp only [w520_K0] at this ⊢;rw [ck_unf w520_B0.eq_1]
    simp at this
    simp (disch:=omega) [h1,c1,c2,ak,hm,H.inl,inlB,H.pp,ppB,this]
  · rw [if_neg c1]
    have c2:¬ (c:Int)≤64:=by omega
    simp only [w520_K0];rw [ck_unf w520_B0.eq_1]
    simp (disch:=omega) [ck_unf w520_c0.eq_1,h1,c1,c2]
theorem jF (H:jR C) (n:Nd) (ih:∀ m ∈ n.ch,∀ lv:Nat,lv≤6→FnW C 520 [.agg m.c,.int .i64 lv]=some (.int .i64 (rc m lv))) (lv:Nat) (hlv:lv≤6):FnW C 520 [.agg n.c,.int .i64 lv]=some (.int .i64 (rc n lv)):=by
 have ho:=yK H n
 rw [fnW_eq H.xq rfl]
 cases lv with
 | zero=>rw [zG];simp [w520]
 | succ lv =>
  rw [yS]
  have c1:¬ (lv:Int)+1 < 1:=by omega
  cases ha:alone n with
  | false=>rw [ha] at ho;simp [w520,c1,ho,H.inl,inlB,H.pp,ppB]
  | true =>
   rw [ha] at ho
   have hl:n.ch.length≤16:=by
    unfold alone at ha
    split at ha
    · simp at ha;rw [ha.2];simp
    · simp at ha;omega
   have hr:=jk H n lv (by omega) hl (fun m hm=>ih m hm lv (by omega)) n.ch.length 0 (by simp) 1 (by omega)
   rw [List.drop_zero] at hr
   simp only [w520_K0] at hr
   simp at hr
   simp [w520,c1,ho,H.inl,inlB,H.pp,ppB,hr]
theorem gW (H:jR C) (n:Nd) (lv:Nat) (hlv:lv≤6):FnW C 520 [.agg n.c,.int .i64 lv]=some (.int .i64 (rc n lv)) :=
 jF H n (fun m hm lv hlv=>gW H m lv hlv) lv hlv
termination_by SizeOf.sizeOf n
decreasing_by
 have:=List.sizeOf_lt_of_mem hm
 have:=dL n
 omega
theorem gY (H:jR C) (n:Nd):FnW C 442 [.agg n.c]=some (.int .i64 (cnt n)):=by
 have h:=gW H n 6 (by omega)
 rw [fnW_eq H.yA rfl,qI]
 generalize rc n 6=R at *
 simp at h
 by_cases c:64 < R
 · have c1:64 < (R:Int):=by omega
   simp [w442,H.inl,inlB,H.pp,ppB,h,c,c1]
 · have c1:¬ 64 < (R:Int):=by omega
   simp [w442,H.inl,inlB,H.pp,ppB,h,c,c1]
theorem ny (H:jR C) (n:Nd):FnW C 441 [.agg n.c]=some (.int .i64 (if cnt n=0 then 14 else 0)):=by
 have h:=gY H n
 rw [fnW_eq H.xB rfl]
 by_cases c:cnt n=0
 · simp [w441,H.inl,inlB,H.pp,ppB,h,c]
 · simp [w441,H.inl,inlB,H.pp,ppB,h,c]
end Go.D
end
section
namespace Go.D
open Go Go.Pav Go.Pw P
attribute [-simp] List.getElem_cons_drop
variable {C:WProg}
structure Sl where
 n:Bs
 f:Int
 v:Bs
@[simp] def eSl (s:Sl):List AV:=[.str s.n,.int .u8 s.f,.str s.v]
structure Pt where
 k:Int
 t:Bs
 y:Bs
 s:List Sl
 se:Bool
 x:Bs
 ch:List Pt
 ce:Bool
mutual
def Pt.c:Pt→List AV
 | ⟨k,t,y,s,se,x,ch,ce⟩=>[.int .u8 k,.str t,.str y,.ro 3 (s.map eSl) se,.str x,.ro 6 (Pt.cs ch) ce]
def Pt.cs:List Pt→List (List AV)
 | []=>[]
 | n::r=>n.c::Pt.cs r
end
theorem Pt.jy:∀ l:List Pt,Pt.cs l=l.map Pt.c
 | []=>rfl
 | n::r=>by rw [Pt.cs,Pt.jy r];rfl
theorem Pt.aJ (n:Pt):n.c=[.int .u8 n.k,.str n.t,.str n.y,.ro 3 (n.s.map eSl) n.se,.str n.x,.ro 6 (n.ch.map Pt.c) n.ce]:=by
 cases n;rw [Pt.c,Pt.jy]
@[simp] theorem Pt.zh (n:Pt):n.c.length=6:=by rw [Pt.aJ];rfl
@[simp] theorem Pt.vX (n:Pt):n.c.take 6=n.c:=List.take_of_length_le (by simp)
@[simp] theorem Pt.c0 (n:Pt):n.c[0]?=some (.int .u8 n.k):=by rw [Pt.aJ];rfl
@[simp] theorem Pt.c1 (n:Pt):n.c[1]?=some (.str n.t):=by rw [Pt.aJ];rfl
@[simp] theorem Pt.c2 (n:Pt):n.c[2]?=some (.str n.y):=by rw [Pt.aJ];rfl
@[simp] theorem Pt.c3 (n:Pt):n.c[3]?=some (.ro 3 (n.s.map eSl) n.se):=by rw [Pt.aJ];rfl
@[simp] theorem Pt.c4 (n:Pt):n.c[4]?=some (.str n.x):=by rw [Pt.aJ];rfl
@[simp] theorem Pt.c5 (n:Pt):n.c[5]?=some (.ro 6 (n.ch.map Pt.c) n.ce):=by rw [Pt.aJ];rfl
@[simp] theorem Pt.g0 (n:Pt) (h:0 < n.c.length):n.c[0]=.int .u8 n.k:=Option.some.inj ((List.getElem?_eq_getElem h).symm.trans n.c0)
@[simp] theorem Pt.g1 (n:Pt) (h:1 < n.c.length):n.c[1]=.str n.t:=Option.some.inj ((List.getElem?_eq_getElem h).symm.trans n.c1)
@[simp] theorem Pt.g2 (n:Pt) (h:2 < n.c.length):n.c[2]=.str n.y:=Option.some.inj ((List.getElem?_eq_getElem h).symm.trans n.c2)
@[simp] theorem Pt.g3 (n:Pt) (h:3 < n.c.length):n.c[3]=.ro 3 (n.s.map eSl) n.se:=Option.some.inj ((List.getElem?_eq_getElem h).symm.trans n.c3)
@[simp] theorem Pt.g4 (n:Pt) (h:4 < n.c.length):n.c[4]=.str n.x:=Option.some.inj ((List.getElem?_eq_getElem h).symm.trans n.c4)
@[simp] theorem Pt.g5 (n:Pt) (h:5 < n.c.length):n.c[5]=.ro 6 (n.ch.map Pt.c) n.ce:=Option.some.inj ((List.getElem?_eq_getElem h).symm.trans n.c5)
@[simp] theorem Pt.hd (n:Pt):n.c.head?=some (.int .u8 n.k):=by rw [Pt.aJ];rfl
@[simp] theorem Pt.y7 (n:Pt):hasPtrL n.c=false:=by rw [Pt.aJ];rfl
@[simp] theorem Pt.yV (n:Pt) (h:WHeap) (k:Nat):mapO (frzW h (k+1)) n.c=some n.c:=by rw [Pt.aJ];rfl
@[simp] theorem Pt.sD (n:Pt) (h:WHeap) (k:Nat):n.c.flatMap (reachW h (k+1))=[]:=by rw [Pt.aJ];rfl
@[simp] theorem Pt.zK (n:Pt) (π:Nat→Option Nat):renL π n.c=some n.c:=by rw [Pt.aJ];rfl
@[simp] theorem Pt.wu (n:Pt):refsL n.c=[]:=by rw [Pt.aJ];rfl
@[simp] theorem Pt.zH (n:Pt):n.c.all isC=true:=by rw [Pt.aJ];rfl
@[simp] theorem Pt.yu (n:Pt):n.c.all AV.cell=true:=by rw [Pt.aJ];rfl
theorem Pt.dL (n:Pt):SizeOf.sizeOf n.ch < SizeOf.sizeOf n:=by cases n;simp;omega
def aZ:Option Bs→List Sl→Bool
 | _,[]=>true
 | p,s::r=>isName s.n&&decide (s.f≤3)&&isText s.v&&(decide (s.f≤0)||decide (s.v=[]))&&after p s.n&&aZ (some s.n) r
def bW (p:Pt):Bool :=
 if p.k=1 then (decide (p.y=[])||isName p.y)&&decide (p.ch.length≤16)&&isName p.t&&(decide (p.s.length≤8)&&aZ none p.s)&&decide (p.x=[])
 else if p.k=5 then isName p.t&&(decide (p.s.length≤8)&&aZ none p.s)&&decide (p.y=[])&&decide (p.x=[])&&decide (p.ch=[])
 else if p.k=2 then isText p.x&&decide (p.t=[])&&decide (p.y=[])&&decide (p.s=[])&&decide (p.ch=[])
 else decide (p.k=3∨p.k=4)&&decide (p.t=[])&&decide (p.y=[])&&decide (p.x=[])&&decide (p.s=[])&&decide (p.ch=[])
structure fM (C:WProg):Prop extends jl C where
 vZ:C.fns.get 581=some w581
 wJ:C.fns.get 579=some w579
 yO:C.fns.get 585=some w585
 wY:C.fns.get 549=some w549
 xH:C.fns.get 502=some w502
 wV:C.fns.get 503=some w503
 wR:C.fns.get 548=some w548
 yw:C.fns.get 404=some w404
 f231:C.fns.get 231=some w231
theorem je (n:Nd) (h:n.ch=[]):cnt n=if alone n=true then 1 else 0:=by
 rw [qI,yS,h,rcs]
 cases alone n <;> simp
theorem dK (H:fM C) (s:Bs):FnW C 581 [.str s]=some (.bool (isName s)):=by
 have h:FnW C 439 [.agg [.int .u8 1,.str s,.str [],.ro 2 [] true,.str [],.ro 6 [] true]]=_:=jM H.tojl ⟨1,s,[],[],true,[],[],true⟩
 rw [je _ rfl] at h
 have e:alone ⟨1,s,[],[],true,[],[],true⟩=isName s:=by unfold alone;simp [atOk,aQ]
 rw [e] at h
 rw [fnW_eq H.vZ rfl]
 cases q:isName s <;> rw [q] at h <;> simp at h <;> simp [w581,H.inl,inlB,H.pp,ppB,h]
theorem fA (H:fM C) (s:Bs):FnW C 579 [.str s]=some (.bool (isText s)):=by
 have h:FnW C 439 [.agg [.int .u8 2,.str [],.str [],.ro 2 [] true,.str s,.ro 6 [] true]]=_:=jM H.tojl ⟨2,[],[],[],true,s,[],true⟩
 rw [je _ rfl] at h
 have e:alone ⟨2,[],[],[],true,s,[],true⟩=isText s:=by unfold alone;simp
 rw [e] at h
 rw [fnW_eq H.wJ rfl]
 cases q:isText s <;> rw [q] at h <;> simp at h <;> simp [w579,H.inl,inlB,H.pp,ppB,h]
theorem kR (H:fM C) (l:List Sl) (e:Bool) (hl:l.length≤1000000):∀ n i,n+i=l.length →
 w585_K0 C ⟨[(10,.int .i64 i),(9,.int .i64 l.length),(8,.ro 3 (l.map eSl) e),(0,.ro 3 (l.map eSl) e)],[],0⟩ =
  some (.bool (aZ (if i=0 then none else (l[i - 1]?).map Sl.n) (l.drop i))):=by
 intro n
 induction n with
 | zero =>
  intro i hi
  simp only [w585_K0];rw [ck_unf w585_B0.eq_1]
  have h1:l.drop i=[]:=List.drop_eq_nil_of_le (by omega)
  have h3:¬ i < l.length:=by omega
  simp [ck_unf w585_c0.eq_1,h1,h3,aZ]
 | succ n ih =>
  intro i hi
  have h1:i < l.length:=by omega
  have hb:=dK H l[i].n
  have hc:=fA H l[i].v
  have:=ih (i+1) (by omega)
  rw [if_neg (by omega),show i+1 - 1=i from rfl,List.getElem?_eq_getElem h1] at this
  rw [drop_cons h1,aZ]
  simp only [w585_K0] at this ⊢;rw [ck_unf w585_B0.eq_1]
  simp only [Option.map_some] at this
  generalize aZ (some l[i].n) (l.drop (i+1))=R at *
  cases q1:isName l[i].n
  · rw [q1] at hb
    simp (disch:=omega) [h1,ak,hb,H.inl,inlB,H.pp,ppB]
  · rw [q1] at hb
    by_cases f3:l[i].f≤3
    · have f3':¬ 3 < l[i].f:=by omega
      cases q2:isText l[i].v
      · rw [q2] at hc
        simp (disch:=omega) [h1,ak,hb,hc,H.inl,inlB,H.pp,ppB,f3,f3']
      · rw [q2] at hc
        by_cases f0:0 < l[i].f∧¬ l[i].v=[]
        · have f1:¬ l[i].f≤0:=by omega
          simp (disch:=omega) [h1,ak,hb,hc,H.inl,inlB,H.pp,ppB,f3,f3',f0.1,f0.2,f1]
        · have key:(0 < l[i].f∧l[i].v=[])∨¬ 0 < l[i].f:=by
           by_cases a:0 < l[i].f
           · exact .inl ⟨a,Classical.byContradiction fun b=>f0 ⟨a,b⟩⟩
           · exact .inr a
          cases i with
          | zero =>
           simp at this
           rcases key with ⟨a,b⟩ | a
           · have b':=eq_true b
             simp (disch:=omega) [h1,ak,hb,hc,H.inl,inlB,H.pp,ppB,f3,f3',a,b',this,after]
           · have a':l[0].f≤0:=by omega
             simp (disch:=omega) [h1,ak,hb,hc,H.inl,inlB,H.pp,ppB,f3,f3',a,a',this,after]
          | succ i =>
           have h4:i < l.length:=by omega
           have h5:(i:Int)+1 < l.length:=by omega
           simp at this
           by_cases q3:l[i].n < l[i+1].n
           · have q4:¬ l[i+1].n≤l[i].n:=List.not_le.2 q3
             rcases key with ⟨a,b⟩ | a
             · have b':=eq_true b
               simp (disch:=omega) [h1,h4,h5,ak,hb,hc,H.inl,inlB,H.pp,ppB,f3,f3',a,b',this,after,fE,q3,q4]
             · have a':l[i+1].f≤0:=by omega
               simp (disch:=omega) [h1,h4,h5,ak,hb,hc,H.inl,inlB,H.pp,ppB,f3,f3',a,a',this,after,fE,q3,q4]
           · have q4:l[i+1].n≤l[i].n:=List.not_lt.1 q3
             rcases key with ⟨a,b⟩ | a
             · have b':=eq_true b
               simp (disch:=omega) [h1,h4,h5,ak,hb,hc,H.inl,inlB,H.pp,ppB,f3,f3',a,b',this,after,fE,q3,q4]
             · have a':l[i+1].f≤0:=by omega
               simp (disch:=omega) [h1,h4,h5,ak,hb,hc,H.inl,inlB,H.pp,ppB,f3,f3',a,a',this,after,fE,q3,q4]
    · have f3':3 < l[i].f:=by omega
      simp (disch:=omega) [h1,ak,hb,H.inl,inlB,H.pp,ppB,f3,f3']
theorem rV (H:fM C) (l:List Sl) (e:Bool):FnW C 585 [.ro 3 (l.map eSl) e]=some (.bool (decide (l.length≤8)&&aZ none l)):=by
 rw [fnW_eq H.yO rfl]
 by_cases c:l.length≤8
 · have c1:¬ 8 < (l.length:Int):=by omega
   have h:=kR H l e (by omega) l.length 0 (by simp)
   rw [List.drop_zero,if_pos rfl] at h
   generalize aZ none l=R at *
   simp only [w585_K0] at h
   simp at h
   simp [w585,c,c1,h]
 · have c1:8 < (l.length:Int):=by omega
   simp [w585,c,c1]
end Go.D
end
section
namespace Go.D
open Go Go.Pav Go.Pw P
attribute [-simp] List.getElem_cons_drop
variable {C:WProg}
theorem nO (H:fM C) (p:Pt):FnW C 549 [.rop p.c]=some (.bool (bW p)):=by
 obtain ⟨k,t,y,s,se,x,ch,ce⟩:=p
 rw [fnW_eq H.wY rfl,Pt.aJ]
 simp only []
 unfold bW
 simp only []
 have ht:=dK H t
 have hy:=dK H y
 have hx:=fA H x
 have hs:=rV H s se
 generalize isName t=T at *
 generalize isText x=X at *
 generalize (decide (s.length≤8)&&aZ none s)=S at *
 by_cases k1:k=1
 · rw [if_pos k1]
   by_cases c2:y=[]
   · subst c2
     by_cases c5:ch.length≤16
     · have c7:¬ 16 < (ch.length:Int):=by omega
       cases T
       · simp [w549,k1,ht,hs,H.inl,inlB,H.pp,ppB,c5,c7]
       · cases S
         · simp [w549,k1,ht,hs,H.inl,inlB,H.pp,ppB,c5,c7]
         · by_cases c3:x=[] <;> simp [w549,k1,ht,hs,H.inl,inlB,H.pp,ppB,c3,c5,c7]
     · have c7:16 < (ch.length:Int):=by omega
       simp [w549,k1,ht,hs,H.inl,inlB,H.pp,ppB,c5,c7]
   · cases q2:isName y
     · rw [q2] at hy;simp [w549,k1,hy,H.inl,inlB,H.pp,ppB,c2]
     · rw [q2] at hy
       by_cases c5:ch.length≤16
       · have c7:¬ 16 < (ch.length:Int):=by omega
         cases T
         · simp [w549,k1,ht,hy,hs,H.inl,inlB,H.pp,ppB,c2,c5,c7]
         · cases S
           · simp [w549,k1,ht,hy,hs,H.inl,inlB,H.pp,ppB,c2,c5,c7]
           · by_cases c3:x=[] <;> simp [w549,k1,ht,hy,hs,H.inl,inlB,H.pp,ppB,c2,c3,c5,c7]
       · have c7:16 < (ch.length:Int):=by omega
         simp [w549,k1,ht,hy,hs,H.inl,inlB,H.pp,ppB,c2,c5,c7]
 · rw [if_neg k1]
   by_cases k5:k=5
   · rw [if_pos k5]
     cases T
     · simp [w549,k5,ht,hs,H.inl,inlB,H.pp,ppB]
     · cases S
       · simp [w549,k5,ht,hs,H.inl,inlB,H.pp,ppB]
       · by_cases c2:y=[]
         · by_cases c3:x=[]
           · by_cases c4:ch=[]
             · simp [w549,k5,ht,hs,H.inl,inlB,H.pp,ppB,c2,c3,c4]
             · simp [w549,k5,ht,hs,H.inl,inlB,H.pp,ppB,c2,c3,c4]
           · simp [w549,k5,ht,hs,H.inl,inlB,H.pp,ppB,c2,c3]
         · simp [w549,k5,ht,hs,H.inl,inlB,H.pp,ppB,c2]
   · rw [if_neg k5]
     by_cases k2:k=2
     · rw [if_pos k2]
       cases X
       · simp [w549,k2,hx,H.inl,inlB,H.pp,ppB]
       · by_cases c1:t=[]
         · by_cases c2:y=[]
           · by_cases c3:s=[]
             · by_cases c4:ch=[]
               · simp [w549,k2,hx,H.inl,inlB,H.pp,ppB,c1,c2,c3,c4]
               · simp [w549,k2,hx,H.inl,inlB,H.pp,ppB,c1,c2,c3,c4]
             · simp [w549,k2,hx,H.inl,inlB,H.pp,ppB,c1,c2,c3]
           · simp [w549,k2,hx,H.inl,inlB,H.pp,ppB,c1,c2]
         · simp [w549,k2,hx,H.inl,inlB,H.pp,ppB,c1]
     · rw [if_neg k2]
       by_cases k34:k=3∨k=4
       · rcases k34 with k3 | k4
         · by_cases c1:t=[]
           · by_cases c2:y=[]
             · by_cases c0:x=[]
               · by_cases c3:s=[]
                 · by_cases c4:ch=[]
                   · simp [w549,k3,H.inl,inlB,H.pp,ppB,c1,c2,c0,c3,c4]
                   · simp [w549,k3,H.inl,inlB,H.pp,ppB,c1,c2,c0,c3,c4]
                 · simp [w549,k3,H.inl,inlB,H.pp,ppB,c1,c2,c0,c3]
               · simp [w549,k3,H.inl,inlB,H.pp,ppB,c1,c2,c0]
             · simp [w549,k3,H.inl,inlB,H.pp,ppB,c1,c2]
           · simp [w549,k3,H.inl,inlB,H.pp,ppB,c1]
         · by_cases c1:t=[]
           · by_cases c2:y=[]
             · by_cases c0:x=[]
               · by_cases c3:s=[]
                 · by_cases c4:ch=[]
                   · simp [w549,k4,H.inl,inlB,H.pp,ppB,c1,c2,c0,c3,c4]
                   · simp [w549,k4,H.inl,inlB,H.pp,ppB,c1,c2,c0,c3,c4]
                 · simp [w549,k4,H.inl,inlB,H.pp,ppB,c1,c2,c0,c3]
               · simp [w549,k4,H.inl,inlB,H.pp,ppB,c1,c2,c0]
             · simp [w549,k4,H.inl,inlB,H.pp,ppB,c1,c2]
           · simp [w549,k4,H.inl,inlB,H.pp,ppB,c1]
       · have k3:¬ k=3:=fun q=>k34 (.inl q)
         have k4:¬ k=4:=fun q=>k34 (.inr q)
         simp [w549,k1,k2,k3,k4,k5,H.inl,inlB,H.pp,ppB]
mutual
/-- The walk below a part: whether it ends well, how many parts. -/
def tk:Pt→Nat→Nat→Bool × Nat
 | ⟨k,t,y,s,se,x,ch,ce⟩,lv,c=>if 6 < lv∨64 < c+1∨bW ⟨k,t,y,s,se,x,ch,ce⟩=false then (false,c+1) else tks ch (lv+1) (c+1)
def tks:List Pt→Nat→Nat→Bool × Nat
 | [],_,c=>(true,c)
 | m::r,lv,c=>if (tk m lv c).1=true then tks r lv (tk m lv c).2 else (false,(tk m lv c).2)
end
theorem vk (p:Pt) (lv c:Nat):tk p lv c=if 6 < lv∨64 < c+1∨bW p=false then (false,c+1) else tks p.ch (lv+1) (c+1):=by cases p;rw [tk]
mutual
theorem vM:∀ (p:Pt) (lv c:Nat),lv≤7→c≤64→(tk p lv c).1=true→(tk p lv c).2≤64
 | ⟨k,t,y,s,se,x,ch,ce⟩,lv,c,h1,h2=>by
  rw [tk]
  split
  · exact fun q=>by simp at q
  · rename_i h
    exact pG ch (lv+1) (c+1) (by omega) (by omega)
theorem pG:∀ (l:List Pt) (lv c:Nat),lv≤7→c≤64→(tks l lv c).1=true→(tks l lv c).2≤64
 | [],lv,c,h1,h2=>by rw [tks];exact fun _=>h2
 | m::r,lv,c,h1,h2=>by
  have h4:=vM m lv c h1 h2
  rw [tks]
  split
  · rename_i h
    exact pG r lv _ h1 (h4 h)
  · exact fun q=>by simp at q
end
abbrev hpT (c:Nat):WHeap:=[(0,.cells 1 [[.fn 503 []]] true true),(7,.cells 1 [[.int .i64 c]] true true),(9,.cells 1 [[.fn 548 [.ptr 7 0 0,.ptr 0 0 0,.ptr 9 0 0]]] true false)]
def lK (C:WProg) (p:Pt):Prop:=∀ (lv c n:Nat),10≤n→c≤64→lv≤7 →
 ∃ n',RnW C 548 [.rop p.c,.int .i64 lv,.ptr 7 0 0,.ptr 0 0 0,.ptr 9 0 0] (hpT c) n=some (.bool (tk p lv c).1,hpT (tk p lv c).2,n')
theorem lC (H:fM C) (p:Pt) (lv n:Nat) (hn:10≤n) (hlv:lv≤6) (hl:p.ch.length≤16) (ih:∀ m ∈ p.ch,lK C m):∀ j i,j+i=p.ch.length→∀ c,c≤64 →
 ∃ n',CK C n (fnEndW [.tmp 7]) [.sq w548_L0,.bk 0 ⟨true,[],[]⟩,.sq w548_c0] w548_B0 ⟨[(30,.int .i64 i),(29,.int .i64 p.ch.length),(4,.ptr 9 0 0),(1,.int .i64 lv),(0,.rop p.c)],hpT c,n⟩ =
  some (.bool (tks (p.ch.drop i) (lv+1) c).1,hpT (tks (p.ch.drop i) (lv+1) c).2,n'):=by
 have n0:0 < n:=by omega
 have n1:7 < n:=by omega
 have n2:9 < n:=by omega
 intro j
 induction j with
 | zero =>
  intro i hi c hc
  have h1:p.ch.drop i=[]:=List.drop_eq_nil_of_le (by omega)
  have h3:¬ i < p.ch.length:=by omega
  rw [h1,tks,ck_unf w548_B0.eq_1]
  refine ⟨?_,?_⟩
  rotate_left
  · simp (disch:=omega) [ck_unf w548_c0.eq_1,n0,n1,n2,h3]
    rfl
 | succ j ihj =>
  intro i hi c hc
  have h1:i < p.ch.length:=by omega
  obtain ⟨n',hw⟩:=ih _ (List.getElem_mem h1) (lv+1) c (n+1+1+1+11) (by omega) hc (by omega)
  have hb:=vM p.ch[i] (lv+1) c (by omega) hc
  rw [drop_cons h1,tks]
  generalize hR:tk p.ch[i] (lv+1) c=R at *
  obtain ⟨r,c'⟩:=R
  cases r with
  | true =>
   obtain ⟨n2',hw2⟩:=ihj (i+1) (by omega) c' (hb rfl)
   refine ⟨n2',?_⟩
   rw [if_pos rfl]
   rw [ck_unf w548_B0.eq_1]
   simp at hw hw2
   simp (disch:=omega) [ak,H.inl,inlB,H.pp,ppB,n0,n1,n2,h1,hw,hw2]
  | false =>
   rw [if_neg (by simp)]
   rw [ck_unf w548_B0.eq_1]
   simp at hw
   refine ⟨?_,?_⟩
   rotate_left
   · simp (disch:=omega) [ak,H.inl,inlB,H.pp,ppB,n0,n1,n2,h1,hw]
     rfl
theorem dZ {p:Pt} (h:bW p=true):p.ch.length≤16:=by
 unfold bW at h
 split at h
 · simp at h;omega
 · split at h
   · simp at h;rw [h.2];simp
   · split at h
     · simp at h;rw [h.2];simp
     · simp at h;rw [h.2];simp
theorem jU (H:fM C) (p:Pt) (ih:∀ m ∈ p.ch,lK C m):lK C p:=by
 intro lv c n hn hc hlv
 rw [aS (args:=[.rop p.c,.int .i64 lv,.ptr 7 0 0,.ptr 0 0 0,.ptr 9 0 0]) H.wR rfl (hpT c) n,vk]
 have ha:=nO H p
 have hu:FnW C 503 [.rop p.c]=some (.tup []):=by rw [fnW_eq H.wV rfl];simp [w503]
 have n0:0 < n:=by omega
 have n1:7 < n:=by omega
 have n2:9 < n:=by omega
 by_cases b1:6 < lv
 · rw [if_pos (.inl b1)]
   refine ⟨?_,?_⟩
   rotate_left
   · simp (disch:=omega) [w548,ak,H.inl,inlB,H.pp,ppB,b1,n0,n1,n2]
     rfl
 · by_cases b2:64 < c+1
   · rw [if_pos (.inr (.inl b2))]
     have b2':64 < (c:Int)+1:=by omega
     refine ⟨?_,?_⟩
     rotate_left
     · simp (disch:=omega) [w548,ak,H.inl,inlB,H.pp,ppB,b1,b2',n0,n1,n2]
       rfl
   · have b2':¬ 64 < (c:Int)+1:=by omega
     cases b3:bW p with
     | false =>
      rw [if_pos (.inr (.inr rfl))]
      rw [b3] at ha
      refine ⟨?_,?_⟩
      rotate_left
      · simp (disch:=omega) [w548,ak,H.inl,inlB,H.pp,ppB,b1,b2',ha,n0,n1,n2]
        rfl
     | true =>
      rw [if_neg (by simp;omega)]
      have hl:=dZ b3
      rw [b3] at ha
      obtain ⟨n',hw⟩:=lC H p lv n hn (by omega) hl ih p.ch.length 0 (by simp) (c+1) (by omega)
      refine ⟨n',?_⟩
      rw [List.drop_zero] at hw
      generalize tks p.ch (lv+1) (c+1)=R at *
      simp only [hpT] at hw ⊢
      simp at hw
      simp (disch:=omega) [w548,ak,H.inl,inlB,H.pp,ppB,b1,b2',ha,hu,n0,n1,n2,hw]
theorem rC (H:fM C) (p:Pt):lK C p :=
 jU H p (fun m hm=>rC H m)
termination_by SizeOf.sizeOf p
decreasing_by
 have:=List.sizeOf_lt_of_mem hm
 have:=p.dL
 omega
def cu (p:Pt):Nat:=if p.k=1∧(tk p 1 0).1=true then (tk p 1 0).2 else 0
theorem oN (H:fM C) (p:Pt):FnW C 502 [.rop p.c,.fn 503 []]=some (.int .i64 (cu p)):=by
 rw [fnW_eq H.xH rfl]
 obtain ⟨n',h⟩:=rC H p 1 0 15 (by omega) (by omega) (by omega)
 unfold cu
 generalize tk p 1 0=R at *
 obtain ⟨r,c⟩:=R
 simp only [hpT] at h
 simp at h
 by_cases k1:p.k=1
 · cases r <;> simp [w502,H.inl,inlB,H.pp,ppB,k1,h]
 · simp [w502,H.inl,inlB,H.pp,ppB,k1]
theorem nP (H:fM C) (p:Pt):FnW C 404 [.agg p.c]=some (.int .i64 (cu p)):=by
 have h:=oN H p
 rw [fnW_eq H.yw rfl]
 simp [w404,H.inl,inlB,H.pp,ppB,h]
theorem iy (H:fM C) (p:Pt):FnW C 231 [.agg p.c]=some (.int .i64 (if cu p=0 then 14 else 0)):=by
 have h:=nP H p
 rw [fnW_eq H.f231 rfl]
 by_cases c:cu p=0
 · simp [w231,H.inl,inlB,H.pp,ppB,h,c]
 · simp [w231,H.inl,inlB,H.pp,ppB,h,c]
end Go.D
end
section
namespace Go.D
open Go Go.Pav Go.Pw P
attribute [-simp] List.getElem_cons_drop
variable {C:WProg}
structure iU (C:WProg):Prop extends fM C where
 xG:C.fns.get 594=some w594
 qW:C.fns.get 586=some w586
 yH:C.fns.get 550=some w550
 yR:C.fns.get 505=some w505
 wH:C.fns.get 408=some w408
theorem jr (H:iU C) (l:List Sl) (e:Bool) (hl:l.length≤1000000) (hf:∀ s ∈ l,0≤s.f):∀ n i,n+i=l.length →
 w594_K0 C ⟨[(3,.int .i64 i),(0,.ro 3 (l.map eSl) e)],[],0⟩ =
  some (.bool (aZ (if i=0 then none else (l[i - 1]?).map Sl.n) (l.drop i))):=by
 intro n
 induction n with
 | zero =>
  intro i hi
  simp only [w594_K0];rw [ck_unf w594_B0.eq_1]
  have h1:l.drop i=[]:=List.drop_eq_nil_of_le (by omega)
  have h3:¬ i < l.length:=by omega
  simp [ck_unf w594_c0.eq_1,h1,h3,aZ]
 | succ n ih =>
  intro i hi
  have h1:i < l.length:=by omega
  have hb:=bT H.toHasS l[i].n
  have hc:=eH H.toHasS l[i].v
  have h0:=hf _ (List.getElem_mem h1)
  have:=ih (i+1) (by omega)
  rw [if_neg (by omega),show i+1 - 1=i from rfl,List.getElem?_eq_getElem h1] at this
  rw [drop_cons h1,aZ]
  simp only [w594_K0] at this ⊢;rw [ck_unf w594_B0.eq_1]
  simp only [Option.map_some] at this
  generalize aZ (some l[i].n) (l.drop (i+1))=R at *
  cases q1:isName l[i].n
  · rw [q1] at hb
    simp (disch:=omega) [h1,ak,hb,H.inl,inlB,H.pp,ppB]
  · rw [q1] at hb
    by_cases f3:l[i].f≤3
    · have f3':¬ 3 < l[i].f:=by omega
      cases q2:isText l[i].v
      · rw [q2] at hc
        simp (disch:=omega) [h1,ak,hb,hc,H.inl,inlB,H.pp,ppB,f3,f3']
      · rw [q2] at hc
        by_cases f0:¬ l[i].f=0∧¬ l[i].v=[]
        · have f1:¬ l[i].f≤0:=by have:=f0.1;omega
          simp (disch:=omega) [h1,ak,hb,hc,H.inl,inlB,H.pp,ppB,f3,f3',f0.1,f0.2,f1]
        · have key:(¬ l[i].f=0∧l[i].v=[])∨l[i].f=0:=by
           by_cases a:l[i].f=0
           · exact .inr a
           · exact .inl ⟨a,Classical.byContradiction fun b=>f0 ⟨a,b⟩⟩
          cases i with
          | zero =>
           simp at this
           rcases key with ⟨a,b⟩ | a
           · have b':=eq_true b
             simp (disch:=omega) [h1,ak,hb,hc,H.inl,inlB,H.pp,ppB,f3,f3',a,b',this,after]
           · have a':l[0].f≤0:=by omega
             simp (disch:=omega) [h1,ak,hb,hc,H.inl,inlB,H.pp,ppB,f3,f3',eq_true a,a',this,after]
          | succ i =>
           have h4:i < l.length:=by omega
           have h5:(i:Int)+1 < l.length:=by omega
           simp at this
           by_cases q3:l[i].n < l[i+1].n
           · have q4:¬ l[i+1].n≤l[i].n:=List.not_le.2 q3
             rcases key with ⟨a,b⟩ | a
             · have b':=eq_true b
               simp (disch:=omega) [h1,h4,h5,ak,hb,hc,H.inl,inlB,H.pp,ppB,f3,f3',a,b',this,after,blt_eq,q3,q4]
             · have a':l[i+1].f≤0:=by omega
               simp (disch:=omega) [h1,h4,h5,ak,hb,hc,H.inl,inlB,H.pp,ppB,f3,f3',eq_true a,a',this,after,blt_eq,q3,q4]
           · have q4:l[i+1].n≤l[i].n:=List.not_lt.1 q3
             rcases key with ⟨a,b⟩ | a
             · have b':=eq_true b
               simp (disch:=omega) [h1,h4,h5,ak,hb,hc,H.inl,inlB,H.pp,ppB,f3,f3',a,b',this,after,blt_eq,q3,q4]
             · have a':l[i+1].f≤0:=by omega
               simp (disch:=omega) [h1,h4,h5,ak,hb,hc,H.inl,inlB,H.pp,ppB,f3,f3',eq_true a,a',this,after,blt_eq,q3,q4]
    · have f3':3 < l[i].f:=by omega
      simp (disch:=omega) [h1,ak,hb,H.inl,inlB,H.pp,ppB,f3,f3']
theorem oD (H:iU C) (l:List Sl) (e:Bool) (hf:∀ s ∈ l,0≤s.f):FnW C 594 [.ro 3 (l.map eSl) e]=some (.bool (decide (l.length≤8)&&aZ none l)):=by
 rw [fnW_eq H.xG rfl]
 by_cases c:l.length≤8
 · have c1:¬ 8 < (l.length:Int):=by omega
   have h:=jr H l e (by omega) hf l.length 0 (by simp)
   rw [List.drop_zero,if_pos rfl] at h
   generalize aZ none l=R at *
   simp only [w594_K0] at h
   simp at h
   simp [w594,c,c1,h]
 · have c1:8 < (l.length:Int):=by omega
   simp [w594,c,c1]
structure Fits (p:Pt):Prop where
 f:∀ s ∈ p.s,0≤s.f
 s:p.s.length≤9223372036854775807
 c:p.ch.length≤9223372036854775807
theorem Az {α β:Type} (a:List α) (b:List β) [Decidable (a=[])] [Decidable (b=[])]:((a.length:Int)+(b.length:Int) == 0)=(decide (a=[])&&decide (b=[])):=by
 cases a <;> cases b <;> simp <;> omega
theorem zD {α β:Type} (a:List α) (b:List β) (ha:a.length≤9223372036854775807) (hb:b.length≤9223372036854775807) [Decidable (a=[])] [Decidable (b=[])]:(IntKind.i64.wrap ((a.length:Int)+(b.length:Int)) == 0)=(decide (a=[])&&decide (b=[])):=by
 have h:(IntKind.i64.wrap ((a.length:Int)+(b.length:Int)) == 0)=((a.length:Int)+(b.length:Int) == 0):=by
  rw [Bool.eq_iff_iff]
  show ((if (true&&decide (((a.length:Int)+b.length) % 18446744073709551616 ≥ 9223372036854775808))=true then ((a.length:Int)+b.length) % 18446744073709551616 - 18446744073709551616 else ((a.length:Int)+b.length) % 18446744073709551616) == 0)=true↔_
  simp only [Bool.true_and,decide_eq_true_eq,beq_iff_eq]
  split <;> omega
 rw [h,Az]
theorem sK (H:iU C) (p:Pt) (hp:Fits p):FnW C 586 [.agg p.c]=some (.bool (bW p)):=by
 rw [fnW_eq H.qW rfl]
 unfold bW
 have ht:=bT H.toHasS p.t
 have hy:=bT H.toHasS p.y
 have hx:=eH H.toHasS p.x
 have hs:=oD H p.s p.se hp.f
 have hl1:=hp.s
 have hl2:=hp.c
 have hz:(IntKind.i64.wrap ((p.s.length:Int)+(p.ch.length:Int)) == 0)=(decide (p.s=[])&&decide (p.ch=[])):=zD _ _ hl1 hl2
 generalize isName p.t=T at *
 generalize isText p.x=X at *
 generalize (decide (p.s.length≤8)&&aZ none p.s)=S at *
 by_cases k1:p.k=1
 · rw [if_pos k1]
   cases T
   · simp [w586,k1,ht,H.inl,inlB,H.pp,ppB]
   · by_cases c2:p.y=[]
     · have c2':=eq_true c2
       cases S
       · simp [w586,k1,ht,hs,H.inl,inlB,H.pp,ppB,c2']
       · by_cases c3:p.x=[]
         · have c3':=eq_true c3
           by_cases c5:p.ch.length≤16
           · have c7:(p.ch.length:Int)≤16:=by omega
             simp [w586,k1,ht,hs,H.inl,inlB,H.pp,ppB,c2',c3',c5,c7]
           · have c7:¬ (p.ch.length:Int)≤16:=by omega
             simp [w586,k1,ht,hs,H.inl,inlB,H.pp,ppB,c2',c3',c5,c7]
         · simp [w586,k1,ht,hs,H.inl,inlB,H.pp,ppB,c2',c3]
     · cases q2:isName p.y
       · rw [q2] at hy;simp [w586,k1,ht,hy,H.inl,inlB,H.pp,ppB,c2]
       · rw [q2] at hy
         cases S
         · simp [w586,k1,ht,hy,hs,H.inl,inlB,H.pp,ppB,c2]
         · by_cases c3:p.x=[]
           · have c3':=eq_true c3
             by_cases c5:p.ch.length≤16
             · have c7:(p.ch.length:Int)≤16:=by omega
               simp [w586,k1,ht,hy,hs,H.inl,inlB,H.pp,ppB,c2,c3',c5,c7]
             · have c7:¬ (p.ch.length:Int)≤16:=by omega
               simp [w586,k1,ht,hy,hs,H.inl,inlB,H.pp,ppB,c2,c3',c5,c7]
           · simp [w586,k1,ht,hy,hs,H.inl,inlB,H.pp,ppB,c2,c3]
 · rw [if_neg k1]
   by_cases k5:p.k=5
   · rw [if_pos k5]
     cases T
     · simp [w586,k5,ht,hs,H.inl,inlB,H.pp,ppB]
     · cases S
       · simp [w586,k5,ht,hs,H.inl,inlB,H.pp,ppB]
       · by_cases c2:p.y=[]
         · by_cases c3:p.x=[]
           · by_cases c4:p.ch=[] <;> simp [w586,k5,ht,hs,H.inl,inlB,H.pp,ppB,eq_true c2,eq_true c3,c4]
           · simp [w586,k5,ht,hs,H.inl,inlB,H.pp,ppB,eq_true c2,c3]
         · simp [w586,k5,ht,hs,H.inl,inlB,H.pp,ppB,c2]
   · rw [if_neg k5]
     by_cases k2:p.k=2
     · rw [if_pos k2]
       cases X
       · simp [w586,k2,hx,H.inl,inlB,H.pp,ppB]
       · by_cases c1:p.t=[]
         · by_cases c2:p.y=[]
           · simp (disch:=omega) [w586,k2,hx,H.inl,inlB,H.pp,ppB,eq_true c1,eq_true c2,hz]
           · simp [w586,k2,hx,H.inl,inlB,H.pp,ppB,eq_true c1,c2]
         · simp [w586,k2,hx,H.inl,inlB,H.pp,ppB,c1]
     · rw [if_neg k2]
       by_cases k34:p.k=3∨p.k=4
       · have rest:FnW C 586 [.agg p.c]=some (.bool (decide (p.t=[])&&decide (p.y=[])&&decide (p.x=[])&&decide (p.s=[])&&decide (p.ch=[]))):=by
          rw [fnW_eq H.qW rfl]
          by_cases c0:p.x=[]
          · by_cases c1:p.t=[]
            · by_cases c2:p.y=[]
              · rcases k34 with k3 | k3 <;> simp (disch:=omega) [w586,k3,H.inl,inlB,H.pp,ppB,eq_true c0,eq_true c1,eq_true c2,hz]
              · rcases k34 with k3 | k3 <;> simp [w586,k3,H.inl,inlB,H.pp,ppB,eq_true c0,eq_true c1,c2]
            · rcases k34 with k3 | k3 <;> simp [w586,k3,H.inl,inlB,H.pp,ppB,eq_true c0,c1]
          · rcases k34 with k3 | k3 <;> simp [w586,k3,H.inl,inlB,H.pp,ppB,c0]
         rw [fnW_eq H.qW rfl] at rest
         rw [rest]
         simp [k34]
       · have k3:¬ p.k=3:=fun q=>k34 (.inl q)
         have k4:¬ p.k=4:=fun q=>k34 (.inr q)
         simp [w586,k1,k2,k3,k4,k5,H.inl,inlB,H.pp,ppB]
inductive aN:Pt→Prop
 | mk (p:Pt) (h:Fits p) (hm:∀ m ∈ p.ch,aN m):aN p
mutual
/-- The specification's count, with so many levels. -/
def trc:Pt→Nat→Nat
 | _,0=>1000
 | ⟨k,t,y,s,se,x,ch,ce⟩,lv+1=>if bW ⟨k,t,y,s,se,x,ch,ce⟩=true then dA ch lv 1 else 1000
def dA:List Pt→Nat→Nat→Nat
 | [],_,c=>c
 | m::r,lv,c=>if c≤64 then dA r lv (c+trc m lv) else c
end
theorem uZ (n:Pt):trc n 0=1000:=by cases n;rw [trc]
theorem vC (n:Pt) (lv:Nat):trc n (lv+1)=if bW n=true then dA n.ch lv 1 else 1000:=by cases n;rw [trc]
theorem iD:∀ (l:List Pt) (lv c:Nat),c≤dA l lv c
 | [],lv,c=>by rw [dA];exact Nat.le_refl _
 | m::r,lv,c=>by
  rw [dA]
  split
  · have:=iD r lv (c+trc m lv);omega
  · exact Nat.le_refl _
theorem xQ (n:Pt) (lv:Nat):1≤trc n lv:=by
 cases lv with
 | zero=>rw [uZ];omega
 | succ lv =>
  rw [vC]
  split
  · exact iD _ _ _
  · omega
mutual
theorem qO:∀ (n:Pt) (lv:Nat),trc n lv≤1000+64 * lv
 | ⟨k,t,y,s,se,x,ch,ce⟩,0=>by rw [trc];omega
 | ⟨k,t,y,s,se,x,ch,ce⟩,lv+1=>by
  rw [trc]
  split
  · have:=mV ch lv 1 (by omega);omega
  · omega
theorem mV:∀ (l:List Pt) (lv c:Nat),c≤1064+64 * lv→dA l lv c≤1064+64 * lv
 | [],lv,c,h=>by rw [dA];exact h
 | m::r,lv,c,h=>by
  rw [dA]
  split
  · have h2:=qO m lv
    exact mV r lv _ (by omega)
  · exact h
end
mutual
theorem uY:∀ (n:Pt) (lv L c:Nat),lv+L=7→c≤64→((tk n L c).1=true→(tk n L c).2=c+trc n lv∧c+trc n lv≤64)∧((tk n L c).1=false→64 < c+trc n lv)
 | ⟨k,t,y,s,se,x,ch,ce⟩,lv,L,c,h1,h2=>by
  have hge:=xQ ⟨k,t,y,s,se,x,ch,ce⟩ lv
  rw [tk]
  by_cases q:6 < L∨64 < c+1∨bW ⟨k,t,y,s,se,x,ch,ce⟩=false
  · rw [if_pos q]
    refine ⟨fun r=>by simp at r,fun _=>?_⟩
    rcases q with q | q | q
    · have:lv=0:=by omega
      subst this
      rw [trc];omega
    · omega
    · cases lv with
      | zero=>rw [trc];omega
      | succ lv=>rw [trc,if_neg (by simp [q])];omega
  · rw [if_neg q]
    cases lv with
    | zero=>omega
    | succ lv =>
     rw [trc,if_pos (by simpa using fun r=>q (.inr (.inr r)))]
     exact rG ch lv (L+1) c 1 (by omega) (by omega)
theorem rG:∀ (l:List Pt) (lv L g c:Nat),lv+L=7→g+c≤64→((tks l L (g+c)).1=true→(tks l L (g+c)).2=g+dA l lv c∧g+dA l lv c≤64)∧((tks l L (g+c)).1=false→64 < g+dA l lv c)
 | [],lv,L,g,c,h1,h2=>by
  rw [tks,dA];exact ⟨fun _=>⟨rfl,h2⟩,fun r=>by simp at r⟩
 | m::r,lv,L,g,c,h1,h2=>by
  have hm:=uY m lv L (g+c) h1 h2
  have hr:dA (m::r) lv c=dA r lv (c+trc m lv):=by rw [dA,if_pos (by omega)]
  rw [tks,hr]
  generalize tk m L (g+c)=R at *
  obtain ⟨b,c'⟩:=R
  cases b with
  | true =>
   obtain ⟨e1,e2⟩:=hm.1 rfl
   rw [if_pos rfl]
   simp only at e1
   rw [e1,Nat.add_assoc]
   exact rG r lv L g (c+trc m lv) h1 (by omega)
  | false =>
   have e:=hm.2 rfl
   rw [if_neg (by simp)]
   refine ⟨fun q=>by simp at q,fun _=>?_⟩
   have:=iD r lv (c+trc m lv)
   omega
end
theorem uP (p:Pt):cu p=if p.k≠1∨64 < trc p 6 then 0 else trc p 6:=by
 have h:=uY p 6 1 0 rfl (by omega)
 unfold cu
 generalize tk p 1 0=R at *
 obtain ⟨b,c⟩:=R
 by_cases k1:p.k=1
 · cases b with
   | true =>
    obtain ⟨e1,e2⟩:=h.1 rfl
    simp only at e1
    rw [if_pos ⟨k1,rfl⟩,if_neg (by intro q;rcases q with q | q;exact q k1;omega)];simp only;omega
   | false =>
    have e:=h.2 rfl
    rw [if_neg (by simp),if_pos (.inr (by omega))]
 · rw [if_neg (fun q=>k1 q.1),if_pos (.inl k1)]
abbrev hpP (p:Pt):WHeap:=[(0,.cells 6 [p.c] true true)]
theorem iE (H:iU C) (n:Pt) (lv:Nat) (hlv:lv≤5) (hl:n.ch.length≤16) (ih:∀ m ∈ n.ch,FnW C 550 [.agg m.c,.int .i64 lv]=some (.int .i64 (trc m lv))):∀ j i,j+i=n.ch.length→∀ c,c≤1064+64 * lv →
 w550_K0 C ⟨[(6,.int .i64 i),(5,.int .i64 c),(2,.ptr 0 0 0),(1,.int .i64 (lv+1:Nat))],hpP n,1⟩=some (.int .i64 (dA (n.ch.drop i) lv c)):=by
 intro j
 induction j with
 | zero =>
  intro i hi c hc
  simp only [w550_K0];rw [ck_unf w550_B0.eq_1]
  have h1:n.ch.drop i=[]:=List.drop_eq_nil_of_le (by omega)
  have h3:¬ i < n.ch.length:=by omega
  rw [h1,dA]
  simp [ck_unf w550_c0.eq_1,h3]
 | succ j ihj =>
  intro i hi c hc
  have h1:i < n.ch.length:=by omega
  have hm:=ih _ (List.getElem_mem h1)
  have hle:=qO n.ch[i] lv
  rw [drop_cons h1,dA]
  by_cases c1:c≤64
  · have:=ihj (i+1) (by omega) (c+trc n.ch[i] lv) (by omega)
    rw [if_pos c1]
    have c2:(c:Int)≤64:=by omega
    simp only [w550_K0] at this ⊢;rw [ck_unf w550_B0.eq_1]
    simp at this
    simp (disch:=omega) [h1,c1,c2,ak,hm,H.inl,inlB,H.pp,ppB,this]
  · rw [if_neg c1]
    have c2:¬ (c:Int)≤64:=by omega
    simp only [w550_K0];rw [ck_unf w550_B0.eq_1]
    simp (disch:=omega) [ck_unf w550_c0.eq_1,h1,c1,c2]
theorem iL (H:iU C) (n:Pt) (hf:Fits n) (ih:∀ m ∈ n.ch,∀ lv:Nat,lv≤6→FnW C 550 [.agg m.c,.int .i64 lv]=some (.int .i64 (trc m lv))) (lv:Nat) (hlv:lv≤6):FnW C 550 [.agg n.c,.int .i64 lv]=some (.int .i64 (trc n lv)):=by
 have ho:=sK H n hf
 rw [fnW_eq H.yH rfl]
 cases lv with
 | zero=>rw [uZ];simp [w550]
 | succ lv =>
  rw [vC]
  have c1:¬ (lv:Int)+1 < 1:=by omega
  cases ha:bW n with
  | false=>rw [ha] at ho;simp [w550,c1,ho,H.inl,inlB,H.pp,ppB]
  | true =>
   rw [ha] at ho
   have hr:=iE H n lv (by omega) (dZ ha) (fun m hm=>ih m hm lv (by omega)) n.ch.length 0 (by simp) 1 (by omega)
   rw [List.drop_zero] at hr
   simp only [w550_K0] at hr
   simp at hr
   simp [w550,c1,ho,H.inl,inlB,H.pp,ppB,hr]
theorem kY (H:iU C) (p:Pt) (hf:aN p):∀ lv:Nat,lv≤6→FnW C 550 [.agg p.c,.int .i64 lv]=some (.int .i64 (trc p lv)):=by
 induction hf with
 | mk p h hm ih=>exact fun lv hlv=>iL H p h (fun m hm lv hlv=>ih m hm lv hlv) lv hlv
theorem kN (H:iU C) (p:Pt) (hf:aN p):FnW C 505 [.agg p.c]=some (.int .i64 (cu p)):=by
 have h:=kY H p hf 6 (by omega)
 rw [fnW_eq H.yR rfl,uP]
 generalize trc p 6=R at *
 simp at h
 by_cases k1:p.k=1
 · by_cases c:64 < R
   · have c1:64 < (R:Int):=by omega
     simp [w505,H.inl,inlB,H.pp,ppB,h,c,c1,k1]
   · have c1:¬ 64 < (R:Int):=by omega
     simp [w505,H.inl,inlB,H.pp,ppB,h,c,c1,k1]
 · simp [w505,H.inl,inlB,H.pp,ppB,h,k1]
theorem kU (H:iU C) (p:Pt) (hf:aN p):FnW C 408 [.agg p.c]=some (.int .i64 (if cu p=0 then 14 else 0)):=by
 have h:=kN H p hf
 rw [fnW_eq H.wH rfl]
 by_cases c:cu p=0
 · simp [w408,H.inl,inlB,H.pp,ppB,h,c]
 · simp [w408,H.inl,inlB,H.pp,ppB,h,c]
end Go.D
end
section
namespace Go.D
open Go Go.Pav Go.Pw P
attribute [-simp] List.getElem_cons_drop
variable {C:WProg}
structure oM (C:WProg):Prop extends iU C,jm C where
 x9:C.fns.get 546=some w546
 wF:C.fns.get 580=some w580
 yj:C.fns.get 512=some w512
def dI (i:It):Bool:=decide (i.k≠0)&&isText i.x&&(decide (i.m.length≤8)&&i.m.all isName)
theorem tu (H:oM C):lQ C 580 isName where
 ok s:=by
  have:=dK H.tofM s
  rw [fnW_eq H.wF rfl]
  simp [w580,H.inl,inlB,H.pp,ppB,this]
 ne:=by rfl
 ni:=by rfl
theorem oP (H:oM C) (i:It):FnW C 546 [eIt i]=some (.int .i64 (if dI i=true then 0 else 6)):=by
 have hx:=fA H.tofM i.x
 rw [fnW_eq H.x9 rfl]
 unfold dI
 generalize isText i.x=X at *
 by_cases c1:i.k=0
 · simp [w546,eq_true c1]
 · cases X
   · simp [w546,c1,hx,H.inl,inlB,H.pp,ppB]
   · by_cases c2:i.m.length≤8
     · have c3:¬ 8 < (i.m.length:Int):=by omega
       have hm:=dX H.tojm (tu H) i.m i.e (by omega)
       generalize i.m.all isName=M at *
       cases M <;> simp at hm <;> simp [w546,c1,hx,c2,c3,hm,H.inl,inlB,H.pp,ppB]
     · have c3:8 < (i.m.length:Int):=by omega
       simp [w546,c1,hx,c2,c3,H.inl,inlB,H.pp,ppB]
theorem kP (H:oM C) (k t:Int) (x:Bs) (m:List Bs) (e:Bool) (hl:m.length≤8):∀ n i,n+i=m.length →
 w512_K0 C ⟨[(3,.int .i64 i),(1,.ptr 0 0 0)],[(0,.cells 4 [[.int .u64 k,.int .u8 t,.str x,.ro 1 (m.map eS) e]] true true)],1⟩ =
  some (.int .i64 (if (m.drop i).all isName=true then 0 else 6)):=by
 intro n
 induction n with
 | zero =>
  intro i hi
  simp only [w512_K0];rw [ck_unf w512_B0.eq_1]
  have h1:m.drop i=[]:=List.drop_eq_nil_of_le (by omega)
  have h3:¬ i < m.length:=by omega
  simp [ck_unf w512_c0.eq_1,h1,h3]
 | succ n ih =>
  intro i hi
  have h1:i < m.length:=by omega
  have:=ih (i+1) (by omega)
  have hb:=bT H.toHasS m[i]
  rw [drop_cons h1]
  generalize hX:(m.drop (i+1)).all isName=X at *
  rw [List.all_cons,hX]
  simp only [w512_K0] at this ⊢;rw [ck_unf w512_B0.eq_1]
  cases hn:isName m[i]
  · rw [hn] at hb
    simp (disch:=omega) [h1,ak,hb,H.inl,inlB,H.pp,ppB]
  · rw [hn] at hb
    simp at this
    simp (disch:=omega) [h1,ak,hb,H.inl,inlB,H.pp,ppB,this]
theorem oU (H:oM C) (i:It):FnW C 512 [eIt i]=some (.int .i64 (if dI i=true then 0 else 6)):=by
 have hx:=eH H.toHasS i.x
 rw [fnW_eq H.yj rfl]
 unfold dI
 generalize isText i.x=X at *
 by_cases c1:i.k=0
 · simp [w512,eq_true c1]
 · cases X
   · simp [w512,c1,hx,H.inl,inlB,H.pp,ppB]
   · by_cases c2:i.m.length≤8
     · have c3:¬ 8 < (i.m.length:Int):=by omega
       have hm:=kP H i.k i.t i.x i.m i.e c2 i.m.length 0 (by simp)
       rw [List.drop_zero] at hm
       generalize i.m.all isName=M at *
       simp only [w512_K0] at hm
       simp at hm
       simp [w512,c1,hx,c2,c3,hm,H.inl,inlB,H.pp,ppB]
     · have c3:8 < (i.m.length:Int):=by omega
       simp [w512,c1,hx,c2,c3,H.inl,inlB,H.pp,ppB]
def dec (n:Nat):Bs:=if h:n < 10 then [UInt8.ofNat (48+n)] else dec (n / 10)++[UInt8.ofNat (48+n % 10)]
termination_by n
theorem lT:∀ (k n:Nat),n < 10 ^ (k+1)→(dec n).length≤k+1
 | 0,n,h=>by unfold dec;rw [dif_pos (by simpa using h)];simp
 | k+1,n,h=>by
  unfold dec
  split
  · simp
  · have:=lT k (n / 10) (by rw [Nat.pow_succ] at h;omega)
    simp;omega
structure oZ (C:WProg):Prop extends oM C where
 wS:C.fns.get 584=some w584
 sO:C.fns.get 558=some w558
theorem lX (n:Nat) (h:n < 10):dec n=[UInt8.ofNat (48+n)]:=by unfold dec;rw [dif_pos h]
theorem lS (H:oZ C) (n:Nat) (h:n < 10):FnW C 558 [.int .u64 n]=some (.str (dec n)):=by
 rw [fnW_eq H.sO rfl,lX n h]
 obtain rfl | rfl | rfl | rfl | rfl | rfl | rfl | rfl | rfl | rfl:n=0∨n=1∨n=2∨n=3∨n=4∨n=5∨n=6∨n=7∨n=8∨n=9:=by omega
 all_goals (simp (disch:=omega) [w558,dU];try rfl)
theorem nI (H:oZ C) (n:Nat) (h:n < 18446744073709551616) (ih:∀ m < n,FnW C 558 [.int .u64 m]=some (.str (dec m))):FnW C 558 [.int .u64 n]=some (.str (dec n)):=by
 by_cases c:n < 10
 · exact lS H n c
 · have h1:=ih (n / 10) (by omega)
   have h2:=lS H (n % 10) (by omega)
   have hl:=lT 19 (n / 10) (by omega)
   rw [lX _ (by omega)] at h2
   rw [fnW_eq H.sO rfl]
   rw [dec,dif_neg c]
   have e1:(n:Int).tdiv 10=((n / 10:Nat):Int):=by rw [Int.tdiv_eq_ediv_of_nonneg (by omega)];omega
   have e2:(n:Int).tmod 10=((n % 10:Nat):Int):=by rw [Int.tmod_eq_emod_of_nonneg (by omega)];omega
   have c2:¬ (n:Int) < 10:=by omega
   have hm:(dec (n / 10)).length+1≤maxStr:=by unfold maxStr;omega
   have b1:n / 10≤n:=by omega
   have b2:n % 10≤n:=by omega
   generalize dec (n / 10)=D at *
   generalize UInt8.ofNat (48+n % 10)=dg at *
   generalize n / 10=q at *
   generalize n % 10=r at *
   simp (disch:=omega) [w558,dU,c2,e1,e2,h1,h2,hm,H.inl,inlB,H.pp,ppB]
theorem iW (H:oZ C) (n:Nat):n < 18446744073709551616→FnW C 558 [.int .u64 n]=some (.str (dec n)):=by
 induction n using Nat.strongRecOn with
 | ind n ih=>exact fun h=>nI H n h (fun m hm=>ih m hm (by omega))
theorem bytesOf_map:∀ l:List UInt8,bytesOf (l.map fun b=>[AV.int .u8 b.toNat])=some l
 | []=>rfl
 | b::r=>by
  rw [List.map_cons,bytesOf,bytesOf_map r]
  simp
theorem qR (r:Nat) (h:r < 10):([48,49,50,51,52,53,54,55,56,57]:List UInt8)[r]'(by simpa using h)=UInt8.ofNat (48+r):=by
 obtain rfl | rfl | rfl | rfl | rfl | rfl | rfl | rfl | rfl | rfl:r=0∨r=1∨r=2∨r=3∨r=4∨r=5∨r=6∨r=7∨r=8∨r=9:=by omega
 all_goals rfl
theorem o8:∀ (i n:Nat) (acc:List UInt8),acc.length+i=19→n < 10 ^ (i+1)→n < 18446744073709551616 →
 w584_K0 C ⟨[(4,.int .i64 (i+1:Nat)),(3,.ptr 0 0 0),(0,.int .u64 n)],[(0,.cells 20 [List.replicate i (AV.int .u8 0)++AV.int .u8 0::acc.map fun b=>AV.int .u8 b.toNat] true true)],1⟩=some (.str (dec n++acc)):=by
 intro i
 induction i with
 | zero =>
  intro n acc ha hn hb
  have e1:(n:Int).tdiv 10=0:=by rw [Int.tdiv_eq_ediv_of_nonneg (by omega)];omega
  have e2:(n:Int).tmod 10=n:=by rw [Int.tmod_eq_emod_of_nonneg (by omega)];omega
  have hr:n < 10:=by simpa using hn
  have hd:=qR n hr
  have h19:19≤acc.length:=by omega
  rw [lX n hr]
  generalize UInt8.ofNat (48+n)=dg at *
  have hm:bytesOf ([AV.int .u8 dg.toNat]::List.map ((fun x=>[x]) ∘ fun b:UInt8=>AV.int .u8 b.toNat) acc)=some (dg::acc):=bytesOf_map (dg::acc)
  simp only [w584_K0];rw [ck_unf w584_B0.eq_1]
  simp (disch:=(first | omega | (simp;done) | (simp;omega))) [ak,dU,e1,e2,hr,hd,h19,hm,List.take_of_length_le,sCvb]
 | succ i ih =>
  intro n acc ha hn hb
  have e1:(n:Int).tdiv 10=((n / 10:Nat):Int):=by rw [Int.tdiv_eq_ediv_of_nonneg (by omega)];omega
  have e2:(n:Int).tmod 10=((n % 10:Nat):Int):=by rw [Int.tmod_eq_emod_of_nonneg (by omega)];omega
  have hr:n % 10 < 10:=by omega
  have hq:n / 10 < 10 ^ (i+1):=by rw [Nat.pow_succ] at hn;omega
  have hqb:n / 10≤n:=by omega
  have h18:acc.length+i=18:=by omega
  have hi:i+1 < 20:=by omega
  have h20:20≤i+1+(acc.length+1):=by omega
  have hi19:i≤19:=by omega
  have hd:=qR (n % 10) hr
  have ih':=fun dg=>ih (n / 10) (dg::acc) (by simp;omega) hq (by omega)
  have hdec:dec n=(if n / 10=0 then [] else dec (n / 10))++[UInt8.ofNat (48+n % 10)]:=by
   by_cases c:n < 10
   · have:n / 10=0:=by omega
     have h2:n % 10=n:=by omega
     rw [lX n c,this,h2];simp
   · rw [dec,dif_neg c,if_neg (by omega)]
  rw [hdec]
  have t1:∀ (z:AV) (L:List AV),List.take (i+1) (List.replicate (i+1) z++L)=List.replicate (i+1) z:=fun z L=>List.take_left' (by simp)
  have t2:∀ (z y:AV) (L:List AV),List.drop (i+1+1) (List.replicate (i+1) z++y::L)=L:=fun z y L=>by
   rw [List.append_cons];exact List.drop_left' (by simp)
  have t3:∀ (z:AV) (X:List AV),List.replicate i z++z::X=List.replicate (i+1) z++X:=fun z X=>by rw [List.replicate_succ'];simp
  generalize dec (n / 10)=D at *
  generalize UInt8.ofNat (48+n % 10)=dg at *
  have hm:bytesOf ([AV.int .u8 dg.toNat]::List.map ((fun x=>[x]) ∘ fun b:UInt8=>AV.int .u8 b.toNat) acc)=some (dg::acc):=bytesOf_map (dg::acc)
  have ih2:=ih' dg
  rw [t3] at ih2
  generalize n / 10=q at *
  generalize n % 10=r at *
  simp only [w584_K0] at ih2 ⊢;rw [ck_unf w584_B0.eq_1]
  simp at ih2
  by_cases c:q=0
  · simp (disch:=(first | omega | (simp;done) | (simp;omega))) [ak,dU,e1,e2,hr,hd,hi,h20,hi19,hm,t1,t2,c,List.take_of_length_le,sCvb]
  · simp (disch:=(first | omega | (simp;done) | (simp;omega))) [ak,dU,e1,e2,hr,hd,hi,t1,t2,c,ih2]
theorem iO (H:oZ C) (n:Nat) (h:n < 18446744073709551616):FnW C 584 [.int .u64 n]=some (.str (dec n)):=by
 have hl:=o8 (C:=C) 19 n [] rfl (by omega) h
 have e:List.replicate 19 (AV.int .u8 0)++AV.int .u8 0::List.map (fun b:UInt8=>AV.int .u8 b.toNat) []=rep 20 (AV.int .u8 0):=rfl
 rw [e] at hl
 simp only [w584_K0] at hl
 simp at hl
 rw [fnW_eq H.wS rfl]
 simp [w584,hl]
def ay (x:It) (s:Sl):Bs × Bs:=(s.n,if s.f=1 then x.x else if s.f=2 then dec x.k.toNat else if s.f=3 then dec x.m.length else s.v)
structure qg (C:WProg):Prop extends oZ C where
 wB:C.fns.get 559=some w559
 wM:C.fns.get 592=some w592
theorem jv (H:qg C) (x:It) (hk:0≤x.k∧x.k < 18446744073709551616) (hm:x.m.length≤1000000) (l:List Sl) (e:Bool) (hl:l.length≤8):∀ n i,n+i=l.length→∀ G:List (Bs × Bs),G.length=i →
 w559_K0 C ⟨[(6,.int .i64 i),(5,.sl 0 2 0 G.length G.length false),(3,.ptr 1 0 0),(0,.ro 3 (l.map eSl) e)],[(0,.cells 2 (G.map eA) true true),(1,.cells 4 [[.int .u64 x.k,.int .u8 x.t,.str x.x,.ro 1 (x.m.map eS) x.e]] true true)],2⟩ =
  some (.ro 2 ((G++(l.drop i).map (ay x)).map eA) false):=by
 intro n
 induction n with
 | zero =>
  intro i hi G hG
  have h1:l.drop i=[]:=List.drop_eq_nil_of_le (by omega)
  have h3:¬ i < l.length:=by omega
  simp only [w559_K0];rw [ck_unf w559_B0.eq_1]
  cases G with
  | nil=>simp [ck_unf w559_c0.eq_1,h1,h3]
  | cons g G=>simp (disch:=(first | omega | (simp;done) | (simp;omega))) [ck_unf w559_c0.eq_1,h1,h3,List.take_of_length_le]
 | succ n ih =>
  intro i hi G hG
  have h1:i < l.length:=by omega
  obtain ⟨k,hk2⟩:∃ k:Nat,x.k=k:=⟨x.k.toNat,by omega⟩
  have d1:=iW H.tooZ k (by omega)
  have d2:=iW H.tooZ x.m.length (by omega)
  have ih':=ih (i+1) (by omega) (G++[ay x l[i]]) (by simp [hG])
  have hfit:(G.length+1) * 33≤35184372088832:=by omega
  rw [drop_cons h1]
  simp only [w559_K0] at ih' ⊢;rw [ck_unf w559_B0.eq_1]
  simp at ih'
  unfold ay at ih' ⊢
  rw [hk2] at ih' ⊢
  by_cases f1:l[i].f=1
  · simp [f1] at ih'
    simp (disch:=omega) [h1,f1,ak,hfit,ih',H.inl,inlB,H.pp,ppB]
  · by_cases f2:l[i].f=2
    · simp [f2] at ih'
      simp (disch:=omega) [h1,f2,ak,hfit,d1,ih',H.inl,inlB,H.pp,ppB]
    · by_cases f3:l[i].f=3
      · simp [f3] at ih'
        simp (disch:=omega) [h1,f3,ak,dU,hfit,d2,ih',H.inl,inlB,H.pp,ppB]
      · simp [f1,f2,f3] at ih'
        simp (disch:=omega) [h1,f1,f2,f3,ak,hfit,ih',H.inl,inlB,H.pp,ppB]
theorem aY (H:qg C) (x:It) (hk:0≤x.k∧x.k < 18446744073709551616) (hm:x.m.length≤1000000) (l:List Sl) (e:Bool) (hl:l.length≤8) :
 FnW C 559 [.ro 3 (l.map eSl) e,eIt x]=some (.ro 2 ((l.map (ay x)).map eA) false):=by
 have h:=jv H x hk hm l e hl l.length 0 (by simp) [] rfl
 simp only [w559_K0] at h
 simp at h
 rw [fnW_eq H.wB rfl]
 simp [w559,h]
theorem jI (H:qg C) (x:It) (hk:0≤x.k∧x.k < 18446744073709551616) (hm:x.m.length≤1000000) (l:List Sl) (e:Bool) (hl:l.length≤8) (hf:∀ s ∈ l,0≤s.f∧s.f≤3):∀ n i,n+i=l.length→∀ G:List (Bs × Bs),G.length=i →
 w592_K0 C ⟨[(13,.int .i64 i),(12,.int .i64 l.length),(11,.ro 3 (l.map eSl) e),(5,.sl 0 2 0 l.length l.length true),(2,.ptr 1 0 0)],[(0,.cells 2 (G.map eA++List.replicate n [.str [],.str []]) true true),(1,.cells 4 [[.int .u64 x.k,.int .u8 x.t,.str x.x,.ro 1 (x.m.map eS) x.e]] true true)],2⟩ =
  some (.ro 2 ((G++(l.drop i).map (ay x)).map eA) true):=by
 intro n
 induction n with
 | zero =>
  intro i hi G hG
  have h1:l.drop i=[]:=List.drop_eq_nil_of_le (by omega)
  have h3:¬ i < l.length:=by omega
  have h5:G.length=l.length:=by omega
  have h6:List.take l.length (List.map eA G)=List.map eA G:=List.take_of_length_le (by simp [h5])
  simp only [w592_K0];rw [ck_unf w592_B0.eq_1]
  simp [ck_unf w592_c0.eq_1,h1,h3,h5,h6]
 | succ n ih =>
  intro i hi G hG
  have h1:i < l.length:=by omega
  obtain ⟨k,hk2⟩:∃ k:Nat,x.k=k:=⟨x.k.toNat,by omega⟩
  have d1:=iO H.tooZ k (by omega)
  have d2:=iO H.tooZ x.m.length (by omega)
  have ih':=ih (i+1) (by omega) (G++[ay x l[i]]) (by simp [hG])
  have h0:=hf _ (List.getElem_mem h1)
  rw [drop_cons h1]
  simp only [w592_K0] at ih' ⊢;rw [ck_unf w592_B0.eq_1]
  simp at ih'
  unfold ay at ih' ⊢
  rw [hk2] at ih' ⊢
  have f0123:l[i].f=0∨l[i].f=1∨l[i].f=2∨l[i].f=3:=by omega
  rcases f0123 with f | f | f | f
  all_goals
   simp [f] at ih'
   simp (disch:=omega) [h1,f,ak,dU,d1,d2,eF,eu,H.inl,inlB,H.pp,ppB,ih']
theorem nU (H:qg C) (x:It) (hk:0≤x.k∧x.k < 18446744073709551616) (hm:x.m.length≤1000000) (l:List Sl) (e:Bool) (hl:l.length≤8) (hf:∀ s ∈ l,0≤s.f∧s.f≤3) :
 FnW C 592 [eIt x,.ro 3 (l.map eSl) e]=some (.ro 2 ((l.map (ay x)).map eA) true):=by
 rw [fnW_eq H.wM rfl]
 by_cases hne:l=[]
 · subst hne
   simp (disch:=omega) [w592,ck_unf w592_B0.eq_1,ck_unf w592_c0.eq_1]
 · have h:=jI H x hk hm l e hl hf l.length 0 (by simp) [] rfl
   simp only [w592_K0] at h
   simp at h
   simp (disch:=omega) [w592,fits,hne,h]
structure tY (C:WProg):Prop extends qg C where
 vV:C.fns.get 582=some w582
 wG:C.fns.get 583=some w583
 yC:C.fns.get 593=some w593
def aB (s:Bs):Nd:=⟨2,[],[],[],true,s,[],true⟩
theorem dJ (H:tY C) (s:Bs):FnW C 583 [.str s]=some (.agg (aB s).c):=by
 rw [fnW_eq H.wG rfl,Nd.aJ]
 simp [w583,aB]
theorem sS (H:tY C) (l:List Nd) (e:Bool):FnW C 593 [.ro 6 (l.map Nd.c) e]=some (.ro 6 (l.map Nd.c) true):=by
 have h:List.take l.length (List.map Nd.c l)=List.map Nd.c l:=List.take_of_length_le (by simp)
 rw [fnW_eq H.yC rfl]
 simp [w593,h]
def dO (x:It) (p:Pt) (key:Bs) (ch:List Nd):Nd:=⟨1,p.t,key,p.s.map (ay x),true,[],ch,true⟩
theorem gG (H:tY C) (x:It) (hk:0≤x.k∧x.k < 18446744073709551616) (hm:x.m.length≤1000000) (p:Pt) (hl:p.s.length≤8) (hf:∀ s ∈ p.s,0≤s.f∧s.f≤3) (key:Bs) (ch:List Nd) (e:Bool) :
 FnW C 582 [eIt x,.agg p.c,.str key,.ro 6 (ch.map Nd.c) e]=some (.agg (dO x p key ch).c):=by
 have h1:=nU H.toqg x hk hm p.s p.se hl hf
 have h2:=sS H ch e
 rw [fnW_eq H.vV rfl,Nd.aJ]
 simp only [dO]
 simp [w582,h1,h2,H.inl,inlB,H.pp,ppB]
end Go.D
end
section
namespace Go.D
open Go Go.Pav Go.Pw P
mutual
/-- A tree without what is known of its memory. -/
def Nd.z:Nd→Nd
 | ⟨k,t,y,a,ae,x,ch,ce⟩=>⟨k,t,y,a,true,x,Nd.zs ch,true⟩
def Nd.zs:List Nd→List Nd
 | []=>[]
 | n::r=>n.z::Nd.zs r
end
theorem Nd.vG:∀ l:List Nd,Nd.zs l=l.map Nd.z
 | []=>rfl
 | n::r=>by rw [Nd.zs,Nd.vG r];rfl
theorem Nd.tH (n:Nd):n.z=⟨n.k,n.t,n.y,n.a,true,n.x,n.ch.map Nd.z,true⟩:=by cases n;rw [Nd.z,Nd.vG]
theorem Nd.z_y (n:Nd):n.z.y=n.y:=by rw [Nd.tH]
theorem sJ (n:Nd):alone n.z=alone n:=by
 have h:(n.ch.map Nd.z).map Nd.y=n.ch.map Nd.y:=by rw [List.map_map];exact List.map_congr_left fun m _=>m.z_y
 rw [Nd.tH]
 unfold alone
 simp only [h,List.length_map,List.map_eq_nil_iff]
mutual
theorem y8:∀ (n:Nd) (lv:Nat) (s:Nat × Nat),wk n.z lv s=wk n lv s
 | ⟨k,t,y,a,ae,x,ch,ce⟩,lv,(c,d)=>by
  have h:=sJ ⟨k,t,y,a,ae,x,ch,ce⟩
  rw [pq,pq,h]
  have e:(Nd.z ⟨k,t,y,a,ae,x,ch,ce⟩).ch=Nd.zs ch:=by rw [Nd.z]
  rw [e,vK ch (lv+1) (c+1,max d lv)]
theorem vK:∀ (l:List Nd) (lv:Nat) (s:Nat × Nat),wks (Nd.zs l) lv s=wks l lv s
 | [],lv,s=>by rw [Nd.zs]
 | m::r,lv,s=>by
  rw [Nd.zs,wks,wks,y8 m lv s]
  split
  · exact vK r lv _
  · rfl
end
theorem vT (n:Nd):cnt n.z=cnt n:=by unfold cnt;rw [y8]
end Go.D
end
section
namespace Go.D
open Go Go.Pav Go.Pw P
inductive Okp:Pt→Prop
 | mk (p:Pt) (h:bW p=true) (hf:Fits p) (hm:∀ m ∈ p.ch,Okp m):Okp p
mutual
theorem qw:∀ (p:Pt),aN p→∀ (lv c:Nat),(tk p lv c).1=true→Okp p
 | ⟨k,t,y,s,se,x,ch,ce⟩,hf,lv,c,h=>by
  rw [vk] at h
  split at h
  · cases h
  · rename_i q
    cases hf with
    | mk _ h1 hm =>
     exact .mk _ (by simpa using fun e=>q (.inr (.inr e))) h1 (lN ch hm _ _ h)
theorem lN:∀ (l:List Pt),(∀ m ∈ l,aN m)→∀ (lv c:Nat),(tks l lv c).1=true→∀ m ∈ l,Okp m
 | [],_,_,_,_=>by simp
 | m::r,hf,lv,c,h=>by
  rw [tks] at h
  split at h
  · rename_i q
    intro a ha
    have h0:=qw m (hf m (by simp)) lv c q
    have h2:=lN r (fun b hb=>hf b (by simp [hb])) lv _ h
    rcases List.mem_cons.1 ha with e | ha
    · exact e ▸ h0
    · exact h2 a ha
  · cases h
end
theorem jJ {p:Pt} (hf:aN p) (h:cu p≠0):Okp p:=by
 unfold cu at h
 split at h
 · rename_i q;exact qw p hf 1 0 q.2
 · exact absurd rfl h
theorem pW {p:Pt} (h:cu p≠0):p.k=1:=by
 unfold cu at h
 split at h
 · rename_i q;exact q.1
 · exact absurd rfl h
theorem iP:∀ (l:List Sl) (p:Option Bs),aZ p l=true→∀ s ∈ l,s.f≤3
 | [],_,_=>by simp
 | s::r,p,h=>by
  rw [aZ] at h
  simp at h
  intro a ha
  rcases List.mem_cons.1 ha with rfl | ha
  · exact h.1.1.1.1.2
  · exact iP r _ h.2 a ha
theorem kK {p:Pt} (h:bW p=true):p.s.length≤8∧∀ s ∈ p.s,s.f≤3:=by
 unfold bW at h
 split at h
 · simp at h;exact ⟨h.1.2.1,iP _ _ h.1.2.2⟩
 · split at h
   · simp at h;exact ⟨h.1.1.1.2.1,iP _ _ h.1.1.1.2.2⟩
   · split at h
     · simp at h;rw [h.1.2];simp
     · simp at h;rw [h.1.2];simp
theorem kH {p:Pt} (h:bW p=true):p.k=1∨p.k=2∨p.k=3∨p.k=4∨p.k=5:=by
 unfold bW at h
 split at h
 · exact .inl ‹_›
 · split at h
   · exact .inr (.inr (.inr (.inr ‹_›)))
   · split at h
     · exact .inr (.inl ‹_›)
     · simp at h
       rcases h.1.1.1.1.1 with q | q
       · exact .inr (.inr (.inl q))
       · exact .inr (.inr (.inr (.inl q)))
mutual
/-- What a part makes. -/
def mk (x:It):Pt→List Nd
 | ⟨k,t,y,s,se,tx,ch,ce⟩ =>
  if k=1 then [⟨1,t,y,s.map (ay x),true,[],mks x ch,true⟩]
  else if k=2 then [aB tx] else if k=3 then [aB x.x] else if k=4 then [aB (dec x.k.toNat)]
  else if k=5 then x.m.map fun m=>⟨1,t,m,s.map (ay x),true,[],[aB m],true⟩ else []
def mks (x:It):List Pt→List Nd
 | []=>[]
 | p::r=>mk x p++mks x r
end
theorem mk_eq (x:It) (p:Pt):mk x p=if p.k=1 then [dO x p p.y (mks x p.ch)]
 else if p.k=2 then [aB p.x] else if p.k=3 then [aB x.x] else if p.k=4 then [aB (dec x.k.toNat)]
 else if p.k=5 then x.m.map fun m=>dO x p m [aB m] else []:=by cases p;rw [mk];rfl
mutual
/-- What the specification's part makes. -/
def md (x:It):Pt→List Nd
 | ⟨k,t,y,s,se,tx,ch,ce⟩ =>
  if k=2 then [aB tx] else if k=3 then [aB x.x] else if k=4 then [aB (dec x.k.toNat)]
  else if k=5 then x.m.map fun m=>⟨1,t,m,s.map (ay x),false,[],[aB m],true⟩
  else [⟨1,t,y,s.map (ay x),false,[],mds x ch,(mds x ch).isEmpty⟩]
def mds (x:It):List Pt→List Nd
 | []=>[]
 | p::r=>md x p++mds x r
end
def aT (x:It) (p:Pt) (key:Bs) (ch:List Nd) (e:Bool):Nd:=⟨1,p.t,key,p.s.map (ay x),false,[],ch,e⟩
theorem qZ (x:It) (p:Pt):md x p=if p.k=2 then [aB p.x] else if p.k=3 then [aB x.x] else if p.k=4 then [aB (dec x.k.toNat)]
 else if p.k=5 then x.m.map fun m=>aT x p m [aB m] true else [aT x p p.y (mds x p.ch) (mds x p.ch).isEmpty]:=by cases p;rw [md];rfl
mutual
theorem uX (x:It):∀ (p:Pt),Okp p→(mk x p).map Nd.z=(md x p).map Nd.z
 | ⟨k,t,y,s,se,tx,ch,ce⟩,h=>by
  have hk:=kH (by cases h;assumption:bW ⟨k,t,y,s,se,tx,ch,ce⟩=true)
  have hm:∀ m ∈ ch,Okp m:=by cases h;assumption
  have ih:=mg x ch hm
  rw [mk,md]
  simp only at hk
  rcases hk with rfl | rfl | rfl | rfl | rfl
  · simp [Nd.tH,ih]
  · simp
  · simp
  · simp
  · simp [Nd.tH]
theorem mg (x:It):∀ (l:List Pt),(∀ m ∈ l,Okp m)→(mks x l).map Nd.z=(mds x l).map Nd.z
 | [],_=>by rw [mks,mds]
 | p::r,h=>by
  rw [mks,mds,List.map_append,List.map_append,uX x p (h p (by simp)),mg x r fun m hm=>h m (by simp [hm])]
end
theorem oW (x:It) (hx:x.m.length≤8) (p:Pt):(md x p).length≤8:=by
 rw [qZ];split <;> (try split) <;> (try split) <;> (try split) <;> (try split) <;> simp <;> omega
def zN:Nd:=⟨0,[],[],[],true,[],[],true⟩
def mkN (x:It) (p:Pt):Nd:=(mk x p).headD zN
def mdN (x:It) (p:Pt):Nd:=(md x p).headD zN
theorem zn (x:It) (p:Pt) (h:Okp p):(mkN x p).z=(mdN x p).z:=by
 have:=uX x p h
 unfold mkN mdN
 cases h1:mk x p <;> cases h2:md x p <;> rw [h1,h2] at this <;> simp at this ⊢
 exact this.1
def aX (p:Pt) (x:It) (most:Int):Int :=
 if most < 1∨64 < most then 1 else if cu p=0 then 14 else if dI x=false then 6 else if cnt (mkN x p)=0∨most < cnt (mkN x p) then 14 else 0
def iK (p:Pt) (x:It) (most:Int):Nd:=if aX p x most=0 then mkN x p else zN
def xU (p:Pt) (x:It) (most:Int):Nd:=if aX p x most=0 then mdN x p else zN
end Go.D
end
section
namespace Go.D
open Go Go.Pav Go.Pw P
attribute [-simp] List.getElem_cons_drop
variable {C:WProg}
structure cO (C:WProg):Prop extends tY C,jR C where
 yD:C.fns.get 547=some w547
 wz:C.fns.get 513=some w513
 wI:C.fns.get 501=some w501
 yh:C.fns.get 425=some w425
@[simp] theorem Nd.y9 (n:Nd) (k:Nat):n.c.any (hasRefW (k+1))=true:=by rw [Nd.aJ];rfl
@[simp] theorem Nd.yU (n:Nd) (k:Nat):(∃ x,x ∈ n.c∧hasRefW (k+1) x=true)=True:=by
 refine eq_true ⟨.ro 2 (n.a.map eA) n.ae,?_,rfl⟩
 rw [Nd.aJ];simp
theorem sQ (H:cO C) (x:It) (hk:0≤x.k∧x.k < 18446744073709551616) (hm:x.m.length≤8) (l:List Pt) (e:Bool) (hl:l.length≤16) (p:Pt) (hp:bW p=true∧Fits p) (hk5:p.k=5) (i:Nat) (hi:i < l.length)
 (hnext:∀ G:List Nd,G.length≤8 * (i+1)→w547_K0 C ⟨[(12,.int .i64 ((i:Int)+1)),(11,.int .i64 l.length),(10,.ro 6 (l.map Pt.c) e),(5,.sl 0 6 0 G.length G.length false),(2,.ptr 1 0 0)],[(0,.cells 6 (G.map Nd.c) true true),(1,.cells 4 [[.int .u64 x.k,.int .u8 x.t,.str x.x,.ro 1 (x.m.map eS) x.e]] true true)],2⟩ =
  some (.ro 6 ((G++mks x (l.drop (i+1))).map Nd.c) false)):∀ n k,n+k=x.m.length→∀ G:List Nd,G.length≤8 * i+k →
 w547_K1 C ⟨[(65,.int .i64 k),(64,.int .i64 x.m.length),(63,.ro 1 (x.m.map eS) x.e),(12,.int .i64 i),(11,.int .i64 l.length),(10,.ro 6 (l.map Pt.c) e),(7,.ptr 0 0 0),(5,.sl 1 6 0 G.length G.length false),(2,.ptr 2 0 0)],[(0,.cells 6 [p.c] true true),(1,.cells 6 (G.map Nd.c) true true),(2,.cells 4 [[.int .u64 x.k,.int .u8 x.t,.str x.x,.ro 1 (x.m.map eS) x.e]] true true)],3⟩ =
  some (.ro 6 ((G++(x.m.drop k).map (fun m=>dO x p m [aB m])++mks x (l.drop (i+1))).map Nd.c) false):=by
 intro n
 induction n with
 | zero =>
  intro k hk2 G hG
  have h1:x.m.drop k=[]:=List.drop_eq_nil_of_le (by omega)
  have h3:¬ k < x.m.length:=by omega
  have:=hnext G (by omega)
  simp only [w547_K0] at this
  simp at this
  simp only [w547_K1];rw [ck_unf w547_B1.eq_1]
  simp (disch:=omega) [ck_unf w547_c1.eq_1,h1,h3,ak,this]
 | succ n ih =>
  intro k hk2 G hG
  have h1:k < x.m.length:=by omega
  have hs:=kK hp.1
  have he:=gG H.totY x hk (by omega) p hs.1 (fun s q=>⟨hp.2.f s q,hs.2 s q⟩) x.m[k] [aB x.m[k]] true
  have hw:=dJ H.totY x.m[k]
  have:=ih (k+1) (by omega) (G++[dO x p x.m[k] [aB x.m[k]]]) (by simp;omega)
  have hfit:(G.length+1) * 105≤35184372088832:=by omega
  rw [drop_cons h1]
  simp only [w547_K1] at this ⊢;rw [ck_unf w547_B1.eq_1]
  simp at this
  simp at he
  simp (disch:=omega) [h1,ak,hfit,hw,he,H.inl,inlB,H.pp,ppB,this]
theorem oz (H:cO C) (x:It) (hk:0≤x.k∧x.k < 18446744073709551616) (hm:x.m.length≤8) (l:List Pt) (e:Bool) (hl:l.length≤16) (ho:∀ p ∈ l,Okp p)
 (ih:∀ p ∈ l,FnW C 547 [eIt x,.ro 6 (p.ch.map Pt.c) p.ce]=some (.ro 6 ((mks x p.ch).map Nd.c) false)):∀ n i,n+i=l.length→∀ G:List Nd,G.length≤8 * i →
 w547_K0 C ⟨[(12,.int .i64 i),(11,.int .i64 l.length),(10,.ro 6 (l.map Pt.c) e),(5,.sl 0 6 0 G.length G.length false),(2,.ptr 1 0 0)],[(0,.cells 6 (G.map Nd.c) true true),(1,.cells 4 [[.int .u64 x.k,.int .u8 x.t,.str x.x,.ro 1 (x.m.map eS) x.e]] true true)],2⟩ =
  some (.ro 6 ((G++mks x (l.drop i)).map Nd.c) false):=by
 intro n
 induction n with
 | zero =>
  intro i hi G hG
  have h1:l.drop i=[]:=List.drop_eq_nil_of_le (by omega)
  have h3:¬ i < l.length:=by omega
  simp only [w547_K0];rw [ck_unf w547_B0.eq_1]
  cases G with
  | nil=>simp [ck_unf w547_c0.eq_1,h1,h3,mks]
  | cons g G=>simp (disch:=(first | omega | (simp;done) | (simp;omega))) [ck_unf w547_c0.eq_1,h1,h3,mks,List.take_of_length_le]
 | succ n ihn =>
  intro i hi G hG
  have h1:i < l.length:=by omega
  have hp:=ho _ (List.getElem_mem h1)
  have hpo:bW l[i]=true:=by cases hp;assumption
  have hpf:Fits l[i]:=by cases hp;assumption
  have hs:=kK hpo
  have hnext:∀ G:List Nd,G.length≤8 * (i+1)→w547_K0 C ⟨[(12,.int .i64 ((i:Int)+1)),(11,.int .i64 l.length),(10,.ro 6 (l.map Pt.c) e),(5,.sl 0 6 0 G.length G.length false),(2,.ptr 1 0 0)],[(0,.cells 6 (G.map Nd.c) true true),(1,.cells 4 [[.int .u64 x.k,.int .u8 x.t,.str x.x,.ro 1 (x.m.map eS) x.e]] true true)],2⟩ =
   some (.ro 6 ((G++mks x (l.drop (i+1))).map Nd.c) false):=fun G q=>by
    have:=ihn (i+1) (by omega) G q
    simpa using this
  have hfit:(G.length+1) * 105≤35184372088832:=by omega
  rw [drop_cons h1,mks]
  have step:∀ N:Nd,w547_K0 C ⟨[(12,.int .i64 ((i:Int)+1)),(11,.int .i64 l.length),(10,.ro 6 (l.map Pt.c) e),(5,.sl 0 6 0 (G.length+1) (G.length+1) false),(2,.ptr 1 0 0)],[(0,.cells 6 (G.map Nd.c++[N.c]) true true),(1,.cells 4 [[.int .u64 x.k,.int .u8 x.t,.str x.x,.ro 1 (x.m.map eS) x.e]] true true)],2⟩ =
   some (.ro 6 ((G++([N]++mks x (l.drop (i+1)))).map Nd.c) false):=fun N=>by
    have:=hnext (G++[N]) (by simp;omega)
    simpa using this
  rcases kH hpo with k1 | k1 | k1 | k1 | k1
  · have he:=gG H.totY x hk (by omega) l[i] hs.1 (fun s q=>⟨hpf.f s q,hs.2 s q⟩) l[i].y (mks x l[i].ch) false
    have hr:=ih _ (List.getElem_mem h1)
    have:=step (dO x l[i] l[i].y (mks x l[i].ch))
    have hq:mk x l[i]=[dO x l[i] l[i].y (mks x l[i].ch)]:=by rw [mk_eq,if_pos k1]
    rw [hq]
    simp only [w547_K0] at this ⊢;rw [ck_unf w547_B0.eq_1]
    simp at this
    simp (disch:=omega) [ck_unf w547_c1.eq_1,h1,k1,ak,hfit,he,hr,H.inl,inlB,H.pp,ppB,this]
  · have hw:=dJ H.totY l[i].x
    have:=step (aB l[i].x)
    have hq:mk x l[i]=[aB l[i].x]:=by rw [mk_eq,if_neg (by omega),if_pos k1]
    rw [hq]
    simp only [w547_K0] at this ⊢;rw [ck_unf w547_B0.eq_1]
    simp at this
    simp (disch:=omega) [ck_unf w547_c1.eq_1,h1,k1,ak,hfit,hw,H.inl,inlB,H.pp,ppB,this]
  · have hw:=dJ H.totY x.x
    have:=step (aB x.x)
    have hq:mk x l[i]=[aB x.x]:=by rw [mk_eq,if_neg (by omega),if_neg (by omega),if_pos k1]
    rw [hq]
    simp only [w547_K0] at this ⊢;rw [ck_unf w547_B0.eq_1]
    simp at this
    simp (disch:=omega) [ck_unf w547_c1.eq_1,h1,k1,ak,hfit,hw,H.inl,inlB,H.pp,ppB,this]
  · obtain ⟨k,hk2⟩:∃ k:Nat,x.k=k:=⟨x.k.toNat,by omega⟩
    have hd:=iO H.tooZ k (by omega)
    have hw:=dJ H.totY (dec x.k.toNat)
    have:=step (aB (dec x.k.toNat))
    have hq:mk x l[i]=[aB (dec x.k.toNat)]:=by rw [mk_eq,if_neg (by omega),if_neg (by omega),if_neg (by omega),if_pos k1]
    rw [hq]
    rw [hk2] at this hw ⊢
    simp only [w547_K0] at this ⊢;rw [ck_unf w547_B0.eq_1]
    simp at this hw
    simp (disch:=omega) [ck_unf w547_c1.eq_1,h1,k1,ak,hfit,hd,hw,H.inl,inlB,H.pp,ppB,this]
  · have:=sQ H x hk hm l e hl l[i] ⟨hpo,hpf⟩ k1 i h1 hnext x.m.length 0 (by simp) G (by omega)
    have hq:mk x l[i]=x.m.map fun m=>dO x l[i] m [aB m]:=by rw [mk_eq,if_neg (by omega),if_neg (by omega),if_neg (by omega),if_neg (by omega),if_pos k1]
    rw [hq,← List.append_assoc]
    rw [List.drop_zero] at this
    generalize G++List.map (fun m=>dO x l[i] m [aB m]) x.m++mks x (l.drop (i+1))=R at *
    simp only [w547_K0]
    simp only [w547_K1] at this
    rw [ck_unf w547_B0.eq_1]
    simp at this
    simp (disch:=omega) [ck_unf w547_c1.eq_1,h1,k1,ak,H.inl,inlB,H.pp,ppB,this]
theorem gX (H:cO C) (x:It) (hk:0≤x.k∧x.k < 18446744073709551616) (hm:x.m.length≤8) (l:List Pt) (e:Bool) (hl:l.length≤16) (ho:∀ p ∈ l,Okp p)
 (ih:∀ p ∈ l,FnW C 547 [eIt x,.ro 6 (p.ch.map Pt.c) p.ce]=some (.ro 6 ((mks x p.ch).map Nd.c) false)):FnW C 547 [eIt x,.ro 6 (l.map Pt.c) e]=some (.ro 6 ((mks x l).map Nd.c) false):=by
 have h:=oz H x hk hm l e hl ho ih l.length 0 (by simp) [] (by simp)
 simp only [w547_K0] at h
 simp at h
 rw [fnW_eq H.yD rfl]
 simp [w547,h]
theorem jO (H:cO C) (x:It) (hk:0≤x.k∧x.k < 18446744073709551616) (hm:x.m.length≤8) (p:Pt) (hp:Okp p):FnW C 547 [eIt x,.ro 6 (p.ch.map Pt.c) p.ce]=some (.ro 6 ((mks x p.ch).map Nd.c) false):=by
 have ho:∀ m ∈ p.ch,Okp m:=by cases hp;assumption
 have hl:p.ch.length≤16:=dZ (by cases hp;assumption)
 exact gX H x hk hm p.ch p.ce hl ho fun m q=>jO H x hk hm m (ho m q)
termination_by SizeOf.sizeOf p
decreasing_by
 have:=List.sizeOf_lt_of_mem q
 have:=Pt.dL p
 omega
theorem uw (H:cO C) (x:It) (hk:0≤x.k∧x.k < 18446744073709551616) (hm:x.m.length≤8) (l:List Pt) (e:Bool) (hl:l.length≤16) (ho:∀ p ∈ l,Okp p) :
 FnW C 547 [eIt x,.ro 6 (l.map Pt.c) e]=some (.ro 6 ((mks x l).map Nd.c) false) :=
 gX H x hk hm l e hl ho fun m q=>jO H x hk hm m (ho m q)
theorem aC (x:It) (p:Pt) (m:Bs):(aT x p m [aB m] true).c=[.int .u8 1,.str p.t,.str m,.ro 2 ((p.s.map (ay x)).map eA) false,.str [],.ro 6 [[.int .u8 2,.str [],.str [],.ro 2 [] true,.str m,.ro 6 [] true]] true]:=by
 rw [Nd.aJ];simp only [aT,List.map_cons,List.map_nil];rw [Nd.aJ];simp [aB]
theorem sV (H:cO C) (x:It) (hk:0≤x.k∧x.k < 18446744073709551616) (hl8:x.m.length≤8) (p:Pt) (hl:p.s.length≤8) (m1 m2 m3 m4 m5 m6 m7 m8:Bs) (r:List Bs) (hm:x.m=[m1,m2,m3,m4,m5,m6,m7,m8]++r) :
 w513_K1 C ⟨[(6,.int .i64 8),(5,.sl 0 6 0 8 8 false),(3,.ptr 9 0 0),(2,.ptr 10 0 0)],[(0,.cells 6 [[.int .u8 1,.str p.t,.str m1,.ro 2 ((p.s.map (ay x)).map eA) false,.str [],.sl 1 6 0 1 1 true],[.int .u8 1,.str p.t,.str m2,.ro 2 ((p.s.map (ay x)).map eA) false,.str [],.sl 2 6 0 1 1 true],[.int .u8 1,.str p.t,.str m3,.ro 2 ((p.s.map (ay x)).map eA) false,.str [],.sl 3 6 0 1 1 true],[.int .u8 1,.str p.t,.str m4,.ro 2 ((p.s.map (ay x)).map eA) false,.str [],.sl 4 6 0 1 1 true],[.int .u8 1,.str p.t,.str m5,.ro 2 ((p.s.map (ay x)).map eA) false,.str [],.sl 5 6 0 1 1 true],[.int .u8 1,.str p.t,.str m6,.ro 2 ((p.s.map (ay x)).map eA) false,.str [],.sl 6 6 0 1 1 true],[.int .u8 1,.str p.t,.str m7,.ro 2 ((p.s.map (ay x)).map eA) false,.str [],.sl 7 6 0 1 1 true],[.int .u8 1,.str p.t,.str m8,.ro 2 ((p.s.map (ay x)).map eA) false,.str [],.sl 8 6 0 1 1 true]] true false),(1,.cells 6 [[.int .u8 2,.str [],.str [],.ro 2 [] true,.str m1,.ro 6 [] true]] true true),(2,.cells 6 [[.int .u8 2,.str [],.str [],.ro 2 [] true,.str m2,.ro 6 [] true]] true true),(3,.cells 6 [[.int .u8 2,.str [],.str [],.ro 2 [] true,.str m3,.ro 6 [] true]] true true),(4,.cells 6 [[.int .u8 2,.str [],.str [],.ro 2 [] true,.str m4,.ro 6 [] true]] true true),(5,.cells 6 [[.int .u8 2,.str [],.str [],.ro 2 [] true,.str m5,.ro 6 [] true]] true true),(6,.cells 6 [[.int .u8 2,.str [],.str [],.ro 2 [] true,.str m6,.ro 6 [] true]] true true),(7,.cells 6 [[.int .u8 2,.str [],.str [],.ro 2 [] true,.str m7,.ro 6 [] true]] true true),(8,.cells 6 [[.int .u8 2,.str [],.str [],.ro 2 [] true,.str m8,.ro 6 [] true]] true true),(9,.cells 4 [[.int .u64 x.k,.int .u8 x.t,.str x.x,.ro 1 (x.m.map eS) x.e]] true true),(10,.cells 6 [p.c] true true)],11⟩ =
  some (.ro 6 (([m1,m2,m3,m4,m5,m6,m7,m8]++r).map fun m=>(aT x p m [aB m] true).c) false):=by
 simp only [w513_K1];rw [ck_unf w513_B1.eq_1]
 have hxl:x.m.length=8+r.length:=by rw [hm];simp;omega
 cases r with
 | nil =>
  simp at hxl
  simp [ck_unf w513_c2.eq_1,hxl,aC]
 | cons m9 r=>simp at hxl;omega
theorem uI (H:cO C) (x:It) (hk:0≤x.k∧x.k < 18446744073709551616) (hl8:x.m.length≤8) (p:Pt) (hl:p.s.length≤8) (m1 m2 m3 m4 m5 m6 m7:Bs) (r:List Bs) (hm:x.m=[m1,m2,m3,m4,m5,m6,m7]++r) :
 w513_K1 C ⟨[(6,.int .i64 7),(5,.sl 0 6 0 7 7 false),(3,.ptr 8 0 0),(2,.ptr 9 0 0)],[(0,.cells 6 [[.int .u8 1,.str p.t,.str m1,.ro 2 ((p.s.map (ay x)).map eA) false,.str [],.sl 1 6 0 1 1 true],[.int .u8 1,.str p.t,.str m2,.ro 2 ((p.s.map (ay x)).map eA) false,.str [],.sl 2 6 0 1 1 true],[.int .u8 1,.str p.t,.str m3,.ro 2 ((p.s.map (ay x)).map eA) false,.str [],.sl 3 6 0 1 1 true],[.int .u8 1,.str p.t,.str m4,.ro 2 ((p.s.map (ay x)).map eA) false,.str [],.sl 4 6 0 1 1 true],[.int .u8 1,.str p.t,.str m5,.ro 2 ((p.s.map (ay x)).map eA) false,.str [],.sl 5 6 0 1 1 true],[.int .u8 1,.str p.t,.str m6,.ro 2 ((p.s.map (ay x)).map eA) false,.str [],.sl 6 6 0 1 1 true],[.int .u8 1,.str p.t,.str m7,.ro 2 ((p.s.map (ay x)).map eA) false,.str [],.sl 7 6 0 1 1 true]] true false),(1,.cells 6 [[.int .u8 2,.str [],.str [],.ro 2 [] true,.str m1,.ro 6 [] true]] true true),(2,.cells 6 [[.int .u8 2,.str [],.str [],.ro 2 [] true,.str m2,.ro 6 [] true]] true true),(3,.cells 6 [[.int .u8 2,.str [],.str [],.ro 2 [] true,.str m3,.ro 6 [] true]] true true),(4,.cells 6 [[.int .u8 2,.str [],.str [],.ro 2 [] true,.str m4,.ro 6 [] true]] true true),(5,.cells 6 [[.int .u8 2,.str [],.str [],.ro 2 [] true,.str m5,.ro 6 [] true]] true true),(6,.cells 6 [[.int .u8 2,.str [],.str [],.ro 2 [] true,.str m6,.ro 6 [] true]] true true),(7,.cells 6 [[.int .u8 2,.str [],.str [],.ro 2 [] true,.str m7,.ro 6 [] true]] true true),(8,.cells 4 [[.int .u64 x.k,.int .u8 x.t,.str x.x,.ro 1 (x.m.map eS) x.e]] true true),(9,.cells 6 [p.c] true true)],10⟩ =
  some (.ro 6 (([m1,m2,m3,m4,m5,m6,m7]++r).map fun m=>(aT x p m [aB m] true).c) false):=by
 simp only [w513_K1];rw [ck_unf w513_B1.eq_1]
 have hxl:x.m.length=7+r.length:=by rw [hm];simp;omega
 cases r with
 | nil =>
  simp at hxl
  simp [ck_unf w513_c2.eq_1,hxl,aC]
 | cons m8 r =>
  have h1:7 < x.m.length:=by rw [hxl];simp
  have hg:x.m[7]=m8:=by
   have q:x.m[7]?=some m8:=by rw [hm];simp
   rw [List.getElem?_eq_getElem h1] at q
   exact Option.some.inj q
  have ha:=aY H.toqg x hk (by omega) p.s p.se hl
  have this:=sV H x hk hl8 p hl m1 m2 m3 m4 m5 m6 m7 m8 r (by rw [hm];simp)
  simp only [w513_K1] at this
  simp [aC] at this
  have h2:(7:Int) < x.m.length:=by omega
  simp (disch:=omega) [h1,h2,hg,ak,aC,ha,H.inl,inlB,H.pp,ppB,this]
theorem tC (H:cO C) (x:It) (hk:0≤x.k∧x.k < 18446744073709551616) (hl8:x.m.length≤8) (p:Pt) (hl:p.s.length≤8) (m1 m2 m3 m4 m5 m6:Bs) (r:List Bs) (hm:x.m=[m1,m2,m3,m4,m5,m6]++r) :
 w513_K1 C ⟨[(6,.int .i64 6),(5,.sl 0 6 0 6 6 false),(3,.ptr 7 0 0),(2,.ptr 8 0 0)],[(0,.cells 6 [[.int .u8 1,.str p.t,.str m1,.ro 2 ((p.s.map (ay x)).map eA) false,.str [],.sl 1 6 0 1 1 true],[.int .u8 1,.str p.t,.str m2,.ro 2 ((p.s.map (ay x)).map eA) false,.str [],.sl 2 6 0 1 1 true],[.int .u8 1,.str p.t,.str m3,.ro 2 ((p.s.map (ay x)).map eA) false,.str [],.sl 3 6 0 1 1 true],[.int .u8 1,.str p.t,.str m4,.ro 2 ((p.s.map (ay x)).map eA) false,.str [],.sl 4 6 0 1 1 true],[.int .u8 1,.str p.t,.str m5,.ro 2 ((p.s.map (ay x)).map eA) false,.str [],.sl 5 6 0 1 1 true],[.int .u8 1,.str p.t,.str m6,.ro 2 ((p.s.map (ay x)).map eA) false,.str [],.sl 6 6 0 1 1 true]] true false),(1,.cells 6 [[.int .u8 2,.str [],.str [],.ro 2 [] true,.str m1,.ro 6 [] true]] true true),(2,.cells 6 [[.int .u8 2,.str [],.str [],.ro 2 [] true,.str m2,.ro 6 [] true]] true true),(3,.cells 6 [[.int .u8 2,.str [],.str [],.ro 2 [] true,.str m3,.ro 6 [] true]] true true),(4,.cells 6 [[.int .u8 2,.str [],.str [],.ro 2 [] true,.str m4,.ro 6 [] true]] true true),(5,.cells 6 [[.int .u8 2,.str [],.str [],.ro 2 [] true,.str m5,.ro 6 [] true]] true true),(6,.cells 6 [[.int .u8 2,.str [],.str [],.ro 2 [] true,.str m6,.ro 6 [] true]] true true),(7,.cells 4 [[.int .u64 x.k,.int .u8 x.t,.str x.x,.ro 1 (x.m.map eS) x.e]] true true),(8,.cells 6 [p.c] true true)],9⟩ =
  some (.ro 6 (([m1,m2,m3,m4,m5,m6]++r).map fun m=>(aT x p m [aB m] true).c) false):=by
 simp only [w513_K1];rw [ck_unf w513_B1.eq_1]
 have hxl:x.m.length=6+r.length:=by rw [hm];simp;omega
 cases r with
 | nil =>
  simp at hxl
  simp [ck_unf w513_c2.eq_1,hxl,aC]
 | cons m7 r =>
  have h1:6 < x.m.length:=by rw [hxl];simp
  have hg:x.m[6]=m7:=by
   have q:x.m[6]?=some m7:=by rw [hm];simp
   rw [List.getElem?_eq_getElem h1] at q
   exact Option.some.inj q
  have ha:=aY H.toqg x hk (by omega) p.s p.se hl
  have this:=uI H x hk hl8 p hl m1 m2 m3 m4 m5 m6 m7 r (by rw [hm];simp)
  simp only [w513_K1] at this
  simp [aC] at this
  have h2:(6:Int) < x.m.length:=by omega
  simp (disch:=omega) [h1,h2,hg,ak,aC,ha,H.inl,inlB,H.pp,ppB,this]
theorem uS (H:cO C) (x:It) (hk:0≤x.k∧x.k < 18446744073709551616) (hl8:x.m.length≤8) (p:Pt) (hl:p.s.length≤8) (m1 m2 m3 m4 m5:Bs) (r:List Bs) (hm:x.m=[m1,m2,m3,m4,m5]++r) :
 w513_K1 C ⟨[(6,.int .i64 5),(5,.sl 0 6 0 5 5 false),(3,.ptr 6 0 0),(2,.ptr 7 0 0)],[(0,.cells 6 [[.int .u8 1,.str p.t,.str m1,.ro 2 ((p.s.map (ay x)).map eA) false,.str [],.sl 1 6 0 1 1 true],[.int .u8 1,.str p.t,.str m2,.ro 2 ((p.s.map (ay x)).map eA) false,.str [],.sl 2 6 0 1 1 true],[.int .u8 1,.str p.t,.str m3,.ro 2 ((p.s.map (ay x)).map eA) false,.str [],.sl 3 6 0 1 1 true],[.int .u8 1,.str p.t,.str m4,.ro 2 ((p.s.map (ay x)).map eA) false,.str [],.sl 4 6 0 1 1 true],[.int .u8 1,.str p.t,.str m5,.ro 2 ((p.s.map (ay x)).map eA) false,.str [],.sl 5 6 0 1 1 true]] true false),(1,.cells 6 [[.int .u8 2,.str [],.str [],.ro 2 [] true,.str m1,.ro 6 [] true]] true true),(2,.cells 6 [[.int .u8 2,.str [],.str [],.ro 2 [] true,.str m2,.ro 6 [] true]] true true),(3,.cells 6 [[.int .u8 2,.str [],.str [],.ro 2 [] true,.str m3,.ro 6 [] true]] true true),(4,.cells 6 [[.int .u8 2,.str [],.str [],.ro 2 [] true,.str m4,.ro 6 [] true]] true true),(5,.cells 6 [[.int .u8 2,.str [],.str [],.ro 2 [] true,.str m5,.ro 6 [] true]] true true),(6,.cells 4 [[.int .u64 x.k,.int .u8 x.t,.str x.x,.ro 1 (x.m.map eS) x.e]] true true),(7,.cells 6 [p.c] true true)],8⟩ =
  some (.ro 6 (([m1,m2,m3,m4,m5]++r).map fun m=>(aT x p m [aB m] true).c) false):=by
 simp only [w513_K1];rw [ck_unf w513_B1.eq_1]
 have hxl:x.m.length=5+r.length:=by rw [hm];simp;omega
 cases r with
 | nil =>
  simp at hxl
  simp [ck_unf w513_c2.eq_1,hxl,aC]
 | cons m6 r =>
  have h1:5 < x.m.length:=by rw [hxl];simp
  have hg:x.m[5]=m6:=by
   have q:x.m[5]?=some m6:=by rw [hm];simp
   rw [List.getElem?_eq_getElem h1] at q
   exact Option.some.inj q
  have ha:=aY H.toqg x hk (by omega) p.s p.se hl
  have this:=tC H x hk hl8 p hl m1 m2 m3 m4 m5 m6 r (by rw [hm];simp)
  simp only [w513_K1] at this
  simp [aC] at this
  have h2:(5:Int) < x.m.length:=by omega
  simp (disch:=omega) [h1,h2,hg,ak,aC,ha,H.inl,inlB,H.pp,ppB,this]
theorem tV (H:cO C) (x:It) (hk:0≤x.k∧x.k < 18446744073709551616) (hl8:x.m.length≤8) (p:Pt) (hl:p.s.length≤8) (m1 m2 m3 m4:Bs) (r:List Bs) (hm:x.m=[m1,m2,m3,m4]++r) :
 w513_K1 C ⟨[(6,.int .i64 4),(5,.sl 0 6 0 4 4 false),(3,.ptr 5 0 0),(2,.ptr 6 0 0)],[(0,.cells 6 [[.int .u8 1,.str p.t,.str m1,.ro 2 ((p.s.map (ay x)).map eA) false,.str [],.sl 1 6 0 1 1 true],[.int .u8 1,.str p.t,.str m2,.ro 2 ((p.s.map (ay x)).map eA) false,.str [],.sl 2 6 0 1 1 true],[.int .u8 1,.str p.t,.str m3,.ro 2 ((p.s.map (ay x)).map eA) false,.str [],.sl 3 6 0 1 1 true],[.int .u8 1,.str p.t,.str m4,.ro 2 ((p.s.map (ay x)).map eA) false,.str [],.sl 4 6 0 1 1 true]] true false),(1,.cells 6 [[.int .u8 2,.str [],.str [],.ro 2 [] true,.str m1,.ro 6 [] true]] true true),(2,.cells 6 [[.int .u8 2,.str [],.str [],.ro 2 [] true,.str m2,.ro 6 [] true]] true true),(3,.cells 6 [[.int .u8 2,.str [],.str [],.ro 2 [] true,.str m3,.ro 6 [] true]] true true),(4,.cells 6 [[.int .u8 2,.str [],.str [],.ro 2 [] true,.str m4,.ro 6 [] true]] true true),(5,.cells 4 [[.int .u64 x.k,.int .u8 x.t,.str x.x,.ro 1 (x.m.map eS) x.e]] true true),(6,.cells 6 [p.c] true true)],7⟩ =
  some (.ro 6 (([m1,m2,m3,m4]++r).map fun m=>(aT x p m [aB m] true).c) false):=by
 simp only [w513_K1];rw [ck_unf w513_B1.eq_1]
 have hxl:x.m.length=4+r.length:=by rw [hm];simp;omega
 cases r with
 | nil =>
  simp at hxl
  simp [ck_unf w513_c2.eq_1,hxl,aC]
 | cons m5 r =>
  have h1:4 < x.m.length:=by rw [hxl];simp
  have hg:x.m[4]=m5:=by
   have q:x.m[4]?=some m5:=by rw [hm];simp
   rw [List.getElem?_eq_getElem h1] at q
   exact Option.some.inj q
  have ha:=aY H.toqg x hk (by omega) p.s p.se hl
  have this:=uS H x hk hl8 p hl m1 m2 m3 m4 m5 r (by rw [hm];simp)
  simp only [w513_K1] at this
  simp [aC] at this
  have h2:(4:Int) < x.m.length:=by omega
  simp (disch:=omega) [h1,h2,hg,ak,aC,ha,H.inl,inlB,H.pp,ppB,this]
theorem tZ (H:cO C) (x:It) (hk:0≤x.k∧x.k < 18446744073709551616) (hl8:x.m.length≤8) (p:Pt) (hl:p.s.length≤8) (m1 m2 m3:Bs) (r:List Bs) (hm:x.m=[m1,m2,m3]++r) :
 w513_K1 C ⟨[(6,.int .i64 3),(5,.sl 0 6 0 3 3 false),(3,.ptr 4 0 0),(2,.ptr 5 0 0)],[(0,.cells 6 [[.int .u8 1,.str p.t,.str m1,.ro 2 ((p.s.map (ay x)).map eA) false,.str [],.sl 1 6 0 1 1 true],[.int .u8 1,.str p.t,.str m2,.ro 2 ((p.s.map (ay x)).map eA) false,.str [],.sl 2 6 0 1 1 true],[.int .u8 1,.str p.t,.str m3,.ro 2 ((p.s.map (ay x)).map eA) false,.str [],.sl 3 6 0 1 1 true]] true false),(1,.cells 6 [[.int .u8 2,.str [],.str [],.ro 2 [] true,.str m1,.ro 6 [] true]] true true),(2,.cells 6 [[.int .u8 2,.str [],.str [],.ro 2 [] true,.str m2,.ro 6 [] true]] true true),(3,.cells 6 [[.int .u8 2,.str [],.str [],.ro 2 [] true,.str m3,.ro 6 [] true]] true true),(4,.cells 4 [[.int .u64 x.k,.int .u8 x.t,.str x.x,.ro 1 (x.m.map eS) x.e]] true true),(5,.cells 6 [p.c] true true)],6⟩ =
  some (.ro 6 (([m1,m2,m3]++r).map fun m=>(aT x p m [aB m] true).c) false):=by
 simp only [w513_K1];rw [ck_unf w513_B1.eq_1]
 have hxl:x.m.length=3+r.length:=by rw [hm];simp;omega
 cases r with
 | nil =>
  simp at hxl
  simp [ck_unf w513_c2.eq_1,hxl,aC]
 | cons m4 r =>
  have h1:3 < x.m.length:=by rw [hxl];simp
  have hg:x.m[3]=m4:=by
   have q:x.m[3]?=some m4:=by rw [hm];simp
   rw [List.getElem?_eq_getElem h1] at q
   exact Option.some.inj q
  have ha:=aY H.toqg x hk (by omega) p.s p.se hl
  have this:=tV H x hk hl8 p hl m1 m2 m3 m4 r (by rw [hm];simp)
  simp only [w513_K1] at this
  simp [aC] at this
  have h2:(3:Int) < x.m.length:=by omega
  simp (disch:=omega) [h1,h2,hg,ak,aC,ha,H.inl,inlB,H.pp,ppB,this]
theorem uG (H:cO C) (x:It) (hk:0≤x.k∧x.k < 18446744073709551616) (hl8:x.m.length≤8) (p:Pt) (hl:p.s.length≤8) (m1 m2:Bs) (r:List Bs) (hm:x.m=[m1,m2]++r) :
 w513_K1 C ⟨[(6,.int .i64 2),(5,.sl 0 6 0 2 2 false),(3,.ptr 3 0 0),(2,.ptr 4 0 0)],[(0,.cells 6 [[.int .u8 1,.str p.t,.str m1,.ro 2 ((p.s.map (ay x)).map eA) false,.str [],.sl 1 6 0 1 1 true],[.int .u8 1,.str p.t,.str m2,.ro 2 ((p.s.map (ay x)).map eA) false,.str [],.sl 2 6 0 1 1 true]] true false),(1,.cells 6 [[.int .u8 2,.str [],.str [],.ro 2 [] true,.str m1,.ro 6 [] true]] true true),(2,.cells 6 [[.int .u8 2,.str [],.str [],.ro 2 [] true,.str m2,.ro 6 [] true]] true true),(3,.cells 4 [[.int .u64 x.k,.int .u8 x.t,.str x.x,.ro 1 (x.m.map eS) x.e]] true true),(4,.cells 6 [p.c] true true)],5⟩ =
  some (.ro 6 (([m1,m2]++r).map fun m=>(aT x p m [aB m] true).c) false):=by
 simp only [w513_K1];rw [ck_unf w513_B1.eq_1]
 have hxl:x.m.length=2+r.length:=by rw [hm];simp;omega
 cases r with
 | nil =>
  simp at hxl
  simp [ck_unf w513_c2.eq_1,hxl,aC]
 | cons m3 r =>
  have h1:2 < x.m.length:=by rw [hxl];simp
  have hg:x.m[2]=m3:=by
   have q:x.m[2]?=some m3:=by rw [hm];simp
   rw [List.getElem?_eq_getElem h1] at q
   exact Option.some.inj q
  have ha:=aY H.toqg x hk (by omega) p.s p.se hl
  have this:=tZ H x hk hl8 p hl m1 m2 m3 r (by rw [hm];simp)
  simp only [w513_K1] at this
  simp [aC] at this
  have h2:(2:Int) < x.m.length:=by omega
  simp (disch:=omega) [h1,h2,hg,ak,aC,ha,H.inl,inlB,H.pp,ppB,this]
theorem tJ (H:cO C) (x:It) (hk:0≤x.k∧x.k < 18446744073709551616) (hl8:x.m.length≤8) (p:Pt) (hl:p.s.length≤8) (m1:Bs) (r:List Bs) (hm:x.m=[m1]++r) :
 w513_K1 C ⟨[(6,.int .i64 1),(5,.sl 0 6 0 1 1 false),(3,.ptr 2 0 0),(2,.ptr 3 0 0)],[(0,.cells 6 [[.int .u8 1,.str p.t,.str m1,.ro 2 ((p.s.map (ay x)).map eA) false,.str [],.sl 1 6 0 1 1 true]] true false),(1,.cells 6 [[.int .u8 2,.str [],.str [],.ro 2 [] true,.str m1,.ro 6 [] true]] true true),(2,.cells 4 [[.int .u64 x.k,.int .u8 x.t,.str x.x,.ro 1 (x.m.map eS) x.e]] true true),(3,.cells 6 [p.c] true true)],4⟩ =
  some (.ro 6 (([m1]++r).map fun m=>(aT x p m [aB m] true).c) false):=by
 simp only [w513_K1];rw [ck_unf w513_B1.eq_1]
 have hxl:x.m.length=1+r.length:=by rw [hm];simp;omega
 cases r with
 | nil =>
  simp at hxl
  simp [ck_unf w513_c2.eq_1,hxl,aC]
 | cons m2 r =>
  have h1:1 < x.m.length:=by rw [hxl];simp
  have hg:x.m[1]=m2:=by
   have q:x.m[1]?=some m2:=by rw [hm];simp
   rw [List.getElem?_eq_getElem h1] at q
   exact Option.some.inj q
  have ha:=aY H.toqg x hk (by omega) p.s p.se hl
  have this:=uG H x hk hl8 p hl m1 m2 r (by rw [hm];simp)
  simp only [w513_K1] at this
  simp [aC] at this
  have h2:(1:Int) < x.m.length:=by omega
  simp (disch:=omega) [h1,h2,hg,ak,aC,ha,H.inl,inlB,H.pp,ppB,this]
theorem sN (H:cO C) (x:It) (hk:0≤x.k∧x.k < 18446744073709551616) (hl8:x.m.length≤8) (p:Pt) (hl:p.s.length≤8) (r:List Bs) (hm:x.m=r) :
 w513_K1 C ⟨[(6,.int .i64 0),(5,.sl 0 6 0 0 0 false),(3,.ptr 1 0 0),(2,.ptr 2 0 0)],[(0,.cells 6 [] true true),(1,.cells 4 [[.int .u64 x.k,.int .u8 x.t,.str x.x,.ro 1 (x.m.map eS) x.e]] true true),(2,.cells 6 [p.c] true true)],3⟩ =
  some (.ro 6 (r.map fun m=>(aT x p m [aB m] true).c) false):=by
 simp only [w513_K1];rw [ck_unf w513_B1.eq_1]
 have hxl:x.m.length=0+r.length:=by rw [hm];simp
 cases r with
 | nil =>
  simp at hxl
  simp [ck_unf w513_c2.eq_1,hxl,aC]
 | cons m1 r =>
  have h1:0 < x.m.length:=by rw [hxl];simp
  have hg:x.m[0]=m1:=by
   have q:x.m[0]?=some m1:=by rw [hm];simp
   rw [List.getElem?_eq_getElem h1] at q
   exact Option.some.inj q
  have ha:=aY H.toqg x hk (by omega) p.s p.se hl
  have this:=tJ H x hk hl8 p hl  m1 r (by rw [hm];simp)
  simp only [w513_K1] at this
  simp [aC] at this
  have h2:(0:Int) < x.m.length:=by omega
  simp (disch:=omega) [h1,h2,hg,ak,aC,ha,H.inl,inlB,H.pp,ppB,this]
def mdF (p:Pt):Bool:=decide (p.k≠5)
theorem sH (H:cO C) (x:It) (hk:0≤x.k∧x.k < 18446744073709551616) (hm:x.m.length≤8) (p:Pt) (hl:p.ch.length≤16)
 (ih:∀ m ∈ p.ch,FnW C 513 [.agg m.c,eIt x]=some (.ro 6 ((md x m).map Nd.c) (mdF m))):∀ n i,n+i=p.ch.length→∀ G:List Nd,G.length≤8 * i →
 w513_K0 C ⟨[(8,.int .i64 i),(7,.ptr 0 0 0),(3,.ptr 2 0 0),(2,.ptr 3 0 0)],[(0,.cells 6 [[.int .u8 1,.str p.t,.str p.y,.ro 2 ((p.s.map (ay x)).map eA) false,.str [],.sl 1 6 0 G.length G.length false]] true false),(1,.cells 6 (G.map Nd.c) true true),(2,.cells 4 [[.int .u64 x.k,.int .u8 x.t,.str x.x,.ro 1 (x.m.map eS) x.e]] true true),(3,.cells 6 [p.c] true true)],4⟩ =
  some (.ro 6 [(aT x p p.y (G++mds x (p.ch.drop i)) false).c] true):=by
 intro n
 induction n with
 | zero =>
  intro i hi G hG
  have h1:p.ch.drop i=[]:=List.drop_eq_nil_of_le (by omega)
  have h3:¬ i < p.ch.length:=by omega
  have h4:List.take G.length (List.map Nd.c G)=List.map Nd.c G:=List.take_of_length_le (by simp)
  have hw:(aT x p p.y G false).c=[.int .u8 1,.str p.t,.str p.y,.ro 2 ((p.s.map (ay x)).map eA) false,.str [],.ro 6 (G.map Nd.c) false]:=by rw [Nd.aJ];rfl
  rw [h1,mds,List.append_nil,hw]
  simp only [w513_K0];rw [ck_unf w513_B0.eq_1]
  simp (disch:=omega) [ck_unf w513_c0.eq_1,h3,h4]
 | succ n ihn =>
  intro i hi G hG
  have h1:i < p.ch.length:=by omega
  have hr:=ih _ (List.getElem_mem h1)
  have hlen:=oW x hm p.ch[i]
  have:=ihn (i+1) (by omega) (G++md x p.ch[i]) (by simp;omega)
  have hfit:(G.length+(md x p.ch[i]).length) * 105≤35184372088832:=by omega
  rw [drop_cons h1,mds,← List.append_assoc]
  generalize (aT x p p.y (G++md x p.ch[i]++mds x (List.drop (i+1) p.ch)) false).c=R at *
  by_cases hE:md x p.ch[i]=[]
  · simp only [w513_K0] at this ⊢;rw [ck_unf w513_B0.eq_1]
    simp [hE] at this
    simp (disch:=omega) [h1,ak,hr,hE,H.inl,inlB,H.pp,ppB,this]
  · simp only [w513_K0] at this ⊢;rw [ck_unf w513_B0.eq_1]
    simp at this
    simp (disch:=omega) [h1,ak,hr,hE,isE hE,hfit,H.inl,inlB,H.pp,ppB,this]
theorem pI (H:cO C) (x:It) (hk:0≤x.k∧x.k < 18446744073709551616) (hm:x.m.length≤8) (p:Pt) (hl:p.ch.length≤16)
 (ih:∀ m ∈ p.ch,FnW C 513 [.agg m.c,eIt x]=some (.ro 6 ((md x m).map Nd.c) (mdF m))):∀ n i,n+i=p.ch.length →
 w513_K0 C ⟨[(8,.int .i64 i),(7,.ptr 0 0 0),(3,.ptr 1 0 0),(2,.ptr 2 0 0)],[(0,.cells 6 [[.int .u8 1,.str p.t,.str p.y,.ro 2 ((p.s.map (ay x)).map eA) false,.str [],.ro 6 [] true]] true true),(1,.cells 4 [[.int .u64 x.k,.int .u8 x.t,.str x.x,.ro 1 (x.m.map eS) x.e]] true true),(2,.cells 6 [p.c] true true)],3⟩ =
  some (.ro 6 [(aT x p p.y (mds x (p.ch.drop i)) (mds x (p.ch.drop i)).isEmpty).c] true):=by
 intro n
 induction n with
 | zero =>
  intro i hi
  have h1:p.ch.drop i=[]:=List.drop_eq_nil_of_le (by omega)
  have h3:¬ i < p.ch.length:=by omega
  have hw:(aT x p p.y [] true).c=[.int .u8 1,.str p.t,.str p.y,.ro 2 ((p.s.map (ay x)).map eA) false,.str [],.ro 6 [] true]:=by rw [Nd.aJ];rfl
  rw [h1,mds,List.isEmpty_nil,hw]
  simp only [w513_K0];rw [ck_unf w513_B0.eq_1]
  simp (disch:=omega) [ck_unf w513_c0.eq_1,h3]
 | succ n ihn =>
  intro i hi
  have h1:i < p.ch.length:=by omega
  have hr:=ih _ (List.getElem_mem h1)
  have hlen:=oW x hm p.ch[i]
  have hfit:((md x p.ch[i]).length) * 105≤35184372088832:=by omega
  rw [drop_cons h1,mds]
  by_cases hE:md x p.ch[i]=[]
  · have:=ihn (i+1) (by omega)
    rw [hE,List.nil_append]
    generalize (aT x p p.y (mds x (List.drop (i+1) p.ch)) (mds x (List.drop (i+1) p.ch)).isEmpty).c=R at *
    simp only [w513_K0] at this ⊢;rw [ck_unf w513_B0.eq_1]
    simp at this
    simp (disch:=omega) [h1,ak,hr,hE,H.inl,inlB,H.pp,ppB,this]
  · have:=sH H x hk hm p hl ih n (i+1) (by omega) (md x p.ch[i]) (by omega)
    have he:(md x p.ch[i]++mds x (List.drop (i+1) p.ch)).isEmpty=false:=isE (by simp [hE])
    rw [he]
    generalize (aT x p p.y (md x p.ch[i]++mds x (List.drop (i+1) p.ch)) false).c=R at *
    simp only [w513_K0] at this ⊢;rw [ck_unf w513_B0.eq_1]
    simp at this
    simp (disch:=omega) [h1,ak,hr,hE,isE hE,hfit,H.inl,inlB,H.pp,ppB,this]
theorem nY (H:cO C) (x:It) (hk:0≤x.k∧x.k < 18446744073709551616) (hm:x.m.length≤8) (p:Pt) (hp:bW p=true)
 (ih:∀ m ∈ p.ch,FnW C 513 [.agg m.c,eIt x]=some (.ro 6 ((md x m).map Nd.c) (mdF m))):FnW C 513 [.agg p.c,eIt x]=some (.ro 6 ((md x p).map Nd.c) (mdF p)):=by
 have hl:=dZ hp
 have hs:=kK hp
 rw [fnW_eq H.wz rfl,qZ]
 unfold mdF
 have hw:∀ s:Bs,(aB s).c=[.int .u8 2,.str [],.str [],.ro 2 [] true,.str s,.ro 6 [] true]:=fun s=>by rw [Nd.aJ];rfl
 rcases kH hp with k1 | k1 | k1 | k1 | k1
 · have h:=pI H x hk hm p hl ih p.ch.length 0 (by simp)
   have ha:=aY H.toqg x hk (by omega) p.s p.se hs.1
   rw [if_neg (by omega),if_neg (by omega),if_neg (by omega),if_neg (by omega)]
   rw [List.drop_zero] at h
   simp only [List.map_cons,List.map_nil]
   generalize (aT x p p.y (mds x p.ch) (mds x p.ch).isEmpty).c=R at *
   simp only [w513_K0] at h
   simp at h
   simp [w513,ck_unf w513_c1.eq_1,k1,ha,H.inl,inlB,H.pp,ppB,h]
 · simp [w513,k1,hw]
 · simp [w513,k1,hw]
 · obtain ⟨k,hk2⟩:∃ k:Nat,x.k=k:=⟨x.k.toNat,by omega⟩
   have hd:=iW H.tooZ k (by omega)
   simp [w513,k1,hw,hk2,hd,H.inl,inlB,H.pp,ppB]
 · have h:=sN H x hk hm p hs.1 x.m rfl
   rw [if_neg (by omega),if_neg (by omega),if_neg (by omega),if_pos k1,List.map_map]
   have hq:(Nd.c ∘ fun m=>aT x p m [aB m] true)=fun m=>(aT x p m [aB m] true).c:=rfl
   rw [hq]
   generalize List.map (fun m=>(aT x p m [aB m] true).c) x.m=R at *
   simp only [w513_K1] at h
   simp [w513,k1,h]
theorem lY (H:cO C) (x:It) (hk:0≤x.k∧x.k < 18446744073709551616) (hm:x.m.length≤8) (p:Pt) (hp:Okp p):FnW C 513 [.agg p.c,eIt x]=some (.ro 6 ((md x p).map Nd.c) (mdF p)):=by
 have ho:∀ m ∈ p.ch,Okp m:=by cases hp;assumption
 exact nY H x hk hm p (by cases hp;assumption) fun m q=>lY H x hk hm m (ho m q)
termination_by SizeOf.sizeOf p
decreasing_by
 have:=List.sizeOf_lt_of_mem q
 have:=Pt.dL p
 omega
theorem mD {x:It} (h:dI x=true):x.m.length≤8:=by
 unfold dI at h
 simp at h
 exact h.2.1
theorem ng (H:cO C) (p:Pt) (hf:aN p) (x:It) (hk:0≤x.k∧x.k < 18446744073709551616) (most:Int) :
 FnW C 501 [.agg p.c,eIt x,.int .i64 most]=some (.tup [.agg (iK p x most).c,.int .i64 (aX p x most)]):=by
 have hz:zN.c=[.int .u8 0,.str [],.str [],.ro 2 [] true,.str [],.ro 6 [] true]:=by rw [Nd.aJ];rfl
 have hc:=iy H.tofM p
 have hi:=oP H.tooM x
 rw [fnW_eq H.wI rfl]
 unfold iK aX
 by_cases c1:most < 1
 · simp [w501,c1,hz]
 · by_cases c2:64 < most
   · simp [w501,c1,c2,hz]
   · by_cases c3:cu p=0
     · rw [c3] at hc
       simp at hc
       simp [w501,c1,c2,c3,hc,hz,H.inl,inlB,H.pp,ppB]
     · rw [if_neg c3] at hc
       cases c4:dI x
       · rw [c4] at hi
         simp at hi
         simp [w501,c1,c2,c3,hc,hi,hz,H.inl,inlB,H.pp,ppB]
       · rw [c4] at hi
         simp at hi
         have hk1:=pW c3
         have hmk:=uw H x hk (mD c4) [p] true (by simp) (by simpa using jJ hf c3)
         have hq:mks x [p]=[mkN x p]:=by unfold mkN;rw [mks,mks,mk_eq,if_pos hk1];rfl
         rw [hq] at hmk
         have hn:=jT H.tojl (mkN x p)
         generalize hN:mkN x p=N at *
         generalize cnt N=K at *
         simp at hmk
         by_cases c5:K=0
         · subst c5
           simp [w501,c1,c2,c3,hc,hi,hz,hmk,hn,H.inl,inlB,H.pp,ppB]
         · by_cases c6:most < K
           · simp [w501,c1,c2,c3,hc,hi,hz,hmk,hn,c5,c6,H.inl,inlB,H.pp,ppB]
           · simp [w501,c1,c2,c3,hc,hi,hz,hmk,hn,c5,c6,H.inl,inlB,H.pp,ppB]
theorem kM (H:cO C) (p:Pt) (hf:aN p) (x:It) (hk:0≤x.k∧x.k < 18446744073709551616) (most:Int) :
 FnW C 425 [.agg p.c,eIt x,.int .i64 most]=some (.tup [.agg (xU p x most).c,.int .i64 (aX p x most)]):=by
 have hz:zN.c=[.int .u8 0,.str [],.str [],.ro 2 [] true,.str [],.ro 6 [] true]:=by rw [Nd.aJ];rfl
 have hc:=kU H.toiU p hf
 have hi:=oU H.tooM x
 rw [fnW_eq H.yh rfl]
 unfold xU aX
 by_cases c1:most < 1
 · simp [w425,c1,hz]
 · by_cases c2:64 < most
   · simp [w425,c1,c2,hz]
   · by_cases c3:cu p=0
     · rw [c3] at hc
       simp at hc
       simp [w425,c1,c2,c3,hc,hz,H.inl,inlB,H.pp,ppB]
     · rw [if_neg c3] at hc
       cases c4:dI x
       · rw [c4] at hi
         simp at hi
         simp [w425,c1,c2,c3,hc,hi,hz,H.inl,inlB,H.pp,ppB]
       · rw [c4] at hi
         simp at hi
         have hk1:=pW c3
         have ho:=jJ hf c3
         have hmk:=lY H x hk (mD c4) p ho
         have hq:md x p=[mdN x p]:=by unfold mdN;rw [qZ,if_neg (by omega),if_neg (by omega),if_neg (by omega),if_neg (by omega)];rfl
         rw [hq] at hmk
         have hn:=gY H.tojR (mdN x p)
         have hn2:=ny H.tojR (mdN x p)
         have hcz:cnt (mkN x p)=cnt (mdN x p):=by rw [← vT,zn x p ho,vT]
         rw [hcz]
         generalize hN:mdN x p=N at *
         generalize cnt N=K at *
         simp at hmk
         by_cases c5:K=0
         · subst c5
           simp at hn2
           simp [w425,c1,c2,c3,hc,hi,hz,hmk,hn,hn2,H.inl,inlB,H.pp,ppB]
         · simp [c5] at hn2
           by_cases c6:most < K
           · simp [w425,c1,c2,c3,hc,hi,hz,hmk,hn,hn2,c5,c6,H.inl,inlB,H.pp,ppB]
           · simp [w425,c1,c2,c3,hc,hi,hz,hmk,hn,hn2,c5,c6,H.inl,inlB,H.pp,ppB]
end Go.D
end
section
namespace Go.D
open Go Go.Pav Go.Pw P
structure Kd where
 p:Pt
 b:Int
 st:Bool
 pl:Int
structure En where
 i:It
 s:Int
 kn:Bool
@[simp] def eKd (k:Kd):List AV:=[.int .u8 k.p.k,.str k.p.t,.str k.p.y,.ro 3 (k.p.s.map eSl) k.p.se,.str k.p.x,.ro 6 (k.p.ch.map Pt.c) k.p.ce,.int .i64 k.b,.bool k.st,.int .i64 k.pl]
@[simp] def cIt (i:It):List AV:=[.int .u64 i.k,.int .u8 i.t,.str i.x,.ro 1 (i.m.map eS) i.e]
@[simp] def eEn (e:En):List AV:=[.int .u64 e.i.k,.int .u8 e.i.t,.str e.i.x,.ro 1 (e.i.m.map eS) e.i.e,.int .i64 e.s,.bool e.kn]
abbrev aR (ks:List Kd) (ke:Bool) (cap:Int):AV:=.agg [.ro 9 (ks.map eKd) ke,.int .i64 cap]
abbrev aL (l:List En) (e:Bool):AV:=.agg [.ro 6 (l.map eEn) e]
abbrev aE (e:En):AV:=.agg (eEn e)
structure bZ (i:It):Prop where
 k:0≤i.k∧i.k < 18446744073709551616
 t:0≤i.t∧i.t≤255
 m:i.m.length≤1000000
structure aK (e:En):Prop where
 i:bZ e.i
 s:-9223372036854775808≤e.s∧e.s≤9223372036854775807
structure bH (ks:List Kd):Prop where
 n:ks.length≤1000000
 f:∀ k ∈ ks,aN k.p
def hOk (n:Int):Bool:=decide (1≤n)&&decide (n≤2305843009213693952)
def jL (k:Kd):Bool:=hOk k.b&&decide (cu k.p≠0)
def dV (ks:List Kd) (cap:Int):Bool:=decide (1≤ks.length)&&decide (ks.length≤8)&&decide (1≤cap)&&decide (cap≤64)&&ks.all jL
def zP:Pt:=⟨0,[],[],[],true,[],[],true⟩
def aF (ks:List Kd) (t:Int):Kd:=(ks[t.toNat]?).getD ⟨zP,0,false,0⟩
def itE (ks:List Kd) (cap:Int) (x:It) (seen:Bool):Int :=
 if aP ks.length x=false then 6 else if seen=true then 8 else if aX (aF ks x.t).p x cap=0 then 0 else 14
def enE (ks:List Kd) (cap:Int) (e:En) (seen:Bool):Int :=
 if itE ks cap e.i seen≠0 then itE ks cap e.i seen else if hOk e.s=true∧(e.kn=true∨e.s=(aF ks e.i.t).b) then 0 else 12
def chk (ks:List Kd) (cap:Int):List Int→List En→Int
 | _,[]=>0
 | seen,e::r=>if enE ks cap e (seen.contains e.i.k)≠0 then enE ks cap e (seen.contains e.i.k) else chk ks cap (seen++[e.i.k]) r
def jK:Int→List En→Int
 | sum,[]=>sum
 | sum,e::r=>if 4611686018427387904 - sum < imax e.s 0 then 4611686018427387905 else jK (sum+imax e.s 0) r
def tot (l:List En):Int:=jK 0 l
def ovE (l:List En):Int:=if 4611686018427387904 < tot l then 13 else 0
def ckE (ks:List Kd) (cap:Int) (l:List En):Int :=
 if dV ks cap=false then 7 else if 1024 < l.length then 3 else if chk ks cap [] l≠0 then chk ks cap [] l else ovE l
def dR (a b:It):Bool:=decide (a.k=b.k)&&decide (a.t=b.t)&&decide (a.x=b.x)&&decide (a.m=b.m)
def bQ (a b:En):Bool:=decide (a.s=b.s)&&decide (a.kn=b.kn)&&dR a.i b.i
def bG:List En→List En→Bool
 | [],[]=>true
 | a::r,b::s=>bQ a b&&bG r s
 | _,_=>false
def It.own (i:It):It:={ i with e:=true }
def En.own (e:En):En:={ e with i:=e.i.own }
def fre (ks:List Kd) (x:It):En:=⟨x,(aF ks x.t).b,false⟩
def spl {α:Type} (l:List α) (at_ count:Nat) (x:List α):List α:=l.take at_++x++l.drop (at_+count)
end Go.D
end
section
end
section
namespace Go.D
open Go Go.Pav Go.Pw P
attribute [-simp] List.getElem_cons_drop
variable {C:WProg}
structure bn (C:WProg):Prop extends HasS C where
 f225:C.fns.get 225=some w225
 f111:C.fns.get 111=some w111
 f227:C.fns.get 227=some w227
 wU:C.fns.get 460=some w460
 yI:C.fns.get 459=some w459
 f340:C.fns.get 340=some w340
 f226:C.fns.get 226=some w226
 f221:C.fns.get 221=some w221
 yP:C.fns.get 400=some w400
 f219:C.fns.get 219=some w219
 f239:C.fns.get 239=some w239
 yQ:C.fns.get 406=some w406
 f240:C.fns.get 240=some w240
 vU:C.fns.get 410=some w410
 f172:C.fns.get 172=some w172
 f112:C.fns.get 112=some w112
 xI:C.fns.get 423=some w423
theorem ig (H:bn C) (n:Int):FnW C 225 [.int .i64 n]=some (.bool (hOk n)):=by
 rw [fnW_eq H.f225 rfl]
 unfold hOk
 by_cases c1:1≤n <;> by_cases c2:n≤2305843009213693952 <;> simp [w225,c1,c2]
theorem uh (s:Int) (h1:-9223372036854775808≤s) (h2:s≤9223372036854775807):0≤imax s 0∧imax s 0≤9223372036854775807:=by
 unfold imax;split <;> omega
theorem rP (H:bn C) (l:List En) (e:Bool) (hl:l.length≤1000000) (hs:∀ x ∈ l,-9223372036854775808≤x.s∧x.s≤9223372036854775807):∀ n i,n+i=l.length→∀ sum:Int,0≤sum→sum≤4611686018427387904 →
 w111_K0 C ⟨[(10,.int .i64 i),(9,.int .i64 l.length),(8,.ro 6 (l.map eEn) e),(3,.int .i64 sum)],[],0⟩=some (.int .i64 (jK sum (l.drop i))):=by
 intro n
 induction n with
 | zero =>
  intro i hi sum s1 s2
  simp only [w111_K0];rw [ck_unf w111_B0.eq_1]
  have h1:l.drop i=[]:=List.drop_eq_nil_of_le (by omega)
  have h3:¬ i < l.length:=by omega
  simp [ck_unf w111_c0.eq_1,h1,h3,jK]
 | succ n ih =>
  intro i hi sum s1 s2
  have h1:i < l.length:=by omega
  have hb:=uh l[i].s (hs _ (List.getElem_mem h1)).1 (hs _ (List.getElem_mem h1)).2
  rw [drop_cons h1,jK]
  generalize hM:imax l[i].s 0=M at *
  by_cases c:4611686018427387904 - sum < M
  · rw [if_pos c]
    simp only [w111_K0];rw [ck_unf w111_B0.eq_1]
    simp (disch:=omega) [h1,ak,hM,c]
  · rw [if_neg c]
    have:=ih (i+1) (by omega) (sum+M) (by omega) (by omega)
    simp only [w111_K0] at this ⊢;rw [ck_unf w111_B0.eq_1]
    simp at this
    simp (disch:=omega) [h1,ak,hM,c,this]
theorem uM (H:bn C) (l:List En) (e:Bool) (hl:l.length≤1000000) (hs:∀ x ∈ l,-9223372036854775808≤x.s∧x.s≤9223372036854775807):FnW C 111 [aL l e]=some (.int .i64 (tot l)):=by
 have h:=rP H l e hl hs l.length 0 (by simp) 0 (by omega) (by omega)
 simp only [w111_K0] at h
 simp at h
 rw [fnW_eq H.f111 rfl]
 unfold tot
 simp [w111,h]
theorem rU (H:bn C) (l:List En) (e:Bool) (hl:l.length≤1000000) (hs:∀ x ∈ l,aK x):FnW C 111 [aL l e]=some (.int .i64 (tot l)):=uM H l e hl fun x hx=>(hs x hx).s
theorem bD (H:bn C) (l:List En) (e:Bool) (hl:l.length≤1000000) (hs:∀ x ∈ l,aK x):FnW C 227 [aL l e]=some (.int .i64 (ovE l)):=by
 have h:=rU H l e hl hs
 rw [fnW_eq H.f227 rfl]
 unfold ovE
 by_cases c:4611686018427387904 < tot l <;> simp [w227,h,H.inl,inlB,H.pp,ppB,c]
def fB (k:Int):Nat→List En→Int
 | _,[]=>-1
 | i,e::r=>if e.i.k=k then i else fB k (i+1) r
def jB (k:Int):Nat→List It→Int
 | _,[]=>-1
 | i,x::r=>if x.k=k then i else jB k (i+1) r
theorem kG (H:bn C) (l:List En) (e:Bool) (k:Int) (hl:l.length≤1000000):∀ n i,n+i=l.length →
 w239_K0 C ⟨[(5,.int .i64 i),(1,.int .u64 k),(0,.ro 6 (l.map eEn) e)],[],0⟩=some (.int .i64 (fB k i (l.drop i))):=by
 intro n
 induction n with
 | zero =>
  intro i hi
  simp only [w239_K0];rw [ck_unf w239_B0.eq_1]
  have h1:l.drop i=[]:=List.drop_eq_nil_of_le (by omega)
  have h3:¬ i < l.length:=by omega
  simp (disch:=omega) [ck_unf w239_c0.eq_1,h1,h3,fB]
 | succ n ih =>
  intro i hi
  have h1:i < l.length:=by omega
  have:=ih (i+1) (by omega)
  rw [drop_cons h1,fB]
  by_cases c:l[i].i.k=k
  · rw [if_pos c]
    simp only [w239_K0];rw [ck_unf w239_B0.eq_1]
    simp (disch:=omega) [h1,ak,c]
  · rw [if_neg c]
    simp only [w239_K0] at this ⊢;rw [ck_unf w239_B0.eq_1]
    simp at this
    simp (disch:=omega) [h1,ak,c,this]
theorem qK (H:bn C) (l:List En) (e:Bool) (k:Int) (hl:l.length≤1000000):FnW C 239 [.ro 6 (l.map eEn) e,.int .u64 k]=some (.int .i64 (fB k 0 l)):=by
 have h:=kG H l e k hl l.length 0 (by simp)
 simp only [w239_K0] at h
 simp at h
 rw [fnW_eq H.f239 rfl]
 simp [w239,h]
theorem jW (H:bn C) (l:List It) (e:Bool) (k:Int) (hl:l.length≤1000000):∀ n i,n+i=l.length →
 w423_K0 C ⟨[(5,.int .i64 i),(1,.int .u64 k),(0,.ro 4 (l.map cIt) e)],[],0⟩=some (.int .i64 (jB k i (l.drop i))):=by
 intro n
 induction n with
 | zero =>
  intro i hi
  simp only [w423_K0];rw [ck_unf w423_B0.eq_1]
  have h1:l.drop i=[]:=List.drop_eq_nil_of_le (by omega)
  have h3:¬ i < l.length:=by omega
  simp (disch:=omega) [ck_unf w423_c0.eq_1,h1,h3,jB]
 | succ n ih =>
  intro i hi
  have h1:i < l.length:=by omega
  have:=ih (i+1) (by omega)
  rw [drop_cons h1,jB]
  by_cases c:l[i].k=k
  · rw [if_pos c]
    simp only [w423_K0];rw [ck_unf w423_B0.eq_1]
    simp (disch:=omega) [h1,ak,c]
  · rw [if_neg c]
    simp only [w423_K0] at this ⊢;rw [ck_unf w423_B0.eq_1]
    simp at this
    simp (disch:=omega) [h1,ak,c,this]
theorem oL (H:bn C) (l:List It) (e:Bool) (k:Int) (hl:l.length≤1000000):FnW C 423 [.ro 4 (l.map cIt) e,.int .u64 k]=some (.int .i64 (jB k 0 l)):=by
 have h:=jW H l e k hl l.length 0 (by simp)
 simp only [w423_K0] at h
 simp at h
 rw [fnW_eq H.xI rfl]
 simp [w423,h]
theorem uT (H:bn C) (b:Bool):FnW C 406 [.bool b]=some (.int .i64 (if b=true then 1 else 0)):=by
 rw [fnW_eq H.yQ rfl]
 cases b <;> simp [w406]
def inR (a c n:Int):Bool:=decide (0≤a)&&decide (a≤n)&&decide (0≤c)&&decide (c≤n - a)
theorem bC (H:bn C) (a c n:Int) (hn:0≤n∧n≤1000000):FnW C 219 [.int .i64 a,.int .i64 c,.int .i64 n]=some (.bool (inR a c n)):=by
 rw [fnW_eq H.f219 rfl]
 unfold inR
 by_cases c1:0≤a <;> by_cases c2:a≤n <;> by_cases c3:0≤c <;> by_cases c4:c≤n - a <;> first
  | (simp (disch:=omega) [w219,c1,c2,c3,c4,ak];done)
  | (simp (disch:=omega) [w219,c1,c2,c3,c4,ak];omega)
theorem eU (H:bn C) (a c n:Int) (hn:0≤n∧n≤1000000):FnW C 410 [.int .i64 a,.int .i64 c,.int .i64 n]=some (.int .i64 (if inR a c n=true then 1 else 0)):=by
 have ht:=uT H true
 have hf:=uT H false
 rw [fnW_eq H.vU rfl]
 unfold inR
 by_cases c1:0≤a <;> by_cases c2:a≤n <;> by_cases c3:0≤c <;> by_cases c4:c≤n - a <;> first
  | (simp (disch:=omega) [w410,c1,c2,c3,c4,ak,ht,hf,H.inl,inlB,H.pp,ppB];done)
  | (simp (disch:=omega) [w410,c1,c2,c3,c4,ak,ht,hf,H.inl,inlB,H.pp,ppB];omega)
end Go.D
end
section
namespace Go.D
open Go Go.Pav Go.Pw P
attribute [-simp] List.getElem_cons_drop
variable {C:WProg}
theorem nN (H:bn C) (m:List Bs) (e:Bool) (hl:m.length≤1000000):FnW C 460 [.ro 1 (m.map eS) e]=some (.ro 1 (m.map eS) true):=by
 rw [fnW_eq H.wU rfl]
 by_cases h:m=[]
 · subst h;simp [w460]
 · have h2:m.length * 17≤35184372088832:=by omega
   have hT:List.take m.length (List.map eS m)=List.map eS m:=List.take_of_length_le (by simp)
   simp (disch:=omega) [w460,h,h2,isE,hT]
theorem jH (H:bn C) (x:It) (e:Bool) (hl:x.m.length≤1000000):FnW C 340 [.ro 4 [cIt x] e]=some (.ro 4 [cIt x.own] true):=by
 have hg:=fun a h n=>aS (args:=[a]) H.yI rfl h n
 have he:=nN H x.m x.e hl
 rw [fnW_eq H.f340 rfl]
 simp (disch:=omega) [w340,ck_unf w340_B0.eq_1,ck_unf w340_c0.eq_1,hg,w459,he,H.inl,inlB,H.pp,ppB,It.own,ak]
theorem qM (H:bn C) (l:List En) (e:Bool) (hl:l.length≤1000000) (hm:∀ x ∈ l,x.i.m.length≤1000000):∀ n i,n+i=l.length→∀ G:List En,G.length=i →
 w226_K0 C ⟨[(15,.int .i64 i),(14,.int .i64 l.length),(13,.ro 6 (l.map eEn) e),(3,.sl 0 6 0 l.length l.length true),(2,.ptr 1 0 0)],[(0,.cells 6 (G.map eEn++List.replicate n [.int .u64 0,.int .u8 0,.str [],.ro 1 [] true,.int .i64 0,.bool false]) true true),(1,.cells 1 [[.ro 6 [] true]] true true)],2⟩ =
  some (aL (G++(l.drop i).map En.own) true):=by
 intro n
 induction n with
 | zero =>
  intro i hi G hG
  have h1:l.drop i=[]:=List.drop_eq_nil_of_le (by omega)
  have h3:¬ i < l.length:=by omega
  have h6:List.take l.length (List.map eEn G)=List.map eEn G:=List.take_of_length_le (by simp;omega)
  have h7:G.length=l.length:=by omega
  simp only [w226_K0];rw [ck_unf w226_B0.eq_1]
  simp [ck_unf w226_c0.eq_1,h1,h3,h6,h7]
 | succ n ih =>
  intro i hi G hG
  have h1:i < l.length:=by omega
  have hc:=jH H l[i].i true (hm _ (List.getElem_mem h1))
  have:=ih (i+1) (by omega) (G++[l[i].own]) (by simp [hG])
  rw [drop_cons h1]
  simp only [w226_K0] at this ⊢;rw [ck_unf w226_B0.eq_1]
  simp [It.own] at hc
  simp [En.own,It.own] at this
  simp (disch:=omega) [h1,ak,hc,eF,eu,hG,H.inl,inlB,H.pp,ppB,En.own,It.own,this]
theorem iT (H:bn C) (l:List En) (e:Bool) (hl:l.length≤1000000) (hm:∀ x ∈ l,x.i.m.length≤1000000):FnW C 226 [.ro 6 (l.map eEn) e]=some (aL (l.map En.own) true):=by
 rw [fnW_eq H.f226 rfl]
 by_cases hne:l=[]
 · subst hne;simp [w226]
 · have h:=qM H l e hl hm l.length 0 (by simp) [] rfl
   have h2:l.length * 73≤35184372088832:=by omega
   simp only [w226_K0] at h
   simp at h
   simp (disch:=omega) [w226,hne,h2,h]
section
variable {β:Type} {base:Nat} {fin:Ex × WSt→Option β} {K:List Pw.Frame} {a:Ann} {l:List COper} {d:Option Nat} {e:Env} {n:Nat}
theorem uJ {z bytes N nid:Nat} {zz:List AV} {xs:List (List AV)} {ex:Bool} (h:xs.length≤N) :
 SK C base fin K a l d e [(0,.cells z (List.replicate N zz) true true)] n (wEvApp [(0,.cells z (List.replicate N zz) true true)] nid z bytes (.sl 0 z 0 0 N ex) xs true) =
  OK C base fin K a l ⟨setD e d (.sl 0 z 0 xs.length N ex),[(0,.cells z (xs++List.replicate (N - xs.length) zz) true true)],n⟩:=by
 by_cases c:xs=[]
 · subst c;simp [sk_some]
 · simp [isE c,h,sk_some]
theorem oQ {z bytes N nid k m:Nat} {zz:List AV} {A xs:List (List AV)} {ex:Bool} (hA:A.length=k) (hm:k+m=N) (h:xs.length≤m) :
 SK C base fin K a l d e [(0,.cells z (A++List.replicate m zz) true true)] n (wEvApp [(0,.cells z (A++List.replicate m zz) true true)] nid z bytes (.sl 0 z 0 k N ex) xs true) =
  OK C base fin K a l ⟨setD e d (.sl 0 z 0 (k+xs.length) N ex),[(0,.cells z (A++(xs++List.replicate (m - xs.length) zz)) true true)],n⟩:=by
 have h1:k+xs.length≤N:=by omega
 have h2:List.take k A=A:=List.take_of_length_le (by omega)
 have h3:List.drop (k+xs.length) A=[]:=List.drop_eq_nil_of_le (by omega)
 by_cases c:xs=[]
 · subst c;simp [sk_some]
 · simp (disch:=omega) [isE c,hA,hm,h1,h2,h3,sk_some,List.take_append,List.drop_append]
theorem uD {z bytes N nid k m:Nat} {zz:List AV} {A B xs:List (List AV)} {ex:Bool} (hA:A.length+B.length=k) (hm:k+m=N) (h:xs.length≤m) :
 SK C base fin K a l d e [(0,.cells z (A++(B++List.replicate m zz)) true true)] n (wEvApp [(0,.cells z (A++(B++List.replicate m zz)) true true)] nid z bytes (.sl 0 z 0 k N ex) xs true) =
  OK C base fin K a l ⟨setD e d (.sl 0 z 0 (k+xs.length) N ex),[(0,.cells z (A++(B++(xs++List.replicate (m - xs.length) zz))) true true)],n⟩:=by
 have:=oQ (C:=C) (base:=base) (fin:=fin) (K:=K) (a:=a) (l:=l) (d:=d) (e:=e) (n:=n) (z:=z) (bytes:=bytes) (N:=N) (nid:=nid) (k:=k) (m:=m) (zz:=zz) (A:=A++B) (xs:=xs) (ex:=ex) (by simpa using hA) hm h
 simpa only [List.append_assoc] using this
end
theorem aO {α:Type} (l x:List α) (a c:Nat) (h:a+c≤l.length):(spl l a c x).length=l.length - c+x.length:=by
 unfold spl;simp;omega
theorem bP (H:bn C) (l x:List En) (e e2:Bool) (a c:Nat) (hl:l.length≤1000000) (hx:x.length≤1000000) (hac:a+c≤l.length) :
 FnW C 221 [.ro 6 (l.map eEn) e,.int .i64 a,.int .i64 c,.ro 6 (x.map eEn) e2]=some (.ro 6 ((spl l a c x).map eEn) true):=by
 rw [fnW_eq H.f221 rfl]
 obtain ⟨N,hN,hN2⟩:∃ N:Nat,(l.length:Int) - c+x.length=N∧N=l.length - c+x.length:=⟨_,by omega,rfl⟩
 have h1:(c:Int)≤l.length:=by omega
 have h2:N * 73≤35184372088832:=by omega
 have hA:min a l.length=a:=by omega
 have h3:a≤N:=by omega
 have h4:a+x.length≤N:=by omega
 have h5:a+x.length+(l.length - (a+c))=N:=by omega
 have h6:a≤l.length:=by omega
 have hT:List.take l.length (List.map eEn l)=List.map eEn l:=List.take_of_length_le (by simp)
 have h9:a+(x.length+(l.length - (a+c)))=N:=by omega
 have h7:N - a - x.length=l.length - (a+c):=by omega
 have h8:List.take N (List.map eEn (spl l a c x))=List.map eEn (spl l a c x):=List.take_of_length_le (by simp [spl];omega)
 simp only [spl] at h8 ⊢
 simp at h8
 simp (disch:=first | omega | (simp;done) | (simp;omega)) [w221,ak,h1,hN,h2,hA,h3,h4,h5,h6,hac,-wEvApp_sl,uJ,oQ,uD,hT,h7,h8,h9]
end Go.D
end
section
namespace Go.D
open Go Go.Pav Go.Pw P
attribute [-simp] List.getElem_cons_drop
variable {C:WProg}
structure fK (C:WProg):Prop extends cO C,bn C where
 xX:C.fns.get 399=some w399
 f230:C.fns.get 230=some w230
 yJ:C.fns.get 405=some w405
 f232:C.fns.get 232=some w232
 f115:C.fns.get 115=some w115
 f271:C.fns.get 271=some w271
 f223:C.fns.get 223=some w223
theorem dw {ks:List Kd} {t:Nat} (h:t < ks.length):aF ks t=ks[t]:=by
 unfold aF;simp [h]
theorem bV {n:Int} {x:It} (h:aP n x=true):x.t < n:=by
 unfold aP at h;simp at h;exact h.1.1.2
theorem bU (H:fK C) (ks:List Kd) (ke:Bool) (cap:Int) (x:It) (hx:bZ x) (ht:x.t < ks.length) (hr:bH ks) :
 FnW C 399 [aR ks ke cap,eIt x]=some (.tup [.agg (iK (aF ks x.t).p x cap).c,.int .i64 (aX (aF ks x.t).p x cap)]):=by
 obtain ⟨t,hT⟩:∃ t:Nat,x.t=t:=⟨x.t.toNat,by have:=hx.t;omega⟩
 have h1:t < ks.length:=by omega
 have h:=ng H.tocO ks[t].p (hr.f _ (List.getElem_mem h1)) x hx.k cap
 rw [hT,dw h1]
 rw [fnW_eq H.xX rfl]
 generalize (iK ks[t].p x cap)=N at *
 generalize aX ks[t].p x cap=E at *
 rw [Pt.aJ] at h
 simp only [eIt,hT] at h
 simp (disch:=omega) [w399,hT,h1,h,H.inl,inlB,H.pp,ppB]
theorem yB (H:fK C) (k:Kd):FnW C 230 [.agg (eKd k)]=some (.bool (!jL k)):=by
 have h1:=ig H.tobn k.b
 have h2:=iy H.tofM k.p
 rw [Pt.aJ] at h2
 rw [fnW_eq H.f230 rfl]
 unfold jL
 generalize hOk k.b=X at *
 cases X
 · simp [w230,h1,H.inl,inlB,H.pp,ppB]
 · by_cases c:cu k.p=0
   · simp [c] at h2
     simp [w230,h1,h2,c,H.inl,inlB,H.pp,ppB]
   · simp [c] at h2
     simp [w230,h1,h2,c,H.inl,inlB,H.pp,ppB]
theorem jd (H:fK C) (ks:List Kd) (e:Bool) (hl:ks.length≤1000000):∀ n i,n+i=ks.length →
 ∃ v:Int,w405_K0 C ⟨[(8,.int .i64 i),(7,.int .i64 ks.length),(1,.fn 230 []),(0,.ro 9 (ks.map eKd) e)],[],0⟩=some (.int .i64 v)∧decide (v < 0)=(ks.drop i).all jL:=by
 intro n
 induction n with
 | zero =>
  intro i hi
  simp only [w405_K0];rw [ck_unf w405_B0.eq_1]
  have h1:ks.drop i=[]:=List.drop_eq_nil_of_le (by omega)
  have h3:¬ i < ks.length:=by omega
  exact ⟨-1,by simp (disch:=omega) [ck_unf w405_c0.eq_1,h1,h3],by simp [h1]⟩
 | succ n ih =>
  intro i hi
  have h1:i < ks.length:=by omega
  have hb:=yB H ks[i]
  simp only [eKd] at hb
  rw [drop_cons h1]
  cases c:jL ks[i]
  · refine ⟨i,?_,by simp [c]⟩
    rw [c] at hb
    simp only [w405_K0];rw [ck_unf w405_B0.eq_1]
    simp (disch:=omega) [h1,hb,H.inl,inlB,H.pp,ppB]
  · obtain ⟨v,hv,hq⟩:=ih (i+1) (by omega)
    refine ⟨v,?_,by simp [hq,c]⟩
    rw [c] at hb
    simp only [w405_K0] at hv ⊢;rw [ck_unf w405_B0.eq_1]
    simp at hv
    simp (disch:=omega) [h1,ak,hb,H.inl,inlB,H.pp,ppB,hv]
theorem iV (H:fK C) (ks:List Kd) (e:Bool) (hl:ks.length≤1000000):FnW C 232 [.ro 9 (ks.map eKd) e,.fn 230 []]=some (.bool (!ks.all jL)):=by
 obtain ⟨v,h,q⟩:=jd H ks e hl ks.length 0 (by simp)
 simp only [w405_K0] at h
 simp at h
 have h2:FnW C 405 [.ro 9 (ks.map eKd) e,.fn 230 []]=some (.int .i64 v):=by
  rw [fnW_eq H.yJ rfl]
  simp [w405,h]
 rw [fnW_eq H.f232 rfl]
 rw [List.drop_zero] at q
 rw [← q]
 by_cases c:v < 0
 · have c':¬ 0≤v:=by omega
   simp [w232,H.inl,inlB,H.pp,ppB,h2,c,c']
 · have c':0≤v:=by omega
   simp [w232,H.inl,inlB,H.pp,ppB,h2,c,c']
theorem qm (H:fK C) (ks:List Kd) (ke:Bool) (cap:Int) (hr:bH ks):FnW C 115 [aR ks ke cap]=some (.int .i64 (if dV ks cap=true then 0 else 7)):=by
 have h:=iV H ks ke hr.n
 have hl:=hr.n
 rw [fnW_eq H.f115 rfl]
 unfold dV
 by_cases c1:1≤ks.length
 · have c1':¬ ((ks.length:Int) < 1):=by omega
   by_cases c2:ks.length≤8
   · have c2':¬ (8 < (ks.length:Int)):=by omega
     by_cases c3:1≤cap
     · have c3':¬ cap < 1:=by omega
       by_cases c4:cap≤64
       · have c4':¬ 64 < cap:=by omega
         cases c5:ks.all jL
         · rw [c5] at h
           simp [w115,c1,c1',c2,c2',c3,c3',c4,c4',h,H.inl,inlB,H.pp,ppB]
         · rw [c5] at h
           simp [w115,c1,c1',c2,c2',c3,c3',c4,c4',h,H.inl,inlB,H.pp,ppB]
       · have c4':64 < cap:=by omega
         simp [w115,c1,c1',c2,c2',c3,c3',c4,c4']
     · have c3':cap < 1:=by omega
       simp [w115,c1,c1',c2,c2',c3,c3']
   · have c2':(8 < (ks.length:Int)):=by omega
     simp [w115,c1,c1',c2,c2']
 · have c1':((ks.length:Int) < 1):=by omega
   simp [w115,c1,c1']
theorem jg (H:fK C) (ks:List Kd) (ke:Bool) (cap:Int) (x:It) (hx:bZ x) (hr:bH ks) (seen:Bool) :
 FnW C 271 [aR ks ke cap,eIt x,.int .i64 (if seen=true then 1 else 0)]=some (.int .i64 (itE ks cap x seen)):=by
 have hc:=nG H.tojm x ks.length hx.t hx.m
 rw [fnW_eq H.f271 rfl]
 unfold itE
 cases c1:aP ks.length x
 · rw [c1] at hc
   simp at hc
   simp [w271,hc,H.inl,inlB,H.pp,ppB]
 · rw [c1] at hc
   cases seen
   · have ht:=bV c1
     obtain ⟨t,hT⟩:∃ t:Nat,x.t=t:=⟨x.t.toNat,by have:=hx.t;omega⟩
     have h1:t < ks.length:=by omega
     have h:=kM H.tocO ks[t].p (hr.f _ (List.getElem_mem h1)) x hx.k cap
     rw [hT,dw h1]
     have hE:0≤aX ks[t].p x cap:=by unfold aX;repeat (first | omega | split)
     generalize (xU ks[t].p x cap)=N at *
     generalize aX ks[t].p x cap=E at *
     rw [Pt.aJ] at h
     simp only [eIt,hT] at h hc
     by_cases c:E=0
     · subst c
       simp at hc
       simp (disch:=omega) [w271,hc,hT,h1,h,H.inl,inlB,H.pp,ppB]
     · have c':0 < E:=by omega
       simp at hc
       simp (disch:=omega) [w271,hc,hT,h1,h,c,c',H.inl,inlB,H.pp,ppB]
   · simp at hc
     simp [w271,hc,H.inl,inlB,H.pp,ppB]
def bI (s:List Int):List (AV × AV):=s.map fun k=>(.int .u64 k,.bool true)
theorem fV:bI []=[]:=rfl
theorem dD (k:Int):∀ s:List Int,mapGet (bI s) (.int .u64 k)=some (if s.contains k=true then some (.bool true) else none)
 | []=>rfl
 | a::r=>by
  have ih:=dD k r
  unfold bI at ih ⊢
  rw [List.map_cons,mapGet]
  simp only [eqCell,if_true,ob]
  by_cases c:k=a
  · subst c;simp
  · simp [c,ih]
theorem dn (k:Int):∀ s:List Int,s.contains k=false→mapPut (bI s) (.int .u64 k) (.bool true)=some (bI (s++[k]))
 | [],_=>rfl
 | a::r,h=>by
  simp at h
  have ih:=dn k r (by simpa using h.2)
  unfold bI at ih ⊢
  rw [List.map_cons,mapPut]
  simp only [eqCell,if_true,ob]
  simp [h.1,ih,om]
abbrev aA (l:List En):List Int:=l.map fun e=>e.i.k
theorem kV (H:fK C) (ks:List Kd) (ke:Bool) (cap:Int) (hr:bH ks) (l:List En) (e:Bool) (hl:l.length≤1000000) (hs:∀ x ∈ l,aK x):∀ n i,n+i=l.length→∀ seen:List Int,
 w223_K0 C ⟨[(25,.int .i64 i),(24,.int .i64 l.length),(23,.ro 6 (l.map eEn) e),(6,.map 0),(3,.ptr 1 0 0),(2,.ptr 2 0 0)],[(0,.map (bI seen)),(1,.cells 1 [[.ro 6 (l.map eEn) e]] true true),(2,.cells 2 [[.ro 9 (ks.map eKd) ke,.int .i64 cap]] true true)],3⟩ =
  some (.int .i64 (if chk ks cap seen (l.drop i)≠0 then chk ks cap seen (l.drop i) else ovE l)):=by
 intro n
 induction n with
 | zero =>
  intro i hi seen
  have ht:=bD H.tobn l e hl hs
  simp only [w223_K0];rw [ck_unf w223_B0.eq_1]
  have h1:l.drop i=[]:=List.drop_eq_nil_of_le (by omega)
  have h3:¬ i < l.length:=by omega
  simp (disch:=omega) [ck_unf w223_c0.eq_1,h1,h3,chk,ht,H.inl,inlB,H.pp,ppB]
 | succ n ih =>
  intro i hi seen
  have h1:i < l.length:=by omega
  have hx:=hs _ (List.getElem_mem h1)
  have hc:=dh H.tojm l[i].i ks.length hx.i.t
  have hg:=dD l[i].i.k seen
  rw [drop_cons h1,chk]
  cases c1:aP ks.length l[i].i
  · have hE:enE ks cap l[i] (seen.contains l[i].i.k)=6:=by unfold enE itE;simp [c1]
    rw [hE]
    rw [c1] at hc
    simp at hc
    simp only [w223_K0];rw [ck_unf w223_B0.eq_1]
    simp (disch:=omega) [h1,hc,H.inl,inlB,H.pp,ppB]
  · rw [c1] at hc
    simp at hc
    cases c2:seen.contains l[i].i.k
    · have ht:=bV c1
      obtain ⟨t,hT⟩:∃ t:Nat,l[i].i.t=t:=⟨l[i].i.t.toNat,by have:=hx.i.t;omega⟩
      have h2:t < ks.length:=by omega
      have hp:=dn l[i].i.k seen c2
      have hre:=bU H ks ke cap l[i].i hx.i ht hr
      have hh:=ig H.tobn l[i].s
      have this:=ih (i+1) (by omega) (seen++[l[i].i.k])
      rw [c2] at hg
      simp only [aR,eIt] at hre
      have hk:=dw h2
      have hE:enE ks cap l[i] false=if aX ks[t].p l[i].i cap=0 then (if hOk l[i].s=true∧(l[i].kn=true∨l[i].s=ks[t].b) then 0 else 12) else 14:=by
       unfold enE itE
       rw [c1,hT,hk]
       by_cases q:aX ks[t].p l[i].i cap=0 <;> simp [q]
      simp only [eIt,hT,hk] at hc hre
      generalize iK ks[t].p l[i].i cap=N at *
      generalize aX ks[t].p l[i].i cap=E at *
      by_cases c3:E=0
      · subst c3
        cases c4:hOk l[i].s
        · rw [c4] at hh
          have hE':enE ks cap l[i] false=12:=by rw [hE];simp [c4]
          rw [hE']
          simp only [w223_K0];rw [ck_unf w223_B0.eq_1]
          simp (disch:=omega) [h1,h2,hT,hc,hg,hp,hre,hh,H.inl,inlB,H.pp,ppB]
        · rw [c4] at hh
          cases c5:l[i].kn
          · by_cases c6:l[i].s=ks[t].b
            · have hE':enE ks cap l[i] false=0:=by rw [hE,if_pos rfl,if_pos ⟨c4,.inr c6⟩]
              rw [hE']
              simp only [w223_K0] at this ⊢;rw [ck_unf w223_B0.eq_1]
              generalize chk ks cap (seen++[l[i].i.k]) (List.drop (i+1) l)=Z at *
              simp at this
              simp (disch:=omega) [h1,h2,hT,hc,hg,hp,hre,hh,c5,eq_true c6,ak,H.inl,inlB,H.pp,ppB,this]
            · have hE':enE ks cap l[i] false=12:=by rw [hE];simp [c5,c6]
              rw [hE']
              simp only [w223_K0];rw [ck_unf w223_B0.eq_1]
              simp (disch:=omega) [h1,h2,hT,hc,hg,hp,hre,hh,c5,c6,H.inl,inlB,H.pp,ppB]
          · have hE':enE ks cap l[i] false=0:=by rw [hE];simp [c4,c5]
            rw [hE']
            simp only [w223_K0] at this ⊢;rw [ck_unf w223_B0.eq_1]
            generalize chk ks cap (seen++[l[i].i.k]) (List.drop (i+1) l)=Z at *
            simp at this
            simp (disch:=omega) [h1,h2,hT,hc,hg,hp,hre,hh,c5,ak,H.inl,inlB,H.pp,ppB,this]
      · have hE':enE ks cap l[i] false=14:=by rw [hE];simp [c3]
        rw [hE']
        simp only [w223_K0];rw [ck_unf w223_B0.eq_1]
        simp (disch:=omega) [h1,h2,hT,hc,hg,hp,hre,c3,H.inl,inlB,H.pp,ppB]
    · have hE:enE ks cap l[i] true=8:=by unfold enE itE;simp [c1]
      rw [hE]
      rw [c2] at hg
      simp only [w223_K0];rw [ck_unf w223_B0.eq_1]
      simp (disch:=omega) [h1,hc,hg,H.inl,inlB,H.pp,ppB]
theorem aW (H:fK C) (ks:List Kd) (ke:Bool) (cap:Int) (hr:bH ks) (l:List En) (e:Bool) (hl:l.length≤1000000) (hs:∀ x ∈ l,aK x) :
 FnW C 223 [aR ks ke cap,aL l e]=some (.int .i64 (ckE ks cap l)):=by
 have hv:=qm H ks ke cap hr
 have h:=kV H ks ke cap hr l e hl hs l.length 0 (by simp) []
 rw [List.drop_zero,fV] at h
 rw [fnW_eq H.f223 rfl]
 unfold ckE
 generalize (if chk ks cap [] l≠0 then chk ks cap [] l else ovE l)=R at *
 simp only [w223_K0] at h
 simp at h
 cases c1:dV ks cap
 · rw [c1] at hv
   simp at hv
   simp [w223,hv,H.inl,inlB,H.pp,ppB]
 · rw [c1] at hv
   simp at hv
   by_cases c2:1024 < l.length
   · have c2':1024 < (l.length:Int):=by omega
     simp [w223,hv,c2,c2',H.inl,inlB,H.pp,ppB]
   · have c2':¬ 1024 < (l.length:Int):=by omega
     simp [w223,hv,c2,c2',h,H.inl,inlB,H.pp,ppB]
def aI (ks:List Kd) (cap:Int):List Int→List It→Int
 | _,[]=>0
 | seen,x::r=>if itE ks cap x (seen.contains x.k)≠0 then itE ks cap x (seen.contains x.k) else aI ks cap (seen++[x.k]) r
structure fP (C:WProg):Prop extends fK C where
 f216:C.fns.get 216=some w216
 f222:C.fns.get 222=some w222
 wE:C.fns.get 409=some w409
 f228:C.fns.get 228=some w228
 f229:C.fns.get 229=some w229
 f110:C.fns.get 110=some w110
 f237:C.fns.get 237=some w237
 f114:C.fns.get 114=some w114
theorem fF (H:fK C) (ks:List Kd) (ke:Bool) (cap:Int) (x:It) (hx:bZ x) (ht:x.t < ks.length) :
 FnW C 240 [aR ks ke cap,eIt x]=some (aE (fre ks x)):=by
 obtain ⟨t,hT⟩:∃ t:Nat,x.t=t:=⟨x.t.toNat,by have:=hx.t;omega⟩
 have h1:t < ks.length:=by omega
 rw [fnW_eq H.f240 rfl]
 unfold fre
 rw [hT,dw h1]
 simp (disch:=omega) [w240,hT,h1]
theorem lI (H:fK C) (ks:List Kd) (ke:Bool) (cap:Int) (x:List It) (e:Bool) (hxl:x.length≤1000000) (hx:∀ i ∈ x,bZ i∧i.t < ks.length):∀ n i,n+i=x.length→∀ G:List En,G.length=i →
 w400_K0 C ⟨[(13,.int .i64 i),(12,.int .i64 x.length),(11,.ro 4 (x.map cIt) e),(5,.sl 0 6 0 x.length x.length true),(2,.ptr 1 0 0)],[(0,.cells 6 (G.map eEn++List.replicate n [.int .u64 0,.int .u8 0,.str [],.ro 1 [] true,.int .i64 0,.bool false]) true true),(1,.cells 2 [[.ro 9 (ks.map eKd) ke,.int .i64 cap]] true true)],2⟩ =
  some (.ro 6 ((G++(x.drop i).map (fre ks)).map eEn) true):=by
 intro n
 induction n with
 | zero =>
  intro i hi G hG
  have h1:x.drop i=[]:=List.drop_eq_nil_of_le (by omega)
  have h3:¬ i < x.length:=by omega
  have h6:List.take x.length (List.map eEn G)=List.map eEn G:=List.take_of_length_le (by simp;omega)
  have h7:G.length=x.length:=by omega
  simp only [w400_K0];rw [ck_unf w400_B0.eq_1]
  simp [ck_unf w400_c0.eq_1,h1,h3,h6,h7]
 | succ n ih =>
  intro i hi G hG
  have h1:i < x.length:=by omega
  have hxi:=hx _ (List.getElem_mem h1)
  obtain ⟨t,hT⟩:∃ t:Nat,x[i].t=t:=⟨x[i].t.toNat,by have:=hxi.1.t;omega⟩
  have h2:t < ks.length:=by have:=hxi.2;omega
  have:=ih (i+1) (by omega) (G++[fre ks x[i]]) (by simp [hG])
  rw [drop_cons h1]
  simp only [w400_K0] at this ⊢;rw [ck_unf w400_B0.eq_1]
  simp [fre,hT,dw h2] at this
  simp (disch:=omega) [h1,h2,hT,ak,eF,eu,hG,fre,dw h2,this]
theorem fresh_ok (H:fK C) (ks:List Kd) (ke:Bool) (cap:Int) (x:List It) (e:Bool) (hxl:x.length≤1000000) (hx:∀ i ∈ x,bZ i∧i.t < ks.length) :
 FnW C 400 [aR ks ke cap,.ro 4 (x.map cIt) e]=some (.ro 6 ((x.map (fre ks)).map eEn) true):=by
 rw [fnW_eq H.yP rfl]
 by_cases hne:x=[]
 · subst hne
   simp (disch:=omega) [w400,ck_unf w400_B0.eq_1,ck_unf w400_c0.eq_1]
 · have h:=lI H ks ke cap x e hxl hx x.length 0 (by simp) [] rfl
   have h2:x.length * 73≤35184372088832:=by omega
   simp only [w400_K0] at h
   simp at h
   simp (disch:=omega) [w400,hne,h2,h]
theorem jC (H:fP C) (X:AV) (hX:∃ es ex,X=.ro 6 es ex) (l:List En) (e:Bool) (a c:Nat) (hl:l.length≤1000000) (hac:a+c≤l.length) :
 FnW C 222 [X,.rop [.ro 6 (l.map eEn) e],.rop [.int .i64 a],.rop [.int .i64 c]]=some (.ro 6 ((spl l a c []).map eEn) true):=by
 obtain ⟨es,ex,rfl⟩:=hX
 have h:=bP H.tobn l [] e true a c hl (by simp) hac
 simp only [List.map_nil] at h
 rw [fnW_eq H.f222 rfl]
 generalize spl l a c []=R at *
 simp [w222,h,H.inl,inlB,H.pp,ppB]
theorem qC (H:fP C) (x:List En) (ex:Bool) (y:List It) (ye:Bool) (hxl:x.length≤1000000) (hxy:y.length=x.length) (l:List En) (e:Bool) (a:Nat) (hl:l.length≤1000000) (hac:a+x.length≤l.length) :
 FnW C 229 [.ro 6 (x.map eEn) ex,.rop [.ro 6 (l.map eEn) e],.rop [.int .i64 a],.rop [.ro 4 (y.map cIt) ye]]=some (.ro 6 ((spl l a x.length x).map eEn) true):=by
 have h:=bP H.tobn l x e ex a x.length hl hxl hac
 rw [fnW_eq H.f229 rfl]
 generalize spl l a x.length x=R at *
 simp [w229,hxy,h,H.inl,inlB,H.pp,ppB]
theorem qX (H:fP C) (X:AV) (hX:∃ es ex,X=.ro 6 es ex) (l:List En) (e:Bool) (a c t:Nat) (hl:l.length≤1000000) (hac:a+c≤l.length) (ht:t≤l.length - c) :
 FnW C 409 [X,.rop [.ro 6 (l.map eEn) e],.rop [.int .i64 a],.rop [.int .i64 c],.rop [.int .i64 t]]=some (.ro 6 ((spl (spl l a c []) t 0 ((l.take (a+c)).drop a)).map eEn) true):=by
 obtain ⟨es,ex,rfl⟩:=hX
 have h:=bP H.tobn l [] e true a c hl (by simp) hac
 have hlen:=aO l [] a c hac
 simp only [List.map_nil] at h
 have h2:=fun e2=>bP H.tobn (spl l a c []) ((l.take (a+c)).drop a) true e2 t 0 (by rw [hlen];simp;omega) (by simp;omega) (by rw [hlen];simp;omega)
 have h3:a≤l.length:=by omega
 have h5:a≤a+c:=by omega
 simp only [List.map_drop,List.map_take,show ((0:Nat):Int)=0 from rfl] at h2
 rw [fnW_eq H.wE rfl]
 generalize spl (spl l a c []) t 0 ((l.take (a+c)).drop a)=R2 at *
 generalize spl l a c []=R at *
 simp (disch:=omega) [w409,ak,h,h2,h3,hac,h5,H.inl,inlB,H.pp,ppB]
theorem oH (H:fP C) (i:Nat) (x:It) (l:List En) (e:Bool) (a j:Nat) (hj:j=a+i) (hl:l.length≤1000000) (hi:j < l.length) :
 FnW C 228 [.int .i64 i,eIt x,.rop [.ro 6 (l.map eEn) e],.rop [.int .i64 a]]=some (.int .i64 (if l[j].i.k=x.k then 0 else 9)):=by
 rw [fnW_eq H.f228 rfl]
 have hj2:(a:Int)+(i:Int)=j:=by omega
 by_cases c:l[j].i.k=x.k
 · simp (disch:=omega) [w228,ak,hj2,hi,c]
 · simp (disch:=omega) [w228,ak,hj2,hi,c]
def aH (e:Int):AV:=.tup [aL [] true,.int .i64 e]
def outL (out:List En):AV:=if ovE (out.map En.own)≠0 then aH (ovE (out.map En.own)) else .tup [aL (out.map En.own) true,.int .i64 0]
theorem nM (H:fP C) (ks:List Kd) (ke:Bool) (cap:Int) (hr:bH ks) (l:List En) (e:Bool) (hl:l.length≤1000000) (hs:∀ x ∈ l,aK x) (ins:Bool) (a c:Int) (hin:ins=true→inR a c l.length=true) :
 FnW C 216 [aR ks ke cap,aL l e,.agg [.bool ins,.int .i64 0,.ro 4 [] true,.nilf,.fn 222 [.rop [.ro 6 (l.map eEn) e],.rop [.int .i64 a],.rop [.int .i64 c]]]] =
  some (if ckE ks cap l≠0 then aH (ckE ks cap l) else if ins=false then aH 4 else outL (spl l a.toNat c.toNat [])):=by
 have hc:=aW H.tofK ks ke cap hr l e hl hs
 rw [fnW_eq H.f216 rfl]
 unfold aH
 by_cases c1:ckE ks cap l=0
 · rw [if_neg (by simpa using c1)]
   rw [c1] at hc
   cases ins
   · simp [w216,hc,H.inl,inlB,H.pp,ppB]
   · rw [if_neg (by simp)]
     have hq:=hin rfl
     unfold inR at hq
     simp at hq
     obtain ⟨a',rfl⟩:∃ a':Nat,a=a':=⟨a.toNat,by omega⟩
     obtain ⟨c',rfl⟩:∃ c':Nat,c=c':=⟨c.toNat,by omega⟩
     have hac:a'+c'≤l.length:=by omega
     have hf:=fresh_ok H.tofK ks ke cap [] true (by simp) (by simp)
     have hm:=jC H (.ro 6 [] true) ⟨_,_,rfl⟩ l e a' c' hl hac
     have hm2:∀ x ∈ spl l a' c' [],aK x:=fun x q=>by
      simp only [spl,List.append_nil,List.mem_append] at q
      rcases q with q | q
      · exact hs x (List.mem_of_mem_take q)
      · exact hs x (List.mem_of_mem_drop q)
     have hlen:=aO l [] a' c' hac
     simp only [Int.toNat_natCast]
     have hlen2:(spl l a' c' []).length≤1000000:=by rw [hlen];simp;omega
     generalize spl l a' c' []=R at *
     have ho:=iT H.tobn R true hlen2 (fun x q=>(hm2 x q).i.m)
     have ht:=bD H.tobn (R.map En.own) true (by simpa using hlen2) (fun x q=>by
      obtain ⟨y,hy,rfl⟩:=List.mem_map.1 q
      exact ⟨⟨(hm2 y hy).i.k,(hm2 y hy).i.t,(hm2 y hy).i.m⟩,(hm2 y hy).s⟩)
     unfold outL aH
     generalize R.map En.own=R' at *
     simp only [List.map_nil] at hf
     by_cases c2:ovE R'=0
     · rw [c2] at ht
       simp [w216,ck_unf w216_B0.eq_1,ck_unf w216_c0.eq_1,hc,hf,hm,ho,ht,c2,H.inl,inlB,H.pp,ppB]
     · simp [w216,ck_unf w216_B0.eq_1,ck_unf w216_c0.eq_1,hc,hf,hm,ho,ht,c2,H.inl,inlB,H.pp,ppB]
 · rw [if_pos c1]
   simp [w216,hc,c1,H.inl,inlB,H.pp,ppB]
theorem cZ {α:Type} {Q:α→Prop} {l x:List α} (a c:Nat) (hl:∀ y ∈ l,Q y) (hx:∀ y ∈ x,Q y):∀ y ∈ spl l a c x,Q y:=fun y q=>by
 simp only [spl,List.mem_append] at q
 rcases q with (q | q) | q
 · exact hl y (List.mem_of_mem_take q)
 · exact hx y q
 · exact hl y (List.mem_of_mem_drop q)
theorem aK.ow {e:En} (h:aK e):aK e.own:=⟨⟨h.i.k,h.i.t,h.i.m⟩,h.s⟩
theorem sG (H:fP C) (ks:List Kd) (ke:Bool) (cap:Int) (hr:bH ks) (l:List En) (e:Bool) (hl:l.length≤1000000) (hs:∀ x ∈ l,aK x) (ins:Bool) (a c t:Int) (hin:ins=true→inR a c l.length=true∧inR t 0 (l.length - c)=true) :
 FnW C 216 [aR ks ke cap,aL l e,.agg [.bool ins,.int .i64 0,.ro 4 [] true,.nilf,.fn 409 [.rop [.ro 6 (l.map eEn) e],.rop [.int .i64 a],.rop [.int .i64 c],.rop [.int .i64 t]]]] =
  some (if ckE ks cap l≠0 then aH (ckE ks cap l) else if ins=false then aH 4 else outL (spl (spl l a.toNat c.toNat []) t.toNat 0 ((l.take (a.toNat+c.toNat)).drop a.toNat))):=by
 have hc:=aW H.tofK ks ke cap hr l e hl hs
 rw [fnW_eq H.f216 rfl]
 unfold aH
 by_cases c1:ckE ks cap l=0
 · rw [if_neg (by simpa using c1)]
   rw [c1] at hc
   cases ins
   · simp [w216,hc,H.inl,inlB,H.pp,ppB]
   · rw [if_neg (by simp)]
     have hq:=hin rfl
     unfold inR at hq
     simp at hq
     obtain ⟨a',rfl⟩:∃ a':Nat,a=a':=⟨a.toNat,by omega⟩
     obtain ⟨c',rfl⟩:∃ c':Nat,c=c':=⟨c.toNat,by omega⟩
     obtain ⟨t',rfl⟩:∃ t':Nat,t=t':=⟨t.toNat,by omega⟩
     have hac:a'+c'≤l.length:=by omega
     have ht':t'≤l.length - c':=by omega
     have hf:=fresh_ok H.tofK ks ke cap [] true (by simp) (by simp)
     have hm:=qX H (.ro 6 [] true) ⟨_,_,rfl⟩ l e a' c' t' hl hac ht'
     simp only [Int.toNat_natCast]
     have hm2:∀ x ∈ spl (spl l a' c' []) t' 0 ((l.take (a'+c')).drop a'),aK x :=
      cZ _ _ (cZ _ _ hs (by simp)) fun y q=>hs y (List.mem_of_mem_take (List.mem_of_mem_drop q))
     have hlen:=aO l [] a' c' hac
     have hlen2:(spl (spl l a' c' []) t' 0 ((l.take (a'+c')).drop a')).length≤1000000:=by
      rw [aO _ _ _ _ (by rw [hlen];simp;omega),hlen];simp;omega
     generalize spl (spl l a' c' []) t' 0 ((l.take (a'+c')).drop a')=R at *
     have ho:=iT H.tobn R true hlen2 (fun x q=>(hm2 x q).i.m)
     have ht:=bD H.tobn (R.map En.own) true (by simpa using hlen2) (fun x q=>by
      obtain ⟨y,hy,rfl⟩:=List.mem_map.1 q
      exact (hm2 y hy).ow)
     unfold outL aH
     generalize R.map En.own=R' at *
     simp only [List.map_nil] at hf
     by_cases c2:ovE R'=0
     · rw [c2] at ht
       simp [w216,ck_unf w216_B0.eq_1,ck_unf w216_c0.eq_1,hc,hf,hm,ho,ht,c2,H.inl,inlB,H.pp,ppB]
     · simp [w216,ck_unf w216_B0.eq_1,ck_unf w216_c0.eq_1,hc,hf,hm,ho,ht,c2,H.inl,inlB,H.pp,ppB]
 · rw [if_pos c1]
   simp [w216,hc,c1,H.inl,inlB,H.pp,ppB]
theorem iq (H:fP C) (ks:List Kd) (ke:Bool) (cap:Int) (hr:bH ks) (l:List En) (e:Bool) (hl:l.length≤1000000) (hs:∀ x ∈ l,aK x) (a c:Int) :
 FnW C 110 [aR ks ke cap,aL l e,.int .i64 a,.int .i64 c] =
  some (if ckE ks cap l≠0 then aH (ckE ks cap l) else if inR a c l.length=false then aH 4 else outL (spl l a.toNat c.toNat [])):=by
 have h:=nM H ks ke cap hr l e hl hs (inR a c l.length) a c id
 have hw:=bC H.tobn a c l.length (by omega)
 rw [fnW_eq H.f110 rfl]
 generalize inR a c l.length=ins at *
 have hR:∃ R n,(if ckE ks cap l≠0 then aH (ckE ks cap l) else if ins=false then aH 4 else outL (spl l a.toNat c.toNat []))=.tup [.agg [.ro 6 R true],.int .i64 n]:=by
  unfold outL aH;split
  · exact ⟨_,_,rfl⟩
  · split
    · exact ⟨_,_,rfl⟩
    · split <;> exact ⟨_,_,rfl⟩
 obtain ⟨R,n,hR⟩:=hR
 rw [hR] at h ⊢
 simp [w110,hw,h,H.inl,inlB,H.pp,ppB]
theorem iM (H:fP C) (ks:List Kd) (ke:Bool) (cap:Int) (hr:bH ks) (l:List En) (e:Bool) (hl:l.length≤1000000) (hs:∀ x ∈ l,aK x) (a c t:Int) :
 FnW C 237 [aR ks ke cap,aL l e,.int .i64 a,.int .i64 c,.int .i64 t] =
  some (if ckE ks cap l≠0 then aH (ckE ks cap l) else if (inR a c l.length&&inR t 0 (l.length - c))=false then aH 4 else outL (spl (spl l a.toNat c.toNat []) t.toNat 0 ((l.take (a.toNat+c.toNat)).drop a.toNat))):=by
 have h:=sG H ks ke cap hr l e hl hs (inR a c l.length&&inR t 0 (l.length - c)) a c t (by simp)
 have hw:=bC H.tobn a c l.length (by omega)
 rw [fnW_eq H.f237 rfl]
 have hR:∀ ins,∃ R n,(if ckE ks cap l≠0 then aH (ckE ks cap l) else if ins=false then aH 4 else outL (spl (spl l a.toNat c.toNat []) t.toNat 0 ((l.take (a.toNat+c.toNat)).drop a.toNat)))=.tup [.agg [.ro 6 R true],.int .i64 n]:=by
  intro ins
  unfold outL aH;split
  · exact ⟨_,_,rfl⟩
  · split
    · exact ⟨_,_,rfl⟩
    · split <;> exact ⟨_,_,rfl⟩
 obtain ⟨R,n,hR⟩:=hR (inR a c l.length&&inR t 0 (l.length - c))
 rw [hR] at h ⊢
 cases c1:inR a c l.length
 · rw [c1] at hw h
   simp at h
   simp (disch:=omega) [w237,ak,hw,h,H.inl,inlB,H.pp,ppB]
 · have hq:=c1
   unfold inR at hq
   simp at hq
   have hw2:=bC H.tobn t 0 (l.length - c) (by omega)
   rw [c1] at hw h
   rw [Bool.true_and] at h
   generalize inR t 0 (l.length - c)=ins at *
   simp (disch:=omega) [w237,ak,hw,hw2,h,H.inl,inlB,H.pp,ppB]
def keyAt (l:List En) (j:Nat):Int:=((l[j]?).map fun e=>e.i.k).getD 0
def bM (ks:List Kd) (cap:Int) (l:List En):Nat→List It→Int
 | _,[]=>0
 | j,x::r=>if aP ks.length x=false then 6 else if keyAt l j≠x.k then 9 else if aX (aF ks x.t).p x cap≠0 then aX (aF ks x.t).p x cap else bM ks cap l (j+1) r
theorem lF (H:fP C) (ks:List Kd) (ke:Bool) (cap:Int) (hr:bH ks) (l:List En) (e:Bool) (hl:l.length≤1000000) (hs:∀ x ∈ l,aK x) (a:Nat) (x:List It) (xe:Bool) (hx:∀ y ∈ x,bZ y) (hxl:a+x.length≤l.length)
 (hb:∀ y ∈ x,aP ks.length y=true→-9223372036854775808≤(aF ks y.t).b∧(aF ks y.t).b≤9223372036854775807):∀ n i,n+i=x.length→(∀ y ∈ x.take i,aP ks.length y=true) →
 w216_K0 C ⟨[(34,.int .i64 i),(33,.int .i64 x.length),(32,.ro 4 (x.map cIt) xe),(6,.ptr 0 0 0),(5,.ptr 1 0 0),(3,.ptr 2 0 0)],[(0,.cells 1 [[.ro 6 [] true]] true true),
  (1,.cells 5 [[.bool true,.int .i64 0,.ro 4 (x.map cIt) xe,.fn 228 [.rop [.ro 6 (l.map eEn) e],.rop [.int .i64 a]],.fn 229 [.rop [.ro 6 (l.map eEn) e],.rop [.int .i64 a],.rop [.ro 4 (x.map cIt) xe]]]] true false),(2,.cells 2 [[.ro 9 (ks.map eKd) ke,.int .i64 cap]] true true)],3⟩ =
  some (if bM ks cap l (a+i) (x.drop i)≠0 then aH (bM ks cap l (a+i) (x.drop i)) else outL (spl l a x.length (x.map (fre ks)))):=by
 intro n
 induction n with
 | zero =>
  intro i hi hok
  have h1:x.drop i=[]:=List.drop_eq_nil_of_le (by omega)
  have h3:¬ i < x.length:=by omega
  rw [List.take_of_length_le (by omega)] at hok
  have hf:=fresh_ok H.tofK ks ke cap x xe (by omega) (fun y q=>⟨hx y q,bV (hok y q)⟩)
  have hm:=qC H (x.map (fre ks)) true x xe (by simp;omega) (by simp) l e a hl (by simpa using hxl)
  have hm2:∀ y ∈ spl l a x.length (x.map (fre ks)),aK y:=cZ _ _ hs fun y q=>by
   obtain ⟨z,hz,rfl⟩:=List.mem_map.1 q
   exact ⟨hx z hz,hb z hz (hok z hz)⟩
  have hlen:=aO l (x.map (fre ks)) a x.length hxl
  simp only [List.length_map] at hm hlen
  have hlen2:(spl l a x.length (x.map (fre ks))).length≤1000000:=by rw [hlen];omega
  rw [h1,bM,if_neg (by simp)]
  generalize spl l a x.length (x.map (fre ks))=R at *
  have ho:=iT H.tobn R true hlen2 (fun x q=>(hm2 x q).i.m)
  have ht:=bD H.tobn (R.map En.own) true (by simpa using hlen2) (fun x q=>by
   obtain ⟨y,hy,rfl⟩:=List.mem_map.1 q
   exact (hm2 y hy).ow)
  unfold outL aH
  generalize R.map En.own=R' at *
  generalize x.map (fre ks)=X at *
  simp only [w216_K0];rw [ck_unf w216_B0.eq_1]
  by_cases c2:ovE R'=0
  · rw [c2] at ht
    simp [ck_unf w216_c0.eq_1,h3,hf,hm,ho,ht,c2,H.inl,inlB,H.pp,ppB]
  · simp [ck_unf w216_c0.eq_1,h3,hf,hm,ho,ht,c2,H.inl,inlB,H.pp,ppB]
 | succ n ih =>
  intro i hi hok
  have h1:i < x.length:=by omega
  have hxi:=hx _ (List.getElem_mem h1)
  have hai:a+i < l.length:=by omega
  have hc:=dh H.tojm x[i] ks.length hxi.t
  have hk:=oH H i x[i] l e a (a+i) rfl hl hai
  have hkA:keyAt l (a+i)=l[a+i].i.k:=by unfold keyAt;simp [hai]
  rw [drop_cons h1]
  have hch:bM ks cap l (a+i) (x[i]::x.drop (i+1))=if aP ks.length x[i]=false then 6 else if l[a+i].i.k≠x[i].k then 9 else if aX (aF ks x[i].t).p x[i] cap≠0 then aX (aF ks x[i].t).p x[i] cap else bM ks cap l (a+i+1) (x.drop (i+1)):=by
   rw [bM,hkA]
  generalize hO:outL (spl l a x.length (x.map (fre ks)))=O at *
  unfold aH
  cases c1:aP ks.length x[i]
  · rw [c1] at hc
    simp at hc
    rw [hch,c1]
    simp only [w216_K0];rw [ck_unf w216_B0.eq_1]
    simp (disch:=omega) [h1,hc,H.inl,inlB,H.pp,ppB]
  · rw [c1] at hc
    simp at hc
    by_cases c2:l[a+i].i.k=x[i].k
    · rw [if_pos c2] at hk
      have ht:=bV c1
      have hre:=bU H.tofK ks ke cap x[i] hxi ht hr
      simp only [aR,eIt] at hre hc hk
      have this:=ih (i+1) (by omega) (fun y q=>by
       rw [List.take_succ_eq_append_getElem h1] at q
       rcases List.mem_append.1 q with q | q
       · exact hok y q
       · simp at q;rw [q];exact c1)
      rw [← Nat.add_assoc] at this
      unfold aH at this
      generalize iK (aF ks x[i].t).p x[i] cap=N at *
      generalize aX (aF ks x[i].t).p x[i] cap=E at *
      by_cases c3:E=0
      · subst c3
        have hV:bM ks cap l (a+i) (x[i]::x.drop (i+1))=bM ks cap l (a+i+1) (x.drop (i+1)):=by
         rw [hch,if_neg (by simp [c1]),if_neg (by simpa using c2),if_neg (by simp)]
        rw [hV]
        generalize (if bM ks cap l (a+i+1) (List.drop (i+1) x)≠0 then AV.tup [aL [] true,.int .i64 (bM ks cap l (a+i+1) (List.drop (i+1) x))] else O)=Z at *
        simp only [w216_K0] at this ⊢;rw [ck_unf w216_B0.eq_1]
        simp at this
        simp (disch:=omega) [h1,hc,hk,hre,ak,H.inl,inlB,H.pp,ppB,this]
      · have hV:bM ks cap l (a+i) (x[i]::x.drop (i+1))=E:=by
         rw [hch,if_neg (by simp [c1]),if_neg (by simpa using c2),if_pos c3]
        rw [hV,if_pos c3]
        simp only [w216_K0];rw [ck_unf w216_B0.eq_1]
        simp (disch:=omega) [h1,hc,hk,hre,c3,H.inl,inlB,H.pp,ppB]
    · rw [if_neg c2] at hk
      simp only [eIt] at hc hk
      have hV:bM ks cap l (a+i) (x[i]::x.drop (i+1))=9:=by
       rw [hch,if_neg (by simp [c1]),if_pos c2]
      rw [hV,if_pos (by simp)]
      simp only [w216_K0];rw [ck_unf w216_B0.eq_1]
      simp (disch:=omega) [h1,hc,hk,H.inl,inlB,H.pp,ppB]
theorem oC (H:fP C) (ks:List Kd) (ke:Bool) (cap:Int) (hr:bH ks) (l:List En) (e:Bool) (hl:l.length≤1000000) (hs:∀ x ∈ l,aK x) (a:Int) (x:List It) (xe:Bool) (hxl:x.length≤1000000) (hx:∀ y ∈ x,bZ y)
 (hb:∀ y ∈ x,aP ks.length y=true→-9223372036854775808≤(aF ks y.t).b∧(aF ks y.t).b≤9223372036854775807) :
 FnW C 114 [aR ks ke cap,aL l e,.int .i64 a,.ro 4 (x.map cIt) xe] =
  some (if ckE ks cap l≠0 then aH (ckE ks cap l) else if inR a x.length l.length=false then aH 4 else
   if bM ks cap l a.toNat x≠0 then aH (bM ks cap l a.toNat x) else outL (spl l a.toNat x.length (x.map (fre ks)))):=by
 have hc:=aW H.tofK ks ke cap hr l e hl hs
 have hw:=bC H.tobn a x.length l.length (by omega)
 have key:∀ ins,ins=inR a x.length l.length→FnW C 216 [aR ks ke cap,aL l e,.agg [.bool ins,.int .i64 0,.ro 4 (x.map cIt) xe,.fn 228 [.rop [.ro 6 (l.map eEn) e],.rop [.int .i64 a]],.fn 229 [.rop [.ro 6 (l.map eEn) e],.rop [.int .i64 a],.rop [.ro 4 (x.map cIt) xe]]]] =
  some (if ckE ks cap l≠0 then aH (ckE ks cap l) else if ins=false then aH 4 else
   if bM ks cap l a.toNat x≠0 then aH (bM ks cap l a.toNat x) else outL (spl l a.toNat x.length (x.map (fre ks)))):=by
  intro ins hins
  rw [fnW_eq H.f216 rfl]
  by_cases c1:ckE ks cap l=0
  · rw [if_neg (by simpa using c1)]
    rw [c1] at hc
    cases ins
    · unfold aH
      simp [w216,hc,H.inl,inlB,H.pp,ppB]
    · rw [if_neg (by simp)]
      have hq:=hins.symm
      unfold inR at hq
      simp at hq
      obtain ⟨a',rfl⟩:∃ a':Nat,a=a':=⟨a.toNat,by omega⟩
      have h:=lF H ks ke cap hr l e hl hs a' x xe hx (by omega) hb x.length 0 (by simp) (by simp)
      rw [Nat.add_zero,List.drop_zero] at h
      simp only [Int.toNat_natCast]
      generalize (if bM ks cap l a' x≠0 then aH (bM ks cap l a' x) else outL (spl l a' x.length (x.map (fre ks))))=Z at *
      simp only [w216_K0] at h
      simp at h
      simp [w216,hc,h,H.inl,inlB,H.pp,ppB]
  · rw [if_pos c1]
    unfold aH
    simp [w216,hc,c1,H.inl,inlB,H.pp,ppB]
 have h:=key _ rfl
 rw [fnW_eq H.f114 rfl]
 generalize inR a x.length l.length=ins at *
 have hR:∃ R n,(if ckE ks cap l≠0 then aH (ckE ks cap l) else if ins=false then aH 4 else
  if bM ks cap l a.toNat x≠0 then aH (bM ks cap l a.toNat x) else outL (spl l a.toNat x.length (x.map (fre ks))))=.tup [.agg [.ro 6 R true],.int .i64 n]:=by
  unfold outL aH
  repeat (first | exact ⟨_,_,rfl⟩ | split)
 obtain ⟨R,n,hR⟩:=hR
 rw [hR] at h ⊢
 simp [w114,hw,h,H.inl,inlB,H.pp,ppB]
structure dW (C:WProg):Prop extends fP C where
 f217:C.fns.get 217=some w217
 rO:C.fns.get 401=some w401
 f220:C.fns.get 220=some w220
 f218:C.fns.get 218=some w218
 f109:C.fns.get 109=some w109
theorem ku {ks:List Kd} {cap:Int} {l:List En} (h:ckE ks cap l=0):dV ks cap=true:=by
 unfold ckE at h
 cases c:dV ks cap
 · rw [if_pos c] at h;cases h
 · rfl
theorem yc {n:Int} {x:It} (h:aP n x=true):dI x=true:=by
 unfold aP at h;unfold dI;simp at h ⊢;exact ⟨⟨h.1.1.1,h.1.2⟩,h.2⟩
theorem qE {ks:List Kd} {cap:Int} (h:dV ks cap=true) {x:It} (hx:aP ks.length x=true) (ht:0≤x.t):aX (aF ks x.t).p x cap=0∨aX (aF ks x.t).p x cap=14:=by
 have h2:=yc hx
 have h3:=bV hx
 unfold dV at h
 simp only [Bool.and_eq_true,decide_eq_true_eq] at h
 unfold aX
 rw [if_neg (by omega)]
 split
 · exact .inr rfl
 · rw [if_neg (by simp [h2])]
   split
   · exact .inr rfl
   · exact .inl rfl
@[simp] theorem iG:∀ h:WHeap,oldRefs 0 h=[]
 | []=>rfl
 | (b,o)::r=>by rw [oldRefs,if_neg (by omega),iG r]
@[simp] theorem jA (π:Nat→Option Nat):∀ h:WHeap,renOld 0 π h=some []
 | []=>rfl
 | (b,o)::r=>by rw [renOld,if_neg (by omega),jA π r]
def DoR (v:AV) (o:Option (AV × WHeap × Nat)):Prop:=∃ h' n',o=some (v,h',n')∧Pav.get h' 0=some (.cells 1 [[.ro 6 [] true]] true true)
def kX (s:List Int) (k:Int):List Int:=if s.contains k=true then s else s++[k]
def aU (s:List Int):List En→List Int
 | []=>s
 | e::r=>aU (kX s e.i.k) r
theorem qP (s:List Int) (k j:Int):(kX s k).contains j=(s++[k]).contains j:=by
 unfold kX
 split
 · rename_i h
   simp only [List.contains_eq_mem,decide_eq_true_eq] at h
   by_cases c:j=k
   · subst c;simp [h]
   · simp [c]
 · rfl
theorem fD:∀ (l:List En) (s:List Int) (j:Int),(aU s l).contains j=(s++aA l).contains j
 | [],s,j=>by rw [aU];simp [aA]
 | e::r,s,j=>by
  rw [aU,fD r]
  have:=qP s e.i.k j
  simp only [List.contains_eq_mem,List.mem_append,List.mem_cons,List.not_mem_nil,or_false,decide_eq_decide,aA,List.map_cons] at this ⊢
  rw [this,or_assoc]
theorem jE (k:Int):∀ s:List Int,mapPut (bI s) (.int .u64 k) (.bool true)=some (bI (kX s k)):=by
 intro s
 unfold kX
 cases c:s.contains k
 · rw [if_neg (by simp)];exact dn k s c
 · rw [if_pos rfl]
   induction s with
   | nil=>simp at c
   | cons a r ih =>
    unfold bI at ih ⊢
    rw [List.map_cons,mapPut]
    simp only [eqCell,if_true,ob]
    by_cases d:k=a
    · subst d;simp
    · have:r.contains k=true:=by simpa [d] using c
      simp [d,ih this,om]
theorem dQ (ks:List Kd) (cap:Int):∀ (x:List It) (s t:List Int),(∀ j,s.contains j=t.contains j)→aI ks cap s x=aI ks cap t x
 | [],s,t,_=>rfl
 | x::r,s,t,h=>by
  rw [aI,aI,h,dQ ks cap r (s++[x.k]) (t++[x.k]) (fun j=>by
   have:=h j
   simp only [List.contains_eq_mem,List.mem_append,decide_eq_decide] at this ⊢
   rw [this])]
theorem fO (H:dW C) (l:List En) (e:Bool) (hl:l.length≤1000000):∀ n i,n+i=l.length→∀ s:List Int,
 CK C 25 (fnEndW [.tmp 2]) [.sq w217_L0,.bk 0 ⟨true,[3],[]⟩,.sq w217_c0] w217_B0 ⟨[(9,.int .i64 i),(8,.int .i64 l.length),(7,.ro 6 (l.map eEn) e),(3,.ptr 25 0 0)],[(0,.cells 1 [[.ro 6 [] true]] true true),(25,.cells 1 [[.map 26]] true false),(26,.map (bI s))],27⟩ =
  some (.fn 401 [.ptr 25 0 0],[(0,.cells 1 [[.ro 6 [] true]] true true),(25,.cells 1 [[.map 26]] true false),(26,.map (bI (aU s (l.drop i))))],29):=by
 intro n
 induction n with
 | zero =>
  intro i hi s
  have h1:l.drop i=[]:=List.drop_eq_nil_of_le (by omega)
  have h3:¬ i < l.length:=by omega
  rw [ck_unf w217_B0.eq_1]
  simp (disch:=omega) [ck_unf w217_c0.eq_1,h1,h3,aU]
 | succ n ih =>
  intro i hi s
  have h1:i < l.length:=by omega
  have hp:=jE l[i].i.k s
  have this:=ih (i+1) (by omega) (kX s l[i].i.k)
  rw [drop_cons h1,aU]
  rw [ck_unf w217_B0.eq_1]
  simp at this
  simp (disch:=omega) [h1,ak,hp,this]
theorem gJ (H:dW C) (l:List En) (e:Bool) (hl:l.length≤1000000) :
 RnW C 217 [.ro 6 (l.map eEn) e] [(0,.cells 1 [[.ro 6 [] true]] true true)] 25=some (.fn 401 [.ptr 25 0 0],[(0,.cells 1 [[.ro 6 [] true]] true true),(25,.cells 1 [[.map 26]] true false),(26,.map (bI (aU [] l)))],29):=by
 have h:=fO H l e hl l.length 0 (by simp) []
 rw [List.drop_zero,fV] at h
 rw [aS (args:=[.ro 6 (l.map eEn) e]) H.f217 rfl [(0,.cells 1 [[.ro 6 [] true]] true true)] 25]
 simp at h
 simp [w217,h]
theorem kE (H:dW C) (ks:List Kd) (ke:Bool) (cap:Int) (hr:bH ks) (hru:dV ks cap=true) (l:List En) (e:Bool) (hl:l.length≤1000000) (hs:∀ x ∈ l,aK x) (a:Nat) (ha:a≤l.length) (x:List It) (xe:Bool) (hx:∀ y ∈ x,bZ y) (hxl:x.length≤1000000) (ins:Bool) (cnt:Int)
 (hb:∀ y ∈ x,aP ks.length y=true→-9223372036854775808≤(aF ks y.t).b∧(aF ks y.t).b≤9223372036854775807) (hsum:l.length+x.length≤1000000):∀ n i,n+i=x.length→(∀ y ∈ x.take i,aP ks.length y=true)→∀ s:List Int,
 DoR (if aI ks cap s (x.drop i)≠0 then aH (aI ks cap s (x.drop i)) else outL (spl l a 0 (x.map (fre ks)))) (CK C 29 (fnEndW [.cell 6 1 true,.tmp 7]) [.sq w216_L0,.bk 1 ⟨true,[6,5,3],[]⟩,.sq w216_c0] w216_B0 ⟨[(34,.int .i64 i),(33,.int .i64 x.length),(32,.ro 4 (x.map cIt) xe),(6,.ptr 29 0 0),(5,.ptr 30 0 0),(3,.ptr 31 0 0)],[(0,.cells 1 [[.ro 6 [] true]] true true),(25,.cells 1 [[.map 26]] true false),(26,.map (bI s)),(29,.cells 1 [[.ro 6 [] true]] true true),
  (30,.cells 5 [[.bool ins,.int .i64 cnt,.ro 4 (x.map cIt) xe,.fn 401 [.ptr 25 0 0],.fn 220 [.rop [.ro 6 (l.map eEn) e],.rop [.int .i64 a]]]] true false),(31,.cells 2 [[.ro 9 (ks.map eKd) ke,.int .i64 cap]] true true)],32⟩):=by
 intro n
 induction n with
 | zero =>
  intro i hi hok s
  have h1:x.drop i=[]:=List.drop_eq_nil_of_le (by omega)
  have h3:¬ i < x.length:=by omega
  rw [List.take_of_length_le (by omega)] at hok
  have hf:=fresh_ok H.tofK ks ke cap x xe (by omega) (fun y q=>⟨hx y q,bV (hok y q)⟩)
  have hm:FnW C 220 [.ro 6 ((x.map (fre ks)).map eEn) true,.rop [.ro 6 (l.map eEn) e],.rop [.int .i64 a]]=some (.ro 6 ((spl l a 0 (x.map (fre ks))).map eEn) true):=by
   have h:=bP H.tobn l (x.map (fre ks)) e true a 0 hl (by simpa using hxl) (by omega)
   rw [fnW_eq H.f220 rfl]
   generalize spl l a 0 (x.map (fre ks))=R at *
   generalize x.map (fre ks)=X at *
   simp at h
   simp [w220,h,H.inl,inlB,H.pp,ppB]
  have hm2:∀ y ∈ spl l a 0 (x.map (fre ks)),aK y:=cZ _ _ hs fun y q=>by
   obtain ⟨z,hz,rfl⟩:=List.mem_map.1 q
   exact ⟨hx z hz,hb z hz (hok z hz)⟩
  have hlen2:(spl l a 0 (x.map (fre ks))).length≤1000000:=by rw [aO _ _ _ _ (by omega)];simp;omega
  rw [h1,aI,if_neg (by simp)]
  generalize spl l a 0 (x.map (fre ks))=R at *
  have ho:=iT H.tobn R true hlen2 (fun x q=>(hm2 x q).i.m)
  have ht:=bD H.tobn (R.map En.own) true (by simpa using hlen2) (fun x q=>by
   obtain ⟨y,hy,rfl⟩:=List.mem_map.1 q
   exact (hm2 y hy).ow)
  unfold outL aH
  generalize R.map En.own=R' at *
  generalize x.map (fre ks)=X at *
  by_cases c2:ovE R'=0
  · rw [c2] at ht
    rw [ck_unf w216_B0.eq_1]
    simp [ck_unf w216_c0.eq_1,h3,hf,hm,ho,ht,c2,H.inl,inlB,H.pp,ppB]
    exact ⟨_,_,rfl,rfl⟩
  · rw [ck_unf w216_B0.eq_1]
    simp [ck_unf w216_c0.eq_1,h3,hf,hm,ho,ht,c2,H.inl,inlB,H.pp,ppB]
    exact ⟨_,_,rfl,rfl⟩
 | succ n ih =>
  intro i hi hok s
  have h1:i < x.length:=by omega
  have hxi:=hx _ (List.getElem_mem h1)
  have hc:=dh H.tojm x[i] ks.length hxi.t
  have hg:=fun a b c h n=>aS (args:=[a,b,c]) H.rO rfl h n
  have hkg:=dD x[i].k s
  rw [drop_cons h1,aI]
  generalize hO:outL (spl l a 0 (x.map (fre ks)))=O at *
  unfold aH
  cases c1:aP ks.length x[i]
  · have hE:itE ks cap x[i] (s.contains x[i].k)=6:=by unfold itE;simp [c1]
    rw [hE,if_pos (by simp),if_pos (by simp)]
    rw [c1] at hc
    simp at hc
    rw [ck_unf w216_B0.eq_1]
    simp (disch:=omega) [h1,hc,H.inl,inlB,H.pp,ppB]
    exact ⟨_,_,rfl,rfl⟩
  · rw [c1] at hc
    simp at hc
    cases c2:s.contains x[i].k
    · have ht:=bV c1
      have hre:=bU H.tofK ks ke cap x[i] hxi ht hr
      have h14:=qE hru c1 hxi.t.1
      have hp:=dn x[i].k s c2
      rw [c2] at hkg
      simp only [aR,eIt] at hre hc
      have this:=ih (i+1) (by omega) (fun y q=>by
       rw [List.take_succ_eq_append_getElem h1] at q
       rcases List.mem_append.1 q with q | q
       · exact hok y q
       · simp at q;rw [q];exact c1) (s++[x[i].k])
      unfold aH at this
      have hE:itE ks cap x[i] false=if aX (aF ks x[i].t).p x[i] cap=0 then 0 else 14:=by unfold itE;simp [c1]
      generalize iK (aF ks x[i].t).p x[i] cap=N at *
      generalize aX (aF ks x[i].t).p x[i] cap=E at *
      by_cases c3:E=0
      · subst c3
        have hV:itE ks cap x[i] false=0:=by rw [hE];simp
        rw [hV]
        simp only [ne_eq,not_true_eq_false,if_false]
        generalize (if aI ks cap (s++[x[i].k]) (List.drop (i+1) x)≠0 then AV.tup [aL [] true,.int .i64 (aI ks cap (s++[x[i].k]) (List.drop (i+1) x))] else O)=Z at *
        rw [ck_unf w216_B0.eq_1]
        simp at this
        simp (disch:=omega) [h1,hc,hg,w401,hkg,hp,hre,ak,H.inl,inlB,H.pp,ppB]
        exact this
      · have c4:E=14:=by rcases h14 with q | q;exact absurd q c3;exact q
        subst c4
        have hV:itE ks cap x[i] false=14:=by rw [hE];simp
        rw [hV,if_pos (by simp),if_pos (by simp)]
        rw [ck_unf w216_B0.eq_1]
        simp (disch:=omega) [h1,hc,hg,w401,hkg,hp,hre,H.inl,inlB,H.pp,ppB]
        exact ⟨_,_,rfl,rfl⟩
    · have hE:itE ks cap x[i] true=8:=by unfold itE;simp [c1]
      rw [hE,if_pos (by simp),if_pos (by simp)]
      rw [c2] at hkg
      simp only [eIt] at hc
      rw [ck_unf w216_B0.eq_1]
      simp (disch:=omega) [h1,hc,hg,w401,hkg,H.inl,inlB,H.pp,ppB]
      exact ⟨_,_,rfl,rfl⟩
theorem fJ (H:dW C) (l:List En) (e:Bool) (hl:l.length≤1000000):∀ n i,n+i=l.length→∀ s:List Int,
 CK C 13 (fnEndW [.tmp 2]) [.sq w217_L0,.bk 0 ⟨true,[3],[]⟩,.sq w217_c0] w217_B0 ⟨[(9,.int .i64 i),(8,.int .i64 l.length),(7,.ro 6 (l.map eEn) e),(3,.ptr 13 0 0)],[(0,.cells 1 [[.ro 6 [] true]] true true),(13,.cells 1 [[.map 14]] true false),(14,.map (bI s))],15⟩ =
  some (.fn 401 [.ptr 13 0 0],[(0,.cells 1 [[.ro 6 [] true]] true true),(13,.cells 1 [[.map 14]] true false),(14,.map (bI (aU s (l.drop i))))],17):=by
 intro n
 induction n with
 | zero =>
  intro i hi s
  have h1:l.drop i=[]:=List.drop_eq_nil_of_le (by omega)
  have h3:¬ i < l.length:=by omega
  rw [ck_unf w217_B0.eq_1]
  simp (disch:=omega) [ck_unf w217_c0.eq_1,h1,h3,aU]
 | succ n ih =>
  intro i hi s
  have h1:i < l.length:=by omega
  have hp:=jE l[i].i.k s
  have this:=ih (i+1) (by omega) (kX s l[i].i.k)
  rw [drop_cons h1,aU]
  rw [ck_unf w217_B0.eq_1]
  simp at this
  simp (disch:=omega) [h1,ak,hp,this]
theorem kJ (H:dW C) (l:List En) (e:Bool) (hl:l.length≤1000000) :
 RnW C 217 [.ro 6 (l.map eEn) e] [(0,.cells 1 [[.ro 6 [] true]] true true)] 13=some (.fn 401 [.ptr 13 0 0],[(0,.cells 1 [[.ro 6 [] true]] true true),(13,.cells 1 [[.map 14]] true false),(14,.map (bI (aU [] l)))],17):=by
 have h:=fJ H l e hl l.length 0 (by simp) []
 rw [List.drop_zero,fV] at h
 rw [aS (args:=[.ro 6 (l.map eEn) e]) H.f217 rfl [(0,.cells 1 [[.ro 6 [] true]] true true)] 13]
 simp at h
 simp [w217,h]
structure rD (C:WProg):Prop extends fP C where
 f241:C.fns.get 241=some w241
 f242:C.fns.get 242=some w242
 f243:C.fns.get 243=some w243
theorem jq (H:bn C) (a b:It) (hl:a.m.length=b.m.length) (hb:a.m.length≤9223372036854775807):∀ n i,n+i=a.m.length →
 w112_K0 C ⟨[(5,.int .i64 i),(3,.ptr 0 0 0),(2,.ptr 1 0 0)],[(0,.cells 4 [[.int .u64 b.k,.int .u8 b.t,.str b.x,.ro 1 (b.m.map eS) b.e]] true true),(1,.cells 4 [[.int .u64 a.k,.int .u8 a.t,.str a.x,.ro 1 (a.m.map eS) a.e]] true true)],2⟩ =
  some (.int .i64 (if decide (a.m.drop i=b.m.drop i)=true then 1 else 0)):=by
 intro n
 induction n with
 | zero =>
  intro i hi
  have h1:a.m.drop i=[]:=List.drop_eq_nil_of_le (by omega)
  have h2:b.m.drop i=[]:=List.drop_eq_nil_of_le (by omega)
  have h3:¬ i < b.m.length:=by omega
  simp only [w112_K0];rw [ck_unf w112_B0.eq_1]
  simp (disch:=omega) [ck_unf w112_c0.eq_1,h1,h2,h3,hl]
 | succ n ih =>
  intro i hi
  have h1:i < a.m.length:=by omega
  have h2:i < b.m.length:=by omega
  have this:=ih (i+1) (by omega)
  rw [drop_cons h1,drop_cons h2]
  by_cases c:a.m[i]=b.m[i]
  · have hq:decide (a.m[i]::a.m.drop (i+1)=b.m[i]::b.m.drop (i+1))=decide (a.m.drop (i+1)=b.m.drop (i+1)):=by simp [c]
    rw [hq]
    generalize decide (a.m.drop (i+1)=b.m.drop (i+1))=X at *
    simp only [w112_K0] at this ⊢;rw [ck_unf w112_B0.eq_1]
    simp at this
    simp (disch:=omega) [h1,h2,eq_true c,ak,this]
  · have hq:decide (a.m[i]::a.m.drop (i+1)=b.m[i]::b.m.drop (i+1))=false:=by simp [c]
    rw [hq]
    simp only [w112_K0];rw [ck_unf w112_B0.eq_1]
    simp (disch:=omega) [h1,h2,c]
theorem nR (H:bn C) (a b:It) (hb:a.m.length≤9223372036854775807) (hb2:b.m.length≤9223372036854775807):FnW C 112 [eIt a,eIt b]=some (.int .i64 (if dR a b=true then 1 else 0)):=by
 rw [fnW_eq H.f112 rfl]
 unfold dR
 by_cases c1:a.k=b.k
 · by_cases c2:a.t=b.t
   · by_cases c3:a.x=b.x
     · by_cases c4:a.m.length=b.m.length
       · have h:=jq H a b c4 hb a.m.length 0 (by simp)
         rw [List.drop_zero,List.drop_zero] at h
         rw [decide_eq_true c1,decide_eq_true c2,decide_eq_true c3,Bool.true_and,Bool.true_and,Bool.true_and]
         generalize decide (a.m=b.m)=X at *
         simp only [w112_K0] at h
         simp at h
         simp [w112,eq_true c1,eq_true c2,eq_true c3,eq_true c4,h]
       · have c5:¬ a.m=b.m:=fun q=>c4 (by rw [q])
         simp [w112,eq_true c1,eq_true c2,eq_true c3,c4,c5]
     · simp [w112,eq_true c1,eq_true c2,c3]
   · simp [w112,eq_true c1,c2]
 · simp [w112,c1]
theorem kD (H:bn C) (a b:List En) (e f:Bool) (hl:a.length=b.length) (hb:a.length≤1000000) (ha:∀ x ∈ a,x.i.m.length≤9223372036854775807) (hbm:∀ x ∈ b,x.i.m.length≤9223372036854775807):∀ n i,n+i=a.length →
 w172_K0 C ⟨[(5,.int .i64 i),(1,.ro 6 (b.map eEn) f),(0,.ro 6 (a.map eEn) e)],[],0⟩=some (.int .i64 (if bG (a.drop i) (b.drop i)=true then 1 else 0)):=by
 intro n
 induction n with
 | zero =>
  intro i hi
  have h1:a.drop i=[]:=List.drop_eq_nil_of_le (by omega)
  have h2:b.drop i=[]:=List.drop_eq_nil_of_le (by omega)
  have h3:¬ i < b.length:=by omega
  simp only [w172_K0];rw [ck_unf w172_B0.eq_1]
  simp (disch:=omega) [ck_unf w172_c0.eq_1,h1,h2,h3,hl,bG]
 | succ n ih =>
  intro i hi
  have h1:i < a.length:=by omega
  have h2:i < b.length:=by omega
  have this:=ih (i+1) (by omega)
  have hs:=nR H a[i].i b[i].i (ha _ (List.getElem_mem h1)) (hbm _ (List.getElem_mem h2))
  rw [drop_cons h1,drop_cons h2,bG]
  unfold bQ
  simp only [eIt] at hs
  generalize bG (a.drop (i+1)) (b.drop (i+1))=Y at *
  generalize dR a[i].i b[i].i=X at *
  by_cases c1:a[i].s=b[i].s
  · by_cases c2:a[i].kn=b[i].kn
    · rw [decide_eq_true c1,decide_eq_true c2,Bool.true_and,Bool.true_and]
      cases X
      · simp at hs
        simp only [w172_K0];rw [ck_unf w172_B0.eq_1]
        simp (disch:=omega) [h1,h2,eq_true c1,eq_true c2,hs,H.inl,inlB,H.pp,ppB]
      · simp at hs
        simp only [w172_K0] at this ⊢;rw [ck_unf w172_B0.eq_1]
        simp at this
        simp (disch:=omega) [h1,h2,eq_true c1,eq_true c2,hs,ak,H.inl,inlB,H.pp,ppB,this]
    · rw [decide_eq_true c1,decide_eq_false c2]
      simp only [w172_K0];rw [ck_unf w172_B0.eq_1]
      simp (disch:=omega) [h1,h2,eq_true c1,c2]
  · rw [decide_eq_false c1]
    simp only [w172_K0];rw [ck_unf w172_B0.eq_1]
    simp (disch:=omega) [h1,h2,c1]
theorem mZ (H:bn C) (a b:List En) (e f:Bool) (hb:a.length≤1000000) (hb2:b.length≤1000000) (ha:∀ x ∈ a,x.i.m.length≤9223372036854775807) (hbm:∀ x ∈ b,x.i.m.length≤9223372036854775807) :
 FnW C 172 [.ro 6 (a.map eEn) e,.ro 6 (b.map eEn) f]=some (.int .i64 (if (decide (a.length=b.length)&&bG a b)=true then 1 else 0)):=by
 rw [fnW_eq H.f172 rfl]
 by_cases c:a.length=b.length
 · have h:=kD H a b e f c hb ha hbm a.length 0 (by simp)
   rw [List.drop_zero,List.drop_zero] at h
   rw [decide_eq_true c,Bool.true_and]
   generalize bG a b=X at *
   simp only [w172_K0] at h
   simp at h
   simp [w172,eq_true c,h]
 · simp [w172,c]
theorem dY (H:bn C) (a b:List En) (e f:Bool) (hb:a.length≤1000000) (hb2:b.length≤1000000) (ha:∀ x ∈ a,x.i.m.length≤1000000) (hbm:∀ x ∈ b,x.i.m.length≤1000000) :
 FnW C 172 [.ro 6 (a.map eEn) e,.ro 6 (b.map eEn) f]=some (.int .i64 (if (decide (a.length=b.length)&&bG a b)=true then 1 else 0)) :=
 mZ H a b e f hb hb2 (fun x hx=>by have:=ha x hx;omega) (fun x hx=>by have:=hbm x hx;omega)
theorem gB:∀ l:List En,bG l l=true
 | []=>rfl
 | a::r=>by rw [bG,gB r];simp [bQ,dR]
theorem fC:∀ l:List En,bG (l.map En.own) l=true
 | []=>rfl
 | a::r=>by rw [List.map_cons,bG,fC r];simp [bQ,dR,En.own,It.own]
def rmF {α:Type} (a c:Nat):Nat→List α→List α
 | _,[]=>[]
 | i,e::r=>if i < a∨a+c≤i then e::rmF a c (i+1) r else rmF a c (i+1) r
theorem qN {α:Type} (a c:Nat):∀ (l:List α) (i:Nat),rmF a c i l=l.take (a - i)++l.drop (a+c - i)
 | [],i=>by simp [rmF]
 | e::r,i=>by
  rw [rmF,qN a c r (i+1)]
  by_cases h1:i < a
  · rw [if_pos (.inl h1),show a - i=(a - (i+1))+1 by omega,show a+c - i=(a+c - (i+1))+1 by omega]
    rfl
  · by_cases h2:a+c≤i
    · rw [if_pos (.inr h2),show a - i=0 by omega,show a - (i+1)=0 by omega,show a+c - i=0 by omega,show a+c - (i+1)=0 by omega]
      simp
    · rw [if_neg (by omega),show a - i=0 by omega,show a - (i+1)=0 by omega,show a+c - i=(a+c - (i+1))+1 by omega]
      simp
theorem uH {α:Type} (a c:Nat) (l:List α):rmF a c 0 l=spl l a c []:=by
 rw [qN];unfold spl;simp
theorem iR (H:bn C) (l:List En) (e:Bool) (hl:l.length≤1000000) (a c:Nat) (hac:a+c≤l.length):∀ n i,n+i=l.length→∀ G:List En,G.length≤i →
 w241_K0 C ⟨[(9,.int .i64 i),(8,.sl 0 6 0 G.length G.length false),(2,.int .i64 c),(1,.int .i64 a),(0,.ro 6 (l.map eEn) e)],[(0,.cells 6 (G.map eEn) true true)],1⟩ =
  some (.tup [.ro 6 ((G++rmF a c i (l.drop i)).map eEn) false,.int .i64 0]):=by
 intro n
 induction n with
 | zero =>
  intro i hi G hG
  have h1:l.drop i=[]:=List.drop_eq_nil_of_le (by omega)
  have h3:¬ i < l.length:=by omega
  simp only [w241_K0];rw [ck_unf w241_B0.eq_1]
  cases G with
  | nil=>simp [ck_unf w241_c0.eq_1,h1,h3,rmF]
  | cons g G=>simp (disch:=(first | omega | (simp;done) | (simp;omega))) [ck_unf w241_c0.eq_1,h1,h3,rmF,List.take_of_length_le]
 | succ n ih =>
  intro i hi G hG
  have h1:i < l.length:=by omega
  have hfit:(G.length+1) * 73≤35184372088832:=by omega
  rw [drop_cons h1,rmF]
  have w1:(a:Int)+(c:Int)=((a+c:Nat):Int):=by omega
  by_cases c1:i < a
  · have this:=ih (i+1) (by omega) (G++[l[i]]) (by simp;omega)
    rw [if_pos (.inl c1)]
    simp only [w241_K0] at this ⊢;rw [ck_unf w241_B0.eq_1]
    simp at this
    simp (disch:=omega) [h1,c1,hfit,ak,this]
  · by_cases c2:a+c≤i
    · have this:=ih (i+1) (by omega) (G++[l[i]]) (by simp;omega)
      have c2':(a:Int)+(c:Int)≤i:=by omega
      rw [if_pos (.inr c2)]
      simp only [w241_K0] at this ⊢;rw [ck_unf w241_B0.eq_1]
      simp at this
      simp (disch:=omega) [h1,c1,c2',hfit,ak,this]
    · have this:=ih (i+1) (by omega) G (by omega)
      have c2':¬ (a:Int)+(c:Int)≤i:=by omega
      rw [if_neg (by omega)]
      simp only [w241_K0] at this ⊢;rw [ck_unf w241_B0.eq_1]
      simp at this
      simp (disch:=omega) [h1,c1,c2',hfit,ak,this]
theorem gK (H:rD C) (l:List En) (e:Bool) (hl:l.length≤1000000) (a c:Int) :
 FnW C 241 [.ro 6 (l.map eEn) e,.int .i64 a,.int .i64 c]=some (if inR a c l.length=true then .tup [.ro 6 ((spl l a.toNat c.toNat []).map eEn) false,.int .i64 0] else .tup [.ro 6 [] true,.int .i64 4]):=by
 have hw:=eU H.tobn a c l.length (by omega)
 rw [fnW_eq H.f241 rfl]
 cases c1:inR a c l.length
 · rw [c1] at hw
   simp at hw
   simp [w241,hw,H.inl,inlB,H.pp,ppB]
 · have hq:=c1
   unfold inR at hq
   simp at hq
   rw [c1] at hw
   simp at hw
   obtain ⟨a',rfl⟩:∃ a':Nat,a=a':=⟨a.toNat,by omega⟩
   obtain ⟨c',rfl⟩:∃ c':Nat,c=c':=⟨c.toNat,by omega⟩
   have h:=iR H.tobn l e hl a' c' (by omega) l.length 0 (by simp) [] (by simp)
   rw [List.drop_zero,List.nil_append,uH] at h
   simp only [Int.toNat_natCast]
   generalize spl l a' c' []=R at *
   simp only [w241_K0] at h
   simp at h
   simp [w241,hw,h,H.inl,inlB,H.pp,ppB]
theorem kF (H:rD C) (l w:List En) (e1 e2:Bool) (n b:Int) (hb:l.length≤1000000) (hb2:w.length≤1000000) (ha:∀ x ∈ l,x.i.m.length≤1000000) (hbm:∀ x ∈ w,x.i.m.length≤1000000) :
 FnW C 243 [aL l true,.int .i64 n,.ro 6 (w.map eEn) e2,.int .i64 b]=some (.int .i64 (if (decide (n=b)&&(decide (l.length=w.length)&&bG l w))=true then 1 else 0)):=by
 have h:=dY H.tobn l w true e2 hb hb2 ha hbm
 rw [fnW_eq H.f243 rfl]
 generalize (decide (l.length=w.length)&&bG l w)=X at *
 by_cases c:n=b
 · rw [decide_eq_true c,Bool.true_and]
   simp [w243,eq_true c,h,H.inl,inlB,H.pp,ppB]
 · simp [w243,c]
structure dM (C:WProg):Prop extends rD C where
 zk:C.fns.get 422=some w422
 f270:C.fns.get 270=some w270
 f126:C.fns.get 126=some w126
 f130:C.fns.get 130=some w130
structure Good (i:It):Prop where
 k:1≤i.k∧i.k≤60
 t:0≤i.t∧i.t≤2
 x:isText i.x=true
 l:i.m.length≤8
 m:i.m.all isName=true
def kZ (k t:Int) (x:Bs) (o:Option AV):Prop:=∃ (m:List Bs) (e:Bool),o=some (eIt ⟨k,t,x,m,e⟩)∧m.length≤8∧m.all isName=true
theorem bJ (H:dM C) (k t a b c d:Int) (hd:0≤d∧d≤255) (x:Bs) (G:List Bs) (hG:G≠[]) (hl:G.length≤3) (hm:G.all isName=true) :
 kZ k t x (w422_K0 C ⟨[(4,.int .i64 3),(3,.ptr 0 0 0),(2,.ptr 2 0 0),(1,.ptr 3 0 0)],[(0,.cells 4 [[.int .u64 k,.int .u8 t,.str x,.sl 1 1 0 G.length G.length false]] true false),(1,.cells 1 (G.map eS) true true),(2,.cells 4 [[.int .u64 0,.int .u8 0,.str [],.ro 1 [] true]] true true),(3,.cells 4 [[.int .u8 a,.int .u8 b,.int .u8 c,.int .u8 d]] true true)],4⟩):=by
 have hfit:(G.length+1) * 17≤35184372088832:=by omega
 have hfit2:(G.length+2) * 17≤35184372088832:=by omega
 have h4:List.take G.length (List.map eS G)=List.map eS G:=List.take_of_length_le (by simp)
 by_cases c1:240≤d
 · refine ⟨G++[[97],[97]],false,?_,by simp;omega,by simp only [List.all_append,hm];decide⟩
   have h5:List.take (G.length+2) (List.map eS G++[[.str [97]],[.str [97]]])=List.map eS G++[[.str [97]],[.str [97]]]:=List.take_of_length_le (by simp)
   simp only [w422_K0];rw [ck_unf w422_B0.eq_1]
   simp (disch:=omega) [ck_unf w422_c0.eq_1,c1,h4,h5,hfit2]
 · refine ⟨G,false,?_,by omega,hm⟩
   simp only [w422_K0];rw [ck_unf w422_B0.eq_1]
   simp (disch:=omega) [ck_unf w422_c0.eq_1,c1,h4]
theorem gy (H:dM C) (k t a b c d:Int) (hd:0≤d∧d≤255) (x:Bs) :
 kZ k t x (w422_K0 C ⟨[(4,.int .i64 3),(3,.ptr 0 0 0),(2,.ptr 1 0 0),(1,.ptr 2 0 0)],[(0,.cells 4 [[.int .u64 k,.int .u8 t,.str x,.ro 1 [] true]] true true),(1,.cells 4 [[.int .u64 0,.int .u8 0,.str [],.ro 1 [] true]] true true),(2,.cells 4 [[.int .u8 a,.int .u8 b,.int .u8 c,.int .u8 d]] true true)],3⟩):=by
 by_cases c1:240≤d
 · refine ⟨[[97],[97]],false,?_,by simp,by decide⟩
   simp only [w422_K0];rw [ck_unf w422_B0.eq_1]
   simp (disch:=omega) [ck_unf w422_c0.eq_1,c1]
 · refine ⟨[],true,?_,by simp,rfl⟩
   simp only [w422_K0];rw [ck_unf w422_B0.eq_1]
   simp (disch:=omega) [ck_unf w422_c0.eq_1,c1]
theorem bK (H:dM C) (k t a b c d:Int) (hd:0≤d∧d≤255) (x:Bs) (G:List Bs) (hG:G≠[]) (hl:G.length≤2) (hm:G.all isName=true) :
 kZ k t x (w422_K0 C ⟨[(4,.int .i64 2),(3,.ptr 0 0 0),(2,.ptr 2 0 0),(1,.ptr 3 0 0)],[(0,.cells 4 [[.int .u64 k,.int .u8 t,.str x,.sl 1 1 0 G.length G.length false]] true false),(1,.cells 1 (G.map eS) true true),(2,.cells 4 [[.int .u64 0,.int .u8 0,.str [],.ro 1 [] true]] true true),(3,.cells 4 [[.int .u8 a,.int .u8 b,.int .u8 c,.int .u8 d]] true true)],4⟩):=by
 have hfit:(G.length+1) * 17≤35184372088832:=by omega
 have hfit2:(G.length+2) * 17≤35184372088832:=by omega
 have h4:List.take G.length (List.map eS G)=List.map eS G:=List.take_of_length_le (by simp)
 have h6:d.tdiv 8=d / 8:=Int.tdiv_eq_ediv_of_nonneg (by omega)
 have h5:(2+d / 8).tmod 3=(2+d / 8) % 3:=Int.tmod_eq_emod_of_nonneg (by omega)
 have hJ:(2+d / 8) % 3=0∨(2+d / 8) % 3=1∨(2+d / 8) % 3=2:=by omega
 simp only [w422_K0];rw [ck_unf w422_B0.eq_1]
 rcases hJ with hj | hj | hj
 · simp (disch:=omega) [ak,wU8,h5,h6,hj,h4,hfit]
   split
   · have h:=bJ H k t a b c d hd x (G++[[97]]) (by simp) (by simp;omega) (by simp only [List.all_append,hm];decide)
     simp only [w422_K0] at h
     simpa using h
   · exact bJ H k t a b c d hd x G hG (by omega) hm
 · simp (disch:=omega) [ak,wU8,h5,h6,hj,h4,hfit]
   split
   · have h:=bJ H k t a b c d hd x (G++[[98,50]]) (by simp) (by simp;omega) (by simp only [List.all_append,hm];decide)
     simp only [w422_K0] at h
     simpa using h
   · exact bJ H k t a b c d hd x G hG (by omega) hm
 · simp (disch:=omega) [ak,wU8,h5,h6,hj,h4,hfit]
   split
   · have h:=bJ H k t a b c d hd x (G++[[107,101,121]]) (by simp) (by simp;omega) (by simp only [List.all_append,hm];decide)
     simp only [w422_K0] at h
     simpa using h
   · exact bJ H k t a b c d hd x G hG (by omega) hm
theorem gQ (H:dM C) (k t a b c d:Int) (hd:0≤d∧d≤255) (x:Bs) :
 kZ k t x (w422_K0 C ⟨[(4,.int .i64 2),(3,.ptr 0 0 0),(2,.ptr 1 0 0),(1,.ptr 2 0 0)],[(0,.cells 4 [[.int .u64 k,.int .u8 t,.str x,.ro 1 [] true]] true true),(1,.cells 4 [[.int .u64 0,.int .u8 0,.str [],.ro 1 [] true]] true true),(2,.cells 4 [[.int .u8 a,.int .u8 b,.int .u8 c,.int .u8 d]] true true)],3⟩):=by
 have h6:d.tdiv 8=d / 8:=Int.tdiv_eq_ediv_of_nonneg (by omega)
 have h5:(2+d / 8).tmod 3=(2+d / 8) % 3:=Int.tmod_eq_emod_of_nonneg (by omega)
 have hJ:(2+d / 8) % 3=0∨(2+d / 8) % 3=1∨(2+d / 8) % 3=2:=by omega
 simp only [w422_K0];rw [ck_unf w422_B0.eq_1]
 rcases hJ with hj | hj | hj
 · simp (disch:=omega) [ak,wU8,h5,h6,hj]
   split
   · exact bJ H k t a b c d hd x [[97]] (by simp) (by simp) (by decide)
   · exact gy H k t a b c d hd x
 · simp (disch:=omega) [ak,wU8,h5,h6,hj]
   split
   · exact bJ H k t a b c d hd x [[98,50]] (by simp) (by simp) (by decide)
   · exact gy H k t a b c d hd x
 · simp (disch:=omega) [ak,wU8,h5,h6,hj]
   split
   · exact bJ H k t a b c d hd x [[107,101,121]] (by simp) (by simp) (by decide)
   · exact gy H k t a b c d hd x
theorem iJ (H:dM C) (k t a b c d:Int) (hd:0≤d∧d≤255) (x:Bs) (G:List Bs) (hG:G≠[]) (hl:G.length≤1) (hm:G.all isName=true) :
 kZ k t x (w422_K0 C ⟨[(4,.int .i64 1),(3,.ptr 0 0 0),(2,.ptr 2 0 0),(1,.ptr 3 0 0)],[(0,.cells 4 [[.int .u64 k,.int .u8 t,.str x,.sl 1 1 0 G.length G.length false]] true false),(1,.cells 1 (G.map eS) true true),(2,.cells 4 [[.int .u64 0,.int .u8 0,.str [],.ro 1 [] true]] true true),(3,.cells 4 [[.int .u8 a,.int .u8 b,.int .u8 c,.int .u8 d]] true true)],4⟩):=by
 have hfit:(G.length+1) * 17≤35184372088832:=by omega
 have hfit2:(G.length+2) * 17≤35184372088832:=by omega
 have h4:List.take G.length (List.map eS G)=List.map eS G:=List.take_of_length_le (by simp)
 have h6:d.tdiv 8=d / 8:=Int.tdiv_eq_ediv_of_nonneg (by omega)
 have h5:(1+d / 8).tmod 3=(1+d / 8) % 3:=Int.tmod_eq_emod_of_nonneg (by omega)
 have hJ:(1+d / 8) % 3=0∨(1+d / 8) % 3=1∨(1+d / 8) % 3=2:=by omega
 simp only [w422_K0];rw [ck_unf w422_B0.eq_1]
 rcases hJ with hj | hj | hj
 · simp (disch:=omega) [ak,wU8,h5,h6,hj,h4,hfit]
   split
   · have h:=bK H k t a b c d hd x (G++[[97]]) (by simp) (by simp;omega) (by simp only [List.all_append,hm];decide)
     simp only [w422_K0] at h
     simpa using h
   · exact bK H k t a b c d hd x G hG (by omega) hm
 · simp (disch:=omega) [ak,wU8,h5,h6,hj,h4,hfit]
   split
   · have h:=bK H k t a b c d hd x (G++[[98,50]]) (by simp) (by simp;omega) (by simp only [List.all_append,hm];decide)
     simp only [w422_K0] at h
     simpa using h
   · exact bK H k t a b c d hd x G hG (by omega) hm
 · simp (disch:=omega) [ak,wU8,h5,h6,hj,h4,hfit]
   split
   · have h:=bK H k t a b c d hd x (G++[[107,101,121]]) (by simp) (by simp;omega) (by simp only [List.all_append,hm];decide)
     simp only [w422_K0] at h
     simpa using h
   · exact bK H k t a b c d hd x G hG (by omega) hm
theorem gI (H:dM C) (k t a b c d:Int) (hd:0≤d∧d≤255) (x:Bs) :
 kZ k t x (w422_K0 C ⟨[(4,.int .i64 1),(3,.ptr 0 0 0),(2,.ptr 1 0 0),(1,.ptr 2 0 0)],[(0,.cells 4 [[.int .u64 k,.int .u8 t,.str x,.ro 1 [] true]] true true),(1,.cells 4 [[.int .u64 0,.int .u8 0,.str [],.ro 1 [] true]] true true),(2,.cells 4 [[.int .u8 a,.int .u8 b,.int .u8 c,.int .u8 d]] true true)],3⟩):=by
 have h6:d.tdiv 8=d / 8:=Int.tdiv_eq_ediv_of_nonneg (by omega)
 have h5:(1+d / 8).tmod 3=(1+d / 8) % 3:=Int.tmod_eq_emod_of_nonneg (by omega)
 have hJ:(1+d / 8) % 3=0∨(1+d / 8) % 3=1∨(1+d / 8) % 3=2:=by omega
 simp only [w422_K0];rw [ck_unf w422_B0.eq_1]
 rcases hJ with hj | hj | hj
 · simp (disch:=omega) [ak,wU8,h5,h6,hj]
   split
   · exact bK H k t a b c d hd x [[97]] (by simp) (by simp) (by decide)
   · exact gQ H k t a b c d hd x
 · simp (disch:=omega) [ak,wU8,h5,h6,hj]
   split
   · exact bK H k t a b c d hd x [[98,50]] (by simp) (by simp) (by decide)
   · exact gQ H k t a b c d hd x
 · simp (disch:=omega) [ak,wU8,h5,h6,hj]
   split
   · exact bK H k t a b c d hd x [[107,101,121]] (by simp) (by simp) (by decide)
   · exact gQ H k t a b c d hd x
theorem qo (H:dM C) (k t a b c d:Int) (hd:0≤d∧d≤255) (x:Bs) :
 kZ k t x (w422_K0 C ⟨[(4,.int .i64 0),(3,.ptr 0 0 0),(2,.ptr 1 0 0),(1,.ptr 2 0 0)],[(0,.cells 4 [[.int .u64 k,.int .u8 t,.str x,.ro 1 [] true]] true true),(1,.cells 4 [[.int .u64 0,.int .u8 0,.str [],.ro 1 [] true]] true true),(2,.cells 4 [[.int .u8 a,.int .u8 b,.int .u8 c,.int .u8 d]] true true)],3⟩):=by
 have h6:d.tdiv 8=d / 8:=Int.tdiv_eq_ediv_of_nonneg (by omega)
 have h5:(0+d / 8).tmod 3=(0+d / 8) % 3:=Int.tmod_eq_emod_of_nonneg (by omega)
 have hJ:(0+d / 8) % 3=0∨(0+d / 8) % 3=1∨(0+d / 8) % 3=2:=by omega
 simp only [w422_K0];rw [ck_unf w422_B0.eq_1]
 simp only [Int.zero_add] at h5 hJ
 rcases hJ with hj | hj | hj
 · simp (disch:=omega) [ak,wU8,h5,h6,hj]
   split
   · exact iJ H k t a b c d hd x [[97]] (by simp) (by simp) (by decide)
   · exact gI H k t a b c d hd x
 · simp (disch:=omega) [ak,wU8,h5,h6,hj]
   split
   · exact iJ H k t a b c d hd x [[98,50]] (by simp) (by simp) (by decide)
   · exact gI H k t a b c d hd x
 · simp (disch:=omega) [ak,wU8,h5,h6,hj]
   split
   · exact iJ H k t a b c d hd x [[107,101,121]] (by simp) (by simp) (by decide)
   · exact gI H k t a b c d hd x
structure Q4 where
 (a b c d:Int)
@[simp] def eQ (q:Q4):List AV:=[.int .u8 q.a,.int .u8 q.b,.int .u8 q.c,.int .u8 q.d]
structure QIn (q:Q4):Prop where
 a:0≤q.a∧q.a≤255
 b:0≤q.b∧q.b≤255
 c:0≤q.c∧q.c≤255
 d:0≤q.d∧q.d≤255
theorem pR (H:dM C) (q:Q4) (hq:QIn q):∃ i:It,FnW C 422 [.agg (eQ q)]=some (eIt i)∧Good i:=by
 obtain ⟨a,b,c,d⟩:=q
 obtain ⟨ha,hb,hc,hd⟩:=hq
 simp only at ha hb hc hd
 have h1:a.tmod 60=a % 60:=Int.tmod_eq_emod_of_nonneg (by omega)
 have h2:b.tmod 3=b % 3:=Int.tmod_eq_emod_of_nonneg (by omega)
 have h3:c.tmod 8=c % 8:=Int.tmod_eq_emod_of_nonneg (by omega)
 have hx:∀ x:Bs,isText x=true→∃ i:It,w422_K0 C ⟨[(4,.int .i64 0),(3,.ptr 0 0 0),(2,.ptr 1 0 0),(1,.ptr 2 0 0)],[(0,.cells 4 [[.int .u64 (1+a % 60),.int .u8 (b % 3),.str x,.ro 1 [] true]] true true),(1,.cells 4 [[.int .u64 0,.int .u8 0,.str [],.ro 1 [] true]] true true),(2,.cells 4 [[.int .u8 a,.int .u8 b,.int .u8 c,.int .u8 d]] true true)],3⟩=some (eIt i)∧Good i:=by
  intro x hx
  obtain ⟨m,e,h,r1,r2⟩:=qo H (1+a % 60) (b % 3) a b c d hd x
  exact ⟨_,h,⟨by simp only;omega,by simp only;omega,hx,r1,r2⟩⟩
 rw [fnW_eq H.zk rfl]
 have hJ:c % 8=0∨c % 8=1∨c % 8=2∨c % 8=3∨c % 8=4∨c % 8=5∨c % 8=6∨c % 8=7:=by omega
 rcases hJ with hj | hj | hj | hj | hj | hj | hj | hj
 · obtain ⟨i,h,g⟩:=hx [] (by decide)
   refine ⟨i,?_,g⟩
   simp only [w422_K0] at h
   simp (disch:=omega) [w422,h1,h2,h3,hj,ak,wU8,dU,h]
 · obtain ⟨i,h,g⟩:=hx [97] (by decide)
   refine ⟨i,?_,g⟩
   simp only [w422_K0] at h
   simp (disch:=omega) [w422,h1,h2,h3,hj,ak,wU8,dU,h]
 · obtain ⟨i,h,g⟩:=hx [114,111,119] (by decide)
   refine ⟨i,?_,g⟩
   simp only [w422_K0] at h
   simp (disch:=omega) [w422,h1,h2,h3,hj,ak,wU8,dU,h]
 · obtain ⟨i,h,g⟩:=hx [116,119,111,32,119,111,114,100,115] (by decide)
   refine ⟨i,?_,g⟩
   simp only [w422_K0] at h
   simp (disch:=omega) [w422,h1,h2,h3,hj,ak,wU8,dU,h]
 · obtain ⟨i,h,g⟩:=hx [32,32] (by decide)
   refine ⟨i,?_,g⟩
   simp only [w422_K0] at h
   simp (disch:=omega) [w422,h1,h2,h3,hj,ak,wU8,dU,h]
 · obtain ⟨i,h,g⟩:=hx [126,33,45,44] (by decide)
   refine ⟨i,?_,g⟩
   simp only [w422_K0] at h
   simp (disch:=omega) [w422,h1,h2,h3,hj,ak,wU8,dU,h]
 · obtain ⟨i,h,g⟩:=hx [97,32,108,111,110,103,101,114,32,116,101,120,116,32,111,102,32,116,104,105,115,32,107,105,110,100] (by decide)
   refine ⟨i,?_,g⟩
   simp only [w422_K0] at h
   simp (disch:=omega) [w422,h1,h2,h3,hj,ak,wU8,dU,h]
 · obtain ⟨i,h,g⟩:=hx [57] (by decide)
   refine ⟨i,?_,g⟩
   simp only [w422_K0] at h
   simp (disch:=omega) [w422,h1,h2,h3,hj,ak,wU8,dU,h]
theorem Good.it {i:It} (h:Good i):bZ i:=⟨by have:=h.k;omega,by have:=h.t;omega,by have:=h.l;omega⟩
theorem Good.ok {i:It} (h:Good i):aP 3 i=true:=by
 have h1:=h.k;have h2:=h.t;have h3:=h.x;have h4:=h.l;have h5:=h.m
 unfold aP
 simp only [Bool.and_eq_true,decide_eq_true_eq]
 exact ⟨⟨⟨by omega,by omega⟩,h3⟩,h4,h5⟩
theorem mG {k:Int}:∀ (l:List It) (i:Nat),jB k i l < 0→∀ x ∈ l,x.k≠k
 | [],_,_=>by simp
 | e::r,i,h=>by
  rw [jB] at h
  split at h
  · omega
  · rename_i c
    intro x hx
    rcases List.mem_cons.1 hx with rfl | hx
    · exact c
    · exact mG r (i+1) h x hx
theorem kC (H:dM C) (hone:∀ q:Q4,QIn q→∃ i:It,FnW C 422 [.agg (eQ q)]=some (eIt i)∧Good i) (l:List Q4) (e:Bool) (hq:∀ q ∈ l,QIn q):∀ n i,n+i=min l.length 12→∀ G:List It,G.length≤i→(∀ x ∈ G,Good x)→(G.map It.k).Nodup →
 ∃ R:List It,w270_K0 C ⟨[(4,.int .i64 i),(3,.sl 0 4 0 G.length G.length false),(1,.ptr 1 0 0)],[(0,.cells 4 (G.map cIt) true true),(1,.cells 1 [[.ro 4 (l.map eQ) e]] true true)],2⟩=some (.ro 4 (R.map cIt) false) ∧
  R.length≤12∧(∀ x ∈ R,Good x)∧(R.map It.k).Nodup:=by
 intro n
 induction n with
 | zero =>
  intro i hi G hG hg hn
  refine ⟨G,?_,by omega,hg,hn⟩
  simp only [w270_K0];rw [ck_unf w270_B0.eq_1]
  have h6:List.take G.length (List.map cIt G)=List.map cIt G:=List.take_of_length_le (by simp)
  by_cases h3:i < l.length
  · have h4:¬ (i:Int) < 12:=by omega
    simp [ck_unf w270_c0.eq_1,h3,h4,h6]
  · simp [ck_unf w270_c0.eq_1,h3,h6]
 | succ n ih =>
  intro i hi G hG hg hn
  have h1:i < l.length:=by omega
  have h2:(i:Int) < 12:=by omega
  obtain ⟨x,hx,gx⟩:=hone l[i] (hq _ (List.getElem_mem h1))
  have hf:=oL H.tobn G false x.k (by omega)
  have h6:List.take G.length (List.map cIt G)=List.map cIt G:=List.take_of_length_le (by simp)
  have hfit:(G.length+1) * 57≤35184372088832:=by omega
  simp only [eQ] at hx
  by_cases c:jB x.k 0 G < 0
  · have hno:=mG G 0 c
    obtain ⟨R,this,r1,r2,r3⟩:=ih (i+1) (by omega) (G++[x]) (by simp;omega) (by
     intro y hy
     rcases List.mem_append.1 hy with q | q
     · exact hg y q
     · simp at q;rw [q];exact gx) (by
     rw [List.map_append,List.nodup_append]
     refine ⟨hn,by simp,?_⟩
     intro a ha b hb
     simp at hb
     obtain ⟨y,hy,rfl⟩:=List.mem_map.1 ha
     rw [hb];exact hno y hy)
    refine ⟨R,?_,r1,r2,r3⟩
    simp only [w270_K0] at this ⊢;rw [ck_unf w270_B0.eq_1]
    simp at this
    simp (disch:=omega) [h1,h2,hx,hf,h6,c,hfit,ak,H.inl,inlB,H.pp,ppB,this]
  · obtain ⟨R,this,r1,r2,r3⟩:=ih (i+1) (by omega) G (by omega) hg hn
    refine ⟨R,?_,r1,r2,r3⟩
    simp only [w270_K0] at this ⊢;rw [ck_unf w270_B0.eq_1]
    simp at this
    simp (disch:=omega) [h1,h2,hx,hf,h6,c,ak,H.inl,inlB,H.pp,ppB,this]
theorem rM (H:dM C) (hone:∀ q:Q4,QIn q→∃ i:It,FnW C 422 [.agg (eQ q)]=some (eIt i)∧Good i) (l:List Q4) (e:Bool) (hq:∀ q ∈ l,QIn q) :
 ∃ R:List It,FnW C 270 [.agg [.ro 4 (l.map eQ) e]]=some (.ro 4 (R.map cIt) false)∧R.length≤12∧(∀ x ∈ R,Good x)∧(R.map It.k).Nodup:=by
 obtain ⟨R,h,r⟩:=kC H hone l e hq (min l.length 12) 0 (by simp) [] (by simp) (by simp) (by simp)
 refine ⟨R,?_,r⟩
 simp only [w270_K0] at h
 simp at h
 rw [fnW_eq H.f270 rfl]
 simp [w270,h]
def dN (k:Int) (t:Bs):Pt:=⟨k,[],[],[],true,t,[],true⟩
def fG:Pt:=⟨1,[114,111,119],[],[⟨[110],3,[]⟩,⟨[116,101,120,116],1,[]⟩],true,[],[dN 3 []],true⟩
def dH:Pt:=⟨1,[104,101,97,100],[104],[⟨[105,100],2,[]⟩],true,[],[dN 2 [35],dN 4 []],true⟩
def dG:Pt:=⟨1,[114,111,119],[],[],true,[],[⟨1,[98],[98,50],[],true,[],[dN 3 []],true⟩,⟨5,[116,97,103],[],[⟨[111,102],2,[]⟩],true,[],[],true⟩],true⟩
def au (n:Int):List Kd:=[⟨fG,10+n % 7,false,n % 4⟩,⟨dH,6+n % 3,true,n / 4 % 3⟩,⟨dG,20,decide (n % 16=15),n / 8 % 3⟩]
theorem oV (H:dM C) (n:Int) (hn:0≤n∧n≤255):FnW C 126 [.int .u8 n]=some (.ro 9 ((au n).map eKd) true):=by
 rw [fnW_eq H.f126 rfl]
 have h1:n.tmod 7=n % 7:=Int.tmod_eq_emod_of_nonneg (by omega)
 have h2:n.tmod 4=n % 4:=Int.tmod_eq_emod_of_nonneg (by omega)
 have h3:n.tmod 3=n % 3:=Int.tmod_eq_emod_of_nonneg (by omega)
 have h4:n.tdiv 4=n / 4:=Int.tdiv_eq_ediv_of_nonneg (by omega)
 have h5:n.tdiv 8=n / 8:=Int.tdiv_eq_ediv_of_nonneg (by omega)
 have h6:(n / 4).tmod 3=n / 4 % 3:=Int.tmod_eq_emod_of_nonneg (by omega)
 have h7:(n / 8).tmod 3=n / 8 % 3:=Int.tmod_eq_emod_of_nonneg (by omega)
 have h8:n.tmod 16=n % 16:=Int.tmod_eq_emod_of_nonneg (by omega)
 simp (disch:=omega) [w126,au,fG,dH,dG,dN,h1,h2,h3,h4,h5,h6,h7,h8,ak,wU8,Pt.aJ]
 rfl
theorem eY (k:Int) (t:Bs):aN (dN k t):=.mk _ ⟨by simp [dN],by simp [dN],by simp [dN]⟩ (by simp [dN])
theorem pV:aN fG:=.mk _ ⟨by simp [fG],by simp [fG],by simp [fG]⟩ (by simp only [fG,List.mem_cons,List.not_mem_nil,or_false];rintro m rfl;exact eY _ _)
theorem ou:aN dH:=.mk _ ⟨by simp [dH],by simp [dH],by simp [dH]⟩ (by simp only [dH,List.mem_cons,List.not_mem_nil,or_false];rintro m (rfl | rfl) <;> exact eY _ _)
theorem oh:aN dG:=.mk _ ⟨by simp [dG],by simp [dG],by simp [dG]⟩ (by
 simp only [dG,List.mem_cons,List.not_mem_nil,or_false]
 rintro m (rfl | rfl)
 · exact .mk _ ⟨by simp,by simp,by simp⟩ (by simp only [List.mem_cons,List.not_mem_nil,or_false];rintro m rfl;exact eY _ _)
 · exact .mk _ ⟨by simp,by simp,by simp⟩ (by simp))
theorem vJ (n:Int):bH (au n):=⟨by simp [au],by
 simp only [au,List.mem_cons,List.not_mem_nil,or_false]
 rintro k (rfl | rfl | rfl)
 · exact pV
 · exact ou
 · exact oh⟩
theorem wK:cu fG≠0:=by decide +kernel
theorem uz:cu dH≠0:=by decide +kernel
theorem sU:cu dG≠0:=by decide +kernel
theorem zy (n:Int) (hn:0≤n∧n≤255):dV (au n) 12=true:=by
 have e1:(1:Int)≤10+n % 7∧10+n % 7≤2305843009213693952:=by omega
 have e2:(1:Int)≤6+n % 3∧6+n % 3≤2305843009213693952:=by omega
 simp [dV,jL,hOk,au,wK,uz,sU,e1,e2]
theorem iI (n:Int) (hn:0≤n∧n≤255) (t:Int) (ht:0≤t∧t≤2):1≤(aF (au n) t).b∧(aF (au n) t).b≤30:=by
 have:t=0∨t=1∨t=2:=by omega
 rcases this with rfl | rfl | rfl <;> simp [aF,au] <;> omega
structure aG (ks:List Kd) (e:En):Prop where
 i:Good e.i
 ok:itE ks 12 e.i false=0
 s:1≤e.s∧e.s≤40
 b:e.kn=true∨e.s=(aF ks e.i.t).b
structure yt (ks:List Kd):Prop where
 r:bH ks
 l:ks.length=3
 b:∀ t:Int,0≤t→t≤2→1≤(aF ks t).b∧(aF ks t).b≤30
theorem vP (n:Int) (hn:0≤n∧n≤255):yt (au n):=⟨vJ n,rfl,fun t h1 h2=>iI n hn t ⟨h1,h2⟩⟩
theorem xM (H:dM C) (ks:List Kd) (hks:yt ks) (l:List It) (le:Bool) (hl:l.length≤12) (hg:∀ x ∈ l,Good x) (q:List Q4) (qe:Bool) (z:List Int) (ze:Bool) (hz:∀ s ∈ z,0≤s∧s≤255) (hzl:z.length < 9223372036854775808) (r:Int):∀ n i,n+i=l.length →
 ∀ G:List En,G≠[]→G.length≤i→(∀ x ∈ G,aG ks x)→(aA G++(l.drop i).map It.k).Nodup →
 ∃ (R:List En) (f:Bool),w130_K0 C ⟨[(7,.int .i64 i),(6,.ptr 0 0 0),(5,.ro 4 (l.map cIt) le),(4,.ptr 2 0 0),(3,.ptr 3 0 0),(2,.ptr 4 0 0),(1,.ptr 5 0 0)],[(0,.cells 1 [[.sl 1 6 0 G.length G.length false]] true false),(1,.cells 6 (G.map eEn) true true),(2,.cells 2 [[.ro 9 (ks.map eKd) true,.int .i64 12]] true true),(3,.cells 1 [[.ro 6 [] true]] true true),(4,.cells 2 [[.ro 9 [] true,.int .i64 0]] true true),(5,.cells 3 [[.ro 4 (q.map eQ) qe,.ro 1 (z.map eU8) ze,.int .u8 r]] true true)],6⟩=some (.tup [aR ks true 12,aL R f])∧R.length≤12∧(∀ e ∈ R,aG ks e)∧(aA R).Nodup:=by
 intro n
 induction n with
 | zero =>
  intro i hi G hne hG hge hn
  have h1:l.drop i=[]:=List.drop_eq_nil_of_le (by omega)
  have h3:¬ i < l.length:=by omega
  have h6:List.take G.length (List.map eEn G)=List.map eEn G:=List.take_of_length_le (by simp)
  refine ⟨G,false,?_,by omega,hge,by rw [h1] at hn;simpa using hn⟩
  simp only [w130_K0];rw [ck_unf w130_B0.eq_1]
  simp [ck_unf w130_c0.eq_1,h3,h6]
 | succ n ih =>
  intro i hi G hne hG hge hn
  have h1:i < l.length:=by omega
  have gx:=hg _ (List.getElem_mem h1)
  have hii:=jg H.tofK ks true 12 l[i] gx.it hks.r false
  have hfr:=fF H.tofK ks true 12 l[i] gx.it (by have:=gx.t;have:=hks.l;omega)
  have hbase:=hks.b l[i].t gx.t.1 gx.t.2
  rw [drop_cons h1,List.map_cons] at hn
  have hfit:(G.length+1) * 73≤35184372088832:=by omega
  simp only [aR,eIt,Bool.false_eq_true,if_false] at hii
  simp only [aR,eIt,aE,eEn,fre] at hfr
  have hE0:0≤itE ks 12 l[i] false:=by unfold itE;repeat (first | omega | split)
  by_cases c1:itE ks 12 l[i] false=0
  · have step:∀ e:En,e.i=l[i]→aG ks e→∃ (R:List En) (f:Bool),w130_K0 C ⟨[(7,.int .i64 ((i:Int)+1)),(6,.ptr 0 0 0),(5,.ro 4 (l.map cIt) le),(4,.ptr 2 0 0),(3,.ptr 3 0 0),(2,.ptr 4 0 0),(1,.ptr 5 0 0)],[(0,.cells 1 [[.sl 1 6 0 (G.length+1) (G.length+1) false]] true false),(1,.cells 6 (G.map eEn++[eEn e]) true true),(2,.cells 2 [[.ro 9 (ks.map eKd) true,.int .i64 12]] true true),(3,.cells 1 [[.ro 6 [] true]] true true),(4,.cells 2 [[.ro 9 [] true,.int .i64 0]] true true),(5,.cells 3 [[.ro 4 (q.map eQ) qe,.ro 1 (z.map eU8) ze,.int .u8 r]] true true)],6⟩=some (.tup [aR ks true 12,aL R f])∧R.length≤12∧(∀ e ∈ R,aG ks e)∧(aA R).Nodup:=by
     intro e he hge2
     have:=ih (i+1) (by omega) (G++[e]) (by simp) (by simp;omega) (by
      intro y hy
      rcases List.mem_append.1 hy with q | q
      · exact hge y q
      · simp at q;rw [q];exact hge2) (by simpa [aA,he] using hn)
     simpa using this
    by_cases c2:G.length < z.length
    · by_cases c3:(0:Int) < z[G.length]
      · have hzz:=hz _ (List.getElem_mem c2)
        have hm:z[G.length].tmod 40=z[G.length] % 40:=Int.tmod_eq_emod_of_nonneg hzz.1
        have hm1:(0:Int)≤z[G.length] % 40:=Int.emod_nonneg _ (by omega)
        have hm2:z[G.length] % 40 < 40:=Int.emod_lt_of_pos _ (by omega)
        obtain ⟨R,f,this,hR⟩:=step ⟨l[i],1+z[G.length] % 40,true⟩ rfl ⟨gx,c1,by simp only;omega,.inl rfl⟩
        refine ⟨R,f,?_,hR⟩
        rw [c1] at hii
        generalize z[G.length] % 40=M at *
        simp only [w130_K0] at this ⊢;rw [ck_unf w130_B0.eq_1]
        simp at this
        simp (disch:=omega) [h1,c2,c3,hm,hii,hfr,hfit,ak,wU8,H.inl,inlB,H.pp,ppB,this]
      · obtain ⟨R,f,this,hR⟩:=step (fre ks l[i]) rfl ⟨gx,c1,by unfold fre;simp only;omega,.inr rfl⟩
        refine ⟨R,f,?_,hR⟩
        rw [c1] at hii
        simp only [fre] at this
        simp only [w130_K0] at this ⊢;rw [ck_unf w130_B0.eq_1]
        simp at this
        simp (disch:=omega) [h1,c2,c3,hii,hfr,hfit,ak,wU8,H.inl,inlB,H.pp,ppB,this]
    · obtain ⟨R,f,this,hR⟩:=step (fre ks l[i]) rfl ⟨gx,c1,by unfold fre;simp only;omega,.inr rfl⟩
      refine ⟨R,f,?_,hR⟩
      rw [c1] at hii
      simp only [fre] at this
      simp only [w130_K0] at this ⊢;rw [ck_unf w130_B0.eq_1]
      simp at this
      simp (disch:=omega) [h1,c2,hii,hfr,hfit,ak,wU8,H.inl,inlB,H.pp,ppB,this]
  · have c1':0 < itE ks 12 l[i] false:=by omega
    obtain ⟨R,f,this,hR⟩:=ih (i+1) (by omega) G hne (by omega) hge (by
     refine List.Nodup.sublist ?_ hn;exact List.Sublist.append (List.Sublist.refl _) (List.sublist_cons_self _ _))
    refine ⟨R,f,?_,hR⟩
    generalize itE ks 12 l[i] false=E at *
    simp only [w130_K0] at this ⊢;rw [ck_unf w130_B0.eq_1]
    simp at this
    simp (disch:=omega) [h1,c1',hii,ak,H.inl,inlB,H.pp,ppB,this]
theorem um (H:dM C) (ks:List Kd) (hks:yt ks) (l:List It) (le:Bool) (hl:l.length≤12) (hg:∀ x ∈ l,Good x) (q:List Q4) (qe:Bool) (z:List Int) (ze:Bool) (hz:∀ s ∈ z,0≤s∧s≤255) (hzl:z.length < 9223372036854775808) (r:Int):∀ n i,n+i=l.length →
 (aA []++(l.drop i).map It.k).Nodup →
 ∃ (R:List En) (f:Bool),w130_K0 C ⟨[(7,.int .i64 i),(6,.ptr 0 0 0),(5,.ro 4 (l.map cIt) le),(4,.ptr 1 0 0),(3,.ptr 2 0 0),(2,.ptr 3 0 0),(1,.ptr 4 0 0)],[(0,.cells 1 [[.ro 6 [] true]] true true),(1,.cells 2 [[.ro 9 (ks.map eKd) true,.int .i64 12]] true true),(2,.cells 1 [[.ro 6 [] true]] true true),(3,.cells 2 [[.ro 9 [] true,.int .i64 0]] true true),(4,.cells 3 [[.ro 4 (q.map eQ) qe,.ro 1 (z.map eU8) ze,.int .u8 r]] true true)],5⟩=some (.tup [aR ks true 12,aL R f])∧R.length≤12∧(∀ e ∈ R,aG ks e)∧(aA R).Nodup:=by
 intro n
 induction n with
 | zero =>
  intro i hi  hn
  have h1:l.drop i=[]:=List.drop_eq_nil_of_le (by omega)
  have h3:¬ i < l.length:=by omega
  refine ⟨[],true,?_,by simp,by simp,by simp⟩
  simp only [w130_K0];rw [ck_unf w130_B0.eq_1]
  simp [ck_unf w130_c0.eq_1,h3]
 | succ n ih =>
  intro i hi  hn
  have h1:i < l.length:=by omega
  have gx:=hg _ (List.getElem_mem h1)
  have hii:=jg H.tofK ks true 12 l[i] gx.it hks.r false
  have hfr:=fF H.tofK ks true 12 l[i] gx.it (by have:=gx.t;have:=hks.l;omega)
  have hbase:=hks.b l[i].t gx.t.1 gx.t.2
  rw [drop_cons h1,List.map_cons] at hn
  simp only [aR,eIt,Bool.false_eq_true,if_false] at hii
  simp only [aR,eIt,aE,eEn,fre] at hfr
  have hE0:0≤itE ks 12 l[i] false:=by unfold itE;repeat (first | omega | split)
  by_cases c1:itE ks 12 l[i] false=0
  · have step:∀ e:En,e.i=l[i]→aG ks e→∃ (R:List En) (f:Bool),w130_K0 C ⟨[(7,.int .i64 ((i:Int)+1)),(6,.ptr 0 0 0),(5,.ro 4 (l.map cIt) le),(4,.ptr 2 0 0),(3,.ptr 3 0 0),(2,.ptr 4 0 0),(1,.ptr 5 0 0)],[(0,.cells 1 [[.sl 1 6 0 1 1 false]] true false),(1,.cells 6 [eEn e] true true),(2,.cells 2 [[.ro 9 (ks.map eKd) true,.int .i64 12]] true true),(3,.cells 1 [[.ro 6 [] true]] true true),(4,.cells 2 [[.ro 9 [] true,.int .i64 0]] true true),(5,.cells 3 [[.ro 4 (q.map eQ) qe,.ro 1 (z.map eU8) ze,.int .u8 r]] true true)],6⟩=some (.tup [aR ks true 12,aL R f])∧R.length≤12∧(∀ e ∈ R,aG ks e)∧(aA R).Nodup:=by
     intro e he hge2
     have:=xM H ks hks l le hl hg q qe z ze hz hzl r n (i+1) (by omega) [e] (by simp) (by simp) (by simpa using hge2) (by simpa [aA,he] using hn)
     simpa using this
    by_cases c2:0 < z.length
    · by_cases c3:(0:Int) < z[0]
      · have hzz:=hz _ (List.getElem_mem c2)
        have hm:z[0].tmod 40=z[0] % 40:=Int.tmod_eq_emod_of_nonneg hzz.1
        have hm1:(0:Int)≤z[0] % 40:=Int.emod_nonneg _ (by omega)
        have hm2:z[0] % 40 < 40:=Int.emod_lt_of_pos _ (by omega)
        obtain ⟨R,f,this,hR⟩:=step ⟨l[i],1+z[0] % 40,true⟩ rfl ⟨gx,c1,by simp only;omega,.inl rfl⟩
        refine ⟨R,f,?_,hR⟩
        rw [c1] at hii
        generalize z[0] % 40=M at *
        simp only [w130_K0] at this ⊢;rw [ck_unf w130_B0.eq_1]
        simp at this
        simp (disch:=omega) [h1,c2,c3,hm,hii,hfr,ak,wU8,H.inl,inlB,H.pp,ppB,this]
      · obtain ⟨R,f,this,hR⟩:=step (fre ks l[i]) rfl ⟨gx,c1,by unfold fre;simp only;omega,.inr rfl⟩
        refine ⟨R,f,?_,hR⟩
        rw [c1] at hii
        simp only [fre] at this
        simp only [w130_K0] at this ⊢;rw [ck_unf w130_B0.eq_1]
        simp at this
        simp (disch:=omega) [h1,c2,c3,hii,hfr,ak,wU8,H.inl,inlB,H.pp,ppB,this]
    · obtain ⟨R,f,this,hR⟩:=step (fre ks l[i]) rfl ⟨gx,c1,by unfold fre;simp only;omega,.inr rfl⟩
      refine ⟨R,f,?_,hR⟩
      rw [c1] at hii
      simp only [fre] at this
      simp only [w130_K0] at this ⊢;rw [ck_unf w130_B0.eq_1]
      simp at this
      simp (disch:=omega) [h1,c2,hii,hfr,ak,wU8,H.inl,inlB,H.pp,ppB,this]
  · have c1':0 < itE ks 12 l[i] false:=by omega
    obtain ⟨R,f,this,hR⟩:=ih (i+1) (by omega) (by
     simp only [aA,List.map_nil,List.nil_append] at hn ⊢;exact (List.nodup_cons.1 hn).2)
    refine ⟨R,f,?_,hR⟩
    generalize itE ks 12 l[i] false=E at *
    simp only [w130_K0] at this ⊢;rw [ck_unf w130_B0.eq_1]
    simp at this
    simp (disch:=omega) [h1,c1',hii,ak,H.inl,inlB,H.pp,ppB,this]
theorem jY (H:dM C) (hone:∀ q:Q4,QIn q→∃ i:It,FnW C 422 [.agg (eQ q)]=some (eIt i)∧Good i) (q:List Q4) (qe:Bool) (hq:∀ x ∈ q,QIn x) (z:List Int) (ze:Bool) (hz:∀ s ∈ z,0≤s∧s≤255) (hzl:z.length < 9223372036854775808) (r:Int) (hr:0≤r∧r≤255) :
 ∃ (R:List En) (f:Bool),FnW C 130 [.agg [.ro 4 (q.map eQ) qe,.ro 1 (z.map eU8) ze,.int .u8 r]]=some (.tup [aR (au r) true 12,aL R f])∧R.length≤12∧(∀ e ∈ R,aG (au r) e)∧(aA R).Nodup:=by
 obtain ⟨I,hI,l1,l2,l3⟩:=rM H hone q qe hq
 have hk:=oV H r hr
 obtain ⟨R,f,h,hR⟩:=um H (au r) (vP r hr) I false l1 l2 q qe z ze hz hzl r I.length 0 (by simp) (by simpa [aA] using l3)
 refine ⟨R,f,?_,hR⟩
 rw [fnW_eq H.f130 rfl]
 generalize au r=ks at *
 simp only [w130_K0] at h
 simp at h
 simp [w130,hI,hk,h,H.inl,inlB,H.pp,ppB]
mutual
theorem qY (i:It):∀ p:Pt,mk i.own p=mk i p
 | ⟨k,t,y,s,se,tx,ch,ce⟩=>by rw [mk,mk,mP i ch];rfl
theorem mP (i:It):∀ l:List Pt,mks i.own l=mks i l
 | []=>rfl
 | p::r=>by rw [mks,mks,qY i p,mP i r]
end
theorem jf (ks:List Kd) (hb:∀ t:Int,0≤t→t≤2→1≤(aF ks t).b∧(aF ks t).b≤30):∀ (l:List En) (s:List Int),(∀ e ∈ l,aG ks e)→(s++aA l).Nodup→chk ks 12 s l=0
 | [],_,_,_=>rfl
 | e::r,s,hg,hn=>by
  have h1:=hg e (by simp)
  have h2:s.contains e.i.k=false:=by
   simp only [aA,List.map_cons] at hn
   have:=(List.nodup_append.1 hn).2.2
   simp only [List.contains_eq_mem,decide_eq_false_iff_not]
   intro q
   exact this _ q _ (by simp) rfl
  have h3:enE ks 12 e false=0:=by
   unfold enE
   rw [h1.ok]
   have hh:hOk e.s=true:=by unfold hOk;have:=h1.s;simp;omega
   simp [hh,h1.b]
  rw [chk,h2,h3]
  simp only [ne_eq,not_true_eq_false,if_false]
  refine jf ks hb r _ (fun x hx=>hg x (by simp [hx])) ?_
  simpa [aA] using hn
theorem fZ (ks:List Kd):∀ (l:List En) (s:Int),(∀ e ∈ l,aG ks e)→0≤s→s+40 * l.length≤4611686018427387904→jK s l≤s+40 * l.length
 | [],s,_,_,_=>by simp [jK]
 | e::r,s,hg,h0,h=>by
  have h1:=(hg e (by simp)).s
  have h2:imax e.s 0=e.s:=rH (by omega)
  simp only [List.length_cons] at h ⊢
  rw [jK,h2,if_neg (by omega)]
  have:=fZ ks r (s+e.s) (fun x hx=>hg x (by simp [hx])) (by omega) (by omega)
  omega
theorem fU (r:Int) (hr:0≤r∧r≤255) (l:List En) (hl:l.length≤1024) (hg:∀ e ∈ l,aG (au r) e) (hn:(aA l).Nodup):ckE (au r) 12 l=0:=by
 have h1:=jf (au r) (fun t a b=>iI r hr t ⟨a,b⟩) l [] hg (by simpa using hn)
 have h2:=fZ (au r) l 0 hg (by omega) (by omega)
 have h3:ovE l=0:=by unfold ovE tot;rw [if_neg (by omega)]
 unfold ckE
 rw [zy r hr,h1,if_neg (by simp),if_neg (by omega),if_neg (by simp),h3]
theorem aG.en {ks:List Kd} {e:En} (h:aG ks e):aK e:=⟨h.i.it,by have:=h.s;omega⟩
theorem iF (r:Int) (l:List En) (hl:l.length≤10000) (hg:∀ e ∈ l,aG (au r) e):ovE l=0:=by
 have h2:=fZ (au r) l 0 hg (by omega) (by omega)
 unfold ovE tot;rw [if_neg (by omega)]
theorem aG.ow {ks:List Kd} {e:En} (h:aG ks e):aG ks e.own:=by
 refine ⟨⟨h.i.k,h.i.t,h.i.x,h.i.l,h.i.m⟩,?_,h.s,h.b⟩
 have h1:=h.ok
 have e1:∀ i:It,aP ks.length i.own=aP ks.length i:=fun i=>rfl
 have e2:∀ (i:It) (p:Pt),aX p i.own 12=aX p i 12:=by
  intro i p
  have:mkN i.own p=mkN i p:=by
   have m1:∀ p,Go.D.mk i.own p=Go.D.mk i p:=by
    intro p
    exact (qY i p)
   unfold mkN;rw [m1]
  unfold aX;rw [this];rfl
 unfold itE at h1 ⊢
 simp only [En.own,e1,e2]
 exact h1
end Go.D
end
