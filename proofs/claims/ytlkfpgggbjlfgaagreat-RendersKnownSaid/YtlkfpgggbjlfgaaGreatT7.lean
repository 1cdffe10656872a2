/- Part of the theory that the claims of this work use: E06, E08, G01, E12, E13, E07, E09, D46, E15, E16, E10, E11, D30, D31, D38, D40, D47, D48, D49, E17, E18, E19, E20, E21, E22, E23, E05, E28, E29. No conditions of its own. -/
import Derived.Test.YtlkfpgggbjlfgaaGreatT6
set_option linter.unusedVariables false
set_option linter.unusedSimpArgs false
set_option maxHeartbeats 4000000
set_option maxRecDepth 10000
section
namespace Go.D
open Go Go.Pav Go.Pw P
attribute [-simp] List.getElem_cons_drop
variable {C:aG}
structure akB (C:aG):Prop extends oG C
def afM (v least over:Int):Prop:=v < 1∨2147483648 < v∨least < 1∨2305843009213693952 < least∨over < 0∨16 < over
instance (v least over:Int):Decidable (afM v least over):=by unfold afM;infer_instance
structure afL (C:aG):Prop extends fU C,akB C,uM C where
 f256:C.fns.get 256=some acN
end Go.D
end
section
namespace Go.Proofs.YtlkfpgggbjlfgaaGreat
open Go.ChangeShapes Go.WideShapes Go.ChangeAt Go.RowKit Go.Pav Go.Pw P Go.D
theorem ank:uM prog:={ aha:=rfl,ahq:=rfl,ahb:=rfl,aie:=rfl,ahx:=rfl,agH:=rfl,ad9:=rfl,aeK:=rfl,ahs:=rfl,ahn:=rfl,aiY:=rfl,ag3:=rfl,aiC:=rfl,inl:=rfl,pp:=rfl,ahN:=rfl,agw:=rfl,ahl:=rfl,ag8:=rfl,ahP:=rfl,f282:=rfl,f140:=rfl,aiq:=rfl,agV:=rfl,ahf:=rfl,aiN:=rfl,ai1:=rfl,agF:=rfl,ag2:=rfl,ahB:=rfl,ahG:=rfl,f231:=rfl,agO:=rfl,YW:=rfl,aiw:=rfl,ah2:=rfl,aht:=rfl,agI:=rfl,aiB:=rfl,aiz:=rfl,adU:=rfl,ahT:=rfl,ahu:=rfl,aip:=rfl,ah5:=rfl,agE:=rfl,aiS:=rfl,agR:=rfl,ahm:=rfl,adE:=rfl,agC:=rfl,aiZ:=rfl,aij:=rfl,ahO:=rfl,ais:=rfl,Zk:=rfl,ahJ:=rfl,agS:=rfl,agN:=rfl,aiE:=rfl,air:=rfl,ahK:=rfl,aic:=rfl,f225:=rfl,f111:=rfl,f227:=rfl,aiW:=rfl,ag1:=rfl,ahc:=rfl,agA:=rfl,f240:=rfl,ah4:=rfl,ah3:=rfl,f230:=rfl,ag5:=rfl,f232:=rfl,f115:=rfl,f271:=rfl,f223:=rfl,ahd:=rfl,f270:=rfl,f126:=rfl,f130:=rfl }
end Go.Proofs.YtlkfpgggbjlfgaaGreat
end
section
namespace Go.D
open Go Go.Pav Go.Pw P
attribute [-simp] List.getElem_cons_drop
variable {C:aG}
structure qg (C:aG):Prop extends oG C where
 akr:C.fns.get 415=some H8
 akx:C.fns.get 506=some Lu
 akh:C.fns.get 552=some Zj
 akN:C.fns.get 551=some Zo
 akl:C.fns.get 413=some Ti
 aj0:C.fns.get 414=some abr
 f258:C.fns.get 258=some TJ
 f260:C.fns.get 260=some RI
 f127:C.fns.get 127=some Ru
mutual
/-- Are two trees equal? -/
def eqN:Nd→Nd→Bool
 | ⟨k,t,y,a,_,x,ch,_⟩,⟨k',t',y',a',_,x',ch',_⟩=>decide (k=k')&&decide (t=t')&&decide (y=y')&&decide (x=x')&&decide (a=a')&&kZ ch ch'
def kZ:List Nd→List Nd→Bool
 | [],[]=>true
 | n::r,m::s=>eqN n m&&kZ r s
 | _,_=>false
end
theorem abh (n m:Nd):eqN n m=(decide (n.k=m.k)&&decide (n.t=m.t)&&decide (n.y=m.y)&&decide (n.x=m.x)&&decide (n.a=m.a)&&kZ n.ch m.ch):=by
 cases n;cases m;rw [eqN]
theorem Gy:∀ (l r:List Nd),kZ l r=true→l.length=r.length
 | [],[],_=>rfl
 | n::l,m::r,h=>by
  rw [kZ,Bool.and_eq_true] at h
  simp [Gy l r h.2]
 | [],_::_,h=>by simp [kZ] at h
 | _::_,[],h=>by simp [kZ] at h
inductive uH:Nd→Prop
 | mk (n:Nd) (h1:n.a.length≤9223372036854775807) (h2:n.ch.length≤9223372036854775807) (h:∀ m ∈ n.ch,uH m):uH n
theorem ajA (H:qg C) (a b:Nd) (hl:a.ch.length=b.ch.length) (h2:a.ch.length≤9223372036854775807)
 (ih:∀ c ∈ a.ch,∀ m:Nd,FnW C 415 [.agg c.c,.agg m.c]=some (.int .i64 (if eqN c m=true then 1 else 0))):∀ n i,n+i=a.ch.length →
 wP C ⟨[(6,.int .i64 i),(3,.ptr 0 0 0),(2,.ptr 1 0 0)],[(0,.cells 6 [b.c] true true),(1,.cells 6 [a.c] true true)],2⟩=some (.int .i64 (if kZ (a.ch.drop i) (b.ch.drop i)=true then 1 else 0)):=by
 intro n
 induction n with
 | zero =>
  intro i hi
  have h3:¬ i < a.ch.length:=by omega
  have e1:a.ch.drop i=[]:=List.drop_eq_nil_of_le (by omega)
  have e2:b.ch.drop i=[]:=List.drop_eq_nil_of_le (by omega)
  simp only [wP];rw [aj wQ.eq_1]
  simp (disch:=omega) [aj NH.eq_1,h3,e1,e2,kZ]
 | succ n ihn =>
  intro i hi
  have h1:i < a.ch.length:=by omega
  have h1':i < b.ch.length:=by omega
  have this:=ihn (i+1) (by omega)
  have hs:=ih a.ch[i] (List.getElem_mem h1) b.ch[i]
  rw [drop_cons h1,drop_cons h1',kZ]
  cases c:eqN a.ch[i] b.ch[i]
  · rw [c] at hs
    simp at hs
    simp only [wP];rw [aj wQ.eq_1]
    simp (disch:=omega) [h1,h1',hs,aI,H.inl,aB,H.pp,ppB]
  · rw [c] at hs
    simp at hs
    rw [Bool.true_and]
    generalize (if kZ (a.ch.drop (i+1)) (b.ch.drop (i+1))=true then (1:Int) else 0)=R at *
    simp only [wP] at this ⊢;rw [aj wQ.eq_1]
    simp at this
    simp (disch:=omega) [h1,h1',hs,aI,H.inl,aB,H.pp,ppB,this]
theorem akw (H:qg C) (a b:Nd) (hl:a.a.length=b.a.length) (h1:a.a.length≤9223372036854775807) (X:Int)
 (h0:wP C ⟨[(6,.int .i64 0),(3,.ptr 0 0 0),(2,.ptr 1 0 0)],[(0,.cells 6 [b.c] true true),(1,.cells 6 [a.c] true true)],2⟩=some (.int .i64 X)):∀ n i,n+i=a.a.length →
 vV C ⟨[(5,.int .i64 i),(3,.ptr 0 0 0),(2,.ptr 1 0 0)],[(0,.cells 6 [b.c] true true),(1,.cells 6 [a.c] true true)],2⟩=some (.int .i64 (if a.a.drop i=b.a.drop i then X else 0)):=by
 intro n
 induction n with
 | zero =>
  intro i hi
  have h3:¬ i < a.a.length:=by omega
  have e1:a.a.drop i=[]:=List.drop_eq_nil_of_le (by omega)
  have e2:b.a.drop i=[]:=List.drop_eq_nil_of_le (by omega)
  rw [e1,e2,if_pos rfl]
  simp only [wP] at h0
  try simp at h0
  simp only [vV];rw [aj sQ.eq_1]
  simp (disch:=omega) [aj MR.eq_1,h3,h0]
 | succ n ihn =>
  intro i hi
  have hi1:i < a.a.length:=by omega
  have hi2:i < b.a.length:=by omega
  have this:=ihn (i+1) (by omega)
  rw [drop_cons hi1,drop_cons hi2]
  by_cases c1:a.a[i].1=b.a[i].1
  · by_cases c2:a.a[i].2=b.a[i].2
    · have c:a.a[i]=b.a[i]:=Prod.ext c1 c2
      have hq:(if a.a[i]::a.a.drop (i+1)=b.a[i]::b.a.drop (i+1) then X else 0)=if a.a.drop (i+1)=b.a.drop (i+1) then X else 0:=by simp [c]
      rw [hq]
      generalize (if a.a.drop (i+1)=b.a.drop (i+1) then X else 0)=R at *
      simp only [vV] at this ⊢;rw [aj sQ.eq_1]
      simp at this
      simp (disch:=omega) [hi1,hi2,eq_true c1,eq_true c2,aI,H.inl,aB,H.pp,ppB,this]
    · have hq:(if a.a[i]::a.a.drop (i+1)=b.a[i]::b.a.drop (i+1) then X else 0)=0:=by
       rw [if_neg];intro q;exact c2 (congrArg Prod.snd (List.cons.inj q).1)
      rw [hq]
      simp only [vV];rw [aj sQ.eq_1]
      simp (disch:=omega) [hi1,hi2,eq_true c1,c2,aI,H.inl,aB,H.pp,ppB]
  · have hq:(if a.a[i]::a.a.drop (i+1)=b.a[i]::b.a.drop (i+1) then X else 0)=0:=by
     rw [if_neg];intro q;exact c1 (congrArg Prod.fst (List.cons.inj q).1)
    rw [hq]
    simp only [vV];rw [aj sQ.eq_1]
    simp (disch:=omega) [hi1,hi2,c1,aI,H.inl,aB,H.pp,ppB]
theorem aaW (H:qg C) {a:Nd} (ha:uH a):∀ b:Nd,FnW C 415 [.agg a.c,.agg b.c]=some (.int .i64 (if eqN a b=true then 1 else 0)):=by
 induction ha with
 | mk a h1 h2 h ih =>
  intro b
  rw [aF H.akr rfl,abh]
  by_cases c1:a.k=b.k
  · by_cases c2:a.t=b.t
    · by_cases c3:a.y=b.y
      · by_cases c4:a.x=b.x
        · by_cases c5:a.a.length=b.a.length
          · by_cases c6:a.ch.length=b.ch.length
            · have k0:=ajA H a b c6 h2 ih a.ch.length 0 (by simp)
              rw [List.drop_zero,List.drop_zero] at k0
              have k1:=akw H a b c5 h1 _ k0 a.a.length 0 (by simp)
              rw [List.drop_zero,List.drop_zero] at k1
              have hq:(if (decide (a.k=b.k)&&decide (a.t=b.t)&&decide (a.y=b.y)&&decide (a.x=b.x)&&decide (a.a=b.a)&&kZ a.ch b.ch)=true then (1:Int) else 0)=if a.a=b.a then (if kZ a.ch b.ch=true then 1 else 0) else 0:=by
               by_cases q:a.a=b.a <;> simp [c1,c2,c3,c4,q]
              rw [hq]
              generalize (if a.a=b.a then (if kZ a.ch b.ch=true then (1:Int) else 0) else 0)=R at *
              simp only [vV] at k1
              simp at k1
              simp (disch:=omega) [H8,eq_true c1,eq_true c2,eq_true c3,eq_true c4,c5,c6,k1]
            · have hq:kZ a.ch b.ch=false:=by
               cases q:kZ a.ch b.ch
               · rfl
               · exact absurd (Gy _ _ q) c6
              simp (disch:=omega) [H8,eq_true c1,eq_true c2,eq_true c3,eq_true c4,c5,c6,hq]
          · have hq:¬ a.a=b.a:=fun q=>c5 (by rw [q])
            simp (disch:=omega) [H8,eq_true c1,eq_true c2,eq_true c3,eq_true c4,c5,hq]
        · simp (disch:=omega) [H8,eq_true c1,eq_true c2,eq_true c3,c4]
      · simp (disch:=omega) [H8,eq_true c1,eq_true c2,c3]
    · simp (disch:=omega) [H8,eq_true c1,c2]
  · simp (disch:=omega) [H8,c1]
end Go.D
end
section
namespace Go.D
open Go Go.Pav Go.Pw P
attribute [-simp] List.getElem_cons_drop
variable {C:aG}
theorem Yp (H:qg C) (a b:List (Bs × Bs)) (e f:Bool) (hl:a.length=b.length) (hm:a.length≤9223372036854775807):∀ n i,n+i=a.length →
 wJ C ⟨[(13,.int .i64 i),(12,.int .i64 a.length),(1,.ro 2 (b.map eA) f),(0,.ro 2 (a.map eA) e)],[],0⟩=some (.bool (decide (a.drop i=b.drop i))):=by
 intro n
 induction n with
 | zero =>
  intro i hi
  have h1:a.drop i=[]:=List.drop_eq_nil_of_le (by omega)
  have h2:b.drop i=[]:=List.drop_eq_nil_of_le (by omega)
  have h3:¬ i < a.length:=by omega
  simp only [wJ];rw [aj rM.eq_1]
  simp (disch:=omega) [aj Oj.eq_1,h1,h2,h3]
 | succ n ih =>
  intro i hi
  have h1:i < a.length:=by omega
  have h2:i < b.length:=by omega
  have this:=ih (i+1) (by omega)
  rw [drop_cons h1,drop_cons h2]
  by_cases c1:a[i].1=b[i].1
  · by_cases c2:a[i].2=b[i].2
    · have c:a[i]=b[i]:=Prod.ext c1 c2
      have hq:decide (a[i]::a.drop (i+1)=b[i]::b.drop (i+1))=decide (a.drop (i+1)=b.drop (i+1)):=by simp [c]
      rw [hq]
      generalize decide (a.drop (i+1)=b.drop (i+1))=X at *
      simp only [wJ] at this ⊢;rw [aj rM.eq_1]
      simp at this
      simp (disch:=omega) [h1,h2,eq_true c1,eq_true c2,aI,this]
    · have hq:decide (a[i]::a.drop (i+1)=b[i]::b.drop (i+1))=false:=by
       rw [decide_eq_false_iff_not];intro q;exact c2 (congrArg Prod.snd (List.cons.inj q).1)
      rw [hq]
      simp only [wJ];rw [aj rM.eq_1]
      simp (disch:=omega) [h1,h2,eq_true c1,c2,aI]
  · have hq:decide (a[i]::a.drop (i+1)=b[i]::b.drop (i+1))=false:=by
     rw [decide_eq_false_iff_not];intro q;exact c1 (congrArg Prod.fst (List.cons.inj q).1)
    rw [hq]
    simp only [wJ];rw [aj rM.eq_1]
    simp (disch:=omega) [h1,h2,c1,aI]
theorem agX (H:qg C) (a b:List (Bs × Bs)) (e f:Bool) (hm:a.length≤9223372036854775807):FnW C 551 [.ro 2 (a.map eA) e,.ro 2 (b.map eA) f]=some (.bool (decide (a=b))):=by
 rw [aF H.akN rfl]
 by_cases c:a.length=b.length
 · have h:=Yp H a b e f c hm a.length 0 (by simp)
   rw [List.drop_zero,List.drop_zero] at h
   generalize decide (a=b)=X at *
   simp only [wJ] at h
   simp at h
   simp [Zo,eq_true c,h]
 · have c2:decide (a=b)=false:=by
    simp;intro q;exact c (by rw [q])
   rw [c2]
   simp [Zo,c]
theorem abT (H:qg C) (a b:List Nd) (e f:Bool) (hl:a.length=b.length) (hm:a.length≤9223372036854775807) (ih:∀ c ∈ a,∀ m:Nd,FnW C 506 [.agg c.c,.agg m.c]=some (.bool (eqN c m))):∀ n i,n+i=a.length →
 zx C ⟨[(17,.int .i64 i),(16,.int .i64 a.length),(15,.ro 6 (a.map Nd.c) e),(2,.fn 506 []),(1,.ro 6 (b.map Nd.c) f)],[],0⟩=some (.bool (kZ (a.drop i) (b.drop i))):=by
 intro n
 induction n with
 | zero =>
  intro i hi
  have h1:a.drop i=[]:=List.drop_eq_nil_of_le (by omega)
  have h2:b.drop i=[]:=List.drop_eq_nil_of_le (by omega)
  have h3:¬ i < a.length:=by omega
  simp only [zx];rw [aj xA.eq_1]
  simp (disch:=omega) [aj Mc.eq_1,h1,h2,h3,kZ]
 | succ n ihn =>
  intro i hi
  have h1:i < a.length:=by omega
  have h2:i < b.length:=by omega
  have this:=ihn (i+1) (by omega)
  have hs:=ih a[i] (List.getElem_mem h1) b[i]
  rw [drop_cons h1,drop_cons h2,kZ]
  generalize kZ (a.drop (i+1)) (b.drop (i+1))=X at *
  cases c:eqN a[i] b[i]
  · rw [c] at hs
    simp only [zx];rw [aj xA.eq_1]
    simp (disch:=omega) [h1,h2,hs,aI,H.inl,aB,H.pp,ppB]
  · rw [c] at hs
    simp only [zx] at this ⊢;rw [aj xA.eq_1]
    simp at this
    simp (disch:=omega) [h1,h2,hs,aI,H.inl,aB,H.pp,ppB,this]
theorem ZN (H:qg C) {a:Nd} (ha:uH a):∀ b:Nd,FnW C 506 [.agg a.c,.agg b.c]=some (.bool (eqN a b)):=by
 induction ha with
 | mk a h1 h2 h ih =>
  intro b
  have k1:=agX H a.a b.a a.ae b.ae h1
  have k2:FnW C 552 [.ro 6 (a.ch.map Nd.c) a.ce,.ro 6 (b.ch.map Nd.c) b.ce,.fn 506 []]=some (.bool (kZ a.ch b.ch)):=by
   rw [aF H.akh rfl]
   by_cases c:a.ch.length=b.ch.length
   · have k:=abT H a.ch b.ch a.ce b.ce c h2 ih a.ch.length 0 (by simp)
     rw [List.drop_zero,List.drop_zero] at k
     generalize kZ a.ch b.ch=X at *
     simp only [zx] at k
     simp at k
     simp [Zj,eq_true c,k]
   · have hq:kZ a.ch b.ch=false:=by
      cases q:kZ a.ch b.ch
      · rfl
      · exact absurd (Gy _ _ q) c
     rw [hq]
     simp [Zj,c]
  rw [aF H.akx rfl,abh]
  generalize kZ a.ch b.ch=X at *
  by_cases c1:a.k=b.k
  · by_cases c2:a.t=b.t
    · by_cases c3:a.y=b.y
      · by_cases c4:a.x=b.x
        · by_cases c5:a.a=b.a
          · rw [decide_eq_true c5] at k1
            simp (disch:=omega) [Lu,eq_true c1,eq_true c2,eq_true c3,eq_true c4,eq_true c5,k1,k2,H.inl,aB,H.pp,ppB]
          · rw [decide_eq_false c5] at k1
            simp (disch:=omega) [Lu,eq_true c1,eq_true c2,eq_true c3,eq_true c4,c5,k1,H.inl,aB,H.pp,ppB]
        · simp (disch:=omega) [Lu,eq_true c1,eq_true c2,eq_true c3,c4]
      · simp (disch:=omega) [Lu,eq_true c1,eq_true c2,c3]
    · simp (disch:=omega) [Lu,eq_true c1,c2]
  · simp (disch:=omega) [Lu,c1]
structure Rw where
 k:Int
 t:Int
 s:Int
 n:Nd
@[simp] def eRw (r:Rw):List AV:=[.int .u64 r.k,.int .i64 r.t,.int .i64 r.s,.int .u8 r.n.k,.str r.n.t,.str r.n.y,.ro 2 (r.n.a.map eA) r.n.ae,.str r.n.x,.ro 6 (r.n.ch.map Nd.c) r.n.ce]
structure Sc where
 o:Int
 r:List Rw
 e:Bool
 p:Bool
 h:Rw
@[simp] def eSc (x:Sc):List AV:=[.int .i64 x.o,.ro 9 (x.r.map eRw) x.e,.bool x.p,.int .u64 x.h.k,.int .i64 x.h.t,.int .i64 x.h.s,.int .u8 x.h.n.k,.str x.h.n.t,.str x.h.n.y,.ro 2 (x.h.n.a.map eA) x.h.n.ae,.str x.h.n.x,.ro 6 (x.h.n.ch.map Nd.c) x.h.n.ce]
def oP (a b:Rw):Bool:=decide (a.k=b.k)&&decide (a.t=b.t)&&decide (a.s=b.s)&&eqN a.n b.n
def kH:List Rw→List Rw→Bool
 | [],[]=>true
 | a::r,b::s=>oP a b&&kH r s
 | _,_=>false
def Qp (a b:Sc):Bool:=decide (a.o=b.o)&&decide (a.p=b.p)&&oP a.h b.h&&kH a.r b.r
theorem F8:∀ (l r:List Rw),kH l r=true→l.length=r.length
 | [],[],_=>rfl
 | n::l,m::r,h=>by
  rw [kH,Bool.and_eq_true] at h
  simp [F8 l r h.2]
 | [],_::_,h=>by simp [kH] at h
 | _::_,[],h=>by simp [kH] at h
theorem Ip (H:qg C) (a b:Rw) (ha:uH a.n):FnW C 413 [.agg (eRw a),.agg (eRw b)]=some (.bool (oP a b)):=by
 have k:=ZN H ha b.n
 rw [Nd.dD,Nd.dD] at k
 rw [aF H.akl rfl]
 unfold oP
 generalize eqN a.n b.n=X at *
 by_cases c1:a.k=b.k
 · by_cases c2:a.t=b.t
   · by_cases c3:a.s=b.s
     · simp (disch:=omega) [Ti,eq_true c1,eq_true c2,eq_true c3,k,H.inl,aB,H.pp,ppB]
     · simp (disch:=omega) [Ti,eq_true c1,eq_true c2,c3]
   · simp (disch:=omega) [Ti,eq_true c1,c2]
 · simp (disch:=omega) [Ti,c1]
theorem rF (H:qg C) (a b:Rw) (ha:uH a.n):FnW C 260 [.agg (eRw a),.agg (eRw b)]=some (.int .i64 (if oP a b=true then 1 else 0)):=by
 have k:=aaW H ha b.n
 rw [Nd.dD,Nd.dD] at k
 rw [aF H.f260 rfl]
 unfold oP
 by_cases c1:a.k=b.k
 · by_cases c2:a.t=b.t
   · by_cases c3:a.s=b.s
     · rw [decide_eq_true c1,decide_eq_true c2,decide_eq_true c3]
       simp only [Bool.true_and]
       generalize (if eqN a.n b.n=true then (1:Int) else 0)=X at *
       simp (disch:=omega) [RI,eq_true c1,eq_true c2,eq_true c3,k,H.inl,aB,H.pp,ppB]
     · simp (disch:=omega) [RI,eq_true c1,eq_true c2,c3]
   · simp (disch:=omega) [RI,eq_true c1,c2]
 · simp (disch:=omega) [RI,c1]
theorem aa8 (H:qg C) (a b:List Rw) (e f:Bool) (hl:a.length=b.length) (hm:a.length≤9223372036854775807) (ha:∀ r ∈ a,uH r.n):∀ n i,n+i=a.length →
 zD C ⟨[(17,.int .i64 i),(16,.int .i64 a.length),(15,.ro 9 (a.map eRw) e),(2,.fn 413 []),(1,.ro 9 (b.map eRw) f)],[],0⟩=some (.bool (kH (a.drop i) (b.drop i))):=by
 intro n
 induction n with
 | zero =>
  intro i hi
  have h1:a.drop i=[]:=List.drop_eq_nil_of_le (by omega)
  have h2:b.drop i=[]:=List.drop_eq_nil_of_le (by omega)
  have h3:¬ i < a.length:=by omega
  simp only [zD];rw [aj xg.eq_1]
  simp (disch:=omega) [aj KE.eq_1,h1,h2,h3,kH]
 | succ n ihn =>
  intro i hi
  have h1:i < a.length:=by omega
  have h2:i < b.length:=by omega
  have this:=ihn (i+1) (by omega)
  have hs:=Ip H a[i] b[i] (ha _ (List.getElem_mem h1))
  rw [drop_cons h1,drop_cons h2,kH]
  simp only [eRw] at hs
  generalize kH (a.drop (i+1)) (b.drop (i+1))=X at *
  cases c:oP a[i] b[i]
  · rw [c] at hs
    simp only [zD];rw [aj xg.eq_1]
    simp (disch:=omega) [h1,h2,hs,aI,H.inl,aB,H.pp,ppB]
  · rw [c] at hs
    simp only [zD] at this ⊢;rw [aj xg.eq_1]
    simp at this
    simp (disch:=omega) [h1,h2,hs,aI,H.inl,aB,H.pp,ppB,this]
structure adq (x:Sc):Prop where
 l:x.r.length≤9223372036854775807
 r:∀ r ∈ x.r,uH r.n
 h:uH x.h.n
theorem Xv (H:qg C) (a b:Sc) (ha:adq a):FnW C 258 [.agg (eSc a),.agg (eSc b)]=some (.bool (Qp a b)):=by
 have k1:=Ip H a.h b.h ha.h
 have k2:FnW C 414 [.ro 9 (a.r.map eRw) a.e,.ro 9 (b.r.map eRw) b.e,.fn 413 []]=some (.bool (kH a.r b.r)):=by
  rw [aF H.aj0 rfl]
  by_cases c:a.r.length=b.r.length
  · have k:=aa8 H a.r b.r a.e b.e c ha.l ha.r a.r.length 0 (by simp)
    rw [List.drop_zero,List.drop_zero] at k
    generalize kH a.r b.r=X at *
    simp only [zD] at k
    simp at k
    simp [abr,eq_true c,k]
  · have hq:kH a.r b.r=false:=by
     cases q:kH a.r b.r
     · rfl
     · exact absurd (F8 _ _ q) c
    rw [hq]
    simp [abr,c]
 rw [aF H.f258 rfl]
 unfold Qp
 simp only [eRw] at k1
 generalize kH a.r b.r=X at *
 by_cases c1:a.o=b.o
 · by_cases c2:a.p=b.p
   · cases c3:oP a.h b.h
     · rw [c3] at k1
       simp (disch:=omega) [TJ,eq_true c1,eq_true c2,k1,H.inl,aB,H.pp,ppB]
     · rw [c3] at k1
       simp (disch:=omega) [TJ,eq_true c1,eq_true c2,k1,k2,H.inl,aB,H.pp,ppB]
   · simp (disch:=omega) [TJ,eq_true c1,c2]
 · simp (disch:=omega) [TJ,c1]
theorem aae (H:qg C) (a b:Sc) (ha:adq a) (hl:a.r.length=b.r.length):∀ n i,n+i=a.r.length →
 zB C ⟨[(5,.int .i64 i),(3,.ptr 0 0 0),(2,.ptr 1 0 0)],[(0,.cells 12 [eSc b] true true),(1,.cells 12 [eSc a] true true)],2⟩=some (.int .i64 (if (kH (a.r.drop i) (b.r.drop i)&&oP a.h b.h)=true then 1 else 0)):=by
 have hm:=ha.l
 intro n
 induction n with
 | zero =>
  intro i hi
  have h1:a.r.drop i=[]:=List.drop_eq_nil_of_le (by omega)
  have h2:b.r.drop i=[]:=List.drop_eq_nil_of_le (by omega)
  have h3:¬ i < a.r.length:=by omega
  have k:=rF H a.h b.h ha.h
  simp only [eRw] at k
  rw [h1,h2]
  simp only [kH,Bool.true_and]
  generalize (if oP a.h b.h=true then (1:Int) else 0)=X at *
  simp only [zB];rw [aj vY.eq_1]
  simp (disch:=omega) [aj KX.eq_1,h3,k,H.inl,aB,H.pp,ppB]
 | succ n ihn =>
  intro i hi
  have h1:i < a.r.length:=by omega
  have h2:i < b.r.length:=by omega
  have this:=ihn (i+1) (by omega)
  have hs:=rF H a.r[i] b.r[i] (ha.r _ (List.getElem_mem h1))
  rw [drop_cons h1,drop_cons h2,kH]
  simp only [eRw] at hs
  cases c:oP a.r[i] b.r[i]
  · rw [c] at hs
    simp at hs
    simp only [zB];rw [aj vY.eq_1]
    simp (disch:=omega) [h1,h2,hs,aI,H.inl,aB,H.pp,ppB]
  · rw [c] at hs
    simp at hs
    rw [Bool.true_and]
    generalize (if (kH (a.r.drop (i+1)) (b.r.drop (i+1))&&oP a.h b.h)=true then (1:Int) else 0)=X at *
    simp only [zB] at this ⊢;rw [aj vY.eq_1]
    simp at this
    simp (disch:=omega) [h1,h2,hs,aI,H.inl,aB,H.pp,ppB,this]
theorem F5 (H:qg C) (a b:Sc) (ha:adq a):FnW C 127 [.agg (eSc a),.agg (eSc b)]=some (.int .i64 (if Qp a b=true then 1 else 0)):=by
 rw [aF H.f127 rfl]
 unfold Qp
 by_cases c1:a.o=b.o
 · by_cases c2:a.p=b.p
   · by_cases c3:a.r.length=b.r.length
     · have k:=aae H a b ha c3 a.r.length 0 (by simp)
       rw [List.drop_zero,List.drop_zero] at k
       have hq:(decide (a.o=b.o)&&decide (a.p=b.p)&&oP a.h b.h&&kH a.r b.r)=(kH a.r b.r&&oP a.h b.h):=by
        rw [decide_eq_true c1,decide_eq_true c2];cases oP a.h b.h <;> cases kH a.r b.r <;> rfl
       rw [hq]
       generalize (if (kH a.r b.r&&oP a.h b.h)=true then (1:Int) else 0)=X at *
       simp only [zB] at k
       simp at k
       simp (disch:=omega) [Ru,eq_true c1,eq_true c2,c3,k]
     · have hq:kH a.r b.r=false:=by
        cases q:kH a.r b.r
        · rfl
        · exact absurd (F8 _ _ q) c3
       rw [hq]
       simp (disch:=omega) [Ru,eq_true c1,eq_true c2,c3]
   · simp (disch:=omega) [Ru,eq_true c1,c2]
 · simp (disch:=omega) [Ru,c1]
structure agi (C:aG):Prop extends uM C where
 f238:C.fns.get 238=some acS
theorem acg (H:agi C) (ks:List Kd) (ke:Bool) (cap:Int) (hr:Ig ks) (l:List En) (e:Bool) (hl:l.length≤10000) (hs:∀ x ∈ l,Ie x) (hck:ckE ks cap l=0) (a:Nat) (ha:a < l.length) (ht:l[a].i.t < ks.length) :
 FnW C 238 [aR ks ke cap,aL l e,.int .i64 a]=some (.tup [.agg (BK (jK ks l[a].i.t).p l[a].i cap).c,.int .i64 (lK (jK ks l[a].i.t).p l[a].i cap)]):=by
 have hc:=xI H.toDL ks ke cap hr l e (by omega) hs
 rw [hck] at hc
 have h:=FT H.toDL ks ke cap l[a].i (hs _ (List.getElem_mem ha)).i ht hr
 rw [aF H.f238 rfl]
 generalize BK (jK ks l[a].i.t).p l[a].i cap=N at *
 generalize lK (jK ks l[a].i.t).p l[a].i cap=E at *
 rw [Nd.dD] at h ⊢
 simp only [aR,eIt] at h
 have a1:¬ (a:Int) < 0:=by omega
 have a2:¬ (l.length:Int)≤a:=by omega
 simp (disch:=omega) [acS,hc,h,ha,a1,a2,H.inl,aB,H.pp,ppB]
structure nX (C:aG):Prop extends qg C,agi C,afL C where
 ajH:C.fns.get 507=some aey
 ajV:C.fns.get 554=some aas
 akP:C.fns.get 553=some aeu
 akc:C.fns.get 418=some aft
 aj1:C.fns.get 416=some aef
mutual
/-- A tree without its keys; all memory its own. -/
def ng:Nd→Nd
 | ⟨k,t,y,a,ae,x,ch,ce⟩=>⟨k,t,[],a,true,x,yc ch,true⟩
def yc:List Nd→List Nd
 | []=>[]
 | n::r=>ng n::yc r
end
theorem OQ:∀ l:List Nd,yc l=l.map ng
 | []=>rfl
 | n::r=>by rw [yc,OQ r];rfl
theorem UJ (n:Nd):ng n=⟨n.k,n.t,[],n.a,true,n.x,n.ch.map ng,true⟩:=by cases n;rw [ng,OQ]
theorem XE (H:nX C) (l:List (Bs × Bs)) (e:Bool) (hl:l.length≤1000000):FnW C 554 [.ro 2 (l.map eA) e]=some (.ro 2 (l.map eA) l.isEmpty):=by
 rw [aF H.ajV rfl]
 cases l with
 | nil=>simp [aas,aaN]
 | cons a r =>
  simp only [List.length_cons] at hl
  have h1:(r.length+1) * 33≤35184372088832:=by omega
  have h2:List.take r.length (List.map eA r)=List.map eA r:=List.take_of_length_le (by simp)
  simp [aas,U6,QJ,jZ,h1,h2]
theorem aaE (H:nX C) (l:List (Bs × Bs)) (e:Bool):FnW C 553 [.ro 2 (l.map eA) e]=some (.ro 2 (l.map eA) true):=by
 have h:List.take l.length (List.map eA l)=List.map eA l:=List.take_of_length_le (by simp)
 rw [aF H.akP rfl]
 simp [aeu,h]
theorem Zd {α β:Type} (f:α→β) (G:List α) (z:β) (m:Nat):(G.map f++List.replicate (m+1) z)[G.length]?=some z:=by
 rw [List.getElem?_append_right (by simp)];simp
theorem abl {α β:Type} (f:α→β) (G:List α) (z:β) (m:Nat) (y:α):(G.map f++List.replicate (m+1) z).set G.length (f y)=(G++[y]).map f++List.replicate m z:=by
 rw [List.set_append_right _ _ (by simp)];simp [List.replicate_succ]
theorem adB (H:nX C) (n:Nd) (hl:n.ch.length≤16) (ih:∀ c ∈ n.ch,FnW C 507 [.agg c.c,.bool false]=some (.agg (ng c).c)):∀ m i,m+i=n.ch.length→∀ G:List Nd,G.length=i→G=(n.ch.take i).map ng →
 EP C ⟨[(23,.int .i64 i),(22,.int .i64 n.ch.length),(21,.ro 6 (n.ch.map Nd.c) n.ce),(5,.sl 0 6 0 n.ch.length n.ch.length true),(4,.ptr 1 0 0),(2,.ptr 2 0 0),(1,.bool false)],
  [(0,.cells 6 (G.map Nd.c++List.replicate m [.int .u8 0,.str [],.str [],.ro 2 [] true,.str [],.ro 6 [] true]) true true),(1,.cells 6 [[.int .u8 0,.str [],.str [],.ro 2 [] true,.str [],.ro 6 [] true]] true true),
   (2,.cells 6 [[.int .u8 n.k,.str n.t,.str [],.ro 2 (n.a.map eA) true,.str n.x,.ro 6 (n.ch.map Nd.c) n.ce]] true true)],3⟩=some (.agg (ng n).c):=by
 intro m
 induction m with
 | zero =>
  intro i hi G hG hGe
  have h3:¬ i < n.ch.length:=by omega
  have e1:n.ch.take i=n.ch:=List.take_of_length_le (by omega)
  have e2:List.take n.ch.length (List.map Nd.c G)=List.map Nd.c G:=List.take_of_length_le (by simp;omega)
  rw [Nd.dD (ng n),UJ]
  rw [e1] at hGe
  rw [← hGe]
  simp only [EP];rw [aj Az.eq_1]
  have e3:G.length=n.ch.length:=by omega
  simp (disch:=omega) [aj NU.eq_1,h3,e2,e3]
 | succ m ihm =>
  intro i hi G hG hGe
  have h1:i < n.ch.length:=by omega
  have this:=ihm (i+1) (by omega) (G++[ng n.ch[i]]) (by simp [hG]) (by rw [hGe,List.take_add_one,List.getElem?_eq_getElem h1,List.map_append];rfl)
  have hs:=ih n.ch[i] (List.getElem_mem h1)
  have g1:=Zd Nd.c G [.int .u8 0,.str [],.str [],.ro 2 [] true,.str [],.ro 6 [] true] m
  have g2:=abl Nd.c G [.int .u8 0,.str [],.str [],.ro 2 [] true,.str [],.ro 6 [] true] m (ng n.ch[i])
  rw [hG] at g1 g2
  simp only [EP] at this ⊢;rw [aj Az.eq_1]
  simp at this
  simp at g2
  simp (disch:=omega) [h1,hs,aI,H.inl,aB,H.pp,ppB,g1,g2,this]
theorem Pv (H:nX C) (n:Nd) (ha:n.a.length≤8) (hl:n.ch.length≤16) (ih:∀ c ∈ n.ch,FnW C 507 [.agg c.c,.bool false]=some (.agg (ng c).c)):FnW C 507 [.agg n.c,.bool false]=some (.agg (ng n).c):=by
 have h1:=XE H n.a n.ae (by omega)
 have h2:=aaE H n.a n.a.isEmpty
 have h3:=adB H n hl ih n.ch.length 0 (by omega) [] rfl rfl
 rw [aF H.ajH rfl,Nd.dD n]
 simp only [EP] at h3
 simp at h3
 have h4:n.ch.length * 105≤35184372088832:=by omega
 simp (disch:=omega) [aey,h1,h2,h3,h4,H.inl,aB,H.pp,ppB]
theorem abQ:∀ (l:List Nd) (lv c:Nat),rcs l lv c≤64→∀ m ∈ l,rc m lv≤64
 | [],_,_,_,m,hm=>by cases hm
 | n::r,lv,c,h,m,hm=>by
  rw [rcs] at h
  by_cases q:c≤64
  · rw [if_pos q] at h
    have h1:=Hl r lv (c+rc n lv)
    rcases List.mem_cons.1 hm with e | e
    · subst e;omega
    · exact abQ r lv _ h m e
  · rw [if_neg q] at h;omega
mutual
theorem afC:∀ (n:Nd) (lv:Nat),rc n lv≤64→rc n (lv+1)=rc n lv
 | ⟨k,t,y,a,ae,x,ch,ce⟩,0,h=>by rw [rc] at h;omega
 | ⟨k,t,y,a,ae,x,ch,ce⟩,lv+1,h=>by
  rw [rc] at h ⊢
  rw [rc]
  by_cases q:alone ⟨k,t,y,a,ae,x,ch,ce⟩=true
  · rw [if_pos q] at h
    rw [if_pos q,if_pos q]
    exact ZQ ch lv 1 h
  · rw [if_neg q] at h;omega
theorem ZQ:∀ (l:List Nd) (lv c:Nat),rcs l lv c≤64→rcs l (lv+1) c=rcs l lv c
 | [],lv,c,h=>by rw [rcs,rcs]
 | n::r,lv,c,h=>by
  rw [rcs] at h ⊢
  rw [rcs]
  by_cases q:c≤64
  · rw [if_pos q] at h
    rw [if_pos q,if_pos q]
    have h1:=Hl r lv (c+rc n lv)
    have e:=afC n lv (by omega)
    rw [e]
    exact ZQ r lv _ h
  · rw [if_neg q] at h;omega
end
inductive NdV:Nd→Prop
 | mk (n:Nd) (hc:cnt n≠0) (h1:n.a.length≤8) (h2:n.ch.length≤16) (h:∀ m ∈ n.ch,NdV m):NdV n
theorem abA:∀ (lv:Nat),lv≤6→∀ n:Nd,rc n lv≤64→NdV n
 | 0,_,n,h=>by rw [aiv] at h;omega
 | lv+1,hlv,n,h=>by
  have hup:∀ j,lv+1+j≤6→rc n (lv+1+j)=rc n (lv+1):=by
   intro j
   induction j with
   | zero=>intro _;rfl
   | succ j ih =>
    intro hj
    have:=ih (by omega)
    rw [← Nat.add_assoc,afC n _ (by omega)]
    exact this
  have h6:=hup (5 - lv) (by omega)
  have e6:lv+1+(5 - lv)=6:=by omega
  rw [e6] at h6
  have hge:=afV n (lv+1)
  have hc:cnt n≠0:=by rw [LZ,h6,if_neg (by omega)];omega
  rw [adR] at h
  by_cases q:alone n=true
  · rw [if_pos q] at h
    have hb:=abQ _ _ _ h
    have hq:n.a.length≤8∧n.ch.length≤16:=by
     unfold alone at q
     by_cases d:n.k=2
     · rw [if_pos d] at q;simp at q;obtain ⟨⟨_,q1⟩,q2⟩:=q;rw [q1,q2];simp
     · rw [if_neg d] at q;simp at q;exact ⟨q.1.1.1.2,q.1.1.2⟩
    exact .mk n hc hq.1 hq.2 fun m hm=>abA lv (by omega) m (hb m hm)
  · rw [if_neg q] at h;omega
theorem Q9 {n:Nd} (h:cnt n≠0):NdV n:=by
 refine abA 6 (by omega) n ?_
 rw [LZ] at h
 by_cases c:64 < rc n 6
 · rw [if_pos c] at h;exact absurd rfl h
 · omega
theorem Xp (H:nX C) {n:Nd} (h:NdV n):FnW C 507 [.agg n.c,.bool false]=some (.agg (ng n).c):=by
 induction h with
 | mk n hc h1 h2 h ih=>exact Pv H n h1 h2 ih
theorem YL (H:nX C) {n:Nd} (h:cnt n≠0):FnW C 418 [.agg n.c]=some (.agg (ng n).c):=by
 have h1:=Fq H.toQF n
 have h2:=Xp H (Q9 h)
 rw [if_neg h] at h1
 rw [aF H.akc rfl]
 rw [Nd.dD (ng n)] at *
 simp (disch:=omega) [aft,h1,h2,H.inl,aB,H.pp,ppB]
end Go.D
end
section
namespace Go.D
open Go Go.Pav Go.Pw P
attribute [-simp] List.getElem_cons_drop
variable {C:aG}
mutual
/-- The specification's tree without keys. -/
def rsN:Nd→Nd
 | ⟨k,t,y,a,ae,x,ch,ce⟩=>⟨k,t,[],a,a.isEmpty,x,VX ch,ch.isEmpty⟩
def VX:List Nd→List Nd
 | []=>[]
 | n::r=>rsN n::VX r
end
theorem UU:∀ l:List Nd,VX l=l.map rsN
 | []=>rfl
 | n::r=>by rw [VX,UU r];rfl
theorem ail (n:Nd):rsN n=⟨n.k,n.t,[],n.a,n.a.isEmpty,n.x,n.ch.map rsN,n.ch.isEmpty⟩:=by cases n;rw [rsN,UU]
mutual
theorem agl:∀ n:Nd,(rsN n).z=(ng n).z
 | ⟨k,t,y,a,ae,x,ch,ce⟩=>by
  rw [rsN,ng,Nd.z,Nd.z,ZH ch]
theorem ZH:∀ l:List Nd,Nd.zs (VX l)=Nd.zs (yc l)
 | []=>rfl
 | n::r=>by rw [VX,yc,Nd.zs,Nd.zs,agl n,ZH r]
end
theorem aiT (H:nX C) (n:Nd) (hA:n.a=[]) (hl:n.ch.length≤16) (ih:∀ c ∈ n.ch,FnW C 416 [.agg c.c]=some (.agg (rsN c).c)):∀ m i,m+i=n.ch.length→∀ G:List Nd,G.length=i→G=(n.ch.take i).map rsN →
 iC C ⟨[(5,.int .i64 i),(3,.ptr 0 0 0),(2,.ptr 2 0 0),(1,.ptr 3 0 0)],[(0,.cells 6 [[.int .u8 n.k,.str n.t,.str [],.ro 2 [] true,.str n.x,.sl 1 6 0 G.length G.length false]] true false),(1,.cells 6 (G.map Nd.c) true true),(2,.cells 6 [[.int .u8 0,.str [],.str [],.ro 2 [] true,.str [],.ro 6 [] true]] true true),(3,.cells 6 [n.c] true true)],4⟩=some (.agg [.int .u8 n.k,.str n.t,.str [],.ro 2 [] true,.str n.x,.ro 6 ((n.ch.map rsN).map Nd.c) false]):=by
 intro m
 induction m with
 | zero =>
  intro i hi G hG hGe
  have h3:¬ i < n.ch.length:=by omega
  have e1:n.ch.take i=n.ch:=List.take_of_length_le (by omega)
  rw [e1] at hGe
  rw [← hGe]
  have e2:List.take G.length (List.map Nd.c G)=List.map Nd.c G:=List.take_of_length_le (by simp)
  have e3:List.take n.a.length (List.map eA n.a)=List.map eA n.a:=List.take_of_length_le (by simp)
  simp only [iC];rw [aj kW.eq_1]
  simp (disch:=omega) [aj vH.eq_1,h3,e2,e3]
 | succ m ihm =>
  intro i hi G hG hGe
  have h1:i < n.ch.length:=by omega
  have this:=ihm (i+1) (by omega) (G++[rsN n.ch[i]]) (by simp [hG]) (by rw [hGe,List.take_add_one,List.getElem?_eq_getElem h1,List.map_append];rfl)
  have hs:=ih n.ch[i] (List.getElem_mem h1)
  have hfit:(G.length+1) * 105≤35184372088832:=by omega
  simp only [iC] at this ⊢;rw [aj kW.eq_1]
  simp at this
  simp (disch:=omega) [h1,hs,aI,hfit,H.inl,aB,H.pp,ppB,this]
theorem agP (H:nX C) (n:Nd) (hA:n.a=[]) (hl:n.ch.length≤16) (ih:∀ c ∈ n.ch,FnW C 416 [.agg c.c]=some (.agg (rsN c).c)) :
 iC C ⟨[(5,.int .i64 0),(3,.ptr 0 0 0),(2,.ptr 1 0 0),(1,.ptr 2 0 0)],[(0,.cells 6 [[.int .u8 n.k,.str n.t,.str [],.ro 2 [] true,.str n.x,.ro 6 [] true]] true true),(1,.cells 6 [[.int .u8 0,.str [],.str [],.ro 2 [] true,.str [],.ro 6 [] true]] true true),(2,.cells 6 [n.c] true true)],3⟩=some (.agg [.int .u8 n.k,.str n.t,.str [],.ro 2 [] true,.str n.x,.ro 6 ((n.ch.map rsN).map Nd.c) n.ch.isEmpty]):=by
 have e3:List.take n.a.length (List.map eA n.a)=List.map eA n.a:=List.take_of_length_le (by simp)
 by_cases hch:n.ch=[]
 · have h3:n.ch.length=0:=by simp [hch]
   simp only [iC];rw [aj kW.eq_1]
   simp (disch:=omega) [aj vH.eq_1,hch,e3]
 · have h1:0 < n.ch.length:=List.length_pos_iff.2 hch
   have this:=aiT H n hA hl ih (n.ch.length - 1) 1 (by omega) [rsN n.ch[0]] rfl (by rw [show (1:Nat)=0+1 from rfl,List.take_add_one,List.getElem?_eq_getElem h1];simp)
   have hs:=ih n.ch[0] (List.getElem_mem h1)
   have hemp:n.ch.isEmpty=false:=by simp [hch]
   rw [hemp]
   simp only [iC] at this ⊢;rw [aj kW.eq_1]
   simp at this
   simp (disch:=omega) [h1,hs,aI,H.inl,aB,H.pp,ppB,this]
theorem ag4 (H:nX C) (n:Nd) (hA:n.a.length≤8) (hl:n.ch.length≤16) (ih:∀ c ∈ n.ch,FnW C 416 [.agg c.c]=some (.agg (rsN c).c)):∀ m i,m+i=n.ch.length→∀ G:List Nd,G.length=i→G=(n.ch.take i).map rsN →
 iC C ⟨[(5,.int .i64 i),(3,.ptr 0 0 0),(2,.ptr 3 0 0),(1,.ptr 4 0 0)],[(0,.cells 6 [[.int .u8 n.k,.str n.t,.str [],.sl 1 2 0 n.a.length n.a.length false,.str n.x,.sl 2 6 0 G.length G.length false]] true false),(1,.cells 2 (n.a.map eA) true true),(2,.cells 6 (G.map Nd.c) true true),(3,.cells 6 [[.int .u8 0,.str [],.str [],.ro 2 [] true,.str [],.ro 6 [] true]] true true),(4,.cells 6 [n.c] true true)],5⟩=some (.agg [.int .u8 n.k,.str n.t,.str [],.ro 2 (n.a.map eA) false,.str n.x,.ro 6 ((n.ch.map rsN).map Nd.c) false]):=by
 intro m
 induction m with
 | zero =>
  intro i hi G hG hGe
  have h3:¬ i < n.ch.length:=by omega
  have e1:n.ch.take i=n.ch:=List.take_of_length_le (by omega)
  rw [e1] at hGe
  rw [← hGe]
  have e2:List.take G.length (List.map Nd.c G)=List.map Nd.c G:=List.take_of_length_le (by simp)
  have e3:List.take n.a.length (List.map eA n.a)=List.map eA n.a:=List.take_of_length_le (by simp)
  simp only [iC];rw [aj kW.eq_1]
  simp (disch:=omega) [aj vH.eq_1,h3,e2,e3]
 | succ m ihm =>
  intro i hi G hG hGe
  have h1:i < n.ch.length:=by omega
  have this:=ihm (i+1) (by omega) (G++[rsN n.ch[i]]) (by simp [hG]) (by rw [hGe,List.take_add_one,List.getElem?_eq_getElem h1,List.map_append];rfl)
  have hs:=ih n.ch[i] (List.getElem_mem h1)
  have hfit:(G.length+1) * 105≤35184372088832:=by omega
  simp only [iC] at this ⊢;rw [aj kW.eq_1]
  simp at this
  simp (disch:=omega) [h1,hs,aI,hfit,H.inl,aB,H.pp,ppB,this]
theorem agK (H:nX C) (n:Nd) (hA:n.a.length≤8) (hl:n.ch.length≤16) (ih:∀ c ∈ n.ch,FnW C 416 [.agg c.c]=some (.agg (rsN c).c)) :
 iC C ⟨[(5,.int .i64 0),(3,.ptr 0 0 0),(2,.ptr 2 0 0),(1,.ptr 3 0 0)],[(0,.cells 6 [[.int .u8 n.k,.str n.t,.str [],.sl 1 2 0 n.a.length n.a.length false,.str n.x,.ro 6 [] true]] true false),(1,.cells 2 (n.a.map eA) true true),(2,.cells 6 [[.int .u8 0,.str [],.str [],.ro 2 [] true,.str [],.ro 6 [] true]] true true),(3,.cells 6 [n.c] true true)],4⟩=some (.agg [.int .u8 n.k,.str n.t,.str [],.ro 2 (n.a.map eA) false,.str n.x,.ro 6 ((n.ch.map rsN).map Nd.c) n.ch.isEmpty]):=by
 have e3:List.take n.a.length (List.map eA n.a)=List.map eA n.a:=List.take_of_length_le (by simp)
 by_cases hch:n.ch=[]
 · have h3:n.ch.length=0:=by simp [hch]
   simp only [iC];rw [aj kW.eq_1]
   simp (disch:=omega) [aj vH.eq_1,hch,e3]
 · have h1:0 < n.ch.length:=List.length_pos_iff.2 hch
   have this:=ag4 H n hA hl ih (n.ch.length - 1) 1 (by omega) [rsN n.ch[0]] rfl (by rw [show (1:Nat)=0+1 from rfl,List.take_add_one,List.getElem?_eq_getElem h1];simp)
   have hs:=ih n.ch[0] (List.getElem_mem h1)
   have hemp:n.ch.isEmpty=false:=by simp [hch]
   rw [hemp]
   simp only [iC] at this ⊢;rw [aj kW.eq_1]
   simp at this
   simp (disch:=omega) [h1,hs,aI,H.inl,aB,H.pp,ppB,this]
theorem akz (H:nX C) (n:Nd) (hA:n.a.length≤8) (R:AV)
 (hnext:iC C ⟨[(5,.int .i64 0),(3,.ptr 0 0 0),(2,.ptr 2 0 0),(1,.ptr 3 0 0)],[(0,.cells 6 [[.int .u8 n.k,.str n.t,.str [],.sl 1 2 0 n.a.length n.a.length false,.str n.x,.ro 6 [] true]] true false),(1,.cells 2 (n.a.map eA) true true),(2,.cells 6 [[.int .u8 0,.str [],.str [],.ro 2 [] true,.str [],.ro 6 [] true]] true true),(3,.cells 6 [n.c] true true)],4⟩=some R):∀ m i,m+i=n.a.length→∀ G:List (Bs × Bs),G.length=i→G=n.a.take i →
 tq C ⟨[(4,.int .i64 i),(3,.ptr 0 0 0),(2,.ptr 2 0 0),(1,.ptr 3 0 0)],[(0,.cells 6 [[.int .u8 n.k,.str n.t,.str [],.sl 1 2 0 G.length G.length false,.str n.x,.ro 6 [] true]] true false),(1,.cells 2 (G.map eA) true true),(2,.cells 6 [[.int .u8 0,.str [],.str [],.ro 2 [] true,.str [],.ro 6 [] true]] true true),(3,.cells 6 [n.c] true true)],4⟩=some R:=by
 intro m
 induction m with
 | zero =>
  intro i hi G hG hGe
  have h3:¬ i < n.a.length:=by omega
  have e1:n.a.take i=n.a:=List.take_of_length_le (by omega)
  rw [e1] at hGe
  subst hGe
  simp only [iC] at hnext
  try simp at hnext
  simp only [tq];rw [aj rC.eq_1]
  simp (disch:=omega) [aj Ep.eq_1,h3,hnext]
 | succ m ihm =>
  intro i hi G hG hGe
  have h1:i < n.a.length:=by omega
  have this:=ihm (i+1) (by omega) (G++[n.a[i]]) (by simp [hG]) (by rw [hGe,List.take_add_one,List.getElem?_eq_getElem h1];rfl)
  have hfit:(G.length+1) * 33≤35184372088832:=by omega
  simp only [tq] at this ⊢;rw [aj rC.eq_1]
  simp at this
  simp (disch:=omega) [h1,aI,hfit,H.inl,aB,H.pp,ppB,this]
theorem ahD (H:nX C) (n:Nd) (hA:n.a.length≤8) (hl:n.ch.length≤16) (ih:∀ c ∈ n.ch,FnW C 416 [.agg c.c]=some (.agg (rsN c).c)) :
 tq C ⟨[(4,.int .i64 0),(3,.ptr 0 0 0),(2,.ptr 1 0 0),(1,.ptr 2 0 0)],[(0,.cells 6 [[.int .u8 n.k,.str n.t,.str [],.ro 2 [] true,.str n.x,.ro 6 [] true]] true true),(1,.cells 6 [[.int .u8 0,.str [],.str [],.ro 2 [] true,.str [],.ro 6 [] true]] true true),(2,.cells 6 [n.c] true true)],3⟩=some (.agg (rsN n).c):=by
 rw [Nd.dD (rsN n),ail]
 by_cases ha:n.a=[]
 · have h3:n.a.length=0:=by simp [ha]
   have k:=agP H n ha hl ih
   simp only [iC] at k
   try simp at k
   simp only [tq];rw [aj rC.eq_1]
   simp (disch:=omega) [aj Ep.eq_1,ha,k]
 · have h1:0 < n.a.length:=List.length_pos_iff.2 ha
   have this:=akz H n hA _ (agK H n hA hl ih) (n.a.length - 1) 1 (by omega) [n.a[0]] rfl (by rw [show (1:Nat)=0+1 from rfl,List.take_add_one,List.getElem?_eq_getElem h1];simp)
   have hemp:n.a.isEmpty=false:=by simp [ha]
   rw [hemp]
   simp only [tq] at this ⊢;rw [aj rC.eq_1]
   simp at this
   simp (disch:=omega) [h1,aI,H.inl,aB,H.pp,ppB,this]
theorem O7 (H:nX C) (n:Nd) (hc:cnt n≠0) (hA:n.a.length≤8) (hl:n.ch.length≤16) (ih:∀ c ∈ n.ch,FnW C 416 [.agg c.c]=some (.agg (rsN c).c)):FnW C 416 [.agg n.c]=some (.agg (rsN n).c):=by
 have h1:=IC H.toOC n
 rw [if_neg hc] at h1
 have k:=ahD H n hA hl ih
 simp only [tq] at k
 try simp at k
 rw [aF H.aj1 rfl]
 simp (disch:=omega) [aef,h1,k,H.inl,aB,H.pp,ppB]
theorem Xu (H:nX C) {n:Nd} (h:cnt n≠0):FnW C 416 [.agg n.c]=some (.agg (rsN n).c):=by
 have hv:=Q9 h
 clear h
 induction hv with
 | mk n hc h1 h2 h ih=>exact O7 H n hc h1 h2 ih
end Go.D
end
section
namespace Go.D
open Go Go.Pav Go.Pw P
attribute [-simp] List.getElem_cons_drop
variable {C:aG}
theorem agv:∀ (l:List En),(∀ x ∈ l,1≤x.s∧x.s≤40)→sm l≤40 * l.length
 | [],_=>by simp [sm]
 | e::r,h=>by
  have h1:=h e (by simp)
  have h2:=agv r fun x hx=>h x (by simp [hx])
  rw [sm];simp only [List.length_cons];omega
theorem aaS {ks:List Kd} {l:List En} (hl:l.length≤12) (hg:∀ e ∈ l,lD ks e):Szd l:=by
 have:=agv l fun x hx=>(hg x hx).s
 exact ⟨by omega,fun x hx=>by have:=(hg x hx).s;omega,by omega⟩
theorem ag0 (H:afL C) (l:List En) (e:Bool) (hz:Szd l) (a b:Int) (ha:0≤a∧a≤255) (hb:0≤b∧b≤65535):∃ o v:Int,FnW C 256 [.agg [.int .u8 a,.int .u16 b],aL l e]=some (.tup [.int .i64 o,.int .i64 v])∧Vp l o v:=by
 have hn:=hz.n
 have ht:=hz.t
 have hnn:=hz.nn
 have h1:a.tmod 200=a % 200:=Int.tmod_eq_emod_of_nonneg ha.1
 have h2:0≤a % 200∧a % 200 < 200:=⟨Int.emod_nonneg _ (by omega),Int.emod_lt_of_pos _ (by omega)⟩
 obtain ⟨v,hv⟩:∃ v,v=1+a % 200:=⟨_,rfl⟩
 have hv2:1+a % 200=v:=hv.symm
 have hm:=Oq H.tofU l e hz v (by omega)
 have hm0:0≤jc l v∧jc l v≤4611686018427387904:=by unfold jc;split <;> omega
 generalize hM:jc l v=M at *
 have h3:b.tmod (M+1)=b % (M+1):=Int.tmod_eq_emod_of_nonneg hb.1
 have h4:0≤b % (M+1)∧b % (M+1) < M+1:=⟨Int.emod_nonneg _ (by omega),Int.emod_lt_of_pos _ (by omega)⟩
 have h5:¬ M+1=0:=by omega
 refine ⟨b % (M+1),v,?_,⟨hz,by omega,by rw [hM];omega⟩⟩
 rw [aF H.f256 rfl]
 simp (disch:=omega) [acN,h1,hv2,hm,h3,h5,aI,H.inl,aB,H.pp,ppB]
theorem Ie.ow {e:En} (h:Ie e):Ie e.own:=⟨⟨h.i.k,h.i.t,h.i.m⟩,h.s⟩
@[simp] theorem Nl:∀ h:aJ,sF 0 h=[]
 | []=>rfl
 | (b,o)::r=>by rw [sF,if_neg (by omega),Nl r]
@[simp] theorem OE (π:Nat→Option Nat):∀ h:aJ,jG 0 π h=some []
 | []=>rfl
 | (b,o)::r=>by rw [jG,if_neg (by omega),OE π r]
@[simp] theorem aqb (h:aJ) (n:Nat) (o:gZ) (k:Nat):Pav.get (Pav.put h n o) k=if n=k then some o else Pav.get h k:=get_put h n o k
end Go.D
end
section
namespace Go.D
open Go Go.Pav Go.Pw P
attribute [-simp] List.getElem_cons_drop
variable {C:aG} {α β:Type}
theorem ac4 {ks:List Kd} {x:It} (h:itE ks 12 x false=0):yC ks.length x=true∧lK (jK ks x.t).p x 12=0:=by
 unfold itE at h
 cases c:yC ks.length x
 · rw [c] at h;simp at h
 · rw [c] at h
   by_cases d:lK (jK ks x.t).p x 12=0
   · exact ⟨rfl,d⟩
   · simp [d] at h
end Go.D
end
section
namespace Go.D
open Go Go.Pav Go.Pw P
attribute [-simp] List.getElem_cons_drop
variable {C:aG}
structure Il (C:aG):Prop extends nX C where
 f263:C.fns.get 263=some XT
 akF:C.fns.get 417=some ab8
 f261:C.fns.get 261=some adM
structure LG (r:Int) (l:List En):Prop where
 hr:0≤r∧r≤255
 hl:l.length≤12
 z:Szd l
 en:∀ x ∈ l,Ie x
 ck:ckE (ak r) 12 l=0
 ck1:∀ x ∈ l,ckE (ak r) 12 [x]=0
 t:∀ x ∈ l,0≤x.i.t∧x.i.t < (ak r).length
 rE:∀ x ∈ l,lK (jK (ak r) x.i.t).p x.i 12=0
theorem LG.aeb {r:Int} {l:List En} (hr:0≤r∧r≤255) (hl:l.length≤12) (hg:∀ e ∈ l,lD (ak r) e) (hn:(jI l).Nodup):LG r l where
 hr:=hr
 hl:=hl
 z:=aaS hl hg
 en:=fun x hx=>(hg x hx).en
 ck:=Ux r hr l (by omega) hg hn
 ck1:=fun x hx=>Ux r hr [x] (by simp) (by intro e he;rw [List.mem_singleton] at he;subst he;exact hg _ hx) (by simp [jI])
 t:=fun x hx=>by have:=(hg x hx).i.t;rw [(afZ r hr).l];omega
 rE:=fun x hx=>(ac4 (hg x hx).ok).2
def trP (ks:List Kd) (x:En):Nd:=ng (BK (jK ks x.i.t).p x.i 12)
def trR (ks:List Kd) (x:En):Nd:=rsN (OT (jK ks x.i.t).p x.i 12)
theorem J9 {ks:List Kd} (h:Ig ks) {t:Int} (h0:0≤t∧t < ks.length):fH (jK ks t).p:=by
 obtain ⟨n,rfl⟩:∃ n:Nat,t=n:=⟨t.toNat,by omega⟩
 rw [jf (by omega:n < ks.length)]
 exact h.f _ (List.getElem_mem _)
theorem LX {p:Pt} {x:It} (h:lK p x 12=0):cnt (BK p x 12)≠0:=by
 unfold BK
 rw [if_pos h]
 unfold lK at h
 intro c
 rw [if_neg (by omega)] at h
 split at h
 · cases h
 · split at h
   · cases h
   · rw [if_pos (.inl c)] at h;cases h
mutual
theorem TA:∀ n:Nd,ng n.z=ng n
 | ⟨k,t,y,a,ae,x,ch,ce⟩=>by rw [Nd.z,ng,ng,VH ch]
theorem VH:∀ l:List Nd,yc (Nd.zs l)=yc l
 | []=>rfl
 | n::r=>by rw [Nd.zs,yc,yc,TA n,VH r]
end
theorem am6 (ks:List Kd) (hr:Ig ks) (x:En) (ht:0≤x.i.t∧x.i.t < ks.length):(trP ks x).z=(trR ks x).z:=by
 unfold trP trR
 rw [agl,← TA (BK _ _ _),afS _ (J9 hr ht),TA]
mutual
theorem Yh:∀ n m:Nd,n.z=m.z→eqN n m=true
 | ⟨k,t,y,a,ae,x,ch,ce⟩,⟨k',t',y',a',ae',x',ch',ce'⟩,h=>by
  rw [Nd.z,Nd.z] at h
  simp only [Nd.mk.injEq,true_and,and_true] at h
  obtain ⟨h1,h2,h3,h4,h5,h6⟩:=h
  rw [eqN,Z9 ch ch' h6]
  simp [h1,h2,h3,h4,h5]
theorem Z9:∀ l r:List Nd,Nd.zs l=Nd.zs r→kZ l r=true
 | [],[],_=>by rw [kZ]
 | n::l,m::r,h=>by
  rw [Nd.zs,Nd.zs] at h
  simp only [List.cons.injEq] at h
  rw [kZ,Yh n m h.1,Z9 l r h.2];rfl
 | [],_::_,h=>by rw [Nd.zs,Nd.zs] at h;cases h
 | _::_,[],h=>by rw [Nd.zs,Nd.zs] at h;cases h
end
theorem abD {n:Nd} (h:NdV n):uH (ng n):=by
 induction h with
 | mk n hc h1 h2 h ih =>
  rw [UJ]
  refine .mk _ (by simp only;omega) (by simp only [List.length_map];omega) fun m hm=>?_
  simp only [List.mem_map] at hm
  obtain ⟨q,hq,rfl⟩:=hm
  exact ih q hq
section
variable {r:Int} {l:List En} (L:LG r l)
theorem LG.am2 (L:LG r l) {x:En} (hx:x ∈ l):uH (trP (ak r) x):=abD (Q9 (LX (L.rE _ hx)))
theorem LG.eqT (L:LG r l) {x:En} (hx:x ∈ l):eqN (trP (ak r) x) (trR (ak r) x)=true:=Yh _ _ (am6 _ (CS r) x (L.t x hx))
theorem aaI (H:Il C) (L:LG r l) {x:En} (hx:x ∈ l) (e:Bool):∃ N:Nd,FnW C 238 [aR (ak r) true 12,aL [x] e,.int .i64 0]=some (.tup [.agg N.c,.int .i64 0])∧FnW C 418 [.agg N.c]=some (.agg (trP (ak r) x).c):=by
 have h1:ckE (ak r) 12 [x]=0:=L.ck1 x hx
 have h2:=acg H.toagi (ak r) true 12 (CS r) [x] e (by simp) (by intro y hy;rw [List.mem_singleton] at hy;subst hy;exact L.en _ hx) h1 0 (by simp) (L.t x hx).2
 simp only [List.getElem_cons_zero] at h2
 rw [L.rE _ hx] at h2
 exact ⟨_,h2,YL H.tonX (LX (L.rE _ hx))⟩
theorem Zp (H:Il C) (L:LG r l) (f:Bool) (i:Nat) (hi:i < l.length):∃ N:Nd,FnW C 417 [aR (ak r) true 12,.ro 6 (l.map eEn) f,.int .i64 i]=some (.agg N.c)∧FnW C 416 [.agg N.c]=some (.agg (trR (ak r) l[i]).c):=by
 have hx:=List.getElem_mem hi
 have ht:=L.t _ hx
 obtain ⟨tn,htn⟩:∃ tn:Nat,l[i].i.t=tn:=⟨l[i].i.t.toNat,by omega⟩
 have htl:tn < (ak r).length:=by omega
 have hz0:=L.rE _ hx
 have h2:=GH H.toqA (jK (ak r) l[i].i.t).p (J9 (CS r) ht) l[i].i (L.en _ hx).i.k 12
 have h3:=Xu H.tonX (n:=OT (jK (ak r) l[i].i.t).p l[i].i 12) (by
  rw [← UK,← afS _ (J9 (CS r) ht),UK];exact LX hz0)
 refine ⟨_,?_,h3⟩
 rw [hz0,htn,jf htl] at h2
 rw [htn,jf htl]
 generalize OT (ak r)[tn].p l[i].i 12=N at *
 rw [Pt.dD,Nd.dD] at h2
 rw [Nd.dD]
 simp only [eIt,htn] at h2
 rw [aF H.akF rfl]
 generalize ak r=ks at *
 simp (disch:=omega) [ab8,h2,hi,htn,htl,H.inl,aB,H.pp,ppB]
def rowP (ks:List Kd) (l:List En) (i:Nat):Rw:=match l[i]? with | some x=>⟨x.i.k,top l i,x.s,trP ks x⟩ | none=>⟨0,0,0,zN⟩
def eY (ks:List Kd) (l:List En) (i:Nat):Rw:=match l[i]? with | some x=>⟨x.i.k,top l i,x.s,trR ks x⟩ | none=>⟨0,0,0,zN⟩
theorem gW {ks:List Kd} {l:List En} {i:Nat} (h:i < l.length):rowP ks l i=⟨l[i].i.k,top l i,l[i].s,trP ks l[i]⟩:=by unfold rowP;rw [List.getElem?_eq_getElem h]
theorem qJ {ks:List Kd} {l:List En} {i:Nat} (h:i < l.length):eY ks l i=⟨l[i].i.k,top l i,l[i].s,trR ks l[i]⟩:=by unfold eY;rw [List.getElem?_eq_getElem h]
theorem Fa (H:Il C) (L:LG r l) (f:Bool) (i:Nat) (hi:i < l.length):FnW C 261 [aR (ak r) true 12,.ro 6 (l.map eEn) f,.int .i64 i]=some (.agg (eRw (eY (ak r) l i))):=by
 obtain ⟨N,h1,h2⟩:=Zp H L f i hi
 have h3:=pF H.tofU l f L.z i (by omega)
 rw [qJ hi]
 generalize trR (ak r) l[i]=T at *
 rw [Nd.dD] at h1 h2
 rw [Nd.dD] at h2
 simp only [aR] at h1
 rw [aF H.f261 rfl]
 generalize ak r=ks at *
 simp (disch:=omega) [adM,h1,h2,h3,hi,H.inl,aB,H.pp,ppB]
def dL (ks:List Kd) (l:List En) (a n:Nat):List Rw:=(List.range n).map fun k=>rowP ks l (a+k)
theorem Tq (ks:List Kd) (l:List En) (a n:Nat):dL ks l a (n+1)=dL ks l a n++[rowP ks l (a+n)]:=by unfold dL;rw [List.range_succ,List.map_append];rfl
theorem xB (ks:List Kd) (l:List En) (a n:Nat):(dL ks l a n).length=n:=by simp [dL]
theorem WO (H:Il C) (L:LG r l) (f:Bool) (a n:Nat) (hab:a+n≤l.length):∀ m k,k+m=n→∀ G:List Rw,G.length=k→G=dL (ak r) l a k →
 DR C ⟨[(31,.int .i64 k),(30,.int .i64 n),(11,.sl 0 9 0 n n true),(9,.ro 1 ((tps l).map eI) true),(5,.ptr 1 0 0),(4,.ptr 2 0 0),(2,.int .i64 a)],
  [(0,.cells 9 (G.map eRw++List.replicate m [.int .u64 0,.int .i64 0,.int .i64 0,.int .u8 0,.str [],.str [],.ro 2 [] true,.str [],.ro 6 [] true]) true true),(1,.cells 1 [[.ro 6 (l.map eEn) f]] true true),(2,.cells 2 [[.ro 9 ((ak r).map eKd) true,.int .i64 12]] true true)],3⟩
  = some (.ro 9 ((dL (ak r) l a n).map eRw) true):=by
 have hl:=L.hl
 intro m
 induction m with
 | zero =>
  intro k hk G hG hGe
  have h3:¬ k < n:=by omega
  have e:k=n:=by omega
  subst e
  rw [← hGe]
  have e2:List.take k (List.map eRw G)=List.map eRw G:=List.take_of_length_le (by simp;omega)
  simp only [DR];rw [aj zM.eq_1]
  simp (disch:=omega) [aj JJ.eq_1,e2,hG]
 | succ m ihm =>
  intro k hk G hG hGe
  have h1:k < n:=by omega
  have hi:a+k < l.length:=by omega
  have this:=ihm (k+1) (by omega) (G++[rowP (ak r) l (a+k)]) (by simp [hG]) (by rw [hGe,Tq])
  obtain ⟨N,t1,t2⟩:=aaI H L (List.getElem_mem hi) true
  have g1:=Zd eRw G [.int .u64 0,.int .i64 0,.int .i64 0,.int .u8 0,.str [],.str [],.ro 2 [] true,.str [],.ro 6 [] true] m
  have g2:=abl eRw G [.int .u64 0,.int .i64 0,.int .i64 0,.int .u8 0,.str [],.str [],.ro 2 [] true,.str [],.ro 6 [] true] m (rowP (ak r) l (a+k))
  have hz:=L.z
  have htp:=hz.small (a+k)
  have tp:(tps l)[a+k]?=some (top l (a+k)):=by
   have h:a+k < (tps l).length:=by rw [fJ];omega
   rw [List.getElem?_eq_getElem h,A8]
  rw [hG] at g1 g2
  rw [gW hi] at g2 this
  generalize trP (ak r) l[a+k]=T at *
  rw [Nd.dD] at t1 t2
  rw [Nd.dD] at t2
  simp only [aR,aL,List.map_cons,List.map_nil,eEn] at t1
  generalize ak r=ks at *
  simp only [DR] at this ⊢;rw [aj zM.eq_1]
  simp at this
  simp at g2 t1 g1
  simp (disch:=omega) [h1,hi,tp,t1,t2,aI,H.inl,aB,H.pp,ppB,g1,g2,this]
theorem rows_ok (H:Il C) (L:LG r l) (f:Bool) (a b:Nat) (hab:a≤b) (hb:b≤l.length) :
 FnW C 263 [aR (ak r) true 12,aL l f,.int .i64 a,.int .i64 b]=some (.ro 9 ((dL (ak r) l a (b - a)).map eRw) true):=by
 have h1:=Ba H.tofU l f L.z
 have hl:=L.hl
 obtain ⟨n,rfl⟩:∃ n,b=a+n:=⟨b - a,by omega⟩
 have e:a+n - a=n:=by omega
 have ei:((a+n:Nat):Int) - a=n:=by omega
 rw [e]
 have k:=WO H L f a n hb n 0 (by omega) [] rfl rfl
 generalize hQ:dL (ak r) l a n=Q at *
 generalize ak r=ks at *
 rw [aF H.f263 rfl]
 by_cases c:n=0
 · subst c
   have hq:Q=[]:=by rw [← hQ];rfl
   subst hq
   simp (disch:=omega) [XT,H.inl,aB,H.pp,ppB]
 · have c1:¬ (a:Int)=a+n:=by omega
   have hfit:n * 129≤35184372088832:=by omega
   simp only [DR] at k
   try simp at k
   simp at ei
   simp (disch:=omega) [XT,h1,c1,ei,k,hfit,aI,H.inl,aB,H.pp,ppB]
   done
end
end Go.D
end
section
namespace Go.D
open Go Go.Pav Go.Pw P
attribute [-simp] List.getElem_cons_drop
variable {C:aG}
structure Dy (C:aG):Prop extends Il C where
 f262:C.fns.get 262=some acZ
 f149:C.fns.get 149=some acn
 f151:C.fns.get 151=some aeD
 f304:C.fns.get 304=some acT
def stk (ks:List Kd) (l:List En) (i:Nat):Bool:=match l[i]? with | some x=>(jK ks x.i.t).st | none=>false
theorem Jy {ks:List Kd} {l:List En} {i:Nat} (h:i < l.length):stk ks l i=(jK ks l[i].i.t).st:=by unfold stk;rw [List.getElem?_eq_getElem h]
def szI (l:List En) (i:Int):Int:=match l[i.toNat]? with | some x=>x.s | none=>0
theorem EG {l:List En} {i:Nat} (h:i < l.length):szI l i=l[i].s:=by unfold szI;rw [show (i:Int).toNat=i from rfl,List.getElem?_eq_getElem h]
def hpF (ks:List Kd) (l:List En) (s:Int):Nat→Nat→Int→Int × Int
 | 0,_,a=>(a,0)
 | n+1,i,a=>if stk ks l i=true then (if s < top l i then (a,if 0≤a then qV 0 (top l i - s - szI l a) else 0) else hpF ks l s n (i+1) i) else hpF ks l s n (i+1) a
def hrF (ks:List Kd) (l:List En) (s:Int):Nat→Nat→Int→Int
 | 0,_,a=>a
 | n+1,i,a=>hrF ks l s n (i+1) (if stk ks l i=true∧top l i≤s then (i:Int) else a)
def plF (ks:List Kd) (l:List En) (s z:Int):Nat→Nat→Int
 | 0,_=>0
 | n+1,j=>if stk ks l j=true then (if top l j - s - z < 0 then top l j - s - z else 0) else plF ks l s z n (j+1)
def hrA (ks:List Kd) (l:List En) (s:Int):Int:=hrF ks l s l.length 0 (-1)
def plA (ks:List Kd) (l:List En) (s:Int) (h:Nat):Int:=plF ks l s (szI l h) (l.length - (h+1)) (h+1)
theorem aaR {ks:List Kd} {l:List En} (hz:Szd l) {s:Int}:∀ (n i:Nat) (a:Int),n+i=l.length→s < top l i→hrF ks l s n i a=a:=by
 intro n
 induction n with
 | zero=>intro i a _ _;rfl
 | succ n ih =>
  intro i a hi h
  have:=hz.lt (i:=i) (by omega)
  rw [hrF,if_neg (by omega)]
  exact ih (i+1) a (by omega) (by omega)
theorem Ht (ks:List Kd) (l:List En) (s:Int):∀ (n i:Nat) (a:Int),n+i=l.length→-1≤a∧a < i→-1≤hrF ks l s n i a∧hrF ks l s n i a < l.length:=by
 intro n
 induction n with
 | zero=>intro i a hi h;rw [hrF];omega
 | succ n ih =>
  intro i a hi h
  rw [hrF]
  refine ih (i+1) _ (by omega) ?_
  split <;> omega
theorem agM {ks:List Kd} {l:List En} (hz:Szd l) {s:Int}:∀ (n i:Nat) (a:Int),n+i=l.length→-1≤a∧a < i →
 (0≤a→plF ks l s (szI l a) (l.length - (a.toNat+1)) (a.toNat+1)=plF ks l s (szI l a) n i) →
 hpF ks l s n i a=(hrF ks l s n i a,if 0≤hrF ks l s n i a then plF ks l s (szI l (hrF ks l s n i a)) (l.length - ((hrF ks l s n i a).toNat+1)) ((hrF ks l s n i a).toNat+1) else 0):=by
 intro n
 induction n with
 | zero =>
  intro i a hi ha h
  rw [hpF,hrF]
  by_cases c:0≤a
  · rw [if_pos c,h c,plF]
  · rw [if_neg c]
 | succ n ih =>
  intro i a hi ha h
  rw [hpF,hrF]
  by_cases c:stk ks l i=true
  · rw [if_pos c]
    by_cases d:s < top l i
    · have hc:¬ (stk ks l i=true∧top l i≤s):=by rintro ⟨_,q⟩;omega
      rw [if_pos d,if_neg hc,aaR hz n (i+1) a (by omega) (by have:=hz.lt (i:=i) (by omega);omega)]
      by_cases e:0≤a
      · rw [if_pos e,if_pos e,h e,plF,if_pos c]
        unfold qV
        congr 1
      · rw [if_neg e,if_neg e]
    · rw [if_neg d,if_pos ⟨c,by omega⟩]
      refine ih (i+1) i (by omega) (by omega) fun _=>?_
      rw [show (i:Int).toNat=i from rfl,show l.length - (i+1)=n by omega]
  · rw [if_neg c,if_neg (by rintro ⟨q,_⟩;exact c q)]
    refine ih (i+1) a (by omega) (by omega) fun q=>?_
    rw [h q,plF,if_neg c]
theorem Xw (H:Dy C) (ks:List Kd) (ke:Bool) (cap:Int) (l:List En) (e:Bool) (s:Int) (hs:0≤s∧s≤4611686018427387904) (hz:Szd l) (ht:∀ x ∈ l,0≤x.i.t∧x.i.t < ks.length):∀ n i,n+i=l.length→∀ a:Int,-1≤a∧a < i →
 tC C ⟨[(20,.int .i64 i),(19,.int .i64 l.length),(18,.ro 6 (l.map eEn) e),(8,.ro 1 ((tps l).map eI) true),(7,.int .i64 0),(6,.int .i64 a),(4,.ptr 0 0 0),(3,.ptr 1 0 0),(2,.int .i64 s)],[(0,.cells 1 [[.ro 6 (l.map eEn) e]] true true),(1,.cells 2 [[.ro 9 (ks.map eKd) ke,.int .i64 cap]] true true)],2⟩
  = some (.tup [.int .i64 (hpF ks l s n i a).1,.int .i64 (hpF ks l s n i a).2]):=by
 intro n
 induction n with
 | zero =>
  intro i hi a ha
  have h3:¬ i < l.length:=by omega
  simp only [tC];rw [aj pV.eq_1]
  simp (disch:=omega) [aj zW.eq_1,h3,hpF]
 | succ n ih =>
  intro i hi a ha
  have h1:i < l.length:=by omega
  have hn:=hz.n
  have h2:i < (tps l).length:=by rw [fJ];omega
  have q2:=A8 l h2
  have hx:=ht _ (List.getElem_mem h1)
  obtain ⟨t,hT⟩:∃ t:Nat,l[i].i.t=t:=⟨l[i].i.t.toNat,by omega⟩
  have h4:t < ks.length:=by omega
  have htp:=hz.small i
  have htp0:=hz.rng i
  rw [hpF,Jy h1]
  simp only [hT,jf h4]
  cases c2:ks[t].st
  · have this:=ih (i+1) (by omega) a (by omega)
    rw [if_neg (by simp)]
    generalize hpF ks l s n (i+1) a=R at *
    simp only [tC] at this ⊢;rw [aj pV.eq_1]
    simp at this
    simp (disch:=omega) [h1,h2,q2,hT,h4,c2,aI,this]
  · rw [if_pos rfl]
    by_cases c1:s < top l i
    · rw [if_pos c1]
      by_cases c3:0≤a
      · obtain ⟨b,rfl⟩:∃ b:Nat,a=b:=⟨a.toNat,by omega⟩
        have hb:b < l.length:=by omega
        have hsb:=hz.s _ (List.getElem_mem hb)
        rw [if_pos c3,EG hb]
        simp only [tC];rw [aj pV.eq_1]
        simp (disch:=omega) [aj zW.eq_1,h1,h2,q2,hT,h4,c2,c1,c3,hb,aI]
      · rw [if_neg c3]
        simp only [tC];rw [aj pV.eq_1]
        simp (disch:=omega) [aj zW.eq_1,h1,h2,q2,hT,h4,c2,c1,c3,aI]
    · rw [if_neg c1]
      have this:=ih (i+1) (by omega) i (by omega)
      generalize hpF ks l s n (i+1) i=R at *
      simp only [tC] at this ⊢;rw [aj pV.eq_1]
      simp at this
      simp (disch:=omega) [h1,h2,q2,c1,hT,h4,c2,aI,this]
theorem Vq (H:Dy C) (ks:List Kd) (ke:Bool) (cap:Int) (l:List En) (e:Bool) (s:Int) (hs:0≤s∧s≤4611686018427387904) (hz:Szd l) (ht:∀ x ∈ l,0≤x.i.t∧x.i.t < ks.length) :
 FnW C 262 [aR ks ke cap,aL l e,.int .i64 s]=some (.tup [.int .i64 (hrA ks l s),.int .i64 (if 0≤hrA ks l s then plA ks l s (hrA ks l s).toNat else 0)]):=by
 have hn:=hz.n
 have h:=Xw H ks ke cap l e s hs hz ht l.length 0 (by simp) (-1) (by omega)
 rw [agM hz l.length 0 (-1) (by simp) (by omega) (by omega)] at h
 have hbd:=Ht ks l s l.length 0 (-1) (by simp) (by omega)
 have h1:=Ba H.tofU l e hz
 unfold plA
 change _=some (AV.tup [.int .i64 (hrF ks l s l.length 0 (-1)),.int .i64 (if 0≤hrF ks l s l.length 0 (-1) then plF ks l s (szI l ((hrF ks l s l.length 0 (-1)).toNat:Nat)) (l.length - ((hrF ks l s l.length 0 (-1)).toNat+1)) ((hrF ks l s l.length 0 (-1)).toNat+1) else 0)])
 have e3:0≤hrF ks l s l.length 0 (-1)→szI l ((hrF ks l s l.length 0 (-1)).toNat:Nat)=szI l (hrF ks l s l.length 0 (-1)):=fun q=>by rw [Int.toNat_of_nonneg q]
 have e4:(if 0≤hrF ks l s l.length 0 (-1) then plF ks l s (szI l ((hrF ks l s l.length 0 (-1)).toNat:Nat)) (l.length - ((hrF ks l s l.length 0 (-1)).toNat+1)) ((hrF ks l s l.length 0 (-1)).toNat+1) else 0)=(if 0≤hrF ks l s l.length 0 (-1) then plF ks l s (szI l (hrF ks l s l.length 0 (-1))) (l.length - ((hrF ks l s l.length 0 (-1)).toNat+1)) ((hrF ks l s l.length 0 (-1)).toNat+1) else 0):=by
  split
  · rw [e3 ‹_›]
  · rfl
 rw [e4]
 simp only at h
 generalize (if 0≤hrF ks l s l.length 0 (-1) then plF ks l s (szI l (hrF ks l s l.length 0 (-1))) (l.length - ((hrF ks l s l.length 0 (-1)).toNat+1)) ((hrF ks l s l.length 0 (-1)).toNat+1) else 0)=P at *
 generalize hrF ks l s l.length 0 (-1)=Q at *
 rw [aF H.f262 rfl]
 simp only [tC] at h
 try simp at h
 simp [acZ,h1,h,H.inl,aB,H.pp,ppB]
theorem Iu (H:Dy C) (ks:List Kd) (ke:Bool) (cap:Int) (x:En) (ht:0≤x.i.t∧x.i.t < ks.length):FnW C 304 [aR ks ke cap,.agg (eEn x)]=some (.int .i64 (if (jK ks x.i.t).st=true then 1 else 0)):=by
 obtain ⟨t,hT⟩:∃ t:Nat,x.i.t=t:=⟨x.i.t.toNat,by omega⟩
 have h4:t < ks.length:=by omega
 rw [hT,jf h4,aF H.f304 rfl]
 cases c:ks[t].st <;> simp (disch:=omega) [acT,hT,h4,c,H.inl,aB,H.pp,ppB]
theorem Tm (H:Dy C) (ks:List Kd) (ke:Bool) (cap:Int) (l:List En) (e:Bool) (s:Int) (hz:Szd l) (ht:∀ x ∈ l,0≤x.i.t∧x.i.t < ks.length):∀ n i,n+i=l.length→∀ a:Int,
 vS C ⟨[(8,.int .i64 i),(7,.int .i64 a),(3,.ptr 0 0 0),(2,.int .i64 s),(1,.ro 6 (l.map eEn) e)],[(0,.cells 2 [[.ro 9 (ks.map eKd) ke,.int .i64 cap]] true true)],1⟩=some (.int .i64 (hrF ks l s n i a)):=by
 intro n
 induction n with
 | zero =>
  intro i hi a
  have h3:¬ i < l.length:=by omega
  simp only [vS];rw [aj rP.eq_1]
  simp (disch:=omega) [aj JZ.eq_1,h3,hrF]
 | succ n ih =>
  intro i hi a
  have h1:i < l.length:=by omega
  have hn:=hz.n
  have hs:=Iu H ks ke cap l[i] (ht _ (List.getElem_mem h1))
  have htp:=pF H.tofU l e hz i (by omega)
  rw [hrF,Jy h1]
  simp only [aR,eEn] at hs
  cases c:(jK ks l[i].i.t).st
  · rw [if_neg (by simp)]
    have this:=ih (i+1) (by omega) a
    rw [c] at hs
    generalize hrF ks l s n (i+1) a=R at *
    simp only [vS] at this ⊢;rw [aj rP.eq_1]
    simp at this hs
    simp (disch:=omega) [h1,hs,aI,H.inl,aB,H.pp,ppB,this]
  · rw [c] at hs
    by_cases d:top l i≤s
    · rw [if_pos ⟨rfl,d⟩]
      have this:=ih (i+1) (by omega) i
      generalize hrF ks l s n (i+1) i=R at *
      simp only [vS] at this ⊢;rw [aj rP.eq_1]
      simp at this hs
      simp (disch:=omega) [h1,hs,htp,d,aI,H.inl,aB,H.pp,ppB,this]
    · rw [if_neg (by rintro ⟨_,q⟩;exact d q)]
      have this:=ih (i+1) (by omega) a
      generalize hrF ks l s n (i+1) a=R at *
      simp only [vS] at this ⊢;rw [aj rP.eq_1]
      simp at this hs
      simp (disch:=omega) [h1,hs,htp,d,aI,H.inl,aB,H.pp,ppB,this]
theorem Y5 (H:Dy C) (ks:List Kd) (ke:Bool) (cap:Int) (l:List En) (e:Bool) (s:Int) (hz:Szd l) (ht:∀ x ∈ l,0≤x.i.t∧x.i.t < ks.length):FnW C 149 [aR ks ke cap,.ro 6 (l.map eEn) e,.int .i64 s]=some (.int .i64 (hrA ks l s)):=by
 have h:=Tm H ks ke cap l e s hz ht l.length 0 (by simp) (-1)
 rw [aF H.f149 rfl]
 unfold hrA
 generalize hrF ks l s l.length 0 (-1)=R at *
 simp only [vS] at h
 try simp at h
 simp [acn,h,H.inl,aB,H.pp,ppB]
theorem RX (H:Dy C) (ks:List Kd) (ke:Bool) (cap:Int) (l:List En) (e:Bool) (s:Int) (hs:0≤s∧s≤4611686018427387904) (hz:Szd l) (ht:∀ x ∈ l,0≤x.i.t∧x.i.t < ks.length) (h:Nat) (hh:h < l.length):∀ n j,n+j=l.length →
 wX C ⟨[(9,.int .i64 j),(4,.ptr 0 0 0),(3,.int .i64 h),(2,.int .i64 s),(1,.ro 6 (l.map eEn) e)],[(0,.cells 2 [[.ro 9 (ks.map eKd) ke,.int .i64 cap]] true true)],1⟩=some (.int .i64 (plF ks l s (szI l h) n j)):=by
 intro n
 induction n with
 | zero =>
  intro i hi
  have h3:¬ i < l.length:=by omega
  simp only [wX];rw [aj rZ.eq_1]
  simp (disch:=omega) [aj LY.eq_1,h3,plF]
 | succ n ih =>
  intro i hi
  have h1:i < l.length:=by omega
  have hn:=hz.n
  have hst:=Iu H ks ke cap l[i] (ht _ (List.getElem_mem h1))
  have htp:=pF H.tofU l e hz i (by omega)
  have hb1:=hz.rng i
  have hb2:=hz.small i
  have hsb:=hz.s _ (List.getElem_mem hh)
  rw [plF,Jy h1]
  simp only [aR,eEn] at hst
  cases c:(jK ks l[i].i.t).st
  · rw [if_neg (by simp)]
    have this:=ih (i+1) (by omega)
    rw [c] at hst
    generalize plF ks l s (szI l h) n (i+1)=R at *
    simp only [wX] at this ⊢;rw [aj rZ.eq_1]
    simp at this hst
    simp (disch:=omega) [h1,hst,aI,H.inl,aB,H.pp,ppB,this]
  · rw [c] at hst
    rw [if_pos rfl,EG hh]
    by_cases d:top l i - s - l[h].s < 0
    · rw [if_pos d]
      simp only [wX];rw [aj rZ.eq_1]
      simp at hst
      simp (disch:=omega) [h1,hh,hst,htp,d,aI,H.inl,aB,H.pp,ppB]
    · rw [if_neg d]
      simp only [wX];rw [aj rZ.eq_1]
      simp at hst
      simp (disch:=omega) [h1,hh,hst,htp,d,aI,H.inl,aB,H.pp,ppB]
theorem P9 (H:Dy C) (ks:List Kd) (ke:Bool) (cap:Int) (l:List En) (e:Bool) (s:Int) (hs:0≤s∧s≤4611686018427387904) (hz:Szd l) (ht:∀ x ∈ l,0≤x.i.t∧x.i.t < ks.length) (h:Nat) (hh:h < l.length) :
 FnW C 151 [aR ks ke cap,.ro 6 (l.map eEn) e,.int .i64 s,.int .i64 h]=some (.int .i64 (plA ks l s h)):=by
 have hn:=hz.n
 have k:=RX H ks ke cap l e s hs hz ht h hh (l.length - (h+1)) (h+1) (by omega)
 rw [aF H.f151 rfl]
 unfold plA
 generalize plF ks l s (szI l h) (l.length - (h+1)) (h+1)=R at *
 simp only [wX] at k
 try simp at k
 simp (disch:=omega) [aeD,k,aI,H.inl,aB,H.pp,ppB]
end Go.D
end
section
namespace Go.D
open Go Go.Pav Go.Pw P
attribute [-simp] List.getElem_cons_drop
variable {C:aG}
structure xZ (C:aG):Prop extends Dy C where
 f265:C.fns.get 265=some Zg
 f264:C.fns.get 264=some aee
 f125:C.fns.get 125=some V8
 f259:C.fns.get 259=some adA
 f257:C.fns.get 257=some afu
theorem IU (H:xZ C) (l:List Rw) (e:Bool) (hl:l.length≤1000000):FnW C 265 [.ro 9 (l.map eRw) e]=some (.ro 9 (l.map eRw) l.isEmpty):=by
 rw [aF H.f265 rfl]
 cases l with
 | nil=>simp [Zg,aaN]
 | cons a r =>
  simp only [List.length_cons] at hl
  have h1:(r.length+1) * 129≤35184372088832:=by omega
  have h2:List.take r.length (List.map eRw r)=List.map eRw r:=List.take_of_length_le (by simp)
  simp [Zg,U6,QJ,jZ,h1,h2]
theorem Pq (H:xZ C) (l:List Rw) (e:Bool):FnW C 264 [.ro 9 (l.map eRw) e]=some (.ro 9 (l.map eRw) true):=by
 have h:List.take l.length (List.map eRw l)=List.map eRw l:=List.take_of_length_le (by simp)
 rw [aF H.f264 rfl]
 simp [aee,h]
def slQ (s at_:Int):List Rw→Nat→List Rw
 | [],_=>[]
 | q::r,i=>if (i:Int)=at_ then slQ s at_ r (i+1) else ⟨q.k,q.t - s,q.s,q.n⟩::slQ s at_ r (i+1)
theorem akU (H:xZ C) (Q:List Rw) (hQ:Q.length≤1024) (s at_:Int) (hs:0≤s∧s≤4611686018427387904) (hq:∀ q ∈ Q,0≤q.t∧q.t≤4611686018427387904) (a:Nat) (ha:a≤1024) (p:Bool) (h:Rw):∀ m k,m+k=Q.length→∀ G:List Rw,G≠[]→G.length≤k →
 kJ C ⟨[(68,.int .i64 k),(67,.int .i64 Q.length),(66,.ro 9 (Q.map eRw) true),(15,.int .i64 at_),(14,.ptr 0 0 0),(11,.int .i64 a),(8,.ptr 2 0 0),(2,.int .i64 s)],[(0,.cells 12 [[.int .i64 s,.sl 1 9 0 G.length G.length false,.bool p,.int .u64 h.k,.int .i64 h.t,.int .i64 h.s,.int .u8 h.n.k,.str h.n.t,.str h.n.y,.ro 2 (h.n.a.map eA) h.n.ae,.str h.n.x,.ro 6 (h.n.ch.map Nd.c) h.n.ce]] true false),(1,.cells 9 (G.map eRw) true true),(2,.cells 12 [[.int .i64 0,.ro 9 [] true,.bool false,.int .u64 0,.int .i64 0,.int .i64 0,.int .u8 0,.str [],.str [],.ro 2 [] true,.str [],.ro 6 [] true]] true true)],3⟩=some (.tup [.agg (eSc ⟨s,G++slQ s at_ (Q.drop k) (a+k),true,p,h⟩),.int .i64 0]):=by
 intro m
 induction m with
 | zero =>
  intro k hk G hG hGl
  have h3:¬ k < Q.length:=by omega
  have e1:Q.drop k=[]:=List.drop_eq_nil_of_le (by omega)
  rw [e1,slQ,List.append_nil]
  have e2:List.take G.length (List.map eRw G)=List.map eRw G:=List.take_of_length_le (by simp)
  have c1:=IU H G false (by omega)
  have c2:=Pq H G G.isEmpty
  simp only [kJ];rw [aj nC.eq_1]
  simp (disch:=omega) [aj Ei.eq_1,h3,e2,c1,c2,H.inl,aB,H.pp,ppB]
 | succ m ih =>
  intro k hk G hG hGl
  have h1:k < Q.length:=by omega
  have hb:=hq _ (List.getElem_mem h1)
  have hfit:(G.length+1) * 129≤35184372088832:=by omega
  rw [drop_cons h1,slQ]
  by_cases c:(a:Int)+k=at_
  · rw [if_pos (by omega)]
    have this:=ih (k+1) (by omega) G hG (by omega)
    rw [← Nat.add_assoc] at this
    simp only [kJ] at this ⊢;rw [aj nC.eq_1]
    simp at this
    simp (disch:=omega) [h1,c,aI,H.inl,aB,H.pp,ppB,this]
  · rw [if_neg (by omega)]
    have this:=ih (k+1) (by omega) (G++[⟨Q[k].k,Q[k].t - s,Q[k].s,Q[k].n⟩]) (by simp) (by simp;omega)
    rw [← Nat.add_assoc,List.append_assoc] at this
    simp only [kJ] at this ⊢;rw [aj nC.eq_1]
    simp at this
    simp (disch:=omega) [h1,c,hfit,aI,H.inl,aB,H.pp,ppB,this]
theorem Yz (H:xZ C) (Q:List Rw) (hQ:Q.length≤1024) (s at_:Int) (hs:0≤s∧s≤4611686018427387904) (hq:∀ q ∈ Q,0≤q.t∧q.t≤4611686018427387904) (a:Nat) (ha:a≤1024) (p:Bool) (h:Rw):∀ m k,m+k=Q.length →
 kJ C ⟨[(68,.int .i64 k),(67,.int .i64 Q.length),(66,.ro 9 (Q.map eRw) true),(15,.int .i64 at_),(14,.ptr 0 0 0),(11,.int .i64 a),(8,.ptr 1 0 0),(2,.int .i64 s)],[(0,.cells 12 [[.int .i64 s,.ro 9 [] true,.bool p,.int .u64 h.k,.int .i64 h.t,.int .i64 h.s,.int .u8 h.n.k,.str h.n.t,.str h.n.y,.ro 2 (h.n.a.map eA) h.n.ae,.str h.n.x,.ro 6 (h.n.ch.map Nd.c) h.n.ce]] true true),(1,.cells 12 [[.int .i64 0,.ro 9 [] true,.bool false,.int .u64 0,.int .i64 0,.int .i64 0,.int .u8 0,.str [],.str [],.ro 2 [] true,.str [],.ro 6 [] true]] true true)],2⟩=some (.tup [.agg (eSc ⟨s,slQ s at_ (Q.drop k) (a+k),true,p,h⟩),.int .i64 0]):=by
 intro m
 induction m with
 | zero =>
  intro k hk
  have h3:¬ k < Q.length:=by omega
  have e1:Q.drop k=[]:=List.drop_eq_nil_of_le (by omega)
  rw [e1,slQ]
  have c1:=IU H [] true (by simp)
  have c2:=Pq H [] true
  simp at c1 c2
  simp only [kJ];rw [aj nC.eq_1]
  simp (disch:=omega) [aj Ei.eq_1,h3,c1,c2,H.inl,aB,H.pp,ppB]
 | succ m ih =>
  intro k hk
  have h1:k < Q.length:=by omega
  have hb:=hq _ (List.getElem_mem h1)
  rw [drop_cons h1,slQ]
  by_cases c:(a:Int)+k=at_
  · rw [if_pos (by omega)]
    have this:=ih (k+1) (by omega)
    rw [← Nat.add_assoc] at this
    simp only [kJ] at this ⊢;rw [aj nC.eq_1]
    simp at this
    simp (disch:=omega) [h1,c,aI,H.inl,aB,H.pp,ppB,this]
  · rw [if_neg (by omega)]
    have this:=akU H Q hQ s at_ hs hq a ha p h m (k+1) (by omega) [⟨Q[k].k,Q[k].t - s,Q[k].s,Q[k].n⟩] (by simp) (by simp)
    rw [← Nat.add_assoc] at this
    simp only [kJ] at this ⊢;rw [aj nC.eq_1]
    simp at this
    simp (disch:=omega) [h1,c,aI,H.inl,aB,H.pp,ppB,this]
theorem Vp.aou {l:List En} {s v:Int} (h:Vp l s v):∃ a b:Nat,yx l s v=a∧yA l s v=b∧a≤b∧b≤l.length∧(∀ i,i < l.length→((top l i < s+v∧s < top l (i+1))↔(a≤i∧i < b))) ∧
 (0 < l.length→a < b∧top l a≤s∧s < top l (a+1)∧(s+v≤top l b∨b=l.length)):=by
 unfold yx yA
 by_cases c:l.length=0
 · rw [if_pos c,if_pos c]
   exact ⟨0,0,rfl,rfl,by omega,by omega,fun i hi=>by omega,fun q=>by omega⟩
 · rw [if_neg c,if_neg c]
   obtain ⟨p,q,p1,q1,hpq,a,b⟩:=h.ends (by omega)
   refine ⟨p,q+1,h.nJ p1 a.1 a.2,by rw [h.nJ q1 b.1 b.2];rfl,by omega,by omega,fun i hi=>?_,fun _=>⟨by omega,a.1,a.2,?_⟩⟩
   · rw [h.seen p1 q1 a b hi];omega
   · by_cases d:q+1=l.length
     · exact .inr d
     · left
       have:=h.mono (i:=q+1) (j:=l.length) (by omega) (by omega)
       rw [kF] at this
       unfold qV at b
       split at b <;> omega
section
variable {r:Int} {l:List En}
theorem U0 (L:LG r l) (a n:Nat) (h:a+n≤l.length):∀ q ∈ dL (ak r) l a n,0≤q.t∧q.t≤4611686018427387904:=by
 intro q hq
 unfold dL at hq
 simp only [List.mem_map,List.mem_range] at hq
 obtain ⟨k,hk,rfl⟩:=hq
 rw [gW (by omega)]
 have h1:=L.z.rng (a+k)
 have h2:=L.z.t
 exact ⟨h1.1,by simp only;omega⟩
def hdR (row:Nat→Rw) (ks:List Kd) (l:List En) (s:Int):Rw:=if 0≤hrA ks l s then ⟨(row (hrA ks l s).toNat).k,plA ks l s (hrA ks l s).toNat,(row (hrA ks l s).toNat).s,(row (hrA ks l s).toNat).n⟩ else ⟨0,0,0,zN⟩
theorem G7 (H:xZ C) (L:LG r l) (f:Bool) (s v:Int) (hp:Vp l s v) (a b:Nat) (ha:yx l s v=a) (hb:yA l s v=b) (hab:a≤b) (hbl:b≤l.length) :
 FnW C 125 [aR (ak r) true 12,aL l f,.int .i64 s,.int .i64 v] =
  some (.tup [.agg (eSc ⟨s,slQ s (hrA (ak r) l s) (dL (ak r) l a (b - a)) a,true,decide (0≤hrA (ak r) l s),hdR (rowP (ak r) l) (ak r) l s⟩),.int .i64 0]):=by
 have hl:=L.hl
 have hv0:=hp.v0
 have hs0:0≤s∧s≤4611686018427387904:=by
  have h1:=hp.s0
  have h2:=hp.t
  have h3:=hp.nn
  unfold jc at h1;split at h1 <;> omega
 have h1:=xI H.toDL (ak r) true 12 (CS r) l f (by omega) L.en
 rw [L.ck] at h1
 have h2:=lW H.tofU l f (by omega) (fun x hx=>by have:=(L.en x hx).s;omega) s v (by omega) (by omega)
 rw [abk hp,if_neg (by simp),ha,hb] at h2
 have h3:=Vq H.toDy (ak r) true 12 l f s hs0 L.z L.t
 have h4:=rows_ok H.toIl L f a b hab hbl
 have hql:=xB (ak r) l a (b - a)
 have k:=fun p h=>Yz H (dL (ak r) l a (b - a)) (by omega) s (hrA (ak r) l s) hs0 (U0 L a (b - a) (by omega)) a (by omega) p h (b - a) 0 (by omega)
 have hbd:=Ht (ak r) l s l.length 0 (-1) (by simp) (by omega)
 change -1≤hrA (ak r) l s∧hrA (ak r) l s < l.length at hbd
 unfold hdR
 by_cases c:0≤hrA (ak r) l s
 · obtain ⟨h,hh⟩:∃ h:Nat,hrA (ak r) l s=h:=⟨(hrA (ak r) l s).toNat,by omega⟩
   have h5:=rows_ok H.toIl L f h (h+1) (by omega) (by omega)
   have e5:dL (ak r) l h (h+1 - h)=[rowP (ak r) l h]:=by rw [show h+1 - h=1 by omega];rfl
   rw [e5] at h5
   rw [if_pos c] at h3 ⊢
   rw [hh] at h3 k ⊢
   have hd:decide (0≤(h:Int))=true:=by simp
   rw [hd]
   rw [show (h:Int).toNat=h from rfl] at h3 ⊢
   have k:=k true ⟨(rowP (ak r) l h).k,plA (ak r) l s h,(rowP (ak r) l h).s,(rowP (ak r) l h).n⟩
   generalize rowP (ak r) l h=R at *
   generalize plA (ak r) l s h=P at *
   generalize dL (ak r) l a (b - a)=Q at *
   generalize ak r=ks at *
   have hh1:(h:Int)+1=((h+1:Nat):Int):=by omega
   rw [aF H.f125 rfl]
   simp only [kJ] at k
   try simp at k
   simp at h5
   simp (disch:=omega) [V8,h1,h2,h3,h4,h5,k,aI,H.inl,aB,H.pp,ppB]
   done
 · have hm:hrA (ak r) l s=-1:=by omega
   rw [if_neg c] at h3 ⊢
   rw [hm] at h3 k ⊢
   have hd:decide (0≤(-1:Int))=false:=rfl
   rw [hd]
   have k:=k false ⟨0,0,0,zN⟩
   generalize dL (ak r) l a (b - a)=Q at *
   generalize ak r=ks at *
   rw [aF H.f125 rfl]
   simp only [kJ] at k
   try simp [zN] at k
   simp (disch:=omega) [V8,h1,h2,h3,h4,k,zN,aI,H.inl,aB,H.pp,ppB]
   done
theorem Ye (H:xZ C) (L:LG r l) (f:Bool):FnW C 259 [aR (ak r) true 12,aL l f]=some (.tup [.ro 9 ((dL (ak r) l 0 l.length).map eRw) true,.int .i64 0]):=by
 have hl:=L.hl
 have h1:=xI H.toDL (ak r) true 12 (CS r) l f (by omega) L.en
 rw [L.ck] at h1
 have h4:=rows_ok H.toIl L f 0 l.length (by omega) (by omega)
 rw [Nat.sub_zero] at h4
 generalize dL (ak r) l 0 l.length=Q at *
 generalize ak r=ks at *
 rw [aF H.f259 rfl]
 simp at h4
 simp (disch:=omega) [adA,h1,h4,H.inl,aB,H.pp,ppB]
end
end Go.D
end
section
namespace Go.D
open Go Go.Pav Go.Pw P
attribute [-simp] List.getElem_cons_drop
variable {C:aG}
def srF (row:Nat→Rw) (l:List En) (s v at_:Int):Nat→Nat→List Rw
 | 0,_=>[]
 | n+1,i=>if (i:Int)≠at_∧(top l i < s+v∧s < top l (i+1)) then ⟨(row i).k,(row i).t - s,(row i).s,(row i).n⟩::srF row l s v at_ n (i+1) else srF row l s v at_ n (i+1)
section
variable {r:Int} {l:List En}
theorem ahZ (H:xZ C) (L:LG r l) (f:Bool) (s v:Int) (hp:Vp l s v) (hs0:0≤s∧s≤4611686018427387904):∀ m i,m+i=l.length→∀ G:List Rw,G≠[]→G.length≤i →
 ji C ⟨[(11,.int .i64 i),(10,.int .i64 (hrA (ak r) l s)),(9,.ptr 0 0 0),(8,.ptr 2 0 0),(4,.ptr 3 0 0),(3,.int .i64 v),(2,.int .i64 s),(1,.ro 6 (l.map eEn) f)],[(0,.cells 12 [[.int .i64 s,.sl 1 9 0 G.length G.length false,.bool false,.int .u64 0,.int .i64 0,.int .i64 0,.int .u8 0,.str [],.str [],.ro 2 [] true,.str [],.ro 6 [] true]] true false),(1,.cells 9 (G.map eRw) true true),(2,.cells 12 [[.int .i64 0,.ro 9 [] true,.bool false,.int .u64 0,.int .i64 0,.int .i64 0,.int .u8 0,.str [],.str [],.ro 2 [] true,.str [],.ro 6 [] true]] true true),(3,.cells 2 [[.ro 9 ((ak r).map eKd) true,.int .i64 12]] true true)],4⟩=some (.agg (eSc ⟨s,G++srF (eY (ak r) l) l s v (hrA (ak r) l s) m i,false,decide (0≤hrA (ak r) l s),hdR (eY (ak r) l) (ak r) l s⟩)):=by
 have hl:=L.hl
 have hn:=L.z.n
 have hbd:=Ht (ak r) l s l.length 0 (-1) (by simp) (by omega)
 change -1≤hrA (ak r) l s∧hrA (ak r) l s < l.length at hbd
 intro m
 induction m with
 | zero =>
  intro i hi G hG hGl
  have h3:¬ i < l.length:=by omega
  have e2:List.take G.length (List.map eRw G)=List.map eRw G:=List.take_of_length_le (by simp)
  rw [srF,List.append_nil,hdR]
  by_cases c:0≤hrA (ak r) l s
  · obtain ⟨h,hh⟩:∃ h:Nat,hrA (ak r) l s=h:=⟨(hrA (ak r) l s).toNat,by omega⟩
    have r1:=Fa H.toIl L f h (by omega)
    have r2:=P9 H.toDy (ak r) true 12 l f s hs0 L.z L.t h (by omega)
    rw [if_pos c]
    rw [hh] at c ⊢
    have hd:decide (0≤(h:Int))=true:=by simp
    rw [hd]
    rw [show (h:Int).toNat=h from rfl]
    generalize eY (ak r) l h=R at *
    generalize plA (ak r) l s h=P at *
    generalize ak r=ks at *
    simp only [ji];rw [aj jl.eq_1]
    simp at r1
    simp (disch:=omega) [aj vM.eq_1,h3,e2,r1,r2,H.inl,aB,H.pp,ppB]
  · have hm:hrA (ak r) l s=-1:=by omega
    rw [if_neg c]
    rw [hm]
    have hd:decide (0≤(-1:Int))=false:=rfl
    rw [hd]
    generalize ak r=ks at *
    simp only [ji];rw [aj jl.eq_1]
    simp (disch:=omega) [aj vM.eq_1,h3,e2,zN,H.inl,aB,H.pp,ppB]
 | succ m ih =>
  intro i hi G hG hGl
  have h1:i < l.length:=by omega
  have hfit:(G.length+1) * 129≤35184372088832:=by omega
  have r1:=Fa H.toIl L f i h1
  have r2:=FP H.tofU l f s v hp i h1
  have hrt:0≤(eY (ak r) l i).t∧(eY (ak r) l i).t≤4611686018427387904:=by
   rw [qJ h1]
   have q1:=L.z.rng i
   have q2:=L.z.t
   exact ⟨q1.1,by simp only;omega⟩
  rw [srF]
  by_cases c:(i:Int)=hrA (ak r) l s
  · rw [if_neg (by rintro ⟨q,_⟩;exact q c)]
    have this:=ih (i+1) (by omega) G hG (by omega)
    generalize srF (eY (ak r) l) l s v (hrA (ak r) l s) m (i+1)=S at *
    generalize hdR (eY (ak r) l) (ak r) l s=D at *
    rw [← c] at this ⊢
    generalize ak r=ks at *
    simp only [ji] at this ⊢;rw [aj jl.eq_1]
    simp at this
    simp (disch:=omega) [h1,aI,H.inl,aB,H.pp,ppB,this]
  · by_cases d:top l i < s+v∧s < top l (i+1)
    · rw [if_pos ⟨c,d⟩]
      rw [if_pos d] at r2
      have this:=ih (i+1) (by omega) (G++[⟨(eY (ak r) l i).k,(eY (ak r) l i).t - s,(eY (ak r) l i).s,(eY (ak r) l i).n⟩]) (by simp) (by simp;omega)
      rw [List.append_assoc] at this
      generalize srF (eY (ak r) l) l s v (hrA (ak r) l s) m (i+1)=S at *
      generalize hdR (eY (ak r) l) (ak r) l s=D at *
      generalize eY (ak r) l i=R at *
      generalize hrA (ak r) l s=A at *
      generalize ak r=ks at *
      simp only [ji] at this ⊢;rw [aj jl.eq_1]
      simp at this r1
      simp (disch:=omega) [h1,c,r1,r2,hfit,aI,H.inl,aB,H.pp,ppB,this]
    · rw [if_neg (by rintro ⟨_,q⟩;exact d q)]
      rw [if_neg d] at r2
      have this:=ih (i+1) (by omega) G hG (by omega)
      generalize srF (eY (ak r) l) l s v (hrA (ak r) l s) m (i+1)=S at *
      generalize hdR (eY (ak r) l) (ak r) l s=D at *
      generalize hrA (ak r) l s=A at *
      generalize ak r=ks at *
      simp only [ji] at this ⊢;rw [aj jl.eq_1]
      simp at this
      simp (disch:=omega) [h1,c,r2,aI,H.inl,aB,H.pp,ppB,this]
theorem adW (H:xZ C) (L:LG r l) (f:Bool) (s v:Int) (hp:Vp l s v) (hs0:0≤s∧s≤4611686018427387904):∀ m i,m+i=l.length →
 ji C ⟨[(11,.int .i64 i),(10,.int .i64 (hrA (ak r) l s)),(9,.ptr 0 0 0),(8,.ptr 1 0 0),(4,.ptr 2 0 0),(3,.int .i64 v),(2,.int .i64 s),(1,.ro 6 (l.map eEn) f)],[(0,.cells 12 [[.int .i64 s,.ro 9 [] true,.bool false,.int .u64 0,.int .i64 0,.int .i64 0,.int .u8 0,.str [],.str [],.ro 2 [] true,.str [],.ro 6 [] true]] true true),(1,.cells 12 [[.int .i64 0,.ro 9 [] true,.bool false,.int .u64 0,.int .i64 0,.int .i64 0,.int .u8 0,.str [],.str [],.ro 2 [] true,.str [],.ro 6 [] true]] true true),(2,.cells 2 [[.ro 9 ((ak r).map eKd) true,.int .i64 12]] true true)],3⟩=some (.agg (eSc ⟨s,srF (eY (ak r) l) l s v (hrA (ak r) l s) m i,(srF (eY (ak r) l) l s v (hrA (ak r) l s) m i).isEmpty,decide (0≤hrA (ak r) l s),hdR (eY (ak r) l) (ak r) l s⟩)):=by
 have hl:=L.hl
 have hn:=L.z.n
 have hbd:=Ht (ak r) l s l.length 0 (-1) (by simp) (by omega)
 change -1≤hrA (ak r) l s∧hrA (ak r) l s < l.length at hbd
 intro m
 induction m with
 | zero =>
  intro i hi
  have h3:¬ i < l.length:=by omega
  rw [srF,hdR]
  by_cases c:0≤hrA (ak r) l s
  · obtain ⟨h,hh⟩:∃ h:Nat,hrA (ak r) l s=h:=⟨(hrA (ak r) l s).toNat,by omega⟩
    have r1:=Fa H.toIl L f h (by omega)
    have r2:=P9 H.toDy (ak r) true 12 l f s hs0 L.z L.t h (by omega)
    rw [if_pos c]
    rw [hh] at c ⊢
    have hd:decide (0≤(h:Int))=true:=by simp
    rw [hd]
    rw [show (h:Int).toNat=h from rfl]
    generalize eY (ak r) l h=R at *
    generalize plA (ak r) l s h=P at *
    generalize ak r=ks at *
    simp only [ji];rw [aj jl.eq_1]
    simp at r1
    simp (disch:=omega) [aj vM.eq_1,h3,r1,r2,H.inl,aB,H.pp,ppB]
  · have hm:hrA (ak r) l s=-1:=by omega
    rw [if_neg c]
    rw [hm]
    have hd:decide (0≤(-1:Int))=false:=rfl
    rw [hd]
    generalize ak r=ks at *
    simp only [ji];rw [aj jl.eq_1]
    simp (disch:=omega) [aj vM.eq_1,h3,zN,H.inl,aB,H.pp,ppB]
 | succ m ih =>
  intro i hi
  have h1:i < l.length:=by omega
  have r1:=Fa H.toIl L f i h1
  have r2:=FP H.tofU l f s v hp i h1
  have hrt:0≤(eY (ak r) l i).t∧(eY (ak r) l i).t≤4611686018427387904:=by
   rw [qJ h1]
   have q1:=L.z.rng i
   have q2:=L.z.t
   exact ⟨q1.1,by simp only;omega⟩
  rw [srF]
  by_cases c:(i:Int)=hrA (ak r) l s
  · rw [if_neg (by rintro ⟨q,_⟩;exact q c)]
    have this:=ih (i+1) (by omega)
    generalize srF (eY (ak r) l) l s v (hrA (ak r) l s) m (i+1)=S at *
    generalize hdR (eY (ak r) l) (ak r) l s=D at *
    rw [← c] at this ⊢
    generalize ak r=ks at *
    simp only [ji] at this ⊢;rw [aj jl.eq_1]
    simp at this
    simp (disch:=omega) [h1,aI,H.inl,aB,H.pp,ppB,this]
  · by_cases d:top l i < s+v∧s < top l (i+1)
    · rw [if_pos ⟨c,d⟩]
      rw [if_pos d] at r2
      have this:=ahZ H L f s v hp hs0 m (i+1) (by omega) [⟨(eY (ak r) l i).k,(eY (ak r) l i).t - s,(eY (ak r) l i).s,(eY (ak r) l i).n⟩] (by simp) (by simp)
      generalize srF (eY (ak r) l) l s v (hrA (ak r) l s) m (i+1)=S at *
      generalize hdR (eY (ak r) l) (ak r) l s=D at *
      generalize eY (ak r) l i=R at *
      generalize hrA (ak r) l s=A at *
      generalize ak r=ks at *
      simp only [ji] at this ⊢;rw [aj jl.eq_1]
      simp at this r1
      simp (disch:=omega) [h1,c,r1,r2,aI,H.inl,aB,H.pp,ppB,this]
    · rw [if_neg (by rintro ⟨_,q⟩;exact d q)]
      rw [if_neg d] at r2
      have this:=ih (i+1) (by omega)
      generalize srF (eY (ak r) l) l s v (hrA (ak r) l s) m (i+1)=S at *
      generalize hdR (eY (ak r) l) (ak r) l s=D at *
      generalize hrA (ak r) l s=A at *
      generalize ak r=ks at *
      simp only [ji] at this ⊢;rw [aj jl.eq_1]
      simp at this
      simp (disch:=omega) [h1,c,r2,aI,H.inl,aB,H.pp,ppB,this]
end
end Go.D
end
section
namespace Go.D
open Go Go.Pav Go.Pw P
attribute [-simp] List.getElem_cons_drop
variable {C:aG}
section
variable {r:Int} {l:List En}
theorem Vp.sb {s v:Int} (hp:Vp l s v):0≤s∧s≤4611686018427387904:=by
 have h1:=hp.s0
 have h0:=hp.v0
 have h2:=hp.t
 have h3:=hp.nn
 unfold jc at h1;split at h1 <;> omega
def tK (r:Int) (l:List En) (s:Int) (a b:Nat):Sc:=⟨s,slQ s (hrA (ak r) l s) (dL (ak r) l a (b - a)) a,true,decide (0≤hrA (ak r) l s),hdR (rowP (ak r) l) (ak r) l s⟩
def Wx (r:Int) (l:List En) (s v:Int):Sc:=⟨s,srF (eY (ak r) l) l s v (hrA (ak r) l s) l.length 0,(srF (eY (ak r) l) l s v (hrA (ak r) l s) l.length 0).isEmpty,decide (0≤hrA (ak r) l s),hdR (eY (ak r) l) (ak r) l s⟩
theorem WZ (H:xZ C) (L:LG r l) (f:Bool) (s v:Int) (hp:Vp l s v) :
 FnW C 257 [aR (ak r) true 12,.ro 6 (l.map eEn) f,.int .i64 s,.int .i64 v]=some (.agg (eSc (Wx r l s v))):=by
 have hl:=L.hl
 have h1:=Y5 H.toDy (ak r) true 12 l f s L.z L.t
 have k:=adW H L f s v hp hp.sb l.length 0 (by simp)
 unfold Wx
 generalize srF (eY (ak r) l) l s v (hrA (ak r) l s) l.length 0=S at *
 generalize hdR (eY (ak r) l) (ak r) l s=D at *
 generalize hrA (ak r) l s=A at *
 generalize ak r=ks at *
 rw [aF H.f257 rfl]
 simp only [ji] at k
 try simp at k
 simp (disch:=omega) [afu,h1,k,aI,H.inl,aB,H.pp,ppB]
theorem RU (ks:List Kd) (l:List En) (i m:Nat):dL ks l i (m+1)=rowP ks l i::dL ks l (i+1) m:=by
 unfold dL
 rw [List.range_succ_eq_map,List.map_cons,List.map_map]
 simp only [Nat.add_zero,List.cons.injEq,true_and]
 apply List.map_congr_left
 intro k _
 simp only [Function.comp]
 congr 1
 omega
theorem YE (L:LG r l) {i:Nat} (h:i < l.length) (t:Int):oP ⟨(rowP (ak r) l i).k,t,(rowP (ak r) l i).s,(rowP (ak r) l i).n⟩ ⟨(eY (ak r) l i).k,t,(eY (ak r) l i).s,(eY (ak r) l i).n⟩=true:=by
 rw [gW h,qJ h]
 unfold oP
 simp only [L.eqT (List.getElem_mem h)]
 simp
theorem agQ (L:LG r l) {i:Nat} (h:i < l.length):oP (rowP (ak r) l i) (eY (ak r) l i)=true:=by
 have:=YE L h (top l i)
 rw [gW h,qJ h] at *
 exact this
theorem aap (L:LG r l) {i:Nat} (h:i < l.length):uH (rowP (ak r) l i).n:=by
 rw [gW h];exact L.am2 (List.getElem_mem h)
theorem zJ (a:Rw):oP a a=true:=by unfold oP;rw [Yh _ _ rfl];simp
theorem Ph:∀ a:List Rw,kH a a=true
 | []=>rfl
 | x::r=>by rw [kH,zJ,Ph r];rfl
theorem OJ (a:Sc):Qp a a=true:=by unfold Qp;rw [zJ,Ph];simp
theorem ahz {row:Nat→Rw} {s v at_:Int} {a b:Nat} (hv:∀ i,i < l.length→((top l i < s+v∧s < top l (i+1))↔(a≤i∧i < b))):∀ n i,n+i=l.length→b≤i→srF row l s v at_ n i=[]:=by
 intro n
 induction n with
 | zero=>intro i _ _;rfl
 | succ n ih =>
  intro i hi h
  rw [srF,if_neg (by rintro ⟨_,q⟩;have:=(hv i (by omega)).1 q;omega)]
  exact ih (i+1) (by omega) (by omega)
theorem aeC {row:Nat→Rw} {s v at_:Int} {a b:Nat} (hv:∀ i,i < l.length→((top l i < s+v∧s < top l (i+1))↔(a≤i∧i < b))) (hal:a≤l.length):∀ n i,n+i=l.length→i≤a→srF row l s v at_ n i=srF row l s v at_ (l.length - a) a:=by
 intro n
 induction n with
 | zero =>
  intro i hi h;have:i=a:=by omega
  subst this;rw [show l.length - i=0 by omega]
 | succ n ih =>
  intro i hi h
  by_cases c:i=a
  · subst c;rw [show l.length - i=n+1 by omega]
  · rw [srF,if_neg (by rintro ⟨_,q⟩;have:=(hv i (by omega)).1 q;omega)]
    exact ih (i+1) (by omega) (by omega)
theorem akk (L:LG r l) {s v at_:Int} {a b:Nat} (hbl:b≤l.length) (hv:∀ i,i < l.length→((top l i < s+v∧s < top l (i+1))↔(a≤i∧i < b))):∀ m i,i+m=b→a≤i →
 kH (slQ s at_ (dL (ak r) l i m) i) (srF (eY (ak r) l) l s v at_ (l.length - i) i)=true:=by
 intro m
 induction m with
 | zero =>
  intro i hi ha
  rw [ahz hv _ i (by omega) (by omega)]
  rfl
 | succ m ih =>
  intro i hi ha
  have h1:=ih (i+1) (by omega) (by omega)
  rw [RU,slQ,show l.length - i=(l.length - (i+1))+1 by omega,srF]
  by_cases c:(i:Int)=at_
  · rw [if_pos c,if_neg (by rintro ⟨q,_⟩;exact q c)]
    exact h1
  · rw [if_neg c,if_pos ⟨c,(hv i (by omega)).2 (by omega)⟩,kH,h1]
    have e:(rowP (ak r) l i).t=(eY (ak r) l i).t:=by rw [gW (by omega),qJ (by omega)]
    rw [e,YE L (by omega)]
    rfl
theorem LJ (ks:List Kd) (l:List En) (s:Int):-1≤hrA ks l s∧hrA ks l s < l.length:=Ht ks l s l.length 0 (-1) (by simp) (by omega)
theorem aj9 (L:LG r l) (s:Int):oP (hdR (rowP (ak r) l) (ak r) l s) (hdR (eY (ak r) l) (ak r) l s)=true:=by
 have hb:=LJ (ak r) l s
 unfold hdR
 by_cases c:0≤hrA (ak r) l s
 · rw [if_pos c,if_pos c]
   exact YE L (by omega) _
 · rw [if_neg c,if_neg c]
   exact zJ _
theorem agW (L:LG r l) {s v:Int} {a b:Nat} (hab:a≤b) (hbl:b≤l.length) (hv:∀ i,i < l.length→((top l i < s+v∧s < top l (i+1))↔(a≤i∧i < b))):Qp (tK r l s a b) (Wx r l s v)=true:=by
 have h:=akk L (at_:=hrA (ak r) l s) hbl hv (b - a) a (by omega) (by omega)
 unfold Qp tK Wx
 simp only
 rw [aj9 L,aeC hv (by omega) l.length 0 (by simp) (by omega),h]
 simp
theorem aaA:uH zN:=.mk _ (by simp [zN]) (by simp [zN]) (by simp [zN])
theorem aaf {s at_:Int}:∀ (Q:List Rw) (i:Nat),(∀ q ∈ Q,uH q.n)→(∀ q ∈ slQ s at_ Q i,uH q.n)∧(slQ s at_ Q i).length≤Q.length
 | [],i,h=>⟨fun q hq=>by simp [slQ] at hq,by simp [slQ]⟩
 | x::r,i,h=>by
  have h1:=aaf (s:=s) (at_:=at_) r (i+1) fun q hq=>h q (by simp [hq])
  rw [slQ]
  split
  · exact ⟨h1.1,by simp only [List.length_cons];omega⟩
  · refine ⟨fun q hq=>?_,by simp only [List.length_cons];omega⟩
    rcases List.mem_cons.1 hq with e | e
    · subst e;exact h x (by simp)
    · exact h1.1 q e
theorem O4 (L:LG r l) (a n:Nat) (h:a+n≤l.length):∀ q ∈ dL (ak r) l a n,uH q.n:=by
 intro q hq
 unfold dL at hq
 simp only [List.mem_map,List.mem_range] at hq
 obtain ⟨k,hk,rfl⟩:=hq
 exact aap L (by omega)
theorem ahF (L:LG r l) (s:Int) {a b:Nat} (hab:a≤b) (hbl:b≤l.length):adq (tK r l s a b):=by
 have hl:=L.hl
 have h1:=aaf (s:=s) (at_:=hrA (ak r) l s) _ a (O4 L a (b - a) (by omega))
 rw [xB] at h1
 have hb:=LJ (ak r) l s
 refine ⟨by unfold tK;simp only;omega,h1.1,?_⟩
 unfold tK hdR
 simp only
 split
 · exact aap L (by omega)
 · exact aaA
theorem ZW (ks:List Kd) (l:List En) (s:Int):∀ (n i:Nat) (a:Int),n+i=l.length→a < i→∀ j:Nat,i≤j→j < l.length→stk ks l j=true→top l j≤s→(j:Int)≤hrF ks l s n i a:=by
 intro n
 induction n with
 | zero=>intro i a hi _ j hj hjl;omega
 | succ n ih =>
  intro i a hi ha j hj hjl h1 h2
  rw [hrF]
  by_cases c:j=i
  · subst c
    rw [if_pos ⟨h1,h2⟩]
    have key:∀ (n i:Nat) (a:Int),n+i=l.length→a < i→a≤hrF ks l s n i a:=by
     intro n
     induction n with
     | zero=>intro i a _ _;rw [hrF];omega
     | succ n ihn =>
      intro i a hi ha
      rw [hrF]
      split
      · have:=ihn (i+1) i (by omega) (by omega);omega
      · exact ihn (i+1) a (by omega) (by omega)
    exact key n (j+1) j (by omega) (by omega)
  · refine ih (i+1) _ (by omega) ?_ j (by omega) hjl h1 h2
    split <;> omega
theorem ahg (ks:List Kd) (l:List En) (s z:Int) (hz:1≤z):∀ (n j:Nat),n+j=l.length→(∀ i,j≤i→i < l.length→stk ks l i=true→s < top l i)→-z < plF ks l s z n j∧plF ks l s z n j≤0:=by
 intro n
 induction n with
 | zero=>intro j _ _;rw [plF];omega
 | succ n ih =>
  intro j hj h
  rw [plF]
  split
  · have:=h j (by omega) (by omega) ‹_›
    split <;> omega
  · exact ih (j+1) (by omega) fun i h1 h2=>h i (by omega) h2
theorem aix (L:LG r l) (s:Int) (h:Nat) (hh:hrA (ak r) l s=h):-szI l h < plA (ak r) l s h∧plA (ak r) l s h≤0:=by
 have hb:=LJ (ak r) l s
 have hhl:h < l.length:=by omega
 have h1:=L.z.s _ (List.getElem_mem hhl)
 unfold plA
 refine ahg _ _ _ _ (by rw [EG hhl];omega) _ _ (by omega) fun i h1 h2 h3=>?_
 by_cases c:s < top l i
 · exact c
 · have:=ZW (ak r) l s l.length 0 (-1) (by simp) (by omega) i (by omega) h2 h3 (by omega)
   change (i:Int)≤hrA (ak r) l s at this
   omega
end
end Go.D
end
section
namespace Go.D
open Go Go.Pav Go.Pw P
attribute [-simp] List.getElem_cons_drop
variable {C:aG}
structure Uz (C:aG):Prop extends xZ C where
 f124:C.fns.get 124=some aeE
theorem aj8 (H:Uz C) (hlives:FnW C 128 []=some (.bool true)) (G:Sc) (F:List Rw) (hF:F.length≤1024) (s at_:Int) (b:Nat) (hb:b≤F.length) (hs0:0≤s∧s≤4611686018427387904)
 (hFt:∀ q ∈ F,0≤q.t∧q.t≤4611686018427387904) (hin:∀ q ∈ F,uH q.n) (hkey:∀ (i:Nat) (h:i < F.length),(G.p=true∧F[i].k=G.h.k)↔(i:Int)=at_)
 (hhs:-9223372036854775807≤G.h.s∧G.h.s≤4611686018427387904) (hpin:G.p=true→G.h.t≤0∧-G.h.s < G.h.t):∀ m i,m+i=b→∀ k:Nat,k≤G.r.length→k≤i→G.r.drop k=slQ s at_ ((F.take b).drop i) i →
 zk C ⟨[(17,.int .i64 i),(16,.int .i64 k),(15,.int .i64 b),(11,.ro 9 (F.map eRw) true),(9,.ptr 0 0 0),(7,.int .i64 s)],[(0,.cells 12 [eSc G] true true)],1⟩=some (.bool true):=by
 intro m
 induction m with
 | zero =>
  intro i hi k hk hki hd
  have h3:¬ i < b:=by omega
  have e1:(F.take b).drop i=[]:=List.drop_eq_nil_of_le (by simp;omega)
  rw [e1,slQ] at hd
  have hkl:k=G.r.length:=by
   have:=List.drop_eq_nil_iff.1 hd
   omega
  simp only [zk];rw [aj vZ.eq_1]
  cases c:G.p
  · simp (disch:=omega) [aj ER.eq_1,h3,hkl,c,hlives,aI,H.inl,aB,H.pp,ppB]
  · have hq:=hpin c
    simp (disch:=omega) [aj ER.eq_1,h3,hkl,c,hq,hlives,aI,H.inl,aB,H.pp,ppB]
 | succ m ih =>
  intro i hi k hk hki hd
  have h1:i < b:=by omega
  have h1':i < F.length:=by omega
  have hbt:=hFt _ (List.getElem_mem h1')
  have hkk:=hkey i h1'
  have e1:(F.take b).drop i=F[i]::(F.take b).drop (i+1):=by
   rw [drop_cons (by simp;omega:i < (F.take b).length)]
   simp
  rw [e1,slQ] at hd
  by_cases c:(i:Int)=at_
  · rw [if_pos c] at hd
    obtain ⟨k1,k2⟩:=hkk.2 c
    have this:=ih (i+1) (by omega) k hk (by omega) hd
    simp only [zk] at this ⊢;rw [aj vZ.eq_1]
    simp [k1] at this
    simp (disch:=omega) [h1,h1',k1,k2,aI,H.inl,aB,H.pp,ppB,this]
  · rw [if_neg c] at hd
    have hkl:k < G.r.length:=by
     by_cases d:k < G.r.length
     · exact d
     · rw [List.drop_eq_nil_of_le (by omega)] at hd;cases hd
    rw [drop_cons hkl] at hd
    simp only [List.cons.injEq] at hd
    obtain ⟨d1,d2⟩:=hd
    have this:=ih (i+1) (by omega) (k+1) (by omega) (by omega) d2
    have hs:=rF H.toqg ⟨F[i].k,F[i].t - s,F[i].s,F[i].n⟩ ⟨F[i].k,F[i].t - s,F[i].s,F[i].n⟩ (hin F[i] (List.getElem_mem h1'))
    rw [zJ] at hs
    simp only [zk] at this ⊢;rw [aj vZ.eq_1]
    simp at hs
    by_cases c2:G.p=true
    · simp [c2] at this
      have c3:¬ F[i].k=G.h.k:=fun q=>c (hkk.1 ⟨c2,q⟩)
      simp (disch:=omega) [h1,h1',hkl,d1,c2,c3,hs,aI,H.inl,aB,H.pp,ppB,this]
      done
    · have c2:G.p=false:=by simpa using c2
      simp [c2] at this
      simp (disch:=omega) [h1,h1',hkl,d1,c2,hs,aI,H.inl,aB,H.pp,ppB,this]
      done
section
variable {r:Int} {l:List En}
theorem zO (L:LG r l) {i:Nat} (h:i < (dL (ak r) l 0 l.length).length):(dL (ak r) l 0 l.length)[i]=rowP (ak r) l i:=by
 simp [dL]
theorem aaD (ks:List Kd) (l:List En) {a b:Nat} (hab:a≤b) (hb:b≤l.length):((dL ks l 0 l.length).take b).drop a=dL ks l a (b - a):=by
 apply List.ext_getElem
 · simp [dL];omega
 · intro i h1 h2
   simp [dL]
theorem acs (hn:(jI l).Nodup) {i j:Nat} (hi:i < l.length) (hj:j < l.length) (h:l[i].i.k=l[j].i.k):i=j:=by
 have e:jI l=l.map fun e=>e.i.k:=by
  clear hn h hi hj
  induction l with
  | nil=>rfl
  | cons x r ih=>simp [jI]
 rw [e] at hn
 have key:=List.pairwise_iff_getElem.1 hn
 rcases Nat.lt_trichotomy i j with q | q | q
 · have q1:=key i j (by simpa using hi) (by simpa using hj) q
   rw [List.getElem_map,List.getElem_map] at q1
   exact absurd h q1
 · exact q
 · have q1:=key j i (by simpa using hj) (by simpa using hi) q
   rw [List.getElem_map,List.getElem_map] at q1
   exact absurd h.symm q1
theorem ac0 (H:Uz C) (hlives:FnW C 128 []=some (.bool true)) (L:LG r l) (hn:(jI l).Nodup) (f:Bool) (s v:Int) (hp:Vp l s v) (a b:Nat) (ha:yx l s v=a) (hb:yA l s v=b) (hab:a≤b) (hbl:b≤l.length)
 (hw:0 < l.length→a < b∧top l a≤s∧s < top l (a+1)∧(s+v≤top l b∨b=l.length)):∀ m i,m+i=l.length →
 wL C ⟨[(13,.int .i64 i),(12,.int .i64 (top l i)),(11,.ro 9 ((dL (ak r) l 0 l.length).map eRw) true),(9,.ptr 0 0 0),(8,.int .i64 v),(7,.int .i64 s),(6,.ptr 1 0 0),(5,.ptr 2 0 0)],
  [(0,.cells 12 [eSc (tK r l s a b)] true true),(1,.cells 1 [[.ro 6 (l.map eEn) f]] true true),(2,.cells 2 [[.ro 9 ((ak r).map eKd) true,.int .i64 12]] true true)],3⟩=some (.bool true):=by
 have hl:=L.hl
 have hFl:=xB (ak r) l 0 l.length
 have hz:=L.z
 have hA:=LJ (ak r) l s
 have hG:(tK r l s a b).r=slQ s (hrA (ak r) l s) (dL (ak r) l a (b - a)) a:=rfl
 intro m
 induction m with
 | zero =>
  intro i hi
  have e:i=l.length:=by omega
  subst e
  have h3:¬ l.length < (dL (ak r) l 0 l.length).length:=by omega
  have t1:=Y2 H.toDI l f (by omega) L.en
  rw [hz.tot,← kF] at t1
  have t2:=lW H.tofU l f (by omega) (fun x hx=>by have:=(L.en x hx).s;omega) s v (by have:=hp.sb;omega) (by have:=hp.v0;omega)
  rw [abk hp,if_neg (by simp),ha,hb] at t2
  have hin:=aj8 H hlives (tK r l s a b) (dL (ak r) l 0 l.length) (by omega) s (hrA (ak r) l s) b (by omega) hp.sb (U0 L 0 l.length (by omega)) (O4 L 0 l.length (by omega)) (by
   intro i hi
   rw [zO L,gW (by omega)]
   unfold tK
   simp only [decide_eq_true_eq]
   constructor
   · rintro ⟨q1,q2⟩
     unfold hdR at q2
     rw [if_pos q1,gW (by omega)] at q2
     have:=acs hn (by omega) (by omega) q2
     omega
   · intro q
     have q1:0≤hrA (ak r) l s:=by omega
     refine ⟨q1,?_⟩
     unfold hdR
     rw [if_pos q1,← q,gW (by simpa using by omega)]
     rfl) (by
   unfold tK hdR
   simp only
   split
   · rw [gW (by omega)]
     have:=hz.s _ (List.getElem_mem (by omega:(hrA (ak r) l s).toNat < l.length))
     simp only;omega
   · simp) (by
   unfold tK
   simp only [decide_eq_true_eq]
   intro q1
   unfold hdR
   rw [if_pos q1]
   have hq:(hrA (ak r) l s).toNat < l.length:=by omega
   have:=aix L s (hrA (ak r) l s).toNat (by omega)
   rw [EG hq] at this
   rw [gW hq]
   exact ⟨this.2,this.1⟩) (b - a) a (by omega) 0 (by omega) (by omega) (by rw [aaD _ _ hab hbl,hG];rfl)
  simp only [zk] at hin
  generalize tK r l s a b=G at *
  by_cases c0:l.length=0
  · have a0:a=0:=by omega
    have b0:b=0:=by omega
    generalize dL (ak r) l 0 l.length=F at *
    have hF0:F=[]:=List.eq_nil_of_length_eq_zero (by omega)
    subst a0;subst b0;subst hF0
    try simp at hin
    simp only [wL];rw [aj sK.eq_1]
    simp (disch:=omega) [aj yR.eq_1,c0,t1,t2,hin,aI,H.inl,aB,H.pp,ppB]
    done
  · obtain ⟨w1,w2,w3,w4⟩:=hw (by omega)
    obtain ⟨F,hFe⟩:∃ F,dL (ak r) l 0 l.length=F:=⟨_,rfl⟩
    have f1:∀ h:a < F.length,F[a]=rowP (ak r) l a:=by subst hFe;exact fun h=>zO L h
    have f2:∀ h:b - 1 < F.length,F[b - 1]=rowP (ak r) l (b - 1):=by subst hFe;exact fun h=>zO L h
    rw [gW (by omega)] at f1 f2
    rw [hFe] at hFl h3 hin ⊢
    obtain ⟨c,rfl⟩:∃ c,b=c+1:=⟨b - 1,by omega⟩
    have hc1:c < F.length:=by omega
    have ha1:a < F.length:=by omega
    have ec:(((c+1:Nat):Int) - 1)=(c:Int):=by omega
    have f1:=f1 ha1
    have f2:F[c]=⟨l[c].i.k,top l c,l[c].s,trP (ak r) l[c]⟩:=f2 hc1
    have g1:=qU (l:=l) (i:=a) (by omega)
    have g2:=qU (l:=l) (i:=c) (by omega)
    have b1:=hz.rng a
    have b2:=hz.rng c
    have b3:=hz.rng (a+1)
    have b4:=hz.rng (c+1)
    have b5:=hz.t
    have hv0:=hp.v0
    have hs0:=hp.sb
    have hsm:=hp.s0
    rw [kF] at t1
    have hsl:sm l ≥ v→s+v≤sm l:=by
     intro q;unfold jc at hsm;split at hsm <;> omega
    have w5:sm l ≥ v→s+v≤top l (c+1):=by
     intro q
     rcases w4 with w | w
     · exact w
     · rw [w,kF];exact hsl q
    rw [kF]
    generalize trP (ak r) l[a]=T1 at *
    generalize trP (ak r) l[c]=T2 at *
    generalize l[a].s=z1 at *
    generalize l[c].s=z2 at *
    generalize top l a=t3 at *
    generalize top l c=t4 at *
    generalize sm l=E at *
    have x1:¬ s < t3:=by omega
    have x2:¬ t3+z1≤s:=by omega
    have x3:(a:Int) < (c:Int)+1:=by omega
    try simp at hin
    by_cases cv:v≤E
    · have x4:¬ t4+z2 < s+v:=by have:=w5 cv;omega
      simp only [wL];rw [aj sK.eq_1]
      simp (disch:=omega) [aj yR.eq_1,hFl,t1,t2,f1,f2,ec,x1,x2,x3,x4,cv,hin,aI,H.inl,aB,H.pp,ppB]
      done
    · simp only [wL];rw [aj sK.eq_1]
      simp (disch:=omega) [aj yR.eq_1,hFl,t1,t2,f1,f2,ec,x1,x2,x3,cv,hin,aI,H.inl,aB,H.pp,ppB]
      done
 | succ m ih =>
  intro i hi
  have h1:i < l.length:=by omega
  have this:=ih (i+1) (by omega)
  obtain ⟨F,hFe⟩:∃ F,dL (ak r) l 0 l.length=F:=⟨_,rfl⟩
  have f1:∀ h:i < F.length,F[i]=rowP (ak r) l i:=by subst hFe;exact fun h=>zO L h
  have r1:=Fa H.toIl L f i h1
  have r2:=rF H.toqg (rowP (ak r) l i) (eY (ak r) l i) (aap L h1)
  rw [agQ L h1] at r2
  have e1:=gW (ks:=ak r) h1
  have hb1:=hz.rng i
  have hb2:=hz.small i
  have hb3:=hz.small (i+1)
  rw [qU h1] at this hb3
  generalize tK r l s a b=G at *
  rw [hFe] at hFl this ⊢
  generalize eY (ak r) l i=RR at *
  rw [e1] at f1 r2
  generalize trP (ak r) l[i]=T at *
  generalize ak r=ks at *
  simp only [wL] at this ⊢;rw [aj sK.eq_1]
  simp at this r1 r2
  simp (disch:=omega) [h1,hFl,f1,r1,r2,aI,H.inl,aB,H.pp,ppB,this]
  done
end
end Go.D
end
section
namespace Go.D
open Go Go.Pav Go.Pw P
attribute [-simp] List.getElem_cons_drop
variable {C:aG}
theorem abU (H:Uz C) (hone:∀ q:Q4,QIn q→∃ i:It,FnW C 422 [.agg (eQ q)]=some (eIt i)∧Good i) (hlives:FnW C 128 []=some (.bool true))
 (q:List Q4) (qe:Bool) (hq:∀ x ∈ q,QIn x) (z:List Int) (ze:Bool) (hz:∀ s ∈ z,0≤s∧s≤255) (hzl:z.length < 9223372036854775808) (r:Int) (hr:0≤r∧r≤255)
 (y w:Int) (hy:0≤y∧y≤255) (hw:0≤w∧w≤65535) :
 FnW C 124 [.agg [.ro 4 (q.map eQ) qe,.ro 1 (z.map eU8) ze,.int .u8 r],.agg [.int .u8 y,.int .u16 w]]=some (.bool true):=by
 obtain ⟨l,f,hof,hl,hg,hn⟩:=agZ H.touM hone q qe hq z ze hz hzl r hr
 have L:LG r l:=LG.aeb hr hl hg hn
 obtain ⟨s,v,hwo,hp⟩:=ag0 H.toafL l f L.z y w hy hw
 obtain ⟨a,b,ha,hb,hab,hbl,hv,hwn⟩:=hp.aou
 have c1:=G7 H.toxZ L f s v hp a b ha hb hab hbl
 change FnW C 125 _=some (.tup [.agg (eSc (tK r l s a b)),.int .i64 0]) at c1
 have c2:=WZ H.toxZ L f s v hp
 have hin:=ahF L s hab hbl
 have c3:=F5 H.toqg (tK r l s a b) (Wx r l s v) hin
 rw [agW L hab hbl hv,if_pos rfl] at c3
 have c4:=Xv H.toqg (tK r l s a b) (tK r l s a b) hin
 rw [OJ] at c4
 have c5:=Ye H.toxZ L f
 have hFl:=xB (ak r) l 0 l.length
 have hGe:(tK r l s a b).e=true:=rfl
 have k:=ac0 H hlives L hn f s v hp a b ha hb hab hbl hwn l.length 0 (by simp)
 rw [IY] at k
 rw [aF H.f124 rfl]
 generalize tK r l s a b=G at *
 generalize Wx r l s v=G2 at *
 generalize dL (ak r) l 0 l.length=F at *
 generalize ak r=ks at *
 simp only [wL] at k
 try simp [hGe] at k
 simp [hGe] at c1 c3 c4
 simp at c2
 simp (disch:=omega) [aeE,hof,hwo,c1,c2,c3,c4,c5,hFl,hGe,k,aI,H.inl,aB,H.pp,ppB]
structure aaU (C:aG):Prop extends fU C where
 f123:C.fns.get 123=some Xb
theorem acP (H:aaU C) (hlives:FnW C 128 []=some (.bool true)) (l:List En) (e:Bool) (hz:Szd l) (hl:l.length≤40) (x o v:Int) (a1 a2:Int) (hat:atR l x=.tup [.int .i64 a1,.int .i64 a2]) (w f t:Int) (hw:w=vpE l o v)
 (hft:if w≠0 then f=0∧t=0 else f=yx l o v∧t=yA l o v):∀ n i,n+i=l.length+1 →
 qY C ⟨[(16,.int .i64 i),(15,.int .i64 w),(13,.int .i64 t),(12,.int .i64 f),(11,.int .i64 a2),(10,.int .i64 a1),(8,.ro 1 ((tps l).map eI) true),(5,.ptr 0 0 0),(3,.ptr 1 0 0),(1,.int .i64 x)],[(0,.cells 2 [[.int .i64 o,.int .i64 v]] true true),(1,.cells 1 [[.ro 6 (l.map eEn) e]] true true)],2⟩=some (.bool true):=by
 intro n
 induction n with
 | zero =>
  intro i hi
  have h3:¬ (i:Int) < l.length+1:=by omega
  have q1:=aiM H.tofU l e hz x
  have hW:(w=0∧f=yx l o v∧t=yA l o v∧FnW C 255 [.ro 6 (l.map eEn) e,.int .i64 o,.int .i64 v]=some (.tup [.int .i64 (yx l o v),.int .i64 (yA l o v)]))∨(w≠0∧f=0∧t=0):=by
   by_cases c:w=0
   · left
     rw [if_neg (by simpa using c)] at hft
     exact ⟨c,hft.1,hft.2,O9 H.tofU l e o v (af4 (by omega))⟩
   · right
     rw [if_pos c] at hft
     exact ⟨c,hft⟩
  unfold atR at hat
  rw [Ri hz,if_neg (by simp)] at hat
  by_cases c1:x < 0∨sm l≤x
  · rw [if_pos c1] at hat
    rw [hz.acY c1] at q1
    simp only [AV.tup.injEq,List.cons.injEq,AV.int.injEq,and_true,true_and] at hat
    obtain ⟨rfl,rfl⟩:=hat
    rcases hW with ⟨rfl,rfl,rfl,q2⟩ | ⟨c,rfl,rfl⟩
    · simp only [qY];rw [aj pI.eq_1]
      simp (disch:=omega) [aj wB.eq_1,fJ,h3,q1,q2,hlives,H.inl,aB,H.pp,ppB]
    · simp only [qY];rw [aj pI.eq_1]
      simp (disch:=omega) [aj wB.eq_1,fJ,h3,q1,c,hlives,H.inl,aB,H.pp,ppB]
  · rw [if_neg c1] at hat
    obtain ⟨p,p1,p2,p3⟩:=hz.row (by omega:0≤x) (by omega)
    rw [hz.nJ p1 p2 p3] at q1 hat
    simp only [AV.tup.injEq,List.cons.injEq,AV.int.injEq,and_true,true_and] at hat
    obtain ⟨rfl,rfl⟩:=hat
    have h4:¬ (p:Int) < 0:=by omega
    rcases hW with ⟨rfl,rfl,rfl,q2⟩ | ⟨c,rfl,rfl⟩
    · simp only [qY];rw [aj pI.eq_1]
      simp (disch:=omega) [aj wB.eq_1,fJ,h3,h4,q1,q2,hlives,H.inl,aB,H.pp,ppB]
    · simp only [qY];rw [aj pI.eq_1]
      simp (disch:=omega) [aj wB.eq_1,fJ,h3,h4,q1,c,hlives,H.inl,aB,H.pp,ppB]
 | succ n ih =>
  intro i hi
  have h1:i < l.length+1:=by omega
  have h1':(i:Int) < l.length+1:=by omega
  have h2:i < (tps l).length:=by rw [fJ];exact h1
  have this:=ih (i+1) (by omega)
  have q1:=pF H.tofU l e hz i (by omega)
  have q2:=A8 l h2
  simp only [qY] at this ⊢;rw [aj pI.eq_1]
  simp at this
  simp (disch:=omega) [fJ,h1,h1',h2,q1,q2,aI,H.inl,aB,H.pp,ppB,this]
theorem PY (H:aaU C) (hlives:FnW C 128 []=some (.bool true)) (l:List En) (e:Bool) (hll:l.length≤9223372036854775807) (hs:SzB l) (x o v:Int) (hx:-9223372036854775808≤x∧x≤9223372036854775807)
 (ho:-9223372036854775808≤o∧o≤9223372036854775807) (hv:-9223372036854775808≤v∧v≤9223372036854775807) :
 FnW C 123 [aL l e,.int .i64 x,.agg [.int .i64 o,.int .i64 v]]=some (.bool true):=by
 rw [aF H.f123 rfl]
 by_cases c1:l.length≤40
 · have c1':¬ (40:Int) < l.length:=by omega
   have q1:=IQ H.tofU l e (by omega) hs
   have q3:=agm H.tofU l e (by omega) hs x
   have q4:=lW H.tofU l e (by omega) hs o v ho hv
   have q5:=MV H.tofU l e (by omega) hs o v ho hv
   have q6:=oC H.tofU l e (by omega) hs
   have q7:=Dt H.tofU l e (by omega) hs o v ho hv
   by_cases hz0:szE l=0
   · have hz:=yI hz0
     have q2:=Ba H.tofU l e hz
     obtain ⟨a1,a2,hat⟩:∃ a1 a2,atR l x=.tup [.int .i64 a1,.int .i64 a2]:=by
      unfold atR;split
      · exact ⟨_,_,rfl⟩
      · split
        · exact ⟨_,_,rfl⟩
        · exact ⟨_,_,rfl⟩
     obtain ⟨f,t,hvis,hft⟩:∃ f t:Int,FnW C 121 [aL l e,.int .i64 o,.int .i64 v]=some (.tup [.int .i64 f,.int .i64 t,.int .i64 (vpE l o v)])∧(if vpE l o v≠0 then f=0∧t=0 else f=yx l o v∧t=yA l o v):=by
      by_cases c:vpE l o v=0
      · rw [if_neg (by simpa using c)] at q4
        exact ⟨_,_,by rw [q4,c],by rw [if_neg (by simpa using c)];exact ⟨rfl,rfl⟩⟩
      · rw [if_pos c] at q4
        exact ⟨_,_,q4,by rw [if_pos c];exact ⟨rfl,rfl⟩⟩
     have h:=acP H hlives l e hz c1 x o v a1 a2 hat (vpE l o v) f t rfl hft (l.length+1) 0 (by omega)
     rw [hat] at q3
     rw [hz0] at q1 q6
     generalize vpE l o v=W at *
     simp only [qY] at h
     simp at h
     simp (disch:=omega) [Xb,c1,c1',q1,q2,q3,hvis,q5,q6,q7,fJ,aI,h,H.inl,aB,H.pp,ppB]
   · have q2:=PZ H.tofU l e (by omega) hs hz0
     have hw:vpE l o v=szE l:=by unfold vpE;rw [if_pos hz0]
     unfold atR at q3
     rw [if_pos hz0] at q3
     rw [hw] at q4 q5 q7
     rw [if_pos hz0] at q4
     generalize szE l=E at *
     simp (disch:=omega) [Xb,c1,c1',q1,q2,q3,q4,q5,q6,q7,hz0,aI,hlives,H.inl,aB,H.pp,ppB]
 · have c1':(40:Int) < l.length:=by omega
   simp (disch:=omega) [Xb,c1,c1',hlives,H.inl,aB,H.pp,ppB]
abbrev zE (s:Int):En:=⟨⟨0,0,[],[],true⟩,s,false⟩
abbrev e0:En:=zE 4503599627370496
def kl:List En:=List.replicate 1024 e0
theorem nZ:kl.length=1024:=List.length_replicate
theorem ahR (n:Nat) (e:En):sm (List.replicate n e)=n * e.s:=by
 induction n with
 | zero=>simp [sm]
 | succ n ih=>rw [List.replicate_succ,sm,ih,Int.natCast_succ,Int.add_mul];omega
theorem RH {i:Nat} (h:i≤1024):top kl i=i * 4503599627370496:=by
 unfold top kl
 rw [List.take_replicate,ahR,Nat.min_eq_left h]
theorem Us:sm kl=4611686018427387904:=by rw [← kF,nZ,RH (by omega)];rfl
theorem Qw:szE kl=0:=by decide +kernel
theorem PU:SzB kl:=fun x hx=>by
 have:=(yI Qw).s x hx
 omega
theorem Rh {x:Int} (h:4607182418800017408≤x∧x < 4611686018427387904):rowA kl x=1023:=by
 refine (yI Qw).nJ (p:=1023) (by rw [nZ];omega) ?_ ?_
 · rw [RH (by omega)];omega
 · rw [RH (by omega)];omega
theorem akE:atR kl 4611686018427387903=.tup [.int .i64 1023,.int .i64 0]:=by
 unfold atR
 rw [Qw,if_neg (by simp),Us,if_neg (by omega),Rh (by omega)]
theorem ajX:vpE kl 4611686016279904256 2147483648=0:=by
 unfold vpE
 rw [Qw,if_neg (by simp),if_neg (by omega)]
 unfold jc
 rw [Us,if_neg (by omega)]
theorem ajw:vpE kl 4611686016279904257 2147483648=4:=by
 unfold vpE
 rw [Qw,if_neg (by simp),if_neg (by omega)]
 unfold jc
 rw [Us,if_pos (by omega)]
theorem anf:yx kl 4611686016279904256 2147483648=1023:=by
 unfold yx
 rw [if_neg (by rw [nZ];omega),Rh (by omega)]
theorem an6:yA kl 4611686016279904256 2147483648=1024:=by
 unfold yA
 rw [if_neg (by rw [nZ];omega),Us]
 have:qV (4611686016279904256+2147483648) 4611686018427387904 - 1=4611686018427387903:=by decide
 rw [this,Rh (by omega)];rfl
theorem acw:szE (kl++[zE 1])=3:=by decide +kernel
theorem aiF:szE (kl.set 5 (zE 4503599627370497))=13:=by decide +kernel
structure KlS (C:aG) (l:List En):Prop where
 n:l.length=1024
 g:l[5]?=some e0
 a:FnW C 120 [aL l false,.int .i64 4611686018427387903]=some (.tup [.int .i64 1023,.int .i64 0])
 v:FnW C 121 [aL l false,.int .i64 4611686016279904256,.int .i64 2147483648]=some (.tup [.int .i64 1023,.int .i64 1024,.int .i64 0])
 w:FnW C 121 [aL l false,.int .i64 4611686016279904257,.int .i64 2147483648]=some (.tup [.int .i64 0,.int .i64 0,.int .i64 4])
 m:FnW C 122 [aL (l++[zE 1]) false]=some (.int .i64 3)
 s:FnW C 122 [aL (l.set 5 (zE 4503599627370497)) false]=some (.int .i64 13)
theorem ajT (H:fU C):KlS C kl where
 n:=nZ
 g:=by unfold kl;rw [List.getElem?_replicate];rfl
 a:=by rw [agm H kl false (by rw [nZ];omega) PU,akE]
 v:=by rw [lW H kl false (by rw [nZ];omega) PU _ _ (by omega) (by omega),ajX,anf,an6];rfl
 w:=by rw [lW H kl false (by rw [nZ];omega) PU _ _ (by omega) (by omega),ajw];rfl
 m:=by
  rw [oC H _ false (by simp [nZ]) (fun x hx=>?_),acw]
  rcases List.mem_append.1 hx with h | h
  · exact PU x h
  · rw [List.mem_singleton] at h;subst h;simp only;omega
 s:=by
  rw [oC H _ false (by simp [nZ]) (fun x hx=>?_),aiF]
  rcases List.mem_or_eq_of_mem_set hx with h | h
  · exact PU x h
  · subst h;simp only;omega
theorem yY (H:fU C) (l:List En) (e:Bool) (hl:l.length≤1000000) (hs:SzB l) {n:Int} (h:szE l=n):FnW C 122 [aL l e]=some (.int .i64 n):=by
 rw [oC H l e hl hs,h]
structure uy (C:aG):Prop extends Uz C,aaU C where
 f86:C.fns.get 86=some w86
abbrev aiI:Sc:=⟨0,[],true,false,⟨0,0,0,zN⟩⟩
theorem YS (H:uy C):FnW C 125 [aR (ak 0) true 1,aL [] true,.int .i64 0,.int .i64 1]=some (.tup [.agg (eSc aiI),.int .i64 0]):=by
 have hk:ckE (ak 0) 1 []=0:=by decide +kernel
 have hz:Szd []:=⟨by simp,by simp,by simp [sm]⟩
 have h1:=xI H.toDL (ak 0) true 1 (CS 0) [] true (by simp) (by simp)
 rw [hk] at h1
 have h2:=lW H.tofU [] true (by simp) (fun x hx=>by cases hx) 0 1 (by omega) (by omega)
 have e1:vpE [] 0 1=0:=by decide +kernel
 have e2:yx [] 0 1=0:=by decide +kernel
 have e3:yA [] 0 1=0:=by decide +kernel
 rw [e1,if_neg (by simp),e2,e3] at h2
 have h3:=Vq H.toDy (ak 0) true 1 [] true 0 (by omega) hz (by simp)
 have e4:hrA (ak 0) [] 0=-1:=rfl
 rw [e4,if_neg (by omega)] at h3
 have h4:FnW C 263 [aR (ak 0) true 1,aL [] true,.int .i64 0,.int .i64 0]=some (.ro 9 [] true):=by
  rw [aF H.f263 rfl]
  generalize ak 0=ks
  simp (disch:=omega) [XT,H.inl,aB,H.pp,ppB]
 have k:=Yz H.toxZ [] (by simp) 0 (-1) (by omega) (by simp) 0 (by omega) false ⟨0,0,0,zN⟩ 0 0 rfl
 simp only [kJ] at k
 try simp [zN,slQ] at k
 rw [aF H.f125 rfl]
 generalize ak 0=ks at *
 simp only [aR,aL,List.map_nil] at h1 h2 h3 h4
 simp (disch:=omega) [V8,h1,h2,h3,h4,k,zN,aI,H.inl,aB,H.pp,ppB]
theorem akj (H:uy C) (hlives:FnW C 128 []=some (.bool true)):CK C 0 (aP [.tmp 0]) [] MO ⟨[],[],0⟩=some (.bool true):=by
 have h1:=Qv H.touM 0 (by omega)
 have h2:=YS H
 have h3:=F5 H.toqg aiI aiI ⟨by simp,by simp,aaA⟩
 rw [OJ,if_pos rfl] at h3
 generalize ak 0=ks at *
 simp only [aR,aL,List.map_nil] at h2
 simp [zN] at h2 h3
 rw [aj MO.eq_1]
 simp (disch:=omega) [h1,h2,h3,hlives,zN,aI,H.inl,aB,H.pp,ppB]
abbrev knQ:List Q4:=[⟨1,1,1,0⟩,⟨2,0,2,1⟩,⟨3,2,3,2⟩,⟨4,1,4,3⟩,⟨5,0,5,0⟩,⟨6,1,6,0⟩]
abbrev knZ:List Int:=[8,11,0,3,6,9]
theorem af0 (H:uy C) (hone:∀ q:Q4,QIn q→∃ i:It,FnW C 422 [.agg (eQ q)]=some (eIt i)∧Good i) (hlives:FnW C 128 []=some (.bool true)) (y w:Int) (hy:0≤y∧y≤255) (hw:0≤w∧w≤65535) :
 FnW C 124 [.agg [.ro 4 (knQ.map eQ) true,.ro 1 (knZ.map eU8) true,.int .u8 0],.agg [.int .u8 y,.int .u16 w]]=some (.bool true) :=
 abU H.toUz hone hlives knQ true (by simp only [List.mem_cons,List.not_mem_nil,or_false];rintro x (rfl | rfl | rfl | rfl | rfl | rfl) <;> exact ⟨by simp,by simp,by simp,by simp⟩) knZ true (by simp) (by simp) 0 (by omega) y w hy hw
end Go.D
end
