/- Part of the theory that the claims of this work use: E06, E08, G01, E12, Q01, Q02, PwNest, PwNest2, Q03, Q04, Q05, Q06, Q07, E13, Q08, Q09, E07, E09, D46, E15, E16, E10, E11. No conditions of its own. -/
import Derived.Test.YtfkdbfgdncamdaaGreatT6
set_option linter.unusedVariables false
set_option linter.unusedSimpArgs false
set_option maxHeartbeats 4000000
set_option maxRecDepth 10000
section
namespace Go.D
open Go Go.Pav Go.Pw P
attribute [-simp] List.getElem_cons_drop
variable {C:aJ}
structure aky (C:aJ):Prop extends nU C
def afZ (v least over:Int):Prop:=v < 1∨2147483648 < v∨least < 1∨2305843009213693952 < least∨over < 0∨16 < over
instance (v least over:Int):Decidable (afZ v least over):=by unfold afZ;infer_instance
structure ajA (C:aJ):Prop extends ai2 C,aky C,uh C
end Go.D
end
section
namespace Go.Proofs.YtfkdbfgdncamdaaGreat
open Go.ChangeShapes Go.WideShapes Go.ChangeAt Go.RowKit Go.Pav Go.Pw P Go.D
theorem am0:uh prog:={ ahs:=rfl,agQ:=rfl,ahk:=rfl,agZ:=rfl,ahO:=rfl,agz:=rfl,ae3:=rfl,aeh:=rfl,aho:=rfl,ag5:=rfl,aii:=rfl,ag0:=rfl,agu:=rfl,inl:=rfl,pp:=rfl,agx:=rfl,ag1:=rfl,ain:=rfl,agU:=rfl,agI:=rfl,f282:=rfl,f140:=rfl,ahE:=rfl,aht:=rfl,agr:=rfl,ahU:=rfl,aib:=rfl,ahW:=rfl,aha:=rfl,agR:=rfl,agd:=rfl,f231:=rfl,ah9:=rfl,aam:=rfl,ahZ:=rfl,aiw:=rfl,ahn:=rfl,agp:=rfl,agY:=rfl,ahD:=rfl,acS:=rfl,agT:=rfl,ais:=rfl,agO:=rfl,ahx:=rfl,ahA:=rfl,ah7:=rfl,agW:=rfl,agm:=rfl,aeJ:=rfl,ahY:=rfl,ahV:=rfl,agE:=rfl,ahK:=rfl,ahX:=rfl,abQ:=rfl,ahg:=rfl,aic:=rfl,agN:=rfl,agH:=rfl,ahG:=rfl,ahL:=rfl,ag2:=rfl,f225:=rfl,f111:=rfl,f227:=rfl,ait:=rfl,f240:=rfl,ahp:=rfl,agl:=rfl,f230:=rfl,aeu:=rfl,f232:=rfl,f115:=rfl,f271:=rfl,f223:=rfl,ah1:=rfl,f270:=rfl,f126:=rfl,f130:=rfl }
theorem UW {a:AV} (h:Ty (.slice [.int .u8,.int .u8,.int .u8,.int .u8]) a):∃ (xs:List Q4) (e:Bool),a=.ro 4 (xs.map eQ) e∧∀ s ∈ xs,QIn s:=by
 obtain ⟨es,e,rfl,_,hx⟩:=GH h
 obtain ⟨xs,rfl,hr⟩:=NS (g:=eQ) (R:=QIn) (fun l q=>by
  obtain ⟨q1,q2⟩:=q
  match l,q1 with
  | [u,v,w,x],_ =>
   obtain ⟨n1,rfl,h1⟩:=F5 (q2 0 _ u rfl rfl)
   obtain ⟨n2,rfl,h2⟩:=F5 (q2 1 _ v rfl rfl)
   obtain ⟨n3,rfl,h3⟩:=F5 (q2 2 _ w rfl rfl)
   obtain ⟨n4,rfl,h4⟩:=F5 (q2 3 _ x rfl rfl)
   exact ⟨⟨n1,n2,n3,n4⟩,rfl,h1,h2,h3,h4⟩) es hx
 exact ⟨xs,e,rfl,hr⟩
theorem IU {a:AV} (h:Ty (.slice [.int .u8]) a):∃ (xs:List Int) (e:Bool),a=.ro 1 (xs.map eU8) e∧(∀ x ∈ xs,0≤x∧x≤255)∧xs.length < 9223372036854775808:=by
 obtain ⟨es,e,rfl,hl,hx⟩:=GH h
 obtain ⟨xs,rfl,hr⟩:=NS (g:=eU8) (R:=fun x:Int=>0≤x∧x≤255) (fun l q=>by
  obtain ⟨q1,q2⟩:=q
  match l,q1 with
  | [v],_ =>
   obtain ⟨n,rfl,h1⟩:=F5 (q2 0 _ v rfl rfl)
   exact ⟨n,rfl,h1⟩) es hx
 exact ⟨xs,e,rfl,hr,by simpa using hl⟩
end Go.Proofs.YtfkdbfgdncamdaaGreat
end
section
namespace Go.D
open Go Go.Pav Go.Pw P
attribute [-simp] List.getElem_cons_drop
variable {C:aJ}
structure Qi (C:aJ):Prop extends nU C where
 ajV:C.fns.get 415=some Ig
mutual
/-- Are two trees equal? -/
def eqN:Nd→Nd→Bool
 | ⟨k,t,y,a,_,x,ch,_⟩,⟨k',t',y',a',_,x',ch',_⟩=>decide (k=k')&&decide (t=t')&&decide (y=y')&&decide (x=x')&&decide (a=a')&&rO ch ch'
def rO:List Nd→List Nd→Bool
 | [],[]=>true
 | n::r,m::s=>eqN n m&&rO r s
 | _,_=>false
end
theorem agS (n m:Nd):eqN n m=(decide (n.k=m.k)&&decide (n.t=m.t)&&decide (n.y=m.y)&&decide (n.x=m.x)&&decide (n.a=m.a)&&rO n.ch m.ch):=by
 cases n;cases m;rw [eqN]
theorem Oi:∀ (l r:List Nd),rO l r=true→l.length=r.length
 | [],[],_=>rfl
 | n::l,m::r,h=>by
  rw [rO,Bool.and_eq_true] at h
  simp [Oi l r h.2]
 | [],_::_,h=>by simp [rO] at h
 | _::_,[],h=>by simp [rO] at h
inductive FZ:Nd→Prop
 | mk (n:Nd) (h1:n.a.length≤9223372036854775807) (h2:n.ch.length≤9223372036854775807) (h:∀ m ∈ n.ch,FZ m):FZ n
theorem aiY (H:Qi C) (a b:Nd) (hl:a.ch.length=b.ch.length) (h2:a.ch.length≤9223372036854775807)
 (ih:∀ c ∈ a.ch,∀ m:Nd,FnW C 415 [.agg c.c,.agg m.c]=some (.int .i64 (if eqN c m=true then 1 else 0))):∀ n i,n+i=a.ch.length →
 vN C ⟨[(6,.int .i64 i),(3,.ptr 0 0 0),(2,.ptr 1 0 0)],[(0,.cells 6 [b.c] true true),(1,.cells 6 [a.c] true true)],2⟩=some (.int .i64 (if rO (a.ch.drop i) (b.ch.drop i)=true then 1 else 0)):=by
 intro n
 induction n with
 | zero =>
  intro i hi
  have h3:¬ i < a.ch.length:=by omega
  have e1:a.ch.drop i=[]:=List.drop_eq_nil_of_le (by omega)
  have e2:b.ch.drop i=[]:=List.drop_eq_nil_of_le (by omega)
  simp only [vN];rw [au vY.eq_1]
  simp (disch:=omega) [au LP.eq_1,h3,e1,e2,rO]
 | succ n ihn =>
  intro i hi
  have h1:i < a.ch.length:=by omega
  have h1':i < b.ch.length:=by omega
  have this:=ihn (i+1) (by omega)
  have hs:=ih a.ch[i] (List.getElem_mem h1) b.ch[i]
  rw [drop_cons h1,drop_cons h1',rO]
  cases c:eqN a.ch[i] b.ch[i]
  · rw [c] at hs
    simp at hs
    simp only [vN];rw [au vY.eq_1]
    simp (disch:=omega) [h1,h1',hs,aN,H.inl,aH,H.pp,ppB]
  · rw [c] at hs
    simp at hs
    rw [Bool.true_and]
    generalize (if rO (a.ch.drop (i+1)) (b.ch.drop (i+1))=true then (1:Int) else 0)=R at *
    simp only [vN] at this ⊢;rw [au vY.eq_1]
    simp at this
    simp (disch:=omega) [h1,h1',hs,aN,H.inl,aH,H.pp,ppB,this]
theorem ajB (H:Qi C) (a b:Nd) (hl:a.a.length=b.a.length) (h1:a.a.length≤9223372036854775807) (X:Int)
 (h0:vN C ⟨[(6,.int .i64 0),(3,.ptr 0 0 0),(2,.ptr 1 0 0)],[(0,.cells 6 [b.c] true true),(1,.cells 6 [a.c] true true)],2⟩=some (.int .i64 X)):∀ n i,n+i=a.a.length →
 uS C ⟨[(5,.int .i64 i),(3,.ptr 0 0 0),(2,.ptr 1 0 0)],[(0,.cells 6 [b.c] true true),(1,.cells 6 [a.c] true true)],2⟩=some (.int .i64 (if a.a.drop i=b.a.drop i then X else 0)):=by
 intro n
 induction n with
 | zero =>
  intro i hi
  have h3:¬ i < a.a.length:=by omega
  have e1:a.a.drop i=[]:=List.drop_eq_nil_of_le (by omega)
  have e2:b.a.drop i=[]:=List.drop_eq_nil_of_le (by omega)
  rw [e1,e2,if_pos rfl]
  simp only [vN] at h0
  try simp at h0
  simp only [uS];rw [au rC.eq_1]
  simp (disch:=omega) [au MH.eq_1,h3,h0]
 | succ n ihn =>
  intro i hi
  have hi1:i < a.a.length:=by omega
  have hi2:i < b.a.length:=by omega
  have this:=ihn (i+1) (by omega)
  rw [drop_cons hi1,drop_cons hi2]
  by_cases c1:a.a[i].1=b.a[i].1
  · by_cases c2:a.a[i].2=b.a[i].2
    · have c:a.a[i]=b.a[i]:=Prod.ext c1 c2
      have hq:(if a.a[i]::a.a.drop (i+1)=b.a[i]::b.a.drop (i+1) then X else 0)=if a.a.drop (i+1)=b.a.drop (i+1) then X else 0:=by simp [c]
      rw [hq]
      generalize (if a.a.drop (i+1)=b.a.drop (i+1) then X else 0)=R at *
      simp only [uS] at this ⊢;rw [au rC.eq_1]
      simp at this
      simp (disch:=omega) [hi1,hi2,eq_true c1,eq_true c2,aN,H.inl,aH,H.pp,ppB,this]
    · have hq:(if a.a[i]::a.a.drop (i+1)=b.a[i]::b.a.drop (i+1) then X else 0)=0:=by
       rw [if_neg];intro q;exact c2 (congrArg Prod.snd (List.cons.inj q).1)
      rw [hq]
      simp only [uS];rw [au rC.eq_1]
      simp (disch:=omega) [hi1,hi2,eq_true c1,c2,aN,H.inl,aH,H.pp,ppB]
  · have hq:(if a.a[i]::a.a.drop (i+1)=b.a[i]::b.a.drop (i+1) then X else 0)=0:=by
     rw [if_neg];intro q;exact c1 (congrArg Prod.fst (List.cons.inj q).1)
    rw [hq]
    simp only [uS];rw [au rC.eq_1]
    simp (disch:=omega) [hi1,hi2,c1,aN,H.inl,aH,H.pp,ppB]
theorem Yy (H:Qi C) {a:Nd} (ha:FZ a):∀ b:Nd,FnW C 415 [.agg a.c,.agg b.c]=some (.int .i64 (if eqN a b=true then 1 else 0)):=by
 induction ha with
 | mk a h1 h2 h ih =>
  intro b
  rw [aO H.ajV rfl,agS]
  by_cases c1:a.k=b.k
  · by_cases c2:a.t=b.t
    · by_cases c3:a.y=b.y
      · by_cases c4:a.x=b.x
        · by_cases c5:a.a.length=b.a.length
          · by_cases c6:a.ch.length=b.ch.length
            · have k0:=aiY H a b c6 h2 ih a.ch.length 0 (by simp)
              rw [List.drop_zero,List.drop_zero] at k0
              have k1:=ajB H a b c5 h1 _ k0 a.a.length 0 (by simp)
              rw [List.drop_zero,List.drop_zero] at k1
              have hq:(if (decide (a.k=b.k)&&decide (a.t=b.t)&&decide (a.y=b.y)&&decide (a.x=b.x)&&decide (a.a=b.a)&&rO a.ch b.ch)=true then (1:Int) else 0)=if a.a=b.a then (if rO a.ch b.ch=true then 1 else 0) else 0:=by
               by_cases q:a.a=b.a <;> simp [c1,c2,c3,c4,q]
              rw [hq]
              generalize (if a.a=b.a then (if rO a.ch b.ch=true then (1:Int) else 0) else 0)=R at *
              simp only [uS] at k1
              simp at k1
              simp (disch:=omega) [Ig,eq_true c1,eq_true c2,eq_true c3,eq_true c4,c5,c6,k1]
            · have hq:rO a.ch b.ch=false:=by
               cases q:rO a.ch b.ch
               · rfl
               · exact absurd (Oi _ _ q) c6
              simp (disch:=omega) [Ig,eq_true c1,eq_true c2,eq_true c3,eq_true c4,c5,c6,hq]
          · have hq:¬ a.a=b.a:=fun q=>c5 (by rw [q])
            simp (disch:=omega) [Ig,eq_true c1,eq_true c2,eq_true c3,eq_true c4,c5,hq]
        · simp (disch:=omega) [Ig,eq_true c1,eq_true c2,eq_true c3,c4]
      · simp (disch:=omega) [Ig,eq_true c1,eq_true c2,c3]
    · simp (disch:=omega) [Ig,eq_true c1,c2]
  · simp (disch:=omega) [Ig,c1]
end Go.D
end
section
namespace Go.D
open Go Go.Pav Go.Pw P
attribute [-simp] List.getElem_cons_drop
variable {C:aJ}
structure Hd where
 k:Int
 t:Int
 n:Nd
@[simp] def eHd (h:Hd):List AV:=.int .u64 h.k::.int .u8 h.t::h.n.c
abbrev Pl:=List Hd × Bool
@[simp] def ePl (p:Pl):List AV:=[.ro 8 (p.1.map eHd) p.2]
abbrev aSt (rows:List Hd) (re:Bool) (ps:List Pl) (pe:Bool):AV:=.agg [.ro 8 (rows.map eHd) re,.ro 1 (ps.map ePl) pe]
@[simp] def eAt (a:Nat):List AV:=[.int .i64 a]
structure nY (C:aJ):Prop extends Qi C,Nb C where
 ajg:C.fns.get 435=some ab4
 ajO:C.fns.get 436=some adU
 ai7:C.fns.get 437=some YO
 f286:C.fns.get 286=some WE
 f297:C.fns.get 297=some ZQ
 f284:C.fns.get 284=some adx
def atF (k:Int):Nat→List Hd→Int
 | _,[]=>-1
 | i,h::r=>if h.k=k then i else atF k (i+1) r
theorem VT (H:nY C) (l:List Hd) (e:Bool) (k:Int) (hl:l.length≤1000000):∀ n i,n+i=l.length →
 EH C ⟨[(5,.int .i64 i),(1,.int .u64 k),(0,.ro 8 (l.map eHd) e)],[],0⟩=some (.int .i64 (atF k i (l.drop i))):=by
 intro n
 induction n with
 | zero =>
  intro i hi
  have h1:l.drop i=[]:=List.drop_eq_nil_of_le (by omega)
  have h3:¬ i < l.length:=by omega
  simp only [EH];rw [au zU.eq_1]
  simp [au KL.eq_1,h1,h3,atF]
 | succ n ih =>
  intro i hi
  have h1:i < l.length:=by omega
  have:=ih (i+1) (by omega)
  rw [drop_cons h1]
  simp only [EH] at this ⊢;rw [au zU.eq_1]
  simp at this
  by_cases c:l[i].k=k
  · simp (disch:=omega) [h1,aN,c,atF]
  · simp (disch:=omega) [h1,aN,c,atF,this]
theorem ahy (H:nY C) (l:List Hd) (e:Bool) (k:Int) (hl:l.length≤1000000):FnW C 436 [.ro 8 (l.map eHd) e,.int .u64 k]=some (.int .i64 (atF k 0 l)):=by
 have h:=VT H l e k hl l.length 0 (by simp)
 rw [aO H.ajO rfl]
 simp only [EH] at h
 simp at h
 simp [adU,h]
def stF (h:Hd) (l:List En) (A:List Nat):Bool:=A.any fun a=>match l[a]? with
 | some e=>decide (e.i.k=h.k)&&decide (e.i.t=h.t)
 | none=>false
theorem Zf (H:nY C) (h:Hd) (l:List En) (e f:Bool) (A:List Nat) (hA:A.length≤1000000) (hb:∀ a ∈ A,a < l.length):∀ n i,n+i=A.length →
 DF C ⟨[(7,.int .i64 i),(3,.ptr 0 0 0),(2,.ro 1 (A.map eAt) f),(1,.ro 6 (l.map eEn) e)],[(0,.cells 8 [eHd h] true true)],1⟩=some (.int .i64 (if stF h l (A.drop i)=true then 1 else 0)):=by
 intro n
 induction n with
 | zero =>
  intro i hi
  have h1:A.drop i=[]:=List.drop_eq_nil_of_le (by omega)
  have h3:¬ i < A.length:=by omega
  simp only [DF];rw [au yI.eq_1]
  simp [au JH.eq_1,h1,h3,stF]
 | succ n ih =>
  intro i hi
  have h1:i < A.length:=by omega
  have hai:=hb _ (List.getElem_mem h1)
  have:=ih (i+1) (by omega)
  have hs:stF h l (A.drop i)=((decide (l[A[i]].i.k=h.k)&&decide (l[A[i]].i.t=h.t))||stF h l (A.drop (i+1))):=by
   rw [drop_cons h1]
   simp only [stF,List.any_cons,List.getElem?_eq_getElem hai]
  rw [hs]
  simp only [DF] at this ⊢;rw [au yI.eq_1]
  simp at this
  by_cases c:l[A[i]].i.k=h.k
  · by_cases c2:l[A[i]].i.t=h.t
    · simp (disch:=omega) [h1,hai,aN,c,c2]
    · simp (disch:=omega) [h1,hai,aN,c,c2,this]
  · simp (disch:=omega) [h1,hai,aN,c,this]
theorem Yu (H:nY C) (h:Hd) (l:List En) (e f:Bool) (A:List Nat) (hA:A.length≤1000000) (hb:∀ a ∈ A,a < l.length) :
 FnW C 435 [.agg (eHd h),.ro 6 (l.map eEn) e,.ro 1 (A.map eAt) f]=some (.int .i64 (if stF h l A=true then 1 else 0)):=by
 have h1:=Zf H h l e f A hA hb A.length 0 (by simp)
 rw [aO H.ajg rfl]
 simp only [DF] at h1
 simp at h1
 simp [ab4,h1]
def ku:List Hd→List Hd→Bool
 | [],[]=>true
 | a::l,b::r=>decide (a.k=b.k)&&decide (a.t=b.t)&&eqN a.n b.n&&ku l r
 | _,_=>false
theorem I7:∀ l r,ku l r=true→l.length=r.length
 | [],[],_=>rfl
 | a::l,b::r,h=>by simp only [ku,Bool.and_eq_true] at h;simp [I7 l r h.2]
 | [],_::_,h=>by cases h
 | _::_,[],h=>by cases h
theorem Yd (H:nY C) (a b:List Hd) (e f:Bool) (hl:a.length=b.length) (hb:a.length≤1000000) (hi:∀ x ∈ a,FZ x.n):∀ n i,n+i=a.length →
 Ea C ⟨[(5,.int .i64 i),(1,.ro 8 (b.map eHd) f),(0,.ro 8 (a.map eHd) e)],[],0⟩=some (.int .i64 (if ku (a.drop i) (b.drop i)=true then 1 else 0)):=by
 intro n
 induction n with
 | zero =>
  intro i hi'
  have h1:a.drop i=[]:=List.drop_eq_nil_of_le (by omega)
  have h2:b.drop i=[]:=List.drop_eq_nil_of_le (by omega)
  have h3:¬ i < a.length:=by omega
  simp only [Ea];rw [au yO.eq_1]
  simp [au LV.eq_1,h1,h2,h3,ku]
 | succ n ih =>
  intro i hi'
  have h1:i < a.length:=by omega
  have h2:i < b.length:=by omega
  have ht:=Yy H.toQi (hi _ (List.getElem_mem h1)) b[i].n
  have:=ih (i+1) (by omega)
  rw [drop_cons h1,drop_cons h2]
  simp only [Ea] at this ⊢;rw [au yO.eq_1]
  simp at this
  by_cases c1:a[i].k=b[i].k
  · by_cases c2:a[i].t=b[i].t
    · by_cases c3:eqN a[i].n b[i].n=true
      · rw [if_pos c3] at ht
        simp (disch:=omega) [h1,h2,aN,c1,c2,c3,ht,ku,H.toQi.inl,aH,H.toQi.pp,ppB,this]
      · rw [if_neg c3] at ht
        have c3:eqN a[i].n b[i].n=false:=by simpa using c3
        simp (disch:=omega) [h1,h2,aN,c1,c2,c3,ht,ku,H.toQi.inl,aH,H.toQi.pp,ppB]
    · simp (disch:=omega) [h1,h2,aN,c1,c2,ku]
  · simp (disch:=omega) [h1,h2,aN,c1,ku]
theorem PZ (H:nY C) (a b:List Hd) (e f:Bool) (hb:a.length≤1000000) (hi:∀ x ∈ a,FZ x.n):FnW C 437 [.ro 8 (a.map eHd) e,.ro 8 (b.map eHd) f]=some (.int .i64 (if ku a b=true then 1 else 0)):=by
 rw [aO H.ai7 rfl]
 by_cases hl:a.length=b.length
 · have h1:=Yd H a b e f hl hb hi a.length 0 (by simp)
   simp only [Ea] at h1
   simp at h1
   simp [YO,hl,h1]
 · have:ku a b=false:=by
    cases h:ku a b
    · rfl
    · exact absurd (I7 a b h) hl
   simp [YO,hl,this]
end Go.D
end
section
namespace Go.D
open Go Go.Pav Go.Pw P
attribute [-simp] List.getElem_cons_drop
variable {C:aJ}
def mQ:List Pl→List Pl→Bool
 | [],[]=>true
 | a::l,b::r=>ku a.1 b.1&&mQ l r
 | _,_=>false
theorem FD:∀ l r,mQ l r=true→l.length=r.length
 | [],[],_=>rfl
 | a::l,b::r,h=>by simp only [mQ,Bool.and_eq_true] at h;simp [FD l r h.2]
 | [],_::_,h=>by cases h
 | _::_,[],h=>by cases h
structure aa0 (l:List Hd):Prop where
 len:l.length≤1000000
 nd:∀ x ∈ l,FZ x.n
theorem YH (H:nY C) (ra rb:List Hd) (ea eb:Bool) (a b:List Pl) (e f:Bool) (hl:a.length=b.length) (hb:a.length≤1000000) (hi:∀ p ∈ a,aa0 p.1):∀ n i,n+i=a.length →
 DR C ⟨[(5,.int .i64 i),(3,.ptr 0 0 0),(2,.ptr 1 0 0)],[(0,.cells 2 [[.ro 8 (rb.map eHd) eb,.ro 1 (b.map ePl) f]] true true),(1,.cells 2 [[.ro 8 (ra.map eHd) ea,.ro 1 (a.map ePl) e]] true true)],2⟩=some (.int .i64 (if mQ (a.drop i) (b.drop i)=true then 1 else 0)):=by
 intro n
 induction n with
 | zero =>
  intro i hi'
  have h1:a.drop i=[]:=List.drop_eq_nil_of_le (by omega)
  have h2:b.drop i=[]:=List.drop_eq_nil_of_le (by omega)
  have h3:¬ i < a.length:=by omega
  simp only [DR];rw [au zf.eq_1]
  simp [au KH.eq_1,h1,h2,h3,mQ]
 | succ n ih =>
  intro i hi'
  have h1:i < a.length:=by omega
  have h2:i < b.length:=by omega
  have hh:=hi _ (List.getElem_mem h1)
  have ht:=PZ H a[i].1 b[i].1 a[i].2 b[i].2 hh.len hh.nd
  have:=ih (i+1) (by omega)
  rw [drop_cons h1,drop_cons h2]
  simp only [DR] at this ⊢;rw [au zf.eq_1]
  simp at this
  try simp at ht
  by_cases c1:ku a[i].1 b[i].1=true
  · rw [if_pos c1] at ht
    simp (disch:=omega) [h1,h2,aN,c1,ht,mQ,H.toQi.inl,aH,H.toQi.pp,ppB,this]
  · rw [if_neg c1] at ht
    have c1:ku a[i].1 b[i].1=false:=by simpa using c1
    simp (disch:=omega) [h1,h2,aN,c1,ht,mQ,H.toQi.inl,aH,H.toQi.pp,ppB]
theorem Bq (H:nY C) (ra rb:List Hd) (ea eb:Bool) (a b:List Pl) (e f:Bool) (h0:aa0 ra) (hb:a.length≤1000000) (hi:∀ p ∈ a,aa0 p.1) :
 FnW C 286 [aSt ra ea a e,aSt rb eb b f]=some (.int .i64 (if (ku ra rb&&mQ a b)=true then 1 else 0)):=by
 have h1:=PZ H ra rb ea eb h0.len h0.nd
 rw [aO H.f286 rfl]
 try simp at h1
 by_cases c1:ku ra rb=true
 · rw [if_pos c1] at h1
   by_cases hl:a.length=b.length
   · have h2:=YH H ra rb ea eb a b e f hl hb hi a.length 0 (by simp)
     simp only [DR] at h2
     simp at h2
     simp [WE,H.toQi.inl,aH,H.toQi.pp,ppB,h1,c1,hl]
     simpa [hl] using h2
   · have:mQ a b=false:=by
      cases h:mQ a b
      · rfl
      · exact absurd (FD a b h) hl
     simp [WE,H.toQi.inl,aH,H.toQi.pp,ppB,h1,c1,hl,this]
 · rw [if_neg c1] at h1
   have c1:ku ra rb=false:=by simpa using c1
   simp [WE,H.toQi.inl,aH,H.toQi.pp,ppB,h1,c1]
def okS (l:List Hd):Bool:=l.all fun h=>decide (cnt h.n≠0)
def iP:List Hd→Nat
 | []=>0
 | h::r=>cnt h.n+iP r
def okL (L:List (List Hd)):Bool:=L.all okS
def kY:List (List Hd)→Nat
 | []=>0
 | l::r=>iP l+kY r
def live (L:List (List Hd)):Int:=if okL L=true then 1+(kY L:Nat) else 0
theorem oq (l:List Hd) (L:List (List Hd)):okL (l::L)=(okS l&&okL L):=rfl
theorem aaU {l:List Hd} (L:List (List Hd)) (c:okS l=false):live (l::L)=0:=by simp [live,oq,c]
theorem ab6 {l:List Hd} (L:List (List Hd)) (c:okS l=true):live (l::L)=if okL L=true then 1+((iP l:Nat):Int)+(kY L:Nat) else 0:=by simp [live,oq,c,kY,Int.add_assoc]
theorem cnt_le (n:Nd):cnt n≤64:=by rw [GN];split <;> omega
theorem vg:∀ l:List Hd,iP l≤64 * l.length
 | []=>by simp [iP]
 | h::r=>by have:=cnt_le h.n;have:=vg r;simp only [iP,List.length_cons];omega
section
variable (ra:List Hd) (ea:Bool) (ps:List Pl) (pe:Bool)
abbrev hpL:aI:=[(0,.cells 2 [[.ro 8 (ra.map eHd) ea,.ro 1 (ps.map ePl) pe]] true true)]
theorem afM (H:nY C) (l:List Hd) (e:Bool) (i:Int) (hl:l.length≤1000000):∀ m k,m+k=l.length→∀ n:Int,0≤n→n+64 * m≤1000000000000000 →
 (okS (l.drop k)=false→rZ C ⟨[(6,.int .i64 k),(5,.ro 8 (l.map eHd) e),(4,.int .i64 i),(3,.int .i64 n),(1,.ptr 0 0 0)],hpL ra ea ps pe,1⟩=some (.int .i64 0)) ∧
 (okS (l.drop k)=true→rZ C ⟨[(6,.int .i64 k),(5,.ro 8 (l.map eHd) e),(4,.int .i64 i),(3,.int .i64 n),(1,.ptr 0 0 0)],hpL ra ea ps pe,1⟩ =
  CK C 0 (aP [.tmp 2]) [.sq Am,.bk 0 ⟨true,[3],[]⟩,.sq zn] Ak ⟨[(4,.int .i64 i),(3,.int .i64 (n+(iP (l.drop k):Nat))),(1,.ptr 0 0 0)],hpL ra ea ps pe,1⟩):=by
 intro m
 induction m with
 | zero =>
  intro k hk n h0 h1
  have h2:l.drop k=[]:=List.drop_eq_nil_of_le (by omega)
  have h3:¬ k < l.length:=by omega
  rw [h2]
  refine ⟨fun h=>by simp [okS] at h,fun _=>?_⟩
  simp only [rZ];rw [au wJ.eq_1]
  simp [h3,iP]
 | succ m ih =>
  intro k hk n h0 h1
  have h3:k < l.length:=by omega
  have hr1:=Jy H.toNb l[k].n
  have hr2:=BX H.toNb l[k].n
  have hc:=cnt_le l[k].n
  have hm:aX (bD (hpL ra ea ps pe) 15) l[k].n.c=some l[k].n.c:=l[k].n.afP _ 14
  rw [drop_cons h3]
  by_cases c:cnt l[k].n=0
  · rw [if_pos c] at hr1
    have ho:okS (l[k]::l.drop (k+1))=false:=by simp [okS,c]
    rw [ho]
    refine ⟨fun _=>?_,fun h=>by cases h⟩
    simp only [rZ];rw [au wJ.eq_1]
    simp (disch:=omega) [h3,hr1,H.toQi.inl,aH,H.toQi.pp,ppB]
  · rw [if_neg c] at hr1
    have ho:okS (l[k]::l.drop (k+1))=okS (l.drop (k+1)):=by simp [okS,c]
    have:=ih (k+1) (by omega) (n+(cnt l[k].n:Nat)) (by omega) (by omega)
    rw [ho]
    simp only [iP,rZ] at this ⊢;rw [au wJ.eq_1]
    simp (disch:=omega) [h3,hr1,hr2,H.toQi.inl,aH,H.toQi.pp,ppB,aN]
    simp at this
    refine ⟨this.1,fun q=>?_⟩
    rw [this.2 q]
    simp [Int.add_assoc]
theorem ahb (H:nY C) (hps:∀ p ∈ ps,p.1.length≤1000000) (hpl:ps.length≤1000000):∀ m j,m+j=ps.length→∀ n:Int,0≤n→n+64000000 * m≤1000000000000000 →
 yN C ⟨[(4,.int .i64 (j:Nat)),(3,.int .i64 n),(1,.ptr 0 0 0)],hpL ra ea ps pe,1⟩=some (.int .i64 (if okL ((ps.drop j).map (·.1))=true then n+(kY ((ps.drop j).map (·.1)):Nat) else 0)):=by
 intro m
 induction m with
 | zero =>
  intro j hj n h0 h1
  have h2:ps.drop j=[]:=List.drop_eq_nil_of_le (by omega)
  have h3:¬ j < ps.length:=by omega
  simp only [yN];rw [au rU.eq_1]
  simp [au zn.eq_1,h2,h3,okL,kY]
 | succ m ih =>
  intro j hj n h0 h1
  have h3:j < ps.length:=by omega
  have hl:=hps _ (List.getElem_mem h3)
  have hc:=vg ps[j].1
  obtain ⟨i1,i2⟩:=afM ra ea ps pe H ps[j].1 ps[j].2 (j:Nat) hl ps[j].1.length 0 (by simp) n h0 (by omega)
  rw [List.drop_zero] at i1 i2
  rw [drop_cons h3]
  simp only [List.map_cons,okL,List.all_cons,kY]
  simp only [yN,rZ] at i1 i2 ⊢;rw [au rU.eq_1]
  have hj0:¬ (j:Int) < 0:=by omega
  cases c:okS ps[j].1
  · have:=i1 c
    simp at this
    simp (disch:=omega) [h3,hj0,this]
  · have:=i2 c
    have h4:=ih (j+1) (by omega) (n+(iP ps[j].1:Nat)) (by omega) (by omega)
    simp only [yN,okL] at h4
    simp at this h4
    simp (disch:=omega) [h3,hj0,this,au Ak.eq_1,aN,h4,Int.add_assoc]
end
theorem Xf (H:nY C) (ra:List Hd) (ea:Bool) (ps:List Pl) (pe:Bool) (hra:ra.length≤1000000) (hps:∀ p ∈ ps,p.1.length≤1000000) (hpl:ps.length≤1000):FnW C 297 [aSt ra ea ps pe]=some (.int .i64 (live (ra::ps.map (·.1)))):=by
 obtain ⟨i1,i2⟩:=afM ra ea ps pe H ra ea (-1) hra ra.length 0 (by simp) 1 (by omega) (by omega)
 have hc:=vg ra
 rw [List.drop_zero] at i1 i2
 rw [aO H.f297 rfl]
 simp only [rZ] at i1 i2
 by_cases c:okS ra=true
 rotate_left
 · have c:okS ra=false:=by simpa using c
   have:=i1 c
   rw [aaU _ c]
   simp at this
   have hng:(-1:Int) < (ps.length:Int):=by omega
   simp [ZQ]
   rw [au rU.eq_1]
   simp (disch:=omega) [this,hng]
 · have:=i2 c
   have h4:=ahb ra ea ps pe H hps (by omega) ps.length 0 (by simp) (1+(iP ra:Nat)) (by omega) (by omega)
   rw [List.drop_zero] at h4
   rw [ab6 _ c]
   generalize (if okL (ps.map (·.1))=true then 1+((iP ra:Nat):Int)+(kY (ps.map (·.1)):Nat) else 0)=Z at *
   simp only [yN] at h4
   simp at this h4
   have hng:(-1:Int) < (ps.length:Int):=by omega
   simp [ZQ]
   rw [au rU.eq_1]
   simp (disch:=omega) [this,hng]
   rw [au Ak.eq_1]
   simp (disch:=omega) [aN,h4]
def iW (x:Nat):Nat→Nat→List Nat
 | _,0=>[]
 | i,m+1=>if x / 2 ^ i % 2=1 then i::iW x (i+1) m else iW x (i+1) m
theorem pW (x:Nat):∀ m i,∀ a ∈ iW x i m,i≤a∧a < i+m
 | 0,_,a,h=>by simp [iW] at h
 | m+1,i,a,h=>by
  simp only [iW] at h
  split at h
  · rcases List.mem_cons.1 h with rfl | h
    · omega
    · have:=pW x m (i+1) a h;omega
  · have:=pW x m (i+1) a h;omega
theorem vT (x:Nat):∀ m i,(iW x i m).Nodup
 | 0,_=>by simp [iW]
 | m+1,i=>by
  simp only [iW]
  split
  · refine List.nodup_cons.2 ⟨fun h=>?_,vT x m (i+1)⟩
    have:=pW x m (i+1) i h;omega
  · exact vT x m (i+1)
theorem uy (x:Nat):∀ m i,(iW x i m).length≤m
 | 0,_=>by simp [iW]
 | m+1,i=>by
  have:=uy x m (i+1)
  simp only [iW];split <;> simp <;> omega
theorem aa3 (x i:Nat) (hi:i < 16):((x:Int).fdiv (2 ^ min i IntKind.u16.bits)).tmod 2=((x / 2 ^ i % 2:Nat):Int):=by
 have h1:min i IntKind.u16.bits=i:=by show min i 16=i;omega
 rw [h1]
 have h2:((x:Int).fdiv (2 ^ i))=((x / 2 ^ i:Nat):Int):=by
  rw [Int.fdiv_eq_ediv_of_nonneg _ (Int.le_of_lt (Int.pow_pos (by omega)))]
  rw [Int.natCast_ediv,Int.natCast_pow];rfl
 rw [h2]
 rfl
theorem Xb (H:nY C) (x n:Nat) (hx:x≤65535) (hn:n≤1000000):∀ m i,m+i=min n 16→∀ G:List Nat,G.length≤i →
 DC C ⟨[(6,.int .i64 i),(5,.sl 0 1 0 G.length G.length false),(1,.int .i64 n),(0,.int .u16 x)],[(0,.cells 1 (G.map eAt) true true)],1⟩=some (.ro 1 ((G++iW x i m).map eAt) false):=by
 intro m
 induction m with
 | zero =>
  intro i hi G hG
  have hT:List.take G.length (List.map eAt G)=List.map eAt G:=List.take_of_length_le (by simp)
  simp only [DC];rw [au zO.eq_1]
  by_cases c:(i:Int) < n
  · have c2:¬ (i:Int) < 16:=by omega
    simp [c,c2,au E8.eq_1,iW,hT]
  · simp [c,au E8.eq_1,iW,hT]
 | succ m ih =>
  intro i hi G hG
  have c:(i:Int) < n:=by omega
  have c2:(i:Int) < 16:=by omega
  simp only [iW]
  simp only [DC] at ih ⊢;rw [au zO.eq_1]
  by_cases cb:x / 2 ^ i % 2=1
  · have:=ih (i+1) (by omega) (G++[i]) (by simp;omega)
    have hft:(G.length+1) * 9≤35184372088832:=by omega
    rw [if_pos cb]
    simp at this
    simp (disch:=omega) [c,c2,aN,aa3,cb,hft,this]
  · have:=ih (i+1) (by omega) G (by omega)
    have cb0:x / 2 ^ i % 2=0:=by omega
    rw [if_neg cb]
    simp at this
    simp (disch:=omega) [c,c2,aN,aa3,cb0,this]
theorem EJ (H:nY C) (x n:Nat) (hx:x≤65535) (hn:n≤1000000):FnW C 284 [.int .u16 x,.int .i64 n]=some (.ro 1 ((iW x 0 (min n 16)).map eAt) false):=by
 have:=Xb H x n hx hn (min n 16) 0 rfl [] (by simp)
 rw [aO H.f284 rfl]
 simp only [DC] at this
 simp at this
 simp [adx,this]
end Go.D
end
section
namespace Go.Pw
open Go Go.Pav
theorem abe {α:Type} (l:List (Nat × α)) (k:Nat) (x:α) (j:Nat):Pav.get (Pav.put l k x) j=if k=j then some x else Pav.get l j:=get_put l k x j
theorem ak {α:Type} (l:List (Nat × α)) (k:Nat) (x:α):Pav.get (Pav.put l k x) k=some x:=by rw [abe,if_pos rfl]
theorem aj {α:Type} {l:List (Nat × α)} {k:Nat} {x:α} {j:Nat} (h:k≠j):Pav.get (Pav.put l k x) j=Pav.get l j:=by rw [abe,if_neg h]
theorem bI {α:Type} (l:List (Nat × α)) (k:Nat) (x y:α):Pav.put (Pav.put l k x) k y=Pav.put l k y:=by
 induction l with
 | nil=>simp [Pav.put]
 | cons a r ih =>
  obtain ⟨j,v⟩:=a
  simp only [Pav.put]
  by_cases h1:j=k
  · simp [h1,Pav.put]
  · by_cases h2:k≤j
    · simp [h1,h2,Pav.put]
    · simp [h1,h2,Pav.put,ih]
theorem agv {α:Type} (l:List (Nat × α)) (k:Nat) (j:Nat):Pav.get (Pav.del l k) j=if k=j then none else Pav.get l j:=lW l k j
theorem aB {α:Type} {l:List (Nat × α)} {k:Nat} {j:Nat} (h:k≠j):Pav.get (Pav.del l k) j=Pav.get l j:=by rw [agv,if_neg h]
theorem ltF {a b:Nat} (h:a < b):(a=b)=False:=eq_false (by omega)
theorem gtF {a b:Nat} (h:b < a):(a=b)=False:=eq_false (by omega)
theorem neF {a b:Nat} (h:a≠b):(a=b)=False:=eq_false h
structure Rw where
 i:Nat
 len:Nat
 cap:Nat
 es:List (List AV)
abbrev Rw.of (es:List (List AV)):Rw:=⟨0,es.length,es.length,es⟩
def Rw.c (w:Rw):List (List AV):=(w.es.drop w.i).take w.len
def Rw.v (z b:Nat) (w:Rw):AV:=match w.es with
 | []=>.ro z [] true
 | _::_=>if w.cap=0 then .ro z [] false else .sl b z w.i w.len w.cap false
def Rw.d (z:Nat) (w:Rw):AV:=match w.es with
 | []=>.ro z [] true
 | _::_=>.ro z w.c false
structure Rw.Ok (w:Rw):Prop where
 le:w.i+w.len≤w.es.length
 c0:w.cap=0→w.len=0
structure Nst (z:Nat) (h:aI) (lo hi:Nat) (id:Nat→Nat) (cs:List (List AV)) (W:List Rw):Prop where
 len:cs.length=W.length
 bd:∀ i,i < W.length→lo≤id i∧id i < hi
 inj:∀ i j,i < W.length→j < W.length→id i=id j→i=j
 cell:∀ (i:Nat) (w:Rw),W[i]?=some w→cs[i]?=some [w.v z (id i)]
 blk:∀ (i:Nat) (w:Rw),W[i]?=some w→w.es≠[]→Pav.get h (id i)=some (.cells z w.es true true)
 ok:∀ w,w ∈ W→w.Ok
section
variable {z:Nat} {h h':aI} {lo hi hi':Nat} {id:Nat→Nat} {cs:List (List AV)} {W:List Rw}
theorem Nst.nil:Nst z h lo hi id [] []:=⟨rfl,fun i h=>by simp at h,fun i j h=>by simp at h,fun i w h=>by simp at h,fun i w h=>by simp at h,fun w h=>by simp at h⟩
theorem Nst.mono (R:Nst z h lo hi id cs W) (hh:hi≤hi') (hg:∀ j,lo≤j→j < hi→Pav.get h' j=Pav.get h j):Nst z h' lo hi' id cs W where
 len:=R.len
 bd i hi:=⟨(R.bd i hi).1,Nat.lt_of_lt_of_le (R.bd i hi).2 hh⟩
 inj:=R.inj
 cell:=R.cell
 blk i w hw hn:=by
  have hl:i < W.length:=(List.getElem?_eq_some_iff.1 hw).1
  rw [hg _ (R.bd i hl).1 (R.bd i hl).2]
  exact R.blk i w hw hn
 ok:=R.ok
theorem Nst.snoc (R:Nst z h lo hi id cs W) (b:Nat) (hb:hi≤b) (hb2:lo≤b) (hh:b < hi') (w:Rw) (hw:w.Ok)
 (hg:∀ j,lo≤j→j < hi→Pav.get h' j=Pav.get h j) (hn:w.es≠[]→Pav.get h' b=some (.cells z w.es true true)) :
 Nst z h' lo hi' (fun i=>if i=W.length then b else id i) (cs++[[w.v z b]]) (W++[w]):=by
 have hid:∀ i,i < W.length→(if i=W.length then b else id i)=id i:=fun i hi=>if_neg (by omega)
 have hlt:∀ i,i < (W++[w]).length→i=W.length∨i < W.length:=by intro i hi;simp at hi;omega
 refine ⟨by simp [R.len],?_,?_,?_,?_,?_⟩
 · intro i hi
   rcases hlt i hi with q | q
   · rw [if_pos q];exact ⟨hb2,hh⟩
   · rw [hid i q];exact ⟨(R.bd i q).1,by have:=(R.bd i q).2;omega⟩
 · intro i j hi hj he
   rcases hlt i hi with q | q <;> rcases hlt j hj with q' | q'
   · omega
   · rw [if_pos q,hid j q'] at he;have:=(R.bd j q').2;omega
   · rw [if_pos q',hid i q] at he;have:=(R.bd i q).2;omega
   · rw [hid i q,hid j q'] at he;exact R.inj i j q q' he
 · intro i x hx
   have hi:i < (W++[w]).length:=(List.getElem?_eq_some_iff.1 hx).1
   rcases hlt i hi with q | q
   · subst q
     rw [if_pos rfl]
     simp at hx;subst hx
     rw [← R.len];simp
   · rw [hid i q]
     rw [List.getElem?_append_left q] at hx
     rw [List.getElem?_append_left (by rw [R.len];exact q)]
     exact R.cell i x hx
 · intro i x hx hne
   have hi:i < (W++[w]).length:=(List.getElem?_eq_some_iff.1 hx).1
   rcases hlt i hi with q | q
   · subst q
     rw [if_pos rfl]
     simp at hx;subst hx
     exact hn hne
   · rw [hid i q,hg _ (R.bd i q).1 (R.bd i q).2]
     rw [List.getElem?_append_left q] at hx
     exact R.blk i x hx hne
 · intro x hx
   rcases List.mem_append.1 hx with q | q
   · exact R.ok x q
   · simp at q;subst q;exact hw
theorem Nst.set (R:Nst z h lo hi id cs W) (k:Nat) (hk:k < W.length) (b:Nat) (hb:b=id k∨hi≤b) (hb2:lo≤b) (hh:b < hi') (hhi:hi≤hi') (w:Rw) (hw:w.Ok)
 (hg:∀ j,j < W.length→j≠k→Pav.get h' (id j)=Pav.get h (id j)) (hn:w.es≠[]→Pav.get h' b=some (.cells z w.es true true)) :
 Nst z h' lo hi' (fun i=>if i=k then b else id i) (cs.set k [w.v z b]) (W.set k w):=by
 refine ⟨by simp [R.len],?_,?_,?_,?_,?_⟩
 · intro i hi
   rw [List.length_set] at hi
   by_cases q:i=k
   · rw [if_pos q];exact ⟨hb2,hh⟩
   · rw [if_neg q];exact ⟨(R.bd i hi).1,by have:=(R.bd i hi).2;omega⟩
 · intro i j hi hj he
   rw [List.length_set] at hi hj
   have hne:∀ j,j < W.length→j≠k→b≠id j:=by
    intro j hj q e
    rcases hb with q2 | q2
    · exact q (R.inj j k hj hk (by rw [← e,q2]))
    · have:=(R.bd j hj).2;omega
   by_cases q:i=k <;> by_cases q':j=k
   · omega
   · rw [if_pos q,if_neg q'] at he;exact absurd he (hne j hj q')
   · rw [if_neg q,if_pos q'] at he;exact absurd he.symm (hne i hi q)
   · rw [if_neg q,if_neg q'] at he;exact R.inj i j hi hj he
 · intro i x hx
   by_cases q:i=k
   · subst q
     rw [List.getElem?_set_self hk] at hx
     cases hx
     rw [if_pos rfl,List.getElem?_set_self (by rw [R.len];exact hk)]
   · rw [if_neg q]
     rw [List.getElem?_set_ne (by omega)] at hx ⊢
     exact R.cell i x hx
 · intro i x hx hne
   by_cases q:i=k
   · subst q
     rw [List.getElem?_set_self hk] at hx
     cases hx
     rw [if_pos rfl]
     exact hn hne
   · rw [if_neg q]
     rw [List.getElem?_set_ne (by omega)] at hx
     have hi:i < W.length:=(List.getElem?_eq_some_iff.1 hx).1
     rw [hg i hi q]
     exact R.blk i x hx hne
 · intro x hx
   rcases List.mem_or_eq_of_mem_set hx with q | q
   · exact R.ok x q
   · subst q;exact hw
theorem Nst.ahm (R:Nst z h lo hi id cs W) (n:Nat) {i:Nat} {w:Rw} (hw:W[i]?=some w):aX (bD h (n+2)) [w.v z (id i)]=some [w.d z]:=by
 have hb:=R.blk i w hw
 have hok:=(R.ok w (List.mem_of_getElem? hw)).le
 have hc0:=(R.ok w (List.mem_of_getElem? hw)).c0
 unfold Rw.v Rw.d
 cases he:w.es with
 | nil=>simp [aX,ob,om]
 | cons a r =>
  simp only
  have:=hb (by simp [he])
  by_cases hcap:w.cap=0
  · rw [if_pos hcap]
    have hl0:=hc0 hcap
    simp [aX,ob,om,Rw.c,hl0]
  rw [if_neg hcap]
  simp only [aX,jF,this,ql]
  have hl:((w.es.drop w.i).take w.len).length=w.len:=by rw [List.length_take,List.length_drop];omega
  simp [hl,og,ob,Rw.c]
theorem Nst.frz (R:Nst z h lo hi id cs W) (n:Nat):aX (aX (bD h (n+2))) cs=some (W.map fun w=>[w.d z]):=by
 have key:∀ (cs:List (List AV)) (W:List Rw) (id:Nat→Nat),cs.length=W.length→(∀ (i:Nat) (w:Rw),W[i]?=some w→∃ c,cs[i]?=some c∧aX (bD h (n+2)) c=some [w.d z])→aX (aX (bD h (n+2))) cs=some (W.map fun w=>[w.d z]):=by
  intro cs
  induction cs with
  | nil=>intro W id hl _;cases W with
   | nil=>rfl
   | cons _ _=>simp at hl
  | cons c cs ih =>
   intro W id hl hc
   cases W with
   | nil=>simp at hl
   | cons w W =>
    obtain ⟨c',h1,h2⟩:=hc 0 w rfl
    simp at h1;subst h1
    have:=ih W (fun i=>id (i+1)) (by simpa using hl) (fun i w hw=>by simpa using hc (i+1) w (by simpa using hw))
    simp only [aX,h2,this,ob,om,List.map_cons]
 exact key cs W id R.len fun i w hw=>⟨_,R.cell i w hw,R.ahm n hw⟩
theorem Nst.flat (R:Nst z h lo hi id cs W) (h0:∀ w ∈ W,w.es=[]):cs=W.map fun w=>[w.d z]:=by
 apply List.ext_getElem?
 intro i
 rw [List.getElem?_map]
 cases hw:W[i]? with
 | none =>
  rw [List.getElem?_eq_none_iff] at hw
  rw [List.getElem?_eq_none_iff.2 (by rw [R.len];exact hw)];rfl
 | some w =>
  rw [R.cell i w hw]
  have:=h0 w (List.mem_of_getElem? hw)
  simp [Rw.v,Rw.d,this]
theorem Rw.aks (z:Nat) (w:Rw):isC (w.d z)=true:=by unfold Rw.d;split <;> rfl
theorem Nst.ql (R:Nst z h lo hi id cs W) (n:Nat) {mu dt ex:Bool} (hd:dt=true→∀ w ∈ W,w.es=[]) :
 Pw.ql h (n+2) 1 0 W.length W.length ex (some (.cells 1 cs mu dt))=some (.ro 1 (W.map fun w=>[w.d z]) ex):=by
 have hl:=R.len
 cases dt with
 | true =>
  have:=R.flat (hd rfl)
  simp only [Pw.ql,List.drop_zero]
  rw [List.take_of_length_le (by omega),this]
  simp [og]
 | false =>
  simp only [Pw.ql,List.drop_zero]
  rw [List.take_of_length_le (by omega),R.frz n]
  have:((W.map fun w=>[w.d z]).all fun e=>e.all isC)=true:=by
   rw [List.all_eq_true]
   intro x hx
   obtain ⟨w,_,rfl⟩:=List.mem_map.1 hx
   simp only [List.all_cons,List.all_nil,Rw.aks,Bool.and_self]
  simp only [ob,List.length_map,decide_true,this,Bool.and_self,og,Bool.and_true]
theorem ex3 {x:Option (AV × aI × Nat)} {P:AV→aI→Nat→Prop} {v:AV} {h:aI} {n:Nat} (h1:x=some (v,h,n)) (h2:P v h n):∃ v h n,x=some (v,h,n)∧P v h n:=⟨v,h,n,h1,h2⟩
end
end Go.Pw
end
section
namespace Go.Pw
open Go Go.Pav
structure kD {α:Type} (P:Option dG→Nat→AV→α→Prop) (h:aI) (lo hi:Nat) (id:Nat→Nat) (cs:List (List AV)) (D:List α):Prop where
 len:cs.length=D.length
 bd:∀ i,i < D.length→lo≤id i∧id i < hi
 inj:∀ i j,i < D.length→j < D.length→id i=id j→i=j
 row:∀ (i:Nat) (d:α),D[i]?=some d→∃ v,cs[i]?=some [v]∧P (Pav.get h (id i)) (id i) v d
section
variable {α:Type} {P Q:Option dG→Nat→AV→α→Prop} {h h':aI} {lo hi hi':Nat} {id:Nat→Nat} {cs:List (List AV)} {D:List α}
theorem kD.nil:kD P h lo hi id [] []:=⟨rfl,fun i h=>by simp at h,fun i j h=>by simp at h,fun i w h=>by simp at h⟩
theorem kD.weak (R:kD P h lo hi id cs D) (hq:∀ o b v d,P o b v d→Q o b v d):kD Q h lo hi id cs D :=
 ⟨R.len,R.bd,R.inj,fun i d hd=>by obtain ⟨v,h1,h2⟩:=R.row i d hd;exact ⟨v,h1,hq _ _ _ _ h2⟩⟩
theorem kD.mono (R:kD P h lo hi id cs D) (hh:hi≤hi') (hg:∀ j,j < D.length→Pav.get h' (id j)=Pav.get h (id j)):kD P h' lo hi' id cs D where
 len:=R.len
 bd i hi:=⟨(R.bd i hi).1,Nat.lt_of_lt_of_le (R.bd i hi).2 hh⟩
 inj:=R.inj
 row i d hd:=by
  have hl:i < D.length:=(List.getElem?_eq_some_iff.1 hd).1
  rw [hg i hl]
  exact R.row i d hd
theorem kD.snoc (R:kD P h lo hi id cs D) (b:Nat) (hb:hi≤b) (hb2:lo≤b) (hh:b < hi') (v:AV) (d:α)
 (hg:∀ j,j < D.length→Pav.get h' (id j)=Pav.get h (id j)) (hp:P (Pav.get h' b) b v d) :
 kD P h' lo hi' (fun i=>if i=D.length then b else id i) (cs++[[v]]) (D++[d]):=by
 have hid:∀ i,i < D.length→(if i=D.length then b else id i)=id i:=fun i hi=>if_neg (by omega)
 have hlt:∀ i,i < (D++[d]).length→i=D.length∨i < D.length:=by intro i hi;simp at hi;omega
 refine ⟨by simp [R.len],?_,?_,?_⟩
 · intro i hi
   rcases hlt i hi with q | q
   · rw [if_pos q];exact ⟨hb2,hh⟩
   · rw [hid i q];exact ⟨(R.bd i q).1,by have:=(R.bd i q).2;omega⟩
 · intro i j hi hj he
   rcases hlt i hi with q | q <;> rcases hlt j hj with q' | q'
   · omega
   · rw [if_pos q,hid j q'] at he;have:=(R.bd j q').2;omega
   · rw [if_pos q',hid i q] at he;have:=(R.bd i q).2;omega
   · rw [hid i q,hid j q'] at he;exact R.inj i j q q' he
 · intro i x hx
   have hi:i < (D++[d]).length:=(List.getElem?_eq_some_iff.1 hx).1
   rcases hlt i hi with q | q
   · subst q
     rw [if_pos rfl]
     simp at hx;subst hx
     refine ⟨v,?_,hp⟩
     rw [← R.len];simp
   · rw [hid i q]
     rw [List.getElem?_append_left q] at hx
     rw [List.getElem?_append_left (by rw [R.len];exact q),hg i q]
     exact R.row i x hx
theorem kD.set (R:kD P h lo hi id cs D) (k:Nat) (hk:k < D.length) (b:Nat) (hb:b=id k∨hi≤b) (hb2:lo≤b) (hh:b < hi') (hhi:hi≤hi') (v:AV) (d:α)
 (hg:∀ j,j < D.length→j≠k→Pav.get h' (id j)=Pav.get h (id j)) (hp:P (Pav.get h' b) b v d) :
 kD P h' lo hi' (fun i=>if i=k then b else id i) (cs.set k [v]) (D.set k d):=by
 refine ⟨by simp [R.len],?_,?_,?_⟩
 · intro i hi
   rw [List.length_set] at hi
   by_cases q:i=k
   · rw [if_pos q];exact ⟨hb2,hh⟩
   · rw [if_neg q];exact ⟨(R.bd i hi).1,by have:=(R.bd i hi).2;omega⟩
 · intro i j hi hj he
   rw [List.length_set] at hi hj
   have hne:∀ j,j < D.length→j≠k→b≠id j:=by
    intro j hj q e
    rcases hb with q2 | q2
    · exact q (R.inj j k hj hk (by rw [← e,q2]))
    · have:=(R.bd j hj).2;omega
   by_cases q:i=k <;> by_cases q':j=k
   · omega
   · rw [if_pos q,if_neg q'] at he;exact absurd he (hne j hj q')
   · rw [if_neg q,if_pos q'] at he;exact absurd he.symm (hne i hi q)
   · rw [if_neg q,if_neg q'] at he;exact R.inj i j hi hj he
 · intro i x hx
   by_cases q:i=k
   · subst q
     rw [List.getElem?_set_self hk] at hx
     cases hx
     rw [if_pos rfl]
     exact ⟨v,List.getElem?_set_self (by rw [R.len];exact hk),hp⟩
   · rw [if_neg q]
     rw [List.getElem?_set_ne (by omega)] at hx
     rw [List.getElem?_set_ne (by omega)]
     have hi:i < D.length:=(List.getElem?_eq_some_iff.1 hx).1
     rw [hg i hi q]
     exact R.row i x hx
theorem kD.frz {z:Nat} {enc:α→List (List AV)} (R:kD P h lo hi id cs D) (n:Nat) (hf:∀ b v d,P (Pav.get h b) b v d→∃ ex,bD h (n+2) v=some (.ro z (enc d) ex)) :
 ∃ ps:List (α × Bool),ps.map (·.1)=D∧aX (aX (bD h (n+2))) cs=some (ps.map fun p=>[.ro z (enc p.1) p.2]):=by
 have key:∀ (cs:List (List AV)) (D:List α),cs.length=D.length→(∀ (i:Nat) (d:α),D[i]?=some d→∃ v ex,cs[i]?=some [v]∧bD h (n+2) v=some (.ro z (enc d) ex)) →
  ∃ ps:List (α × Bool),ps.map (·.1)=D∧aX (aX (bD h (n+2))) cs=some (ps.map fun p=>[.ro z (enc p.1) p.2]):=by
  intro cs
  induction cs with
  | nil=>intro D hl _;cases D with
   | nil=>exact ⟨[],rfl,rfl⟩
   | cons _ _=>simp at hl
  | cons c cs ih =>
   intro D hl hc
   cases D with
   | nil=>simp at hl
   | cons d D =>
    obtain ⟨v,ex,h1,h2⟩:=hc 0 d rfl
    simp at h1;subst h1
    obtain ⟨ps,h3,h4⟩:=ih D (by simpa using hl) (fun i w hw=>by simpa using hc (i+1) w (by simpa using hw))
    exact ⟨(d,ex)::ps,by simp [h3],by simp only [aX,h2,h4,ob,om,List.map_cons]⟩
 exact key cs D R.len fun i d hd=>by
  obtain ⟨v,h1,h2⟩:=R.row i d hd
  obtain ⟨ex,h3⟩:=hf _ _ _ h2
  exact ⟨v,ex,h1,h3⟩
theorem kD.ql {z:Nat} {enc:α→List (List AV)} (R:kD P h lo hi id cs D) (n:Nat) (hf:∀ b v d,P (Pav.get h b) b v d→∃ ex,bD h (n+2) v=some (.ro z (enc d) ex)) {mu:Bool} {cap:Nat} {ex:Bool} :
 ∃ (ps:List (α × Bool)) (pe:Bool),ps.map (·.1)=D∧Pw.ql h (n+2) 1 0 D.length cap ex (some (.cells 1 cs mu false))=some (.ro 1 (ps.map fun p=>[.ro z (enc p.1) p.2]) pe):=by
 obtain ⟨ps,h1,h2⟩:=R.frz n hf
 refine ⟨ps,ex&&decide (cap=D.length),h1,?_⟩
 have hl:=R.len
 have hpl:ps.length=D.length:=by rw [← h1];simp
 simp only [Pw.ql,List.drop_zero]
 rw [List.take_of_length_le (by omega),h2]
 have:((ps.map fun p=>[AV.ro z (enc p.1) p.2]).all fun e=>e.all isC)=true:=by
  rw [List.all_eq_true]
  intro x hx
  obtain ⟨w,_,rfl⟩:=List.mem_map.1 hx
  rfl
 simp only [ob,List.length_map,hpl,decide_true,this,Bool.and_self,og]
end
end Go.Pw
end
section
namespace Go.D
open Go Go.Pav Go.Pw P
set_option maxHeartbeats 1000000
attribute [-simp] List.getElem_cons_drop
variable {C:aJ}
abbrev eHs (l:List Hd):List (List AV):=l.map eHd
def oG (o:Option dG) (b:Nat) (v:AV) (d:List Hd):Prop :=
 (d=[]∧v=.sl b 8 0 0 0 true∧o=some (.cells 8 [] true true))∨(d≠[]∧v=.sl b 8 0 d.length d.length false∧o=some (.cells 8 (eHs d) true true))
def jk (o:Option dG) (b:Nat) (v:AV) (d:List Hd):Prop :=
 ∃ cap ex es,v=.sl b 8 0 d.length cap ex∧d.length≤cap∧d.length≤es.length∧es.take d.length=d∧o=some (.cells 8 (eHs es) true true)
theorem oG.any {o:Option dG} {b:Nat} {v:AV} {d:List Hd} (h:oG o b v d):jk o b v d:=by
 rcases h with ⟨rfl,h1,h2⟩ | ⟨h0,h1,h2⟩
 · exact ⟨0,true,[],by simpa using h1,by simp,by simp,by simp,by simpa using h2⟩
 · exact ⟨d.length,false,d,h1,Nat.le_refl _,Nat.le_refl _,by simp,h2⟩
theorem jk.frz {h:aI} {b:Nat} {v:AV} {d:List Hd} (q:jk (Pav.get h b) b v d) (n:Nat):∃ ex,bD h (n+2) v=some (.ro 8 (eHs d) ex):=by
 obtain ⟨cap,ex,es,rfl,h1,h2,h3,h4⟩:=q
 refine ⟨ex&&decide (cap=d.length),?_⟩
 have h5:List.take d.length (eHs es)=eHs d:=by rw [← List.map_take,h3]
 rw [jF,h4]
 simp only [Pw.ql,List.drop_zero,h5,List.length_map,decide_true,og]
structure CpI (ra:List Hd) (ea:Bool) (ps:List Pl) (pe:Bool) (Rv:AV) (q rr bx lo:Nat) (i:Nat) (h0 h:aI) (next:Nat) (cs:List (List AV)) (pb:Nat) (id:Nat→Nat) (dq:Bool):Prop where
 R:kD oG h lo next id cs ((ps.take i).map (·.1))
 gq:Pav.get h q=some (.cells 2 [[Rv,if i=0 then .ro 1 [] true else .sl pb 1 0 i i false]] true dq)
 gp:i≠0→Pav.get h pb=some (.cells 1 cs true false)
 pl:i≠0→lo≤pb∧pb < next∧∀ j,j < i→id j≠pb
 gb:Pav.get h bx=some (.cells 2 [[.ro 8 (ra.map eHd) ea,.ro 1 (ps.map ePl) pe]] true true)
 gr:Pav.get h rr=some (.cells 2 [[.ro 8 [] true,.ro 1 [] true]] true true)
 lt:q < lo∧rr < lo∧bx < lo∧q≠rr∧q≠bx∧rr≠bx∧lo≤next
 un:∀ j,j < lo→j≠q→Pav.get h j=Pav.get h0 j
def CpP (ps:List Pl) (Rv:AV) (q rr lo next:Nat) (h0:aI) (v:AV) (h':aI) (n':Nat):Prop :=
 ∃ pb cs id,v=.agg [Rv,.sl pb 1 0 ps.length ps.length false]∧kD oG h' lo n' id cs (ps.map (·.1))∧Pav.get h' pb=some (.cells 1 cs true false)∧lo≤pb∧pb < n'∧(∀ j,j < ps.length→id j≠pb)∧next≤n' ∧
  ∀ j,j < lo→j≠q→j≠rr→Pav.get h' j=Pav.get h0 j
theorem Xi (base:Nat) (ra:List Hd) (ea:Bool) (ps:List Pl) (pe:Bool) (q rr bx lo:Nat) (h0:aI) (hps:ps.length≤1000) (hpos:0 < ps.length) (hr:∀ p ∈ ps,p.1.length≤1000000):∀ m i,m+i=ps.length→∀ (h:aI) (next:Nat) (cs:List (List AV)) (pb:Nat) (id:Nat→Nat) (dq:Bool),
 CpI ra ea ps pe (.ro 8 [] true) q rr bx lo i h0 h next cs pb id dq →
 ∃ v h' n',CK C base (iR [.cell 2 2 true]) [.sq DN,.bk 0 ⟨true,[3,2],[(9999,65537)]⟩,.sq yV] qc ⟨[(4,.int .i64 i),(3,.ptr q 0 0),(2,.ptr rr 0 0),(1,.ptr bx 0 0)],h,next⟩ =
  some (v,h',n')∧CpP ps (.ro 8 [] true) q rr lo next h0 v h' n':=by
 intro m
 induction m with
 | zero =>
  intro i hi h next cs pb id dq T
  have h3:¬ i < ps.length:=by omega
  have hine:i≠0:=by omega
  have hie:i=ps.length:=by omega
  have R:=T.R
  have gq:=T.gq
  have gp:=T.gp hine
  have pl:=T.pl hine
  have lt:=T.lt
  rw [if_neg hine] at gq
  rw [List.take_of_length_le (by omega)] at R
  subst hie
  rw [au qc.eq_1]
  apply ex3
  · simp (disch:=omega) [T.gb,h3,au yV.eq_1,gq,T.gr,ak,aj]
    exact ⟨rfl,rfl,rfl⟩
  · refine ⟨pb,cs,id,rfl,R.mono (by omega) (fun j hj=>by have:=R.bd j hj;rw [aj (by omega)]),by rw [aj (by omega)];exact gp,pl.1,by omega,pl.2.2,by omega,fun j h1 h2 h3=>?_⟩
    rw [aj (Ne.symm h3)]
    exact T.un j h1 h2
 | succ m ih =>
  intro i hi h next cs pb id dq T
  have h3:i < ps.length:=by omega
  have hri:=hr _ (List.getElem_mem h3)
  have htk:ps.take (i+1)=ps.take i++[ps[i]]:=by rw [List.take_succ_eq_append_getElem h3]
  have htm:(ps.take (i+1)).map (·.1)=(ps.take i).map (·.1)++[ps[i].1]:=by rw [htk,List.map_append];rfl
  have R:=T.R
  have gq:=T.gq
  have lt:=T.lt
  have hlen:((ps.take i).map (·.1)).length=i:=by simp;omega
  have hcl:cs.length=i:=by rw [R.len,hlen]
  rw [au qc.eq_1]
  by_cases c:ps[i].1=[]
  · by_cases c0:i=0
    · subst c0
      obtain rfl:cs=[]:=List.length_eq_zero_iff.1 hcl
      simp at gq
      have key:CpI ra ea ps pe (.ro 8 [] true) q rr bx lo (0+1) h0 (put (put (put (put h (next+7) (.cells 8 [] true true)) (next+14) (.cells 1 [[.sl (next+7) 8 0 0 0 true]] true false)) (next+15) (.cells 1 ([]++[[.sl (next+7) 8 0 0 0 true]]) true false)) q (.cells 2 [[(.ro 8 [] true),.sl (next+15) 1 0 (0+1) (0+1) false]] true false)) (next+21) ([]++[[.sl (next+7) 8 0 0 0 true]]) (next+15) (fun j=>if j=((ps.take 0).map (·.1)).length then next+7 else id j) false:=by
       refine ⟨by rw [htm];exact R.snoc (next+7) (by omega) (by omega) (by omega) _ _ (fun j hj=>by have:=R.bd j hj;rw [hlen] at hj;simp (disch:=omega) only [ak,aj,aB]) (.inl ⟨c,rfl,by simp (disch:=omega) only [ak,aj,aB]⟩),?_,fun _=>?_,fun _=>⟨by omega,by omega,fun j hj=>?_⟩,?_,?_,by omega,fun j h1 h2=>?_⟩
       · rw [if_neg (by omega),ak]
       · simp (disch:=omega) only [ak,aj,aB]
       · rw [hlen];split
         · omega
         · have:=R.bd j (by omega);omega
       · simp (disch:=omega) only [ak,aj,aB];exact T.gb
       · simp (disch:=omega) only [ak,aj,aB];exact T.gr
       · rw [← T.un j h1 h2];simp (disch:=omega) only [ak,aj,aB]
      obtain ⟨v,h',n',e1,pb',cs',id',e2,e3,e4,e5,e6,e7,e8,e9⟩:=ih (0+1) (by omega) _ _ _ _ _ _ key
      refine ⟨v,h',n',?_,pb',cs',id',e2,e3,e4,e5,e6,e7,by omega,e9⟩
      simp (disch:=omega) [T.gb,h3,gq,ak,aj,aB,c,aN,fits,ltF,gtF,neF]
      simpa using e1
    · rw [if_neg c0] at gq
      have gp:=T.gp c0
      have pl:=T.pl c0
      have hft:(i+1) * 25≤35184372088832:=by omega
      have key:CpI ra ea ps pe (.ro 8 [] true) q rr bx lo (i+1) h0 (put (put (del (put (put h (next+7) (.cells 8 [] true true)) (next+14) (.cells 1 [[.sl (next+7) 8 0 0 0 true]] true false)) pb) (next+15) (.cells 1 (cs++[[.sl (next+7) 8 0 0 0 true]]) true false)) q (.cells 2 [[(.ro 8 [] true),.sl (next+15) 1 0 (i+1) (i+1) false]] true false)) (next+21) (cs++[[.sl (next+7) 8 0 0 0 true]]) (next+15) (fun j=>if j=((ps.take i).map (·.1)).length then next+7 else id j) false:=by
       refine ⟨by rw [htm];exact R.snoc (next+7) (by omega) (by omega) (by omega) _ _ (fun j hj=>by have:=R.bd j hj;rw [hlen] at hj;have:=pl.2.2 j (by omega);simp (disch:=omega) only [ak,aj,aB]) (.inl ⟨c,rfl,by simp (disch:=omega) only [ak,aj,aB]⟩),?_,fun _=>?_,fun _=>⟨by omega,by omega,fun j hj=>?_⟩,?_,?_,by omega,fun j h1 h2=>?_⟩
       · rw [if_neg (by omega),ak]
       · simp (disch:=omega) only [ak,aj,aB]
       · rw [hlen];split
         · omega
         · have:=R.bd j (by omega);omega
       · simp (disch:=omega) only [ak,aj,aB];exact T.gb
       · simp (disch:=omega) only [ak,aj,aB];exact T.gr
       · rw [← T.un j h1 h2];simp (disch:=omega) only [ak,aj,aB]
      obtain ⟨v,h',n',e1,pb',cs',id',e2,e3,e4,e5,e6,e7,e8,e9⟩:=ih (i+1) (by omega) _ _ _ _ _ _ key
      refine ⟨v,h',n',?_,pb',cs',id',e2,e3,e4,e5,e6,e7,by omega,e9⟩
      simp (disch:=omega) [T.gb,h3,gq,ak,aj,aB,c,aN,fits,ltF,gtF,neF,gp,hft,hcl]
      simpa using e1
  · have hft2:ps[i].1.length * 121≤35184372088832:=by omega
    by_cases c0:i=0
    · subst c0
      obtain rfl:cs=[]:=List.length_eq_zero_iff.1 hcl
      simp at gq
      have key:CpI ra ea ps pe (.ro 8 [] true) q rr bx lo (0+1) h0 (put (put (put (put (put h (next+7) (.cells 8 [] true true)) (next+13) (.cells 8 (ps[0].1.map eHd) true true)) (next+14) (.cells 1 [[.sl (next+13) 8 0 ps[0].1.length ps[0].1.length false]] true false)) (next+15) (.cells 1 ([]++[[.sl (next+13) 8 0 ps[0].1.length ps[0].1.length false]]) true false)) q (.cells 2 [[(.ro 8 [] true),.sl (next+15) 1 0 (0+1) (0+1) false]] true false)) (next+21) ([]++[[.sl (next+13) 8 0 ps[0].1.length ps[0].1.length false]]) (next+15) (fun j=>if j=((ps.take 0).map (·.1)).length then next+13 else id j) false:=by
       refine ⟨by rw [htm];exact R.snoc (next+13) (by omega) (by omega) (by omega) _ _ (fun j hj=>by have:=R.bd j hj;rw [hlen] at hj;simp (disch:=omega) only [ak,aj,aB]) (.inr ⟨c,rfl,by simp (disch:=omega) only [ak,aj,aB]⟩),?_,fun _=>?_,fun _=>⟨by omega,by omega,fun j hj=>?_⟩,?_,?_,by omega,fun j h1 h2=>?_⟩
       · rw [if_neg (by omega),ak]
       · simp (disch:=omega) only [ak,aj,aB]
       · rw [hlen];split
         · omega
         · have:=R.bd j (by omega);omega
       · simp (disch:=omega) only [ak,aj,aB];exact T.gb
       · simp (disch:=omega) only [ak,aj,aB];exact T.gr
       · rw [← T.un j h1 h2];simp (disch:=omega) only [ak,aj,aB]
      obtain ⟨v,h',n',e1,pb',cs',id',e2,e3,e4,e5,e6,e7,e8,e9⟩:=ih (0+1) (by omega) _ _ _ _ _ _ key
      refine ⟨v,h',n',?_,pb',cs',id',e2,e3,e4,e5,e6,e7,by omega,e9⟩
      simp (disch:=omega) [T.gb,h3,gq,ak,aj,aB,c,aN,fits,ltF,gtF,neF,hft2]
      simpa using e1
    · rw [if_neg c0] at gq
      have gp:=T.gp c0
      have pl:=T.pl c0
      have hft:(i+1) * 25≤35184372088832:=by omega
      have key:CpI ra ea ps pe (.ro 8 [] true) q rr bx lo (i+1) h0 (put (put (del (put (put (put h (next+7) (.cells 8 [] true true)) (next+13) (.cells 8 (ps[i].1.map eHd) true true)) (next+14) (.cells 1 [[.sl (next+13) 8 0 ps[i].1.length ps[i].1.length false]] true false)) pb) (next+15) (.cells 1 (cs++[[.sl (next+13) 8 0 ps[i].1.length ps[i].1.length false]]) true false)) q (.cells 2 [[(.ro 8 [] true),.sl (next+15) 1 0 (i+1) (i+1) false]] true false)) (next+21) (cs++[[.sl (next+13) 8 0 ps[i].1.length ps[i].1.length false]]) (next+15) (fun j=>if j=((ps.take i).map (·.1)).length then next+13 else id j) false:=by
       refine ⟨by rw [htm];exact R.snoc (next+13) (by omega) (by omega) (by omega) _ _ (fun j hj=>by have:=R.bd j hj;rw [hlen] at hj;have:=pl.2.2 j (by omega);simp (disch:=omega) only [ak,aj,aB]) (.inr ⟨c,rfl,by simp (disch:=omega) only [ak,aj,aB]⟩),?_,fun _=>?_,fun _=>⟨by omega,by omega,fun j hj=>?_⟩,?_,?_,by omega,fun j h1 h2=>?_⟩
       · rw [if_neg (by omega),ak]
       · simp (disch:=omega) only [ak,aj,aB]
       · rw [hlen];split
         · omega
         · have:=R.bd j (by omega);omega
       · simp (disch:=omega) only [ak,aj,aB];exact T.gb
       · simp (disch:=omega) only [ak,aj,aB];exact T.gr
       · rw [← T.un j h1 h2];simp (disch:=omega) only [ak,aj,aB]
      obtain ⟨v,h',n',e1,pb',cs',id',e2,e3,e4,e5,e6,e7,e8,e9⟩:=ih (i+1) (by omega) _ _ _ _ _ _ key
      refine ⟨v,h',n',?_,pb',cs',id',e2,e3,e4,e5,e6,e7,by omega,e9⟩
      simp (disch:=omega) [T.gb,h3,gq,ak,aj,aB,c,aN,fits,ltF,gtF,neF,gp,hft,hcl,hft2]
      simpa using e1
theorem XU (base:Nat) (ra:List Hd) (ea:Bool) (ps:List Pl) (pe:Bool) (rb rn:Nat) (q rr bx lo:Nat) (h0:aI) (hps:ps.length≤1000) (hpos:0 < ps.length) (hr:∀ p ∈ ps,p.1.length≤1000000):∀ m i,m+i=ps.length→∀ (h:aI) (next:Nat) (cs:List (List AV)) (pb:Nat) (id:Nat→Nat) (dq:Bool),
 CpI ra ea ps pe (.sl rb 8 0 rn rn false) q rr bx lo i h0 h next cs pb id dq →
 ∃ v h' n',CK C base (iR [.cell 2 2 true]) [.sq DN,.bk 0 ⟨true,[3,2],[(9999,65537)]⟩,.sq yV] qc ⟨[(4,.int .i64 i),(3,.ptr q 0 0),(2,.ptr rr 0 0),(1,.ptr bx 0 0)],h,next⟩ =
  some (v,h',n')∧CpP ps (.sl rb 8 0 rn rn false) q rr lo next h0 v h' n':=by
 intro m
 induction m with
 | zero =>
  intro i hi h next cs pb id dq T
  have h3:¬ i < ps.length:=by omega
  have hine:i≠0:=by omega
  have hie:i=ps.length:=by omega
  have R:=T.R
  have gq:=T.gq
  have gp:=T.gp hine
  have pl:=T.pl hine
  have lt:=T.lt
  rw [if_neg hine] at gq
  rw [List.take_of_length_le (by omega)] at R
  subst hie
  rw [au qc.eq_1]
  apply ex3
  · simp (disch:=omega) [T.gb,h3,au yV.eq_1,gq,T.gr,ak,aj]
    exact ⟨rfl,rfl,rfl⟩
  · refine ⟨pb,cs,id,rfl,R.mono (by omega) (fun j hj=>by have:=R.bd j hj;rw [aj (by omega)]),by rw [aj (by omega)];exact gp,pl.1,by omega,pl.2.2,by omega,fun j h1 h2 h3=>?_⟩
    rw [aj (Ne.symm h3)]
    exact T.un j h1 h2
 | succ m ih =>
  intro i hi h next cs pb id dq T
  have h3:i < ps.length:=by omega
  have hri:=hr _ (List.getElem_mem h3)
  have htk:ps.take (i+1)=ps.take i++[ps[i]]:=by rw [List.take_succ_eq_append_getElem h3]
  have htm:(ps.take (i+1)).map (·.1)=(ps.take i).map (·.1)++[ps[i].1]:=by rw [htk,List.map_append];rfl
  have R:=T.R
  have gq:=T.gq
  have lt:=T.lt
  have hlen:((ps.take i).map (·.1)).length=i:=by simp;omega
  have hcl:cs.length=i:=by rw [R.len,hlen]
  rw [au qc.eq_1]
  by_cases c:ps[i].1=[]
  · by_cases c0:i=0
    · subst c0
      obtain rfl:cs=[]:=List.length_eq_zero_iff.1 hcl
      simp at gq
      have key:CpI ra ea ps pe (.sl rb 8 0 rn rn false) q rr bx lo (0+1) h0 (put (put (put (put h (next+7) (.cells 8 [] true true)) (next+14) (.cells 1 [[.sl (next+7) 8 0 0 0 true]] true false)) (next+15) (.cells 1 ([]++[[.sl (next+7) 8 0 0 0 true]]) true false)) q (.cells 2 [[(.sl rb 8 0 rn rn false),.sl (next+15) 1 0 (0+1) (0+1) false]] true false)) (next+21) ([]++[[.sl (next+7) 8 0 0 0 true]]) (next+15) (fun j=>if j=((ps.take 0).map (·.1)).length then next+7 else id j) false:=by
       refine ⟨by rw [htm];exact R.snoc (next+7) (by omega) (by omega) (by omega) _ _ (fun j hj=>by have:=R.bd j hj;rw [hlen] at hj;simp (disch:=omega) only [ak,aj,aB]) (.inl ⟨c,rfl,by simp (disch:=omega) only [ak,aj,aB]⟩),?_,fun _=>?_,fun _=>⟨by omega,by omega,fun j hj=>?_⟩,?_,?_,by omega,fun j h1 h2=>?_⟩
       · rw [if_neg (by omega),ak]
       · simp (disch:=omega) only [ak,aj,aB]
       · rw [hlen];split
         · omega
         · have:=R.bd j (by omega);omega
       · simp (disch:=omega) only [ak,aj,aB];exact T.gb
       · simp (disch:=omega) only [ak,aj,aB];exact T.gr
       · rw [← T.un j h1 h2];simp (disch:=omega) only [ak,aj,aB]
      obtain ⟨v,h',n',e1,pb',cs',id',e2,e3,e4,e5,e6,e7,e8,e9⟩:=ih (0+1) (by omega) _ _ _ _ _ _ key
      refine ⟨v,h',n',?_,pb',cs',id',e2,e3,e4,e5,e6,e7,by omega,e9⟩
      simp (disch:=omega) [T.gb,h3,gq,ak,aj,aB,c,aN,fits,ltF,gtF,neF]
      simpa using e1
    · rw [if_neg c0] at gq
      have gp:=T.gp c0
      have pl:=T.pl c0
      have hft:(i+1) * 25≤35184372088832:=by omega
      have key:CpI ra ea ps pe (.sl rb 8 0 rn rn false) q rr bx lo (i+1) h0 (put (put (del (put (put h (next+7) (.cells 8 [] true true)) (next+14) (.cells 1 [[.sl (next+7) 8 0 0 0 true]] true false)) pb) (next+15) (.cells 1 (cs++[[.sl (next+7) 8 0 0 0 true]]) true false)) q (.cells 2 [[(.sl rb 8 0 rn rn false),.sl (next+15) 1 0 (i+1) (i+1) false]] true false)) (next+21) (cs++[[.sl (next+7) 8 0 0 0 true]]) (next+15) (fun j=>if j=((ps.take i).map (·.1)).length then next+7 else id j) false:=by
       refine ⟨by rw [htm];exact R.snoc (next+7) (by omega) (by omega) (by omega) _ _ (fun j hj=>by have:=R.bd j hj;rw [hlen] at hj;have:=pl.2.2 j (by omega);simp (disch:=omega) only [ak,aj,aB]) (.inl ⟨c,rfl,by simp (disch:=omega) only [ak,aj,aB]⟩),?_,fun _=>?_,fun _=>⟨by omega,by omega,fun j hj=>?_⟩,?_,?_,by omega,fun j h1 h2=>?_⟩
       · rw [if_neg (by omega),ak]
       · simp (disch:=omega) only [ak,aj,aB]
       · rw [hlen];split
         · omega
         · have:=R.bd j (by omega);omega
       · simp (disch:=omega) only [ak,aj,aB];exact T.gb
       · simp (disch:=omega) only [ak,aj,aB];exact T.gr
       · rw [← T.un j h1 h2];simp (disch:=omega) only [ak,aj,aB]
      obtain ⟨v,h',n',e1,pb',cs',id',e2,e3,e4,e5,e6,e7,e8,e9⟩:=ih (i+1) (by omega) _ _ _ _ _ _ key
      refine ⟨v,h',n',?_,pb',cs',id',e2,e3,e4,e5,e6,e7,by omega,e9⟩
      simp (disch:=omega) [T.gb,h3,gq,ak,aj,aB,c,aN,fits,ltF,gtF,neF,gp,hft,hcl]
      simpa using e1
  · have hft2:ps[i].1.length * 121≤35184372088832:=by omega
    by_cases c0:i=0
    · subst c0
      obtain rfl:cs=[]:=List.length_eq_zero_iff.1 hcl
      simp at gq
      have key:CpI ra ea ps pe (.sl rb 8 0 rn rn false) q rr bx lo (0+1) h0 (put (put (put (put (put h (next+7) (.cells 8 [] true true)) (next+13) (.cells 8 (ps[0].1.map eHd) true true)) (next+14) (.cells 1 [[.sl (next+13) 8 0 ps[0].1.length ps[0].1.length false]] true false)) (next+15) (.cells 1 ([]++[[.sl (next+13) 8 0 ps[0].1.length ps[0].1.length false]]) true false)) q (.cells 2 [[(.sl rb 8 0 rn rn false),.sl (next+15) 1 0 (0+1) (0+1) false]] true false)) (next+21) ([]++[[.sl (next+13) 8 0 ps[0].1.length ps[0].1.length false]]) (next+15) (fun j=>if j=((ps.take 0).map (·.1)).length then next+13 else id j) false:=by
       refine ⟨by rw [htm];exact R.snoc (next+13) (by omega) (by omega) (by omega) _ _ (fun j hj=>by have:=R.bd j hj;rw [hlen] at hj;simp (disch:=omega) only [ak,aj,aB]) (.inr ⟨c,rfl,by simp (disch:=omega) only [ak,aj,aB]⟩),?_,fun _=>?_,fun _=>⟨by omega,by omega,fun j hj=>?_⟩,?_,?_,by omega,fun j h1 h2=>?_⟩
       · rw [if_neg (by omega),ak]
       · simp (disch:=omega) only [ak,aj,aB]
       · rw [hlen];split
         · omega
         · have:=R.bd j (by omega);omega
       · simp (disch:=omega) only [ak,aj,aB];exact T.gb
       · simp (disch:=omega) only [ak,aj,aB];exact T.gr
       · rw [← T.un j h1 h2];simp (disch:=omega) only [ak,aj,aB]
      obtain ⟨v,h',n',e1,pb',cs',id',e2,e3,e4,e5,e6,e7,e8,e9⟩:=ih (0+1) (by omega) _ _ _ _ _ _ key
      refine ⟨v,h',n',?_,pb',cs',id',e2,e3,e4,e5,e6,e7,by omega,e9⟩
      simp (disch:=omega) [T.gb,h3,gq,ak,aj,aB,c,aN,fits,ltF,gtF,neF,hft2]
      simpa using e1
    · rw [if_neg c0] at gq
      have gp:=T.gp c0
      have pl:=T.pl c0
      have hft:(i+1) * 25≤35184372088832:=by omega
      have key:CpI ra ea ps pe (.sl rb 8 0 rn rn false) q rr bx lo (i+1) h0 (put (put (del (put (put (put h (next+7) (.cells 8 [] true true)) (next+13) (.cells 8 (ps[i].1.map eHd) true true)) (next+14) (.cells 1 [[.sl (next+13) 8 0 ps[i].1.length ps[i].1.length false]] true false)) pb) (next+15) (.cells 1 (cs++[[.sl (next+13) 8 0 ps[i].1.length ps[i].1.length false]]) true false)) q (.cells 2 [[(.sl rb 8 0 rn rn false),.sl (next+15) 1 0 (i+1) (i+1) false]] true false)) (next+21) (cs++[[.sl (next+13) 8 0 ps[i].1.length ps[i].1.length false]]) (next+15) (fun j=>if j=((ps.take i).map (·.1)).length then next+13 else id j) false:=by
       refine ⟨by rw [htm];exact R.snoc (next+13) (by omega) (by omega) (by omega) _ _ (fun j hj=>by have:=R.bd j hj;rw [hlen] at hj;have:=pl.2.2 j (by omega);simp (disch:=omega) only [ak,aj,aB]) (.inr ⟨c,rfl,by simp (disch:=omega) only [ak,aj,aB]⟩),?_,fun _=>?_,fun _=>⟨by omega,by omega,fun j hj=>?_⟩,?_,?_,by omega,fun j h1 h2=>?_⟩
       · rw [if_neg (by omega),ak]
       · simp (disch:=omega) only [ak,aj,aB]
       · rw [hlen];split
         · omega
         · have:=R.bd j (by omega);omega
       · simp (disch:=omega) only [ak,aj,aB];exact T.gb
       · simp (disch:=omega) only [ak,aj,aB];exact T.gr
       · rw [← T.un j h1 h2];simp (disch:=omega) only [ak,aj,aB]
      obtain ⟨v,h',n',e1,pb',cs',id',e2,e3,e4,e5,e6,e7,e8,e9⟩:=ih (i+1) (by omega) _ _ _ _ _ _ key
      refine ⟨v,h',n',?_,pb',cs',id',e2,e3,e4,e5,e6,e7,by omega,e9⟩
      simp (disch:=omega) [T.gb,h3,gq,ak,aj,aB,c,aN,fits,ltF,gtF,neF,gp,hft,hcl,hft2]
      simpa using e1
end Go.D
end
section
namespace Go.D
open Go Go.Pav Go.Pw P
set_option maxHeartbeats 1000000
attribute [-simp] List.getElem_cons_drop
variable {C:aJ}
structure Y4 (C:aJ):Prop extends nY C where
 Zw:C.fns.get 2031=some QZ
def akf (h:aI) (lo hi:Nat) (v:AV) (ra:List Hd):Prop:=(ra=[]∧v=.ro 8 [] true)∨(ra≠[]∧∃ rb,v=.sl rb 8 0 ra.length ra.length false∧Pav.get h rb=some (.cells 8 (eHs ra) true true)∧lo≤rb∧rb < hi)
def aje (ra:List Hd) (ps:List Pl) (h:aI) (n:Nat) (v:AV) (h':aI) (n':Nat):Prop :=
 ∃ Rv pb cs id lo,v=.agg [Rv,.sl pb 1 0 ps.length ps.length false]∧akf h' n lo Rv ra∧kD oG h' lo n' id cs (ps.map (·.1))∧Pav.get h' pb=some (.cells 1 cs true false)∧n≤lo∧lo≤pb∧pb < n'∧(∀ j,j < ps.length→id j≠pb) ∧
  ∀ j,j < n→Pav.get h' j=Pav.get h j
theorem Wh (H:Y4 C) (ra:List Hd) (ea:Bool) (ps:List Pl) (pe:Bool) (hra:ra.length≤1000000) (hps:ps.length≤1000) (hpos:0 < ps.length) (hr:∀ p ∈ ps,p.1.length≤1000000) (h:aI) (n:Nat) :
 ∃ v h' n',RnW C 2031 [aSt ra ea ps pe] h n=some (v,h',n')∧aje ra ps h n v h' n':=by
 have hft:ra.length * 121≤35184372088832:=by omega
 by_cases c:ra=[]
 · subst c
   have T:CpI [] ea ps pe (.ro 8 [] true) (n+2) (n+1) n (n+11) 0 (put (put (put h n (.cells 2 [[.ro 8 [] ea,.ro 1 (ps.map ePl) pe]] true true)) (n+1) (.cells 2 [[.ro 8 [] true,.ro 1 [] true]] true true)) (n+2) (.cells 2 [[.ro 8 [] true,.ro 1 [] true]] true true))
    (put (put (put h n (.cells 2 [[.ro 8 [] ea,.ro 1 (ps.map ePl) pe]] true true)) (n+1) (.cells 2 [[.ro 8 [] true,.ro 1 [] true]] true true)) (n+2) (.cells 2 [[.ro 8 [] true,.ro 1 [] true]] true true)) (n+11) [] 0 (fun _=>0) true :=
    ⟨by simpa using kD.nil,by simp (disch:=omega) only [ak,aj];rfl,fun q=>absurd rfl q,fun q=>absurd rfl q,by simp (disch:=omega) only [ak,aj];rfl,by simp (disch:=omega) only [ak,aj],by omega,fun _ _ _=>rfl⟩
   obtain ⟨v,h',n',e1,pb,cs,id,e2,e3,e4,e5,e6,e7,e8,e9⟩:=Xi (C:=C) n [] ea ps pe (n+2) (n+1) n (n+11) _ hps hpos hr ps.length 0 (by simp) _ _ _ _ _ _ T
   refine ⟨v,h',n',?_,_,pb,cs,id,n+11,e2,.inl ⟨rfl,rfl⟩,e3,e4,by omega,e5,e6,e7,fun j hj=>?_⟩
   · rw [jR H.Zw rfl]
     simp (disch:=omega) [QZ,ak,aj,bI]
     simpa [bI] using e1
   · rw [e9 j (by omega) (by omega) (by omega)]
     simp (disch:=omega) only [aj]
 · have T:CpI ra ea ps pe (.sl (n+7) 8 0 ra.length ra.length false) (n+2) (n+1) n (n+11) 0 (put (put (put (put (put h n (.cells 2 [[.ro 8 (ra.map eHd) ea,.ro 1 (ps.map ePl) pe]] true true)) (n+1) (.cells 2 [[.ro 8 [] true,.ro 1 [] true]] true true)) (n+2) (.cells 2 [[.ro 8 [] true,.ro 1 [] true]] true true)) (n+7) (.cells 8 (ra.map eHd) true true)) (n+2) (.cells 2 [[.sl (n+7) 8 0 ra.length ra.length false,.ro 1 [] true]] true false))
    (put (put (put (put (put h n (.cells 2 [[.ro 8 (ra.map eHd) ea,.ro 1 (ps.map ePl) pe]] true true)) (n+1) (.cells 2 [[.ro 8 [] true,.ro 1 [] true]] true true)) (n+2) (.cells 2 [[.ro 8 [] true,.ro 1 [] true]] true true)) (n+7) (.cells 8 (ra.map eHd) true true)) (n+2) (.cells 2 [[.sl (n+7) 8 0 ra.length ra.length false,.ro 1 [] true]] true false)) (n+11) [] 0 (fun _=>0) false :=
    ⟨by simpa using kD.nil,by simp (disch:=omega) only [ak,aj];rfl,fun q=>absurd rfl q,fun q=>absurd rfl q,by simp (disch:=omega) only [ak,aj],by simp (disch:=omega) only [ak,aj],by omega,fun _ _ _=>rfl⟩
   obtain ⟨v,h',n',e1,pb,cs,id,e2,e3,e4,e5,e6,e7,e8,e9⟩:=XU (C:=C) n ra ea ps pe (n+7) ra.length (n+2) (n+1) n (n+11) _ hps hpos hr ps.length 0 (by simp) _ _ _ _ _ _ T
   refine ⟨v,h',n',?_,_,pb,cs,id,n+11,e2,.inr ⟨c,n+7,rfl,?_,by omega,by omega⟩,e3,e4,by omega,e5,e6,e7,fun j hj=>?_⟩
   · rw [jR H.Zw rfl]
     simp (disch:=omega) [QZ,ak,aj,bI,c,hft]
     exact e1
   · rw [e9 _ (by omega) (by omega) (by omega)]
     simp (disch:=omega) only [ak,aj]
   · rw [e9 j (by omega) (by omega) (by omega)]
     simp (disch:=omega) only [aj]
end Go.D
end
section
namespace Go.D
open Go Go.Pav Go.Pw P
set_option maxHeartbeats 1000000
attribute [-simp] List.getElem_cons_drop
variable {C:aJ}
abbrev cCf (vw ov ls:Int) (ks:List Kd) (ke:Bool) (cap ar fl:Int):List AV:=[.int .i64 vw,.int .i64 ov,.int .i64 ls,.ro 9 (ks.map eKd) ke,.int .i64 cap,.int .i64 ar,.int .u8 fl]
def tX (ks:List Kd) (t:Int):Int:=match ks[t.toNat]? with | some k=>k.pl | none=>0
def rowAt (W:List (List Hd)) (t:Int):List Hd:=W[t.toNat]?.getD []
def cm1 (ks:List Kd) (l:List En) (A:List Nat):List Hd→List (List Hd) × Int→List (List Hd) × Int
 | [],s=>s
 | h::r,s=>cm1 ks l A r (if stF h l A=true then s else if ((rowAt s.1 h.t).length:Int)=tX ks h.t then (s.1,s.2+1) else (s.1.set h.t.toNat (rowAt s.1 h.t++[h]),s.2))
section
variable (vw ov ls:Int) (ks:List Kd) (ke:Bool) (cap ar fl:Int) (ra:List Hd) (ea:Bool) (ps:List Pl) (pe:Bool)
structure CmI (RW:AV) (pb ob nb lo:Nat) (P:Option dG→Nat→AV→List Hd→Prop) (W:List (List Hd)) (N:List Int) (h:aI) (next:Nat) (cs:List (List AV)) (id:Nat→Nat):Prop where
 R:kD P h lo next id cs W
 wl:W.length=ks.length
 go:Pav.get h ob=some (.cells 2 [[RW,.sl pb 1 0 ks.length ks.length false]] true false)
 gp:Pav.get h pb=some (.cells 1 cs true false)
 gn:Pav.get h nb=some (.cells 4 [N.map (AV.int .i64)] true true)
 g0:Pav.get h 0=some (.cells 7 [cCf vw ov ls ks ke cap ar fl] true true)
 g1:Pav.get h 1=some (.cells 2 [[.ro 8 (ra.map eHd) ea,.ro 1 (ps.map ePl) pe]] true true)
 g2:Pav.get h 2=some (.cells 2 [[.ro 8 [] true,.ro 1 [] true]] true true)
 g3:Pav.get h 3=some (.cells 4 [[.int .i64 0,.int .i64 0,.int .i64 0,.int .i64 0]] true true)
 ne:4≤lo∧lo≤pb∧lo≤ob∧lo≤nb∧pb < next∧ob < next∧nb < next∧pb≠ob∧pb≠nb∧ob≠nb
 nd:∀ j,j < ks.length→id j≠pb∧id j≠ob∧id j≠nb
theorem CmI.later {RW:AV} {pb ob nb lo:Nat} {P:Option dG→Nat→AV→List Hd→Prop} {W:List (List Hd)} {N:List Int} {h h':aI} {next next':Nat} {cs:List (List AV)} {id:Nat→Nat}
 (T:CmI vw ov ls ks ke cap ar fl ra ea ps pe RW pb ob nb lo P W N h next cs id) (hn:next≤next') (hg:∀ j,j < next→Pav.get h' j=Pav.get h j):CmI vw ov ls ks ke cap ar fl ra ea ps pe RW pb ob nb lo P W N h' next' cs id:=by
 have ne:=T.ne
 exact ⟨T.R.mono hn (fun j hj=>hg _ (T.R.bd j hj).2),T.wl,by rw [hg _ (by omega)];exact T.go,by rw [hg _ (by omega)];exact T.gp,by rw [hg _ (by omega)];exact T.gn,by rw [hg _ (by omega)];exact T.g0,
  by rw [hg _ (by omega)];exact T.g1,by rw [hg _ (by omega)];exact T.g2,by rw [hg _ (by omega)];exact T.g3,by omega,T.nd⟩
theorem CmI.ag8 {RW:AV} {pb ob nb lo:Nat} {P:Option dG→Nat→AV→List Hd→Prop} {W:List (List Hd)} {N:List Int} {h:aI} {next:Nat} {cs:List (List AV)} {id:Nat→Nat}
 (T:CmI vw ov ls ks ke cap ar fl ra ea ps pe RW pb ob nb lo P W N h next cs id) (N':List Int):CmI vw ov ls ks ke cap ar fl ra ea ps pe RW pb ob nb lo P W N' (put h nb (.cells 4 [N'.map (AV.int .i64)] true true)) next cs id:=by
 have ne:=T.ne
 exact ⟨T.R.mono (Nat.le_refl _) (fun j hj=>aj (Ne.symm (T.nd j (by rw [← T.wl];exact hj)).2.2)),T.wl,by rw [aj (by omega)];exact T.go,by rw [aj (by omega)];exact T.gp,ak ..,by rw [aj (by omega)];exact T.g0,
  by rw [aj (by omega)];exact T.g1,by rw [aj (by omega)];exact T.g2,by rw [aj (by omega)];exact T.g3,T.ne,T.nd⟩
theorem CmI.ZF {RW:AV} {pb ob nb lo:Nat} {P:Option dG→Nat→AV→List Hd→Prop} {W:List (List Hd)} {N:List Int} {h h':aI} {next next':Nat} {cs:List (List AV)} {id:Nat→Nat}
 (T:CmI vw ov ls ks ke cap ar fl ra ea ps pe RW pb ob nb lo P W N h next cs id) (t:Nat) (ht:t < ks.length) (b:Nat) (hb:b=id t∨next≤b) (hb2:b < next') (hn:next≤next') (v:AV) (d:List Hd) (hP:P (Pav.get h' b) b v d)
 (hp:Pav.get h' pb=some (.cells 1 (cs.set t [v]) true false)) (hg:∀ j,j < next→j≠id t→j≠pb→Pav.get h' j=Pav.get h j) :
 CmI vw ov ls ks ke cap ar fl ra ea ps pe RW pb ob nb lo P (W.set t d) N h' next' (cs.set t [v]) (fun i=>if i=t then b else id i):=by
 have ne:=T.ne
 have wl:=T.wl
 have hbd:=T.R.bd t (by omega)
 have hnt:=T.nd t ht
 refine ⟨T.R.set t (by omega) b hb (by omega) hb2 hn v d (fun j hj hjt=>?_) hP,by simp [wl],?_,hp,?_,?_,?_,?_,?_,by omega,fun j hj=>?_⟩
 · have h1:=T.R.bd j hj
   exact hg _ h1.2 (fun q=>hjt (T.R.inj j t hj (by omega) q)) (T.nd j (by omega)).1
 · rw [hg _ (by omega) (by omega) (by omega)];exact T.go
 · rw [hg _ (by omega) (by omega) (by omega)];exact T.gn
 · rw [hg _ (by omega) (by omega) (by omega)];exact T.g0
 · rw [hg _ (by omega) (by omega) (by omega)];exact T.g1
 · rw [hg _ (by omega) (by omega) (by omega)];exact T.g2
 · rw [hg _ (by omega) (by omega) (by omega)];exact T.g3
 · have h1:=T.nd j hj
   split
   · rcases hb with q | q
     · rw [q];exact hnt
     · omega
   · exact h1
theorem X7 (H:Y4 C) (l:List En) (e:Bool) (A:List Nat) (f:Bool) (hA:A.length≤1000000) (hAl:∀ a ∈ A,a < l.length) (hra:ra.length≤1000) (hty:∀ x ∈ ra,∃ t:Nat,x.t=t∧t < ks.length)
 (pb ob nb lo:Nat):∀ m i,m+i=ra.length→∀ (W:List (List Hd)) (d:Int) (h:aI) (next:Nat) (cs:List (List AV)) (id:Nat→Nat),
 CmI vw ov ls ks ke cap ar fl ra ea ps pe (.ro 8 [] true) pb ob nb lo oG W [0,0,d,0] h next cs id→(∀ w ∈ W,w.length+m≤1000000)→0≤d→d+m≤1000000 →
 ∃ h' next' cs' id',CK C 0 (aP [.cell 8 2 true,.cell 9 4 true,.tmp 10]) [.sq EI,.bk 0 ⟨true,[12,11,9,8,5,4,3,2],[(9999,65537)]⟩,.sq yK] nN
  ⟨[(13,.int .i64 i),(12,.ptr nb 0 0),(11,.ptr ob 0 0),(9,.ptr 3 0 0),(8,.ptr 2 0 0),(5,.ptr 1 0 0),(4,.ptr 0 0 0),(3,.ro 1 (A.map eAt) f),(2,.ro 6 (l.map eEn) e)],h,next⟩ =
  CK C 0 (aP [.cell 8 2 true,.cell 9 4 true,.tmp 10]) [] yK
   ⟨[(12,.ptr nb 0 0),(11,.ptr ob 0 0),(9,.ptr 3 0 0),(8,.ptr 2 0 0),(5,.ptr 1 0 0),(4,.ptr 0 0 0),(3,.ro 1 (A.map eAt) f),(2,.ro 6 (l.map eEn) e)],h',next'⟩ ∧
  CmI vw ov ls ks ke cap ar fl ra ea ps pe (.ro 8 [] true) pb ob nb lo oG (cm1 ks l A (ra.drop i) (W,d)).1 [0,0,(cm1 ks l A (ra.drop i) (W,d)).2,0] h' next' cs' id':=by
 intro m
 induction m with
 | zero =>
  intro i hi W d h next cs id T hW h0 h1
  have h2:ra.drop i=[]:=List.drop_eq_nil_of_le (by omega)
  have h3:¬ i < ra.length:=by omega
  rw [h2]
  refine ⟨h,next+5,cs,id,?_,T.later vw ov ls ks ke cap ar fl ra ea ps pe (by omega) (fun _ _=>rfl)⟩
  rw [au nN.eq_1]
  simp (disch:=omega) [T.g1,h3]
 | succ m ih =>
  intro i hi W d h next cs id T hW h0 h1
  have h3:i < ra.length:=by omega
  obtain ⟨t,ht,htl⟩:=hty _ (List.getElem_mem h3)
  have hst:=Yu H.tonY ra[i] l e f A hA hAl
  have ne:=T.ne
  rw [drop_cons h3]
  have hwl:=T.wl
  have htW:t < W.length:=by omega
  have hrow:rowAt W ra[i].t=W[t]:=by rw [ht];simp [rowAt,htW]
  have hpl:tX ks ra[i].t=ks[t].pl:=by rw [ht];simp [tX,htl]
  have hW1:=hW _ (List.getElem_mem htW)
  have hcl:cs.length=ks.length:=by rw [T.R.len,hwl]
  have htc:t < cs.length:=by omega
  by_cases c:stF ra[i] l A=true
  · rw [if_pos c] at hst
    obtain ⟨h',n',cs',id',e1,e2⟩:=ih (i+1) (by omega) W d (put h (next+10) (.cells 8 [eHd ra[i]] true true)) (next+20) cs id (T.later vw ov ls ks ke cap ar fl ra ea ps pe (by omega) (fun j hj=>aj (by omega)))
     (fun w hw=>by have:=hW w hw;omega) h0 (by omega)
    refine ⟨h',n',cs',id',?_,by simp only [cm1,c,if_true];exact e2⟩
    rw [← e1]
    rw [au nN.eq_1]
    simp at hst
    simp (disch:=omega) [T.g1,h3,ak,aj,H.toQi.inl,aH,H.toQi.pp,ppB,hst,aN,bI]
  · rw [if_neg c] at hst
    obtain ⟨v,hv,hP⟩:=T.R.row t W[t] (List.getElem?_eq_getElem htW)
    rw [List.getElem?_eq_getElem htc] at hv
    replace hv:=Option.some.inj hv
    by_cases c2:(W[t].length:Int)=ks[t].pl
    · have hcm:∀ r s,cm1 ks l A (ra[i]::r) (W,s)=cm1 ks l A r (W,s+1):=by
       intro r s
       simp only [cm1,if_neg c]
       rw [if_pos (by rw [hrow,hpl];exact c2)]
      rw [hcm]
      have T1:=(T.later vw ov ls ks ke cap ar fl ra ea ps pe (h':=put h (next+10) (.cells 8 [eHd ra[i]] true true)) (next':=next+40) (by omega) (fun j hj=>aj (by omega))).ag8 vw ov ls ks ke cap ar fl ra ea ps pe [0,0,d+1,0]
      obtain ⟨h',n',cs',id',e1,e2⟩:=ih (i+1) (by omega) W (d+1) _ _ cs id T1 (fun w hw=>by have:=hW w hw;omega) (by omega) (by omega)
      refine ⟨h',n',cs',id',?_,e2⟩
      rw [← e1]
      rw [au nN.eq_1]
      simp [ht] at hst
      rcases hP with ⟨p0,p1,p2⟩ | ⟨p0,p1,p2⟩
      · rw [p1] at hv
        rw [p0] at c2
        simp at c2
        have c2:=c2.symm
        simp (disch:=omega) [T.g0,T.g1,T.go,T.gp,T.gn,p2,h3,ak,aj,aB,H.toQi.inl,aH,H.toQi.pp,ppB,hst,aN,bI,ht,htl,htc,hv,c2]
      · rw [p1] at hv
        simp (disch:=omega) [T.g0,T.g1,T.go,T.gp,T.gn,p2,h3,ak,aj,aB,H.toQi.inl,aH,H.toQi.pp,ppB,hst,aN,bI,ht,htl,htc,hv,c2]
    · have hcm:∀ r s,cm1 ks l A (ra[i]::r) (W,s)=cm1 ks l A r (W.set t (W[t]++[ra[i]]),s):=by
       intro r s
       have:ra[i].t.toNat=t:=by omega
       simp only [cm1,if_neg c]
       rw [if_neg (by rw [hrow,hpl];exact c2),hrow,this]
      rw [hcm]
      have nd:=T.nd t htl
      have bd:=T.R.bd t htW
      have hft:(W[t].length+1) * 121≤35184372088832:=by omega
      have hWn:∀ w ∈ W.set t (W[t]++[ra[i]]),w.length+m≤1000000:=by
       intro w hw
       rcases List.mem_or_eq_of_mem_set hw with q | q
       · have:=hW w q;omega
       · subst q;simp;omega
      rcases hP with ⟨p0,p1,p2⟩ | ⟨p0,p1,p2⟩
      · rw [p1] at hv
        have T1:=T.ZF vw ov ls ks ke cap ar fl ra ea ps pe t htl (next+44) (.inr (by omega)) (show next+44 < next+50 by omega) (by omega) (.sl (next+44) 8 0 1 1 false) (W[t]++[ra[i]])
         (h':=put (put (put (put h (next+10) (.cells 8 [(AV.int .u64 ra[i].k::AV.int .u8 t::ra[i].n.c)] true true)) (next+43) (.cells 8 [(AV.int .u64 ra[i].k::AV.int .u8 t::ra[i].n.c)] true true)) (next+44) (.cells 8 [(AV.int .u64 ra[i].k::AV.int .u8 t::ra[i].n.c)] true true)) pb (.cells 1 (cs.set t [.sl (next+44) 8 0 1 1 false]) true false))
         (.inr ⟨by simp,by rw [p0];rfl,by simp (disch:=omega) only [ak,aj];rw [p0];simp [ht]⟩) (by rw [ak]) (fun j h1 h2 h3=>by simp (disch:=omega) only [ak,aj])
        obtain ⟨h',n',cs',id',e1,e2⟩:=ih (i+1) (by omega) _ d _ _ _ _ T1 hWn h0 (by omega)
        refine ⟨h',n',cs',id',?_,e2⟩
        rw [← e1]
        rw [au nN.eq_1]
        rw [p0] at c2
        simp at c2
        simp [ht] at hst
        simp (disch:=omega) [T.g0,T.g1,T.go,T.gp,T.gn,p2,h3,ak,aj,aB,H.toQi.inl,aH,H.toQi.pp,ppB,hst,aN,bI,ht,htl,htc,hv,c2,ltF,gtF,neF,fits]
      · rw [p1] at hv
        have T1:=T.ZF vw ov ls ks ke cap ar fl ra ea ps pe t htl (next+44) (.inr (by omega)) (show next+44 < next+50 by omega) (by omega) (.sl (next+44) 8 0 (W[t].length+1) (W[t].length+1) false) (W[t]++[ra[i]])
         (h':=put (put (del (put (put h (next+10) (.cells 8 [(AV.int .u64 ra[i].k::AV.int .u8 t::ra[i].n.c)] true true)) (next+43) (.cells 8 [(AV.int .u64 ra[i].k::AV.int .u8 t::ra[i].n.c)] true true)) (id t)) (next+44) (.cells 8 (eHs W[t]++[(AV.int .u64 ra[i].k::AV.int .u8 t::ra[i].n.c)]) true true)) pb (.cells 1 (cs.set t [.sl (next+44) 8 0 (W[t].length+1) (W[t].length+1) false]) true false))
         (.inr ⟨by simp,by simp,by simp (disch:=omega) only [ak,aj];simp [ht]⟩) (by rw [ak]) (fun j h1 h2 h3=>by
          have:=Ne.symm h2
          simp (disch:=omega) only [ak,aj,aB])
        obtain ⟨h',n',cs',id',e1,e2⟩:=ih (i+1) (by omega) _ d _ _ _ _ T1 hWn h0 (by omega)
        refine ⟨h',n',cs',id',?_,e2⟩
        rw [← e1]
        rw [au nN.eq_1]
        simp [ht] at hst
        simp (disch:=omega) [T.g0,T.g1,T.go,T.gp,T.gn,p2,h3,ak,aj,aB,H.toQi.inl,aH,H.toQi.pp,ppB,hst,aN,bI,ht,htl,htc,hv,c2,ltF,gtF,neF,hft]
end
end Go.D
end
section
namespace Go.D
open Go Go.Pav Go.Pw P
set_option maxHeartbeats 2000000
attribute [-simp] List.getElem_cons_drop
variable {C:aJ}
structure Va (C:aJ):Prop extends Y4 C where
 f285:C.fns.get 285=some Tt
 f299:C.fns.get 299=some ab3
theorem XT (H:Va C) (vw ov ls:Int) (ks:List Kd) (ke:Bool) (cap ar fl:Int):FnW C 299 [.agg (cCf vw ov ls ks ke cap ar fl)]=some (aR ks ke cap):=by
 rw [aO H.f299 rfl]
 simp [ab3]
def mO (ra:List Hd) (e:En):Bool:=decide (0≤atF e.i.k 0 ra)&&(match ra[(atF e.i.k 0 ra).toNat]? with | some h=>decide (h.t=e.i.t) | none=>false)
def cm2 (tr:En→Nd) (ra:List Hd) (l:List En):List Nat→List Hd × List (List Hd) × Int × Int→List Hd × List (List Hd) × Int × Int
 | [],s=>s
 | a::r,s=>cm2 tr ra l r (match l[a]? with
  | none=>s
  | some e=>if mO ra e=true then (s.1++[⟨e.i.k,e.i.t,tr e⟩],s.2) else if (rowAt s.2.1 e.i.t).length=0 then (s.1++[⟨e.i.k,e.i.t,tr e⟩],s.2.1,s.2.2.1,s.2.2.2+1)
   else (s.1++[⟨e.i.k,e.i.t,tr e⟩],s.2.1.set e.i.t.toNat ((rowAt s.2.1 e.i.t).take ((rowAt s.2.1 e.i.t).length - 1)),s.2.2.1+1,s.2.2.2))
def qE (ks:List Kd) (pb ob nb lo:Nat) (RW:AV) (O:List Hd) (rb:Nat) (h:aI) (next:Nat) (id:Nat→Nat):Prop :=
 (O=[]∧RW=.ro 8 [] true)∨(O≠[]∧RW=.sl rb 8 0 O.length O.length false∧Pav.get h rb=some (.cells 8 (eHs O) true true)∧lo≤rb∧rb < next∧rb≠pb∧rb≠ob∧rb≠nb∧∀ j,j < ks.length→id j≠rb)
theorem GL (k:Int):∀ (l:List Hd) (i:Nat),0≤atF k i l→(i:Int)≤atF k i l∧atF k i l < i+l.length
 | [],i,h=>by simp [atF] at h
 | x::l,i,h=>by
  simp only [atF] at h ⊢
  split at h
  · rename_i q;rw [if_pos q];simp;omega
  · rename_i q
    rw [if_neg q]
    have:=GL k l (i+1) h
    simp only [List.length_cons];push_cast at this ⊢;omega
section
variable (vw ov ls:Int) (ks:List Kd) (ke:Bool) (cap ar fl:Int) (ra:List Hd) (ea:Bool) (ps:List Pl) (pe:Bool)
theorem Zm (H:Va C) (tr:En→Nd) (l:List En) (e:Bool) (A:List Nat) (f:Bool) (hA:A.length≤1000) (hAl:∀ a ∈ A,a < l.length) (hra:ra.length≤1000000)
 (hty:∀ x ∈ l,∃ t:Nat,x.i.t=t∧t < ks.length) (htr:∀ (a:Nat) (h:a < l.length),FnW C 417 [aR ks ke cap,.ro 6 (l.map eEn) e,.int .i64 a]=some (.agg (tr l[a]).c))
 (pb ob nb lo:Nat):∀ m i,m+i=A.length→∀ (RW:AV) (O:List Hd) (rbk:Nat) (W:List (List Hd)) (rb mk d:Int) (h:aI) (next:Nat) (cs:List (List AV)) (id:Nat→Nat),
 CmI vw ov ls ks ke cap ar fl ra ea ps pe RW pb ob nb lo jk W [rb,mk,d,0] h next cs id→qE ks pb ob nb lo RW O rbk h next id→O.length+m≤1000000→0≤rb→rb+m≤1000000→0≤mk→mk+m≤1000000→(∀ w ∈ W,w.length≤1000000) →
 ∃ h' next' cs' id' RW' rbk',CK C 0 (aP [.cell 8 2 true,.cell 9 4 true,.tmp 10]) [.sq yt,.bk 2 ⟨true,[12,11,9,8,4],[(9999,65537)]⟩,.sq rV] oZ
  ⟨[(15,.int .i64 i),(12,.ptr nb 0 0),(11,.ptr ob 0 0),(9,.ptr 3 0 0),(8,.ptr 2 0 0),(5,.ptr 1 0 0),(4,.ptr 0 0 0),(3,.ro 1 (A.map eAt) f),(2,.ro 6 (l.map eEn) e)],h,next⟩ =
  CK C 0 (aP [.cell 8 2 true,.cell 9 4 true,.tmp 10]) [] rV
   ⟨[(12,.ptr nb 0 0),(11,.ptr ob 0 0),(9,.ptr 3 0 0),(8,.ptr 2 0 0),(4,.ptr 0 0 0)],h',next'⟩ ∧
  CmI vw ov ls ks ke cap ar fl ra ea ps pe RW' pb ob nb lo jk (cm2 tr ra l (A.drop i) (O,W,rb,mk)).2.1 [(cm2 tr ra l (A.drop i) (O,W,rb,mk)).2.2.1,(cm2 tr ra l (A.drop i) (O,W,rb,mk)).2.2.2,d,0] h' next' cs' id' ∧
  qE ks pb ob nb lo RW' (cm2 tr ra l (A.drop i) (O,W,rb,mk)).1 rbk' h' next' id':=by
 intro m
 induction m with
 | zero =>
  intro i hi RW O rbk W rb mk d h next cs id T U hO hrb hrb2 hmk hmk2 hW
  have h2:A.drop i=[]:=List.drop_eq_nil_of_le (by omega)
  have h3:¬ i < A.length:=by omega
  rw [h2]
  refine ⟨h,next+4,cs,id,RW,rbk,?_,T.later vw ov ls ks ke cap ar fl ra ea ps pe (by omega) (fun _ _=>rfl),?_⟩
  · rw [au oZ.eq_1]
    simp (disch:=omega) [h3]
  · rcases U with u | ⟨u1,u2,u3,u4,u5,u6⟩
    · exact .inl u
    · exact .inr ⟨u1,u2,u3,u4,by omega,u6⟩
 | succ m ih =>
  intro i hi RW O rbk W rb mk d h next cs id T U hO hrb hrb2 hmk hmk2 hW
  have h3:i < A.length:=by omega
  have hAi:=hAl _ (List.getElem_mem h3)
  obtain ⟨t,ht,htl⟩:=hty _ (List.getElem_mem hAi)
  have htree:=htr A[i] hAi
  have hrules:=XT H vw ov ls ks ke cap ar fl
  have hat:=ahy H.tonY ra ea l[A[i]].i.k hra
  have ne:=T.ne
  have hwl:=T.wl
  have htW:t < W.length:=by omega
  have hcl:cs.length=ks.length:=by rw [T.R.len,hwl]
  have htc:t < cs.length:=by omega
  have hW1:=hW _ (List.getElem_mem htW)
  have hrow:rowAt W l[A[i]].i.t=W[t]:=by rw [ht];simp [rowAt,htW]
  have hft:(O.length+1) * 121≤35184372088832:=by omega
  have hNc:=(tr l[A[i]]).bZ
  rw [drop_cons h3]
  try simp at htree
  try simp at hat
  obtain ⟨v,hv,hP⟩:=T.R.row t W[t] (List.getElem?_eq_getElem htW)
  rw [List.getElem?_eq_getElem htc] at hv
  replace hv:=Option.some.inj hv
  obtain ⟨cap2,ex,es,rfl,q1,q2,q3,q4⟩:=hP
  have bd:=T.R.bd t htW
  have nd:=T.nd t htl
  have hatt:l[A[i]].i.t.toNat=t:=by omega
  rcases U with ⟨u1,u2⟩ | ⟨u1,u2,u3,u4,u5,u6,u7,u8,u9⟩
  · subst u1;subst u2
    obtain ⟨L,hL⟩:∃ L,L=CK C 0 (aP [.cell 8 2 true,.cell 9 4 true,.tmp 10]) [.sq yt,.bk 2 ⟨true,[12,11,9,8,4],[(9999,65537)]⟩,.sq rV] oZ
     ⟨[(15,.int .i64 i),(12,.ptr nb 0 0),(11,.ptr ob 0 0),(9,.ptr 3 0 0),(8,.ptr 2 0 0),(5,.ptr 1 0 0),(4,.ptr 0 0 0),(3,.ro 1 (A.map eAt) f),(2,.ro 6 (l.map eEn) e)],h,next⟩:=⟨_,rfl⟩
    rw [← hL]
    rw [au oZ.eq_1] at hL
    simp (disch:=omega) [T.g0,T.g1,T.go,h3,hAi,ak,aj,aB,H.toQi.inl,aH,H.toQi.pp,ppB,htree,hrules,aN,bI,ltF,gtF,neF,fits,hft] at hL
    by_cases c:mO ra l[A[i]]=true
    · have hcm:∀ O r,cm2 tr ra l (A[i]::r) (O,W,rb,mk)=cm2 tr ra l r (O++[⟨l[A[i]].i.k,l[A[i]].i.t,tr l[A[i]]⟩],W,rb,mk):=by
       intro O r
       simp only [cm2,List.getElem?_eq_getElem hAi,c,if_true]
      obtain ⟨c1,c2⟩:=Bool.and_eq_true _ _ ▸ c
      have c1:=of_decide_eq_true c1
      obtain ⟨hge,hlt⟩:=GL _ _ _ c1
      obtain ⟨k,hk⟩:∃ k:Nat,atF l[A[i]].i.k 0 ra=k:=⟨(atF l[A[i]].i.k 0 ra).toNat,by omega⟩
      have hkl:k < ra.length:=by omega
      rw [hk] at c2
      simp [hkl] at c2
      obtain ⟨hh,hhe⟩:∃ hh,hh=put (put (put (put (put h (next+12) (.cells 4 [[AV.int .u64 l[A[i]].i.k,AV.int .u8 l[A[i]].i.t,AV.str l[A[i]].i.x,AV.ro 1 (List.map eS l[A[i]].i.m) l[A[i]].i.e]] true true)) (next+27) (.cells 8 [(AV.int .u64 l[A[i]].i.k::AV.int .u8 l[A[i]].i.t::(tr l[A[i]]).c)] true true)) (next+32) (.cells 8 [(AV.int .u64 l[A[i]].i.k::AV.int .u8 l[A[i]].i.t::(tr l[A[i]]).c)] true true)) (next+33) (.cells 8 [(AV.int .u64 l[A[i]].i.k::AV.int .u8 l[A[i]].i.t::(tr l[A[i]]).c)] true true)) ob (.cells 2 [[.sl (next+33) 8 0 1 1 false,.sl pb 1 0 ks.length ks.length false]] true false):=⟨_,rfl⟩
      have T1:CmI vw ov ls ks ke cap ar fl ra ea ps pe (.sl (next+33) 8 0 1 1 false) pb ob nb lo jk W [rb,mk,d,0] hh (next+58) cs id:=by
       refine ⟨T.R.mono (by omega) (fun j hj=>by rw [hhe];have:=T.R.bd j (by omega);have:=T.nd j (by omega);simp (disch:=omega) only [ak,aj,aB]),by simp [hwl],?_,?_,?_,?_,?_,?_,?_,by omega,fun j hj=>?_⟩
       any_goals (rw [hhe];simp (disch:=omega) only [ak,aj,aB] <;> first | rfl | exact T.g0 | exact T.g1 | exact T.g2 | exact T.g3 | exact T.gp | exact T.gn)
       · have:=T.nd j hj
         exact this
      have U1:qE ks pb ob nb lo (.sl (next+33) 8 0 1 1 false) [⟨l[A[i]].i.k,l[A[i]].i.t,tr l[A[i]]⟩] (next+33) hh (next+58) id:=by
       refine .inr ⟨by simp,by simp,?_,by omega,by omega,by omega,by omega,by omega,fun j hj=>?_⟩
       · rw [hhe];simp (disch:=omega) only [ak,aj,aB];simp [ht]
       · have:=T.R.bd j (by omega);have:=T.R.bd t htW;omega
      obtain ⟨h',n',cs',id',RW',rbk',e1,e2,e3⟩:=ih (i+1) (by omega) _ [⟨l[A[i]].i.k,l[A[i]].i.t,tr l[A[i]]⟩] _ W rb mk d _ _ _ _ T1 U1 (by simp;omega) (by omega) (by omega) (by omega) (by omega) hW
      refine ⟨h',n',cs',id',RW',rbk',?_,by rw [hcm];exact e2,by rw [hcm];exact e3⟩
      rw [hL,← e1,hhe]
      simp (disch:=omega) [T.g0,T.g1,T.go,T.gp,T.gn,hAi,ak,aj,aB,H.toQi.inl,aH,H.toQi.pp,ppB,hat,aN,bI,ltF,gtF,neF,fits,hft,hk,hkl,c2]
    · have c':mO ra l[A[i]]=false:=by simpa using c
      have hc0:(∃ _:¬ 0≤atF l[A[i]].i.k 0 ra,True)∨∃ k:Nat,atF l[A[i]].i.k 0 ra=k∧∃ h:k < ra.length,¬ ra[k].t=(t:Int):=by
       by_cases c0:0≤atF l[A[i]].i.k 0 ra
       · obtain ⟨hge,hlt⟩:=GL _ _ _ c0
         refine .inr ⟨(atF l[A[i]].i.k 0 ra).toNat,by omega,by omega,fun q=>?_⟩
         have hkl:(atF l[A[i]].i.k 0 ra).toNat < ra.length:=by omega
         have:mO ra l[A[i]]=true:=by simp [mO,c0,hkl,q,ht]
         exact c this
       · exact .inl ⟨c0,trivial⟩
      by_cases c3:W[t].length=0
      · have hcm:∀ O r,cm2 tr ra l (A[i]::r) (O,W,rb,mk)=cm2 tr ra l r (O++[⟨l[A[i]].i.k,l[A[i]].i.t,tr l[A[i]]⟩],W,rb,mk+1):=by
         intro O r
         simp only [cm2,List.getElem?_eq_getElem hAi,c',hrow,c3,if_true,Bool.false_eq_true,if_false]
        rw [c3] at hv
        rcases hc0 with ⟨c0,_⟩ | ⟨k,hk,hkl,c2⟩
        · skip
          obtain ⟨hh,hhe⟩:∃ hh,hh=put (put (put (put (put (put h (next+12) (.cells 4 [[AV.int .u64 l[A[i]].i.k,AV.int .u8 (t:Int),AV.str l[A[i]].i.x,AV.ro 1 (List.map eS l[A[i]].i.m) l[A[i]].i.e]] true true)) (next+27) (.cells 8 [(AV.int .u64 l[A[i]].i.k::AV.int .u8 (t:Int)::(tr l[A[i]]).c)] true true)) (next+32) (.cells 8 [(AV.int .u64 l[A[i]].i.k::AV.int .u8 (t:Int)::(tr l[A[i]]).c)] true true)) (next+33) (.cells 8 [(AV.int .u64 l[A[i]].i.k::AV.int .u8 (t:Int)::(tr l[A[i]]).c)] true true)) ob (.cells 2 [[.sl (next+33) 8 0 1 1 false,.sl pb 1 0 ks.length ks.length false]] true false)) nb (.cells 4 [[.int .i64 rb,.int .i64 (mk+1),.int .i64 d,.int .i64 0]] true true):=⟨_,rfl⟩
          have T1:CmI vw ov ls ks ke cap ar fl ra ea ps pe (.sl (next+33) 8 0 1 1 false) pb ob nb lo jk W [rb,mk+1,d,0] hh (next+73) cs id:=by
           refine ⟨T.R.mono (by omega) (fun j hj=>by rw [hhe];have:=T.R.bd j (by omega);have:=T.nd j (by omega);simp (disch:=omega) only [ak,aj,aB]),by simp [hwl],?_,?_,?_,?_,?_,?_,?_,by omega,fun j hj=>?_⟩
           any_goals (rw [hhe];simp (disch:=omega) only [ak,aj,aB] <;> first | rfl | exact T.g0 | exact T.g1 | exact T.g2 | exact T.g3 | exact T.gp | exact T.gn)
           · have:=T.nd j hj
             exact this
          have U1:qE ks pb ob nb lo (.sl (next+33) 8 0 1 1 false) [⟨l[A[i]].i.k,l[A[i]].i.t,tr l[A[i]]⟩] (next+33) hh (next+73) id:=by
           refine .inr ⟨by simp,by simp,?_,by omega,by omega,by omega,by omega,by omega,fun j hj=>?_⟩
           · rw [hhe];simp (disch:=omega) only [ak,aj,aB];simp [ht]
           · have:=T.R.bd j (by omega);have:=T.R.bd t htW;omega
          obtain ⟨h',n',cs',id',RW',rbk',e1,e2,e3⟩:=ih (i+1) (by omega) _ [⟨l[A[i]].i.k,l[A[i]].i.t,tr l[A[i]]⟩] _ W rb (mk+1) d _ _ _ _ T1 U1 (by simp;omega) (by omega) (by omega) (by omega) (by omega) hW
          refine ⟨h',n',cs',id',RW',rbk',?_,by rw [hcm];exact e2,by rw [hcm];exact e3⟩
          rw [hL,← e1,hhe]
          simp (disch:=omega) [T.g0,T.g1,T.go,T.gp,T.gn,hAi,ak,aj,aB,H.toQi.inl,aH,H.toQi.pp,ppB,hat,aN,bI,ltF,gtF,neF,fits,hft,ht,htc,htl,hv,c0]
        · skip
          obtain ⟨hh,hhe⟩:∃ hh,hh=put (put (put (put (put (put h (next+12) (.cells 4 [[AV.int .u64 l[A[i]].i.k,AV.int .u8 (t:Int),AV.str l[A[i]].i.x,AV.ro 1 (List.map eS l[A[i]].i.m) l[A[i]].i.e]] true true)) (next+27) (.cells 8 [(AV.int .u64 l[A[i]].i.k::AV.int .u8 (t:Int)::(tr l[A[i]]).c)] true true)) (next+32) (.cells 8 [(AV.int .u64 l[A[i]].i.k::AV.int .u8 (t:Int)::(tr l[A[i]]).c)] true true)) (next+33) (.cells 8 [(AV.int .u64 l[A[i]].i.k::AV.int .u8 (t:Int)::(tr l[A[i]]).c)] true true)) ob (.cells 2 [[.sl (next+33) 8 0 1 1 false,.sl pb 1 0 ks.length ks.length false]] true false)) nb (.cells 4 [[.int .i64 rb,.int .i64 (mk+1),.int .i64 d,.int .i64 0]] true true):=⟨_,rfl⟩
          have T1:CmI vw ov ls ks ke cap ar fl ra ea ps pe (.sl (next+33) 8 0 1 1 false) pb ob nb lo jk W [rb,mk+1,d,0] hh (next+73) cs id:=by
           refine ⟨T.R.mono (by omega) (fun j hj=>by rw [hhe];have:=T.R.bd j (by omega);have:=T.nd j (by omega);simp (disch:=omega) only [ak,aj,aB]),by simp [hwl],?_,?_,?_,?_,?_,?_,?_,by omega,fun j hj=>?_⟩
           any_goals (rw [hhe];simp (disch:=omega) only [ak,aj,aB] <;> first | rfl | exact T.g0 | exact T.g1 | exact T.g2 | exact T.g3 | exact T.gp | exact T.gn)
           · have:=T.nd j hj
             exact this
          have U1:qE ks pb ob nb lo (.sl (next+33) 8 0 1 1 false) [⟨l[A[i]].i.k,l[A[i]].i.t,tr l[A[i]]⟩] (next+33) hh (next+73) id:=by
           refine .inr ⟨by simp,by simp,?_,by omega,by omega,by omega,by omega,by omega,fun j hj=>?_⟩
           · rw [hhe];simp (disch:=omega) only [ak,aj,aB];simp [ht]
           · have:=T.R.bd j (by omega);have:=T.R.bd t htW;omega
          obtain ⟨h',n',cs',id',RW',rbk',e1,e2,e3⟩:=ih (i+1) (by omega) _ [⟨l[A[i]].i.k,l[A[i]].i.t,tr l[A[i]]⟩] _ W rb (mk+1) d _ _ _ _ T1 U1 (by simp;omega) (by omega) (by omega) (by omega) (by omega) hW
          refine ⟨h',n',cs',id',RW',rbk',?_,by rw [hcm];exact e2,by rw [hcm];exact e3⟩
          rw [hL,← e1,hhe]
          simp (disch:=omega) [T.g0,T.g1,T.go,T.gp,T.gn,hAi,ak,aj,aB,H.toQi.inl,aH,H.toQi.pp,ppB,hat,aN,bI,ltF,gtF,neF,fits,hft,ht,htc,htl,hv,hk,hkl,c2]
      · obtain ⟨n,hn⟩:∃ n,W[t].length=n+1:=⟨W[t].length - 1,by omega⟩
        have hcm:∀ O r,cm2 tr ra l (A[i]::r) (O,W,rb,mk)=cm2 tr ra l r (O++[⟨l[A[i]].i.k,l[A[i]].i.t,tr l[A[i]]⟩],W.set t (W[t].take n),rb+1,mk):=by
         intro O r
         have:W[t].length - 1=n:=by omega
         simp only [cm2,List.getElem?_eq_getElem hAi,c',hrow,c3,Bool.false_eq_true,if_false,hatt,this]
        rw [hn] at hv q1 q2 q3
        have hnl:(W[t].take n).length=n:=by simp;omega
        have hes3:=q3
        have hwn:IntKind.i64.wrap (n:Int)=n:=aN (by omega) (by omega)
        have hne0:¬ ((n:Int)+1=0):=by omega
        have hncap:n≤cap2:=by omega
        have hcap1:n+1≤cap2:=by omega
        have hcap0:0 < cap2:=by omega
        have hWs:∀ w ∈ W.set t (W[t].take n),w.length≤1000000:=by
         intro w hw
         rcases List.mem_or_eq_of_mem_set hw with q | q
         · exact hW w q
         · subst q;omega
        have hANY:∀ o,o=some (dG.cells 8 (eHs es) true true)→jk o (id t) (.sl (id t) 8 0 n cap2 ex) (W[t].take n):=by
         rintro o rfl
         refine ⟨cap2,ex,es,by rw [hnl],by omega,by omega,?_,rfl⟩
         rw [hnl,← hes3,List.take_take]
         congr 1
         omega
        rcases hc0 with ⟨c0,_⟩ | ⟨k,hk,hkl,c2⟩
        · skip
          obtain ⟨hh,hhe⟩:∃ hh,hh=put (put (put (put (put (put (put h (next+12) (.cells 4 [[AV.int .u64 l[A[i]].i.k,AV.int .u8 (t:Int),AV.str l[A[i]].i.x,AV.ro 1 (List.map eS l[A[i]].i.m) l[A[i]].i.e]] true true)) (next+27) (.cells 8 [(AV.int .u64 l[A[i]].i.k::AV.int .u8 (t:Int)::(tr l[A[i]]).c)] true true)) (next+32) (.cells 8 [(AV.int .u64 l[A[i]].i.k::AV.int .u8 (t:Int)::(tr l[A[i]]).c)] true true)) (next+33) (.cells 8 [(AV.int .u64 l[A[i]].i.k::AV.int .u8 (t:Int)::(tr l[A[i]]).c)] true true)) ob (.cells 2 [[.sl (next+33) 8 0 1 1 false,.sl pb 1 0 ks.length ks.length false]] true false)) nb (.cells 4 [[.int .i64 (rb+1),.int .i64 mk,.int .i64 d,.int .i64 0]] true true)) pb (.cells 1 (cs.set t [.sl (id t) 8 0 n cap2 ex]) true false):=⟨_,rfl⟩
          have T1:CmI vw ov ls ks ke cap ar fl ra ea ps pe (.sl (next+33) 8 0 1 1 false) pb ob nb lo jk (W.set t (W[t].take n)) [rb+1,mk,d,0] hh (next+88) (cs.set t [.sl (id t) 8 0 n cap2 ex]) (fun j=>if j=t then id t else id j):=by
           refine ⟨T.R.set t htW (id t) (.inl rfl) bd.1 (by omega) (by omega) _ _ (fun j hj hjt=>by rw [hhe];have:=T.R.bd j (by omega);have:=T.nd j (by omega);simp (disch:=omega) only [ak,aj,aB]) (hANY _ (by rw [hhe];simp (disch:=omega) only [ak,aj,aB];exact q4)),by simp [hwl],?_,?_,?_,?_,?_,?_,?_,by omega,fun j hj=>?_⟩
           any_goals (rw [hhe];simp (disch:=omega) only [ak,aj,aB] <;> first | rfl | exact T.g0 | exact T.g1 | exact T.g2 | exact T.g3 | exact T.gp | exact T.gn)
           · have h1:=T.nd j hj
             have h2:=T.nd t htl
             split <;> assumption
          have U1:qE ks pb ob nb lo (.sl (next+33) 8 0 1 1 false) [⟨l[A[i]].i.k,l[A[i]].i.t,tr l[A[i]]⟩] (next+33) hh (next+88) (fun j=>if j=t then id t else id j):=by
           refine .inr ⟨by simp,by simp,?_,by omega,by omega,by omega,by omega,by omega,fun j hj=>?_⟩
           · rw [hhe];simp (disch:=omega) only [ak,aj,aB];simp [ht]
           · have:=T.R.bd j (by omega);have:=T.R.bd t htW;show (if j=t then id t else id j)≠next+33;split <;> omega
          obtain ⟨h',n',cs',id',RW',rbk',e1,e2,e3⟩:=ih (i+1) (by omega) _ [⟨l[A[i]].i.k,l[A[i]].i.t,tr l[A[i]]⟩] _ (W.set t (W[t].take n)) (rb+1) mk d _ _ _ _ T1 U1 (by simp;omega) (by omega) (by omega) (by omega) (by omega) hWs
          refine ⟨h',n',cs',id',RW',rbk',?_,by rw [hcm];exact e2,by rw [hcm];exact e3⟩
          rw [hL,← e1,hhe]
          simp (disch:=omega) [T.g0,T.g1,T.go,T.gp,T.gn,hAi,ak,aj,aB,H.toQi.inl,aH,H.toQi.pp,ppB,hat,aN,bI,ltF,gtF,neF,fits,hft,ht,htc,htl,hv,hwn,hncap,hne0,hcap1,hcap0,c0]
        · skip
          obtain ⟨hh,hhe⟩:∃ hh,hh=put (put (put (put (put (put (put h (next+12) (.cells 4 [[AV.int .u64 l[A[i]].i.k,AV.int .u8 (t:Int),AV.str l[A[i]].i.x,AV.ro 1 (List.map eS l[A[i]].i.m) l[A[i]].i.e]] true true)) (next+27) (.cells 8 [(AV.int .u64 l[A[i]].i.k::AV.int .u8 (t:Int)::(tr l[A[i]]).c)] true true)) (next+32) (.cells 8 [(AV.int .u64 l[A[i]].i.k::AV.int .u8 (t:Int)::(tr l[A[i]]).c)] true true)) (next+33) (.cells 8 [(AV.int .u64 l[A[i]].i.k::AV.int .u8 (t:Int)::(tr l[A[i]]).c)] true true)) ob (.cells 2 [[.sl (next+33) 8 0 1 1 false,.sl pb 1 0 ks.length ks.length false]] true false)) nb (.cells 4 [[.int .i64 (rb+1),.int .i64 mk,.int .i64 d,.int .i64 0]] true true)) pb (.cells 1 (cs.set t [.sl (id t) 8 0 n cap2 ex]) true false):=⟨_,rfl⟩
          have T1:CmI vw ov ls ks ke cap ar fl ra ea ps pe (.sl (next+33) 8 0 1 1 false) pb ob nb lo jk (W.set t (W[t].take n)) [rb+1,mk,d,0] hh (next+88) (cs.set t [.sl (id t) 8 0 n cap2 ex]) (fun j=>if j=t then id t else id j):=by
           refine ⟨T.R.set t htW (id t) (.inl rfl) bd.1 (by omega) (by omega) _ _ (fun j hj hjt=>by rw [hhe];have:=T.R.bd j (by omega);have:=T.nd j (by omega);simp (disch:=omega) only [ak,aj,aB]) (hANY _ (by rw [hhe];simp (disch:=omega) only [ak,aj,aB];exact q4)),by simp [hwl],?_,?_,?_,?_,?_,?_,?_,by omega,fun j hj=>?_⟩
           any_goals (rw [hhe];simp (disch:=omega) only [ak,aj,aB] <;> first | rfl | exact T.g0 | exact T.g1 | exact T.g2 | exact T.g3 | exact T.gp | exact T.gn)
           · have h1:=T.nd j hj
             have h2:=T.nd t htl
             split <;> assumption
          have U1:qE ks pb ob nb lo (.sl (next+33) 8 0 1 1 false) [⟨l[A[i]].i.k,l[A[i]].i.t,tr l[A[i]]⟩] (next+33) hh (next+88) (fun j=>if j=t then id t else id j):=by
           refine .inr ⟨by simp,by simp,?_,by omega,by omega,by omega,by omega,by omega,fun j hj=>?_⟩
           · rw [hhe];simp (disch:=omega) only [ak,aj,aB];simp [ht]
           · have:=T.R.bd j (by omega);have:=T.R.bd t htW;show (if j=t then id t else id j)≠next+33;split <;> omega
          obtain ⟨h',n',cs',id',RW',rbk',e1,e2,e3⟩:=ih (i+1) (by omega) _ [⟨l[A[i]].i.k,l[A[i]].i.t,tr l[A[i]]⟩] _ (W.set t (W[t].take n)) (rb+1) mk d _ _ _ _ T1 U1 (by simp;omega) (by omega) (by omega) (by omega) (by omega) hWs
          refine ⟨h',n',cs',id',RW',rbk',?_,by rw [hcm];exact e2,by rw [hcm];exact e3⟩
          rw [hL,← e1,hhe]
          simp (disch:=omega) [T.g0,T.g1,T.go,T.gp,T.gn,hAi,ak,aj,aB,H.toQi.inl,aH,H.toQi.pp,ppB,hat,aN,bI,ltF,gtF,neF,fits,hft,ht,htc,htl,hv,hwn,hncap,hne0,hcap1,hcap0,hk,hkl,c2]
  · subst u2
    obtain ⟨L,hL⟩:∃ L,L=CK C 0 (aP [.cell 8 2 true,.cell 9 4 true,.tmp 10]) [.sq yt,.bk 2 ⟨true,[12,11,9,8,4],[(9999,65537)]⟩,.sq rV] oZ
     ⟨[(15,.int .i64 i),(12,.ptr nb 0 0),(11,.ptr ob 0 0),(9,.ptr 3 0 0),(8,.ptr 2 0 0),(5,.ptr 1 0 0),(4,.ptr 0 0 0),(3,.ro 1 (A.map eAt) f),(2,.ro 6 (l.map eEn) e)],h,next⟩:=⟨_,rfl⟩
    rw [← hL]
    rw [au oZ.eq_1] at hL
    simp (disch:=omega) [T.g0,T.g1,T.go,h3,hAi,ak,aj,aB,H.toQi.inl,aH,H.toQi.pp,ppB,htree,hrules,aN,bI,ltF,gtF,neF,fits,hft,u3] at hL
    by_cases c:mO ra l[A[i]]=true
    · have hcm:∀ O r,cm2 tr ra l (A[i]::r) (O,W,rb,mk)=cm2 tr ra l r (O++[⟨l[A[i]].i.k,l[A[i]].i.t,tr l[A[i]]⟩],W,rb,mk):=by
       intro O r
       simp only [cm2,List.getElem?_eq_getElem hAi,c,if_true]
      obtain ⟨c1,c2⟩:=Bool.and_eq_true _ _ ▸ c
      have c1:=of_decide_eq_true c1
      obtain ⟨hge,hlt⟩:=GL _ _ _ c1
      obtain ⟨k,hk⟩:∃ k:Nat,atF l[A[i]].i.k 0 ra=k:=⟨(atF l[A[i]].i.k 0 ra).toNat,by omega⟩
      have hkl:k < ra.length:=by omega
      rw [hk] at c2
      simp [hkl] at c2
      obtain ⟨hh,hhe⟩:∃ hh,hh=put (put (del (put (put (put h (next+12) (.cells 4 [[AV.int .u64 l[A[i]].i.k,AV.int .u8 l[A[i]].i.t,AV.str l[A[i]].i.x,AV.ro 1 (List.map eS l[A[i]].i.m) l[A[i]].i.e]] true true)) (next+27) (.cells 8 [(AV.int .u64 l[A[i]].i.k::AV.int .u8 l[A[i]].i.t::(tr l[A[i]]).c)] true true)) (next+32) (.cells 8 [(AV.int .u64 l[A[i]].i.k::AV.int .u8 l[A[i]].i.t::(tr l[A[i]]).c)] true true)) rbk) (next+33) (.cells 8 (eHs O++[(AV.int .u64 l[A[i]].i.k::AV.int .u8 l[A[i]].i.t::(tr l[A[i]]).c)]) true true)) ob (.cells 2 [[.sl (next+33) 8 0 (O.length+1) (O.length+1) false,.sl pb 1 0 ks.length ks.length false]] true false):=⟨_,rfl⟩
      have T1:CmI vw ov ls ks ke cap ar fl ra ea ps pe (.sl (next+33) 8 0 (O.length+1) (O.length+1) false) pb ob nb lo jk W [rb,mk,d,0] hh (next+58) cs id:=by
       refine ⟨T.R.mono (by omega) (fun j hj=>by rw [hhe];have:=T.R.bd j (by omega);have:=T.nd j (by omega);have:=u9 j (by omega);simp (disch:=omega) only [ak,aj,aB]),by simp [hwl],?_,?_,?_,?_,?_,?_,?_,by omega,fun j hj=>?_⟩
       any_goals (rw [hhe];simp (disch:=omega) only [ak,aj,aB] <;> first | rfl | exact T.g0 | exact T.g1 | exact T.g2 | exact T.g3 | exact T.gp | exact T.gn)
       · have:=T.nd j hj
         exact this
      have U1:qE ks pb ob nb lo (.sl (next+33) 8 0 (O.length+1) (O.length+1) false) (O++[⟨l[A[i]].i.k,l[A[i]].i.t,tr l[A[i]]⟩]) (next+33) hh (next+58) id:=by
       refine .inr ⟨by simp,by simp,?_,by omega,by omega,by omega,by omega,by omega,fun j hj=>?_⟩
       · rw [hhe];simp (disch:=omega) only [ak,aj,aB];simp [ht]
       · have:=T.R.bd j (by omega);have:=T.R.bd t htW;omega
      obtain ⟨h',n',cs',id',RW',rbk',e1,e2,e3⟩:=ih (i+1) (by omega) _ (O++[⟨l[A[i]].i.k,l[A[i]].i.t,tr l[A[i]]⟩]) _ W rb mk d _ _ _ _ T1 U1 (by simp;omega) (by omega) (by omega) (by omega) (by omega) hW
      refine ⟨h',n',cs',id',RW',rbk',?_,by rw [hcm];exact e2,by rw [hcm];exact e3⟩
      rw [hL,← e1,hhe]
      simp (disch:=omega) [T.g0,T.g1,T.go,T.gp,T.gn,hAi,ak,aj,aB,H.toQi.inl,aH,H.toQi.pp,ppB,hat,aN,bI,ltF,gtF,neF,fits,hft,hk,hkl,c2,u3]
    · have c':mO ra l[A[i]]=false:=by simpa using c
      have hc0:(∃ _:¬ 0≤atF l[A[i]].i.k 0 ra,True)∨∃ k:Nat,atF l[A[i]].i.k 0 ra=k∧∃ h:k < ra.length,¬ ra[k].t=(t:Int):=by
       by_cases c0:0≤atF l[A[i]].i.k 0 ra
       · obtain ⟨hge,hlt⟩:=GL _ _ _ c0
         refine .inr ⟨(atF l[A[i]].i.k 0 ra).toNat,by omega,by omega,fun q=>?_⟩
         have hkl:(atF l[A[i]].i.k 0 ra).toNat < ra.length:=by omega
         have:mO ra l[A[i]]=true:=by simp [mO,c0,hkl,q,ht]
         exact c this
       · exact .inl ⟨c0,trivial⟩
      by_cases c3:W[t].length=0
      · have hcm:∀ O r,cm2 tr ra l (A[i]::r) (O,W,rb,mk)=cm2 tr ra l r (O++[⟨l[A[i]].i.k,l[A[i]].i.t,tr l[A[i]]⟩],W,rb,mk+1):=by
         intro O r
         simp only [cm2,List.getElem?_eq_getElem hAi,c',hrow,c3,if_true,Bool.false_eq_true,if_false]
        rw [c3] at hv
        rcases hc0 with ⟨c0,_⟩ | ⟨k,hk,hkl,c2⟩
        · skip
          obtain ⟨hh,hhe⟩:∃ hh,hh=put (put (put (del (put (put (put h (next+12) (.cells 4 [[AV.int .u64 l[A[i]].i.k,AV.int .u8 (t:Int),AV.str l[A[i]].i.x,AV.ro 1 (List.map eS l[A[i]].i.m) l[A[i]].i.e]] true true)) (next+27) (.cells 8 [(AV.int .u64 l[A[i]].i.k::AV.int .u8 (t:Int)::(tr l[A[i]]).c)] true true)) (next+32) (.cells 8 [(AV.int .u64 l[A[i]].i.k::AV.int .u8 (t:Int)::(tr l[A[i]]).c)] true true)) rbk) (next+33) (.cells 8 (eHs O++[(AV.int .u64 l[A[i]].i.k::AV.int .u8 (t:Int)::(tr l[A[i]]).c)]) true true)) ob (.cells 2 [[.sl (next+33) 8 0 (O.length+1) (O.length+1) false,.sl pb 1 0 ks.length ks.length false]] true false)) nb (.cells 4 [[.int .i64 rb,.int .i64 (mk+1),.int .i64 d,.int .i64 0]] true true):=⟨_,rfl⟩
          have T1:CmI vw ov ls ks ke cap ar fl ra ea ps pe (.sl (next+33) 8 0 (O.length+1) (O.length+1) false) pb ob nb lo jk W [rb,mk+1,d,0] hh (next+73) cs id:=by
           refine ⟨T.R.mono (by omega) (fun j hj=>by rw [hhe];have:=T.R.bd j (by omega);have:=T.nd j (by omega);have:=u9 j (by omega);simp (disch:=omega) only [ak,aj,aB]),by simp [hwl],?_,?_,?_,?_,?_,?_,?_,by omega,fun j hj=>?_⟩
           any_goals (rw [hhe];simp (disch:=omega) only [ak,aj,aB] <;> first | rfl | exact T.g0 | exact T.g1 | exact T.g2 | exact T.g3 | exact T.gp | exact T.gn)
           · have:=T.nd j hj
             exact this
          have U1:qE ks pb ob nb lo (.sl (next+33) 8 0 (O.length+1) (O.length+1) false) (O++[⟨l[A[i]].i.k,l[A[i]].i.t,tr l[A[i]]⟩]) (next+33) hh (next+73) id:=by
           refine .inr ⟨by simp,by simp,?_,by omega,by omega,by omega,by omega,by omega,fun j hj=>?_⟩
           · rw [hhe];simp (disch:=omega) only [ak,aj,aB];simp [ht]
           · have:=T.R.bd j (by omega);have:=T.R.bd t htW;omega
          obtain ⟨h',n',cs',id',RW',rbk',e1,e2,e3⟩:=ih (i+1) (by omega) _ (O++[⟨l[A[i]].i.k,l[A[i]].i.t,tr l[A[i]]⟩]) _ W rb (mk+1) d _ _ _ _ T1 U1 (by simp;omega) (by omega) (by omega) (by omega) (by omega) hW
          refine ⟨h',n',cs',id',RW',rbk',?_,by rw [hcm];exact e2,by rw [hcm];exact e3⟩
          rw [hL,← e1,hhe]
          simp (disch:=omega) [T.g0,T.g1,T.go,T.gp,T.gn,hAi,ak,aj,aB,H.toQi.inl,aH,H.toQi.pp,ppB,hat,aN,bI,ltF,gtF,neF,fits,hft,ht,htc,htl,hv,c0,u3]
        · skip
          obtain ⟨hh,hhe⟩:∃ hh,hh=put (put (put (del (put (put (put h (next+12) (.cells 4 [[AV.int .u64 l[A[i]].i.k,AV.int .u8 (t:Int),AV.str l[A[i]].i.x,AV.ro 1 (List.map eS l[A[i]].i.m) l[A[i]].i.e]] true true)) (next+27) (.cells 8 [(AV.int .u64 l[A[i]].i.k::AV.int .u8 (t:Int)::(tr l[A[i]]).c)] true true)) (next+32) (.cells 8 [(AV.int .u64 l[A[i]].i.k::AV.int .u8 (t:Int)::(tr l[A[i]]).c)] true true)) rbk) (next+33) (.cells 8 (eHs O++[(AV.int .u64 l[A[i]].i.k::AV.int .u8 (t:Int)::(tr l[A[i]]).c)]) true true)) ob (.cells 2 [[.sl (next+33) 8 0 (O.length+1) (O.length+1) false,.sl pb 1 0 ks.length ks.length false]] true false)) nb (.cells 4 [[.int .i64 rb,.int .i64 (mk+1),.int .i64 d,.int .i64 0]] true true):=⟨_,rfl⟩
          have T1:CmI vw ov ls ks ke cap ar fl ra ea ps pe (.sl (next+33) 8 0 (O.length+1) (O.length+1) false) pb ob nb lo jk W [rb,mk+1,d,0] hh (next+73) cs id:=by
           refine ⟨T.R.mono (by omega) (fun j hj=>by rw [hhe];have:=T.R.bd j (by omega);have:=T.nd j (by omega);have:=u9 j (by omega);simp (disch:=omega) only [ak,aj,aB]),by simp [hwl],?_,?_,?_,?_,?_,?_,?_,by omega,fun j hj=>?_⟩
           any_goals (rw [hhe];simp (disch:=omega) only [ak,aj,aB] <;> first | rfl | exact T.g0 | exact T.g1 | exact T.g2 | exact T.g3 | exact T.gp | exact T.gn)
           · have:=T.nd j hj
             exact this
          have U1:qE ks pb ob nb lo (.sl (next+33) 8 0 (O.length+1) (O.length+1) false) (O++[⟨l[A[i]].i.k,l[A[i]].i.t,tr l[A[i]]⟩]) (next+33) hh (next+73) id:=by
           refine .inr ⟨by simp,by simp,?_,by omega,by omega,by omega,by omega,by omega,fun j hj=>?_⟩
           · rw [hhe];simp (disch:=omega) only [ak,aj,aB];simp [ht]
           · have:=T.R.bd j (by omega);have:=T.R.bd t htW;omega
          obtain ⟨h',n',cs',id',RW',rbk',e1,e2,e3⟩:=ih (i+1) (by omega) _ (O++[⟨l[A[i]].i.k,l[A[i]].i.t,tr l[A[i]]⟩]) _ W rb (mk+1) d _ _ _ _ T1 U1 (by simp;omega) (by omega) (by omega) (by omega) (by omega) hW
          refine ⟨h',n',cs',id',RW',rbk',?_,by rw [hcm];exact e2,by rw [hcm];exact e3⟩
          rw [hL,← e1,hhe]
          simp (disch:=omega) [T.g0,T.g1,T.go,T.gp,T.gn,hAi,ak,aj,aB,H.toQi.inl,aH,H.toQi.pp,ppB,hat,aN,bI,ltF,gtF,neF,fits,hft,ht,htc,htl,hv,hk,hkl,c2,u3]
      · obtain ⟨n,hn⟩:∃ n,W[t].length=n+1:=⟨W[t].length - 1,by omega⟩
        have hcm:∀ O r,cm2 tr ra l (A[i]::r) (O,W,rb,mk)=cm2 tr ra l r (O++[⟨l[A[i]].i.k,l[A[i]].i.t,tr l[A[i]]⟩],W.set t (W[t].take n),rb+1,mk):=by
         intro O r
         have:W[t].length - 1=n:=by omega
         simp only [cm2,List.getElem?_eq_getElem hAi,c',hrow,c3,Bool.false_eq_true,if_false,hatt,this]
        rw [hn] at hv q1 q2 q3
        have hnl:(W[t].take n).length=n:=by simp;omega
        have hes3:=q3
        have hwn:IntKind.i64.wrap (n:Int)=n:=aN (by omega) (by omega)
        have hne0:¬ ((n:Int)+1=0):=by omega
        have hncap:n≤cap2:=by omega
        have hcap1:n+1≤cap2:=by omega
        have hcap0:0 < cap2:=by omega
        have hWs:∀ w ∈ W.set t (W[t].take n),w.length≤1000000:=by
         intro w hw
         rcases List.mem_or_eq_of_mem_set hw with q | q
         · exact hW w q
         · subst q;omega
        have hANY:∀ o,o=some (dG.cells 8 (eHs es) true true)→jk o (id t) (.sl (id t) 8 0 n cap2 ex) (W[t].take n):=by
         rintro o rfl
         refine ⟨cap2,ex,es,by rw [hnl],by omega,by omega,?_,rfl⟩
         rw [hnl,← hes3,List.take_take]
         congr 1
         omega
        rcases hc0 with ⟨c0,_⟩ | ⟨k,hk,hkl,c2⟩
        · skip
          obtain ⟨hh,hhe⟩:∃ hh,hh=put (put (put (put (del (put (put (put h (next+12) (.cells 4 [[AV.int .u64 l[A[i]].i.k,AV.int .u8 (t:Int),AV.str l[A[i]].i.x,AV.ro 1 (List.map eS l[A[i]].i.m) l[A[i]].i.e]] true true)) (next+27) (.cells 8 [(AV.int .u64 l[A[i]].i.k::AV.int .u8 (t:Int)::(tr l[A[i]]).c)] true true)) (next+32) (.cells 8 [(AV.int .u64 l[A[i]].i.k::AV.int .u8 (t:Int)::(tr l[A[i]]).c)] true true)) rbk) (next+33) (.cells 8 (eHs O++[(AV.int .u64 l[A[i]].i.k::AV.int .u8 (t:Int)::(tr l[A[i]]).c)]) true true)) ob (.cells 2 [[.sl (next+33) 8 0 (O.length+1) (O.length+1) false,.sl pb 1 0 ks.length ks.length false]] true false)) nb (.cells 4 [[.int .i64 (rb+1),.int .i64 mk,.int .i64 d,.int .i64 0]] true true)) pb (.cells 1 (cs.set t [.sl (id t) 8 0 n cap2 ex]) true false):=⟨_,rfl⟩
          have T1:CmI vw ov ls ks ke cap ar fl ra ea ps pe (.sl (next+33) 8 0 (O.length+1) (O.length+1) false) pb ob nb lo jk (W.set t (W[t].take n)) [rb+1,mk,d,0] hh (next+88) (cs.set t [.sl (id t) 8 0 n cap2 ex]) (fun j=>if j=t then id t else id j):=by
           refine ⟨T.R.set t htW (id t) (.inl rfl) bd.1 (by omega) (by omega) _ _ (fun j hj hjt=>by rw [hhe];have:=T.R.bd j (by omega);have:=T.nd j (by omega);have:=u9 j (by omega);simp (disch:=omega) only [ak,aj,aB]) (hANY _ (by rw [hhe];have:=u9 t htl;simp (disch:=omega) only [ak,aj,aB];exact q4)),by simp [hwl],?_,?_,?_,?_,?_,?_,?_,by omega,fun j hj=>?_⟩
           any_goals (rw [hhe];simp (disch:=omega) only [ak,aj,aB] <;> first | rfl | exact T.g0 | exact T.g1 | exact T.g2 | exact T.g3 | exact T.gp | exact T.gn)
           · have h1:=T.nd j hj
             have h2:=T.nd t htl
             split <;> assumption
          have U1:qE ks pb ob nb lo (.sl (next+33) 8 0 (O.length+1) (O.length+1) false) (O++[⟨l[A[i]].i.k,l[A[i]].i.t,tr l[A[i]]⟩]) (next+33) hh (next+88) (fun j=>if j=t then id t else id j):=by
           refine .inr ⟨by simp,by simp,?_,by omega,by omega,by omega,by omega,by omega,fun j hj=>?_⟩
           · rw [hhe];simp (disch:=omega) only [ak,aj,aB];simp [ht]
           · have:=T.R.bd j (by omega);have:=T.R.bd t htW;show (if j=t then id t else id j)≠next+33;split <;> omega
          obtain ⟨h',n',cs',id',RW',rbk',e1,e2,e3⟩:=ih (i+1) (by omega) _ (O++[⟨l[A[i]].i.k,l[A[i]].i.t,tr l[A[i]]⟩]) _ (W.set t (W[t].take n)) (rb+1) mk d _ _ _ _ T1 U1 (by simp;omega) (by omega) (by omega) (by omega) (by omega) hWs
          refine ⟨h',n',cs',id',RW',rbk',?_,by rw [hcm];exact e2,by rw [hcm];exact e3⟩
          rw [hL,← e1,hhe]
          simp (disch:=omega) [T.g0,T.g1,T.go,T.gp,T.gn,hAi,ak,aj,aB,H.toQi.inl,aH,H.toQi.pp,ppB,hat,aN,bI,ltF,gtF,neF,fits,hft,ht,htc,htl,hv,hwn,hncap,hne0,hcap1,hcap0,c0,u3]
        · skip
          obtain ⟨hh,hhe⟩:∃ hh,hh=put (put (put (put (del (put (put (put h (next+12) (.cells 4 [[AV.int .u64 l[A[i]].i.k,AV.int .u8 (t:Int),AV.str l[A[i]].i.x,AV.ro 1 (List.map eS l[A[i]].i.m) l[A[i]].i.e]] true true)) (next+27) (.cells 8 [(AV.int .u64 l[A[i]].i.k::AV.int .u8 (t:Int)::(tr l[A[i]]).c)] true true)) (next+32) (.cells 8 [(AV.int .u64 l[A[i]].i.k::AV.int .u8 (t:Int)::(tr l[A[i]]).c)] true true)) rbk) (next+33) (.cells 8 (eHs O++[(AV.int .u64 l[A[i]].i.k::AV.int .u8 (t:Int)::(tr l[A[i]]).c)]) true true)) ob (.cells 2 [[.sl (next+33) 8 0 (O.length+1) (O.length+1) false,.sl pb 1 0 ks.length ks.length false]] true false)) nb (.cells 4 [[.int .i64 (rb+1),.int .i64 mk,.int .i64 d,.int .i64 0]] true true)) pb (.cells 1 (cs.set t [.sl (id t) 8 0 n cap2 ex]) true false):=⟨_,rfl⟩
          have T1:CmI vw ov ls ks ke cap ar fl ra ea ps pe (.sl (next+33) 8 0 (O.length+1) (O.length+1) false) pb ob nb lo jk (W.set t (W[t].take n)) [rb+1,mk,d,0] hh (next+88) (cs.set t [.sl (id t) 8 0 n cap2 ex]) (fun j=>if j=t then id t else id j):=by
           refine ⟨T.R.set t htW (id t) (.inl rfl) bd.1 (by omega) (by omega) _ _ (fun j hj hjt=>by rw [hhe];have:=T.R.bd j (by omega);have:=T.nd j (by omega);have:=u9 j (by omega);simp (disch:=omega) only [ak,aj,aB]) (hANY _ (by rw [hhe];have:=u9 t htl;simp (disch:=omega) only [ak,aj,aB];exact q4)),by simp [hwl],?_,?_,?_,?_,?_,?_,?_,by omega,fun j hj=>?_⟩
           any_goals (rw [hhe];simp (disch:=omega) only [ak,aj,aB] <;> first | rfl | exact T.g0 | exact T.g1 | exact T.g2 | exact T.g3 | exact T.gp | exact T.gn)
           · have h1:=T.nd j hj
             have h2:=T.nd t htl
             split <;> assumption
          have U1:qE ks pb ob nb lo (.sl (next+33) 8 0 (O.length+1) (O.length+1) false) (O++[⟨l[A[i]].i.k,l[A[i]].i.t,tr l[A[i]]⟩]) (next+33) hh (next+88) (fun j=>if j=t then id t else id j):=by
           refine .inr ⟨by simp,by simp,?_,by omega,by omega,by omega,by omega,by omega,fun j hj=>?_⟩
           · rw [hhe];simp (disch:=omega) only [ak,aj,aB];simp [ht]
           · have:=T.R.bd j (by omega);have:=T.R.bd t htW;show (if j=t then id t else id j)≠next+33;split <;> omega
          obtain ⟨h',n',cs',id',RW',rbk',e1,e2,e3⟩:=ih (i+1) (by omega) _ (O++[⟨l[A[i]].i.k,l[A[i]].i.t,tr l[A[i]]⟩]) _ (W.set t (W[t].take n)) (rb+1) mk d _ _ _ _ T1 U1 (by simp;omega) (by omega) (by omega) (by omega) (by omega) hWs
          refine ⟨h',n',cs',id',RW',rbk',?_,by rw [hcm];exact e2,by rw [hcm];exact e3⟩
          rw [hL,← e1,hhe]
          simp (disch:=omega) [T.g0,T.g1,T.go,T.gp,T.gn,hAi,ak,aj,aB,H.toQi.inl,aH,H.toQi.pp,ppB,hat,aN,bI,ltF,gtF,neF,fits,hft,ht,htc,htl,hv,hwn,hncap,hne0,hcap1,hcap0,hk,hkl,c2,u3]
end
end Go.D
end
section
namespace Go.D
open Go Go.Pav Go.Pw P
set_option maxHeartbeats 2000000
attribute [-simp] List.getElem_cons_drop
variable {C:aJ}
def cmF (tr:En→Nd) (ks:List Kd) (ra:List Hd) (W:List (List Hd)) (l:List En) (A:List Nat):List Hd × List (List Hd) × Int × Int × Int :=
 let s:=cm1 ks l A ra (W,0)
 let u:=cm2 tr ra l A ([],s.1,0,0)
 (u.1,u.2.1,u.2.2.1,u.2.2.2,s.2)
abbrev aCn (rb mk d lv:Int):AV:=.agg [.int .i64 rb,.int .i64 mk,.int .i64 d,.int .i64 lv]
theorem Tq {h:aI} {lo hi pb rb:Nat} {id:Nat→Nat} {cs:List (List AV)} {W:List (List Hd)} {O:List Hd} {RW:AV} (hR:(O=[]∧RW=.ro 8 [] true)∨(RW=.sl rb 8 0 O.length O.length false∧Pav.get h rb=some (.cells 8 (eHs O) true true)))
 (R:kD jk h lo hi id cs W) (gp:Pav.get h pb=some (.cells 1 cs true false)) (r:Nat) (hr:r=W.length) (n:Nat):∃ eo ps' pe',ps'.map (·.1)=W∧bD h (n+4) (.agg [RW,.sl pb 1 0 r r false])=some (aSt O eo ps' pe'):=by
 subst hr
 obtain ⟨ps,pe,h1,h2⟩:=R.ql (enc:=eHs) (z:=8) n (fun b v d q=>jk.frz q n) (mu:=true) (cap:=W.length) (ex:=false)
 rcases hR with ⟨rfl,rfl⟩ | ⟨rfl,h3⟩
 · refine ⟨true,ps,pe,h1,?_⟩
   rw [iM]
   simp only [aX,JA,jF,gp,h2,ob,om,Il]
   rfl
 · refine ⟨false,ps,pe,h1,?_⟩
   have h4:List.take O.length (eHs O)=eHs O:=List.take_of_length_le (by simp)
   rw [iM]
   simp only [aX,jF,gp,h2,h3,ob,om,Il]
   simp only [Pw.ql,List.drop_zero,h4,List.length_map,decide_true,og,Bool.false_and,ob,om,Il]
   rfl
theorem CmI.any {vw ov ls:Int} {ks:List Kd} {ke:Bool} {cap ar fl:Int} {ra:List Hd} {ea:Bool} {ps:List Pl} {pe:Bool} {RW:AV} {pb ob nb lo:Nat} {W:List (List Hd)} {N:List Int} {h:aI} {next:Nat} {cs:List (List AV)} {id:Nat→Nat}
 (T:CmI vw ov ls ks ke cap ar fl ra ea ps pe RW pb ob nb lo oG W N h next cs id):CmI vw ov ls ks ke cap ar fl ra ea ps pe RW pb ob nb lo jk W N h next cs id :=
 ⟨T.R.weak (fun _ _ _ _ q=>q.any),T.wl,T.go,T.gp,T.gn,T.g0,T.g1,T.g2,T.g3,T.ne,T.nd⟩
theorem zJ (ks:List Kd) (l:List En) (A:List Nat):∀ (ra:List Hd) (s:List (List Hd) × Int) (B:Nat),(∀ w ∈ s.1,w.length≤B)→∀ w ∈ (cm1 ks l A ra s).1,w.length≤B+ra.length
 | [],s,B,h,w,hw=>by simpa using h w hw
 | x::r,s,B,h,w,hw=>by
  simp only [cm1] at hw
  have:=zJ ks l A r _ (B+1) (by
   intro w hw
   split at hw
   · have:=h w hw;omega
   · split at hw
     · have:=h w hw;omega
     · rcases List.mem_or_eq_of_mem_set hw with q | q
       · have:=h w q;omega
       · subst q
         have:(rowAt s.1 x.t).length≤B:=by
          unfold rowAt
          cases hq:s.1[x.t.toNat]? with
          | none=>simp
          | some y=>exact h y (List.mem_of_getElem? hq)
         simp;omega) w hw
  simp only [List.length_cons];omega
theorem pV (tr:En→Nd) (ra:List Hd) (l:List En):∀ (A:List Nat) (s:List Hd × List (List Hd) × Int × Int) (B:Nat),(∀ w ∈ s.2.1,w.length≤B) →
 (cm2 tr ra l A s).1.length≤s.1.length+A.length∧(∀ w ∈ (cm2 tr ra l A s).2.1,w.length≤B)∧(cm2 tr ra l A s).2.1.length=s.2.1.length
 | [],s,B,h=>by simpa [cm2] using h
 | a::r,s,B,h=>by
  simp only [cm2]
  cases l[a]? with
  | none=>have:=pV tr ra l r s B h;simp only [List.length_cons];exact ⟨by omega,this.2⟩
  | some e =>
   simp only
   split
   · have:=pV tr ra l r (s.1++[⟨e.i.k,e.i.t,tr e⟩],s.2) B h
     simp only [List.length_cons,List.length_append,List.length_nil] at this ⊢
     exact ⟨by omega,this.2⟩
   · split
     · have:=pV tr ra l r (s.1++[⟨e.i.k,e.i.t,tr e⟩],s.2.1,s.2.2.1,s.2.2.2+1) B h
       simp only [List.length_cons,List.length_append,List.length_nil] at this ⊢
       exact ⟨by omega,this.2⟩
     · have:=pV tr ra l r (s.1++[⟨e.i.k,e.i.t,tr e⟩],s.2.1.set e.i.t.toNat ((rowAt s.2.1 e.i.t).take ((rowAt s.2.1 e.i.t).length - 1)),s.2.2.1+1,s.2.2.2) B (by
        intro w hw
        rcases List.mem_or_eq_of_mem_set hw with q | q
        · exact h w q
        · subst q
          have:(rowAt s.2.1 e.i.t).length≤B:=by
           unfold rowAt
           cases hq:s.2.1[e.i.t.toNat]? with
           | none=>simp
           | some y=>exact h y (List.mem_of_getElem? hq)
          simp;omega)
       simp only [List.length_cons,List.length_append,List.length_nil,List.length_set] at this ⊢
       exact ⟨by omega,this.2⟩
theorem KR (h:aI) (n:Nat) (a b c d:Int):bD h (n+2) (aCn a b c d)=some (aCn a b c d):=rfl
theorem Gs (H:Va C) (tr:En→Nd) (vw ov ls:Int) (ks:List Kd) (ke:Bool) (cap ar fl:Int) (ra:List Hd) (ea:Bool) (ps:List Pl) (pe:Bool) (l:List En) (e:Bool) (A:List Nat) (f:Bool)
 (hA:A.length≤1000) (hAl:∀ a ∈ A,a < l.length) (hra:ra.length≤1000) (hpk:ps.length=ks.length) (hkl:ks.length≤1000) (hk0:0 < ks.length) (hps:∀ p ∈ ps,p.1.length≤100000)
 (hty:∀ x ∈ l,∃ t:Nat,x.i.t=t∧t < ks.length) (htyr:∀ x ∈ ra,∃ t:Nat,x.t=t∧t < ks.length) (htr:∀ (a:Nat) (h:a < l.length),FnW C 417 [aR ks ke cap,.ro 6 (l.map eEn) e,.int .i64 a]=some (.agg (tr l[a]).c)) :
 ∃ (ps':List Pl) (ea' pe':Bool),ps'.map (·.1)=(cmF tr ks ra (ps.map (·.1)) l A).2.1 ∧
  FnW C 285 [.agg (cCf vw ov ls ks ke cap ar fl),aSt ra ea ps pe,.ro 6 (l.map eEn) e,.ro 1 (A.map eAt) f]=some (.tup (
   if live ((cmF tr ks ra (ps.map (·.1)) l A).1::(cmF tr ks ra (ps.map (·.1)) l A).2.1) > ar then [aSt [] true [] true,aCn 0 0 0 0,.int .i64 15]
   else [aSt (cmF tr ks ra (ps.map (·.1)) l A).1 ea' ps' pe',aCn (cmF tr ks ra (ps.map (·.1)) l A).2.2.1 (cmF tr ks ra (ps.map (·.1)) l A).2.2.2.1 (cmF tr ks ra (ps.map (·.1)) l A).2.2.2.2 (live ((cmF tr ks ra (ps.map (·.1)) l A).1::(cmF tr ks ra (ps.map (·.1)) l A).2.1)),.int .i64 0])):=by
 obtain ⟨v,h',n',e1,Rv,pb,cs,id,lo,rfl,e2,R,gp,l1,l2,l3,l4,l5⟩:=Wh H.toY4 ra ea ps pe (by omega) (by omega) (by omega) (fun p hp=>by have:=hps p hp;omega)
  [(0,.cells 7 [cCf vw ov ls ks ke cap ar fl] true true),(1,.cells 2 [[.ro 8 (ra.map eHd) ea,.ro 1 (ps.map ePl) pe]] true true),(2,.cells 2 [[.ro 8 [] true,.ro 1 [] true]] true true),(3,.cells 4 [[.int .i64 0,.int .i64 0,.int .i64 0,.int .i64 0]] true true)] 7
 have g0:=l5 0 (by omega)
 have g1:=l5 1 (by omega)
 have g2:=l5 2 (by omega)
 have g3:=l5 3 (by omega)
 simp at g0 g1 g2 g3
 rw [hpk] at e1 l4
 rw [aO H.f285 rfl]
 obtain ⟨L,hL⟩:∃ L,L=CK C 0 (aP Tt.res) [] Tt.body ⟨Dj 0 [.agg (cCf vw ov ls ks ke cap ar fl),aSt ra ea ps pe,.ro 6 (l.map eEn) e,.ro 1 (A.map eAt) f] [],[],0⟩:=⟨_,rfl⟩
 rw [← hL]
 have hL1:L=CK C 0 (aP [.cell 8 2 true,.cell 9 4 true,.tmp 10]) [.sq EI,.bk 0 ⟨true,[12,11,9,8,5,4,3,2],[(9999,65537)]⟩,.sq yK] nN
  ⟨[(13,.int .i64 (0:Nat)),(12,.ptr (n'+4) 0 0),(11,.ptr n' 0 0),(9,.ptr 3 0 0),(8,.ptr 2 0 0),(5,.ptr 1 0 0),(4,.ptr 0 0 0),(3,.ro 1 (A.map eAt) f),(2,.ro 6 (l.map eEn) e)],
   put (put h' n' (.cells 2 [[.ro 8 [] true,.sl pb 1 0 ks.length ks.length false]] true false)) (n'+4) (.cells 4 [[.int .i64 0,.int .i64 0,.int .i64 0,.int .i64 0]] true true),n'+6⟩:=by
  rw [hL]
  rcases e2 with ⟨_,rfl⟩ | ⟨_,rb0,rfl,_⟩
  · simp (disch:=omega) [Tt,H.toQi.inl,aH,H.toQi.pp,ppB,e1,ak,aj,bI]
  · simp (disch:=omega) [Tt,H.toQi.inl,aH,H.toQi.pp,ppB,e1,ak,aj,bI]
 have T0:CmI vw ov ls ks ke cap ar fl ra ea ps pe (.ro 8 [] true) pb n' (n'+4) lo oG (ps.map (·.1)) [0,0,0,0] (put (put h' n' (.cells 2 [[.ro 8 [] true,.sl pb 1 0 ks.length ks.length false]] true false)) (n'+4) (.cells 4 [[.int .i64 0,.int .i64 0,.int .i64 0,.int .i64 0]] true true)) (n'+6) cs id:=by
  refine ⟨R.mono (by omega) (fun j hj=>by have:=R.bd j hj;simp (disch:=omega) only [ak,aj]),by simpa using hpk,?_,?_,?_,?_,?_,?_,?_,by omega,fun j hj=>?_⟩
  · simp (disch:=omega) only [ak,aj]
  · simp (disch:=omega) only [ak,aj];exact gp
  · simp (disch:=omega) only [ak,aj];rfl
  · simp (disch:=omega) only [ak,aj];exact g0
  · simp (disch:=omega) only [ak,aj];exact g1
  · simp (disch:=omega) only [ak,aj];exact g2
  · simp (disch:=omega) only [ak,aj];exact g3
  · have h1:=R.bd j (by simp;omega)
    have h2:=l4 j hj
    omega
 obtain ⟨h1,n1,cs1,id1,x1,T1⟩:=X7 vw ov ls ks ke cap ar fl ra ea ps pe H.toY4 l e A f (by omega) hAl hra htyr pb n' (n'+4) lo ra.length 0 (by simp) (ps.map (·.1)) 0 _ _ _ _ T0
  (fun w hw=>by obtain ⟨p,hp,rfl⟩:=List.mem_map.1 hw;have:=hps p hp;omega) (by omega) (by omega)
 rw [List.drop_zero] at T1
 have hl1:=zJ ks l A ra (ps.map (·.1),0) 100000 (fun w hw=>by obtain ⟨p,hp,rfl⟩:=List.mem_map.1 hw;exact hps p hp)
 obtain ⟨h2,n2,cs2,id2,RW,rbk,x2,T2,U2⟩:=Zm vw ov ls ks ke cap ar fl ra ea ps pe H tr l e A f hA hAl (by omega) hty htr pb n' (n'+4) lo A.length 0 (by simp) (.ro 8 [] true) [] 0 _ 0 0 _ h1 (n1+1) cs1 id1
  (T1.any.later vw ov ls ks ke cap ar fl ra ea ps pe (by omega) (fun _ _=>rfl)) (.inl ⟨rfl,rfl⟩) (by simp;omega) (by omega) (by omega) (by omega) (by omega) (fun w hw=>by have:=hl1 w hw;omega)
 rw [List.drop_zero] at T2 U2
 obtain ⟨L2,hL2⟩:∃ L2,L2=CK C 0 (aP [.cell 8 2 true,.cell 9 4 true,.tmp 10]) [] rV ⟨[(12,.ptr (n'+4) 0 0),(11,.ptr n' 0 0),(9,.ptr 3 0 0),(8,.ptr 2 0 0),(4,.ptr 0 0 0)],h2,n2⟩:=⟨_,rfl⟩
 have hL3:L=L2:=by
  rw [← hL2] at x2
  simp at x2
  rw [hL1,x1,au yK.eq_1]
  simp [x2]
 have hl2:=pV tr ra l A ([],(cm1 ks l A ra (ps.map (·.1),0)).1,0,0) _ hl1
 rw [hL3]
 unfold cmF
 simp only
 simp only [List.length_nil,Nat.zero_add] at hl2
 generalize hS:cm1 ks l A ra (ps.map (·.1),0)=S at *
 generalize hV:cm2 tr ra l A ([],S.1,0,0)=V at *
 have hR2:(V.1=[]∧RW=.ro 8 [] true)∨(RW=.sl rbk 8 0 V.1.length V.1.length false∧Pav.get h2 rbk=some (.cells 8 (eHs V.1) true true)):=by
  rcases U2 with u | ⟨_,u2,u3,_⟩
  · exact .inl u
  · exact .inr ⟨u2,u3⟩
 have hR4:∀ hf:aI,(∀ j,lo≤j→j≠n'+4→Pav.get hf j=Pav.get h2 j)→(V.1=[]∧RW=.ro 8 [] true)∨(RW=.sl rbk 8 0 V.1.length V.1.length false∧Pav.get hf rbk=some (.cells 8 (eHs V.1) true true)):=by
  intro hf hg
  rcases U2 with u | ⟨_,u2,u3,u4,u5,u6,u7,u8,_⟩
  · exact .inl u
  · exact .inr ⟨u2,by rw [hg _ u4 u8];exact u3⟩
 have ne:=T2.ne
 obtain ⟨eo,ps1,pe1,f1,f2⟩:=Tq hR2 T2.R T2.gp ks.length T2.wl.symm 12
 have hlv:=Xf H.tonY V.1 eo ps1 pe1 (by omega) (fun p hp=>by have:=hl2.2.1 p.1 (by rw [← f1];exact List.mem_map.2 ⟨p,hp,rfl⟩);omega) (by have:=congrArg List.length f1;simp at this;have:=T2.wl;omega)
 rw [f1] at hlv
 obtain ⟨lv,hlve⟩:∃ lv,live (V.1::V.2.1)=lv:=⟨_,rfl⟩
 rw [hlve] at hlv
 have hcell:AV.cell RW=true:=by rcases hR2 with ⟨_,rfl⟩ | ⟨rfl,_⟩ <;> rfl
 rw [hL2,au rV.eq_1]
 clear hV hS hL2 hL3 x1 x2 hL1 hL
 by_cases c:lv > ar
 · refine ⟨ps1,eo,pe1,f1,?_⟩
   rw [hlve,if_pos c]
   rcases hR2 with ⟨q1,rfl⟩ | ⟨rfl,q3⟩
   · rw [q1] at f2 hlv
     simp (disch:=omega) [T2.go,T2.gn,T2.g0,T2.g2,T2.g3,ak,aj,H.toQi.inl,aH,H.toQi.pp,ppB,f2,hlv,c,-iM,bI]
     rfl
   · simp (disch:=omega) [T2.go,T2.gn,T2.g0,T2.g2,T2.g3,ak,aj,H.toQi.inl,aH,H.toQi.pp,ppB,f2,hlv,c,-iM,bI]
     rfl
 · rw [hlve]
   rcases hR2 with ⟨q1,rfl⟩ | ⟨rfl,q3⟩
   · obtain ⟨hf,hfe⟩:∃ hf,hf=put (put (put h2 (n'+4) (.cells 4 [[.int .i64 V.2.2.1,.int .i64 V.2.2.2,.int .i64 S.2,.int .i64 lv]] true true)) 2 (.cells 2 [[.ro 8 [] true,.sl pb 1 0 ks.length ks.length false]] true false)) 3 (.cells 4 [[.int .i64 V.2.2.1,.int .i64 V.2.2.2,.int .i64 S.2,.int .i64 lv]] true true):=⟨_,rfl⟩
     have hg:∀ j,lo≤j→j≠n'+4→Pav.get hf j=Pav.get h2 j:=fun j h1 h2=>by rw [hfe];simp (disch:=omega) only [aj]
     obtain ⟨eo',ps2,pe2,f3,f4⟩:=Tq (hR4 hf hg) (T2.R.mono (Nat.le_refl _) (fun j hj=>hg _ (T2.R.bd j hj).1 (T2.nd j (by rw [← T2.wl];exact hj)).2.2)) (by rw [hg _ (by omega) (by omega)];exact T2.gp) ks.length T2.wl.symm 11
     refine ⟨ps2,eo',pe2,f3,?_⟩
     rw [if_neg c]
     rw [hfe] at f4
     rw [q1] at f2 hlv
     simp (disch:=omega) [T2.go,T2.gn,T2.g0,T2.g2,T2.g3,ak,aj,H.toQi.inl,aH,H.toQi.pp,ppB,f2,hlv,c,-iM,bI]
     rw [f4,KR];rfl
   · obtain ⟨hf,hfe⟩:∃ hf,hf=put (put (put h2 (n'+4) (.cells 4 [[.int .i64 V.2.2.1,.int .i64 V.2.2.2,.int .i64 S.2,.int .i64 lv]] true true)) 2 (.cells 2 [[.sl rbk 8 0 V.1.length V.1.length false,.sl pb 1 0 ks.length ks.length false]] true false)) 3 (.cells 4 [[.int .i64 V.2.2.1,.int .i64 V.2.2.2,.int .i64 S.2,.int .i64 lv]] true true):=⟨_,rfl⟩
     have hg:∀ j,lo≤j→j≠n'+4→Pav.get hf j=Pav.get h2 j:=fun j h1 h2=>by rw [hfe];simp (disch:=omega) only [aj]
     obtain ⟨eo',ps2,pe2,f3,f4⟩:=Tq (hR4 hf hg) (T2.R.mono (Nat.le_refl _) (fun j hj=>hg _ (T2.R.bd j hj).1 (T2.nd j (by rw [← T2.wl];exact hj)).2.2)) (by rw [hg _ (by omega) (by omega)];exact T2.gp) ks.length T2.wl.symm 11
     refine ⟨ps2,eo',pe2,f3,?_⟩
     rw [if_neg c]
     rw [hfe] at f4
     simp (disch:=omega) [T2.go,T2.gn,T2.g0,T2.g2,T2.g3,ak,aj,H.toQi.inl,aH,H.toQi.pp,ppB,f2,hlv,c,-iM,bI]
     rw [f4,KR];rfl
end Go.D
end
section
namespace Go.D
open Go Go.Pav Go.Pw P
attribute [-simp] List.getElem_cons_drop
variable {C:aJ}
structure Rw where
 k:Int
 t:Int
 s:Int
 n:Nd
@[simp] def eRw (r:Rw):List AV:=[.int .u64 r.k,.int .i64 r.t,.int .i64 r.s,.int .u8 r.n.k,.str r.n.t,.str r.n.y,.ro 2 (r.n.a.map eA) r.n.ae,.str r.n.x,.ro 6 (r.n.ch.map Nd.c) r.n.ce]
structure Sc where
 o:Int
 r:List Rw
 e:Bool
 p:Bool
 h:Rw
@[simp] def eSc (x:Sc):List AV:=[.int .i64 x.o,.ro 9 (x.r.map eRw) x.e,.bool x.p,.int .u64 x.h.k,.int .i64 x.h.t,.int .i64 x.h.s,.int .u8 x.h.n.k,.str x.h.n.t,.str x.h.n.y,.ro 2 (x.h.n.a.map eA) x.h.n.ae,.str x.h.n.x,.ro 6 (x.h.n.ch.map Nd.c) x.h.n.ce]
structure Vw (C:aJ):Prop extends nY C where
 f289:C.fns.get 289=some ZY
 ZN:C.fns.get 438=some Mc
end Go.D
end
section
namespace Go.D
open Go Go.Pav Go.Pw P
set_option maxHeartbeats 1000000
attribute [-simp] List.getElem_cons_drop
variable {C:aJ}
section
variable (ra:List Hd) (ea:Bool) (ps:List Pl) (pe:Bool)
abbrev hpV (s:Int) (ok:Bool):aI:=[(0,.cells 2 [[.ro 8 (ra.map eHd) ea,.ro 1 (ps.map ePl) pe]] true true),(2,.cells 1 [[.int .i64 s]] true true),(3,.cells 1 [[.bool ok]] true true),
 (6,.cells 1 [[.fn 438 [.ptr 3 0 0,.ptr 2 0 0,.ptr 6 0 0]]] true false),(12,.cells 1 [[.ro 8 (ra.map eHd) ea]] true true)]
theorem O1 (H:Vw C) (X:AV) (hX:X=.sl 12 1 0 1 1 true∨∃ (l:List Pl) (e:Bool),X=.ro 1 (l.map ePl) e) (l:List Hd) (e:Bool) (hl:l.length≤1000000) (n:Nat) (hn:13≤n):∀ m i,m+i=l.length→∀ (s:Int) (ok:Bool),0≤s→s+64 * m≤1000000000000000 →
 CK C n (iR []) [.sq Me,.bk 0 ⟨true,[3,0],[]⟩,.sq yZ] zX ⟨[(14,.int .i64 i),(13,.int .i64 l.length),(12,.ro 8 (l.map eHd) e),(3,.ptr 6 0 0),(2,.ptr 2 0 0),(1,.ptr 3 0 0),(0,X)],hpV ra ea ps pe s ok,n⟩ =
  CK C n (iR []) [] yZ ⟨[(3,.ptr 6 0 0),(0,X)],hpV ra ea ps pe (s+(iP (l.drop i):Nat)) (ok&&okS (l.drop i)),n⟩:=by
 have n0:0 < n:=by omega
 have n2:2 < n:=by omega
 have n3:3 < n:=by omega
 have n6:6 < n:=by omega
 have n12:12 < n:=by omega
 have m1:¬ n=0:=by omega
 have m2:¬ n=3:=by omega
 have m3:¬ n=9:=by omega
 have m4:¬ n≤3:=by omega
 have m5:¬ n≤9:=by omega
 have m6:¬ n+1+1+1 < n:=by omega
 have m7:¬ n≤12:=by omega
 have m8:¬ n=2:=by omega
 have m9:¬ n=6:=by omega
 have m10:¬ n=12:=by omega
 have p0:¬ 0=n:=by omega
 have p2:¬ 2=n:=by omega
 have p3:¬ 3=n:=by omega
 have p6:¬ 6=n:=by omega
 have p12:¬ 12=n:=by omega
 intro m
 induction m with
 | zero =>
  intro i hi s ok h0 h1
  have h2:l.drop i=[]:=List.drop_eq_nil_of_le (by omega)
  have h3:¬ i < l.length:=by omega
  rw [h2,au zX.eq_1]
  rcases hX with rfl | ⟨L,E,rfl⟩
  · simp (disch:=omega) [h3,iP,okS,n0,n2,n3,n6,n12]
  · simp (disch:=omega) [h3,iP,okS,n0,n2,n3,n6,n12]
 | succ m ih =>
  intro i hi s ok h0 h1
  have h3:i < l.length:=by omega
  have hr1:=tY H.toNb.toOt l[i].n
  have hr2:=zD H.toNb.toOt l[i].n
  have hc:=cnt_le l[i].n
  have:=ih (i+1) (by omega) (s+(cnt l[i].n:Nat)) (ok&&decide (cnt l[i].n≠0)) (by omega) (by omega)
  have ho:∀ q,(ok&&okS (l[i]::q))=((ok&&decide (cnt l[i].n≠0))&&okS q):=by intro q;simp [okS,Bool.and_assoc]
  rw [drop_cons h3,ho,iP]
  rw [au zX.eq_1]
  rw [Nd.bZ] at hr1 hr2
  by_cases c:cnt l[i].n=0
  · rw [if_pos c] at hr1
    rw [c] at hr2 this
    simp at this
    cases ok
    · rcases hX with rfl | ⟨L,E,rfl⟩
      · simp (disch:=omega) [h3,hr1,hr2,H.toQi.inl,aH,H.toQi.pp,ppB,aN,n0,n2,n3,n6,n12,m1,m2,m3,m4,m5,m6,m7,m8,m9,m10,p0,p2,p3,p6,p12,c,Nd.bZ]
        rw [this]
      · simp (disch:=omega) [h3,hr1,hr2,H.toQi.inl,aH,H.toQi.pp,ppB,aN,n0,n2,n3,n6,n12,m1,m2,m3,m4,m5,m6,m7,m8,m9,m10,p0,p2,p3,p6,p12,c,Nd.bZ]
        rw [this]
    · rcases hX with rfl | ⟨L,E,rfl⟩
      · simp (disch:=omega) [h3,hr1,hr2,H.toQi.inl,aH,H.toQi.pp,ppB,aN,n0,n2,n3,n6,n12,m1,m2,m3,m4,m5,m6,m7,m8,m9,m10,p0,p2,p3,p6,p12,c,Nd.bZ]
        rw [this]
      · simp (disch:=omega) [h3,hr1,hr2,H.toQi.inl,aH,H.toQi.pp,ppB,aN,n0,n2,n3,n6,n12,m1,m2,m3,m4,m5,m6,m7,m8,m9,m10,p0,p2,p3,p6,p12,c,Nd.bZ]
        rw [this]
  · rw [if_neg c] at hr1
    cases ok
    · rcases hX with rfl | ⟨L,E,rfl⟩
      · simp (disch:=omega) [h3,hr1,hr2,H.toQi.inl,aH,H.toQi.pp,ppB,aN,n0,n2,n3,n6,n12,m1,m2,m3,m4,m5,m6,m7,m8,m9,m10,p0,p2,p3,p6,p12,c,Nd.bZ]
        simp [c] at this
        rw [this];simp [Int.add_assoc]
      · simp (disch:=omega) [h3,hr1,hr2,H.toQi.inl,aH,H.toQi.pp,ppB,aN,n0,n2,n3,n6,n12,m1,m2,m3,m4,m5,m6,m7,m8,m9,m10,p0,p2,p3,p6,p12,c,Nd.bZ]
        simp [c] at this
        rw [this];simp [Int.add_assoc]
    · rcases hX with rfl | ⟨L,E,rfl⟩
      · simp (disch:=omega) [h3,hr1,hr2,H.toQi.inl,aH,H.toQi.pp,ppB,aN,n0,n2,n3,n6,n12,m1,m2,m3,m4,m5,m6,m7,m8,m9,m10,p0,p2,p3,p6,p12,c,Nd.bZ]
        simp [c] at this
        rw [this];simp [Int.add_assoc]
      · simp (disch:=omega) [h3,hr1,hr2,H.toQi.inl,aH,H.toQi.pp,ppB,aN,n0,n2,n3,n6,n12,m1,m2,m3,m4,m5,m6,m7,m8,m9,m10,p0,p2,p3,p6,p12,c,Nd.bZ]
        simp [c] at this
        rw [this];simp [Int.add_assoc]
theorem WJ (H:Vw C) (hpl:∀ p ∈ ps,p.1.length≤1000000):∀ (l:List Pl),(∀ p ∈ l,p.1.length≤1000000)→∀ (e:Bool) (n:Nat),13≤n→∀ (s:Int) (ok:Bool),0≤s→s+64000000 * l.length≤1000000000000000 →
 ∃ n',RnW C 438 [.ro 1 (l.map ePl) e,.ptr 3 0 0,.ptr 2 0 0,.ptr 6 0 0] (hpV ra ea ps pe s ok) n=some (.tup [],hpV ra ea ps pe (s+(kY (l.map (·.1)):Nat)) (ok&&okL (l.map (·.1))),n'):=by
 intro l
 induction l with
 | nil =>
  intro _ e n hn s ok h0 h1
  rw [jR (args:=[.ro 1 (([]:List Pl).map ePl) e,.ptr 3 0 0,.ptr 2 0 0,.ptr 6 0 0]) H.ZN rfl _ n]
  refine ⟨?_,?_⟩
  rotate_left
  · simp [Mc,H.toQi.inl,aH,H.toQi.pp,ppB,kY,okL]
    rfl
 | cons p l ih =>
  intro hl e n hn s ok h0 h1
  have n0:0 < n:=by omega
  have n2:2 < n:=by omega
  have n3:3 < n:=by omega
  have n6:6 < n:=by omega
  have n12:12 < n:=by omega
  have hp:=hl p (by simp)
  have hc:=vg p.1
  simp only [List.length_cons] at h1
  have hr:=O1 ra ea ps pe H (.ro 1 ((p::l).map ePl) e) (.inr ⟨p::l,e,rfl⟩) p.1 p.2 hp n hn p.1.length 0 (by simp) s ok h0 (by omega)
  rw [List.drop_zero] at hr
  rw [jR (args:=[.ro 1 ((p::l).map ePl) e,.ptr 3 0 0,.ptr 2 0 0,.ptr 6 0 0]) H.ZN rfl _ n]
  simp only [List.map_cons,okL,List.all_cons,kY]
  have hne:¬ ((l.length:Int)+1=0):=by omega
  obtain ⟨n1,hq⟩:=ih (fun q hq=>hl q (by simp [hq])) e (n+4) (by omega) (s+(iP p.1:Nat)) (ok&&okS p.1) (by omega) (by omega)
  have ht:List.take l.length (l.map ePl)=l.map ePl:=List.take_of_length_le (by simp)
  have ha:(ok&&(okS p.1&&(l.map (·.1)).all okS))=((ok&&okS p.1)&&okL (l.map (·.1))):=by rw [Bool.and_assoc];rfl
  have hs:s+((iP p.1+kY (l.map (·.1)):Nat):Int)=s+(iP p.1:Nat)+(kY (l.map (·.1)):Nat):=by omega
  rw [ha,hs]
  generalize s+((iP p.1:Nat):Int)+((kY (l.map (·.1)):Nat):Int)=S at *
  generalize (ok&&okS p.1&&okL (l.map (·.1)))=O at *
  simp at hr
  refine ⟨?_,?_⟩
  rotate_left
  · simp [Mc,H.toQi.inl,aH,H.toQi.pp,ppB,n0,n2,n3,n6,n12,hne,hr]
    rw [au yZ.eq_1]
    simp [Mc,H.toQi.inl,aH,H.toQi.pp,ppB,n0,n2,n3,n6,n12,hne,hr,ht,hq]
    rfl
theorem Pn (H:Vw C) (hra:ra.length≤1000000) (hps:∀ p ∈ ps,p.1.length≤1000000) (hpl:ps.length≤1000):FnW C 289 [aSt ra ea ps pe]=some (.int .i64 (live (ra::ps.map (·.1)))):=by
 have hc:=vg ra
 rw [aO H.f289 rfl]
 have e1:∃ n',13≤n'∧RnW C 438 [.sl 12 1 0 1 1 true,.ptr 3 0 0,.ptr 2 0 0,.ptr 6 0 0] (hpV ra ea ps pe 1 true) 14=some (.tup [],hpV ra ea ps pe (1+(iP ra:Nat)) (okS ra),n'):=by
  have hr:=O1 ra ea ps pe H (.sl 12 1 0 1 1 true) (.inl rfl) ra ea hra 14 (by omega) ra.length 0 (by simp) 1 true (by omega) (by omega)
  rw [List.drop_zero] at hr
  rw [jR (args:=[.sl 12 1 0 1 1 true,.ptr 3 0 0,.ptr 2 0 0,.ptr 6 0 0]) H.ZN rfl _ 14]
  simp at hr
  have e0:RnW C 438 [.ro 1 [] true,.ptr 3 0 0,.ptr 2 0 0,.ptr 6 0 0] (hpV ra ea ps pe (1+(iP ra:Nat)) (okS ra)) 18=some (.tup [],hpV ra ea ps pe (1+(iP ra:Nat)) (okS ra),21):=by
   rw [jR (args:=[.ro 1 [] true,.ptr 3 0 0,.ptr 2 0 0,.ptr 6 0 0]) H.ZN rfl _ 18]
   simp [Mc,H.toQi.inl,aH,H.toQi.pp,ppB,kY,okL]
  generalize 1+((iP ra:Nat):Int)=S at *
  refine ⟨?_,?_,?_⟩
  rotate_right
  · simp [Mc,H.toQi.inl,aH,H.toQi.pp,ppB,hr]
    rw [au yZ.eq_1]
    simp [Mc,H.toQi.inl,aH,H.toQi.pp,ppB,hr,e0]
    rfl
  · omega
 obtain ⟨n1,hn1,e1⟩:=e1
 obtain ⟨n2,e2⟩:∃ n',RnW C 438 [.ro 1 (ps.map ePl) pe,.ptr 3 0 0,.ptr 2 0 0,.ptr 6 0 0] (hpV ra ea ps pe (1+(iP ra:Nat)) (okS ra)) (n1+1+1+1+1)=_:=WJ ra ea ps pe H hps ps hps pe (n1+1+1+1+1) (by omega) (1+(iP ra:Nat)) (okS ra) (by omega) (by omega)
 have hl:live (ra::ps.map (·.1))=if (okS ra&&okL (ps.map (·.1)))=true then 1+((iP ra:Nat):Int)+(kY (ps.map (·.1)):Nat) else 0:=by
  unfold live;rw [oq,kY];simp [Int.add_assoc]
 rw [hl]
 generalize 1+((iP ra:Nat):Int)+((kY (ps.map (·.1)):Nat):Int)=S2 at *
 generalize 1+((iP ra:Nat):Int)=S at *
 generalize (okS ra&&okL (ps.map (·.1)))=O at *
 cases O
 · simp [ZY,H.toQi.inl,aH,H.toQi.pp,ppB,e1,e2]
 · simp [ZY,H.toQi.inl,aH,H.toQi.pp,ppB,e1,e2]
end
end Go.D
end
section
namespace Go.D
open Go Go.Pav Go.Pw P
attribute [-simp] List.getElem_cons_drop
variable {C:aJ}
structure afy (C:aJ):Prop extends uh C where
 f238:C.fns.get 238=some aeI
theorem adC (H:afy C) (ks:List Kd) (ke:Bool) (cap:Int) (hr:Iu ks) (l:List En) (e:Bool) (hl:l.length≤10000) (hs:∀ x ∈ l,Ie x) (hck:ckE ks cap l=0) (a:Nat) (ha:a < l.length) (ht:l[a].i.t < ks.length) :
 FnW C 238 [aR ks ke cap,aL l e,.int .i64 a]=some (.tup [.agg (xU (jK ks l[a].i.t).p l[a].i cap).c,.int .i64 (kW (jK ks l[a].i.t).p l[a].i cap)]):=by
 have hc:=I5 H.toDl ks ke cap hr l e (by omega) hs
 rw [hck] at hc
 have h:=Gt H.toDl ks ke cap l[a].i (hs _ (List.getElem_mem ha)).i ht hr
 rw [aO H.f238 rfl]
 generalize xU (jK ks l[a].i.t).p l[a].i cap=N at *
 generalize kW (jK ks l[a].i.t).p l[a].i cap=E at *
 rw [Nd.bZ] at h ⊢
 simp only [aR,eIt] at h
 have a1:¬ (a:Int) < 0:=by omega
 have a2:¬ (l.length:Int)≤a:=by omega
 simp (disch:=omega) [aeI,hc,h,ha,a1,a2,H.inl,aH,H.pp,ppB]
structure Y2 (C:aJ):Prop extends Qi C,afy C,ajA C where
 aj3:C.fns.get 507=some aex
 ajp:C.fns.get 554=some abJ
 aj8:C.fns.get 553=some aej
theorem Jt (H:Y2 C) (l:List (Bs × Bs)) (e:Bool) (hl:l.length≤1000000):FnW C 554 [.ro 2 (l.map eA) e]=some (.ro 2 (l.map eA) l.isEmpty):=by
 rw [aO H.ajp rfl]
 cases l with
 | nil=>simp [abJ,Y9]
 | cons a r =>
  simp only [List.length_cons] at hl
  have h1:(r.length+1) * 33≤35184372088832:=by omega
  have h2:List.take r.length (List.map eA r)=List.map eA r:=List.take_of_length_le (by simp)
  simp [abJ,Vt,RI,jV,h1,h2]
theorem Po (H:Y2 C) (l:List (Bs × Bs)) (e:Bool):FnW C 553 [.ro 2 (l.map eA) e]=some (.ro 2 (l.map eA) true):=by
 have h:List.take l.length (List.map eA l)=List.map eA l:=List.take_of_length_le (by simp)
 rw [aO H.aj8 rfl]
 simp [aej,h]
theorem Yv {α β:Type} (f:α→β) (G:List α) (z:β) (m:Nat):(G.map f++List.replicate (m+1) z)[G.length]?=some z:=by
 rw [List.getElem?_append_right (by simp)];simp
theorem aaA {α β:Type} (f:α→β) (G:List α) (z:β) (m:Nat) (y:α):(G.map f++List.replicate (m+1) z).set G.length (f y)=(G++[y]).map f++List.replicate m z:=by
 rw [List.set_append_right _ _ (by simp)];simp [List.replicate_succ]
theorem ZB:∀ (l:List Nd) (lv c:Nat),rcs l lv c≤64→∀ m ∈ l,rc m lv≤64
 | [],_,_,_,m,hm=>by cases hm
 | n::r,lv,c,h,m,hm=>by
  rw [rcs] at h
  by_cases q:c≤64
  · rw [if_pos q] at h
    have h1:=Fe r lv (c+rc n lv)
    rcases List.mem_cons.1 hm with e | e
    · subst e;omega
    · exact ZB r lv _ h m e
  · rw [if_neg q] at h;omega
mutual
theorem afK:∀ (n:Nd) (lv:Nat),rc n lv≤64→rc n (lv+1)=rc n lv
 | ⟨k,t,y,a,ae,x,ch,ce⟩,0,h=>by rw [rc] at h;omega
 | ⟨k,t,y,a,ae,x,ch,ce⟩,lv+1,h=>by
  rw [rc] at h ⊢
  rw [rc]
  by_cases q:alone ⟨k,t,y,a,ae,x,ch,ce⟩=true
  · rw [if_pos q] at h
    rw [if_pos q,if_pos q]
    exact YS ch lv 1 h
  · rw [if_neg q] at h;omega
theorem YS:∀ (l:List Nd) (lv c:Nat),rcs l lv c≤64→rcs l (lv+1) c=rcs l lv c
 | [],lv,c,h=>by rw [rcs,rcs]
 | n::r,lv,c,h=>by
  rw [rcs] at h ⊢
  rw [rcs]
  by_cases q:c≤64
  · rw [if_pos q] at h
    rw [if_pos q,if_pos q]
    have h1:=Fe r lv (c+rc n lv)
    have e:=afK n lv (by omega)
    rw [e]
    exact YS r lv _ h
  · rw [if_neg q] at h;omega
end
inductive NdV:Nd→Prop
 | mk (n:Nd) (hc:cnt n≠0) (h1:n.a.length≤8) (h2:n.ch.length≤16) (h:∀ m ∈ n.ch,NdV m):NdV n
theorem Z4:∀ (lv:Nat),lv≤6→∀ n:Nd,rc n lv≤64→NdV n
 | 0,_,n,h=>by rw [aiq] at h;omega
 | lv+1,hlv,n,h=>by
  have hup:∀ j,lv+1+j≤6→rc n (lv+1+j)=rc n (lv+1):=by
   intro j
   induction j with
   | zero=>intro _;rfl
   | succ j ih =>
    intro hj
    have:=ih (by omega)
    rw [← Nat.add_assoc,afK n _ (by omega)]
    exact this
  have h6:=hup (5 - lv) (by omega)
  have e6:lv+1+(5 - lv)=6:=by omega
  rw [e6] at h6
  have hge:=afx n (lv+1)
  have hc:cnt n≠0:=by rw [GN,h6,if_neg (by omega)];omega
  rw [aez] at h
  by_cases q:alone n=true
  · rw [if_pos q] at h
    have hb:=ZB _ _ _ h
    have hq:n.a.length≤8∧n.ch.length≤16:=by
     unfold alone at q
     by_cases d:n.k=2
     · rw [if_pos d] at q;simp at q;obtain ⟨⟨_,q1⟩,q2⟩:=q;rw [q1,q2];simp
     · rw [if_neg d] at q;simp at q;exact ⟨q.1.1.1.2,q.1.1.2⟩
    exact .mk n hc hq.1 hq.2 fun m hm=>Z4 lv (by omega) m (hb m hm)
  · rw [if_neg q] at h;omega
theorem BA {n:Nd} (h:cnt n≠0):NdV n:=by
 refine Z4 6 (by omega) n ?_
 rw [GN] at h
 by_cases c:64 < rc n 6
 · rw [if_pos c] at h;exact absurd rfl h
 · omega
end Go.D
end
section
namespace Go.D
open Go Go.Pav Go.Pw P
attribute [-simp] List.getElem_cons_drop
variable {C:aJ}
theorem afp:∀ (l:List En),(∀ x ∈ l,1≤x.s∧x.s≤40)→sm l≤40 * l.length
 | [],_=>by simp [sm]
 | e::r,h=>by
  have h1:=h e (by simp)
  have h2:=afp r fun x hx=>h x (by simp [hx])
  rw [sm];simp only [List.length_cons];omega
theorem aa8 {ks:List Kd} {l:List En} (hl:l.length≤12) (hg:∀ e ∈ l,gu ks e):Szd l:=by
 have:=afp l fun x hx=>(hg x hx).s
 exact ⟨by omega,fun x hx=>by have:=(hg x hx).s;omega,by omega⟩
end Go.D
end
