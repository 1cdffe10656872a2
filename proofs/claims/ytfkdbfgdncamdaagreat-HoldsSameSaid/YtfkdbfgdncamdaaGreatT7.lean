/- Part of the theory that the claims of this work use: Q06, Q07, E13, Q08, Q09, E07, E09, D46, E15, E16, E10, E11, D30, D31, D38, D40, D47, D48, D49, E17, Q10, Q11, Q12. No conditions of its own. -/
import Derived.Test.YtfkdbfgdncamdaaGreatT6
set_option linter.unusedVariables false
set_option linter.unusedSimpArgs false
set_option maxHeartbeats 4000000
set_option maxRecDepth 10000
section
namespace Go.D
open Go Go.Pav Go.Pw P
set_option maxHeartbeats 2000000
attribute [-simp] List.getElem_cons_drop
variable {C:WProg}
structure HasQm (C:WProg):Prop extends HasQc C where
 f285:C.fns.get 285=some w285
 f299:C.fns.get 299=some w299
theorem rrules_ok (H:HasQm C) (vw ov ls:Int) (ks:List Kd) (ke:Bool) (cap ar fl:Int):FnW C 299 [.agg (cCf vw ov ls ks ke cap ar fl)]=some (aR ks ke cap):=by
 rw [fnW_eq H.f299 rfl]
 simp [w299]
def wasF (ra:List Hd) (e:En):Bool:=decide (0≤atF e.i.k 0 ra)&&(match ra[(atF e.i.k 0 ra).toNat]? with | some h=>decide (h.t=e.i.t) | none=>false)
def cm2 (tr:En→Nd) (ra:List Hd) (l:List En):List Nat→List Hd × List (List Hd) × Int × Int→List Hd × List (List Hd) × Int × Int
 | [],s=>s
 | a::r,s=>cm2 tr ra l r (match l[a]? with
  | none=>s
  | some e=>if wasF ra e=true then (s.1++[⟨e.i.k,e.i.t,tr e⟩],s.2) else if (rowAt s.2.1 e.i.t).length=0 then (s.1++[⟨e.i.k,e.i.t,tr e⟩],s.2.1,s.2.2.1,s.2.2.2+1)
   else (s.1++[⟨e.i.k,e.i.t,tr e⟩],s.2.1.set e.i.t.toNat ((rowAt s.2.1 e.i.t).take ((rowAt s.2.1 e.i.t).length - 1)),s.2.2.1+1,s.2.2.2))
def RwsI (ks:List Kd) (pb ob nb lo:Nat) (RW:AV) (O:List Hd) (rb:Nat) (h:WHeap) (next:Nat) (id:Nat→Nat):Prop :=
 (O=[]∧RW=.ro 8 [] true)∨(O≠[]∧RW=.sl rb 8 0 O.length O.length false∧Pav.get h rb=some (.cells 8 (eHs O) true true)∧lo≤rb∧rb < next∧rb≠pb∧rb≠ob∧rb≠nb∧∀ j,j < ks.length→id j≠rb)
theorem atF_ge (k:Int):∀ (l:List Hd) (i:Nat),0≤atF k i l→(i:Int)≤atF k i l∧atF k i l < i+l.length
 | [],i,h=>by simp [atF] at h
 | x::l,i,h=>by
  simp only [atF] at h ⊢
  split at h
  · rename_i q;rw [if_pos q];simp;omega
  · rename_i q
    rw [if_neg q]
    have:=atF_ge k l (i+1) h
    simp only [List.length_cons];push_cast at this ⊢;omega
section
variable (vw ov ls:Int) (ks:List Kd) (ke:Bool) (cap ar fl:Int) (ra:List Hd) (ea:Bool) (ps:List Pl) (pe:Bool)
theorem cm2_loop (H:HasQm C) (tr:En→Nd) (l:List En) (e:Bool) (A:List Nat) (f:Bool) (hA:A.length≤1000) (hAl:∀ a ∈ A,a < l.length) (hra:ra.length≤1000000)
 (hty:∀ x ∈ l,∃ t:Nat,x.i.t=t∧t < ks.length) (htr:∀ (a:Nat) (h:a < l.length),FnW C 417 [aR ks ke cap,.ro 6 (l.map eEn) e,.int .i64 a]=some (.agg (tr l[a]).c))
 (pb ob nb lo:Nat):∀ m i,m+i=A.length→∀ (RW:AV) (O:List Hd) (rbk:Nat) (W:List (List Hd)) (rb mk d:Int) (h:WHeap) (next:Nat) (cs:List (List AV)) (id:Nat→Nat),
 CmI vw ov ls ks ke cap ar fl ra ea ps pe RW pb ob nb lo AnyH W [rb,mk,d,0] h next cs id→RwsI ks pb ob nb lo RW O rbk h next id→O.length+m≤1000000→0≤rb→rb+m≤1000000→0≤mk→mk+m≤1000000→(∀ w ∈ W,w.length≤1000000) →
 ∃ h' next' cs' id' RW' rbk',CK C 0 (pureFin [.cell 8 2 true,.cell 9 4 true,.tmp 10]) [.sq w285_L0,.bk 2 ⟨true,[12,11,9,8,4],[(9999,65537)]⟩,.sq w285_c0] w285_B0
  ⟨[(15,.int .i64 i),(12,.ptr nb 0 0),(11,.ptr ob 0 0),(9,.ptr 3 0 0),(8,.ptr 2 0 0),(5,.ptr 1 0 0),(4,.ptr 0 0 0),(3,.ro 1 (A.map eAt) f),(2,.ro 6 (l.map eEn) e)],h,next⟩ =
  CK C 0 (pureFin [.cell 8 2 true,.cell 9 4 true,.tmp 10]) [] w285_c0
   ⟨[(12,.ptr nb 0 0),(11,.ptr ob 0 0),(9,.ptr 3 0 0),(8,.ptr 2 0 0),(4,.ptr 0 0 0)],h',next'⟩ ∧
  CmI vw ov ls ks ke cap ar fl ra ea ps pe RW' pb ob nb lo AnyH (cm2 tr ra l (A.drop i) (O,W,rb,mk)).2.1 [(cm2 tr ra l (A.drop i) (O,W,rb,mk)).2.2.1,(cm2 tr ra l (A.drop i) (O,W,rb,mk)).2.2.2,d,0] h' next' cs' id' ∧
  RwsI ks pb ob nb lo RW' (cm2 tr ra l (A.drop i) (O,W,rb,mk)).1 rbk' h' next' id':=by
 intro m
 induction m with
 | zero =>
  intro i hi RW O rbk W rb mk d h next cs id T U hO hrb hrb2 hmk hmk2 hW
  have h2:A.drop i=[]:=List.drop_eq_nil_of_le (by omega)
  have h3:¬ i < A.length:=by omega
  rw [h2]
  refine ⟨h,next+4,cs,id,RW,rbk,?_,T.later vw ov ls ks ke cap ar fl ra ea ps pe (by omega) (fun _ _=>rfl),?_⟩
  · rw [ck_unf w285_B0.eq_1]
    simp (disch:=omega) [h3]
  · rcases U with u | ⟨u1,u2,u3,u4,u5,u6⟩
    · exact .inl u
    · exact .inr ⟨u1,u2,u3,u4,by omega,u6⟩
 | succ m ih =>
  intro i hi RW O rbk W rb mk d h next cs id T U hO hrb hrb2 hmk hmk2 hW
  have h3:i < A.length:=by omega
  have hAi:=hAl _ (List.getElem_mem h3)
  obtain ⟨t,ht,htl⟩:=hty _ (List.getElem_mem hAi)
  have htree:=htr A[i] hAi
  have hrules:=rrules_ok H vw ov ls ks ke cap ar fl
  have hat:=at_row H.toHasQo ra ea l[A[i]].i.k hra
  have ne:=T.ne
  have hwl:=T.wl
  have htW:t < W.length:=by omega
  have hcl:cs.length=ks.length:=by rw [T.R.len,hwl]
  have htc:t < cs.length:=by omega
  have hW1:=hW _ (List.getElem_mem htW)
  have hrow:rowAt W l[A[i]].i.t=W[t]:=by rw [ht];simp [rowAt,htW]
  have hft:(O.length+1) * 121≤35184372088832:=by omega
  have hNc:=(tr l[A[i]]).c_eq
  rw [drop_cons h3]
  try simp at htree
  try simp at hat
  obtain ⟨v,hv,hP⟩:=T.R.row t W[t] (List.getElem?_eq_getElem htW)
  rw [List.getElem?_eq_getElem htc] at hv
  replace hv:=Option.some.inj hv
  obtain ⟨cap2,ex,es,rfl,q1,q2,q3,q4⟩:=hP
  have bd:=T.R.bd t htW
  have nd:=T.nd t htl
  have hatt:l[A[i]].i.t.toNat=t:=by omega
  rcases U with ⟨u1,u2⟩ | ⟨u1,u2,u3,u4,u5,u6,u7,u8,u9⟩
  · subst u1;subst u2
    obtain ⟨L,hL⟩:∃ L,L=CK C 0 (pureFin [.cell 8 2 true,.cell 9 4 true,.tmp 10]) [.sq w285_L0,.bk 2 ⟨true,[12,11,9,8,4],[(9999,65537)]⟩,.sq w285_c0] w285_B0
     ⟨[(15,.int .i64 i),(12,.ptr nb 0 0),(11,.ptr ob 0 0),(9,.ptr 3 0 0),(8,.ptr 2 0 0),(5,.ptr 1 0 0),(4,.ptr 0 0 0),(3,.ro 1 (A.map eAt) f),(2,.ro 6 (l.map eEn) e)],h,next⟩:=⟨_,rfl⟩
    rw [← hL]
    rw [ck_unf w285_B0.eq_1] at hL
    simp (disch:=omega) [T.g0,T.g1,T.go,h3,hAi,getPut_self,getPut_ne,getDel_ne,H.toHasEq.inl,inlB,H.toHasEq.pp,ppB,htree,hrules,wI64,putPut,ltF,gtF,neF,fits,hft] at hL
    by_cases c:wasF ra l[A[i]]=true
    · have hcm:∀ O r,cm2 tr ra l (A[i]::r) (O,W,rb,mk)=cm2 tr ra l r (O++[⟨l[A[i]].i.k,l[A[i]].i.t,tr l[A[i]]⟩],W,rb,mk):=by
       intro O r
       simp only [cm2,List.getElem?_eq_getElem hAi,c,if_true]
      obtain ⟨c1,c2⟩:=Bool.and_eq_true _ _ ▸ c
      have c1:=of_decide_eq_true c1
      obtain ⟨hge,hlt⟩:=atF_ge _ _ _ c1
      obtain ⟨k,hk⟩:∃ k:Nat,atF l[A[i]].i.k 0 ra=k:=⟨(atF l[A[i]].i.k 0 ra).toNat,by omega⟩
      have hkl:k < ra.length:=by omega
      rw [hk] at c2
      simp [hkl] at c2
      have T1:CmI vw ov ls ks ke cap ar fl ra ea ps pe (.sl (next+33) 8 0 1 1 false) pb ob nb lo AnyH W [rb,mk,d,0] (put (put (put (put (put h (next+12) (.cells 4 [[AV.int .u64 l[A[i]].i.k,AV.int .u8 l[A[i]].i.t,AV.str l[A[i]].i.x,AV.ro 1 (List.map eS l[A[i]].i.m) l[A[i]].i.e]] true true)) (next+27) (.cells 8 [(AV.int .u64 l[A[i]].i.k::AV.int .u8 l[A[i]].i.t::(tr l[A[i]]).c)] true true)) (next+32) (.cells 8 [(AV.int .u64 l[A[i]].i.k::AV.int .u8 l[A[i]].i.t::(tr l[A[i]]).c)] true true)) (next+33) (.cells 8 [(AV.int .u64 l[A[i]].i.k::AV.int .u8 l[A[i]].i.t::(tr l[A[i]]).c)] true true)) ob (.cells 2 [[.sl (next+33) 8 0 1 1 false,.sl pb 1 0 ks.length ks.length false]] true false)) (next+58) cs id:=by
       refine ⟨T.R.mono (by omega) (fun j hj=>by have:=T.R.bd j (by omega);have:=T.nd j (by omega);simp (disch:=omega) only [getPut_self,getPut_ne,getDel_ne]),by simp [hwl],?_,?_,?_,?_,?_,?_,?_,by omega,fun j hj=>?_⟩
       · simp (disch:=omega) only [getPut_self,getPut_ne,getDel_ne]
       · simp (disch:=omega) only [getPut_self,getPut_ne,getDel_ne];exact T.gp
       · simp (disch:=omega) only [getPut_self,getPut_ne,getDel_ne];exact T.gn
       · simp (disch:=omega) only [getPut_self,getPut_ne,getDel_ne];exact T.g0
       · simp (disch:=omega) only [getPut_self,getPut_ne,getDel_ne];exact T.g1
       · simp (disch:=omega) only [getPut_self,getPut_ne,getDel_ne];exact T.g2
       · simp (disch:=omega) only [getPut_self,getPut_ne,getDel_ne];exact T.g3
       · have:=T.nd j hj
         exact this
      have U1:RwsI ks pb ob nb lo (.sl (next+33) 8 0 1 1 false) [⟨l[A[i]].i.k,l[A[i]].i.t,tr l[A[i]]⟩] (next+33) (put (put (put (put (put h (next+12) (.cells 4 [[AV.int .u64 l[A[i]].i.k,AV.int .u8 l[A[i]].i.t,AV.str l[A[i]].i.x,AV.ro 1 (List.map eS l[A[i]].i.m) l[A[i]].i.e]] true true)) (next+27) (.cells 8 [(AV.int .u64 l[A[i]].i.k::AV.int .u8 l[A[i]].i.t::(tr l[A[i]]).c)] true true)) (next+32) (.cells 8 [(AV.int .u64 l[A[i]].i.k::AV.int .u8 l[A[i]].i.t::(tr l[A[i]]).c)] true true)) (next+33) (.cells 8 [(AV.int .u64 l[A[i]].i.k::AV.int .u8 l[A[i]].i.t::(tr l[A[i]]).c)] true true)) ob (.cells 2 [[.sl (next+33) 8 0 1 1 false,.sl pb 1 0 ks.length ks.length false]] true false)) (next+58) id:=by
       refine .inr ⟨by simp,by simp,?_,by omega,by omega,by omega,by omega,by omega,fun j hj=>?_⟩
       · simp (disch:=omega) only [getPut_self,getPut_ne,getDel_ne];simp [ht]
       · have:=T.R.bd j (by omega);have:=T.R.bd t htW;omega
      obtain ⟨h',n',cs',id',RW',rbk',e1,e2,e3⟩:=ih (i+1) (by omega) _ [⟨l[A[i]].i.k,l[A[i]].i.t,tr l[A[i]]⟩] _ W rb mk d _ _ _ _ T1 U1 (by simp;omega) (by omega) (by omega) (by omega) (by omega) hW
      refine ⟨h',n',cs',id',RW',rbk',?_,by rw [hcm];exact e2,by rw [hcm];exact e3⟩
      rw [hL,← e1]
      simp (disch:=omega) [T.g0,T.g1,T.go,T.gp,T.gn,hAi,getPut_self,getPut_ne,getDel_ne,H.toHasEq.inl,inlB,H.toHasEq.pp,ppB,hat,wI64,putPut,ltF,gtF,neF,fits,hft,hk,hkl,c2]
    · have c':wasF ra l[A[i]]=false:=by simpa using c
      have hc0:(∃ _:¬ 0≤atF l[A[i]].i.k 0 ra,True)∨∃ k:Nat,atF l[A[i]].i.k 0 ra=k∧∃ h:k < ra.length,¬ ra[k].t=(t:Int):=by
       by_cases c0:0≤atF l[A[i]].i.k 0 ra
       · obtain ⟨hge,hlt⟩:=atF_ge _ _ _ c0
         refine .inr ⟨(atF l[A[i]].i.k 0 ra).toNat,by omega,by omega,fun q=>?_⟩
         have hkl:(atF l[A[i]].i.k 0 ra).toNat < ra.length:=by omega
         have:wasF ra l[A[i]]=true:=by simp [wasF,c0,hkl,q,ht]
         exact c this
       · exact .inl ⟨c0,trivial⟩
      by_cases c3:W[t].length=0
      · have hcm:∀ O r,cm2 tr ra l (A[i]::r) (O,W,rb,mk)=cm2 tr ra l r (O++[⟨l[A[i]].i.k,l[A[i]].i.t,tr l[A[i]]⟩],W,rb,mk+1):=by
         intro O r
         simp only [cm2,List.getElem?_eq_getElem hAi,c',hrow,c3,if_true,Bool.false_eq_true,if_false]
        rw [c3] at hv
        rcases hc0 with ⟨c0,_⟩ | ⟨k,hk,hkl,c2⟩
        · skip
          have T1:CmI vw ov ls ks ke cap ar fl ra ea ps pe (.sl (next+33) 8 0 1 1 false) pb ob nb lo AnyH W [rb,mk+1,d,0] (put (put (put (put (put (put h (next+12) (.cells 4 [[AV.int .u64 l[A[i]].i.k,AV.int .u8 (t:Int),AV.str l[A[i]].i.x,AV.ro 1 (List.map eS l[A[i]].i.m) l[A[i]].i.e]] true true)) (next+27) (.cells 8 [(AV.int .u64 l[A[i]].i.k::AV.int .u8 (t:Int)::(tr l[A[i]]).c)] true true)) (next+32) (.cells 8 [(AV.int .u64 l[A[i]].i.k::AV.int .u8 (t:Int)::(tr l[A[i]]).c)] true true)) (next+33) (.cells 8 [(AV.int .u64 l[A[i]].i.k::AV.int .u8 (t:Int)::(tr l[A[i]]).c)] true true)) ob (.cells 2 [[.sl (next+33) 8 0 1 1 false,.sl pb 1 0 ks.length ks.length false]] true false)) nb (.cells 4 [[.int .i64 rb,.int .i64 (mk+1),.int .i64 d,.int .i64 0]] true true)) (next+73) cs id:=by
           refine ⟨T.R.mono (by omega) (fun j hj=>by have:=T.R.bd j (by omega);have:=T.nd j (by omega);simp (disch:=omega) only [getPut_self,getPut_ne,getDel_ne]),by simp [hwl],?_,?_,?_,?_,?_,?_,?_,by omega,fun j hj=>?_⟩
           · simp (disch:=omega) only [getPut_self,getPut_ne,getDel_ne]
           · simp (disch:=omega) only [getPut_self,getPut_ne,getDel_ne];exact T.gp
           · simp (disch:=omega) only [getPut_self,getPut_ne,getDel_ne];rfl
           · simp (disch:=omega) only [getPut_self,getPut_ne,getDel_ne];exact T.g0
           · simp (disch:=omega) only [getPut_self,getPut_ne,getDel_ne];exact T.g1
           · simp (disch:=omega) only [getPut_self,getPut_ne,getDel_ne];exact T.g2
           · simp (disch:=omega) only [getPut_self,getPut_ne,getDel_ne];exact T.g3
           · have:=T.nd j hj
             exact this
          have U1:RwsI ks pb ob nb lo (.sl (next+33) 8 0 1 1 false) [⟨l[A[i]].i.k,l[A[i]].i.t,tr l[A[i]]⟩] (next+33) (put (put (put (put (put (put h (next+12) (.cells 4 [[AV.int .u64 l[A[i]].i.k,AV.int .u8 (t:Int),AV.str l[A[i]].i.x,AV.ro 1 (List.map eS l[A[i]].i.m) l[A[i]].i.e]] true true)) (next+27) (.cells 8 [(AV.int .u64 l[A[i]].i.k::AV.int .u8 (t:Int)::(tr l[A[i]]).c)] true true)) (next+32) (.cells 8 [(AV.int .u64 l[A[i]].i.k::AV.int .u8 (t:Int)::(tr l[A[i]]).c)] true true)) (next+33) (.cells 8 [(AV.int .u64 l[A[i]].i.k::AV.int .u8 (t:Int)::(tr l[A[i]]).c)] true true)) ob (.cells 2 [[.sl (next+33) 8 0 1 1 false,.sl pb 1 0 ks.length ks.length false]] true false)) nb (.cells 4 [[.int .i64 rb,.int .i64 (mk+1),.int .i64 d,.int .i64 0]] true true)) (next+73) id:=by
           refine .inr ⟨by simp,by simp,?_,by omega,by omega,by omega,by omega,by omega,fun j hj=>?_⟩
           · simp (disch:=omega) only [getPut_self,getPut_ne,getDel_ne];simp [ht]
           · have:=T.R.bd j (by omega);have:=T.R.bd t htW;omega
          obtain ⟨h',n',cs',id',RW',rbk',e1,e2,e3⟩:=ih (i+1) (by omega) _ [⟨l[A[i]].i.k,l[A[i]].i.t,tr l[A[i]]⟩] _ W rb (mk+1) d _ _ _ _ T1 U1 (by simp;omega) (by omega) (by omega) (by omega) (by omega) hW
          refine ⟨h',n',cs',id',RW',rbk',?_,by rw [hcm];exact e2,by rw [hcm];exact e3⟩
          rw [hL,← e1]
          simp (disch:=omega) [T.g0,T.g1,T.go,T.gp,T.gn,hAi,getPut_self,getPut_ne,getDel_ne,H.toHasEq.inl,inlB,H.toHasEq.pp,ppB,hat,wI64,putPut,ltF,gtF,neF,fits,hft,ht,htc,htl,hv,c0]
        · skip
          have T1:CmI vw ov ls ks ke cap ar fl ra ea ps pe (.sl (next+33) 8 0 1 1 false) pb ob nb lo AnyH W [rb,mk+1,d,0] (put (put (put (put (put (put h (next+12) (.cells 4 [[AV.int .u64 l[A[i]].i.k,AV.int .u8 (t:Int),AV.str l[A[i]].i.x,AV.ro 1 (List.map eS l[A[i]].i.m) l[A[i]].i.e]] true true)) (next+27) (.cells 8 [(AV.int .u64 l[A[i]].i.k::AV.int .u8 (t:Int)::(tr l[A[i]]).c)] true true)) (next+32) (.cells 8 [(AV.int .u64 l[A[i]].i.k::AV.int .u8 (t:Int)::(tr l[A[i]]).c)] true true)) (next+33) (.cells 8 [(AV.int .u64 l[A[i]].i.k::AV.int .u8 (t:Int)::(tr l[A[i]]).c)] true true)) ob (.cells 2 [[.sl (next+33) 8 0 1 1 false,.sl pb 1 0 ks.length ks.length false]] true false)) nb (.cells 4 [[.int .i64 rb,.int .i64 (mk+1),.int .i64 d,.int .i64 0]] true true)) (next+73) cs id:=by
           refine ⟨T.R.mono (by omega) (fun j hj=>by have:=T.R.bd j (by omega);have:=T.nd j (by omega);simp (disch:=omega) only [getPut_self,getPut_ne,getDel_ne]),by simp [hwl],?_,?_,?_,?_,?_,?_,?_,by omega,fun j hj=>?_⟩
           · simp (disch:=omega) only [getPut_self,getPut_ne,getDel_ne]
           · simp (disch:=omega) only [getPut_self,getPut_ne,getDel_ne];exact T.gp
           · simp (disch:=omega) only [getPut_self,getPut_ne,getDel_ne];rfl
           · simp (disch:=omega) only [getPut_self,getPut_ne,getDel_ne];exact T.g0
           · simp (disch:=omega) only [getPut_self,getPut_ne,getDel_ne];exact T.g1
           · simp (disch:=omega) only [getPut_self,getPut_ne,getDel_ne];exact T.g2
           · simp (disch:=omega) only [getPut_self,getPut_ne,getDel_ne];exact T.g3
           · have:=T.nd j hj
             exact this
          have U1:RwsI ks pb ob nb lo (.sl (next+33) 8 0 1 1 false) [⟨l[A[i]].i.k,l[A[i]].i.t,tr l[A[i]]⟩] (next+33) (put (put (put (put (put (put h (next+12) (.cells 4 [[AV.int .u64 l[A[i]].i.k,AV.int .u8 (t:Int),AV.str l[A[i]].i.x,AV.ro 1 (List.map eS l[A[i]].i.m) l[A[i]].i.e]] true true)) (next+27) (.cells 8 [(AV.int .u64 l[A[i]].i.k::AV.int .u8 (t:Int)::(tr l[A[i]]).c)] true true)) (next+32) (.cells 8 [(AV.int .u64 l[A[i]].i.k::AV.int .u8 (t:Int)::(tr l[A[i]]).c)] true true)) (next+33) (.cells 8 [(AV.int .u64 l[A[i]].i.k::AV.int .u8 (t:Int)::(tr l[A[i]]).c)] true true)) ob (.cells 2 [[.sl (next+33) 8 0 1 1 false,.sl pb 1 0 ks.length ks.length false]] true false)) nb (.cells 4 [[.int .i64 rb,.int .i64 (mk+1),.int .i64 d,.int .i64 0]] true true)) (next+73) id:=by
           refine .inr ⟨by simp,by simp,?_,by omega,by omega,by omega,by omega,by omega,fun j hj=>?_⟩
           · simp (disch:=omega) only [getPut_self,getPut_ne,getDel_ne];simp [ht]
           · have:=T.R.bd j (by omega);have:=T.R.bd t htW;omega
          obtain ⟨h',n',cs',id',RW',rbk',e1,e2,e3⟩:=ih (i+1) (by omega) _ [⟨l[A[i]].i.k,l[A[i]].i.t,tr l[A[i]]⟩] _ W rb (mk+1) d _ _ _ _ T1 U1 (by simp;omega) (by omega) (by omega) (by omega) (by omega) hW
          refine ⟨h',n',cs',id',RW',rbk',?_,by rw [hcm];exact e2,by rw [hcm];exact e3⟩
          rw [hL,← e1]
          simp (disch:=omega) [T.g0,T.g1,T.go,T.gp,T.gn,hAi,getPut_self,getPut_ne,getDel_ne,H.toHasEq.inl,inlB,H.toHasEq.pp,ppB,hat,wI64,putPut,ltF,gtF,neF,fits,hft,ht,htc,htl,hv,hk,hkl,c2]
      · obtain ⟨n,hn⟩:∃ n,W[t].length=n+1:=⟨W[t].length - 1,by omega⟩
        have hcm:∀ O r,cm2 tr ra l (A[i]::r) (O,W,rb,mk)=cm2 tr ra l r (O++[⟨l[A[i]].i.k,l[A[i]].i.t,tr l[A[i]]⟩],W.set t (W[t].take n),rb+1,mk):=by
         intro O r
         have:W[t].length - 1=n:=by omega
         simp only [cm2,List.getElem?_eq_getElem hAi,c',hrow,c3,Bool.false_eq_true,if_false,hatt,this]
        rw [hn] at hv q1 q2 q3
        have hnl:(W[t].take n).length=n:=by simp;omega
        have hes3:=q3
        have hwn:IntKind.i64.wrap (n:Int)=n:=wI64 (by omega) (by omega)
        have hne0:¬ ((n:Int)+1=0):=by omega
        have hncap:n≤cap2:=by omega
        have hcap1:n+1≤cap2:=by omega
        have hcap0:0 < cap2:=by omega
        have hWs:∀ w ∈ W.set t (W[t].take n),w.length≤1000000:=by
         intro w hw
         rcases List.mem_or_eq_of_mem_set hw with q | q
         · exact hW w q
         · subst q;omega
        have hANY:∀ o,o=some (WObj.cells 8 (eHs es) true true)→AnyH o (id t) (.sl (id t) 8 0 n cap2 ex) (W[t].take n):=by
         rintro o rfl
         refine ⟨cap2,ex,es,by rw [hnl],by omega,by omega,?_,rfl⟩
         rw [hnl,← hes3,List.take_take]
         congr 1
         omega
        rcases hc0 with ⟨c0,_⟩ | ⟨k,hk,hkl,c2⟩
        · skip
          have T1:CmI vw ov ls ks ke cap ar fl ra ea ps pe (.sl (next+33) 8 0 1 1 false) pb ob nb lo AnyH (W.set t (W[t].take n)) [rb+1,mk,d,0] (put (put (put (put (put (put (put h (next+12) (.cells 4 [[AV.int .u64 l[A[i]].i.k,AV.int .u8 (t:Int),AV.str l[A[i]].i.x,AV.ro 1 (List.map eS l[A[i]].i.m) l[A[i]].i.e]] true true)) (next+27) (.cells 8 [(AV.int .u64 l[A[i]].i.k::AV.int .u8 (t:Int)::(tr l[A[i]]).c)] true true)) (next+32) (.cells 8 [(AV.int .u64 l[A[i]].i.k::AV.int .u8 (t:Int)::(tr l[A[i]]).c)] true true)) (next+33) (.cells 8 [(AV.int .u64 l[A[i]].i.k::AV.int .u8 (t:Int)::(tr l[A[i]]).c)] true true)) ob (.cells 2 [[.sl (next+33) 8 0 1 1 false,.sl pb 1 0 ks.length ks.length false]] true false)) nb (.cells 4 [[.int .i64 (rb+1),.int .i64 mk,.int .i64 d,.int .i64 0]] true true)) pb (.cells 1 (cs.set t [.sl (id t) 8 0 n cap2 ex]) true false)) (next+88) (cs.set t [.sl (id t) 8 0 n cap2 ex]) (fun j=>if j=t then id t else id j):=by
           refine ⟨T.R.set t htW (id t) (.inl rfl) bd.1 (by omega) (by omega) _ _ (fun j hj hjt=>by have:=T.R.bd j (by omega);have:=T.nd j (by omega);simp (disch:=omega) only [getPut_self,getPut_ne,getDel_ne]) (hANY _ (by simp (disch:=omega) only [getPut_self,getPut_ne,getDel_ne];exact q4)),by simp [hwl],?_,?_,?_,?_,?_,?_,?_,by omega,fun j hj=>?_⟩
           · simp (disch:=omega) only [getPut_self,getPut_ne,getDel_ne]
           · simp (disch:=omega) only [getPut_self,getPut_ne,getDel_ne]
           · simp (disch:=omega) only [getPut_self,getPut_ne,getDel_ne];rfl
           · simp (disch:=omega) only [getPut_self,getPut_ne,getDel_ne];exact T.g0
           · simp (disch:=omega) only [getPut_self,getPut_ne,getDel_ne];exact T.g1
           · simp (disch:=omega) only [getPut_self,getPut_ne,getDel_ne];exact T.g2
           · simp (disch:=omega) only [getPut_self,getPut_ne,getDel_ne];exact T.g3
           · have h1:=T.nd j hj
             have h2:=T.nd t htl
             split <;> assumption
          have U1:RwsI ks pb ob nb lo (.sl (next+33) 8 0 1 1 false) [⟨l[A[i]].i.k,l[A[i]].i.t,tr l[A[i]]⟩] (next+33) (put (put (put (put (put (put (put h (next+12) (.cells 4 [[AV.int .u64 l[A[i]].i.k,AV.int .u8 (t:Int),AV.str l[A[i]].i.x,AV.ro 1 (List.map eS l[A[i]].i.m) l[A[i]].i.e]] true true)) (next+27) (.cells 8 [(AV.int .u64 l[A[i]].i.k::AV.int .u8 (t:Int)::(tr l[A[i]]).c)] true true)) (next+32) (.cells 8 [(AV.int .u64 l[A[i]].i.k::AV.int .u8 (t:Int)::(tr l[A[i]]).c)] true true)) (next+33) (.cells 8 [(AV.int .u64 l[A[i]].i.k::AV.int .u8 (t:Int)::(tr l[A[i]]).c)] true true)) ob (.cells 2 [[.sl (next+33) 8 0 1 1 false,.sl pb 1 0 ks.length ks.length false]] true false)) nb (.cells 4 [[.int .i64 (rb+1),.int .i64 mk,.int .i64 d,.int .i64 0]] true true)) pb (.cells 1 (cs.set t [.sl (id t) 8 0 n cap2 ex]) true false)) (next+88) (fun j=>if j=t then id t else id j):=by
           refine .inr ⟨by simp,by simp,?_,by omega,by omega,by omega,by omega,by omega,fun j hj=>?_⟩
           · simp (disch:=omega) only [getPut_self,getPut_ne,getDel_ne];simp [ht]
           · have:=T.R.bd j (by omega);have:=T.R.bd t htW;show (if j=t then id t else id j)≠next+33;split <;> omega
          obtain ⟨h',n',cs',id',RW',rbk',e1,e2,e3⟩:=ih (i+1) (by omega) _ [⟨l[A[i]].i.k,l[A[i]].i.t,tr l[A[i]]⟩] _ (W.set t (W[t].take n)) (rb+1) mk d _ _ _ _ T1 U1 (by simp;omega) (by omega) (by omega) (by omega) (by omega) hWs
          refine ⟨h',n',cs',id',RW',rbk',?_,by rw [hcm];exact e2,by rw [hcm];exact e3⟩
          rw [hL,← e1]
          simp (disch:=omega) [T.g0,T.g1,T.go,T.gp,T.gn,hAi,getPut_self,getPut_ne,getDel_ne,H.toHasEq.inl,inlB,H.toHasEq.pp,ppB,hat,wI64,putPut,ltF,gtF,neF,fits,hft,ht,htc,htl,hv,hwn,hncap,hne0,hcap1,hcap0,c0]
        · skip
          have T1:CmI vw ov ls ks ke cap ar fl ra ea ps pe (.sl (next+33) 8 0 1 1 false) pb ob nb lo AnyH (W.set t (W[t].take n)) [rb+1,mk,d,0] (put (put (put (put (put (put (put h (next+12) (.cells 4 [[AV.int .u64 l[A[i]].i.k,AV.int .u8 (t:Int),AV.str l[A[i]].i.x,AV.ro 1 (List.map eS l[A[i]].i.m) l[A[i]].i.e]] true true)) (next+27) (.cells 8 [(AV.int .u64 l[A[i]].i.k::AV.int .u8 (t:Int)::(tr l[A[i]]).c)] true true)) (next+32) (.cells 8 [(AV.int .u64 l[A[i]].i.k::AV.int .u8 (t:Int)::(tr l[A[i]]).c)] true true)) (next+33) (.cells 8 [(AV.int .u64 l[A[i]].i.k::AV.int .u8 (t:Int)::(tr l[A[i]]).c)] true true)) ob (.cells 2 [[.sl (next+33) 8 0 1 1 false,.sl pb 1 0 ks.length ks.length false]] true false)) nb (.cells 4 [[.int .i64 (rb+1),.int .i64 mk,.int .i64 d,.int .i64 0]] true true)) pb (.cells 1 (cs.set t [.sl (id t) 8 0 n cap2 ex]) true false)) (next+88) (cs.set t [.sl (id t) 8 0 n cap2 ex]) (fun j=>if j=t then id t else id j):=by
           refine ⟨T.R.set t htW (id t) (.inl rfl) bd.1 (by omega) (by omega) _ _ (fun j hj hjt=>by have:=T.R.bd j (by omega);have:=T.nd j (by omega);simp (disch:=omega) only [getPut_self,getPut_ne,getDel_ne]) (hANY _ (by simp (disch:=omega) only [getPut_self,getPut_ne,getDel_ne];exact q4)),by simp [hwl],?_,?_,?_,?_,?_,?_,?_,by omega,fun j hj=>?_⟩
           · simp (disch:=omega) only [getPut_self,getPut_ne,getDel_ne]
           · simp (disch:=omega) only [getPut_self,getPut_ne,getDel_ne]
           · simp (disch:=omega) only [getPut_self,getPut_ne,getDel_ne];rfl
           · simp (disch:=omega) only [getPut_self,getPut_ne,getDel_ne];exact T.g0
           · simp (disch:=omega) only [getPut_self,getPut_ne,getDel_ne];exact T.g1
           · simp (disch:=omega) only [getPut_self,getPut_ne,getDel_ne];exact T.g2
           · simp (disch:=omega) only [getPut_self,getPut_ne,getDel_ne];exact T.g3
           · have h1:=T.nd j hj
             have h2:=T.nd t htl
             split <;> assumption
          have U1:RwsI ks pb ob nb lo (.sl (next+33) 8 0 1 1 false) [⟨l[A[i]].i.k,l[A[i]].i.t,tr l[A[i]]⟩] (next+33) (put (put (put (put (put (put (put h (next+12) (.cells 4 [[AV.int .u64 l[A[i]].i.k,AV.int .u8 (t:Int),AV.str l[A[i]].i.x,AV.ro 1 (List.map eS l[A[i]].i.m) l[A[i]].i.e]] true true)) (next+27) (.cells 8 [(AV.int .u64 l[A[i]].i.k::AV.int .u8 (t:Int)::(tr l[A[i]]).c)] true true)) (next+32) (.cells 8 [(AV.int .u64 l[A[i]].i.k::AV.int .u8 (t:Int)::(tr l[A[i]]).c)] true true)) (next+33) (.cells 8 [(AV.int .u64 l[A[i]].i.k::AV.int .u8 (t:Int)::(tr l[A[i]]).c)] true true)) ob (.cells 2 [[.sl (next+33) 8 0 1 1 false,.sl pb 1 0 ks.length ks.length false]] true false)) nb (.cells 4 [[.int .i64 (rb+1),.int .i64 mk,.int .i64 d,.int .i64 0]] true true)) pb (.cells 1 (cs.set t [.sl (id t) 8 0 n cap2 ex]) true false)) (next+88) (fun j=>if j=t then id t else id j):=by
           refine .inr ⟨by simp,by simp,?_,by omega,by omega,by omega,by omega,by omega,fun j hj=>?_⟩
           · simp (disch:=omega) only [getPut_self,getPut_ne,getDel_ne];simp [ht]
           · have:=T.R.bd j (by omega);have:=T.R.bd t htW;show (if j=t then id t else id j)≠next+33;split <;> omega
          obtain ⟨h',n',cs',id',RW',rbk',e1,e2,e3⟩:=ih (i+1) (by omega) _ [⟨l[A[i]].i.k,l[A[i]].i.t,tr l[A[i]]⟩] _ (W.set t (W[t].take n)) (rb+1) mk d _ _ _ _ T1 U1 (by simp;omega) (by omega) (by omega) (by omega) (by omega) hWs
          refine ⟨h',n',cs',id',RW',rbk',?_,by rw [hcm];exact e2,by rw [hcm];exact e3⟩
          rw [hL,← e1]
          simp (disch:=omega) [T.g0,T.g1,T.go,T.gp,T.gn,hAi,getPut_self,getPut_ne,getDel_ne,H.toHasEq.inl,inlB,H.toHasEq.pp,ppB,hat,wI64,putPut,ltF,gtF,neF,fits,hft,ht,htc,htl,hv,hwn,hncap,hne0,hcap1,hcap0,hk,hkl,c2]
  · subst u2
    obtain ⟨L,hL⟩:∃ L,L=CK C 0 (pureFin [.cell 8 2 true,.cell 9 4 true,.tmp 10]) [.sq w285_L0,.bk 2 ⟨true,[12,11,9,8,4],[(9999,65537)]⟩,.sq w285_c0] w285_B0
     ⟨[(15,.int .i64 i),(12,.ptr nb 0 0),(11,.ptr ob 0 0),(9,.ptr 3 0 0),(8,.ptr 2 0 0),(5,.ptr 1 0 0),(4,.ptr 0 0 0),(3,.ro 1 (A.map eAt) f),(2,.ro 6 (l.map eEn) e)],h,next⟩:=⟨_,rfl⟩
    rw [← hL]
    rw [ck_unf w285_B0.eq_1] at hL
    simp (disch:=omega) [T.g0,T.g1,T.go,h3,hAi,getPut_self,getPut_ne,getDel_ne,H.toHasEq.inl,inlB,H.toHasEq.pp,ppB,htree,hrules,wI64,putPut,ltF,gtF,neF,fits,hft,u3] at hL
    by_cases c:wasF ra l[A[i]]=true
    · have hcm:∀ O r,cm2 tr ra l (A[i]::r) (O,W,rb,mk)=cm2 tr ra l r (O++[⟨l[A[i]].i.k,l[A[i]].i.t,tr l[A[i]]⟩],W,rb,mk):=by
       intro O r
       simp only [cm2,List.getElem?_eq_getElem hAi,c,if_true]
      obtain ⟨c1,c2⟩:=Bool.and_eq_true _ _ ▸ c
      have c1:=of_decide_eq_true c1
      obtain ⟨hge,hlt⟩:=atF_ge _ _ _ c1
      obtain ⟨k,hk⟩:∃ k:Nat,atF l[A[i]].i.k 0 ra=k:=⟨(atF l[A[i]].i.k 0 ra).toNat,by omega⟩
      have hkl:k < ra.length:=by omega
      rw [hk] at c2
      simp [hkl] at c2
      have T1:CmI vw ov ls ks ke cap ar fl ra ea ps pe (.sl (next+33) 8 0 (O.length+1) (O.length+1) false) pb ob nb lo AnyH W [rb,mk,d,0] (put (put (del (put (put (put h (next+12) (.cells 4 [[AV.int .u64 l[A[i]].i.k,AV.int .u8 l[A[i]].i.t,AV.str l[A[i]].i.x,AV.ro 1 (List.map eS l[A[i]].i.m) l[A[i]].i.e]] true true)) (next+27) (.cells 8 [(AV.int .u64 l[A[i]].i.k::AV.int .u8 l[A[i]].i.t::(tr l[A[i]]).c)] true true)) (next+32) (.cells 8 [(AV.int .u64 l[A[i]].i.k::AV.int .u8 l[A[i]].i.t::(tr l[A[i]]).c)] true true)) rbk) (next+33) (.cells 8 (eHs O++[(AV.int .u64 l[A[i]].i.k::AV.int .u8 l[A[i]].i.t::(tr l[A[i]]).c)]) true true)) ob (.cells 2 [[.sl (next+33) 8 0 (O.length+1) (O.length+1) false,.sl pb 1 0 ks.length ks.length false]] true false)) (next+58) cs id:=by
       refine ⟨T.R.mono (by omega) (fun j hj=>by have:=T.R.bd j (by omega);have:=T.nd j (by omega);have:=u9 j (by omega);simp (disch:=omega) only [getPut_self,getPut_ne,getDel_ne]),by simp [hwl],?_,?_,?_,?_,?_,?_,?_,by omega,fun j hj=>?_⟩
       · simp (disch:=omega) only [getPut_self,getPut_ne,getDel_ne]
       · simp (disch:=omega) only [getPut_self,getPut_ne,getDel_ne];exact T.gp
       · simp (disch:=omega) only [getPut_self,getPut_ne,getDel_ne];exact T.gn
       · simp (disch:=omega) only [getPut_self,getPut_ne,getDel_ne];exact T.g0
       · simp (disch:=omega) only [getPut_self,getPut_ne,getDel_ne];exact T.g1
       · simp (disch:=omega) only [getPut_self,getPut_ne,getDel_ne];exact T.g2
       · simp (disch:=omega) only [getPut_self,getPut_ne,getDel_ne];exact T.g3
       · have:=T.nd j hj
         exact this
      have U1:RwsI ks pb ob nb lo (.sl (next+33) 8 0 (O.length+1) (O.length+1) false) (O++[⟨l[A[i]].i.k,l[A[i]].i.t,tr l[A[i]]⟩]) (next+33) (put (put (del (put (put (put h (next+12) (.cells 4 [[AV.int .u64 l[A[i]].i.k,AV.int .u8 l[A[i]].i.t,AV.str l[A[i]].i.x,AV.ro 1 (List.map eS l[A[i]].i.m) l[A[i]].i.e]] true true)) (next+27) (.cells 8 [(AV.int .u64 l[A[i]].i.k::AV.int .u8 l[A[i]].i.t::(tr l[A[i]]).c)] true true)) (next+32) (.cells 8 [(AV.int .u64 l[A[i]].i.k::AV.int .u8 l[A[i]].i.t::(tr l[A[i]]).c)] true true)) rbk) (next+33) (.cells 8 (eHs O++[(AV.int .u64 l[A[i]].i.k::AV.int .u8 l[A[i]].i.t::(tr l[A[i]]).c)]) true true)) ob (.cells 2 [[.sl (next+33) 8 0 (O.length+1) (O.length+1) false,.sl pb 1 0 ks.length ks.length false]] true false)) (next+58) id:=by
       refine .inr ⟨by simp,by simp,?_,by omega,by omega,by omega,by omega,by omega,fun j hj=>?_⟩
       · simp (disch:=omega) only [getPut_self,getPut_ne,getDel_ne];simp [ht]
       · have:=T.R.bd j (by omega);have:=T.R.bd t htW;omega
      obtain ⟨h',n',cs',id',RW',rbk',e1,e2,e3⟩:=ih (i+1) (by omega) _ (O++[⟨l[A[i]].i.k,l[A[i]].i.t,tr l[A[i]]⟩]) _ W rb mk d _ _ _ _ T1 U1 (by simp;omega) (by omega) (by omega) (by omega) (by omega) hW
      refine ⟨h',n',cs',id',RW',rbk',?_,by rw [hcm];exact e2,by rw [hcm];exact e3⟩
      rw [hL,← e1]
      simp (disch:=omega) [T.g0,T.g1,T.go,T.gp,T.gn,hAi,getPut_self,getPut_ne,getDel_ne,H.toHasEq.inl,inlB,H.toHasEq.pp,ppB,hat,wI64,putPut,ltF,gtF,neF,fits,hft,hk,hkl,c2,u3]
    · have c':wasF ra l[A[i]]=false:=by simpa using c
      have hc0:(∃ _:¬ 0≤atF l[A[i]].i.k 0 ra,True)∨∃ k:Nat,atF l[A[i]].i.k 0 ra=k∧∃ h:k < ra.length,¬ ra[k].t=(t:Int):=by
       by_cases c0:0≤atF l[A[i]].i.k 0 ra
       · obtain ⟨hge,hlt⟩:=atF_ge _ _ _ c0
         refine .inr ⟨(atF l[A[i]].i.k 0 ra).toNat,by omega,by omega,fun q=>?_⟩
         have hkl:(atF l[A[i]].i.k 0 ra).toNat < ra.length:=by omega
         have:wasF ra l[A[i]]=true:=by simp [wasF,c0,hkl,q,ht]
         exact c this
       · exact .inl ⟨c0,trivial⟩
      by_cases c3:W[t].length=0
      · have hcm:∀ O r,cm2 tr ra l (A[i]::r) (O,W,rb,mk)=cm2 tr ra l r (O++[⟨l[A[i]].i.k,l[A[i]].i.t,tr l[A[i]]⟩],W,rb,mk+1):=by
         intro O r
         simp only [cm2,List.getElem?_eq_getElem hAi,c',hrow,c3,if_true,Bool.false_eq_true,if_false]
        rw [c3] at hv
        rcases hc0 with ⟨c0,_⟩ | ⟨k,hk,hkl,c2⟩
        · skip
          have T1:CmI vw ov ls ks ke cap ar fl ra ea ps pe (.sl (next+33) 8 0 (O.length+1) (O.length+1) false) pb ob nb lo AnyH W [rb,mk+1,d,0] (put (put (put (del (put (put (put h (next+12) (.cells 4 [[AV.int .u64 l[A[i]].i.k,AV.int .u8 (t:Int),AV.str l[A[i]].i.x,AV.ro 1 (List.map eS l[A[i]].i.m) l[A[i]].i.e]] true true)) (next+27) (.cells 8 [(AV.int .u64 l[A[i]].i.k::AV.int .u8 (t:Int)::(tr l[A[i]]).c)] true true)) (next+32) (.cells 8 [(AV.int .u64 l[A[i]].i.k::AV.int .u8 (t:Int)::(tr l[A[i]]).c)] true true)) rbk) (next+33) (.cells 8 (eHs O++[(AV.int .u64 l[A[i]].i.k::AV.int .u8 (t:Int)::(tr l[A[i]]).c)]) true true)) ob (.cells 2 [[.sl (next+33) 8 0 (O.length+1) (O.length+1) false,.sl pb 1 0 ks.length ks.length false]] true false)) nb (.cells 4 [[.int .i64 rb,.int .i64 (mk+1),.int .i64 d,.int .i64 0]] true true)) (next+73) cs id:=by
           refine ⟨T.R.mono (by omega) (fun j hj=>by have:=T.R.bd j (by omega);have:=T.nd j (by omega);have:=u9 j (by omega);simp (disch:=omega) only [getPut_self,getPut_ne,getDel_ne]),by simp [hwl],?_,?_,?_,?_,?_,?_,?_,by omega,fun j hj=>?_⟩
           · simp (disch:=omega) only [getPut_self,getPut_ne,getDel_ne]
           · simp (disch:=omega) only [getPut_self,getPut_ne,getDel_ne];exact T.gp
           · simp (disch:=omega) only [getPut_self,getPut_ne,getDel_ne];rfl
           · simp (disch:=omega) only [getPut_self,getPut_ne,getDel_ne];exact T.g0
           · simp (disch:=omega) only [getPut_self,getPut_ne,getDel_ne];exact T.g1
           · simp (disch:=omega) only [getPut_self,getPut_ne,getDel_ne];exact T.g2
           · simp (disch:=omega) only [getPut_self,getPut_ne,getDel_ne];exact T.g3
           · have:=T.nd j hj
             exact this
          have U1:RwsI ks pb ob nb lo (.sl (next+33) 8 0 (O.length+1) (O.length+1) false) (O++[⟨l[A[i]].i.k,l[A[i]].i.t,tr l[A[i]]⟩]) (next+33) (put (put (put (del (put (put (put h (next+12) (.cells 4 [[AV.int .u64 l[A[i]].i.k,AV.int .u8 (t:Int),AV.str l[A[i]].i.x,AV.ro 1 (List.map eS l[A[i]].i.m) l[A[i]].i.e]] true true)) (next+27) (.cells 8 [(AV.int .u64 l[A[i]].i.k::AV.int .u8 (t:Int)::(tr l[A[i]]).c)] true true)) (next+32) (.cells 8 [(AV.int .u64 l[A[i]].i.k::AV.int .u8 (t:Int)::(tr l[A[i]]).c)] true true)) rbk) (next+33) (.cells 8 (eHs O++[(AV.int .u64 l[A[i]].i.k::AV.int .u8 (t:Int)::(tr l[A[i]]).c)]) true true)) ob (.cells 2 [[.sl (next+33) 8 0 (O.length+1) (O.length+1) false,.sl pb 1 0 ks.length ks.length false]] true false)) nb (.cells 4 [[.int .i64 rb,.int .i64 (mk+1),.int .i64 d,.int .i64 0]] true true)) (next+73) id:=by
           refine .inr ⟨by simp,by simp,?_,by omega,by omega,by omega,by omega,by omega,fun j hj=>?_⟩
           · simp (disch:=omega) only [getPut_self,getPut_ne,getDel_ne];simp [ht]
           · have:=T.R.bd j (by omega);have:=T.R.bd t htW;omega
          obtain ⟨h',n',cs',id',RW',rbk',e1,e2,e3⟩:=ih (i+1) (by omega) _ (O++[⟨l[A[i]].i.k,l[A[i]].i.t,tr l[A[i]]⟩]) _ W rb (mk+1) d _ _ _ _ T1 U1 (by simp;omega) (by omega) (by omega) (by omega) (by omega) hW
          refine ⟨h',n',cs',id',RW',rbk',?_,by rw [hcm];exact e2,by rw [hcm];exact e3⟩
          rw [hL,← e1]
          simp (disch:=omega) [T.g0,T.g1,T.go,T.gp,T.gn,hAi,getPut_self,getPut_ne,getDel_ne,H.toHasEq.inl,inlB,H.toHasEq.pp,ppB,hat,wI64,putPut,ltF,gtF,neF,fits,hft,ht,htc,htl,hv,c0,u3]
        · skip
          have T1:CmI vw ov ls ks ke cap ar fl ra ea ps pe (.sl (next+33) 8 0 (O.length+1) (O.length+1) false) pb ob nb lo AnyH W [rb,mk+1,d,0] (put (put (put (del (put (put (put h (next+12) (.cells 4 [[AV.int .u64 l[A[i]].i.k,AV.int .u8 (t:Int),AV.str l[A[i]].i.x,AV.ro 1 (List.map eS l[A[i]].i.m) l[A[i]].i.e]] true true)) (next+27) (.cells 8 [(AV.int .u64 l[A[i]].i.k::AV.int .u8 (t:Int)::(tr l[A[i]]).c)] true true)) (next+32) (.cells 8 [(AV.int .u64 l[A[i]].i.k::AV.int .u8 (t:Int)::(tr l[A[i]]).c)] true true)) rbk) (next+33) (.cells 8 (eHs O++[(AV.int .u64 l[A[i]].i.k::AV.int .u8 (t:Int)::(tr l[A[i]]).c)]) true true)) ob (.cells 2 [[.sl (next+33) 8 0 (O.length+1) (O.length+1) false,.sl pb 1 0 ks.length ks.length false]] true false)) nb (.cells 4 [[.int .i64 rb,.int .i64 (mk+1),.int .i64 d,.int .i64 0]] true true)) (next+73) cs id:=by
           refine ⟨T.R.mono (by omega) (fun j hj=>by have:=T.R.bd j (by omega);have:=T.nd j (by omega);have:=u9 j (by omega);simp (disch:=omega) only [getPut_self,getPut_ne,getDel_ne]),by simp [hwl],?_,?_,?_,?_,?_,?_,?_,by omega,fun j hj=>?_⟩
           · simp (disch:=omega) only [getPut_self,getPut_ne,getDel_ne]
           · simp (disch:=omega) only [getPut_self,getPut_ne,getDel_ne];exact T.gp
           · simp (disch:=omega) only [getPut_self,getPut_ne,getDel_ne];rfl
           · simp (disch:=omega) only [getPut_self,getPut_ne,getDel_ne];exact T.g0
           · simp (disch:=omega) only [getPut_self,getPut_ne,getDel_ne];exact T.g1
           · simp (disch:=omega) only [getPut_self,getPut_ne,getDel_ne];exact T.g2
           · simp (disch:=omega) only [getPut_self,getPut_ne,getDel_ne];exact T.g3
           · have:=T.nd j hj
             exact this
          have U1:RwsI ks pb ob nb lo (.sl (next+33) 8 0 (O.length+1) (O.length+1) false) (O++[⟨l[A[i]].i.k,l[A[i]].i.t,tr l[A[i]]⟩]) (next+33) (put (put (put (del (put (put (put h (next+12) (.cells 4 [[AV.int .u64 l[A[i]].i.k,AV.int .u8 (t:Int),AV.str l[A[i]].i.x,AV.ro 1 (List.map eS l[A[i]].i.m) l[A[i]].i.e]] true true)) (next+27) (.cells 8 [(AV.int .u64 l[A[i]].i.k::AV.int .u8 (t:Int)::(tr l[A[i]]).c)] true true)) (next+32) (.cells 8 [(AV.int .u64 l[A[i]].i.k::AV.int .u8 (t:Int)::(tr l[A[i]]).c)] true true)) rbk) (next+33) (.cells 8 (eHs O++[(AV.int .u64 l[A[i]].i.k::AV.int .u8 (t:Int)::(tr l[A[i]]).c)]) true true)) ob (.cells 2 [[.sl (next+33) 8 0 (O.length+1) (O.length+1) false,.sl pb 1 0 ks.length ks.length false]] true false)) nb (.cells 4 [[.int .i64 rb,.int .i64 (mk+1),.int .i64 d,.int .i64 0]] true true)) (next+73) id:=by
           refine .inr ⟨by simp,by simp,?_,by omega,by omega,by omega,by omega,by omega,fun j hj=>?_⟩
           · simp (disch:=omega) only [getPut_self,getPut_ne,getDel_ne];simp [ht]
           · have:=T.R.bd j (by omega);have:=T.R.bd t htW;omega
          obtain ⟨h',n',cs',id',RW',rbk',e1,e2,e3⟩:=ih (i+1) (by omega) _ (O++[⟨l[A[i]].i.k,l[A[i]].i.t,tr l[A[i]]⟩]) _ W rb (mk+1) d _ _ _ _ T1 U1 (by simp;omega) (by omega) (by omega) (by omega) (by omega) hW
          refine ⟨h',n',cs',id',RW',rbk',?_,by rw [hcm];exact e2,by rw [hcm];exact e3⟩
          rw [hL,← e1]
          simp (disch:=omega) [T.g0,T.g1,T.go,T.gp,T.gn,hAi,getPut_self,getPut_ne,getDel_ne,H.toHasEq.inl,inlB,H.toHasEq.pp,ppB,hat,wI64,putPut,ltF,gtF,neF,fits,hft,ht,htc,htl,hv,hk,hkl,c2,u3]
      · obtain ⟨n,hn⟩:∃ n,W[t].length=n+1:=⟨W[t].length - 1,by omega⟩
        have hcm:∀ O r,cm2 tr ra l (A[i]::r) (O,W,rb,mk)=cm2 tr ra l r (O++[⟨l[A[i]].i.k,l[A[i]].i.t,tr l[A[i]]⟩],W.set t (W[t].take n),rb+1,mk):=by
         intro O r
         have:W[t].length - 1=n:=by omega
         simp only [cm2,List.getElem?_eq_getElem hAi,c',hrow,c3,Bool.false_eq_true,if_false,hatt,this]
        rw [hn] at hv q1 q2 q3
        have hnl:(W[t].take n).length=n:=by simp;omega
        have hes3:=q3
        have hwn:IntKind.i64.wrap (n:Int)=n:=wI64 (by omega) (by omega)
        have hne0:¬ ((n:Int)+1=0):=by omega
        have hncap:n≤cap2:=by omega
        have hcap1:n+1≤cap2:=by omega
        have hcap0:0 < cap2:=by omega
        have hWs:∀ w ∈ W.set t (W[t].take n),w.length≤1000000:=by
         intro w hw
         rcases List.mem_or_eq_of_mem_set hw with q | q
         · exact hW w q
         · subst q;omega
        have hANY:∀ o,o=some (WObj.cells 8 (eHs es) true true)→AnyH o (id t) (.sl (id t) 8 0 n cap2 ex) (W[t].take n):=by
         rintro o rfl
         refine ⟨cap2,ex,es,by rw [hnl],by omega,by omega,?_,rfl⟩
         rw [hnl,← hes3,List.take_take]
         congr 1
         omega
        rcases hc0 with ⟨c0,_⟩ | ⟨k,hk,hkl,c2⟩
        · skip
          have T1:CmI vw ov ls ks ke cap ar fl ra ea ps pe (.sl (next+33) 8 0 (O.length+1) (O.length+1) false) pb ob nb lo AnyH (W.set t (W[t].take n)) [rb+1,mk,d,0] (put (put (put (put (del (put (put (put h (next+12) (.cells 4 [[AV.int .u64 l[A[i]].i.k,AV.int .u8 (t:Int),AV.str l[A[i]].i.x,AV.ro 1 (List.map eS l[A[i]].i.m) l[A[i]].i.e]] true true)) (next+27) (.cells 8 [(AV.int .u64 l[A[i]].i.k::AV.int .u8 (t:Int)::(tr l[A[i]]).c)] true true)) (next+32) (.cells 8 [(AV.int .u64 l[A[i]].i.k::AV.int .u8 (t:Int)::(tr l[A[i]]).c)] true true)) rbk) (next+33) (.cells 8 (eHs O++[(AV.int .u64 l[A[i]].i.k::AV.int .u8 (t:Int)::(tr l[A[i]]).c)]) true true)) ob (.cells 2 [[.sl (next+33) 8 0 (O.length+1) (O.length+1) false,.sl pb 1 0 ks.length ks.length false]] true false)) nb (.cells 4 [[.int .i64 (rb+1),.int .i64 mk,.int .i64 d,.int .i64 0]] true true)) pb (.cells 1 (cs.set t [.sl (id t) 8 0 n cap2 ex]) true false)) (next+88) (cs.set t [.sl (id t) 8 0 n cap2 ex]) (fun j=>if j=t then id t else id j):=by
           refine ⟨T.R.set t htW (id t) (.inl rfl) bd.1 (by omega) (by omega) _ _ (fun j hj hjt=>by have:=T.R.bd j (by omega);have:=T.nd j (by omega);have:=u9 j (by omega);simp (disch:=omega) only [getPut_self,getPut_ne,getDel_ne]) (hANY _ (by have:=u9 t htl;simp (disch:=omega) only [getPut_self,getPut_ne,getDel_ne];exact q4)),by simp [hwl],?_,?_,?_,?_,?_,?_,?_,by omega,fun j hj=>?_⟩
           · simp (disch:=omega) only [getPut_self,getPut_ne,getDel_ne]
           · simp (disch:=omega) only [getPut_self,getPut_ne,getDel_ne]
           · simp (disch:=omega) only [getPut_self,getPut_ne,getDel_ne];rfl
           · simp (disch:=omega) only [getPut_self,getPut_ne,getDel_ne];exact T.g0
           · simp (disch:=omega) only [getPut_self,getPut_ne,getDel_ne];exact T.g1
           · simp (disch:=omega) only [getPut_self,getPut_ne,getDel_ne];exact T.g2
           · simp (disch:=omega) only [getPut_self,getPut_ne,getDel_ne];exact T.g3
           · have h1:=T.nd j hj
             have h2:=T.nd t htl
             split <;> assumption
          have U1:RwsI ks pb ob nb lo (.sl (next+33) 8 0 (O.length+1) (O.length+1) false) (O++[⟨l[A[i]].i.k,l[A[i]].i.t,tr l[A[i]]⟩]) (next+33) (put (put (put (put (del (put (put (put h (next+12) (.cells 4 [[AV.int .u64 l[A[i]].i.k,AV.int .u8 (t:Int),AV.str l[A[i]].i.x,AV.ro 1 (List.map eS l[A[i]].i.m) l[A[i]].i.e]] true true)) (next+27) (.cells 8 [(AV.int .u64 l[A[i]].i.k::AV.int .u8 (t:Int)::(tr l[A[i]]).c)] true true)) (next+32) (.cells 8 [(AV.int .u64 l[A[i]].i.k::AV.int .u8 (t:Int)::(tr l[A[i]]).c)] true true)) rbk) (next+33) (.cells 8 (eHs O++[(AV.int .u64 l[A[i]].i.k::AV.int .u8 (t:Int)::(tr l[A[i]]).c)]) true true)) ob (.cells 2 [[.sl (next+33) 8 0 (O.length+1) (O.length+1) false,.sl pb 1 0 ks.length ks.length false]] true false)) nb (.cells 4 [[.int .i64 (rb+1),.int .i64 mk,.int .i64 d,.int .i64 0]] true true)) pb (.cells 1 (cs.set t [.sl (id t) 8 0 n cap2 ex]) true false)) (next+88) (fun j=>if j=t then id t else id j):=by
           refine .inr ⟨by simp,by simp,?_,by omega,by omega,by omega,by omega,by omega,fun j hj=>?_⟩
           · simp (disch:=omega) only [getPut_self,getPut_ne,getDel_ne];simp [ht]
           · have:=T.R.bd j (by omega);have:=T.R.bd t htW;show (if j=t then id t else id j)≠next+33;split <;> omega
          obtain ⟨h',n',cs',id',RW',rbk',e1,e2,e3⟩:=ih (i+1) (by omega) _ (O++[⟨l[A[i]].i.k,l[A[i]].i.t,tr l[A[i]]⟩]) _ (W.set t (W[t].take n)) (rb+1) mk d _ _ _ _ T1 U1 (by simp;omega) (by omega) (by omega) (by omega) (by omega) hWs
          refine ⟨h',n',cs',id',RW',rbk',?_,by rw [hcm];exact e2,by rw [hcm];exact e3⟩
          rw [hL,← e1]
          simp (disch:=omega) [T.g0,T.g1,T.go,T.gp,T.gn,hAi,getPut_self,getPut_ne,getDel_ne,H.toHasEq.inl,inlB,H.toHasEq.pp,ppB,hat,wI64,putPut,ltF,gtF,neF,fits,hft,ht,htc,htl,hv,hwn,hncap,hne0,hcap1,hcap0,c0,u3]
        · skip
          have T1:CmI vw ov ls ks ke cap ar fl ra ea ps pe (.sl (next+33) 8 0 (O.length+1) (O.length+1) false) pb ob nb lo AnyH (W.set t (W[t].take n)) [rb+1,mk,d,0] (put (put (put (put (del (put (put (put h (next+12) (.cells 4 [[AV.int .u64 l[A[i]].i.k,AV.int .u8 (t:Int),AV.str l[A[i]].i.x,AV.ro 1 (List.map eS l[A[i]].i.m) l[A[i]].i.e]] true true)) (next+27) (.cells 8 [(AV.int .u64 l[A[i]].i.k::AV.int .u8 (t:Int)::(tr l[A[i]]).c)] true true)) (next+32) (.cells 8 [(AV.int .u64 l[A[i]].i.k::AV.int .u8 (t:Int)::(tr l[A[i]]).c)] true true)) rbk) (next+33) (.cells 8 (eHs O++[(AV.int .u64 l[A[i]].i.k::AV.int .u8 (t:Int)::(tr l[A[i]]).c)]) true true)) ob (.cells 2 [[.sl (next+33) 8 0 (O.length+1) (O.length+1) false,.sl pb 1 0 ks.length ks.length false]] true false)) nb (.cells 4 [[.int .i64 (rb+1),.int .i64 mk,.int .i64 d,.int .i64 0]] true true)) pb (.cells 1 (cs.set t [.sl (id t) 8 0 n cap2 ex]) true false)) (next+88) (cs.set t [.sl (id t) 8 0 n cap2 ex]) (fun j=>if j=t then id t else id j):=by
           refine ⟨T.R.set t htW (id t) (.inl rfl) bd.1 (by omega) (by omega) _ _ (fun j hj hjt=>by have:=T.R.bd j (by omega);have:=T.nd j (by omega);have:=u9 j (by omega);simp (disch:=omega) only [getPut_self,getPut_ne,getDel_ne]) (hANY _ (by have:=u9 t htl;simp (disch:=omega) only [getPut_self,getPut_ne,getDel_ne];exact q4)),by simp [hwl],?_,?_,?_,?_,?_,?_,?_,by omega,fun j hj=>?_⟩
           · simp (disch:=omega) only [getPut_self,getPut_ne,getDel_ne]
           · simp (disch:=omega) only [getPut_self,getPut_ne,getDel_ne]
           · simp (disch:=omega) only [getPut_self,getPut_ne,getDel_ne];rfl
           · simp (disch:=omega) only [getPut_self,getPut_ne,getDel_ne];exact T.g0
           · simp (disch:=omega) only [getPut_self,getPut_ne,getDel_ne];exact T.g1
           · simp (disch:=omega) only [getPut_self,getPut_ne,getDel_ne];exact T.g2
           · simp (disch:=omega) only [getPut_self,getPut_ne,getDel_ne];exact T.g3
           · have h1:=T.nd j hj
             have h2:=T.nd t htl
             split <;> assumption
          have U1:RwsI ks pb ob nb lo (.sl (next+33) 8 0 (O.length+1) (O.length+1) false) (O++[⟨l[A[i]].i.k,l[A[i]].i.t,tr l[A[i]]⟩]) (next+33) (put (put (put (put (del (put (put (put h (next+12) (.cells 4 [[AV.int .u64 l[A[i]].i.k,AV.int .u8 (t:Int),AV.str l[A[i]].i.x,AV.ro 1 (List.map eS l[A[i]].i.m) l[A[i]].i.e]] true true)) (next+27) (.cells 8 [(AV.int .u64 l[A[i]].i.k::AV.int .u8 (t:Int)::(tr l[A[i]]).c)] true true)) (next+32) (.cells 8 [(AV.int .u64 l[A[i]].i.k::AV.int .u8 (t:Int)::(tr l[A[i]]).c)] true true)) rbk) (next+33) (.cells 8 (eHs O++[(AV.int .u64 l[A[i]].i.k::AV.int .u8 (t:Int)::(tr l[A[i]]).c)]) true true)) ob (.cells 2 [[.sl (next+33) 8 0 (O.length+1) (O.length+1) false,.sl pb 1 0 ks.length ks.length false]] true false)) nb (.cells 4 [[.int .i64 (rb+1),.int .i64 mk,.int .i64 d,.int .i64 0]] true true)) pb (.cells 1 (cs.set t [.sl (id t) 8 0 n cap2 ex]) true false)) (next+88) (fun j=>if j=t then id t else id j):=by
           refine .inr ⟨by simp,by simp,?_,by omega,by omega,by omega,by omega,by omega,fun j hj=>?_⟩
           · simp (disch:=omega) only [getPut_self,getPut_ne,getDel_ne];simp [ht]
           · have:=T.R.bd j (by omega);have:=T.R.bd t htW;show (if j=t then id t else id j)≠next+33;split <;> omega
          obtain ⟨h',n',cs',id',RW',rbk',e1,e2,e3⟩:=ih (i+1) (by omega) _ (O++[⟨l[A[i]].i.k,l[A[i]].i.t,tr l[A[i]]⟩]) _ (W.set t (W[t].take n)) (rb+1) mk d _ _ _ _ T1 U1 (by simp;omega) (by omega) (by omega) (by omega) (by omega) hWs
          refine ⟨h',n',cs',id',RW',rbk',?_,by rw [hcm];exact e2,by rw [hcm];exact e3⟩
          rw [hL,← e1]
          simp (disch:=omega) [T.g0,T.g1,T.go,T.gp,T.gn,hAi,getPut_self,getPut_ne,getDel_ne,H.toHasEq.inl,inlB,H.toHasEq.pp,ppB,hat,wI64,putPut,ltF,gtF,neF,fits,hft,ht,htc,htl,hv,hwn,hncap,hne0,hcap1,hcap0,hk,hkl,c2,u3]
end
end Go.D
end
section
namespace Go.D
open Go Go.Pav Go.Pw P
set_option maxHeartbeats 2000000
attribute [-simp] List.getElem_cons_drop
variable {C:WProg}
def cmF (tr:En→Nd) (ks:List Kd) (ra:List Hd) (W:List (List Hd)) (l:List En) (A:List Nat):List Hd × List (List Hd) × Int × Int × Int :=
 let s:=cm1 ks l A ra (W,0)
 let u:=cm2 tr ra l A ([],s.1,0,0)
 (u.1,u.2.1,u.2.2.1,u.2.2.2,s.2)
abbrev aCn (rb mk d lv:Int):AV:=.agg [.int .i64 rb,.int .i64 mk,.int .i64 d,.int .i64 lv]
theorem frz_st {h:WHeap} {lo hi pb rb:Nat} {id:Nat→Nat} {cs:List (List AV)} {W:List (List Hd)} {O:List Hd} {RW:AV} (hR:(O=[]∧RW=.ro 8 [] true)∨(RW=.sl rb 8 0 O.length O.length false∧Pav.get h rb=some (.cells 8 (eHs O) true true)))
 (R:Nst2 AnyH h lo hi id cs W) (gp:Pav.get h pb=some (.cells 1 cs true false)) (r:Nat) (hr:r=W.length) (n:Nat):∃ eo ps' pe',ps'.map (·.1)=W∧frzW h (n+4) (.agg [RW,.sl pb 1 0 r r false])=some (aSt O eo ps' pe'):=by
 subst hr
 obtain ⟨ps,pe,h1,h2⟩:=R.frzS (enc:=eHs) (z:=8) n (fun b v d q=>AnyH.frz q n) (mu:=true) (cap:=W.length) (ex:=false)
 rcases hR with ⟨rfl,rfl⟩ | ⟨rfl,h3⟩
 · refine ⟨true,ps,pe,h1,?_⟩
   rw [frzW_agg]
   simp only [mapO,frzW_ro,frzW_sl,gp,h2,ob,om,aggO]
   rfl
 · refine ⟨false,ps,pe,h1,?_⟩
   have h4:List.take O.length (eHs O)=eHs O:=List.take_of_length_le (by simp)
   rw [frzW_agg]
   simp only [mapO,frzW_sl,gp,h2,h3,ob,om,aggO]
   simp only [Pw.frzS,List.drop_zero,h4,List.length_map,decide_true,og,Bool.false_and,ob,om,aggO]
   rfl
theorem CmI.any {vw ov ls:Int} {ks:List Kd} {ke:Bool} {cap ar fl:Int} {ra:List Hd} {ea:Bool} {ps:List Pl} {pe:Bool} {RW:AV} {pb ob nb lo:Nat} {W:List (List Hd)} {N:List Int} {h:WHeap} {next:Nat} {cs:List (List AV)} {id:Nat→Nat}
 (T:CmI vw ov ls ks ke cap ar fl ra ea ps pe RW pb ob nb lo FullH W N h next cs id):CmI vw ov ls ks ke cap ar fl ra ea ps pe RW pb ob nb lo AnyH W N h next cs id :=
 ⟨T.R.weak (fun _ _ _ _ q=>q.any),T.wl,T.go,T.gp,T.gn,T.g0,T.g1,T.g2,T.g3,T.ne,T.nd⟩
theorem cm1_len (ks:List Kd) (l:List En) (A:List Nat):∀ (ra:List Hd) (s:List (List Hd) × Int) (B:Nat),(∀ w ∈ s.1,w.length≤B)→∀ w ∈ (cm1 ks l A ra s).1,w.length≤B+ra.length
 | [],s,B,h,w,hw=>by simpa using h w hw
 | x::r,s,B,h,w,hw=>by
  simp only [cm1] at hw
  have:=cm1_len ks l A r _ (B+1) (by
   intro w hw
   split at hw
   · have:=h w hw;omega
   · split at hw
     · have:=h w hw;omega
     · rcases List.mem_or_eq_of_mem_set hw with q | q
       · have:=h w q;omega
       · subst q
         have:(rowAt s.1 x.t).length≤B:=by
          unfold rowAt
          cases hq:s.1[x.t.toNat]? with
          | none=>simp
          | some y=>exact h y (List.mem_of_getElem? hq)
         simp;omega) w hw
  simp only [List.length_cons];omega
theorem cm2_len (tr:En→Nd) (ra:List Hd) (l:List En):∀ (A:List Nat) (s:List Hd × List (List Hd) × Int × Int) (B:Nat),(∀ w ∈ s.2.1,w.length≤B) →
 (cm2 tr ra l A s).1.length≤s.1.length+A.length∧(∀ w ∈ (cm2 tr ra l A s).2.1,w.length≤B)∧(cm2 tr ra l A s).2.1.length=s.2.1.length
 | [],s,B,h=>by simpa [cm2] using h
 | a::r,s,B,h=>by
  simp only [cm2]
  cases l[a]? with
  | none=>have:=cm2_len tr ra l r s B h;simp only [List.length_cons];exact ⟨by omega,this.2⟩
  | some e =>
   simp only
   split
   · have:=cm2_len tr ra l r (s.1++[⟨e.i.k,e.i.t,tr e⟩],s.2) B h
     simp only [List.length_cons,List.length_append,List.length_nil] at this ⊢
     exact ⟨by omega,this.2⟩
   · split
     · have:=cm2_len tr ra l r (s.1++[⟨e.i.k,e.i.t,tr e⟩],s.2.1,s.2.2.1,s.2.2.2+1) B h
       simp only [List.length_cons,List.length_append,List.length_nil] at this ⊢
       exact ⟨by omega,this.2⟩
     · have:=cm2_len tr ra l r (s.1++[⟨e.i.k,e.i.t,tr e⟩],s.2.1.set e.i.t.toNat ((rowAt s.2.1 e.i.t).take ((rowAt s.2.1 e.i.t).length - 1)),s.2.2.1+1,s.2.2.2) B (by
        intro w hw
        rcases List.mem_or_eq_of_mem_set hw with q | q
        · exact h w q
        · subst q
          have:(rowAt s.2.1 e.i.t).length≤B:=by
           unfold rowAt
           cases hq:s.2.1[e.i.t.toNat]? with
           | none=>simp
           | some y=>exact h y (List.mem_of_getElem? hq)
          simp;omega)
       simp only [List.length_cons,List.length_append,List.length_nil,List.length_set] at this ⊢
       exact ⟨by omega,this.2⟩
theorem frz_cn (h:WHeap) (n:Nat) (a b c d:Int):frzW h (n+2) (aCn a b c d)=some (aCn a b c d):=rfl
theorem rcommit_ok (H:HasQm C) (tr:En→Nd) (vw ov ls:Int) (ks:List Kd) (ke:Bool) (cap ar fl:Int) (ra:List Hd) (ea:Bool) (ps:List Pl) (pe:Bool) (l:List En) (e:Bool) (A:List Nat) (f:Bool)
 (hA:A.length≤1000) (hAl:∀ a ∈ A,a < l.length) (hra:ra.length≤1000) (hpk:ps.length=ks.length) (hkl:ks.length≤1000) (hk0:0 < ks.length) (hps:∀ p ∈ ps,p.1.length≤100000)
 (hty:∀ x ∈ l,∃ t:Nat,x.i.t=t∧t < ks.length) (htyr:∀ x ∈ ra,∃ t:Nat,x.t=t∧t < ks.length) (htr:∀ (a:Nat) (h:a < l.length),FnW C 417 [aR ks ke cap,.ro 6 (l.map eEn) e,.int .i64 a]=some (.agg (tr l[a]).c)) :
 ∃ (ps':List Pl) (ea' pe':Bool),ps'.map (·.1)=(cmF tr ks ra (ps.map (·.1)) l A).2.1 ∧
  FnW C 285 [.agg (cCf vw ov ls ks ke cap ar fl),aSt ra ea ps pe,.ro 6 (l.map eEn) e,.ro 1 (A.map eAt) f]=some (.tup (
   if live ((cmF tr ks ra (ps.map (·.1)) l A).1::(cmF tr ks ra (ps.map (·.1)) l A).2.1) > ar then [aSt [] true [] true,aCn 0 0 0 0,.int .i64 15]
   else [aSt (cmF tr ks ra (ps.map (·.1)) l A).1 ea' ps' pe',aCn (cmF tr ks ra (ps.map (·.1)) l A).2.2.1 (cmF tr ks ra (ps.map (·.1)) l A).2.2.2.1 (cmF tr ks ra (ps.map (·.1)) l A).2.2.2.2 (live ((cmF tr ks ra (ps.map (·.1)) l A).1::(cmF tr ks ra (ps.map (·.1)) l A).2.1)),.int .i64 0])):=by
 obtain ⟨v,h',n',e1,Rv,pb,cs,id,lo,rfl,e2,R,gp,l1,l2,l3,l4,l5⟩:=rcopyS_ok H.toHasQc ra ea ps pe (by omega) (by omega) (by omega) (fun p hp=>by have:=hps p hp;omega)
  [(0,.cells 7 [cCf vw ov ls ks ke cap ar fl] true true),(1,.cells 2 [[.ro 8 (ra.map eHd) ea,.ro 1 (ps.map ePl) pe]] true true),(2,.cells 2 [[.ro 8 [] true,.ro 1 [] true]] true true),(3,.cells 4 [[.int .i64 0,.int .i64 0,.int .i64 0,.int .i64 0]] true true)] 7
 have g0:=l5 0 (by omega)
 have g1:=l5 1 (by omega)
 have g2:=l5 2 (by omega)
 have g3:=l5 3 (by omega)
 simp at g0 g1 g2 g3
 rw [hpk] at e1 l4
 rw [fnW_eq H.f285 rfl]
 obtain ⟨L,hL⟩:∃ L,L=CK C 0 (pureFin w285.res) [] w285.body ⟨argW 0 [.agg (cCf vw ov ls ks ke cap ar fl),aSt ra ea ps pe,.ro 6 (l.map eEn) e,.ro 1 (A.map eAt) f] [],[],0⟩:=⟨_,rfl⟩
 rw [← hL]
 have hL1:L=CK C 0 (pureFin [.cell 8 2 true,.cell 9 4 true,.tmp 10]) [.sq w285_L1,.bk 0 ⟨true,[12,11,9,8,5,4,3,2],[(9999,65537)]⟩,.sq w285_c1] w285_B1
  ⟨[(13,.int .i64 (0:Nat)),(12,.ptr (n'+4) 0 0),(11,.ptr n' 0 0),(9,.ptr 3 0 0),(8,.ptr 2 0 0),(5,.ptr 1 0 0),(4,.ptr 0 0 0),(3,.ro 1 (A.map eAt) f),(2,.ro 6 (l.map eEn) e)],
   put (put h' n' (.cells 2 [[.ro 8 [] true,.sl pb 1 0 ks.length ks.length false]] true false)) (n'+4) (.cells 4 [[.int .i64 0,.int .i64 0,.int .i64 0,.int .i64 0]] true true),n'+6⟩:=by
  rw [hL]
  rcases e2 with ⟨_,rfl⟩ | ⟨_,rb0,rfl,_⟩
  · simp (disch:=omega) [w285,H.toHasEq.inl,inlB,H.toHasEq.pp,ppB,e1,getPut_self,getPut_ne,putPut]
  · simp (disch:=omega) [w285,H.toHasEq.inl,inlB,H.toHasEq.pp,ppB,e1,getPut_self,getPut_ne,putPut]
 have T0:CmI vw ov ls ks ke cap ar fl ra ea ps pe (.ro 8 [] true) pb n' (n'+4) lo FullH (ps.map (·.1)) [0,0,0,0] (put (put h' n' (.cells 2 [[.ro 8 [] true,.sl pb 1 0 ks.length ks.length false]] true false)) (n'+4) (.cells 4 [[.int .i64 0,.int .i64 0,.int .i64 0,.int .i64 0]] true true)) (n'+6) cs id:=by
  refine ⟨R.mono (by omega) (fun j hj=>by have:=R.bd j hj;simp (disch:=omega) only [getPut_self,getPut_ne]),by simpa using hpk,?_,?_,?_,?_,?_,?_,?_,by omega,fun j hj=>?_⟩
  · simp (disch:=omega) only [getPut_self,getPut_ne]
  · simp (disch:=omega) only [getPut_self,getPut_ne];exact gp
  · simp (disch:=omega) only [getPut_self,getPut_ne];rfl
  · simp (disch:=omega) only [getPut_self,getPut_ne];exact g0
  · simp (disch:=omega) only [getPut_self,getPut_ne];exact g1
  · simp (disch:=omega) only [getPut_self,getPut_ne];exact g2
  · simp (disch:=omega) only [getPut_self,getPut_ne];exact g3
  · have h1:=R.bd j (by simp;omega)
    have h2:=l4 j hj
    omega
 obtain ⟨h1,n1,cs1,id1,x1,T1⟩:=cm1_loop vw ov ls ks ke cap ar fl ra ea ps pe H.toHasQc l e A f (by omega) hAl hra htyr pb n' (n'+4) lo ra.length 0 (by simp) (ps.map (·.1)) 0 _ _ _ _ T0
  (fun w hw=>by obtain ⟨p,hp,rfl⟩:=List.mem_map.1 hw;have:=hps p hp;omega) (by omega) (by omega)
 rw [List.drop_zero] at T1
 have hl1:=cm1_len ks l A ra (ps.map (·.1),0) 100000 (fun w hw=>by obtain ⟨p,hp,rfl⟩:=List.mem_map.1 hw;exact hps p hp)
 obtain ⟨h2,n2,cs2,id2,RW,rbk,x2,T2,U2⟩:=cm2_loop vw ov ls ks ke cap ar fl ra ea ps pe H tr l e A f hA hAl (by omega) hty htr pb n' (n'+4) lo A.length 0 (by simp) (.ro 8 [] true) [] 0 _ 0 0 _ h1 (n1+1) cs1 id1
  (T1.any.later vw ov ls ks ke cap ar fl ra ea ps pe (by omega) (fun _ _=>rfl)) (.inl ⟨rfl,rfl⟩) (by simp;omega) (by omega) (by omega) (by omega) (by omega) (fun w hw=>by have:=hl1 w hw;omega)
 rw [List.drop_zero] at T2 U2
 obtain ⟨L2,hL2⟩:∃ L2,L2=CK C 0 (pureFin [.cell 8 2 true,.cell 9 4 true,.tmp 10]) [] w285_c0 ⟨[(12,.ptr (n'+4) 0 0),(11,.ptr n' 0 0),(9,.ptr 3 0 0),(8,.ptr 2 0 0),(4,.ptr 0 0 0)],h2,n2⟩:=⟨_,rfl⟩
 have hL3:L=L2:=by
  rw [← hL2] at x2
  simp at x2
  rw [hL1,x1,ck_unf w285_c1.eq_1]
  simp [x2]
 have hl2:=cm2_len tr ra l A ([],(cm1 ks l A ra (ps.map (·.1),0)).1,0,0) _ hl1
 rw [hL3]
 unfold cmF
 simp only
 simp only [List.length_nil,Nat.zero_add] at hl2
 generalize hS:cm1 ks l A ra (ps.map (·.1),0)=S at *
 generalize hV:cm2 tr ra l A ([],S.1,0,0)=V at *
 have hR2:(V.1=[]∧RW=.ro 8 [] true)∨(RW=.sl rbk 8 0 V.1.length V.1.length false∧Pav.get h2 rbk=some (.cells 8 (eHs V.1) true true)):=by
  rcases U2 with u | ⟨_,u2,u3,_⟩
  · exact .inl u
  · exact .inr ⟨u2,u3⟩
 have hR4:∀ hf:WHeap,(∀ j,lo≤j→j≠n'+4→Pav.get hf j=Pav.get h2 j)→(V.1=[]∧RW=.ro 8 [] true)∨(RW=.sl rbk 8 0 V.1.length V.1.length false∧Pav.get hf rbk=some (.cells 8 (eHs V.1) true true)):=by
  intro hf hg
  rcases U2 with u | ⟨_,u2,u3,u4,u5,u6,u7,u8,_⟩
  · exact .inl u
  · exact .inr ⟨u2,by rw [hg _ u4 u8];exact u3⟩
 have ne:=T2.ne
 obtain ⟨eo,ps1,pe1,f1,f2⟩:=frz_st hR2 T2.R T2.gp ks.length T2.wl.symm 12
 have hlv:=rhlive_ok H.toHasQo V.1 eo ps1 pe1 (by omega) (fun p hp=>by have:=hl2.2.1 p.1 (by rw [← f1];exact List.mem_map.2 ⟨p,hp,rfl⟩);omega) (by have:=congrArg List.length f1;simp at this;have:=T2.wl;omega)
 rw [f1] at hlv
 obtain ⟨lv,hlve⟩:∃ lv,live (V.1::V.2.1)=lv:=⟨_,rfl⟩
 rw [hlve] at hlv
 have hcell:AV.cell RW=true:=by rcases hR2 with ⟨_,rfl⟩ | ⟨rfl,_⟩ <;> rfl
 rw [hL2,ck_unf w285_c0.eq_1]
 clear hV hS hL2 hL3 x1 x2 hL1 hL
 by_cases c:lv > ar
 · refine ⟨ps1,eo,pe1,f1,?_⟩
   rw [hlve,if_pos c]
   rcases hR2 with ⟨q1,rfl⟩ | ⟨rfl,q3⟩
   · rw [q1] at f2 hlv
     simp (disch:=omega) [T2.go,T2.gn,T2.g0,T2.g2,T2.g3,getPut_self,getPut_ne,H.toHasEq.inl,inlB,H.toHasEq.pp,ppB,f2,hlv,c,-frzW_agg,putPut]
     rfl
   · simp (disch:=omega) [T2.go,T2.gn,T2.g0,T2.g2,T2.g3,getPut_self,getPut_ne,H.toHasEq.inl,inlB,H.toHasEq.pp,ppB,f2,hlv,c,-frzW_agg,putPut]
     rfl
 · rw [hlve]
   rcases hR2 with ⟨q1,rfl⟩ | ⟨rfl,q3⟩
   · obtain ⟨hf,hfe⟩:∃ hf,hf=put (put (put h2 (n'+4) (.cells 4 [[.int .i64 V.2.2.1,.int .i64 V.2.2.2,.int .i64 S.2,.int .i64 lv]] true true)) 2 (.cells 2 [[.ro 8 [] true,.sl pb 1 0 ks.length ks.length false]] true false)) 3 (.cells 4 [[.int .i64 V.2.2.1,.int .i64 V.2.2.2,.int .i64 S.2,.int .i64 lv]] true true):=⟨_,rfl⟩
     have hg:∀ j,lo≤j→j≠n'+4→Pav.get hf j=Pav.get h2 j:=fun j h1 h2=>by rw [hfe];simp (disch:=omega) only [getPut_ne]
     obtain ⟨eo',ps2,pe2,f3,f4⟩:=frz_st (hR4 hf hg) (T2.R.mono (Nat.le_refl _) (fun j hj=>hg _ (T2.R.bd j hj).1 (T2.nd j (by rw [← T2.wl];exact hj)).2.2)) (by rw [hg _ (by omega) (by omega)];exact T2.gp) ks.length T2.wl.symm 11
     refine ⟨ps2,eo',pe2,f3,?_⟩
     rw [if_neg c]
     rw [hfe] at f4
     rw [q1] at f2 hlv
     simp (disch:=omega) [T2.go,T2.gn,T2.g0,T2.g2,T2.g3,getPut_self,getPut_ne,H.toHasEq.inl,inlB,H.toHasEq.pp,ppB,f2,hlv,c,-frzW_agg,putPut]
     rw [f4,frz_cn];rfl
   · obtain ⟨hf,hfe⟩:∃ hf,hf=put (put (put h2 (n'+4) (.cells 4 [[.int .i64 V.2.2.1,.int .i64 V.2.2.2,.int .i64 S.2,.int .i64 lv]] true true)) 2 (.cells 2 [[.sl rbk 8 0 V.1.length V.1.length false,.sl pb 1 0 ks.length ks.length false]] true false)) 3 (.cells 4 [[.int .i64 V.2.2.1,.int .i64 V.2.2.2,.int .i64 S.2,.int .i64 lv]] true true):=⟨_,rfl⟩
     have hg:∀ j,lo≤j→j≠n'+4→Pav.get hf j=Pav.get h2 j:=fun j h1 h2=>by rw [hfe];simp (disch:=omega) only [getPut_ne]
     obtain ⟨eo',ps2,pe2,f3,f4⟩:=frz_st (hR4 hf hg) (T2.R.mono (Nat.le_refl _) (fun j hj=>hg _ (T2.R.bd j hj).1 (T2.nd j (by rw [← T2.wl];exact hj)).2.2)) (by rw [hg _ (by omega) (by omega)];exact T2.gp) ks.length T2.wl.symm 11
     refine ⟨ps2,eo',pe2,f3,?_⟩
     rw [if_neg c]
     rw [hfe] at f4
     simp (disch:=omega) [T2.go,T2.gn,T2.g0,T2.g2,T2.g3,getPut_self,getPut_ne,H.toHasEq.inl,inlB,H.toHasEq.pp,ppB,f2,hlv,c,-frzW_agg,putPut]
     rw [f4,frz_cn];rfl
end Go.D
end
section
namespace Go.D
open Go Go.Pav Go.Pw P
attribute [-simp] List.getElem_cons_drop
variable {C:WProg}
theorem eqa_loop (H:HasEq C) (a b:List (Bs × Bs)) (e f:Bool) (hl:a.length=b.length) (hm:a.length≤9223372036854775807):∀ n i,n+i=a.length →
 w551_K0 C ⟨[(13,.int .i64 i),(12,.int .i64 a.length),(1,.ro 2 (b.map eA) f),(0,.ro 2 (a.map eA) e)],[],0⟩=some (.bool (decide (a.drop i=b.drop i))):=by
 intro n
 induction n with
 | zero =>
  intro i hi
  have h1:a.drop i=[]:=List.drop_eq_nil_of_le (by omega)
  have h2:b.drop i=[]:=List.drop_eq_nil_of_le (by omega)
  have h3:¬ i < a.length:=by omega
  simp only [w551_K0];rw [ck_unf w551_B0.eq_1]
  simp (disch:=omega) [ck_unf w551_c0.eq_1,h1,h2,h3]
 | succ n ih =>
  intro i hi
  have h1:i < a.length:=by omega
  have h2:i < b.length:=by omega
  have this:=ih (i+1) (by omega)
  rw [drop_cons h1,drop_cons h2]
  by_cases c1:a[i].1=b[i].1
  · by_cases c2:a[i].2=b[i].2
    · have c:a[i]=b[i]:=Prod.ext c1 c2
      have hq:decide (a[i]::a.drop (i+1)=b[i]::b.drop (i+1))=decide (a.drop (i+1)=b.drop (i+1)):=by simp [c]
      rw [hq]
      generalize decide (a.drop (i+1)=b.drop (i+1))=X at *
      simp only [w551_K0] at this ⊢;rw [ck_unf w551_B0.eq_1]
      simp at this
      simp (disch:=omega) [h1,h2,eq_true c1,eq_true c2,wI64,this]
    · have hq:decide (a[i]::a.drop (i+1)=b[i]::b.drop (i+1))=false:=by
       rw [decide_eq_false_iff_not];intro q;exact c2 (congrArg Prod.snd (List.cons.inj q).1)
      rw [hq]
      simp only [w551_K0];rw [ck_unf w551_B0.eq_1]
      simp (disch:=omega) [h1,h2,eq_true c1,c2,wI64]
  · have hq:decide (a[i]::a.drop (i+1)=b[i]::b.drop (i+1))=false:=by
     rw [decide_eq_false_iff_not];intro q;exact c1 (congrArg Prod.fst (List.cons.inj q).1)
    rw [hq]
    simp only [w551_K0];rw [ck_unf w551_B0.eq_1]
    simp (disch:=omega) [h1,h2,c1,wI64]
theorem eqa_ok (H:HasEq C) (a b:List (Bs × Bs)) (e f:Bool) (hm:a.length≤9223372036854775807):FnW C 551 [.ro 2 (a.map eA) e,.ro 2 (b.map eA) f]=some (.bool (decide (a=b))):=by
 rw [fnW_eq H.f551 rfl]
 by_cases c:a.length=b.length
 · have h:=eqa_loop H a b e f c hm a.length 0 (by simp)
   rw [List.drop_zero,List.drop_zero] at h
   generalize decide (a=b)=X at *
   simp only [w551_K0] at h
   simp at h
   simp [w551,eq_true c,h]
 · have c2:decide (a=b)=false:=by
    simp;intro q;exact c (by rw [q])
   rw [c2]
   simp [w551,c]
structure Rw where
 k:Int
 t:Int
 s:Int
 n:Nd
@[simp] def eRw (r:Rw):List AV:=[.int .u64 r.k,.int .i64 r.t,.int .i64 r.s,.int .u8 r.n.k,.str r.n.t,.str r.n.y,.ro 2 (r.n.a.map eA) r.n.ae,.str r.n.x,.ro 6 (r.n.ch.map Nd.c) r.n.ce]
structure Sc where
 o:Int
 r:List Rw
 e:Bool
 p:Bool
 h:Rw
@[simp] def eSc (x:Sc):List AV:=[.int .i64 x.o,.ro 9 (x.r.map eRw) x.e,.bool x.p,.int .u64 x.h.k,.int .i64 x.h.t,.int .i64 x.h.s,.int .u8 x.h.n.k,.str x.h.n.t,.str x.h.n.y,.ro 2 (x.h.n.a.map eA) x.h.n.ae,.str x.h.n.x,.ro 6 (x.h.n.ch.map Nd.c) x.h.n.ce]
structure HasQs (C:WProg):Prop extends HasQo C where
 f298:C.fns.get 298=some w298
 f443:C.fns.get 443=some w443
 f521:C.fns.get 521=some w521
 f522:C.fns.get 522=some w522
 f444:C.fns.get 444=some w444
 f523:C.fns.get 523=some w523
 f289:C.fns.get 289=some w289
 f438:C.fns.get 438=some w438
theorem eqc5_loop (H:HasQs C) (a b:List Nd) (e f:Bool) (hl:a.length=b.length) (hm:a.length≤9223372036854775807) (ih:∀ c ∈ a,∀ m:Nd,FnW C 523 [.agg c.c,.agg m.c]=some (.bool (eqN c m))):∀ n i,n+i=a.length →
 w552_K0 C ⟨[(17,.int .i64 i),(16,.int .i64 a.length),(15,.ro 6 (a.map Nd.c) e),(2,.fn 523 []),(1,.ro 6 (b.map Nd.c) f)],[],0⟩=some (.bool (eqNs (a.drop i) (b.drop i))):=by
 intro n
 induction n with
 | zero =>
  intro i hi
  have h1:a.drop i=[]:=List.drop_eq_nil_of_le (by omega)
  have h2:b.drop i=[]:=List.drop_eq_nil_of_le (by omega)
  have h3:¬ i < a.length:=by omega
  simp only [w552_K0];rw [ck_unf w552_B0.eq_1]
  simp (disch:=omega) [ck_unf w552_c0.eq_1,h1,h2,h3,eqNs]
 | succ n ihn =>
  intro i hi
  have h1:i < a.length:=by omega
  have h2:i < b.length:=by omega
  have this:=ihn (i+1) (by omega)
  have hs:=ih a[i] (List.getElem_mem h1) b[i]
  rw [drop_cons h1,drop_cons h2,eqNs]
  generalize eqNs (a.drop (i+1)) (b.drop (i+1))=X at *
  cases c:eqN a[i] b[i]
  · rw [c] at hs
    simp only [w552_K0];rw [ck_unf w552_B0.eq_1]
    simp (disch:=omega) [h1,h2,hs,wI64,H.toHasEq.inl,inlB,H.toHasEq.pp,ppB]
  · rw [c] at hs
    simp only [w552_K0] at this ⊢;rw [ck_unf w552_B0.eq_1]
    simp at this
    simp (disch:=omega) [h1,h2,hs,wI64,H.toHasEq.inl,inlB,H.toHasEq.pp,ppB,this]
theorem equal5_ok (H:HasQs C) {a:Nd} (ha:NdIn a):∀ b:Nd,FnW C 523 [.agg a.c,.agg b.c]=some (.bool (eqN a b)):=by
 induction ha with
 | mk a h1 h2 h ih =>
  intro b
  have k1:=eqa_ok H.toHasEq a.a b.a a.ae b.ae h1
  have k2:FnW C 552 [.ro 6 (a.ch.map Nd.c) a.ce,.ro 6 (b.ch.map Nd.c) b.ce,.fn 523 []]=some (.bool (eqNs a.ch b.ch)):=by
   rw [fnW_eq H.toHasEq.f552 rfl]
   by_cases c:a.ch.length=b.ch.length
   · have k:=eqc5_loop H a.ch b.ch a.ce b.ce c h2 ih a.ch.length 0 (by simp)
     rw [List.drop_zero,List.drop_zero] at k
     generalize eqNs a.ch b.ch=X at *
     simp only [w552_K0] at k
     simp at k
     simp [w552,eq_true c,k]
   · have hq:eqNs a.ch b.ch=false:=by
      cases q:eqNs a.ch b.ch
      · rfl
      · exact absurd (eqNs_len _ _ q) c
     rw [hq]
     simp [w552,c]
  rw [fnW_eq H.f523 rfl,eqN_eq]
  generalize eqNs a.ch b.ch=X at *
  by_cases c1:a.k=b.k
  · by_cases c2:a.t=b.t
    · by_cases c3:a.y=b.y
      · by_cases c4:a.x=b.x
        · by_cases c5:a.a=b.a
          · rw [decide_eq_true c5] at k1
            simp (disch:=omega) [w523,eq_true c1,eq_true c2,eq_true c3,eq_true c4,eq_true c5,k1,k2,H.toHasEq.inl,inlB,H.toHasEq.pp,ppB]
          · rw [decide_eq_false c5] at k1
            simp (disch:=omega) [w523,eq_true c1,eq_true c2,eq_true c3,eq_true c4,c5,k1,H.toHasEq.inl,inlB,H.toHasEq.pp,ppB]
        · simp (disch:=omega) [w523,eq_true c1,eq_true c2,eq_true c3,c4]
      · simp (disch:=omega) [w523,eq_true c1,eq_true c2,c3]
    · simp (disch:=omega) [w523,eq_true c1,c2]
  · simp (disch:=omega) [w523,c1]
theorem hrow_ok (H:HasQs C) (a b:Hd) (ha:NdIn a.n):FnW C 522 [.agg (eHd a),.agg (eHd b)]=some (.bool (decide (a.k=b.k)&&decide (a.t=b.t)&&eqN a.n b.n)):=by
 have k:=equal5_ok H ha b.n
 rw [Nd.c_eq,Nd.c_eq] at k
 rw [fnW_eq H.f522 rfl]
 unfold eHd
 rw [Nd.c_eq,Nd.c_eq]
 generalize eqN a.n b.n=X at *
 by_cases c1:a.k=b.k
 · by_cases c2:a.t=b.t
   · simp (disch:=omega) [w522,eq_true c1,eq_true c2,k,H.toHasEq.inl,inlB,H.toHasEq.pp,ppB]
   · simp (disch:=omega) [w522,eq_true c1,c2]
 · simp (disch:=omega) [w522,c1]
theorem hrs_loop (H:HasQs C) (a b:List Hd) (e f:Bool) (hl:a.length=b.length) (hm:a.length≤1000000) (hi:∀ x ∈ a,NdIn x.n):∀ n i,n+i=a.length →
 w521_K0 C ⟨[(17,.int .i64 i),(16,.int .i64 a.length),(15,.ro 8 (a.map eHd) e),(2,.fn 522 []),(1,.ro 8 (b.map eHd) f)],[],0⟩=some (.bool (sameH (a.drop i) (b.drop i))):=by
 intro n
 induction n with
 | zero =>
  intro i hi'
  have h1:a.drop i=[]:=List.drop_eq_nil_of_le (by omega)
  have h2:b.drop i=[]:=List.drop_eq_nil_of_le (by omega)
  have h3:¬ i < a.length:=by omega
  simp only [w521_K0];rw [ck_unf w521_B0.eq_1]
  simp (disch:=omega) [ck_unf w521_c0.eq_1,h1,h2,h3,sameH]
 | succ n ihn =>
  intro i hi'
  have h1:i < a.length:=by omega
  have h2:i < b.length:=by omega
  have this:=ihn (i+1) (by omega)
  have hs:=hrow_ok H a[i] b[i] (hi _ (List.getElem_mem h1))
  rw [drop_cons h1,drop_cons h2,sameH]
  unfold eHd at hs
  generalize sameH (a.drop (i+1)) (b.drop (i+1))=X at *
  generalize hE:(decide (a[i].k=b[i].k)&&decide (a[i].t=b[i].t)&&eqN a[i].n b[i].n)=E at *
  cases E
  · simp only [w521_K0];rw [ck_unf w521_B0.eq_1]
    simp (disch:=omega) [h1,h2,hs,wI64,H.toHasEq.inl,inlB,H.toHasEq.pp,ppB]
  · simp only [w521_K0] at this ⊢;rw [ck_unf w521_B0.eq_1]
    simp at this
    simp (disch:=omega) [h1,h2,hs,wI64,H.toHasEq.inl,inlB,H.toHasEq.pp,ppB,this]
theorem hrows_ok (H:HasQs C) (a b:List Hd) (e f:Bool) (hm:a.length≤1000000) (hi:∀ x ∈ a,NdIn x.n):FnW C 443 [.ro 8 (a.map eHd) e,.ro 8 (b.map eHd) f]=some (.bool (sameH a b)):=by
 have k2:FnW C 521 [.ro 8 (a.map eHd) e,.ro 8 (b.map eHd) f,.fn 522 []]=some (.bool (sameH a b)):=by
  rw [fnW_eq H.f521 rfl]
  by_cases c:a.length=b.length
  · have k:=hrs_loop H a b e f c hm hi a.length 0 (by simp)
    rw [List.drop_zero,List.drop_zero] at k
    generalize sameH a b=X at *
    simp only [w521_K0] at k
    simp at k
    simp [w521,eq_true c,k]
  · have hq:sameH a b=false:=by
     cases q:sameH a b
     · rfl
     · exact absurd (sameH_len _ _ q) c
    rw [hq]
    simp [w521,c]
 rw [fnW_eq H.f443 rfl]
 simp [w443,H.toHasEq.inl,inlB,H.toHasEq.pp,ppB,k2]
theorem hps_loop (H:HasQs C) (a b:List Pl) (e f:Bool) (hl:a.length=b.length) (hm:a.length≤1000000) (hi:∀ p ∈ a,HdIn p.1):∀ n i,n+i=a.length →
 w444_K0 C ⟨[(17,.int .i64 i),(16,.int .i64 a.length),(15,.ro 1 (a.map ePl) e),(2,.fn 443 []),(1,.ro 1 (b.map ePl) f)],[],0⟩=some (.bool (samePs (a.drop i) (b.drop i))):=by
 intro n
 induction n with
 | zero =>
  intro i hi'
  have h1:a.drop i=[]:=List.drop_eq_nil_of_le (by omega)
  have h2:b.drop i=[]:=List.drop_eq_nil_of_le (by omega)
  have h3:¬ i < a.length:=by omega
  simp only [w444_K0];rw [ck_unf w444_B0.eq_1]
  simp (disch:=omega) [ck_unf w444_c0.eq_1,h1,h2,h3,samePs]
 | succ n ihn =>
  intro i hi'
  have h1:i < a.length:=by omega
  have h2:i < b.length:=by omega
  have this:=ihn (i+1) (by omega)
  have hh:=hi _ (List.getElem_mem h1)
  have hs:=hrows_ok H a[i].1 b[i].1 a[i].2 b[i].2 hh.len hh.nd
  rw [drop_cons h1,drop_cons h2,samePs]
  try simp at hs
  generalize samePs (a.drop (i+1)) (b.drop (i+1))=X at *
  generalize hE:sameH a[i].1 b[i].1=E at *
  cases E
  · simp only [w444_K0];rw [ck_unf w444_B0.eq_1]
    simp (disch:=omega) [h1,h2,hs,wI64,H.toHasEq.inl,inlB,H.toHasEq.pp,ppB]
  · simp only [w444_K0] at this ⊢;rw [ck_unf w444_B0.eq_1]
    simp at this
    simp (disch:=omega) [h1,h2,hs,wI64,H.toHasEq.inl,inlB,H.toHasEq.pp,ppB,this]
theorem hsame_ok (H:HasQs C) (ra rb:List Hd) (ea eb:Bool) (a b:List Pl) (e f:Bool) (h0:HdIn ra) (hb:a.length≤1000000) (hi:∀ p ∈ a,HdIn p.1) :
 FnW C 298 [aSt ra ea a e,aSt rb eb b f]=some (.bool (sameH ra rb&&samePs a b)):=by
 have k1:=hrows_ok H ra rb ea eb h0.len h0.nd
 have k2:FnW C 444 [.ro 1 (a.map ePl) e,.ro 1 (b.map ePl) f,.fn 443 []]=some (.bool (samePs a b)):=by
  rw [fnW_eq H.f444 rfl]
  by_cases c:a.length=b.length
  · have k:=hps_loop H a b e f c hb hi a.length 0 (by simp)
    rw [List.drop_zero,List.drop_zero] at k
    generalize samePs a b=X at *
    simp only [w444_K0] at k
    simp at k
    simp [w444,eq_true c,k]
  · have hq:samePs a b=false:=by
     cases q:samePs a b
     · rfl
     · exact absurd (samePs_len _ _ q) c
    rw [hq]
    simp [w444,c]
 rw [fnW_eq H.f298 rfl]
 try simp at k1
 try simp at k2
 generalize samePs a b=X at *
 cases c:sameH ra rb
 · rw [c] at k1
   simp [w298,H.toHasEq.inl,inlB,H.toHasEq.pp,ppB,k1]
 · rw [c] at k1
   simp [w298,H.toHasEq.inl,inlB,H.toHasEq.pp,ppB,k1,k2]
end Go.D
end
section
namespace Go.D
open Go Go.Pav Go.Pw P
set_option maxHeartbeats 1000000
attribute [-simp] List.getElem_cons_drop
variable {C:WProg}
section
variable (ra:List Hd) (ea:Bool) (ps:List Pl) (pe:Bool)
abbrev hpV (s:Int) (ok:Bool):WHeap:=[(0,.cells 2 [[.ro 8 (ra.map eHd) ea,.ro 1 (ps.map ePl) pe]] true true),(2,.cells 1 [[.int .i64 s]] true true),(3,.cells 1 [[.bool ok]] true true),
 (6,.cells 1 [[.fn 438 [.ptr 3 0 0,.ptr 2 0 0,.ptr 6 0 0]]] true false),(12,.cells 1 [[.ro 8 (ra.map eHd) ea]] true true)]
theorem lv5_rows (H:HasQs C) (X:AV) (hX:X=.sl 12 1 0 1 1 true∨∃ (l:List Pl) (e:Bool),X=.ro 1 (l.map ePl) e) (l:List Hd) (e:Bool) (hl:l.length≤1000000) (n:Nat) (hn:13≤n):∀ m i,m+i=l.length→∀ (s:Int) (ok:Bool),0≤s→s+64 * m≤1000000000000000 →
 CK C n (fnEndW []) [.sq w438_L0,.bk 0 ⟨true,[3,0],[]⟩,.sq w438_c0] w438_B0 ⟨[(14,.int .i64 i),(13,.int .i64 l.length),(12,.ro 8 (l.map eHd) e),(3,.ptr 6 0 0),(2,.ptr 2 0 0),(1,.ptr 3 0 0),(0,X)],hpV ra ea ps pe s ok,n⟩ =
  CK C n (fnEndW []) [] w438_c0 ⟨[(3,.ptr 6 0 0),(0,X)],hpV ra ea ps pe (s+(cntS (l.drop i):Nat)) (ok&&okS (l.drop i)),n⟩:=by
 have n0:0 < n:=by omega
 have n2:2 < n:=by omega
 have n3:3 < n:=by omega
 have n6:6 < n:=by omega
 have n12:12 < n:=by omega
 have m1:¬ n=0:=by omega
 have m2:¬ n=3:=by omega
 have m3:¬ n=9:=by omega
 have m4:¬ n≤3:=by omega
 have m5:¬ n≤9:=by omega
 have m6:¬ n+1+1+1 < n:=by omega
 have m7:¬ n≤12:=by omega
 have m8:¬ n=2:=by omega
 have m9:¬ n=6:=by omega
 have m10:¬ n=12:=by omega
 have p0:¬ 0=n:=by omega
 have p2:¬ 2=n:=by omega
 have p3:¬ 3=n:=by omega
 have p6:¬ 6=n:=by omega
 have p12:¬ 12=n:=by omega
 intro m
 induction m with
 | zero =>
  intro i hi s ok h0 h1
  have h2:l.drop i=[]:=List.drop_eq_nil_of_le (by omega)
  have h3:¬ i < l.length:=by omega
  rw [h2,ck_unf w438_B0.eq_1]
  rcases hX with rfl | ⟨L,E,rfl⟩
  · simp (disch:=omega) [h3,cntS,okS,n0,n2,n3,n6,n12]
  · simp (disch:=omega) [h3,cntS,okS,n0,n2,n3,n6,n12]
 | succ m ih =>
  intro i hi s ok h0 h1
  have h3:i < l.length:=by omega
  have hr1:=check_ok H.toHasR.toHasM l[i].n
  have hr2:=count_ok H.toHasR.toHasM l[i].n
  have hc:=cnt_le l[i].n
  have:=ih (i+1) (by omega) (s+(cnt l[i].n:Nat)) (ok&&decide (cnt l[i].n≠0)) (by omega) (by omega)
  have ho:∀ q,(ok&&okS (l[i]::q))=((ok&&decide (cnt l[i].n≠0))&&okS q):=by intro q;simp [okS,Bool.and_assoc]
  rw [drop_cons h3,ho,cntS]
  rw [ck_unf w438_B0.eq_1]
  rw [Nd.c_eq] at hr1 hr2
  by_cases c:cnt l[i].n=0
  · rw [if_pos c] at hr1
    rw [c] at hr2 this
    simp at this
    cases ok
    · rcases hX with rfl | ⟨L,E,rfl⟩
      · simp (disch:=omega) [h3,hr1,hr2,H.toHasEq.inl,inlB,H.toHasEq.pp,ppB,wI64,n0,n2,n3,n6,n12,m1,m2,m3,m4,m5,m6,m7,m8,m9,m10,p0,p2,p3,p6,p12,c,Nd.c_eq]
        rw [this]
      · simp (disch:=omega) [h3,hr1,hr2,H.toHasEq.inl,inlB,H.toHasEq.pp,ppB,wI64,n0,n2,n3,n6,n12,m1,m2,m3,m4,m5,m6,m7,m8,m9,m10,p0,p2,p3,p6,p12,c,Nd.c_eq]
        rw [this]
    · rcases hX with rfl | ⟨L,E,rfl⟩
      · simp (disch:=omega) [h3,hr1,hr2,H.toHasEq.inl,inlB,H.toHasEq.pp,ppB,wI64,n0,n2,n3,n6,n12,m1,m2,m3,m4,m5,m6,m7,m8,m9,m10,p0,p2,p3,p6,p12,c,Nd.c_eq]
        rw [this]
      · simp (disch:=omega) [h3,hr1,hr2,H.toHasEq.inl,inlB,H.toHasEq.pp,ppB,wI64,n0,n2,n3,n6,n12,m1,m2,m3,m4,m5,m6,m7,m8,m9,m10,p0,p2,p3,p6,p12,c,Nd.c_eq]
        rw [this]
  · rw [if_neg c] at hr1
    cases ok
    · rcases hX with rfl | ⟨L,E,rfl⟩
      · simp (disch:=omega) [h3,hr1,hr2,H.toHasEq.inl,inlB,H.toHasEq.pp,ppB,wI64,n0,n2,n3,n6,n12,m1,m2,m3,m4,m5,m6,m7,m8,m9,m10,p0,p2,p3,p6,p12,c,Nd.c_eq]
        simp [c] at this
        rw [this];simp [Int.add_assoc]
      · simp (disch:=omega) [h3,hr1,hr2,H.toHasEq.inl,inlB,H.toHasEq.pp,ppB,wI64,n0,n2,n3,n6,n12,m1,m2,m3,m4,m5,m6,m7,m8,m9,m10,p0,p2,p3,p6,p12,c,Nd.c_eq]
        simp [c] at this
        rw [this];simp [Int.add_assoc]
    · rcases hX with rfl | ⟨L,E,rfl⟩
      · simp (disch:=omega) [h3,hr1,hr2,H.toHasEq.inl,inlB,H.toHasEq.pp,ppB,wI64,n0,n2,n3,n6,n12,m1,m2,m3,m4,m5,m6,m7,m8,m9,m10,p0,p2,p3,p6,p12,c,Nd.c_eq]
        simp [c] at this
        rw [this];simp [Int.add_assoc]
      · simp (disch:=omega) [h3,hr1,hr2,H.toHasEq.inl,inlB,H.toHasEq.pp,ppB,wI64,n0,n2,n3,n6,n12,m1,m2,m3,m4,m5,m6,m7,m8,m9,m10,p0,p2,p3,p6,p12,c,Nd.c_eq]
        simp [c] at this
        rw [this];simp [Int.add_assoc]
theorem lv5_pools (H:HasQs C) (hpl:∀ p ∈ ps,p.1.length≤1000000):∀ (l:List Pl),(∀ p ∈ l,p.1.length≤1000000)→∀ (e:Bool) (n:Nat),13≤n→∀ (s:Int) (ok:Bool),0≤s→s+64000000 * l.length≤1000000000000000 →
 ∃ n',RnW C 438 [.ro 1 (l.map ePl) e,.ptr 3 0 0,.ptr 2 0 0,.ptr 6 0 0] (hpV ra ea ps pe s ok) n=some (.tup [],hpV ra ea ps pe (s+(cntL (l.map (·.1)):Nat)) (ok&&okL (l.map (·.1))),n'):=by
 intro l
 induction l with
 | nil =>
  intro _ e n hn s ok h0 h1
  rw [rnW_eq (args:=[.ro 1 (([]:List Pl).map ePl) e,.ptr 3 0 0,.ptr 2 0 0,.ptr 6 0 0]) H.f438 rfl _ n]
  refine ⟨?_,?_⟩
  rotate_left
  · simp [w438,H.toHasEq.inl,inlB,H.toHasEq.pp,ppB,cntL,okL]
    rfl
 | cons p l ih =>
  intro hl e n hn s ok h0 h1
  have n0:0 < n:=by omega
  have n2:2 < n:=by omega
  have n3:3 < n:=by omega
  have n6:6 < n:=by omega
  have n12:12 < n:=by omega
  have hp:=hl p (by simp)
  have hc:=cntS_le p.1
  simp only [List.length_cons] at h1
  have hr:=lv5_rows ra ea ps pe H (.ro 1 ((p::l).map ePl) e) (.inr ⟨p::l,e,rfl⟩) p.1 p.2 hp n hn p.1.length 0 (by simp) s ok h0 (by omega)
  rw [List.drop_zero] at hr
  rw [rnW_eq (args:=[.ro 1 ((p::l).map ePl) e,.ptr 3 0 0,.ptr 2 0 0,.ptr 6 0 0]) H.f438 rfl _ n]
  simp only [List.map_cons,okL,List.all_cons,cntL]
  have hne:¬ ((l.length:Int)+1=0):=by omega
  obtain ⟨n1,hq⟩:=ih (fun q hq=>hl q (by simp [hq])) e (n+4) (by omega) (s+(cntS p.1:Nat)) (ok&&okS p.1) (by omega) (by omega)
  have ht:List.take l.length (l.map ePl)=l.map ePl:=List.take_of_length_le (by simp)
  have ha:(ok&&(okS p.1&&(l.map (·.1)).all okS))=((ok&&okS p.1)&&okL (l.map (·.1))):=by rw [Bool.and_assoc];rfl
  have hs:s+((cntS p.1+cntL (l.map (·.1)):Nat):Int)=s+(cntS p.1:Nat)+(cntL (l.map (·.1)):Nat):=by omega
  rw [ha,hs]
  generalize s+((cntS p.1:Nat):Int)+((cntL (l.map (·.1)):Nat):Int)=S at *
  generalize (ok&&okS p.1&&okL (l.map (·.1)))=O at *
  simp at hr
  refine ⟨?_,?_⟩
  rotate_left
  · simp [w438,H.toHasEq.inl,inlB,H.toHasEq.pp,ppB,n0,n2,n3,n6,n12,hne,hr]
    rw [ck_unf w438_c0.eq_1]
    simp [w438,H.toHasEq.inl,inlB,H.toHasEq.pp,ppB,n0,n2,n3,n6,n12,hne,hr,ht,hq]
    rfl
theorem hlive_ok (H:HasQs C) (hra:ra.length≤1000000) (hps:∀ p ∈ ps,p.1.length≤1000000) (hpl:ps.length≤1000):FnW C 289 [aSt ra ea ps pe]=some (.int .i64 (live (ra::ps.map (·.1)))):=by
 have hc:=cntS_le ra
 rw [fnW_eq H.f289 rfl]
 have e1:∃ n',13≤n'∧RnW C 438 [.sl 12 1 0 1 1 true,.ptr 3 0 0,.ptr 2 0 0,.ptr 6 0 0] (hpV ra ea ps pe 1 true) 14=some (.tup [],hpV ra ea ps pe (1+(cntS ra:Nat)) (okS ra),n'):=by
  have hr:=lv5_rows ra ea ps pe H (.sl 12 1 0 1 1 true) (.inl rfl) ra ea hra 14 (by omega) ra.length 0 (by simp) 1 true (by omega) (by omega)
  rw [List.drop_zero] at hr
  rw [rnW_eq (args:=[.sl 12 1 0 1 1 true,.ptr 3 0 0,.ptr 2 0 0,.ptr 6 0 0]) H.f438 rfl _ 14]
  simp at hr
  have e0:RnW C 438 [.ro 1 [] true,.ptr 3 0 0,.ptr 2 0 0,.ptr 6 0 0] (hpV ra ea ps pe (1+(cntS ra:Nat)) (okS ra)) 18=some (.tup [],hpV ra ea ps pe (1+(cntS ra:Nat)) (okS ra),21):=by
   rw [rnW_eq (args:=[.ro 1 [] true,.ptr 3 0 0,.ptr 2 0 0,.ptr 6 0 0]) H.f438 rfl _ 18]
   simp [w438,H.toHasEq.inl,inlB,H.toHasEq.pp,ppB,cntL,okL]
  generalize 1+((cntS ra:Nat):Int)=S at *
  refine ⟨?_,?_,?_⟩
  rotate_right
  · simp [w438,H.toHasEq.inl,inlB,H.toHasEq.pp,ppB,hr]
    rw [ck_unf w438_c0.eq_1]
    simp [w438,H.toHasEq.inl,inlB,H.toHasEq.pp,ppB,hr,e0]
    rfl
  · omega
 obtain ⟨n1,hn1,e1⟩:=e1
 obtain ⟨n2,e2⟩:∃ n',RnW C 438 [.ro 1 (ps.map ePl) pe,.ptr 3 0 0,.ptr 2 0 0,.ptr 6 0 0] (hpV ra ea ps pe (1+(cntS ra:Nat)) (okS ra)) (n1+1+1+1+1)=_:=lv5_pools ra ea ps pe H hps ps hps pe (n1+1+1+1+1) (by omega) (1+(cntS ra:Nat)) (okS ra) (by omega) (by omega)
 have hl:live (ra::ps.map (·.1))=if (okS ra&&okL (ps.map (·.1)))=true then 1+((cntS ra:Nat):Int)+(cntL (ps.map (·.1)):Nat) else 0:=by
  unfold live;rw [okL_cons,cntL];simp [Int.add_assoc]
 rw [hl]
 generalize 1+((cntS ra:Nat):Int)+((cntL (ps.map (·.1)):Nat):Int)=S2 at *
 generalize 1+((cntS ra:Nat):Int)=S at *
 generalize (okS ra&&okL (ps.map (·.1)))=O at *
 cases O
 · simp [w289,H.toHasEq.inl,inlB,H.toHasEq.pp,ppB,e1,e2]
 · simp [w289,H.toHasEq.inl,inlB,H.toHasEq.pp,ppB,e1,e2]
end
end Go.D
end
section
namespace Go.D
open Go Go.Pav Go.Pw P
attribute [-simp] List.getElem_cons_drop
variable {C:WProg}
structure HasTr (C:WProg):Prop extends HasG C
structure HasCp (C:WProg):Prop extends HasEq C,HasTr C,HasAt C
theorem rcs_bd:∀ (l:List Nd) (lv c:Nat),rcs l lv c≤64→∀ m ∈ l,rc m lv≤64
 | [],_,_,_,m,hm=>by cases hm
 | n::r,lv,c,h,m,hm=>by
  rw [rcs] at h
  by_cases q:c≤64
  · rw [if_pos q] at h
    have h1:=rcs_ge r lv (c+rc n lv)
    rcases List.mem_cons.1 hm with e | e
    · subst e;omega
    · exact rcs_bd r lv _ h m e
  · rw [if_neg q] at h;omega
mutual
theorem rc_up:∀ (n:Nd) (lv:Nat),rc n lv≤64→rc n (lv+1)=rc n lv
 | ⟨k,t,y,a,ae,x,ch,ce⟩,0,h=>by rw [rc] at h;omega
 | ⟨k,t,y,a,ae,x,ch,ce⟩,lv+1,h=>by
  rw [rc] at h ⊢
  rw [rc]
  by_cases q:alone ⟨k,t,y,a,ae,x,ch,ce⟩=true
  · rw [if_pos q] at h
    rw [if_pos q,if_pos q]
    exact rcs_up ch lv 1 h
  · rw [if_neg q] at h;omega
theorem rcs_up:∀ (l:List Nd) (lv c:Nat),rcs l lv c≤64→rcs l (lv+1) c=rcs l lv c
 | [],lv,c,h=>by rw [rcs,rcs]
 | n::r,lv,c,h=>by
  rw [rcs] at h ⊢
  rw [rcs]
  by_cases q:c≤64
  · rw [if_pos q] at h
    rw [if_pos q,if_pos q]
    have h1:=rcs_ge r lv (c+rc n lv)
    have e:=rc_up n lv (by omega)
    rw [e]
    exact rcs_up r lv _ h
  · rw [if_neg q] at h;omega
end
inductive NdV:Nd→Prop
 | mk (n:Nd) (hc:cnt n≠0) (h1:n.a.length≤8) (h2:n.ch.length≤16) (h:∀ m ∈ n.ch,NdV m):NdV n
theorem ndv_rc:∀ (lv:Nat),lv≤6→∀ n:Nd,rc n lv≤64→NdV n
 | 0,_,n,h=>by rw [rc_z] at h;omega
 | lv+1,hlv,n,h=>by
  have hup:∀ j,lv+1+j≤6→rc n (lv+1+j)=rc n (lv+1):=by
   intro j
   induction j with
   | zero=>intro _;rfl
   | succ j ih =>
    intro hj
    have:=ih (by omega)
    rw [← Nat.add_assoc,rc_up n _ (by omega)]
    exact this
  have h6:=hup (5 - lv) (by omega)
  have e6:lv+1+(5 - lv)=6:=by omega
  rw [e6] at h6
  have hge:=rc_ge n (lv+1)
  have hc:cnt n≠0:=by rw [cnt_rc,h6,if_neg (by omega)];omega
  rw [rc_s] at h
  by_cases q:alone n=true
  · rw [if_pos q] at h
    have hb:=rcs_bd _ _ _ h
    have hq:n.a.length≤8∧n.ch.length≤16:=by
     unfold alone at q
     by_cases d:n.k=2
     · rw [if_pos d] at q;simp at q;obtain ⟨⟨_,q1⟩,q2⟩:=q;rw [q1,q2];simp
     · rw [if_neg d] at q;simp at q;exact ⟨q.1.1.1.2,q.1.1.2⟩
    exact .mk n hc hq.1 hq.2 fun m hm=>ndv_rc lv (by omega) m (hb m hm)
  · rw [if_neg q] at h;omega
theorem ndv_of {n:Nd} (h:cnt n≠0):NdV n:=by
 refine ndv_rc 6 (by omega) n ?_
 rw [cnt_rc] at h
 by_cases c:64 < rc n 6
 · rw [if_pos c] at h;exact absurd rfl h
 · omega
end Go.D
end
section
namespace Go.D
open Go Go.Pav Go.Pw P
attribute [-simp] List.getElem_cons_drop
variable {C:WProg}
theorem sm_bd:∀ (l:List En),(∀ x ∈ l,1≤x.s∧x.s≤40)→sm l≤40 * l.length
 | [],_=>by simp [sm]
 | e::r,h=>by
  have h1:=h e (by simp)
  have h2:=sm_bd r fun x hx=>h x (by simp [hx])
  rw [sm];simp only [List.length_cons];omega
theorem szd_good {ks:List Kd} {l:List En} (hl:l.length≤12) (hg:∀ e ∈ l,GoodE ks e):Szd l:=by
 have:=sm_bd l fun x hx=>(hg x hx).s
 exact ⟨by omega,fun x hx=>by have:=(hg x hx).s;omega,by omega⟩
@[simp] theorem oldRefs_zero:∀ h:WHeap,oldRefs 0 h=[]
 | []=>rfl
 | (b,o)::r=>by rw [oldRefs,if_neg (by omega),oldRefs_zero r]
@[simp] theorem renOld_zero (π:Nat→Option Nat):∀ h:WHeap,renOld 0 π h=some []
 | []=>rfl
 | (b,o)::r=>by rw [renOld,if_neg (by omega),renOld_zero π r]
@[simp] theorem getp (h:WHeap) (n:Nat) (o:WObj) (k:Nat):Pav.get (Pav.put h n o) k=if n=k then some o else Pav.get h k:=get_put h n o k
end Go.D
end
section
namespace Go.D
open Go Go.Pav Go.Pw P
attribute [-simp] List.getElem_cons_drop
variable {C:WProg} {α β:Type}
theorem itE_rnd {ks:List Kd} {x:It} (h:itE ks 12 x false=0):itOk ks.length x=true∧rndE (kdAt ks x.t).p x 12=0:=by
 unfold itE at h
 cases c:itOk ks.length x
 · rw [c] at h;simp at h
 · rw [c] at h
   by_cases d:rndE (kdAt ks x.t).p x 12=0
   · exact ⟨rfl,d⟩
   · simp [d] at h
end Go.D
end
section
namespace Go.D
open Go Go.Pav Go.Pw P
attribute [-simp] List.getElem_cons_drop
variable {C:WProg}
structure HasRo (C:WProg):Prop extends HasCp C where
 f417:C.fns.get 417=some w417
structure LG (r:Int) (l:List En):Prop where
 hr:0≤r∧r≤255
 hl:l.length≤12
 z:Szd l
 en:∀ x ∈ l,EnIn x
 ck:ckE (kindsOf r) 12 l=0
 ck1:∀ x ∈ l,ckE (kindsOf r) 12 [x]=0
 t:∀ x ∈ l,0≤x.i.t∧x.i.t < (kindsOf r).length
 rE:∀ x ∈ l,rndE (kdAt (kindsOf r) x.i.t).p x.i 12=0
theorem LG.of_good {r:Int} {l:List En} (hr:0≤r∧r≤255) (hl:l.length≤12) (hg:∀ e ∈ l,GoodE (kindsOf r) e) (hn:(keysE l).Nodup):LG r l where
 hr:=hr
 hl:=hl
 z:=szd_good hl hg
 en:=fun x hx=>(hg x hx).en
 ck:=ck_good r hr l (by omega) hg hn
 ck1:=fun x hx=>ck_good r hr [x] (by simp) (by intro e he;rw [List.mem_singleton] at he;subst he;exact hg _ hx) (by simp [keysE])
 t:=fun x hx=>by have:=(hg x hx).i.t;rw [(ks_in r hr).l];omega
 rE:=fun x hx=>(itE_rnd (hg x hx).ok).2
theorem fits_kd {ks:List Kd} (h:RuIn ks) {t:Int} (h0:0≤t∧t < ks.length):FitsAll (kdAt ks t).p:=by
 obtain ⟨n,rfl⟩:∃ n:Nat,t=n:=⟨t.toNat,by omega⟩
 rw [kdAt_get (by omega:n < ks.length)]
 exact h.f _ (List.getElem_mem _)
theorem cnt_rnd {p:Pt} {x:It} (h:rndE p x 12=0):cnt (rndN p x 12)≠0:=by
 unfold rndN
 rw [if_pos h]
 unfold rndE at h
 intro c
 rw [if_neg (by omega)] at h
 split at h
 · cases h
 · split at h
   · cases h
   · rw [if_pos (.inl c)] at h;cases h
section
variable {r:Int} {l:List En} (L:LG r l)
end
end Go.D
end
section
namespace Go.D
open Go Go.Pav Go.Pw P
attribute [-simp] List.getElem_cons_drop
variable {C:WProg}
structure HasQh (C:WProg):Prop extends HasQm C,HasQs C,HasRo C where
 f296:C.fns.get 296=some w296
 f283:C.fns.get 283=some w283
theorem rempty_ok (H:HasQh C) (vw ov ls:Int) (a b c:Kd) (ke:Bool) (cap ar fl:Int):FnW C 296 [.agg (cCf vw ov ls [a,b,c] ke cap ar fl)]=some (aSt [] true [([],true),([],true),([],true)] false):=by
 rw [fnW_eq H.f296 rfl]
 simp [w296,H.toHasEq.inl,inlB,H.toHasEq.pp,ppB]
 rw [ck_unf w296_B0.eq_1]
 simp (disch:=omega) [w296,H.toHasEq.inl,inlB,H.toHasEq.pp,ppB,wI64]
 rw [ck_unf w296_B0.eq_1]
 simp (disch:=omega) [w296,H.toHasEq.inl,inlB,H.toHasEq.pp,ppB,wI64]
 rw [ck_unf w296_B0.eq_1]
 simp (disch:=omega) [w296,H.toHasEq.inl,inlB,H.toHasEq.pp,ppB,wI64]
 rw [ck_unf w296_B0.eq_1]
 simp (disch:=omega) [w296,H.toHasEq.inl,inlB,H.toHasEq.pp,ppB,wI64]
 rw [ck_unf w296_c0.eq_1]
 simp (disch:=omega) [w296,H.toHasEq.inl,inlB,H.toHasEq.pp,ppB,wI64]
@[simp] def eW (w:Int × Int):List AV:=[.int .u16 w.1,.int .u16 w.2]
theorem ndin_v {n:Nd} (h:NdV n):NdIn n:=by
 induction h with
 | mk n hc h1 h2 h ih=>exact .mk n (by omega) (by omega) ih
def trK (ks:List Kd) (x:En):Nd:=rndR (kdAt ks x.i.t).p x.i 12
theorem rtree2_ok (H:HasRo C) {r:Int} {l:List En} (L:LG r l) (f:Bool) (i:Nat) (hi:i < l.length):FnW C 417 [aR (kindsOf r) true 12,.ro 6 (l.map eEn) f,.int .i64 i]=some (.agg (trK (kindsOf r) l[i]).c):=by
 have hx:=List.getElem_mem hi
 have ht:=L.t _ hx
 obtain ⟨tn,htn⟩:∃ tn:Nat,l[i].i.t=tn:=⟨l[i].i.t.toNat,by omega⟩
 have htl:tn < (kindsOf r).length:=by omega
 have hz0:=L.rE _ hx
 have h2:=rRender_ok H.toHasZ (kdAt (kindsOf r) l[i].i.t).p (fits_kd (ru_in r) ht) l[i].i (L.en _ hx).i.k 12
 unfold trK
 rw [hz0,htn,kdAt_get htl] at h2
 rw [htn,kdAt_get htl]
 generalize rndR (kindsOf r)[tn].p l[i].i 12=N at *
 rw [Pt.c_eq,Nd.c_eq] at h2
 rw [Nd.c_eq]
 simp only [eIt,htn] at h2
 rw [fnW_eq H.f417 rfl]
 generalize kindsOf r=ks at *
 simp (disch:=omega) [w417,h2,hi,htn,htl,H.inl,inlB,H.pp,ppB]
theorem trK_in {r:Int} {l:List En} (L:LG r l) {x:En} (hx:x ∈ l):NdIn (trK (kindsOf r) x):=by
 refine ndin_v (ndv_of ?_)
 unfold trK
 rw [← cnt_z,← rnd_z _ (fits_kd (ru_in r) (L.t x hx)),cnt_z]
 exact cnt_rnd (L.rE _ hx)
def HQ (x:Hd):Prop:=NdIn x.n∧∃ t:Nat,x.t=t∧t < 3
structure StOk (B:Nat) (ra:List Hd) (ps:List Pl):Prop where
 rl:ra.length≤12
 pl:ps.length=3
 pb:∀ p ∈ ps,p.1.length≤B
 q:∀ x ∈ ra,HQ x
 qp:∀ p ∈ ps,∀ x ∈ p.1,HQ x
theorem rowAt_all {Q:Hd→Prop} {W:List (List Hd)} (h:∀ w ∈ W,∀ x ∈ w,Q x) (t:Int):∀ x ∈ rowAt W t,Q x:=by
 unfold rowAt
 cases hq:W[t.toNat]? with
 | none=>simp
 | some y=>exact h y (List.mem_of_getElem? hq)
theorem cm1_all {Q:Hd→Prop} (ks:List Kd) (l:List En) (A:List Nat):∀ (ra:List Hd) (s:List (List Hd) × Int),(∀ x ∈ ra,Q x)→(∀ w ∈ s.1,∀ x ∈ w,Q x)→∀ w ∈ (cm1 ks l A ra s).1,∀ x ∈ w,Q x
 | [],s,_,h=>by simpa [cm1] using h
 | a::r,s,h1,h=>by
  simp only [cm1]
  refine cm1_all ks l A r _ (fun x hx=>h1 x (by simp [hx])) ?_
  split
  · exact h
  · split
    · exact h
    · intro w hw
      rcases List.mem_or_eq_of_mem_set hw with q | q
      · exact h w q
      · subst q
        intro x hx
        rcases List.mem_append.1 hx with q | q
        · exact rowAt_all h _ x q
        · rw [List.mem_singleton] at q;subst q;exact h1 _ (by simp)
theorem cm1_wl (ks:List Kd) (l:List En) (A:List Nat):∀ (ra:List Hd) (s:List (List Hd) × Int),(cm1 ks l A ra s).1.length=s.1.length
 | [],s=>rfl
 | a::r,s=>by
  simp only [cm1]
  rw [cm1_wl ks l A r]
  split
  · rfl
  · split
    · rfl
    · simp
theorem cm2_all {Q:Hd→Prop} (tr:En→Nd) (ra:List Hd) (l:List En) (hl:∀ e ∈ l,Q ⟨e.i.k,e.i.t,tr e⟩):∀ (A:List Nat) (s:List Hd × List (List Hd) × Int × Int),(∀ x ∈ s.1,Q x)→(∀ w ∈ s.2.1,∀ x ∈ w,Q x) →
 (∀ x ∈ (cm2 tr ra l A s).1,Q x)∧∀ w ∈ (cm2 tr ra l A s).2.1,∀ x ∈ w,Q x
 | [],s,h1,h2=>by simpa [cm2] using ⟨h1,h2⟩
 | a::r,s,h1,h2=>by
  simp only [cm2]
  cases hq:l[a]? with
  | none=>exact cm2_all tr ra l hl r s h1 h2
  | some e =>
   have he:=hl e (List.mem_of_getElem? hq)
   have h3:∀ x ∈ s.1++[⟨e.i.k,e.i.t,tr e⟩],Q x:=by
    intro x hx
    rcases List.mem_append.1 hx with q | q
    · exact h1 x q
    · rw [List.mem_singleton] at q;subst q;exact he
   simp only
   split
   · exact cm2_all tr ra l hl r _ h3 h2
   · split
     · exact cm2_all tr ra l hl r _ h3 h2
     · refine cm2_all tr ra l hl r _ h3 ?_
       intro w hw
       rcases List.mem_or_eq_of_mem_set hw with q | q
       · exact h2 w q
       · subst q
         intro x hx
         exact rowAt_all h2 _ x (List.mem_of_mem_take hx)
theorem cntL_le (B:Nat):∀ L:List (List Hd),(∀ w ∈ L,w.length≤B)→cntL L≤64 * B * L.length
 | [],_=>by simp [cntL]
 | l::r,h=>by
  have h1:=cntL_le B r (fun w hw=>h w (by simp [hw]))
  have h2:=cntS_le l
  have h3:=h l (by simp)
  simp only [cntL,List.length_cons,Nat.mul_add,Nat.mul_one]
  omega
theorem hstep_ok (H:HasQh C) {r:Int} {l:List En} (L:LG r l) (e:Bool) {B:Nat} (hB:B≤84) {ra:List Hd} {ps:List Pl} (S:StOk B ra ps) (ea pe:Bool) (A:List Nat) (f:Bool) (hA:A.length≤12) (hAl:∀ a ∈ A,a < l.length) :
 ∃ (ra':List Hd) (ea':Bool) (ps':List Pl) (pe':Bool) (c:AV),StOk (B+12) ra' ps'∧FnW C 285 [.agg (cCf 100 1 1 (kindsOf r) true 12 65536 0),aSt ra ea ps pe,.ro 6 (l.map eEn) e,.ro 1 (A.map eAt) f]=some (.tup [aSt ra' ea' ps' pe',c,.int .i64 0]):=by
 have hk:(kindsOf r).length=3:=rfl
 obtain ⟨ps',ea',pe',h1,h2⟩:=rcommit_ok H.toHasQm (trK (kindsOf r)) 100 1 1 (kindsOf r) true 12 65536 0 ra ea ps pe l e A f (by omega) hAl (by have:=S.rl;omega) (by rw [S.pl];rfl) (by omega) (by omega)
  (fun p hp=>by have:=S.pb p hp;omega) (fun x hx=>⟨x.i.t.toNat,by have:=L.t x hx;omega,by have:=L.t x hx;omega⟩) (fun x hx=>by rw [hk];exact (S.q x hx).2) (fun a ha=>rtree2_ok H.toHasRo L e a ha)
 have l1:=cm1_len (kindsOf r) l A ra (ps.map (·.1),0) B (fun w hw=>by obtain ⟨p,hp,rfl⟩:=List.mem_map.1 hw;exact S.pb p hp)
 have l2:=cm2_len (trK (kindsOf r)) ra l A ([],(cm1 (kindsOf r) l A ra (ps.map (·.1),0)).1,0,0) (B+ra.length) l1
 have l3:=cm1_all (Q:=HQ) (kindsOf r) l A ra (ps.map (·.1),0) S.q (fun w hw=>by obtain ⟨p,hp,rfl⟩:=List.mem_map.1 hw;exact S.qp p hp)
 have l4:=cm2_all (Q:=HQ) (trK (kindsOf r)) ra l (fun x hx=>⟨trK_in L hx,x.i.t.toNat,by have:=L.t x hx;simp only;omega,by have:=L.t x hx;omega⟩) A ([],(cm1 (kindsOf r) l A ra (ps.map (·.1),0)).1,0,0) (by simp) l3
 have l5:=cm1_wl (kindsOf r) l A ra (ps.map (·.1),0)
 have hrl:=S.rl
 have hpl:=S.pl
 simp only [List.length_nil,Nat.zero_add,List.length_map] at l2 l5
 unfold cmF at h1 h2
 simp only at h1 h2
 generalize cm1 (kindsOf r) l A ra (ps.map (·.1),0)=s at *
 generalize cm2 (trK (kindsOf r)) ra l A ([],s.1,0,0)=u at *
 have hlv:¬ live (u.1::u.2.1) > 65536:=by
  have:=cntL_le (B+12) (u.1::u.2.1) (by
   intro w hw
   rcases List.mem_cons.1 hw with rfl | q
   · omega
   · have:=l2.2.1 w q;omega)
  have hlen:(u.1::u.2.1).length=4:=by simp;omega
  rw [hlen] at this
  unfold live
  split <;> omega
 rw [if_neg hlv] at h2
 refine ⟨u.1,ea',ps',pe',_,⟨by omega,?_,?_,l4.1,?_⟩,h2⟩
 · have:=congrArg List.length h1;simp at this;omega
 · intro p hp
   have:=l2.2.1 p.1 (by rw [← h1];exact List.mem_map.2 ⟨p,hp,rfl⟩);omega
 · intro p hp
   exact l4.2 p.1 (by rw [← h1];exact List.mem_map.2 ⟨p,hp,rfl⟩)
abbrev ofH (cf:List AV) (R1 R2:List En) (g1 g2:Bool) (X:List AV) (w:List (Int × Int)) (we:Bool) (ra:List Hd) (ea:Bool) (ps:List Pl) (pe:Bool):WHeap :=
 [(0, .cells 2 [[.ro 8 (ra.map eHd) ea, .ro 1 (ps.map ePl) pe]] true true), (1, .cells 2 [[.ro 6 (R1.map eEn) g1, .ro 6 (R2.map eEn) g2]] true true), (2, .cells 7 [cf] true true), (3, .cells 2 [[.ro 6 [] true, .ro 6 [] true]] true true), (4, .cells 2 [[.ro 8 [] true, .ro 1 [] true]] true true),
   (5,.cells 7 [[.int .i64 0,.int .i64 0,.int .i64 0,.ro 9 [] true,.int .i64 0,.int .i64 0,.int .u8 0]] true true),(6,.cells 7 [X] true true)]
abbrev ofE (i:Nat):List (Nat × AV):=[(12,.int .i64 i),(11,.ptr 0 0 0),(10,.ptr 1 0 0),(9,.ptr 2 0 0),(4,.ptr 3 0 0),(3,.ptr 4 0 0),(2,.ptr 5 0 0),(1,.ptr 6 0 0)]
theorem of_loop (H:HasQh C) {r:Int} {R1 R2:List En} (L1:LG r R1) (L2:LG r R2) (g1 g2:Bool) (q1 q2:List Q4) (e1 e2:Bool) (z1 z2:List Int) (f1 f2:Bool) (w:List (Int × Int)) (we:Bool) (hw:∀ p ∈ w,0≤p.1∧∃ x:Nat,p.2=x∧x≤65535):∀ m i,m+i=min w.length 8 →
 ∀ (ra:List Hd) (ea:Bool) (ps:List Pl) (pe:Bool),StOk (12 * i) ra ps→∃ (ra':List Hd) (ea':Bool) (ps':List Pl) (pe':Bool),StOk 96 ra' ps' ∧
 w283_K0 C ⟨ofE i,ofH (cCf 100 1 1 (kindsOf r) true 12 65536 0) R1 R2 g1 g2 [.ro 4 (q1.map eQ) e1,.ro 1 (z1.map eU8) f1,.int .u8 r,.ro 4 (q2.map eQ) e2,.ro 1 (z2.map eU8) f2,.int .u8 r,.ro 2 (w.map eW) we] w we ra ea ps pe,7⟩ =
  some (.tup [.agg (cCf 100 1 1 (kindsOf r) true 12 65536 0),aSt ra' ea' ps' pe',.agg [.ro 6 (R1.map eEn) g1,.ro 6 (R2.map eEn) g2]]):=by
 intro m
 induction m with
 | zero =>
  intro i hi ra ea ps pe S
  refine ⟨ra,ea,ps,pe,⟨S.rl,S.pl,fun p hp=>by have:=S.pb p hp;omega,S.q,S.qp⟩,?_⟩
  generalize kindsOf r=ks at *
  simp only [w283_K0];rw [ck_unf w283_B0.eq_1]
  by_cases c:(i:Int) < w.length
  · have c2:¬ (i:Int) < 8:=by omega
    simp (disch:=omega) [ck_unf w283_c0.eq_1,c,c2]
  · simp (disch:=omega) [ck_unf w283_c0.eq_1,c]
 | succ m ih =>
  intro i hi ra ea ps pe S
  have c1:i < w.length:=by omega
  have c2:(i:Int) < 8:=by omega
  have c3:(i:Int) < w.length:=by omega
  obtain ⟨hx0,x,hx,hx2⟩:=hw _ (List.getElem_mem c1)
  by_cases c:(w[i].1).tmod 2=0
  · have hb:=bits_ok H.toHasQo x R1.length hx2 (by have:=L1.hl;omega)
    have hbl:=bitF_len x (min R1.length 16) 0
    obtain ⟨ra1,ea1,ps1,pe1,cc,S1,hs⟩:=hstep_ok H L1 g1 (by omega) S ea pe (bitF x 0 (min R1.length 16)) false (by have:=L1.hl;omega) (fun a ha=>by have:=bitF_in x _ 0 a ha;omega)
    obtain ⟨ra2,ea2,ps2,pe2,S2,h2⟩:=ih (i+1) (by omega) ra1 ea1 ps1 pe1 ⟨S1.rl,S1.pl,fun p hp=>by have:=S1.pb p hp;omega,S1.q,S1.qp⟩
    refine ⟨ra2,ea2,ps2,pe2,S2,?_⟩
    generalize kindsOf r=ks at *
    generalize bitF x 0 (min R1.length 16)=Z at *
    simp only [w283_K0] at h2 ⊢;rw [ck_unf w283_B0.eq_1]
    simp [ofE,ofH] at h2
    simp (disch:=omega) [ofE,ofH,c1,c2,c3,c,hx,hb,hs,h2,wI64,H.toHasEq.inl,inlB,H.toHasEq.pp,ppB]
  · have c':(w[i].1).tmod 2=1:=by have:=Int.tmod_eq_emod_of_nonneg (b:=2) hx0;omega
    have hb:=bits_ok H.toHasQo x R2.length hx2 (by have:=L2.hl;omega)
    have hbl:=bitF_len x (min R2.length 16) 0
    obtain ⟨ra1,ea1,ps1,pe1,cc,S1,hs⟩:=hstep_ok H L2 g2 (by omega) S ea pe (bitF x 0 (min R2.length 16)) false (by have:=L2.hl;omega) (fun a ha=>by have:=bitF_in x _ 0 a ha;omega)
    obtain ⟨ra2,ea2,ps2,pe2,S2,h2⟩:=ih (i+1) (by omega) ra1 ea1 ps1 pe1 ⟨S1.rl,S1.pl,fun p hp=>by have:=S1.pb p hp;omega,S1.q,S1.qp⟩
    refine ⟨ra2,ea2,ps2,pe2,S2,?_⟩
    generalize kindsOf r=ks at *
    generalize bitF x 0 (min R2.length 16)=Z at *
    simp only [w283_K0] at h2 ⊢;rw [ck_unf w283_B0.eq_1]
    simp [ofE,ofH] at h2
    simp (disch:=omega) [ofE,ofH,c1,c2,c3,c',hx,hb,hs,h2,wI64,H.toHasEq.inl,inlB,H.toHasEq.pp,ppB]
theorem of_ok (H:HasQh C) (hone:∀ q:Q4,QIn q→∃ i:It,FnW C 422 [.agg (eQ q)]=some (eIt i)∧Good i) (q1 q2:List Q4) (e1 e2:Bool) (hq1:∀ x ∈ q1,QIn x) (hq2:∀ x ∈ q2,QIn x) (z1 z2:List Int) (f1 f2:Bool) (hz1:∀ s ∈ z1,0≤s∧s≤255) (hz2:∀ s ∈ z2,0≤s∧s≤255)
 (hl1:z1.length < 9223372036854775808) (hl2:z2.length < 9223372036854775808) (r r2:Int) (hr:0≤r∧r≤255) (w:List (Int × Int)) (we:Bool) (hw:∀ p ∈ w,0≤p.1∧∃ x:Nat,p.2=x∧x≤65535) :
 ∃ (R1 R2:List En) (g1 g2:Bool) (ra:List Hd) (ea:Bool) (ps:List Pl) (pe:Bool),LG r R1∧LG r R2∧StOk 96 ra ps∧FnW C 283 [.agg [.ro 4 (q1.map eQ) e1,.ro 1 (z1.map eU8) f1,.int .u8 r,.ro 4 (q2.map eQ) e2,.ro 1 (z2.map eU8) f2,.int .u8 r2,.ro 2 (w.map eW) we]] =
  some (.tup [.agg (cCf 100 1 1 (kindsOf r) true 12 65536 0),aSt ra ea ps pe,.agg [.ro 6 (R1.map eEn) g1,.ro 6 (R2.map eEn) g2]]):=by
 obtain ⟨R1,g1,h1,a1,a2,a3⟩:=lof_ok H.toHasG hone q1 e1 hq1 z1 f1 hz1 hl1 r hr
 obtain ⟨R2,g2,h2,b1,b2,b3⟩:=lof_ok H.toHasG hone q2 e2 hq2 z2 f2 hz2 hl2 r hr
 have L1:=LG.of_good hr a1 a2 a3
 have L2:=LG.of_good hr b1 b2 b3
 have h3:FnW C 296 [.agg (cCf 100 1 1 (kindsOf r) true 12 65536 0)]=some (aSt [] true [([],true),([],true),([],true)] false):=rempty_ok H 100 1 1 _ _ _ true 12 65536 0
 obtain ⟨ra,ea,ps,pe,S,h4⟩:=of_loop H L1 L2 g1 g2 q1 q2 e1 e2 z1 z2 f1 f2 w we hw (min w.length 8) 0 rfl [] true [([],true),([],true),([],true)] false ⟨by simp,rfl,by simp,by simp,by simp⟩
 refine ⟨R1,R2,g1,g2,ra,ea,ps,pe,L1,L2,S,?_⟩
 rw [fnW_eq H.f283 rfl]
 generalize kindsOf r=ks at *
 simp only [w283_K0] at h4
 simp [ofE,ofH] at h4
 simp [w283,H.toHasEq.inl,inlB,H.toHasEq.pp,ppB,h1,h2,h3,h4]
structure HasQw (C:WProg):Prop extends HasQh C where
 f613:C.fns.get 613=some w613
theorem hslaw_ok (H:HasQw C) (hl:FnW C 145 []=some (.bool true)) (q1 q2:List Q4) (e1 e2:Bool) (z1 z2:List Int) (f1 f2:Bool) (r1 r2:Int) (w:List (Int × Int)) (we:Bool) (q1' q2':List Q4) (e1' e2':Bool) (z1' z2':List Int) (f1' f2':Bool) (r1' r2':Int) (w':List (Int × Int)) (we':Bool)
 {ra rb:List Hd} {ea eb:Bool} {ps qs:List Pl} {pe qe:Bool} (Sa:StOk 96 ra ps) (Sb:StOk 96 rb qs) (ka kb:List Kd) (R1 R2 R3 R4:List En) (g1 g2 g3 g4:Bool)
 (ha:FnW C 283 [.agg [.ro 4 (q1.map eQ) e1,.ro 1 (z1.map eU8) f1,.int .u8 r1,.ro 4 (q2.map eQ) e2,.ro 1 (z2.map eU8) f2,.int .u8 r2,.ro 2 (w.map eW) we]]=some (.tup [.agg (cCf 100 1 1 ka true 12 65536 0),aSt ra ea ps pe,.agg [.ro 6 (R1.map eEn) g1,.ro 6 (R2.map eEn) g2]]))
 (hb:FnW C 283 [.agg [.ro 4 (q1'.map eQ) e1',.ro 1 (z1'.map eU8) f1',.int .u8 r1',.ro 4 (q2'.map eQ) e2',.ro 1 (z2'.map eU8) f2',.int .u8 r2',.ro 2 (w'.map eW) we']]=some (.tup [.agg (cCf 100 1 1 kb true 12 65536 0),aSt rb eb qs qe,.agg [.ro 6 (R3.map eEn) g3,.ro 6 (R4.map eEn) g4]])) :
 FnW C 613 [.agg [.ro 4 (q1.map eQ) e1,.ro 1 (z1.map eU8) f1,.int .u8 r1,.ro 4 (q2.map eQ) e2,.ro 1 (z2.map eU8) f2,.int .u8 r2,.ro 2 (w.map eW) we],.agg [.ro 4 (q1'.map eQ) e1',.ro 1 (z1'.map eU8) f1',.int .u8 r1',.ro 4 (q2'.map eQ) e2',.ro 1 (z2'.map eU8) f2',.int .u8 r2',.ro 2 (w'.map eW) we']]=some (.bool true):=by
 have i1:HdIn ra:=⟨by have:=Sa.rl;omega,fun x hx=>(Sa.q x hx).1⟩
 have i2:∀ p ∈ ps,HdIn p.1:=fun p hp=>⟨by have:=Sa.pb p hp;omega,fun x hx=>(Sa.qp p hp x hx).1⟩
 have hpl:=Sa.pl
 have k1:=hsame_ok H.toHasQs ra rb ea eb ps qs pe qe i1 (by omega) i2
 have k2:=rhsame_ok H.toHasQo ra rb ea eb ps qs pe qe i1 (by omega) i2
 have k3:=hlive_ok ra ea ps pe H.toHasQs i1.len (fun p hp=>(i2 p hp).len) (by omega)
 have k4:=rhlive_ok H.toHasQo ra ea ps pe i1.len (fun p hp=>(i2 p hp).len) (by omega)
 generalize live (ra::ps.map (·.1))=V at *
 rw [fnW_eq H.f613 rfl]
 cases c:sameH ra rb&&samePs ps qs
 · rw [c] at k1 k2
   rw [if_neg (by simp)] at k2
   simp [w613,H.toHasEq.inl,inlB,H.toHasEq.pp,ppB,ha,hb,k1,k2,k3,k4,hl]
 · rw [c] at k1 k2
   rw [if_pos rfl] at k2
   simp [w613,H.toHasEq.inl,inlB,H.toHasEq.pp,ppB,ha,hb,k1,k2,k3,k4,hl]
end Go.D
end
